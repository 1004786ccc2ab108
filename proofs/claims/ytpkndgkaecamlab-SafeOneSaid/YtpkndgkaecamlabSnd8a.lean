/- A part of the proof: Snd8a. -/
import Derived.Test.YtpkndgkaecamlabSnd7
namespace Go.Mini
open Go.RowKit
set_option linter.unusedSimpArgs false
set_option linter.unusedVariables false

section
variable {φ : Nat → Option FuncId} {β : Beta} {P : Program} {O : Nat → Prop} {w : World} {look : Id → Option Blk}

/-- The world but for some blocks. -/
structure SameBut (w w' : World) (p : Nat → Prop) : Prop where
  os : w'.os = w.os
  tape : w'.tape = w.tape
  output : w'.output = w.output
  size : w.heap.size ≤ w'.heap.size
  block : ∀ r, r < w.heap.size → ¬ p r → w'.heap[r]? = w.heap[r]?

/-- A block lies at a place. -/
def Laid (φ : Nat → Option FuncId) (β : Beta) (b : Blk) (w : World) (pl : Place) : Prop :=
  ∃ (cs : Array Value) (T : TypeId), w.heap[pl.r]? = some (.cells cs T (0, 0)) ∧ pl.base + pl.room ≤ cs.size ∧ b.ty.size ≤ pl.room ∧ pl.ty = b.ty ∧ b.ty.fits b.val = true ∧
    ∀ k c, b.val.flat[k]? = some c → ∃ x, cs[pl.base + k]? = some x ∧ LR φ β c x

def ValAt (sl : Option Nat) (b : Blk) (pl : Place) (x : Value) : Prop :=
  match sl with
  | none => x = .pointer (some ⟨pl.r, pl.base, none⟩)
  | some n => ∃ t cap, b.ty = .arr n t ∧ n ≤ cap ∧ cap * t.size ≤ pl.room ∧ x = .slice (some ⟨pl.r, pl.base, none⟩) n cap

def Next.val : Next → Option Value
  | .value x => some x
  | .skip => some undef
  | _ => none

/-- What an effect comes to. -/
def EffOk (φ : Nat → Option FuncId) (β : Beta) (look : Id → Option Blk) (w w' : World) (x : Value) : Eff → Prop
  | .val v => VR φ β v x ∧ w' = w
  | .new sl b => ∃ pl, Laid φ β b w' pl ∧ pl.r = w.heap.size ∧ pl.base = 0 ∧ ValAt sl b pl x ∧ w.heap.size < w'.heap.size ∧ SameBut w w' (fun _ => False)
  | .wr i b v => ∃ pl old, look i = some old ∧ old.ty = b.ty ∧ β i = some pl ∧ Laid φ β b w' pl ∧ VR φ β v x ∧ SameBut w w' (fun r => r = pl.r)
  | .grow j b n => ∃ pl plj old, look j = some old ∧ β j = some plj ∧ Laid φ β b w' pl ∧ (pl.r = plj.r ∨ pl.r = w.heap.size) ∧ ValAt (some n) b pl x ∧ SameBut w w' (fun r => r = plj.r)

/-- May the effect be had of a block that came in? No. -/
def Eff.lets : Eff → Prop
  | .wr i _ _ => i.isArg = false
  | .grow j _ _ => j.isArg = false
  | _ => True

end
end Go.Mini
