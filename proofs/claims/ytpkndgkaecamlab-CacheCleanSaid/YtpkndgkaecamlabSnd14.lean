/- A part of the proof: Snd14. -/
import Derived.Test.YtpkndgkaecamlabSnd13
namespace Go.Mini

open Go.RowKit
set_option linter.unusedSimpArgs false
set_option linter.unusedVariables false

/-- What a piece of code leaves. -/
structure Left (φ : Nat → Option FuncId) (O : Nat → Prop) (nt : Nat) (cx : Cx) (β : Beta) (n0 : Nat) (w : World) (s1 : St) (β' : Beta) (a' : Act) (w' : World) : Prop where
  rel : Rel φ β' O nt cx s1 a' w'
  same : SameBut w w' O
  ext : Ext cx.lvl n0 β β'
  next : n0 ≤ s1.hp.next

def RegPost (φ : Nat → Option FuncId) (O : Nat → Prop) (nt : Nat) (cx : Cx) (β : Beta) (n0 : Nat) (w : World) (s1 : St) : Exit → Act → World → Prop
  | .normal, a', w' => ∃ β', Left φ O nt cx β n0 w s1 β' a' w'
  | _, _, _ => False

def TodoOk (P : Program) (φ : Nat → Option FuncId) (nt : Nat) (draw : Array Oper → List MOp → Bool) : List Item → List Go.Item → Prop
  | [], [] => True
  | .code c :: k, .code C :: kR => matchC P φ nt draw C c = true ∧ TodoOk P φ nt draw k kR
  | .inBlock i :: k, .inBlock j :: kR => i = j ∧ TodoOk P φ nt draw k kR
  | .inLoop _ _ c :: k, .inLoop C :: kR => matchC P φ nt draw C c = true ∧ TodoOk P φ nt draw k kR
  | _, _ => False

/-- The draw: what is asked of a region that draws its order. -/
def DrawSound (P : Program) (T : Nat → Option MFun) (φ : Nat → Option FuncId) (draw : Array Oper → List MOp → Bool) : Prop :=
  ∀ (n : Nat) (id : Nat) (ops : Array Oper) (l : List MOp) (β : Beta) (O : Nat → Prop) (nt : Nat) (cx : Cx) (tr : Nat → St) (a : Act) (w : World),
    (∀ m, m < n → CallSim P T φ draw m) → draw ops l = true → matchOps P φ nt ops ops.toList l = true → (∀ i (h : i < l.length), Step T n cx l[i] (tr i) (tr (i + 1))) → Rel φ β O nt cx (tr 0) a w →
    drawHead cx (tr 0) l = true → (Code.region id ops true).wp P (RegPost φ O nt cx β (tr 0).hp.next w (tr l.length)) a w

section
variable {φ : Nat → Option FuncId} {β : Beta} {P : Program} {O : Nat → Prop} {w w' : World} {look look' : Id → Option Blk} {nt : Nat} {cx : Cx} {s s' s1 : St} {a : Act} {T : Nat → Option MFun} {draw : Array Oper → List MOp → Bool}

theorem matchOps_get : ∀ {os : List Oper} {ms : List MOp} {ops : Array Oper}, matchOps P φ nt ops os ms = true → os.length = ms.length ∧ ∀ i (h : i < ms.length) (h' : i < os.length), matchOp P φ nt ops os[i] ms[i] = true
  | [], [], _, _ => ⟨rfl, fun i h => by simp at h⟩
  | [], _ :: _, _, h => by simp [matchOps] at h
  | _ :: _, [], _, h => by simp [matchOps] at h
  | o :: os, m :: ms, ops, h => by
    simp [matchOps] at h
    obtain ⟨hl, hg⟩ := matchOps_get h.2
    refine ⟨by simp [hl], fun i hi hi' => ?_⟩
    cases i with
    | zero => exact h.1
    | succ i => exact hg i (by simpa using hi) (by simpa using hi')

theorem Left.step {β' : Beta} {a' : Act} {w'' : World} {s2 : St} {n0 : Nat} {β'' : Beta} {a'' : Act} (h : Left φ O nt cx β n0 w s1 β' a' w') (hr : Rel φ β'' O nt cx s2 a'' w'') (hs : SameBut w' w'' O) (he : Ext cx.lvl s1.hp.next β' β'') (hn : s1.hp.next ≤ s2.hp.next) :
    Left φ O nt cx β n0 w s2 β'' a'' w'' := ⟨hr, h.same.trans hs, h.ext.trans he h.next, Nat.le_trans h.next hn⟩

/-- A region in the text's order. -/
theorem region_text {n : Nat} {id : Nat} {ops : Array Oper} {l : List MOp} {tr : Nat → St} (hT : TblOk P T φ draw) (ih : ∀ m, m < n → CallSim P T φ draw m) (hm : matchOps P φ nt ops ops.toList l = true)
    (hs : ∀ i (h : i < l.length), Step T n cx l[i] (tr i) (tr (i + 1))) (h : Rel φ β O nt cx (tr 0) a w) :
    (Code.region id ops false).wp P (RegPost φ O nt cx β (tr 0).hp.next w (tr l.length)) a w := by
  obtain ⟨hlen, hget⟩ := matchOps_get hm
  have hsz : ops.size = l.length := by simpa using hlen
  apply wp_region
  rw [List.range_eq_range', hsz]
  have key : ∀ d i a' w' β', i + d = l.length → Left φ O nt cx β (tr 0).hp.next w (tr i) β' a' w' → wpOps P ops (RegPost φ O nt cx β (tr 0).hp.next w (tr l.length)) (List.range' i d) a' w' := by
    intro d
    induction d with
    | zero =>
      intro i a' w' β' hi hL
      simp only [List.range'_zero, wpOps]
      have : i = l.length := by omega
      subst this
      exact ⟨β', hL⟩
    | succ d ihd =>
      intro i a' w' β' hi hL
      have hil : i < l.length := by omega
      have his : i < ops.size := by omega
      simp only [List.range'_succ, wpOps]
      have ho : ops[i]? = some ops[i] := Array.getElem?_eq_getElem his
      rw [ho]
      simp only
      have hmo := hget i hil (by simpa using his)
      have := step_sound (K := wpOps P ops (RegPost φ O nt cx β (tr 0).hp.next w (tr l.length)) (List.range' (i + 1) d)) (Q := RegPost φ O nt cx β (tr 0).hp.next w (tr l.length)) (ops := ops) hT ih hL.rel (hs i hil) (by simpa using hmo)
        fun a'' w'' β'' hr hsame hext hn => ihd (i + 1) a'' w'' β'' (by omega) (hL.step hr hsame hext hn)
      split
      · rename_i hw; rw [if_pos (by simpa using hw)] at this; exact .inl (by simpa using this)
      · rename_i hw; rw [if_neg (by simpa using hw)] at this; simpa using this
  exact key l.length 0 a w β (by omega) ⟨h, .refl, .refl, Nat.le_refl _⟩

theorem exitTo_ok {id : Nat} : ∀ {k k' : List Item} {kR : List Go.Item}, TodoOk P φ nt draw k kR → exitTo id k = some k' → ∃ kR', Go.exitTo id kR = some kR' ∧ TodoOk P φ nt draw k' kR'
  | [], k', kR, _, h => by simp [exitTo] at h
  | .ops .. :: _, _, kR, ht, h => by cases kR <;> simp [TodoOk] at ht
  | .code c :: k, k', kR, ht, h => by
    cases kR with
    | nil => simp [TodoOk] at ht
    | cons x kR =>
      cases x <;> simp [TodoOk] at ht
      simp only [exitTo] at h
      obtain ⟨kR', h1, h2⟩ := exitTo_ok ht.2 h
      exact ⟨kR', by simpa [Go.exitTo] using h1, h2⟩
  | .inLoop _ _ c :: k, k', kR, ht, h => by
    cases kR with
    | nil => simp [TodoOk] at ht
    | cons x kR =>
      cases x <;> simp [TodoOk] at ht
      simp only [exitTo] at h
      obtain ⟨kR', h1, h2⟩ := exitTo_ok ht.2 h
      exact ⟨kR', by simpa [Go.exitTo] using h1, h2⟩
  | .inBlock i :: k, k', kR, ht, h => by
    cases kR with
    | nil => simp [TodoOk] at ht
    | cons x kR =>
      cases x <;> simp [TodoOk] at ht
      obtain ⟨rfl, ht⟩ := ht
      simp only [exitTo] at h
      split at h
      · rename_i he
        simp at h
        subst h
        exact ⟨kR, by simp [Go.exitTo, he], ht⟩
      · rename_i he
        obtain ⟨kR', h1, h2⟩ := exitTo_ok ht h
        exact ⟨kR', by simpa [Go.exitTo, he] using h1, h2⟩

theorem Rel_kill {l : List Nat} (h : Rel φ β O nt cx s a w) : Rel φ β O nt cx (s.kill l) a w :=
  ⟨fun t => by
    simp only [St.kill, Slots.get_without]
    split
    · exact VR_bot
    · exact h.slots t, h.mem, h.dom, h.top, h.fresh, h.defers, h.size⟩

theorem Rel_keep {l o : List Nat} (h : Rel φ β O nt cx s a w) : Rel φ β O nt cx (s.keep l o) a w :=
  ⟨fun t => by
    simp only [St.keep, Slots.get_only]
    split
    · exact h.slots t
    · exact VR_bot, HR_mono h.mem (fun i b hb => by
      simp only [St.look, St.keep] at hb ⊢
      split at hb
      · rw [Own.get_only] at hb
        split at hb
        · exact hb
        · simp at hb
      · exact hb), h.dom, h.top, h.fresh, h.defers, h.size⟩
end
end Go.Mini
