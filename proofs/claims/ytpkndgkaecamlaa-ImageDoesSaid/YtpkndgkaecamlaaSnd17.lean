/- A part of the proof: Snd17. -/
import Derived.Test.YtpkndgkaecamlaaSnd16
namespace Go.Mini
open Go.RowKit
set_option linter.unusedSimpArgs false
set_option linter.unusedVariables false

/-! The top: a law's run from its arguments. -/

def Ty.kinds : Ty → List LK
  | .leaf k => [k]
  | .arr n t => (List.replicate n t.kinds).flatten
  | .unit => []
  | .cons a b => a.kinds ++ b.kinds

/-- Integers fit their kind, texts are not too long. -/
def AV.ranged : AV → Prop
  | .int k n => k.has n
  | .str s => (s.size : Int) ≤ IntKind.i64.max
  | .cons a b => a.ranged ∧ b.ranged
  | .arr _ f => ∀ i, (f i).ranged
  | _ => True

def okCell : LK → Value → Prop
  | .bool, x => ∃ b, x = .bool b
  | .int k, x => ∃ n, x = .int k n ∧ k.has n
  | .str, x => ∃ s, x = .string s ∧ (s.size : Int) ≤ IntKind.i64.max
  | _, _ => False

def kindOf : Option TypeDesc → Option LK
  | some .bool => some .bool
  | some .string => some .str
  | some (.int k) => some (.int k)
  | _ => none

section
variable {φ : Nat → Option FuncId} {β : Beta} {P : Program} {T : Nat → Option MFun} {draw : Array Oper → List MOp → Bool}

theorem okCell_leaf {k : LK} {x : Value} (h : okCell k x) : ∃ v, k.fits v = true ∧ v.safe = true ∧ v.isAgg = false ∧ LR φ β v x ∧ v.ranged := by
  cases k <;> simp only [okCell] at h
  · obtain ⟨b, rfl⟩ := h; exact ⟨.bool b, rfl, rfl, rfl, rfl, trivial⟩
  · obtain ⟨n, rfl, hn⟩ := h; exact ⟨.int _ n, by simp [LK.fits], rfl, rfl, rfl, hn⟩
  · obtain ⟨s, rfl, hs⟩ := h; exact ⟨.str s, rfl, rfl, rfl, rfl, hs⟩

theorem build_arr {t : Ty} (ih : ∀ cs : List Value, All2 okCell t.kinds cs → ∃ v, t.fits v = true ∧ All2 (LR φ β) v.flat cs ∧ v.ranged) : ∀ (n : Nat) (cs : List Value), All2 okCell (List.replicate n t.kinds).flatten cs →
    ∃ l : List AV, l.length = n ∧ (∀ v ∈ l, t.fits v = true ∧ v.ranged) ∧ All2 (LR φ β) (l.flatMap AV.flat) cs
  | 0, cs, h => by
    have := h.1
    simp at this
    cases cs with
    | nil => exact ⟨[], rfl, by simp, All2.nil⟩
    | cons => simp at this
  | n + 1, cs, h => by
    simp only [List.replicate_succ, List.flatten_cons] at h
    obtain ⟨a, b, rfl, ha, hb⟩ : ∃ a b, cs = a ++ b ∧ All2 okCell t.kinds a ∧ All2 okCell (List.replicate n t.kinds).flatten b := by
      have h1 := h.seg 0 t.kinds.length
      have h2 := h.seg t.kinds.length cs.length
      have hl := h.1
      rw [List.length_append] at hl
      refine ⟨cs.take t.kinds.length, cs.drop t.kinds.length, (List.take_append_drop _ _).symm, ?_, ?_⟩
      · simpa using h1
      · rw [List.drop_left, List.take_of_length_le (by omega), List.take_of_length_le (by rw [List.length_drop]; omega)] at h2
        exact h2
    obtain ⟨v, hv, hvl, hvr⟩ := ih a ha
    obtain ⟨l, hl, hlf, hll⟩ := build_arr ih n b hb
    refine ⟨v :: l, by simp [hl], fun w hw => ?_, ?_⟩
    · rcases List.mem_cons.1 hw with rfl | hw
      · exact ⟨hv, hvr⟩
      · exact hlf w hw
    · simp only [List.flatMap_cons]
      exact hvl.append hll

theorem arr_flat (l : List AV) : (AV.ofList l).flat = l.flatMap AV.flat := by
  simp only [AV.ofList, AV.flat]
  have h : (List.finRange l.length).map l.get = l := List.ext_getElem (by simp) (by simp)
  have h2 : ((List.finRange l.length).map l.get).flatMap AV.flat = (List.finRange l.length).flatMap fun i => (l.get i).flat := List.flatMap_map ..
  rw [← h2, h]

/-- Every row of fitting cells is a value's. -/
theorem build : ∀ (t : Ty) (cs : List Value), All2 okCell t.kinds cs → ∃ v, t.fits v = true ∧ All2 (LR φ β) v.flat cs ∧ v.ranged
  | .leaf k, cs, h => by
    have hl := h.1
    simp only [Ty.kinds, List.length_singleton] at hl
    match cs, hl with
    | [x], _ =>
      obtain ⟨v, h1, h2, h3, h4, h5⟩ := okCell_leaf (φ := φ) (β := β) h.head
      refine ⟨v, by simp [Ty.fits, h1, h2], ?_, h5⟩
      rw [(LK.fits_flat h1).1]
      exact All2.cons h4 All2.nil
  | .unit, cs, h => by
    have hl := h.1
    simp only [Ty.kinds, List.length_nil] at hl
    match cs, hl with
    | [], _ => exact ⟨.unit, rfl, All2.nil, trivial⟩
  | .cons a b, cs, h => by
    simp only [Ty.kinds] at h
    have h1 := h.seg 0 a.kinds.length
    have h2 := h.seg a.kinds.length b.kinds.length
    have hl := h.1
    simp only [List.length_append] at hl
    obtain ⟨v, hv, hvl, hvr⟩ := build a (cs.take a.kinds.length) (by simpa using h1)
    obtain ⟨w, hw, hwl, hwr⟩ := build b (cs.drop a.kinds.length) (by
      rw [List.drop_left, List.take_length] at h2
      rw [List.take_of_length_le (by simp; omega)] at h2
      exact h2)
    refine ⟨.cons v w, by simp [Ty.fits, hv, hw], ?_, hvr, hwr⟩
    rw [← List.take_append_drop a.kinds.length cs]
    exact hvl.append hwl
  | .arr n t, cs, h => by
    obtain ⟨l, hl, hlf, hll⟩ := build_arr (t := t) (fun cs h => build t cs h) n cs h
    subst hl
    refine ⟨.ofList l, ?_, by rw [arr_flat]; exact hll, fun i => (hlf _ (List.get_mem ..)).2⟩
    simp only [AV.ofList, Ty.fits, beq_self_eq_true, Bool.true_and, List.all_eq_true]
    exact fun i _ => (hlf _ (List.get_mem ..)).1

/-- A value that a law is handed: of a shape without pointers. -/
def Given (φ : Nat → Option FuncId) (β : Beta) (t : Ty) (v : AV) (x : Value) : Prop := t.fits v = true ∧ v.ranged ∧ VR φ β v x

theorem cell_ok {w : World} {r : Reach} {b : Nat} {u : TypeId} {x : Value} {k : LK} (hk : kindOf (P.underlying u) = some k) (h : Cell.okWide P w r b u x) : okCell k x := by
  unfold kindOf at hk
  unfold Cell.okWide Cell.ok at h
  split at hk <;> simp at hk <;> subst hk <;> rename_i hu <;> simp only [hu] at h
  · cases x <;> simp at h; exact ⟨_, rfl⟩
  · cases x <;> simp at h; exact ⟨_, rfl, h⟩
  · cases x <;> simp at h
    obtain ⟨rfl, h⟩ := h
    exact ⟨_, rfl, h⟩

/-- An argument of an aggregate type without pointers. -/
theorem given_agg {t : Ty} {U : TypeId} {ts : List TypeId} {w : World} {r : Reach} {b : Nat} {x : Value} (hts : P.cellTypes P.depth U = some ts) (hk : (ts.map fun u => kindOf (P.underlying u)) = t.kinds.map some)
    (ha : t.isAgg = true) (hu : (∃ fs, P.underlying U = some (.struct fs)) ∨ ∃ n e, P.underlying U = some (.array n e)) (hc : P.cellsOf U = t.kinds.length) (h : Value.okWide P w r b U x) : ∃ v, Given φ β t v x := by
  have h' : ∃ cs : Array Value, x = .agg cs ∧ cs.size = P.cellsOf U ∧ Row.okWide P w r b U cs := by
    unfold Value.okWide at h
    rcases hu with ⟨fs, hu⟩ | ⟨n, e, hu⟩ <;> rw [hu] at h <;> exact h
  obtain ⟨cs, rfl, hsz, ts', hts', _, hrow⟩ := h'
  rw [hts] at hts'
  obtain rfl := Option.some.inj hts'
  have hlen : ts.length = t.kinds.length := by simpa using congrArg List.length hk
  obtain ⟨v, hf, hl, hr⟩ := build (φ := φ) (β := β) t cs.toList ⟨by simp [hsz, hc], fun i k y hi hy => by
    obtain ⟨u, hu, hcell⟩ := hrow i y (by simpa using hy)
    have hi' : i < t.kinds.length := by
      rcases Nat.lt_or_ge i t.kinds.length with h | h
      · exact h
      · rw [List.getElem?_eq_none h] at hi; simp at hi
    rw [Nat.mod_eq_of_lt (by omega)] at hu
    refine cell_ok (u := u) ?_ hcell
    have := congrArg (fun l => l[i]?) hk
    simp only [List.getElem?_map, hu, hi, Option.map] at this
    simpa using this⟩
  refine ⟨v, hf, hr, VR_of_VR1 ?_⟩
  unfold VR1
  rw [if_pos (by rw [Ty.fits_isAgg hf]; exact ha)]
  exact ⟨Ty.fits_safe hf, cs.toList, by simp, hl⟩

/-- An argument that is one cell. -/
theorem given_leaf {k : LK} {U : TypeId} {w : World} {r : Reach} {b : Nat} {x : Value} (hk : kindOf (P.underlying U) = some k) (h : Value.okWide P w r b U x) : ∃ v, Given φ β (.leaf k) v x := by
  have hc : Cell.okWide P w r b U x := by
    unfold Value.okWide at h
    unfold kindOf at hk
    split at hk <;> simp at hk <;> rename_i hu <;> rw [hu] at h <;> exact h
  obtain ⟨v, h1, h2, h3, h4, h5⟩ := okCell_leaf (φ := φ) (β := β) (cell_ok hk hc)
  exact ⟨v, by simp [Ty.fits, h1, h2], h5, VR_of_VR1 (by simp only [VR1, h3, Bool.false_eq_true, if_false]; exact h4)⟩

/-- A law's run. -/
theorem law_run {φ : Nat → Option FuncId} {fuel F f : Nat} {fn : MFun} {args : List AV} {rargs : List Value} {v : AV} {hp : HP} (hT : TblOk P T φ drawOk) (hmo : P.follows .mixedOrders = true) (hf : T f = some fn) (hF : φ f = some F) (hfree : fn.nfree = 0)
    (hrun : runFn T fuel f args HP.empty = some (v, hp)) (hlen : args.length = fn.params) (ha : All2 (VR φ (fun _ => none)) args rargs) (W : World) :
    Calls P F rargs.toArray W fun e W' => (∃ x β', e = .returned x ∧ VR φ β' v x) ∧ Below W.heap.size W W' := by
  unfold runFn at hrun
  rw [hf] at hrun
  simp only at hrun
  cases hr : run T fuel ⟨0, ⟨0, 0⟩⟩ [.code fn.body] (St.enter args HP.empty) with
  | none => simp [hr] at hrun
  | some s2 =>
    simp only [hr, Option.map_eq_some_iff] at hrun
    obtain ⟨v', hv, he⟩ := hrun
    simp at he
    obtain ⟨rfl, _⟩ := he
    have hno : ∀ i, HP.empty.look i = none := by intro i; cases i <;> rfl
    have := callSim hT (drawSound hT hmo) fuel ⟨0, ⟨0, 0⟩⟩ fn F args HP.empty s2 v' (fun _ => none) (fun r => W.heap.size ≤ r) rargs W (hT f fn F hf hF) hr hv (by simp [hlen, hfree]) ha
      ⟨fun i b hb => by rw [hno] at hb; simp at hb, fun i j bi bj pi pj hi => by rw [hno] at hi; simp at hi⟩ (fun i pl h => by simp at h) (fun _ _ => rfl) (fun r h => h)
    refine this.mono fun e W' h => ?_
    obtain ⟨x, β', rfl, hvx, _, hA⟩ := h
    exact ⟨⟨x, β', rfl, hvx⟩, hA.same.os, hA.same.tape, hA.same.output, hA.same.size, fun k hk => hA.same.block k hk (by omega)⟩
end
end Go.Mini
