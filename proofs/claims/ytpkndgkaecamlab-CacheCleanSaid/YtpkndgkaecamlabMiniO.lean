/- A part of the proof: MiniO. -/
import Derived.Test.YtpkndgkaecamlabMiniN
namespace Go.Mini
set_option linter.unusedSimpArgs false
set_option linter.unusedVariables false
set_option maxHeartbeats 4000000
set_option maxRecDepth 100000

@[go_sem] theorem aidxV_encVi {α : Type} {f : α → AV} {n : Nat} {t : Ty} {v : Vector α n} {k : IntKind} {z : Int} (h0 : 0 ≤ z) (hm : z.toNat < n) : aidxV n t (encV f v) (.int k z) = if (Ty.arr n t).fits (encV f v) = true then some (f (v[z.toNat]'hm)) else none := by
  simp only [encV, aidxV, toIx]
  rw [dif_pos ⟨h0, by omega⟩]
  rfl
/-! Slices of numbers. -/
def encL (l : List Int) : AV := .ofList (l.map (AV.int .i64))
theorem encL_toList (l : List Int) : (encL l).toList = some (l.map (AV.int .i64)) := by
  simp only [encL, AV.ofList, AV.toList]
  congr 1
  exact List.ext_getElem (by simp) (by simp)
theorem encL_fits (l : List Int) {n : Nat} (h : n = l.length) : (Ty.arr n tI).fits (encL l) = true := by
  subst h
  simp [encL, AV.ofList, Ty.fits, tI, LK.fits, AV.safe]
theorem encL_at (l : List Int) {i : Nat} (h : i < l.length) : (encL l).at [i] = some (.int .i64 l[i]) := by
  simp [encL, AV.ofList, AV.at, h]
theorem ofList_map (l : List Int) : AV.ofList (l.map (AV.int .i64)) = encL l := rfl
section
variable {T : Nat → Option MFun} {cx : Cx} {k : List Item} {kill : List Nat} {r : List MOp} {sl : Slots} {own : Own} {h : HP} {Q : St → Prop}
def sidxB (t : Ty) (j : Id) (o : Nat) (b : Option Blk) : Option AV := match b with
  | some ⟨.arr _ t', _⟩ => if t = t' then some (.ptr j [o] t) else none
  | _ => none
@[go_sem] theorem sidxB_some (t : Ty) (j : Id) (o n : Nat) (v : AV) : sidxB t j o (some ⟨.arr n t, v⟩) = some (.ptr j [o] t) := by simp [sidxB]
def sidxV (t : Ty) (x i : AV) (L : Id → Option Blk) : Option AV := match x, toIx i with
  | .sl j off len, some z => if 0 ≤ z ∧ z < (len : Int) then sidxB t j (off + z.toNat) (L j) else none
  | _, _ => none
@[go_sem] theorem sidxV_nat {t : Ty} {j : Id} {off len m : Nat} {kk : IntKind} {L : Id → Option Blk} (hm : m < len) : sidxV t (.sl j off len) (.int kk (m : Int)) L = sidxB t j (off + m) (L j) := by
  simp only [sidxV, toIx]; rw [if_pos ⟨by omega, by omega⟩]; rfl
@[go_sem] theorem W_sidx {d : Option Nat} {t : Ty} {x i : Opd} {s : St} : W T cx (.ops (⟨d, .sidx false t x i, none⟩ :: r) kill :: k) s Q = W1 T cx (sidxV t (s.opd x) (s.opd i) (s.look cx)) d r kill k s Q :=
  W_val rfl (by
    simp only [evK, sidxV]
    cases s.opd x <;> try rfl
    cases toIx (s.opd i) <;> try rfl
    rename_i j off len z
    simp only [Bool.false_eq_true, false_implies, and_true]
    by_cases hz : 0 ≤ z ∧ z < (len : Int)
    · rw [if_pos hz, if_pos hz]
      cases s.look cx j with
      | none => rfl
      | some b =>
        obtain ⟨bt, bv⟩ := b
        cases bt <;> try rfl
        simp only [sidxB]
        split <;> rfl
    · rw [if_neg hz, if_neg hz]; rfl)
@[go_sem] theorem look_own {d : Nat} : St.look cx ⟨sl, own, h⟩ (.stk cx.lvl d) = own.get d := by simp [St.look, Id.own]
theorem look_ext {i : Id} (hi : i.below cx.lvl) : St.look cx ⟨sl, own, h⟩ i = h.look i := by simp [St.look, below_own hi]
theorem HP.push_look_own {d : Nat} : (h.push cx.lvl own).look (.stk cx.lvl d) = own.get d := by simp [HP.look, HP.push]
@[go_sem] theorem fg_slown (l s t o n : Nat) : fg (.sl (.stk l s) o n) (.stk l t) = if t = s then .bot else .sl (.stk l s) o n := by
  simp only [fg, AV.leads, AV.isAgg, AV.names, Bool.not_false, Bool.true_and, beq_iff_eq, Id.stk.injEq, true_and]
theorem fg_sl {i : Id} {l t : Nat} (hb : i.below l) (o n : Nat) : fg (.sl i o n) (.stk l t) = .sl i o n := by
  have : (Id.stk l t == i) = false := by simpa using fun e : Id.stk l t = i => hb.ne e.symm
  simp [fg, AV.leads, AV.isAgg, AV.names, this]

def WB (T : Nat → Option MFun) (cx : Cx) (v : AV) (d : Nat) (r : List MOp) (kill : List Nat) (k : List Item) (sl : Slots) (own : Own) (h : HP) (Q : St → Prop) : Prop :=
  onO (fill (.arr 1 tI) (Ty.arr 1 tI).zero [(0, v)]) fun w => W T cx (.ops r kill :: k) ⟨(Slots.forget sl (.stk cx.lvl d)).set d (.sl (.stk cx.lvl d) 0 1), own.set d ⟨.arr 1 tI, w⟩, h⟩ Q
theorem fill1 (n : Int) : fill (.arr 1 tI) (Ty.arr 1 tI).zero [(0, .int .i64 n)] = some (encL [n]) := by
  simp only [fill, Ty.part, Nat.lt_one_iff, if_true, fits_tI, Ty.zero, AV.put, Nat.zero_lt_one, dite_true, put_nil, Option.map_some, encL, AV.ofList]
  congr 2
  funext j
  match j with
  | ⟨0, _⟩ => rfl
@[go_sem] theorem WB_int {n : Int} {d : Nat} : WB T cx (.int .i64 n) d r kill k sl own h Q = W T cx (.ops r kill :: k) ⟨(Slots.forget sl (.stk cx.lvl d)).set d (.sl (.stk cx.lvl d) 0 1), own.set d ⟨.arr 1 tI, encL [n]⟩, h⟩ Q := by
  simp only [WB, fill1, onO]
@[go_sem] theorem W_bslice1 {d : Nat} {x : Opd} : W T cx (.ops (⟨some d, .bslice false tI 1 [(0, x)], none⟩ :: r) kill :: k) ⟨sl, own, h⟩ Q = WB T cx (St.opd ⟨sl, own, h⟩ x) d r kill k sl own h Q := by
  rw [W_op rfl, evOp]
  simp only [evK, WB, List.map_cons, List.map_nil]
  cases fill (.arr 1 tI) (Ty.arr 1 tI).zero [(0, St.opd ⟨sl, own, h⟩ x)] <;> rfl

def WA (T : Nat → Option MFun) (cx : Cx) (x : AV) (add : Option (List AV)) (d : Nat) (r : List MOp) (kill : List Nat) (k : List Item) (sl : Slots) (own : Own) (h : HP) (Q : St → Prop) : Prop :=
  onO add fun add => onO (evAppend (St.look cx ⟨sl, own, h⟩) tI x add) fun e => onO (applyEff cx (some d) false ⟨sl, own, h⟩ e) fun p => W T cx (.ops r kill :: k) (p.2.setd (some d) p.1) Q
@[go_sem] theorem W_append {d : Nat} {x y : Opd} : W T cx (.ops (⟨some d, .append false tI x y, none⟩ :: r) kill :: k) ⟨sl, own, h⟩ Q = WA T cx (St.opd ⟨sl, own, h⟩ x) (elems (St.look cx ⟨sl, own, h⟩) tI (St.opd ⟨sl, own, h⟩ y)) d r kill k sl own h Q := by
  rw [W_op rfl, evOp]
  simp only [evK, WA]
  cases elems (St.look cx ⟨sl, own, h⟩) tI (St.opd ⟨sl, own, h⟩ y) with
  | none => rfl
  | some add =>
    simp only [onO_some]
    cases evAppend (St.look cx ⟨sl, own, h⟩) tI (St.opd ⟨sl, own, h⟩ x) add <;> rfl
def elemsB (b : Option Blk) (len : Nat) : Option (List AV) := match b with
  | some ⟨.arr _ t', v⟩ => match v.toList with
      | some l => if tI = t' ∧ len ≤ l.length then some (l.take len) else none
      | none => none
  | _ => none
@[go_sem] theorem elems_sl (L : Id → Option Blk) (j : Id) (len : Nat) : elems L tI (.sl j 0 len) = elemsB (L j) len := by
  simp only [elems, elemsB, Nat.zero_add, List.drop_zero]
  cases L j with
  | none => rfl
  | some b => obtain ⟨bt, bv⟩ := b; cases bt <;> rfl
@[go_sem] theorem elemsB_one (n : Int) : elemsB (some ⟨.arr 1 tI, encL [n]⟩) 1 = some [.int .i64 n] := by
  simp [elemsB, encL_toList]
@[go_sem] theorem WA_nil {n : Int} {d : Nat} : WA T cx .nilsl (some [.int .i64 n]) d r kill k sl own h Q =
    W T cx (.ops r kill :: k) ⟨(Slots.forget sl (.stk cx.lvl d)).set d (.sl (.stk cx.lvl d) 0 1), own.set d ⟨.arr 1 tI, encL [n]⟩, h⟩ Q := by
  have hf := encL_fits [n] (n := 1) rfl
  simp only [WA, onO_some, evAppend, List.length_cons, List.length_nil, Nat.zero_add]
  rw [if_neg (by omega), if_pos ⟨hf, by omega⟩]
  rfl
theorem WA_grow {d len : Nat} {n : Int} {l : List Int} (hb : own.get d = some ⟨.arr len tI, encL l⟩) (hl : l.length = len) (hm : len + 1 ≤ 1048576) : WA T cx (.sl (.stk cx.lvl d) 0 len) (some [.int .i64 n]) d r kill k sl own h Q =
    W T cx (.ops r kill :: k) ⟨(Slots.forget sl (.stk cx.lvl d)).set d (.sl (.stk cx.lvl d) 0 (len + 1)), (own.rid d).set d ⟨.arr (len + 1) tI, encL (l ++ [n])⟩, h⟩ Q := by
  have hf := encL_fits (l ++ [n]) (n := len + 1) (by simp [hl])
  have e : List.map (AV.int .i64) (l ++ [n]) = (List.map (AV.int .i64) l).take len ++ [.int .i64 n] := by
    rw [List.map_append, List.take_of_length_le (by simp [hl])]; rfl
  simp only [encL, e] at hf ⊢
  simp only [WA, onO_some, evAppend, look_own, hb, encL_toList, List.length_map, List.length_cons, List.length_nil, Nat.zero_add, List.drop_zero, if_true]
  rw [if_neg (by omega), if_pos (by omega), if_pos ⟨hf, hm⟩]
  simp only [onO_some, applyEff, St.drop, Id.own, if_true, Option.map_some]
  rfl
@[go_sem] theorem rid_nil (t : Nat) : Own.rid [] t = [] := rfl
@[go_sem] theorem rid_cons (t u : Nat) (v : Blk) (s : Own) : Own.rid ((t, v) :: s) u = if t = u then Own.rid s u else (t, v) :: Own.rid s u := rfl
/-- A slice of numbers, and what it holds. -/
def SlI (L : Id → Option Blk) (y : AV) (l : List Int) : Prop := (y = .nilsl ∧ l = []) ∨ ∃ p n k, y = .sl p 0 k ∧ k = l.length ∧ p.below cx.lvl ∧ L p = some ⟨.arr n tI, encL l⟩
theorem Index_ok {y : AV} {l : List Int} {x : Int} (hl : l.length ≤ 1048576) (hy : SlI (cx := cx) h.look y l) :
    Ok tbl cx Fn.slices_Index (St.enter [y, .int .i64 x] h) fun v h' => v = .int .i64 (findN l.length fun i => decide (x = l.getD i 0)) ∧ h' = h := by
  rw [Ok_eq]
  obtain ⟨rfl, rfl⟩ | ⟨p, n, _, rfl, rfl, hb, hp⟩ := hy
  · simp (config := { maxSteps := 1000000 }) (disch := omega) only [go_sem, W_round, W_again]
    rfl
  · simp (config := { maxSteps := 1000000 }) (disch := omega) only [go_sem]
    refine W_forP l.length (fun j => ⟨[(0, .sl p 0 l.length), (1, .int .i64 x), (7, .int .i64 l.length), (8, .int .i64 j)], [], h⟩) (fun j => ∀ i, i < j → decide (x = l.getD i 0) = false) (by simp only [go_sem] <;> rfl) (fun i hi => by omega) fun j hj hq ih => ?_
    by_cases hlt : j < l.length
    · have hrd : h.rd p [j] = some (.int .i64 (l.getD j 0)) := by
        simp only [HP.rd, hp, Option.bind_some, encL_at l hlt]
        simp [hlt]
      simp (config := { maxSteps := 1000000 }) (disch := omega) only [go_sem, hlt, look_ext hb, hp, rd_ext hb, hrd]
      by_cases h1 : x = l.getD j 0
      · simp (config := { maxSteps := 1000000 }) (disch := omega) only [go_sem, h1]
        rw [findN_at (j := j) (fun i hi => by rw [← h1]; exact hq i hi) (by simp) hlt]
      · simp (config := { maxSteps := 1000000 }) (disch := omega) only [go_sem, h1]
        refine ih _ hlt (step_all hq (by simpa using h1)) ?_
        simp only [go_sem]
    · obtain rfl : j = l.length := by omega
      simp (config := { maxSteps := 1000000 }) (disch := omega) only [go_sem]
      rw [findN_none hq]
theorem Contains_ok {y : AV} {l : List Int} {x : Int} (hl : l.length ≤ 1048576) (hy : SlI (cx := cx) h.look y l) :
    Ok tbl cx Fn.slices_Contains (St.enter [y, .int .i64 x] h) fun v h' => v = .bool (l.contains x) ∧ h' = h := by
  rw [Ok_eq]
  simp (config := { maxSteps := 1000000 }) (disch := omega) only [go_sem]
  refine W_callp rfl ⟨rfl, rfl⟩ (by
    simp only [go_sem]
    refine Index_ok (l := l) hl ?_
    obtain ⟨rfl, rfl⟩ | ⟨p, n, _, rfl, rfl, hb, hp⟩ := hy
    · exact .inl ⟨rfl, rfl⟩
    · refine .inr ⟨p, n, _, rfl, rfl, hb.succ, ?_⟩
      rw [← hp]
      cases p <;> simp only [HP.look, HP.push]
      simp only [Id.below] at hb
      rw [if_neg (by omega)]) ?_
  simp (config := { maxSteps := 1000000 }) (disch := omega) only [go_sem]
  congr 1
  rw [Bool.eq_iff_iff, decide_eq_true_eq, List.contains_iff_mem]
  constructor
  · intro h0
    obtain e | ⟨j, hj, e, h1, _⟩ := findN_lt (n := l.length) (f := fun i => decide (x = l.getD i 0))
    · omega
    · have : x = l.getD j 0 := by simpa using h1
      rw [this]; simp [hj]
  · intro hm
    obtain ⟨j, hj, e⟩ := List.getElem_of_mem hm
    obtain h1 | ⟨j', hj', e', h1, _⟩ := findN_lt (n := l.length) (f := fun i => decide (x = l.getD i 0))
    · have h2 := findN_neg h1 j hj
      simp [hj, e] at h2
    · omega
end
end Go.Mini
