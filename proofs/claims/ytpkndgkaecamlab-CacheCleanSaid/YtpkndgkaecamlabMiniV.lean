/- A part of the proof: MiniV. -/
import Derived.Test.YtpkndgkaecamlabMiniU
namespace Go.Mini
set_option linter.unusedSimpArgs false
set_option linter.unusedVariables false
set_option maxHeartbeats 4000000
set_option maxRecDepth 100000

/-! What was lost. -/
def encLost (a b c : Int) : AV := .cons (.int .i64 a) (.cons (.int .i64 b) (.cons (.int .i64 c) .unit))
@[go_sem] theorem at_lost0 (a b c : Int) : (encLost a b c).at [0] = some (.int .i64 a) := rfl
@[go_sem] theorem at_lost1 (a b c : Int) : (encLost a b c).at [1] = some (.int .i64 b) := rfl
@[go_sem] theorem at_lost2 (a b c : Int) : (encLost a b c).at [2] = some (.int .i64 c) := rfl
@[go_sem] theorem put_lost0 (a b c x : Int) : (encLost a b c).put [0] (.int .i64 x) = some (encLost x b c) := rfl
@[go_sem] theorem put_lost1 (a b c x : Int) : (encLost a b c).put [1] (.int .i64 x) = some (encLost a x c) := rfl
@[go_sem] theorem put_lost2 (a b c x : Int) : (encLost a b c).put [2] (.int .i64 x) = some (encLost a b x) := rfl
@[go_sem] theorem fits_lost (a b c : Int) : (tLost.fits (encLost a b c) = true) = True := eq_true rfl
@[go_sem] theorem zero_lost : tLost.zero = encLost 0 0 0 := rfl
@[go_sem] theorem fill_lost3 (a b c : Int) : fill tLost (encLost 0 0 0) [(0, .int .i64 a), (1, .int .i64 b), (2, .int .i64 c)] = some (encLost a b c) := rfl
@[go_sem] theorem fill_lost2 (b c : Int) : fill tLost (encLost 0 0 0) [(1, .int .i64 b), (2, .int .i64 c)] = some (encLost 0 b c) := rfl
@[go_sem] theorem field_lost0 : tLost.field 0 = some tI := rfl
@[go_sem] theorem field_lost1 : tLost.field 1 = some tI := rfl
@[go_sem] theorem field_lost2 : tLost.field 2 = some tI := rfl
@[go_sem] theorem fg_lost (a b c : Int) (i : Id) : fg (encLost a b c) i = encLost a b c := rfl
@[go_sem] theorem leads_lost (a b c : Int) (i : Id) : (encLost a b c).leads i = false := rfl
@[go_sem] theorem isAgg_lost (a b c : Int) : (encLost a b c).isAgg = true := rfl
@[go_sem] theorem safe_lost (a b c : Int) : (encLost a b c).safe = true := rfl
theorem eq_lost (a b c a' b' c' : Int) : (encLost a b c).eq (encLost a' b' c') = some (decide (a = a' ∧ b = b' ∧ c = c')) := by
  simp only [encLost, eq_cons, eq_unit, eq_int, andEq_dec, andEq_tt]
@[go_sem] theorem eqV_lost (neg : Bool) (a b c a' b' c' : Int) : eqV tLost neg (encLost a b c) (encLost a' b' c') = some (.bool (if neg = true then !decide (a = a' ∧ b = b' ∧ c = c') else decide (a = a' ∧ b = b' ∧ c = c'))) := eqV_of rfl rfl (eq_lost ..)
@[go_sem] theorem zero_K3 : tK3.zero = encV (AV.int .i64) (Vector.replicate 3 0) := zero_encV (t := tI) rfl
@[go_sem] theorem fits_K3 (v : Vector Int 3) : (tK3.fits (encV (AV.int .i64) v) = true) = True := eq_true (fits_encV (t := tI) fun _ => rfl)
@[go_sem] theorem idxV_K3 (j : Id) (p : List Nat) (i : AV) : idxV 3 tI (.ptr j p tK3) i = idxV 3 tI (.ptr j p (.arr 3 tI)) i := rfl
def k3 (a b c : Int) : Vector Int 3 := #v[a, b, c]
@[go_sem] theorem k3_0 (a b c : Int) (h : 0 < 3) : (k3 a b c)[0]'h = a := rfl
@[go_sem] theorem k3_1 (a b c : Int) (h : 1 < 3) : (k3 a b c)[1]'h = b := rfl
@[go_sem] theorem k3_2 (a b c : Int) (h : 2 < 3) : (k3 a b c)[2]'h = c := rfl
@[go_sem] theorem k3_s0 (a b c x : Int) (h : 0 < 3) : (k3 a b c).set 0 x h = k3 x b c := rfl
@[go_sem] theorem k3_s1 (a b c x : Int) (h : 1 < 3) : (k3 a b c).set 1 x h = k3 a x c := rfl
@[go_sem] theorem k3_s2 (a b c x : Int) (h : 2 < 3) : (k3 a b c).set 2 x h = k3 a b x := rfl
@[go_sem] theorem k3_zero : (Vector.replicate 3 0 : Vector Int 3) = k3 0 0 0 := rfl
@[go_sem] theorem safe_K3 {n : Nat} (v : Vector Int n) : (encV (AV.int .i64) v).safe = true := by simp [encV, AV.safe]
theorem ino_eta (i : Ino) (h1 : i.live = true) : (⟨true, i.stamp, i.links, i.part⟩ : Ino) = i := by cases i; simp at h1; rw [h1]
section
variable {T : Nat → Option MFun} {cx : Cx} {k : List Item} {kill : List Nat} {r : List MOp} {sl : Slots} {own : Own} {h : HP} {Q : St → Prop}
def three (x y z : Option AV) : Option AV := match x, y, z with
  | some x, some y, some z => some (.tup (.cons x (.cons y (.cons z .unit))))
  | _, _, _ => none
@[go_sem] theorem three_some (x y z : AV) : three (some x) (some y) (some z) = some (.tup (.cons x (.cons y (.cons z .unit)))) := rfl
@[go_sem] theorem results_three {a b c : MRes} {s : St} : results cx s [a, b, c] = three (res1 cx s a) (res1 cx s b) (res1 cx s c) := by
  simp only [results, resList, three, res1]
  cases resOf cx s a <;> cases resOf cx s b <;> cases resOf cx s c <;> rfl
@[go_sem] theorem extV_2 (a b c d : AV) : extV (.tup (.cons a (.cons b (.cons c d)))) 2 = if c.safe = true then some c else none := rfl
end

/-! Mending. -/
def mendIno (m : Img) (n : Nat) : Ino :=
  if (m.ino n).live = false then m.ino n else if refs m n = 0 then Ino.none else { m.ino n with links := refs m n }
def mendI (m : Img) : Nat → Img
  | 0 => m
  | k + 1 => (mendI m k).setIno k (mendIno m k)
def loose (m : Img) (x : Nat) : Bool := !decide (m.dat x = Dat.zero) && !held m x
def looseDat (m : Img) (x : Nat) : Dat := if loose m x = true then Dat.zero else m.dat x
def mendD (m : Img) : Nat → Img
  | 0 => m
  | k + 1 => (mendD m k).setDat k (looseDat m k)
def lostF (m : Img) (k : Nat) : Nat := sumN k fun n => b2n ((m.ino n).live && decide (refs m n = 0))
def lostC (m : Img) (k : Nat) : Nat := sumN k fun n => b2n ((m.ino n).live && !decide (refs m n = 0) && !decide ((m.ino n).links = refs m n))
def lostD (m : Img) (k : Nat) : Nat := sumN k fun x => b2n (loose m x)
def mended (m : Img) : Img := mendD (mendI m 8) 9
theorem mendI_ent (m : Img) (d s : Nat) : ∀ k, (mendI m k).ent d s = m.ent d s
  | 0 => rfl
  | k + 1 => by rw [mendI, ent_setIno, mendI_ent m d s k]
theorem mendI_dat (m : Img) (x : Nat) : ∀ k, (mendI m k).dat x = m.dat x
  | 0 => rfl
  | k + 1 => by rw [mendI, dat_setIno, mendI_dat m x k]
theorem mendI_ino (m : Img) (n : Nat) : ∀ k, (mendI m k).ino n = if n < k ∧ n < 8 then mendIno m n else m.ino n
  | 0 => by rw [if_neg (by omega)]; rfl
  | k + 1 => by
    rw [mendI, ino_setIno, mendI_ino m n k]
    by_cases e : k = n
    · subst e
      by_cases h8 : k < 8
      · rw [if_pos ⟨rfl, h8⟩, if_pos ⟨by omega, h8⟩]
      · rw [if_neg (by omega), if_neg (by omega), if_neg (by omega)]
    · rw [if_neg (by omega)]
      by_cases h8 : n < k ∧ n < 8
      · rw [if_pos h8, if_pos (by omega)]
      · rw [if_neg h8, if_neg (by omega)]
theorem refs_congr {m m' : Img} (h : ∀ d s, m.ent d s = m'.ent d s) (i : Int) : refs m i = refs m' i := by
  simp only [refs, refsRow, leads, h]
theorem mendI_refs (m : Img) (k : Nat) (i : Int) : refs (mendI m k) i = refs m i := refs_congr (fun d s => mendI_ent m d s k) i
theorem mendD_ino (m : Img) (n : Nat) : ∀ k, (mendD m k).ino n = m.ino n
  | 0 => rfl
  | k + 1 => by rw [mendD, ino_setDat, mendD_ino m n k]
theorem mendD_ent (m : Img) (d s : Nat) : ∀ k, (mendD m k).ent d s = m.ent d s
  | 0 => rfl
  | k + 1 => by rw [mendD, ent_setDat, mendD_ent m d s k]
theorem mendD_dat (m : Img) (x : Nat) : ∀ k, (mendD m k).dat x = if x < k ∧ x < 9 then looseDat m x else m.dat x
  | 0 => by rw [if_neg (by omega)]; rfl
  | k + 1 => by
    rw [mendD, dat_setDat, mendD_dat m x k]
    by_cases e : k = x
    · subst e
      by_cases h8 : k < 9
      · rw [if_pos ⟨rfl, h8⟩, if_pos ⟨by omega, h8⟩]
      · rw [if_neg (by omega), if_neg (by omega), if_neg (by omega)]
    · rw [if_neg (by omega)]
      by_cases h8 : x < k ∧ x < 9
      · rw [if_pos h8, if_pos (by omega)]
      · rw [if_neg h8, if_neg (by omega)]
theorem held_congr {m m' : Img} (h : ∀ n, m.ino n = m'.ino n) (x : Int) : held m x = held m' x := by simp only [held, h]
theorem mendD_held (m : Img) (k : Nat) (x : Int) : held (mendD m k) x = held m x := held_congr (fun n => mendD_ino m n k) x
theorem setIno_self (m : Img) {n : Nat} {y : Ino} (h : y = m.ino n) : m.setIno n y = m := by
  subst h
  refine Img.ext_of (fun k hk => ?_) (fun d s _ _ => by rw [ent_setIno]) (fun x _ => by rw [dat_setIno])
  rw [ino_setIno]; split
  · rename_i h; rw [h.1]
  · rfl
theorem setDat_self (m : Img) {n : Nat} {y : Dat} (h : y = m.dat n) : m.setDat n y = m := by
  subst h
  refine Img.ext_of (fun k hk => by rw [ino_setDat]) (fun d s _ _ => by rw [ent_setDat]) (fun x _ => ?_)
  rw [dat_setDat]; split
  · rename_i h; rw [h.1]
  · rfl
theorem lostF_le (m : Img) (k : Nat) : lostF m k ≤ k := by have := sumN_le (fun n => b2n_le ((m.ino n).live && decide (refs m n = 0))) k; simpa [lostF] using this
theorem lostC_le (m : Img) (k : Nat) : lostC m k ≤ k := by have := sumN_le (fun n => b2n_le ((m.ino n).live && !decide (refs m n = 0) && !decide ((m.ino n).links = refs m n))) k; simpa [lostC] using this
theorem lostD_le (m : Img) (k : Nat) : lostD m k ≤ k := by have := sumN_le (fun n => b2n_le (loose m n)) k; simpa [lostD] using this
def mendV (m : Img) : Img := if check m = 0 then mended m else Img.zero
def mendA (m : Img) : Nat := if check m = 0 then lostF m 8 else 0
def mendB (m : Img) : Nat := if check m = 0 then lostC m 8 else 0
def mendC (m : Img) : Nat := if check m = 0 then lostD (mendI m 8) 9 else 0
section
variable {cx : Cx} {h : HP} {p p' : Id} {q q' : List Nat} {m m' : Img}
theorem Mend_ok (hs : m.small) : Ok tbl cx Fn.mend_Mend (St.enter [m.enc] h) fun v h' => v = .tup (.cons (mendV m).enc (.cons (encLost (mendA m) (mendB m) (mendC m)) (.cons (.int .i64 (check m)) .unit))) ∧ h' = h := by
  rw [Ok_eq]
  simp (config := { maxSteps := 1000000 }) (disch := omega) only [go_sem]
  refine W_callp rfl ⟨rfl, rfl⟩ (by simp only [go_sem]; exact Check_ok (m := m) hs (below_stk _ _) (by simp only [go_sem, HP.push_rd_own])) ?_
  simp (config := { maxSteps := 1000000 }) (disch := omega) only [go_sem]
  by_cases hc : check m = 0
  · simp (config := { maxSteps := 1000000 }) (disch := omega) only [go_sem, hc]
    refine W_for 8 (fun n => ⟨[(1, .ptr (.stk cx.lvl 1) [] tImage), (2, .ptr (.stk cx.lvl 2) [] tImage), (3, .ptr (.stk cx.lvl 3) [] tLost), (6, .ptr (.stk cx.lvl 6) [] tLost), (17, .int .i64 n)],
      [(1, ⟨tImage, (mendI m n).enc⟩), (2, ⟨tImage, Img.zero.enc⟩), (3, ⟨tLost, encLost 0 0 0⟩), (6, ⟨tLost, encLost (lostF m n) (lostC m n) 0⟩)], h⟩) (by simp only [go_sem] <;> rfl) fun n hn ih => ?_
    have hF := lostF_le m n
    have hC := lostC_le m n
    by_cases hlt : n < 8
    · have hI : (mendI m n).ino n = m.ino n := by rw [mendI_ino, if_neg (by omega)]
      simp (config := { maxSteps := 1000000 }) (disch := omega) only [go_sem, hlt]
      refine W_callp rfl ⟨rfl, rfl⟩ (by simp only [go_sem]; exact Refs_ok (m := mendI m n) (below_stk _ _) (by simp only [go_sem, HP.push_rd_own])) ?_
      simp (config := { maxSteps := 1000000 }) (disch := omega) only [go_sem, hlt, mendI_refs, hI]
      cases hl : (m.ino n).live with
      | false =>
        simp (config := { maxSteps := 1000000 }) (disch := omega) only [go_sem]
        refine ih _ hlt ?_
        have e1 : lostF m (n + 1) = lostF m n := by simp [lostF, sumN, hl, b2n]
        have e2 : lostC m (n + 1) = lostC m n := by simp [lostC, sumN, hl, b2n]
        have e3 : mendI m (n + 1) = mendI m n := by rw [mendI]; exact setIno_self _ (by simp [mendIno, hl, hI])
        simp only [go_sem, e1, e2, e3]
      | true =>
        by_cases hr : refs m n = 0
        · simp (config := { maxSteps := 1000000 }) (disch := omega) only [go_sem, hr]
          refine W_callp rfl ⟨rfl, rfl⟩ (by simp only [go_sem]; exact Free_ok) ?_
          simp (config := { maxSteps := 1000000 }) (disch := omega) only [go_sem, hr]
          refine ih _ hlt ?_
          have e1 : lostF m (n + 1) = lostF m n + 1 := by simp [lostF, sumN, hl, hr, b2n]
          have e2 : lostC m (n + 1) = lostC m n := by simp [lostC, sumN, hl, hr, b2n]
          have e3 : mendI m (n + 1) = (mendI m n).setIno n Ino.none := by rw [mendI]; simp [mendIno, hl, hr]
          simp only [go_sem, e1, e2, e3]
        · by_cases hk : (m.ino n).links = refs m n
          · simp (config := { maxSteps := 1000000 }) (disch := omega) only [go_sem, hk, hI, hlt]
            refine ih _ hlt ?_
            have e1 : lostF m (n + 1) = lostF m n := by simp [lostF, sumN, hl, hr, b2n]
            have e2 : lostC m (n + 1) = lostC m n := by simp [lostC, sumN, hl, hr, hk, b2n]
            have e3 : mendI m (n + 1) = mendI m n := by rw [mendI]; exact setIno_self _ (by rw [hI]; simp only [mendIno, hl, hr, Bool.true_eq_false, if_false, ← hk]; exact ino_eta _ hl)
            simp only [go_sem, e1, e2, e3]
          · simp (config := { maxSteps := 1000000 }) (disch := omega) only [go_sem, hk, hI, hlt]
            refine ih _ hlt ?_
            have e1 : lostF m (n + 1) = lostF m n := by simp [lostF, sumN, hl, hr, b2n]
            have e2 : lostC m (n + 1) = lostC m n + 1 := by simp [lostC, sumN, hl, hr, hk, b2n]
            have e3 : mendI m (n + 1) = (mendI m n).setIno n ⟨(m.ino n).live, (m.ino n).stamp, refs m n, (m.ino n).part⟩ := by rw [mendI]; simp [mendIno, hl, hr]
            simp only [go_sem, e1, e2, e3]
    · obtain rfl : n = 8 := by omega
      simp (config := { maxSteps := 1000000 }) (disch := omega) only [go_sem]
      refine W_for 9 (fun x => ⟨[(1, .ptr (.stk cx.lvl 1) [] tImage), (2, .ptr (.stk cx.lvl 2) [] tImage), (3, .ptr (.stk cx.lvl 3) [] tLost), (6, .ptr (.stk cx.lvl 6) [] tLost), (57, .int .i64 x)],
        [(1, ⟨tImage, (mendD (mendI m 8) x).enc⟩), (2, ⟨tImage, Img.zero.enc⟩), (3, ⟨tLost, encLost 0 0 0⟩), (6, ⟨tLost, encLost (lostF m 8) (lostC m 8) (lostD (mendI m 8) x)⟩)], h⟩) (by simp only [go_sem] <;> rfl) fun x hx ih2 => ?_
      have hD := lostD_le (mendI m 8) x
      by_cases hlt2 : x < 9
      · have hX : (mendD (mendI m 8) x).dat x = (mendI m 8).dat x := by rw [mendD_dat, if_neg (by omega)]
        have l0 : loose (mendI m 8) x = false → mendD (mendI m 8) (x + 1) = mendD (mendI m 8) x ∧ lostD (mendI m 8) (x + 1) = lostD (mendI m 8) x := fun h => by
          refine ⟨?_, by simp [lostD, sumN, h, b2n]⟩
          rw [mendD]; exact setDat_self _ (by rw [hX]; simp [looseDat, h])
        have l1 : loose (mendI m 8) x = true → mendD (mendI m 8) (x + 1) = (mendD (mendI m 8) x).setDat x Dat.zero ∧ lostD (mendI m 8) (x + 1) = lostD (mendI m 8) x + 1 := fun h => by
          refine ⟨?_, by simp [lostD, sumN, h, b2n]⟩
          rw [mendD]; simp [looseDat, h]
        simp (config := { maxSteps := 1000000 }) (disch := omega) only [go_sem, hlt2, hX]
        by_cases hz : (mendI m 8).dat x = Dat.zero
        · obtain ⟨e1, e2⟩ := l0 (by simp [loose, hz])
          simp (config := { maxSteps := 1000000 }) (disch := omega) only [go_sem, hz]
          refine ih2 _ hlt2 ?_
          simp only [go_sem, e1, e2]
        · simp (config := { maxSteps := 1000000 }) (disch := omega) only [go_sem, hz]
          refine W_callp rfl ⟨rfl, rfl⟩ (by simp only [go_sem]; exact Holds_ok (m := mendD (mendI m 8) x) (below_stk _ _) (by simp only [go_sem, HP.push_rd_own])) ?_
          simp (config := { maxSteps := 1000000 }) (disch := omega) only [go_sem, mendD_held]
          cases hh : held (mendI m 8) x with
          | true =>
            obtain ⟨e1, e2⟩ := l0 (by simp [loose, hh])
            simp (config := { maxSteps := 1000000 }) (disch := omega) only [go_sem, hh]
            refine ih2 _ hlt2 ?_
            simp only [go_sem, e1, e2]
          | false =>
            obtain ⟨e1, e2⟩ := l1 (by simp [loose, hz, hh])
            simp (config := { maxSteps := 1000000 }) (disch := omega) only [go_sem, hh, hlt2]
            refine ih2 _ hlt2 ?_
            simp only [go_sem, e1, e2]
      · obtain rfl : x = 9 := by omega
        simp (config := { maxSteps := 1000000 }) (disch := omega) only [go_sem]
        simp [mendV, mendA, mendB, mendC, mended, hc]
  · simp (config := { maxSteps := 1000000 }) (disch := omega) only [go_sem, hc]
    simp [mendV, mendA, mendB, mendC, hc]
theorem MendOf_ok (hs : m.small) : Ok tbl cx Fn.eiderdownref_MendOf (St.enter [m.enc] h) fun v h' => v = .tup (.cons (mendV m).enc (.cons (encV (AV.int .i64) (k3 (mendA m) (mendB m) (mendC m))) (.cons (.int .i64 (check m)) .unit))) ∧ h' = h := by
  rw [Ok_eq]
  simp (config := { maxSteps := 1000000 }) (disch := omega) only [go_sem]
  refine W_callp rfl ⟨rfl, rfl⟩ (by simp only [go_sem]; exact ImageFault_ok (m := m) hs (below_stk _ _) (by simp only [go_sem, HP.push_rd_own])) ?_
  simp (config := { maxSteps := 1000000 }) (disch := omega) only [go_sem]
  by_cases hc : check m = 0
  · simp (config := { maxSteps := 1000000 }) (disch := omega) only [go_sem, hc]
    refine W_for 8 (fun n => ⟨[(1, .ptr (.stk cx.lvl 1) [] tImage), (2, .ptr (.stk cx.lvl 2) [] tImage), (3, .ptr (.stk cx.lvl 3) [] tK3), (6, .ptr (.stk cx.lvl 6) [] tK3), (7, .int .i64 n)],
      [(1, ⟨tImage, (mendI m n).enc⟩), (2, ⟨tImage, Img.zero.enc⟩), (3, ⟨tK3, encV (AV.int .i64) (k3 0 0 0)⟩), (6, ⟨tK3, encV (AV.int .i64) (k3 (lostF m n) (lostC m n) 0)⟩)], h⟩) (by simp only [go_sem] <;> rfl) fun n hn ih => ?_
    have hF := lostF_le m n
    have hC := lostC_le m n
    by_cases hlt : n < 8
    · have hI : (mendI m n).ino n = m.ino n := by rw [mendI_ino, if_neg (by omega)]
      simp (config := { maxSteps := 1000000 }) (disch := omega) only [go_sem, hlt]
      refine W_callp rfl ⟨rfl, rfl⟩ (by simp only [go_sem]; exact Leads_ok (m := mendI m n) (below_stk _ _) (by simp only [go_sem, HP.push_rd_own])) ?_
      simp (config := { maxSteps := 1000000 }) (disch := omega) only [go_sem, hlt, mendI_refs, hI]
      cases hl : (m.ino n).live with
      | false =>
        simp (config := { maxSteps := 1000000 }) (disch := omega) only [go_sem]
        refine ih _ hlt ?_
        have e1 : lostF m (n + 1) = lostF m n := by simp [lostF, sumN, hl, b2n]
        have e2 : lostC m (n + 1) = lostC m n := by simp [lostC, sumN, hl, b2n]
        have e3 : mendI m (n + 1) = mendI m n := by rw [mendI]; exact setIno_self _ (by simp [mendIno, hl, hI])
        simp only [go_sem, e1, e2, e3]
      | true =>
        have e3 : refs m n = 0 → mendI m (n + 1) = (mendI m n).setIno n Ino.none := fun hr => by rw [mendI]; simp [mendIno, hl, hr]
        have e1 : refs m n = 0 → lostF m (n + 1) = lostF m n + 1 := fun hr => by simp [lostF, sumN, hl, hr, b2n]
        have e2 : refs m n = 0 → lostC m (n + 1) = lostC m n := fun hr => by simp [lostC, sumN, hl, hr, b2n]
        by_cases hk : (m.ino n).links = refs m n
        · by_cases hr : refs m n = 0
          · simp (config := { maxSteps := 1000000 }) (disch := omega) only [go_sem, hk, hr, hI, hlt]
            refine W_callp rfl ⟨rfl, rfl⟩ (by simp only [go_sem]; exact None_ok) ?_
            simp (config := { maxSteps := 1000000 }) (disch := omega) only [go_sem, hr]
            refine ih _ hlt ?_
            simp only [go_sem, e1 hr, e2 hr, e3 hr]
          · simp (config := { maxSteps := 1000000 }) (disch := omega) only [go_sem, hk, hr, hI, hlt]
            refine ih _ hlt ?_
            have e1 : lostF m (n + 1) = lostF m n := by simp [lostF, sumN, hl, hr, b2n]
            have e2 : lostC m (n + 1) = lostC m n := by simp [lostC, sumN, hl, hr, hk, b2n]
            have e3 : mendI m (n + 1) = mendI m n := by rw [mendI]; exact setIno_self _ (by rw [hI]; simp only [mendIno, hl, hr, Bool.true_eq_false, if_false, ← hk]; exact ino_eta _ hl)
            simp only [go_sem, e1, e2, e3]
        · by_cases hr : refs m n = 0
          · simp (config := { maxSteps := 1000000 }) (disch := omega) only [go_sem, hk, hr, hI, hlt]
            refine W_callp rfl ⟨rfl, rfl⟩ (by simp only [go_sem]; exact None_ok) ?_
            simp (config := { maxSteps := 1000000 }) (disch := omega) only [go_sem, hr]
            refine ih _ hlt ?_
            simp only [go_sem, e1 hr, e2 hr, e3 hr]
          · simp (config := { maxSteps := 1000000 }) (disch := omega) only [go_sem, hk, hr, hI, hlt]
            refine ih _ hlt ?_
            have e1 : lostF m (n + 1) = lostF m n := by simp [lostF, sumN, hl, hr, b2n]
            have e2 : lostC m (n + 1) = lostC m n + 1 := by simp [lostC, sumN, hl, hr, hk, b2n]
            have e3 : mendI m (n + 1) = (mendI m n).setIno n ⟨(m.ino n).live, (m.ino n).stamp, refs m n, (m.ino n).part⟩ := by rw [mendI]; simp [mendIno, hl, hr]
            simp only [go_sem, e1, e2, e3]
    · obtain rfl : n = 8 := by omega
      simp (config := { maxSteps := 1000000 }) (disch := omega) only [go_sem]
      refine W_for 9 (fun x => ⟨[(1, .ptr (.stk cx.lvl 1) [] tImage), (2, .ptr (.stk cx.lvl 2) [] tImage), (3, .ptr (.stk cx.lvl 3) [] tK3), (6, .ptr (.stk cx.lvl 6) [] tK3), (9, .int .i64 x)],
        [(1, ⟨tImage, (mendD (mendI m 8) x).enc⟩), (2, ⟨tImage, Img.zero.enc⟩), (3, ⟨tK3, encV (AV.int .i64) (k3 0 0 0)⟩), (6, ⟨tK3, encV (AV.int .i64) (k3 (lostF m 8) (lostC m 8) (lostD (mendI m 8) x))⟩)], h⟩) (by simp only [go_sem] <;> rfl) fun x hx ih2 => ?_
      have hD := lostD_le (mendI m 8) x
      by_cases hlt2 : x < 9
      · have hX : (mendD (mendI m 8) x).dat x = (mendI m 8).dat x := by rw [mendD_dat, if_neg (by omega)]
        have l0 : loose (mendI m 8) x = false → mendD (mendI m 8) (x + 1) = mendD (mendI m 8) x ∧ lostD (mendI m 8) (x + 1) = lostD (mendI m 8) x := fun h => by
          refine ⟨?_, by simp [lostD, sumN, h, b2n]⟩
          rw [mendD]; exact setDat_self _ (by rw [hX]; simp [looseDat, h])
        have l1 : loose (mendI m 8) x = true → mendD (mendI m 8) (x + 1) = (mendD (mendI m 8) x).setDat x Dat.zero ∧ lostD (mendI m 8) (x + 1) = lostD (mendI m 8) x + 1 := fun h => by
          refine ⟨?_, by simp [lostD, sumN, h, b2n]⟩
          rw [mendD]; simp [looseDat, h]
        simp (config := { maxSteps := 1000000 }) (disch := omega) only [go_sem, hlt2, hX]
        refine W_callp rfl ⟨rfl, rfl⟩ (by simp only [go_sem]; exact Held_ok (m := mendD (mendI m 8) x) (below_stk _ _) (by simp only [go_sem, HP.push_rd_own])) ?_
        simp (config := { maxSteps := 1000000 }) (disch := omega) only [go_sem, mendD_held]
        cases hh : held (mendI m 8) x with
        | true =>
          obtain ⟨e1, e2⟩ := l0 (by simp [loose, hh])
          simp (config := { maxSteps := 1000000 }) (disch := omega) only [go_sem, hh]
          refine ih2 _ hlt2 ?_
          simp only [go_sem, e1, e2]
        | false =>
          simp (config := { maxSteps := 1000000 }) (disch := omega) only [go_sem, hh, hlt2, hX]
          by_cases ha : ((mendI m 8).dat x).of = 0
          · simp (config := { maxSteps := 1000000 }) (disch := omega) only [go_sem, ha, hh, hlt2, hX]
            by_cases hb : ((mendI m 8).dat x).text = ⟨#[]⟩
            · obtain ⟨e1, e2⟩ := l0 (by
                have : (mendI m 8).dat x = Dat.zero := by
                  cases e : (mendI m 8).dat x with | mk a b =>
                  rw [e] at ha hb
                  simp only at ha hb
                  subst ha; subst hb; rfl
                simp [loose, this])
              simp (config := { maxSteps := 1000000 }) (disch := omega) only [go_sem, ha, hb]
              refine ih2 _ hlt2 ?_
              simp only [go_sem, e1, e2]
            · obtain ⟨e1, e2⟩ := l1 (by
                have : ¬(mendI m 8).dat x = Dat.zero := fun e => hb (by rw [e]; rfl)
                simp [loose, this, hh])
              simp (config := { maxSteps := 1000000 }) (disch := omega) only [go_sem, ha, hb, hh, hlt2]
              refine ih2 _ hlt2 ?_
              simp only [go_sem, e1, e2]
          · obtain ⟨e1, e2⟩ := l1 (by
              have : ¬(mendI m 8).dat x = Dat.zero := fun e => ha (by rw [e]; rfl)
              simp [loose, this, hh])
            simp (config := { maxSteps := 1000000 }) (disch := omega) only [go_sem, ha, hh, hlt2]
            refine ih2 _ hlt2 ?_
            simp only [go_sem, e1, e2]
      · obtain rfl : x = 9 := by omega
        simp (config := { maxSteps := 1000000 }) (disch := omega) only [go_sem]
        simp [mendV, mendA, mendB, mendC, mended, hc]
  · simp (config := { maxSteps := 1000000 }) (disch := omega) only [go_sem, hc]
    simp [mendV, mendA, mendB, mendC, hc]
end
end Go.Mini
