/- A part of the proof: MiniY. -/
import Derived.Test.YtpkndgkaecamlabMiniX
namespace Go.Mini
set_option linter.unusedSimpArgs false
set_option linter.unusedVariables false
set_option maxHeartbeats 4000000
set_option maxRecDepth 100000

theorem lostF_eq {m : Img} {n : Nat} (hn : n < 8) : lostF m (n + 1) = lostF m n + b2n ((m.ino n).live && !((mended m).ino n).live) := by
  have : ((m.ino n).live && decide (refs m n = 0)) = ((m.ino n).live && !((mended m).ino n).live) := by
    rw [mended_ino m hn]
    cases hl : (m.ino n).live with
    | false => rfl
    | true =>
      by_cases hr : refs m n = 0
      · simp [mendIno, hl, hr, Ino.none]
      · simp [mendIno, hl, hr]
  rw [← this]; rfl
theorem lostC_eq {m : Img} {n : Nat} (hn : n < 8) : lostC m (n + 1) = lostC m n + b2n (((mended m).ino n).live && !decide ((m.ino n).links = ((mended m).ino n).links)) := by
  have : ((m.ino n).live && !decide (refs m n = 0) && !decide ((m.ino n).links = refs m n)) = (((mended m).ino n).live && !decide ((m.ino n).links = ((mended m).ino n).links)) := by
    rw [mended_ino m hn]
    cases hl : (m.ino n).live with
    | false => simp [mendIno, hl]
    | true =>
      by_cases hr : refs m n = 0
      · simp [mendIno, hl, hr, Ino.none]
      · simp [mendIno, hl, hr]
  rw [← this]; rfl
theorem lostD_eq {m : Img} {x : Nat} (hx : x < 9) : lostD (mendI m 8) (x + 1) = lostD (mendI m 8) x + b2n (!decide (m.dat x = (mended m).dat x)) ∧ (¬m.dat x = (mended m).dat x → (mended m).dat x = Dat.zero) := by
  rw [mended_dat m hx]
  have e : (mendI m 8).dat x = m.dat x := mendI_dat m x 8
  cases hl : loose (mendI m 8) x with
  | true =>
    have h1 : looseDat (mendI m 8) x = Dat.zero := by simp [looseDat, hl]
    have h2 : ¬m.dat x = Dat.zero := by
      intro h; simp [loose, e, h] at hl
    rw [h1]
    exact ⟨by simp [lostD, sumN, hl, h2, b2n], fun _ => rfl⟩
  | false =>
    have h1 : looseDat (mendI m 8) x = m.dat x := by simp [looseDat, hl, e]
    rw [h1]
    exact ⟨by simp [lostD, sumN, hl, b2n], fun h => absurd rfl h⟩
theorem mended_links {m : Img} (hc : check m = 0) {n : Nat} (hn : n < 8) (hl : ((mended m).ino n).live = true) : ¬(m.ino n).links < ((mended m).ino n).links := by
  rw [mended_ino m hn] at hl ⊢
  obtain ⟨l1, l2⟩ := mendIno_live.1 hl
  obtain ⟨_, p2, _⟩ := ino_parts hc hn l1
  rw [mendIno_of hl]
  simp only
  omega
section
variable {cx : Cx} {h : HP} {p p' : Id} {q q' : List Nat} {m m' : Img}
theorem MendCounts_ok : Ok tbl cx Fn.eiderdownlaw_MendCounts (St.enter [m.enc] h) fun v h' => v = .bool true ∧ h' = h := by
  rw [Ok_eq]
  simp (config := { maxSteps := 1000000 }) (disch := omega) only [go_sem]
  refine W_callp rfl ⟨rfl, rfl⟩ (by simp only [go_sem]; exact mendBegun_ok) ?_
  simp (config := { maxSteps := 1000000 }) (disch := omega) only [go_sem]
  refine W_callp rfl ⟨rfl, rfl⟩ (by simp only [go_sem]; exact Great_ok) ?_
  simp (config := { maxSteps := 1000000 }) (disch := omega) only [go_sem]
  cases hg : great m with
  | true => simp (config := { maxSteps := 1000000 }) (disch := omega) only [go_sem]
  | false =>
    have hs := great_small hg
    simp (config := { maxSteps := 1000000 }) (disch := omega) only [go_sem]
    refine W_callp rfl ⟨rfl, rfl⟩ (by simp only [go_sem]; exact Mend_ok (m := m) hs) ?_
    simp (config := { maxSteps := 1000000 }) (disch := omega) only [go_sem]
    by_cases hc : check m = 0
    · have e1 : mendA m = lostF m 8 := by simp [mendA, hc]
      have e2 : mendB m = lostC m 8 := by simp [mendB, hc]
      have e3 : mendC m = lostD (mendI m 8) 9 := by simp [mendC, hc]
      have e4 : mendV m = mended m := by simp [mendV, hc]
      simp (config := { maxSteps := 1000000 }) (disch := omega) only [go_sem, hc, e1, e2, e3, e4]
      refine W_for 8 (fun n => ⟨[(1, .ptr (.stk cx.lvl 1) [] tImage), (3, .ptr (.stk cx.lvl 3) [] tImage), (4, .ptr (.stk cx.lvl 4) [] tLost), (6, .ptr (.stk cx.lvl 6) [] tLost), (7, .int .i64 n)],
        [(1, ⟨tImage, m.enc⟩), (3, ⟨tImage, (mended m).enc⟩), (4, ⟨tLost, encLost (lostF m 8) (lostC m 8) (lostD (mendI m 8) 9)⟩), (6, ⟨tLost, encLost (lostF m n) (lostC m n) 0⟩)], h⟩) (by simp only [go_sem] <;> rfl) fun n hn ih => ?_
      have hF := lostF_le m n
      have hC := lostC_le m n
      by_cases hlt : n < 8
      · have f1 := lostF_eq (m := m) hlt
        have f2 := lostC_eq (m := m) hlt
        have f3 := mended_links hc hlt
        cases hl : (m.ino n).live with
        | false =>
          have hl' : ((mended m).ino n).live = false := by
            rw [mended_ino m hlt]; simp [mendIno, hl]
          simp (config := { maxSteps := 1000000 }) (disch := omega) only [go_sem, hlt, hl, hl']
          refine ih _ hlt ?_
          simp only [go_sem, f1, f2, hl, hl', b2n, Nat.add_zero]
        | true =>
          cases hl' : ((mended m).ino n).live with
          | false =>
            simp (config := { maxSteps := 1000000 }) (disch := omega) only [go_sem, hlt, hl, hl']
            refine ih _ hlt ?_
            simp only [go_sem, f1, f2, hl, hl', b2n, Nat.add_zero]
          | true =>
            have f4 := f3 hl'
            by_cases hk : (m.ino n).links = ((mended m).ino n).links
            · simp (config := { maxSteps := 1000000 }) (disch := omega) only [go_sem, hlt, hl, hl', hk, f4]
              refine ih _ hlt ?_
              simp only [go_sem, f1, f2, hl, hl', hk, b2n, Nat.add_zero]
            · simp (config := { maxSteps := 1000000 }) (disch := omega) only [go_sem, hlt, hl, hl', hk, f4]
              refine ih _ hlt ?_
              simp only [go_sem, f1, f2, hl, hl', hk, b2n, Nat.add_zero]
      · obtain rfl : n = 8 := by omega
        simp (config := { maxSteps := 1000000 }) (disch := omega) only [go_sem]
        refine W_for 9 (fun x => ⟨[(1, .ptr (.stk cx.lvl 1) [] tImage), (3, .ptr (.stk cx.lvl 3) [] tImage), (4, .ptr (.stk cx.lvl 4) [] tLost), (6, .ptr (.stk cx.lvl 6) [] tLost), (8, .int .i64 x)],
          [(1, ⟨tImage, m.enc⟩), (3, ⟨tImage, (mended m).enc⟩), (4, ⟨tLost, encLost (lostF m 8) (lostC m 8) (lostD (mendI m 8) 9)⟩), (6, ⟨tLost, encLost (lostF m 8) (lostC m 8) (lostD (mendI m 8) x)⟩)], h⟩) (by simp only [go_sem] <;> rfl) fun x hx ih2 => ?_
        have hD := lostD_le (mendI m 8) x
        by_cases hlt2 : x < 9
        · obtain ⟨f1, f2⟩ := lostD_eq (m := m) hlt2
          by_cases hd : m.dat x = (mended m).dat x
          · simp (config := { maxSteps := 1000000 }) (disch := omega) only [go_sem, hlt2, hd]
            refine ih2 _ hlt2 ?_
            simp only [go_sem, f1, hd, b2n, Nat.add_zero]
          · have f3 := f2 hd
            have hd' : ¬m.dat x = Dat.zero := by rw [← f3]; exact hd
            simp (config := { maxSteps := 1000000 }) (disch := omega) only [go_sem, hlt2, f3, hd']
            refine ih2 _ hlt2 ?_
            simp only [go_sem, f1, hd, b2n]
        · obtain rfl : x = 9 := by omega
          simp (config := { maxSteps := 1000000 }) (disch := omega) only [go_sem]
    · have e1 : mendA m = 0 := by simp [mendA, hc]
      have e2 : mendB m = 0 := by simp [mendB, hc]
      have e3 : mendC m = 0 := by simp [mendC, hc]
      simp (config := { maxSteps := 1000000 }) (disch := omega) only [go_sem, hc, e1, e2, e3]
@[go_sem] theorem eqV_parts (neg : Bool) (a b : Vector Int 2) : eqV tParts neg (encV (AV.int .i64) a) (encV (AV.int .i64) b) = some (.bool (if neg = true then !decide (a = b) else decide (a = b))) := eqV_of (fits_parts' a) (fits_parts' b) (eq_encV eq_int)
@[go_sem] theorem eqV_dirs (neg : Bool) (a b : Vector (Vector Ent 4) 3) : eqV tDirs neg (encV (encV Ent.enc) a) (encV (encV Ent.enc) b) = some (.bool (if neg = true then !decide (a = b) else decide (a = b))) := eqV_of (fits_dirs' a) (fits_dirs' b) (eq_encV fun v w => eq_row v w)
theorem mended_dir (m : Img) : (mended m).dir = m.dir := by
  ext d hd : 1
  ext s hs : 1
  have := mended_ent m d s
  simpa [Img.ent, hd, hs] using this
theorem keeps_ent {m : Img} (hc : check m = 0) {d s : Nat} (hd : d < 3) (hs : s < 4) (hn : ¬(m.ent d s).name = ⟨#[]⟩) : 0 ≤ (m.ent d s).ino ∧ (m.ent d s).ino < 8 ∧ ((mended m).ino (m.ent d s).ino.toNat).live = true ∧
    ((mended m).ino (m.ent d s).ino.toNat).stamp = (m.ino (m.ent d s).ino.toNat).stamp ∧ ((mended m).ino (m.ent d s).ino.toNat).part = (m.ino (m.ent d s).ino.toNat).part ∧
    ∀ p, p < 2 → 0 ≤ (m.ino (m.ent d s).ino.toNat).prt p → (m.ino (m.ent d s).ino.toNat).prt p < 9 ∧ (mended m).dat ((m.ino (m.ent d s).ino.toNat).prt p).toNat = m.dat ((m.ino (m.ent d s).ino.toNat).prt p).toNat := by
  rcases entry_parts ((check_parts (mended_check hc)).1 d hd s hs) with e0 | ⟨_, _, _, a4, a5, a6, _⟩
  · rw [mended_ent] at e0; rw [e0] at hn; exact absurd rfl hn
  · rw [mended_ent] at a4 a5 a6
    have hj : (m.ent d s).ino.toNat < 8 := by omega
    have hl := a6
    rw [mended_ino m hj] at hl
    have e := mendIno_of hl
    refine ⟨a4, a5, a6, by rw [mended_ino m hj, e], by rw [mended_ino m hj, e], fun p hp h0 => ?_⟩
    have h9 := part_range hc hj hp (mendIno_live.1 hl).1
    exact ⟨h9, mend_held hj hp hl h0 h9⟩
theorem MendKeeps_ok : Ok tbl cx Fn.eiderdownlaw_MendKeeps (St.enter [m.enc] h) fun v h' => v = .bool true ∧ h' = h := by
  rw [Ok_eq]
  simp (config := { maxSteps := 1000000 }) (disch := omega) only [go_sem]
  refine W_callp rfl ⟨rfl, rfl⟩ (by simp only [go_sem]; exact mendBegun_ok) ?_
  simp (config := { maxSteps := 1000000 }) (disch := omega) only [go_sem]
  refine W_callp rfl ⟨rfl, rfl⟩ (by simp only [go_sem]; exact Great_ok) ?_
  simp (config := { maxSteps := 1000000 }) (disch := omega) only [go_sem]
  cases hg : great m with
  | true => simp (config := { maxSteps := 1000000 }) (disch := omega) only [go_sem]
  | false =>
    have hs := great_small hg
    simp (config := { maxSteps := 1000000 }) (disch := omega) only [go_sem]
    refine W_callp rfl ⟨rfl, rfl⟩ (by simp only [go_sem]; exact Mend_ok (m := m) hs) ?_
    simp (config := { maxSteps := 1000000 }) (disch := omega) only [go_sem]
    by_cases hc : check m = 0
    · have e4 : mendV m = mended m := by simp [mendV, hc]
      simp (config := { maxSteps := 1000000 }) (disch := omega) only [go_sem, hc, e4]
      refine W_callp rfl ⟨rfl, rfl⟩ (by simp only [go_sem]; exact Exact_ok (m := mended m) (mended_small hs) (below_stk _ _) (by simp only [go_sem, HP.push_rd_own])) ?_
      have he : exact (mended m) = true := mended_exact hc
      simp (config := { maxSteps := 1000000 }) (disch := omega) only [go_sem, he, mended_dir]
      refine W_for 3 (fun d => ⟨[(1, .ptr (.stk cx.lvl 1) [] tImage), (3, .ptr (.stk cx.lvl 3) [] tImage), (6, .int .i64 d)], [(1, ⟨tImage, m.enc⟩), (3, ⟨tImage, (mended m).enc⟩)], h⟩) (by simp only [go_sem] <;> rfl) fun d hd ih => ?_
      by_cases hlt : d < 3
      · simp (config := { maxSteps := 1000000 }) (disch := omega) only [go_sem]
        refine W_for 4 (fun s => ⟨[(1, .ptr (.stk cx.lvl 1) [] tImage), (3, .ptr (.stk cx.lvl 3) [] tImage), (6, .int .i64 d), (7, .int .i64 s)], [(1, ⟨tImage, m.enc⟩), (3, ⟨tImage, (mended m).enc⟩)], h⟩) (by simp only [go_sem] <;> rfl) fun s hs' ih2 => ?_
        by_cases hlt2 : s < 4
        · simp (config := { maxSteps := 1000000 }) (disch := omega) only [go_sem, hlt, hlt2]
          by_cases hn : (m.ent d s).name = ⟨#[]⟩
          · simp (config := { maxSteps := 1000000 }) (disch := omega) only [go_sem, hn]
            refine ih2 _ hlt2 ?_
            simp only [go_sem]
          · obtain ⟨a1, a2, a3, a4, a5, a6⟩ := keeps_ent hc hlt hlt2 hn
            simp (config := { maxSteps := 1000000 }) (disch := omega) only [go_sem, hn, a1, a2]
            simp (config := { maxSteps := 1000000 }) (disch := omega) only [go_sem, a3, a4, a5, a1, a2]
            refine W_for 2 (fun p => ⟨[(1, .ptr (.stk cx.lvl 1) [] tImage), (3, .ptr (.stk cx.lvl 3) [] tImage), (6, .int .i64 d), (7, .int .i64 s), (9, .ptr (.stk cx.lvl 9) [] tInode), (11, .int .i64 p)], [(1, ⟨tImage, m.enc⟩), (3, ⟨tImage, (mended m).enc⟩), (9, ⟨tInode, (m.ino (m.ent d s).ino.toNat).enc⟩)], h⟩) (by simp only [go_sem] <;> rfl) fun p hp ih3 => ?_
            by_cases hlt3 : p < 2
            · by_cases h0 : 0 ≤ (m.ino (m.ent d s).ino.toNat).prt p
              · obtain ⟨b1, b2⟩ := a6 p hlt3 h0
                simp (config := { maxSteps := 1000000 }) (disch := omega) only [go_sem, hlt3, h0, b2]
                refine ih3 _ hlt3 ?_
                simp only [go_sem]
              · simp (config := { maxSteps := 1000000 }) (disch := omega) only [go_sem, hlt3, h0]
                refine ih3 _ hlt3 ?_
                simp only [go_sem]
            · obtain rfl : p = 2 := by omega
              simp (config := { maxSteps := 1000000 }) (disch := omega) only [go_sem]
              refine ih2 _ hlt2 ?_
              simp only [go_sem]
        · obtain rfl : s = 4 := by omega
          simp (config := { maxSteps := 1000000 }) (disch := omega) only [go_sem]
          refine ih _ hlt ?_
          simp only [go_sem]
      · obtain rfl : d = 3 := by omega
        simp (config := { maxSteps := 1000000 }) (disch := omega) only [go_sem]
        refine W_callp rfl ⟨rfl, rfl⟩ (by simp only [go_sem]; exact Mend_ok (m := mended m) (mended_small hs)) ?_
        have hc2 := mended_check hc
        obtain ⟨f1, f2, f3⟩ := lost_again hc
        have g1 : mendA (mended m) = 0 := by rw [mendA, if_pos hc2, f1]
        have g2 : mendB (mended m) = 0 := by rw [mendB, if_pos hc2, f2]
        have g3 : mendC (mended m) = 0 := by rw [mendC, if_pos hc2, f3]
        have g4 : mendV (mended m) = mended m := by rw [mendV, if_pos hc2, mended_again hc]
        simp (config := { maxSteps := 1000000 }) (disch := omega) only [go_sem, hc2, g1, g2, g3, g4]
    · have e4 : mendV m = Img.zero := by simp [mendV, hc]
      simp (config := { maxSteps := 1000000 }) (disch := omega) only [go_sem, hc, e4]
      refine W_callp rfl ⟨rfl, rfl⟩ (by simp only [go_sem]; exact Check_ok (m := m) hs (below_stk _ _) (by simp only [go_sem, HP.push_rd_own])) ?_
      simp (config := { maxSteps := 1000000 }) (disch := omega) only [go_sem, hc, e4]
end
end Go.Mini
