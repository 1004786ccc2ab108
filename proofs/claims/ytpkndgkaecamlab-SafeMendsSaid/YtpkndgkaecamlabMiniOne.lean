/- A part of the proof: MiniOne. -/
import Derived.Test.YtpkndgkaecamlabMiniMends
namespace Go.Mini
set_option linter.unusedSimpArgs false
set_option linter.unusedVariables false
set_option maxHeartbeats 4000000
set_option maxRecDepth 100000

@[go_sem] theorem st_id : decide (sInodes = ⟨#[100, 105, 114]⟩) = false := by decide
@[go_sem] theorem st_ia : decide (sInodes = ⟨#[100, 97, 116, 97]⟩) = false := by decide
@[go_sem] theorem st_da : decide (sDir = ⟨#[100, 97, 116, 97]⟩) = false := by decide
theorem blockOf_out {b : Int} (h : ¬(0 ≤ b ∧ b < 14)) : blockOf b = (sNone, 0) := by unfold blockOf; rw [if_pos (by omega)]
theorem blockOf_in {b : Int} {k : Str} {n : Int} (h : blockOf b = (k, n)) (hk : ¬sNone = k) : 0 ≤ b ∧ b < 14 := by
  by_cases hc : 0 ≤ b ∧ b < 14
  · exact hc
  · rw [blockOf_out hc] at h; exact absurd (congrArg Prod.fst h) hk
theorem blockOf_not {b : Int} (h : blockOf b = (sNone, 0)) : ¬(0 ≤ b ∧ b < 14) := by
  rintro ⟨h0, h1⟩
  unfold blockOf at h
  rw [if_neg (by omega)] at h
  have n1 : ¬sInodes = sNone := by decide
  have n2 : ¬sDir = sNone := by decide
  have n3 : ¬sData = sNone := by decide
  split at h
  · exact n1 (congrArg Prod.fst h)
  · split at h
    · exact n2 (congrArg Prod.fst h)
    · exact n3 (congrArg Prod.fst h)
/-- What lies there as it may lie there stays so. -/
theorem again_ino {m m' X : Img} {n : Nat} (hX : X.ino n = inodeAs m m' n) (hE : ∀ d s, X.ent d s = m'.ent d s) (hD : ∀ x, X.dat x = m'.dat x) : inodeAs m X n = X.ino n := by
  have hB : ∀ i, both m X i = both m m' i := fun i => by simp only [both, bothRow, leads, hE]
  cases hl : (m.ino n).live with
  | true =>
    have e1 : inodeAs m m' n = ⟨(m.ino n).live, (m.ino n).stamp, both m m' n, #v[part m m' n 0, part m m' n 1]⟩ := by simp only [inodeAs, if_pos hl]
    have e2 : inodeAs m X n = ⟨(m.ino n).live, (m.ino n).stamp, both m m' n, #v[part m X n 0, part m X n 1]⟩ := by simp only [inodeAs, if_pos hl, hB]
    have hp : ∀ p, p < 2 → part m X n p = part m m' n p := by
      intro p hp
      have hprt : (X.ino n).prt p = part m m' n p := by
        rw [hX, e1]; simp only [Ino.prt, hp, dite_true]
        obtain rfl | rfl : p = 0 ∨ p = 1 := by omega
        all_goals rfl
      have hlive : (X.ino n).live = true := by rw [hX, e1]; exact hl
      have hst : (X.ino n).stamp = (m.ino n).stamp := by rw [hX, e1]
      have h1 : part m X n p = (let x := (m.ino n).prt p
        if x < 0 ∨ 9 ≤ x then -1 else if (m'.dat x.toNat).of = (m.ino n).stamp then x else part m m' n p) := by
        simp only [part, hD, hlive, hst, and_self, if_true]
        rw [hprt]; rfl
      rw [h1]
      simp only
      by_cases hx : (m.ino n).prt p < 0 ∨ 9 ≤ (m.ino n).prt p
      · rw [if_pos hx]; simp only [part, if_pos hx]
      · rw [if_neg hx]
        by_cases hd : (m'.dat ((m.ino n).prt p).toNat).of = (m.ino n).stamp
        · rw [if_pos hd]; simp only [part, if_neg hx, if_pos hd]
        · rw [if_neg hd]
    rw [e2, hp 0 (by omega), hp 1 (by omega), hX, e1]
  | false =>
    have hl' : ¬(m.ino n).live = true := by rw [hl]; simp
    by_cases hd : (m'.ino n).live = true ∧ 0 < both m m' n
    · have e1 : inodeAs m m' n = { m'.ino n with links := both m m' n } := by simp only [inodeAs, if_neg hl', if_pos hd]
      have hd' : (X.ino n).live = true ∧ 0 < both m X n := by rw [hX, e1, hB]; exact hd
      have e2 : inodeAs m X n = { X.ino n with links := both m X n } := by simp only [inodeAs, if_neg hl', if_pos hd']
      rw [e2, hX, e1, hB]
    · have e1 : inodeAs m m' n = Ino.none := by simp only [inodeAs, if_neg hl', if_neg hd]
      have hd' : ¬((X.ino n).live = true ∧ 0 < both m X n) := by rw [hX, e1]; simp [Ino.none]
      have e2 : inodeAs m X n = Ino.none := by simp only [inodeAs, if_neg hl', if_neg hd']
      rw [e2, hX, e1]
theorem again_inodes {m m' : Img} {n : Nat} (hn : n ≤ 4) : wrInodes m (wrInodes m m' n 4) n 4 = wrInodes m m' n 4 := by
  refine Img.ext_of (fun i hi => ?_) (fun d s _ _ => wrInodes_ent ..) (fun x _ => wrInodes_dat ..)
  rw [wrInodes_ino' _ _ n hn]
  split
  · rename_i h
    exact again_ino (m' := m') (by rw [wrInodes_ino' _ _ n hn, if_pos h]) (fun d s => wrInodes_ent ..) (fun x => wrInodes_dat ..)
  · rfl
theorem again_data {m m' : Img} {n : Nat} (hn : n < 9) : (m'.setDat n (m.dat n)).setDat n (m.dat n) = m'.setDat n (m.dat n) :=
  setDat_self _ (by rw [dat_setDat, if_pos ⟨rfl, hn⟩])
theorem inodeAs_self {m : Img} (he : exact m = true) {n : Nat} (hn : n < 8) : inodeAs m m n = m.ino n := by
  obtain ⟨hc, hx⟩ := exact_parts he
  cases hl : (m.ino n).live with
  | true =>
    obtain ⟨h1, h2⟩ := hx n hn hl
    obtain ⟨_, _, p3⟩ := ino_parts hc hn hl
    have hp : ∀ p, p < 2 → part m m n p = (m.ino n).prt p := by
      intro p hp
      rcases part_cases m m n p with c | ⟨c, _⟩ | ⟨c, _⟩
      · rcases part_dat (p3 p hp) with r | ⟨r1, r2, r3⟩
        · rw [c, r]
        · have : part m m n p = (m.ino n).prt p := by
            simp only [part]; rw [if_neg (by omega), if_pos r3]
          exact this
      · exact c
      · exact c
    refine Ino.ext_of (by simp only [inodeAs, if_pos hl]) (by simp only [inodeAs, if_pos hl]) (by simp only [inodeAs, if_pos hl]; rw [both_self, h2]) fun p hp' => ?_
    rw [← hp p hp']
    simp only [inodeAs, if_pos hl, Ino.prt, hp', dite_true]
    obtain rfl | rfl : p = 0 ∨ p = 1 := by omega
    all_goals rfl
  | false =>
    have hl' : ¬(m.ino n).live = true := by rw [hl]; simp
    have hd : ¬((m.ino n).live = true ∧ 0 < both m m n) := fun h => hl' h.1
    rw [dead_none hc hn hl]
    simp only [inodeAs, if_neg hl', if_neg hd]
theorem setEnt_self (m : Img) {d s : Nat} {y : Ent} (h : y = m.ent d s) : m.setEnt d s y = m := by
  subst h
  refine Img.ext_of (fun n _ => ino_setEnt ..) (fun d' s' _ _ => ?_) (fun x _ => dat_setEnt ..)
  rw [ent_setEnt]; split
  · rename_i h; rw [h.1.1, h.1.2]
  · rfl
theorem wrDir_self (m : Img) (d : Nat) : ∀ k, wrDir m m d k = m
  | 0 => rfl
  | k + 1 => by
    rw [wrDir, wrDir_self m d k]
    exact setEnt_self _ (by simp [entryAs])
theorem self_write {m : Img} (he : exact m = true) (b : Int) : (writeAs m m b).1 = m := by
  obtain ⟨n, hn, e⟩ | ⟨n, hn, e⟩ | ⟨n, hn, e⟩ | e := blockOf_cases b
  · rw [writeAs_i e]
    refine Img.ext_of (fun i hi => ?_) (fun d s _ _ => wrInodes_ent ..) (fun x _ => wrInodes_dat ..)
    show (wrInodes m m n 4).ino i = _
    rw [wrInodes_ino' _ _ n hn]
    split
    · exact inodeAs_self he hi
    · rfl
  · rw [writeAs_d e]; exact wrDir_self m n 4
  · rw [writeAs_a e]; exact setDat_self _ rfl
  · rw [writeAs_n e]
/-- A block is laid back. -/
def back4 (X D : Img) (n : Nat) : Nat → Img
  | 0 => X
  | k + 1 => (back4 X D n k).setIno (n + k) (D.ino (n + k))
theorem back4_ino (X D : Img) (n i : Nat) : ∀ k, k ≤ 4 → n ≤ 4 → (back4 X D n k).ino i = if n ≤ i ∧ i < n + k then D.ino i else X.ino i
  | 0, _, _ => by rw [if_neg (by omega)]; rfl
  | k + 1, hk, hn => by
    rw [back4, ino_setIno, back4_ino X D n i k (by omega) hn]
    by_cases e : n + k = i
    · subst e; rw [if_pos ⟨rfl, by omega⟩, if_pos (by omega)]
    · rw [if_neg (by omega)]
      by_cases h : n ≤ i ∧ i < n + k
      · rw [if_pos h, if_pos (by omega)]
      · rw [if_neg h, if_neg (by omega)]
theorem back4_ent (X D : Img) (n d s : Nat) : ∀ k, (back4 X D n k).ent d s = X.ent d s
  | 0 => rfl
  | k + 1 => by rw [back4, ent_setIno, back4_ent X D n d s k]
theorem back4_dat (X D : Img) (n x : Nat) : ∀ k, (back4 X D n k).dat x = X.dat x
  | 0 => rfl
  | k + 1 => by rw [back4, dat_setIno, back4_dat X D n x k]
theorem back_inodes {m m' : Img} {n : Nat} (hn : n ≤ 4) : back4 (wrInodes m m' n 4) m' n 4 = m' := by
  refine Img.ext_of (fun i hi => ?_) (fun d s _ _ => by rw [back4_ent, wrInodes_ent]) (fun x _ => by rw [back4_dat, wrInodes_dat])
  rw [back4_ino _ _ _ _ 4 (by omega) hn]
  split
  · rfl
  · rename_i h; rw [wrInodes_ino' _ _ n hn, if_neg h]
theorem back_dir {m m' : Img} {n : Nat} (hn : n < 3) : (⟨(wrDir m m' n 4).inode, (wrDir m m' n 4).dir.set n (m'.dir[n]'hn) hn, (wrDir m m' n 4).data⟩ : Img) = m' := by
  obtain ⟨i1, i2, i3, _⟩ := wrDir_ok m m' hn 4 (Nat.le_refl _)
  refine Img.ext_of (fun i _ => i1 i) (fun d s hd hs => ?_) (fun x _ => i2 x)
  by_cases e : n = d
  · subst e
    simp [Img.ent, hd, hs]
  · have h := i3 d s hd hs (.inl fun h => e h.symm)
    simp only [Img.ent, hd, hs, and_self, dite_true] at h ⊢
    rw [← h]
    simp [Vector.getElem_set, e]
theorem back_data {m m' : Img} {n : Nat} : (m'.setDat n (m.dat n)).setDat n (m'.dat n) = m' := by
  refine Img.ext_of (fun i _ => by simp only [ino_setDat]) (fun d s _ _ => by simp only [ent_setDat]) (fun x hx => ?_)
  rw [dat_setDat, dat_setDat]
  by_cases h : n = x ∧ x < 9
  · rw [if_pos h, h.1]
  · rw [if_neg h, if_neg h]
section
variable {cx : Cx} {h : HP} {p p' : Id} {q q' : List Nat} {m m' : Img}
theorem SafeMends_ok {b : Int} : Ok tblB cx Fn.eiderdownlaw_SafeMends (St.enter [m.enc, m'.enc, .int .i64 b] h) fun v h' => v = .bool true ∧ h' = h := by
  rw [Ok_eq]
  simp (config := { maxSteps := 1000000 }) (disch := omega) only [go_sem]
  refine W_callp rfl ⟨rfl, rfl⟩ (by simp only [go_sem]; exact up (safeBegun_ok)) ?_
  simp (config := { maxSteps := 1000000 }) (disch := omega) only [go_sem]
  refine W_callp rfl ⟨rfl, rfl⟩ (by simp only [go_sem]; exact up (Great_ok)) ?_
  simp (config := { maxSteps := 1000000 }) (disch := omega) only [go_sem]
  cases hg : great m with
  | true => simp (config := { maxSteps := 1000000 }) (disch := omega) only [go_sem]
  | false =>
    have hs := great_small hg
    simp (config := { maxSteps := 1000000 }) (disch := omega) only [go_sem]
    refine W_callp rfl ⟨rfl, rfl⟩ (by simp only [go_sem]; exact up (Great_ok)) ?_
    simp (config := { maxSteps := 1000000 }) (disch := omega) only [go_sem]
    cases hg' : great m' with
    | true => simp (config := { maxSteps := 1000000 }) (disch := omega) only [go_sem]
    | false =>
      have hs' := great_small hg'
      simp (config := { maxSteps := 1000000 }) (disch := omega) only [go_sem]
      refine W_callp rfl ⟨rfl, rfl⟩ (by simp only [go_sem]; exact up (Check_ok (m := m') hs' (below_stk _ _) (by simp only [go_sem, HP.push_rd_own]))) ?_
      simp (config := { maxSteps := 1000000 }) (disch := omega) only [go_sem]
      by_cases hc : check m' = 0
      · simp (config := { maxSteps := 1000000 }) (disch := omega) only [go_sem, hc]
        refine W_callp rfl ⟨rfl, rfl⟩ (by simp only [go_sem]; exact up (Exact_ok (m := m) hs (below_stk _ _) (by simp only [go_sem, HP.push_rd_own]))) ?_
        simp (config := { maxSteps := 1000000 }) (disch := omega) only [go_sem]
        cases he : exact m with
        | false => simp (config := { maxSteps := 1000000 }) (disch := omega) only [go_sem]
        | true =>
          simp (config := { maxSteps := 1000000 }) (disch := omega) only [go_sem, he]
          refine W_callr rfl ⟨rfl, rfl⟩ (by simp only [go_sem]; exact fit_ok (m := m) (m' := m') (below_stk _ _) (by simp only [go_sem, HP.push_rd_own]) (below_stk _ _) (by simp only [go_sem, HP.push_rd_own])) ?_
          rintro v h' ⟨⟨c, rfl, hf⟩, rfl⟩
          rw [pop_push]
          cases c with
          | false => simp (config := { maxSteps := 1000000 }) (disch := omega) only [go_sem]
          | true =>
            have hf := hf rfl
            simp (config := { maxSteps := 1000000 }) (disch := omega) only [go_sem]
            refine W_callp rfl ⟨rfl, rfl⟩ (by simp only [go_sem]; exact up (Write_ok (m := m) (m' := m') (below_stk _ _) (by simp only [go_sem, HP.push_rd_own]) (below_stk _ _) (by simp only [go_sem, HP.push_rd_own]))) ?_
            have hx := write_mends hc he hf b
            have hxs : (writeAs m m' b).1.small := by
              intro d s
              by_cases hds : d < 3 ∧ s < 4
              · rcases (write_last m m' b).2.2 d s hds.1 hds.2 with e | e | ⟨e, _⟩
                · rw [← e]; exact hs' d s
                · rw [e]; decide
                · rw [e]; exact hs d s
              · rw [ent_out hds]; decide
            generalize writeAs m m' b = X at *
            simp (config := { maxSteps := 1000000 }) (disch := omega) only [go_sem]
            refine W_callp rfl ⟨rfl, rfl⟩ (by simp only [go_sem]; exact up (Check_ok (m := X.1) hxs (below_stk _ _) (by simp only [go_sem, HP.push_rd_own]))) ?_
            simp (config := { maxSteps := 1000000 }) (disch := omega) only [go_sem, hx]
      · simp (config := { maxSteps := 1000000 }) (disch := omega) only [go_sem, hc]
theorem SafeOne_ok {b : Int} : Ok tblB cx Fn.eiderdownlaw_SafeOne (St.enter [m.enc, m'.enc, .int .i64 b] h) fun v h' => v = .bool true ∧ h' = h := by
  rw [Ok_eq]
  simp (config := { maxSteps := 1000000 }) (disch := omega) only [go_sem]
  refine W_callp rfl ⟨rfl, rfl⟩ (by simp only [go_sem]; exact up (safeBegun_ok)) ?_
  simp (config := { maxSteps := 1000000 }) (disch := omega) only [go_sem]
  refine W_callp rfl ⟨rfl, rfl⟩ (by simp only [go_sem]; exact up (Great_ok)) ?_
  simp (config := { maxSteps := 1000000 }) (disch := omega) only [go_sem]
  cases hg : great m with
  | true => simp (config := { maxSteps := 1000000 }) (disch := omega) only [go_sem]
  | false =>
    have hs := great_small hg
    simp (config := { maxSteps := 1000000 }) (disch := omega) only [go_sem]
    refine W_callp rfl ⟨rfl, rfl⟩ (by simp only [go_sem]; exact up (Great_ok)) ?_
    simp (config := { maxSteps := 1000000 }) (disch := omega) only [go_sem]
    cases hg' : great m' with
    | true => simp (config := { maxSteps := 1000000 }) (disch := omega) only [go_sem]
    | false =>
      simp (config := { maxSteps := 1000000 }) (disch := omega) only [go_sem]
      refine W_callp rfl ⟨rfl, rfl⟩ (by simp only [go_sem]; exact up (Write_ok (m := m) (m' := m') (below_stk _ _) (by simp only [go_sem, HP.push_rd_own]) (below_stk _ _) (by simp only [go_sem, HP.push_rd_own]))) ?_
      simp (config := { maxSteps := 1000000 }) (disch := omega) only [go_sem]
      refine W_callp rfl ⟨rfl, rfl⟩ (by simp only [go_sem]; exact up (Block_ok)) ?_
      simp (config := { maxSteps := 1000000 }) (disch := omega) only [go_sem]
      obtain ⟨n, hn, e⟩ | ⟨n, hn, e⟩ | ⟨n, hn, e⟩ | e := blockOf_cases b
      · obtain ⟨b0, b1⟩ := blockOf_in e (by decide)
        have hz : (writeAs m (wrInodes m m' n 4) b).1 = wrInodes m m' n 4 := by rw [writeAs_i e]; exact again_inodes hn
        have hy := back_inodes (m := m) (m' := m') hn
        simp (config := { maxSteps := 1000000 }) (disch := omega) only [go_sem, e, writeAs_i e, b0, b1]
        refine W_for 4 (fun j => ⟨[(2, .int .i64 b), (3, .ptr (.stk cx.lvl 3) [] tImage), (4, .ptr (.stk cx.lvl 4) [] tImage), (7, .ptr (.stk cx.lvl 7) [] tImage), (9, .str sInodes), (10, .int .i64 n), (11, .ptr (.stk cx.lvl 11) [] tImage), (12, .int .i64 j)],
          [(3, ⟨tImage, m.enc⟩), (4, ⟨tImage, m'.enc⟩), (7, ⟨tImage, (wrInodes m m' n 4).enc⟩), (11, ⟨tImage, (back4 (wrInodes m m' n 4) m' n j).enc⟩)], h⟩) (by simp only [go_sem, back4] <;> rfl) fun j hj ih => ?_
        by_cases hlt : j < 4
        · simp (config := { maxSteps := 1000000 }) (disch := omega) only [go_sem, hlt]
          refine ih _ hlt ?_
          simp only [go_sem, back4]
        · obtain rfl : j = 4 := by omega
          rw [hy]
          simp (config := { maxSteps := 1000000 }) (disch := omega) only [go_sem]
          refine W_callp rfl ⟨rfl, rfl⟩ (by simp only [go_sem]; exact up (Write_ok (m := m) (m' := wrInodes m m' n 4) (below_stk _ _) (by simp only [go_sem, HP.push_rd_own]) (below_stk _ _) (by simp only [go_sem, HP.push_rd_own]))) ?_
          simp (config := { maxSteps := 1000000 }) (disch := omega) only [go_sem, hz]
          refine W_callp rfl ⟨rfl, rfl⟩ (by simp only [go_sem]; exact up (Exact_ok (m := m) hs (below_stk _ _) (by simp only [go_sem, HP.push_rd_own]))) ?_
          cases hx : exact m with
          | false => simp (config := { maxSteps := 1000000 }) (disch := omega) only [go_sem, hx]
          | true =>
            simp (config := { maxSteps := 1000000 }) (disch := omega) only [go_sem, hx]
            refine W_callp rfl ⟨rfl, rfl⟩ (by simp only [go_sem]; exact up (Write_ok (m := m) (m' := m) (below_stk _ _) (by simp only [go_sem, HP.push_rd_own]) (below_stk _ _) (by simp only [go_sem, HP.push_rd_own]))) ?_
            simp (config := { maxSteps := 1000000 }) (disch := omega) only [go_sem, self_write hx b]
      · obtain ⟨b0, b1⟩ := blockOf_in e (by decide)
        have hy := back_dir (m := m) (m' := m') hn
        simp (config := { maxSteps := 1000000 }) (disch := omega) only [go_sem, e, writeAs_d e, b0, b1]
        simp (config := { maxSteps := 1000000 }) (disch := omega) only [go_sem, hy]
        refine W_callp rfl ⟨rfl, rfl⟩ (by simp only [go_sem]; exact up (Write_ok (m := m) (m' := wrDir m m' n 4) (below_stk _ _) (by simp only [go_sem, HP.push_rd_own]) (below_stk _ _) (by simp only [go_sem, HP.push_rd_own]))) ?_
        simp (config := { maxSteps := 1000000 }) (disch := omega) only [go_sem]
        refine W_callp rfl ⟨rfl, rfl⟩ (by simp only [go_sem]; exact up (Exact_ok (m := m) hs (below_stk _ _) (by simp only [go_sem, HP.push_rd_own]))) ?_
        cases hx : exact m with
        | false => simp (config := { maxSteps := 1000000 }) (disch := omega) only [go_sem, hx]
        | true =>
          simp (config := { maxSteps := 1000000 }) (disch := omega) only [go_sem, hx]
          refine W_callp rfl ⟨rfl, rfl⟩ (by simp only [go_sem]; exact up (Write_ok (m := m) (m' := m) (below_stk _ _) (by simp only [go_sem, HP.push_rd_own]) (below_stk _ _) (by simp only [go_sem, HP.push_rd_own]))) ?_
          simp (config := { maxSteps := 1000000 }) (disch := omega) only [go_sem, self_write hx b]
      · obtain ⟨b0, b1⟩ := blockOf_in e (by decide)
        have hz : (writeAs m (m'.setDat n (m.dat n)) b).1 = m'.setDat n (m.dat n) := by rw [writeAs_a e]; exact again_data hn
        have hy := back_data (m := m) (m' := m') (n := n)
        simp (config := { maxSteps := 1000000 }) (disch := omega) only [go_sem, e, writeAs_a e, b0, b1, hy]
        refine W_callp rfl ⟨rfl, rfl⟩ (by simp only [go_sem]; exact up (Write_ok (m := m) (m' := m'.setDat n (m.dat n)) (below_stk _ _) (by simp only [go_sem, HP.push_rd_own]) (below_stk _ _) (by simp only [go_sem, HP.push_rd_own]))) ?_
        simp (config := { maxSteps := 1000000 }) (disch := omega) only [go_sem, hz]
        refine W_callp rfl ⟨rfl, rfl⟩ (by simp only [go_sem]; exact up (Exact_ok (m := m) hs (below_stk _ _) (by simp only [go_sem, HP.push_rd_own]))) ?_
        cases hx : exact m with
        | false => simp (config := { maxSteps := 1000000 }) (disch := omega) only [go_sem, hx]
        | true =>
          simp (config := { maxSteps := 1000000 }) (disch := omega) only [go_sem, hx]
          refine W_callp rfl ⟨rfl, rfl⟩ (by simp only [go_sem]; exact up (Write_ok (m := m) (m' := m) (below_stk _ _) (by simp only [go_sem, HP.push_rd_own]) (below_stk _ _) (by simp only [go_sem, HP.push_rd_own]))) ?_
          simp (config := { maxSteps := 1000000 }) (disch := omega) only [go_sem, self_write hx b]
      · have hb := blockOf_not e
        by_cases b0 : 0 ≤ b
        · have b1 : ¬b < 14 := fun h => hb ⟨b0, h⟩
          simp (config := { maxSteps := 1000000 }) (disch := omega) only [go_sem, e, writeAs_n e, b0, b1]
        · simp (config := { maxSteps := 1000000 }) (disch := omega) only [go_sem, e, writeAs_n e, b0]
end
end Go.Mini
