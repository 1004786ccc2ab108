/- A part of the proof: MiniM. -/
import Derived.Test.YtpkndgkaecamlabMiniL
namespace Go.Mini
set_option linter.unusedSimpArgs false
set_option linter.unusedVariables false
set_option maxHeartbeats 4000000
set_option maxRecDepth 100000

theorem sb1 : (writeAs Img.one Img.blank 3).1 = Img.blank := by decide +kernel
theorem sb2 : (writeAs Img.one Img.blank 3).2 = true := by decide +kernel
theorem sb3 : (writeAs Img.one Img.blank 0).2 = true := by decide +kernel
theorem sb4 : (writeAs Img.one Img.blank 99).2 = false := by decide +kernel
theorem sb5 : ((writeAs Img.one Img.blank 0).1.ino 2).live = true := by decide +kernel
theorem sb6 : ((writeAs Img.one Img.blank 0).1.ino 2).prt 1 = -1 := by decide +kernel
theorem sb7 : ((writeAs Img.one ((writeAs Img.one Img.blank 0).1.setDat 3 (Img.one.dat 3)) 3).1.ent 1 2).name = ⟨#[97]⟩ := by decide +kernel
theorem sb8 : both Img.one Img.blank 2 = 1 := by decide +kernel
theorem sb9 : (blockOf 3).1 = sDir := by decide +kernel
theorem sb10 : (blockOf 3).2 = 1 := by decide +kernel
theorem sumN_mono {f g : Nat → Nat} (h : ∀ i, f i ≤ g i) : ∀ n, sumN n f ≤ sumN n g
  | 0 => Nat.le_refl _
  | n + 1 => Nat.add_le_add (sumN_mono h n) (h n)
theorem sumN_add (f g : Nat → Nat) : ∀ n, sumN n (fun i => f i + g i) = sumN n f + sumN n g
  | 0 => rfl
  | n + 1 => by simp only [sumN, sumN_add f g n]; omega
theorem sumN_congr {f g : Nat → Nat} {n : Nat} (h : ∀ i, i < n → f i = g i) : sumN n f = sumN n g := by
  induction n with
  | zero => rfl
  | succ n ih => rw [sumN, sumN, ih fun i hi => h i (by omega), h n (by omega)]
theorem refs_le_both (m m' : Img) (n : Int) : refs m n ≤ both m m' n :=
  sumN_mono (fun d => sumN_mono (fun s => by cases leads m d s n <;> cases leads m' d s n <;> simp [b2n]) 4) 3
theorem both_comm (m m' : Img) (n : Int) : both m m' n = both m' m n := by
  simp only [both, bothRow, Bool.or_comm]
theorem both_self (m : Img) (n : Int) : both m m n = refs m n := by
  simp only [both, bothRow, refs, refsRow, Bool.or_self]
theorem both_le (m m' : Img) (n : Int) : both m m' n ≤ refs m n + refs m' n := by
  simp only [refs, refsRow, both, bothRow]
  rw [← sumN_add]
  refine sumN_mono (fun d => ?_) 3
  rw [← sumN_add]
  exact sumN_mono (fun s => by cases leads m d s n <;> cases leads m' d s n <;> simp [b2n]) 4
theorem refs_le (m : Img) (n : Int) : refs m n ≤ 12 := sumN_le (fun d => refsRow_le m n d 4) 3
theorem both_le12 (m m' : Img) (n : Int) : both m m' n ≤ 12 := sumN_le (fun d => bothRow_le m m' n d 4) 3
/-- A number, as one that may be gone to. -/
def umod (n c : Int) : Nat := ((IntKind.u64.wrap n).tmod c).toNat
theorem wrapU_nonneg (n : Int) : 0 ≤ IntKind.u64.wrap n := by
  have e1 : (IntKind.u64).bits = 64 := rfl
  have e2 : (IntKind.u64).signed = false := rfl
  have p1 : (2 : Int) ^ 64 = 18446744073709551616 := rfl
  simp only [IntKind.wrap, e1, e2, Bool.false_and, Bool.false_eq_true, if_false, p1]
  omega
theorem umod_lt (n : Int) {c : Int} {k : Nat} (hc : c = k) (h : 0 < k) : umod n c < k := by
  have h1 := wrapU_nonneg n
  have h2 := Int.tmod_lt_of_pos (IntKind.u64.wrap n) (show 0 < c by omega)
  have h3 := Int.tmod_nonneg c h1
  unfold umod; omega
@[go_sem] theorem evInt_remU {n c : Int} (hc : 0 < c) : evInt .rem .u64 (IntKind.u64.wrap n) c = some (.int .u64 (umod n c : Nat)) := by
  have h1 := wrapU_nonneg n
  have h3 := Int.tmod_nonneg c h1
  have h0 : ¬c = 0 := by omega
  simp only [evInt, h0, if_false, umod, Option.some.injEq, AV.int.injEq, true_and]
  omega
@[go_sem] theorem eqV_tB (neg a b : Bool) : eqV tB neg (.bool a) (.bool b) = some (.bool (if neg = true then !decide (a = b) else decide (a = b))) := eqV_of rfl rfl (eq_bool a b)
theorem wrInodes_ino (m m' : Img) (n : Nat) : ∀ j k, j ≤ 4 → n + 4 ≤ 8 → k < j → (wrInodes m m' n j).ino (n + k) = inodeAs m m' (n + k)
  | 0, k, _, _, h => by omega
  | j + 1, k, h1, h2, h => by
    rw [wrInodes, ino_setIno]
    by_cases e : j = k
    · subst e; rw [if_pos ⟨rfl, by omega⟩]
    · rw [if_neg (by omega), wrInodes_ino m m' n j k (by omega) h2 (by omega)]
theorem inodeAs_dead (m m' : Img) (n : Nat) (h : (inodeAs m m' n).live = false) : inodeAs m m' n = Ino.none ∧ (m.ino n).live = false := by
  unfold inodeAs at h ⊢
  split at h
  · rename_i hl; simp only [hl] at h; simp at h
  · rename_i hl
    split at h
    · rename_i hd; simp [hd.1] at h
    · rename_i hd; rw [if_neg hl, if_neg hd]; exact ⟨rfl, by simpa using hl⟩
theorem inodeAs_links (m m' : Img) (n : Nat) (h : (inodeAs m m' n).live = true) : (inodeAs m m' n).links = both m m' n := by
  unfold inodeAs at h ⊢
  split
  · rfl
  · rename_i hl
    rw [if_neg hl] at h
    split
    · rfl
    · rename_i hd; rw [if_neg hd] at h; simp [Ino.none] at h
theorem inodeAs_part (m m' : Img) (n p : Nat) (hp : p < 2) (h : (inodeAs m m' n).live = true) :
    (inodeAs m m' n).prt p = -1 ∨ ((m'.ino n).live = true ∧ (m'.ino n).stamp = (inodeAs m m' n).stamp ∧ (m'.ino n).prt p = (inodeAs m m' n).prt p)
      ∨ (0 ≤ (inodeAs m m' n).prt p ∧ (inodeAs m m' n).prt p < 9 ∧ (m'.dat ((inodeAs m m' n).prt p).toNat).of = (inodeAs m m' n).stamp) := by
  by_cases hl : (m.ino n).live = true
  · have e1 : (inodeAs m m' n).prt p = part m m' n p := by
      simp only [inodeAs, if_pos hl, Ino.prt, hp, dite_true]
      obtain rfl | rfl : p = 0 ∨ p = 1 := by omega
      all_goals rfl
    have e2 : (inodeAs m m' n).stamp = (m.ino n).stamp := by simp only [inodeAs, if_pos hl]
    rw [e1, e2]
    by_cases hx : (m.ino n).prt p < 0 ∨ 9 ≤ (m.ino n).prt p
    · left; simp only [part, if_pos hx]
    by_cases hd : (m'.dat ((m.ino n).prt p).toNat).of = (m.ino n).stamp
    · right; right
      have : part m m' n p = (m.ino n).prt p := by simp only [part, if_neg hx, if_pos hd]
      rw [this]; exact ⟨by omega, by omega, hd⟩
    by_cases ho : (m'.ino n).live = true ∧ (m'.ino n).stamp = (m.ino n).stamp
    · right; left
      exact ⟨ho.1, ho.2, by simp only [part, if_neg hx, if_neg hd, if_pos ho]⟩
    · left; simp only [part, if_neg hx, if_neg hd, if_neg ho]
  · by_cases hd : (m'.ino n).live = true ∧ 0 < both m m' n
    · right; left
      have e : inodeAs m m' n = { m'.ino n with links := both m m' n } := by simp only [inodeAs, if_neg hl, if_pos hd]
      rw [e]; exact ⟨hd.1, rfl, rfl⟩
    · have e : inodeAs m m' n = Ino.none := by simp only [inodeAs, if_neg hl, if_neg hd]
      rw [e] at h; simp [Ino.none] at h
section
variable {cx : Cx} {h : HP} {p p' : Id} {q q' : List Nat} {m m' : Img}
theorem safeBegun_ok : Ok tbl cx Fn.eiderdownlaw_safeBegun (St.enter [] h) fun v h' => v = .bool true ∧ h' = h := by
  rw [Ok_eq]
  simp (config := { maxSteps := 1000000 }) (disch := omega) only [go_sem]
  refine W_callp rfl ⟨rfl, rfl⟩ (by simp only [go_sem]; exact one_ok) ?_
  simp (config := { maxSteps := 1000000 }) (disch := omega) only [go_sem]
  refine W_callp rfl ⟨rfl, rfl⟩ (by simp only [go_sem]; exact Blank_ok) ?_
  simp (config := { maxSteps := 1000000 }) (disch := omega) only [go_sem]
  refine W_callp rfl ⟨rfl, rfl⟩ (by simp only [go_sem]; exact Write_ok (m := Img.one) (m' := Img.blank) (below_stk _ _) (by simp only [go_sem, HP.push_rd_own]) (below_stk _ _) (by simp only [go_sem, HP.push_rd_own])) ?_
  simp (config := { maxSteps := 1000000 }) (disch := omega) only [go_sem]
  refine W_callp rfl ⟨rfl, rfl⟩ (by simp only [go_sem]; exact Write_ok (m := Img.one) (m' := Img.blank) (below_stk _ _) (by simp only [go_sem, HP.push_rd_own]) (below_stk _ _) (by simp only [go_sem, HP.push_rd_own])) ?_
  simp (config := { maxSteps := 1000000 }) (disch := omega) only [go_sem]
  refine W_callp rfl ⟨rfl, rfl⟩ (by simp only [go_sem]; exact Write_ok (m := Img.one) (m' := Img.blank) (below_stk _ _) (by simp only [go_sem, HP.push_rd_own]) (below_stk _ _) (by simp only [go_sem, HP.push_rd_own])) ?_
  simp (config := { maxSteps := 1000000 }) (disch := omega) only [go_sem]
  refine W_callp rfl ⟨rfl, rfl⟩ (by simp only [go_sem]; exact Block_ok) ?_
  simp (config := { maxSteps := 1000000 }) (disch := omega) only [go_sem]
  refine W_callp rfl ⟨rfl, rfl⟩ (by simp only [go_sem]; exact Write_ok (m := Img.one) (m' := (writeAs Img.one Img.blank 0).1.setDat 3 (Img.one.dat 3)) (below_stk _ _) (by simp only [go_sem, HP.push_rd_own]) (below_stk _ _) (by simp only [go_sem, HP.push_rd_own])) ?_
  simp (config := { maxSteps := 1000000 }) (disch := omega) only [go_sem, sb1, sb2, sb3, sb4, sb5, sb6, sb7, sb9, sb10]
  refine W_callp rfl ⟨rfl, rfl⟩ (by simp only [go_sem]; exact Union_ok (m := Img.one) (m' := Img.blank) (below_stk _ _) (by simp only [go_sem, HP.push_rd_own]) (below_stk _ _) (by simp only [go_sem, HP.push_rd_own])) ?_
  simp (config := { maxSteps := 1000000 }) (disch := omega) only [go_sem, sb8]
theorem SafeUnion_ok {n : Int} : Ok tbl cx Fn.eiderdownlaw_SafeUnion (St.enter [m.enc, m'.enc, .int .i64 n] h) fun v h' => v = .bool true ∧ h' = h := by
  rw [Ok_eq]
  simp (config := { maxSteps := 1000000 }) (disch := omega) only [go_sem]
  refine W_callp rfl ⟨rfl, rfl⟩ (by simp only [go_sem]; exact safeBegun_ok) ?_
  simp (config := { maxSteps := 1000000 }) (disch := omega) only [go_sem]
  refine W_callp rfl ⟨rfl, rfl⟩ (by simp only [go_sem]; exact Great_ok) ?_
  simp (config := { maxSteps := 1000000 }) (disch := omega) only [go_sem]
  refine WG_intro (fun h1 => ?_) (fun h1 => ?_) <;> simp (config := { maxSteps := 1000000 }) (disch := omega) only [go_sem, h1]
  · refine W_callp rfl ⟨rfl, rfl⟩ (by simp only [go_sem]; exact Great_ok) ?_
    simp (config := { maxSteps := 1000000 }) (disch := omega) only [go_sem]
    refine WC_intro (fun h2 => ?_) (fun h2 => ?_) <;> simp (config := { maxSteps := 1000000 }) (disch := omega) only [go_sem, h2]
    refine W_callp rfl ⟨rfl, rfl⟩ (by simp only [go_sem]; exact Union_ok (m := m) (m' := m') (below_stk _ _) (by simp only [go_sem, HP.push_rd_own]) (below_stk _ _) (by simp only [go_sem, HP.push_rd_own])) ?_
    simp (config := { maxSteps := 1000000 }) (disch := omega) only [go_sem]
    refine W_callp rfl ⟨rfl, rfl⟩ (by simp only [go_sem]; exact Refs_ok (m := m) (below_stk _ _) (by simp only [go_sem, HP.push_rd_own])) ?_
    simp (config := { maxSteps := 1000000 }) (disch := omega) only [go_sem]
    refine W_callp rfl ⟨rfl, rfl⟩ (by simp only [go_sem]; exact Refs_ok (m := m') (below_stk _ _) (by simp only [go_sem, HP.push_rd_own])) ?_
    have e1 : (refs m n : Int) ≤ both m m' n := Int.ofNat_le.2 (refs_le_both m m' n)
    have e2 : (refs m' n : Int) ≤ both m m' n := by rw [both_comm]; exact Int.ofNat_le.2 (refs_le_both m' m n)
    have e3 : (both m m' n : Int) ≤ refs m n + refs m' n := Int.ofNat_le.2 (both_le m m' n)
    have e4 := refs_le m n
    have e5 := refs_le m' n
    simp (config := { maxSteps := 1000000 }) (disch := omega) only [go_sem, e1, e2, e3]
    refine W_callp rfl ⟨rfl, rfl⟩ (by simp only [go_sem]; exact Union_ok (m := m') (m' := m) (below_stk _ _) (by simp only [go_sem, HP.push_rd_own]) (below_stk _ _) (by simp only [go_sem, HP.push_rd_own])) ?_
    simp (config := { maxSteps := 1000000 }) (disch := omega) only [go_sem, both_comm m' m]
    refine W_callp rfl ⟨rfl, rfl⟩ (by simp only [go_sem]; exact Union_ok (m := m) (m' := m) (below_stk _ _) (by simp only [go_sem, HP.push_rd_own]) (below_stk _ _) (by simp only [go_sem, HP.push_rd_own])) ?_
    simp (config := { maxSteps := 1000000 }) (disch := omega) only [go_sem, both_self]
theorem SafeDoes_ok {n d s b : Int} : Ok tbl cx Fn.eiderdownlaw_SafeDoes (St.enter [m.enc, m'.enc, .int .i64 n, .int .i64 d, .int .i64 s, .int .i64 b] h) fun v h' => v = .bool true ∧ h' = h := by
  rw [Ok_eq]
  simp (config := { maxSteps := 1000000 }) (disch := omega) only [go_sem]
  refine W_callp rfl ⟨rfl, rfl⟩ (by simp only [go_sem]; exact safeBegun_ok) ?_
  simp (config := { maxSteps := 1000000 }) (disch := omega) only [go_sem]
  refine W_callp rfl ⟨rfl, rfl⟩ (by simp only [go_sem]; exact Great_ok) ?_
  simp (config := { maxSteps := 1000000 }) (disch := omega) only [go_sem]
  refine WG_intro (fun h1 => ?_) (fun h1 => ?_) <;> simp (config := { maxSteps := 1000000 }) (disch := omega) only [go_sem, h1]
  · refine W_callp rfl ⟨rfl, rfl⟩ (by simp only [go_sem]; exact Great_ok) ?_
    simp (config := { maxSteps := 1000000 }) (disch := omega) only [go_sem]
    have u8 := umod_lt n (c := 8) (k := 8) rfl (by omega)
    have u3 := umod_lt d (c := 3) (k := 3) rfl (by omega)
    have u4 := umod_lt s (c := 4) (k := 4) rfl (by omega)
    refine WC_intro (fun h2 => ?_) (fun h2 => ?_) <;> simp (config := { maxSteps := 1000000 }) (disch := omega) only [go_sem, h2]
    refine W_callp rfl ⟨rfl, rfl⟩ (by simp only [go_sem]; exact Write_ok (m := m) (m' := m') (below_stk _ _) (by simp only [go_sem, HP.push_rd_own]) (below_stk _ _) (by simp only [go_sem, HP.push_rd_own])) ?_
    simp (config := { maxSteps := 1000000 }) (disch := omega) only [go_sem]
    refine W_callp rfl ⟨rfl, rfl⟩ (by simp only [go_sem]; exact WriteAs_ok (m := m) (m' := m') (below_stk _ _) (by simp only [go_sem, HP.push_rd_own]) (below_stk _ _) (by simp only [go_sem, HP.push_rd_own])) ?_
    simp (config := { maxSteps := 1000000 }) (disch := omega) only [go_sem]
    refine W_callp rfl ⟨rfl, rfl⟩ (by simp only [go_sem]; exact Block_ok) ?_
    simp (config := { maxSteps := 1000000 }) (disch := omega) only [go_sem]
    refine W_callp rfl ⟨rfl, rfl⟩ (by simp only [go_sem]; exact BlockOf_ok) ?_
    simp (config := { maxSteps := 1000000 }) (disch := omega) only [go_sem]
    refine W_callp rfl ⟨rfl, rfl⟩ (by simp only [go_sem]; exact Union_ok (m := m) (m' := m') (below_stk _ _) (by simp only [go_sem, HP.push_rd_own]) (below_stk _ _) (by simp only [go_sem, HP.push_rd_own])) ?_
    simp (config := { maxSteps := 1000000 }) (disch := omega) only [go_sem]
    refine W_callp rfl ⟨rfl, rfl⟩ (by simp only [go_sem]; exact Both_ok (m := m) (m' := m') (below_stk _ _) (by simp only [go_sem, HP.push_rd_own]) (below_stk _ _) (by simp only [go_sem, HP.push_rd_own])) ?_
    simp (config := { maxSteps := 1000000 }) (disch := omega) only [go_sem]
    refine W_callp rfl ⟨rfl, rfl⟩ (by simp only [go_sem]; exact Inode_ok (m := m) (m' := m') u8 (below_stk _ _) (by simp only [go_sem, HP.push_rd_own]) (below_stk _ _) (by simp only [go_sem, HP.push_rd_own])) ?_
    simp (config := { maxSteps := 1000000 }) (disch := omega) only [go_sem]
    refine W_callp rfl ⟨rfl, rfl⟩ (by simp only [go_sem]; exact InodeAs_ok (m := m) (m' := m') u8 (below_stk _ _) (by simp only [go_sem, HP.push_rd_own]) (below_stk _ _) (by simp only [go_sem, HP.push_rd_own])) ?_
    simp (config := { maxSteps := 1000000 }) (disch := omega) only [go_sem]
    refine W_callp rfl ⟨rfl, rfl⟩ (by simp only [go_sem]; exact Entry_ok (m := m) (m' := m') u3 u4 (below_stk _ _) (by simp only [go_sem, HP.push_rd_own]) (below_stk _ _) (by simp only [go_sem, HP.push_rd_own])) ?_
    simp (config := { maxSteps := 1000000 }) (disch := omega) only [go_sem]
    refine W_callp rfl ⟨rfl, rfl⟩ (by simp only [go_sem]; exact EntryAs_ok (m := m) (m' := m') u3 u4 (below_stk _ _) (by simp only [go_sem, HP.push_rd_own]) (below_stk _ _) (by simp only [go_sem, HP.push_rd_own])) ?_
    simp (config := { maxSteps := 1000000 }) (disch := omega) only [go_sem]
theorem SafeCounts_ok {b : Int} : Ok tbl cx Fn.eiderdownlaw_SafeCounts (St.enter [m.enc, m'.enc, .int .i64 b] h) fun v h' => v = .bool true ∧ h' = h := by
  rw [Ok_eq]
  simp (config := { maxSteps := 1000000 }) (disch := omega) only [go_sem]
  refine W_callp rfl ⟨rfl, rfl⟩ (by simp only [go_sem]; exact safeBegun_ok) ?_
  simp (config := { maxSteps := 1000000 }) (disch := omega) only [go_sem]
  refine W_callp rfl ⟨rfl, rfl⟩ (by simp only [go_sem]; exact Great_ok) ?_
  simp (config := { maxSteps := 1000000 }) (disch := omega) only [go_sem]
  refine WG_intro (fun h1 => ?_) (fun h1 => ?_) <;> simp (config := { maxSteps := 1000000 }) (disch := omega) only [go_sem, h1]
  · refine W_callp rfl ⟨rfl, rfl⟩ (by simp only [go_sem]; exact Great_ok) ?_
    simp (config := { maxSteps := 1000000 }) (disch := omega) only [go_sem]
    refine WC_intro (fun h2 => ?_) (fun h2 => ?_) <;> simp (config := { maxSteps := 1000000 }) (disch := omega) only [go_sem, h2]
    refine W_callp rfl ⟨rfl, rfl⟩ (by simp only [go_sem]; exact Block_ok) ?_
    simp (config := { maxSteps := 1000000 }) (disch := omega) only [go_sem]
    obtain ⟨n, hn, e⟩ | ⟨n, hn, e⟩ | ⟨n, hn, e⟩ | e := blockOf_cases b
    · simp (config := { maxSteps := 1000000 }) (disch := omega) only [go_sem, e]
      refine W_callp rfl ⟨rfl, rfl⟩ (by simp only [go_sem]; exact Write_ok (m := m) (m' := m') (below_stk _ _) (by simp only [go_sem, HP.push_rd_own]) (below_stk _ _) (by simp only [go_sem, HP.push_rd_own])) ?_
      simp (config := { maxSteps := 1000000 }) (disch := omega) only [go_sem, writeAs_i e]
      refine W_for 4 (fun j => ⟨[(3, .ptr (.stk cx.lvl 3) [] tImage), (4, .ptr (.stk cx.lvl 4) [] tImage), (8, .int .i64 n), (9, .ptr (.stk cx.lvl 9) [] tImage), (11, .int .i64 (n + j : Nat))],
        [(3, ⟨tImage, m.enc⟩), (4, ⟨tImage, m'.enc⟩), (9, ⟨tImage, (wrInodes m m' n 4).enc⟩)], h⟩) (by simp only [go_sem] <;> rfl) fun j hj ih => ?_
      by_cases hlt : j < 4
      · have hI := wrInodes_ino m m' n 4 j (Nat.le_refl _) (by omega) hlt
        have d1 := inodeAs_dead m m' (n + j)
        have d2 := inodeAs_links m m' (n + j)
        have d3 := fun p hp => inodeAs_part m m' (n + j) p hp
        generalize inodeAs m m' (n + j) = I at hI d1 d2 d3
        simp (config := { maxSteps := 1000000 }) (disch := omega) only [go_sem, hlt, hI]
        refine WC_intro (fun h3 => ?_) (fun h3 => ?_) <;> simp (config := { maxSteps := 1000000 }) (disch := omega) only [go_sem, h3]
        · simp only [Bool.not_eq_true'] at h3
          obtain ⟨rfl, h4⟩ := d1 h3
          refine W_callp rfl ⟨rfl, rfl⟩ (by simp only [go_sem]; exact None_ok) ?_
          simp (config := { maxSteps := 1000000 }) (disch := omega) only [go_sem, h4]
          refine ih _ hlt ?_
          simp only [go_sem, Int.add_assoc]
        · simp only [Bool.not_eq_false'] at h3
          have d2' := d2 h3
          have e1 := refs_le_both m m' (n + j : Nat)
          have e2 := refs_le_both m' m (n + j : Nat)
          rw [both_comm] at e2
          refine W_callp rfl ⟨rfl, rfl⟩ (by simp only [go_sem]; rw [← Int.natCast_add]; exact Refs_ok (m := m') (below_stk _ _) (by simp only [go_sem, HP.push_rd_own])) ?_
          rw [Int.natCast_add] at *
          simp (config := { maxSteps := 1000000 }) (disch := omega) only [go_sem, h3, d2']
          refine W_callp rfl ⟨rfl, rfl⟩ (by simp only [go_sem]; rw [← Int.natCast_add]; exact Refs_ok (m := m) (below_stk _ _) (by simp only [go_sem, HP.push_rd_own])) ?_
          simp (config := { maxSteps := 1000000 }) (disch := omega) only [go_sem, h3, d2']
          refine W_for 2 (fun p => ⟨[(3, .ptr (.stk cx.lvl 3) [] tImage), (4, .ptr (.stk cx.lvl 4) [] tImage), (8, .int .i64 n), (9, .ptr (.stk cx.lvl 9) [] tImage), (11, .int .i64 (n + j)), (12, .ptr (.stk cx.lvl 12) [] tInode), (13, .int .i64 p)],
            [(3, ⟨tImage, m.enc⟩), (4, ⟨tImage, m'.enc⟩), (9, ⟨tImage, (wrInodes m m' n 4).enc⟩), (12, ⟨tInode, I.enc⟩)], h⟩) (by simp only [go_sem] <;> rfl) fun p hp ih' => ?_
          by_cases hp2 : p < 2
          · by_cases a4 : I.prt p = -1
            · by_cases a1 : (m'.ino (n + j)).live = true
              · by_cases a2 : (m'.ino (n + j)).stamp = I.stamp
                · simp (config := { maxSteps := 1000000 }) (disch := omega) only [go_sem, hp2, a1, a2, a4]
                  refine ih' _ hp2 ?_
                  simp only [go_sem, Int.add_assoc]
                · simp (config := { maxSteps := 1000000 }) (disch := omega) only [go_sem, hp2, a1, a2, a4]
                  refine ih' _ hp2 ?_
                  simp only [go_sem, Int.add_assoc]
              · simp only [Bool.not_eq_true] at a1
                simp (config := { maxSteps := 1000000 }) (disch := omega) only [go_sem, hp2, a1, a4]
                refine ih' _ hp2 ?_
                simp only [go_sem, Int.add_assoc]
            · obtain a | ⟨a1, a2, a3⟩ | ⟨b1, b2, b3⟩ := d3 p hp2 h3
              · exact absurd a a4
              · simp (config := { maxSteps := 1000000 }) (disch := omega) only [go_sem, hp2, a1, a2, a3, a4]
                refine ih' _ hp2 ?_
                simp only [go_sem, Int.add_assoc]
              · by_cases a1 : (m'.ino (n + j)).live = true
                · by_cases a2 : (m'.ino (n + j)).stamp = I.stamp
                  · by_cases a3 : (m'.ino (n + j)).prt p = I.prt p
                    · simp (config := { maxSteps := 1000000 }) (disch := omega) only [go_sem, hp2, a1, a2, a3, a4]
                      refine ih' _ hp2 ?_
                      simp only [go_sem, Int.add_assoc]
                    · simp (config := { maxSteps := 1000000 }) (disch := omega) only [go_sem, hp2, a1, a2, a3, a4, b3]
                      refine ih' _ hp2 ?_
                      simp only [go_sem, Int.add_assoc]
                  · simp (config := { maxSteps := 1000000 }) (disch := omega) only [go_sem, hp2, a1, a2, a4, b3]
                    refine ih' _ hp2 ?_
                    simp only [go_sem, Int.add_assoc]
                · simp only [Bool.not_eq_true] at a1
                  simp (config := { maxSteps := 1000000 }) (disch := omega) only [go_sem, hp2, a1, a4, b3]
                  refine ih' _ hp2 ?_
                  simp only [go_sem, Int.add_assoc]
          · obtain rfl : p = 2 := by omega
            simp (config := { maxSteps := 1000000 }) (disch := omega) only [go_sem]
            refine ih _ hlt ?_
            simp only [go_sem, Int.add_assoc]
      · obtain rfl : j = 4 := by omega
        simp (config := { maxSteps := 1000000 }) (disch := omega) only [go_sem]
    all_goals simp (config := { maxSteps := 1000000 }) (disch := omega) only [go_sem, e]
end
end Go.Mini
