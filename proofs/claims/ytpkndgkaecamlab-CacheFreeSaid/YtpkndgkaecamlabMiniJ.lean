/- A part of the proof: MiniJ. -/
import Derived.Test.YtpkndgkaecamlabMiniI
namespace Go.Mini
set_option linter.unusedSimpArgs false
set_option linter.unusedVariables false
set_option maxHeartbeats 4000000
set_option maxRecDepth 100000

def part (now disk : Img) (n p : Nat) : Int :=
  let x := (now.ino n).prt p
  if x < 0 ∨ 9 ≤ x then -1 else if (disk.dat x.toNat).of = (now.ino n).stamp then x
    else if (disk.ino n).live = true ∧ (disk.ino n).stamp = (now.ino n).stamp then (disk.ino n).prt p else -1
def inodeAs (now disk : Img) (n : Nat) : Ino :=
  if (now.ino n).live = true then ⟨(now.ino n).live, (now.ino n).stamp, both now disk n, #v[part now disk n 0, part now disk n 1]⟩
  else if (disk.ino n).live = true ∧ 0 < both now disk n then { disk.ino n with links := both now disk n } else Ino.none
section
variable {cx : Cx} {h : HP} {p p' : Id} {q q' : List Nat} {m m' : Img}
theorem part_ok {n j : Nat} (hn : n < 8) (hj : j < 2) (hb : p.below cx.lvl) (hm : h.rd p q = some m.enc) (hb' : p'.below cx.lvl) (hm' : h.rd p' q' = some m'.enc) :
    Ok tbl cx Fn.safe_part (St.enter [.ptr p q tImage, .ptr p' q' tImage, .int .i64 n, .int .i64 j] h) fun v h' => v = .int .i64 (part m m' n j) ∧ h' = h := by
  rw [Ok_eq]
  simp (config := { maxSteps := 1000000 }) (disch := omega) only [go_sem, rd_ext hb, HP.rd_app hm, fg_ptr hb, leads_ptr hb, apart_ptr hb, rd_ext hb', HP.rd_app hm', fg_ptr hb', leads_ptr hb', apart_ptr hb']
  by_cases h0 : (m.ino n).prt j < 0
  · simp (config := { maxSteps := 1000000 }) (disch := omega) only [go_sem, h0]; simp only [part, h0, true_or, if_true]
  by_cases h9 : 9 ≤ (m.ino n).prt j
  · simp (config := { maxSteps := 1000000 }) (disch := omega) only [go_sem, h0, h9]; simp only [part, h9, or_true, if_true]
  simp (config := { maxSteps := 1000000 }) (disch := omega) only [go_sem, h0, h9, rd_ext hb, HP.rd_app hm, fg_ptr hb, leads_ptr hb, apart_ptr hb, rd_ext hb', HP.rd_app hm', fg_ptr hb', leads_ptr hb', apart_ptr hb']
  have hx : ¬((m.ino n).prt j < 0 ∨ 9 ≤ (m.ino n).prt j) := by omega
  refine WC_intro (fun h1 => ?_) (fun h1 => ?_) <;> simp (config := { maxSteps := 1000000 }) (disch := omega) only [go_sem, h1, rd_ext hb, HP.rd_app hm, fg_ptr hb, leads_ptr hb, apart_ptr hb, rd_ext hb', HP.rd_app hm', fg_ptr hb', leads_ptr hb', apart_ptr hb']
  · simp only [decide_eq_true_eq] at h1
    simp only [part, hx, h1, if_true, if_false]
  simp only [decide_eq_false_iff_not] at h1
  refine WG_intro (fun h2 => ?_) (fun h2 => ?_) <;> simp (config := { maxSteps := 1000000 }) (disch := omega) only [go_sem, h2, rd_ext hb, HP.rd_app hm, fg_ptr hb, leads_ptr hb, apart_ptr hb, rd_ext hb', HP.rd_app hm', fg_ptr hb', leads_ptr hb', apart_ptr hb']
  · refine WC_intro (fun h3 => ?_) (fun h3 => ?_) <;> simp (config := { maxSteps := 1000000 }) (disch := omega) only [go_sem, h3, rd_ext hb, HP.rd_app hm, fg_ptr hb, leads_ptr hb, apart_ptr hb, rd_ext hb', HP.rd_app hm', fg_ptr hb', leads_ptr hb', apart_ptr hb']
    · simp only [decide_eq_true_eq] at h3
      simp only [part, hx, h1, h2, h3, if_true, if_false, and_self]
    · simp only [decide_eq_false_iff_not] at h3
      simp only [part, hx, h1, h2, h3, if_true, if_false, and_false]
  · simp [part, hx, h1, h2]
@[go_sem] theorem set01 (v : Vector Int 2) (a b : Int) (h : 0 < 2) (h' : 1 < 2) : (v.set 0 a h).set 1 b h' = #v[a, b] := by
  ext i hi
  obtain rfl | rfl : i = 0 ∨ i = 1 := by omega
  all_goals simp
theorem Inode_ok {n : Nat} (hn : n < 8) (hb : p.below cx.lvl) (hm : h.rd p q = some m.enc) (hb' : p'.below cx.lvl) (hm' : h.rd p' q' = some m'.enc) :
    Ok tbl cx Fn.safe_Inode (St.enter [.ptr p q tImage, .ptr p' q' tImage, .int .i64 n] h) fun v h' => v = (inodeAs m m' n).enc ∧ h' = h := by
  rw [Ok_eq]
  simp (config := { maxSteps := 1000000 }) (disch := omega) only [go_sem, rd_ext hb, HP.rd_app hm, fg_ptr hb, leads_ptr hb, apart_ptr hb, rd_ext hb', HP.rd_app hm', fg_ptr hb', leads_ptr hb', apart_ptr hb']
  refine W_callp rfl ⟨rfl, rfl⟩ (by simp only [go_sem]; exact Union_ok (m := m) (m' := m') hb.succ (by simp only [HP.push_rd_ext hb, hm]) hb'.succ (by simp only [HP.push_rd_ext hb', hm'])) ?_
  simp (config := { maxSteps := 1000000 }) (disch := omega) only [go_sem, rd_ext hb, HP.rd_app hm, fg_ptr hb, leads_ptr hb, apart_ptr hb, rd_ext hb', HP.rd_app hm', fg_ptr hb', leads_ptr hb', apart_ptr hb']
  refine WC_intro (fun h1 => ?_) (fun h1 => ?_) <;> simp (config := { maxSteps := 1000000 }) (disch := omega) only [go_sem, h1, rd_ext hb, HP.rd_app hm, fg_ptr hb, leads_ptr hb, apart_ptr hb, rd_ext hb', HP.rd_app hm', fg_ptr hb', leads_ptr hb', apart_ptr hb']
  · refine WG_intro (fun h2 => ?_) (fun h2 => ?_) <;> simp (config := { maxSteps := 1000000 }) (disch := omega) only [go_sem, h2, rd_ext hb, HP.rd_app hm, fg_ptr hb, leads_ptr hb, apart_ptr hb, rd_ext hb', HP.rd_app hm', fg_ptr hb', leads_ptr hb', apart_ptr hb']
    · refine WC_intro (fun h3 => ?_) (fun h3 => ?_) <;> simp (config := { maxSteps := 1000000 }) (disch := omega) only [go_sem, h3, rd_ext hb, HP.rd_app hm, fg_ptr hb, leads_ptr hb, apart_ptr hb, rd_ext hb', HP.rd_app hm', fg_ptr hb', leads_ptr hb', apart_ptr hb']
      · simp at h1 h3
        simp [inodeAs, h1, h2, h3]
      · refine W_callp rfl ⟨rfl, rfl⟩ (by simp only [go_sem]; exact Free_ok) ?_
        simp (config := { maxSteps := 1000000 }) (disch := omega) only [go_sem]
        simp at h1 h3
        simp [inodeAs, h1, h2, h3]
    · refine W_callp rfl ⟨rfl, rfl⟩ (by simp only [go_sem]; exact Free_ok) ?_
      simp (config := { maxSteps := 1000000 }) (disch := omega) only [go_sem]
      simp at h1 h2
      simp [inodeAs, h1, h2]
  · simp only [W_round, W_again]
    simp (config := { maxSteps := 1000000 }) (disch := omega) only [go_sem]
    refine W_callp rfl ⟨rfl, rfl⟩ (by simp only [go_sem]; exact part_ok (n := n) (j := 0) (m := m) (m' := m') hn (by omega) hb.succ (by simp only [HP.push_rd_ext hb, hm]) hb'.succ (by simp only [HP.push_rd_ext hb', hm'])) ?_
    simp (config := { maxSteps := 1000000 }) (disch := omega) only [go_sem, W_round, W_again]
    refine W_callp rfl ⟨rfl, rfl⟩ (by simp only [go_sem]; exact part_ok (n := n) (j := 1) (m := m) (m' := m') hn (by omega) hb.succ (by simp only [HP.push_rd_ext hb, hm]) hb'.succ (by simp only [HP.push_rd_ext hb', hm'])) ?_
    simp (config := { maxSteps := 1000000 }) (disch := omega) only [go_sem, W_round, W_again]
    simp at h1
    simp [inodeAs, h1]
def prts (now disk : Img) (n j : Nat) : Vector Int 2 := Vector.ofFn fun p : Fin 2 => if p.val < j then part now disk n p else (now.ino n).prt p
@[go_sem] theorem prts_at {n j : Nat} (h : j < 2) : (prts m m' n j)[j]'h = (m.ino n).prt j := by simp [prts]
theorem prts_set {n j : Nat} (h : j < 2) {x : Int} (hx : x = part m m' n j) : (prts m m' n j).set j x h = prts m m' n (j + 1) := by
  ext i hi
  simp only [prts, Vector.getElem_set, Vector.getElem_ofFn]
  by_cases e : j = i
  · subst e; simp [hx]
  · have : (i < j + 1) = (i < j) := by apply propext; omega
    simp [e, this]
theorem prts_same {n j : Nat} (h : j < 2) (hx : (m.ino n).prt j = part m m' n j) : prts m m' n (j + 1) = prts m m' n j := by
  rw [← prts_set h hx]
  ext i hi
  simp only [Vector.getElem_set]
  by_cases e : j = i
  · subst e; simp [prts]
  · simp [e]
theorem prts_0 (n : Nat) : prts m m' n 0 = (m.ino n).part := by
  ext i hi; simp [prts, Ino.prt, hi]
theorem prts_2 (n : Nat) : prts m m' n 2 = #v[part m m' n 0, part m m' n 1] := by
  ext i hi
  obtain rfl | rfl : i = 0 ∨ i = 1 := by omega
  all_goals simp [prts]
theorem InodeAs_ok {n : Nat} (hn : n < 8) (hb : p.below cx.lvl) (hm : h.rd p q = some m.enc) (hb' : p'.below cx.lvl) (hm' : h.rd p' q' = some m'.enc) :
    Ok tbl cx Fn.eiderdownref_InodeAs (St.enter [.ptr p q tImage, .ptr p' q' tImage, .int .i64 n] h) fun v h' => v = (inodeAs m m' n).enc ∧ h' = h := by
  rw [Ok_eq]
  simp (config := { maxSteps := 1000000 }) (disch := omega) only [go_sem, rd_ext hb, HP.rd_app hm, fg_ptr hb, leads_ptr hb, apart_ptr hb, rd_ext hb', HP.rd_app hm', fg_ptr hb', leads_ptr hb', apart_ptr hb']
  refine WC_intro (fun h1 => ?_) (fun h1 => ?_) <;> simp (config := { maxSteps := 1000000 }) (disch := omega) only [go_sem, h1, rd_ext hb, HP.rd_app hm, fg_ptr hb, leads_ptr hb, apart_ptr hb, rd_ext hb', HP.rd_app hm', fg_ptr hb', leads_ptr hb', apart_ptr hb']
  · simp at h1
    refine WG_intro (fun h2 => ?_) (fun h2 => ?_) <;> simp (config := { maxSteps := 1000000 }) (disch := omega) only [go_sem, h2, rd_ext hb, HP.rd_app hm, fg_ptr hb, leads_ptr hb, apart_ptr hb, rd_ext hb', HP.rd_app hm', fg_ptr hb', leads_ptr hb', apart_ptr hb']
    · simp at h2
      refine W_callp rfl ⟨rfl, rfl⟩ (by simp only [go_sem]; exact Both_ok (m := m) (m' := m') hb.succ (by simp only [HP.push_rd_ext hb, hm]) hb'.succ (by simp only [HP.push_rd_ext hb', hm'])) ?_
      simp (config := { maxSteps := 1000000 }) (disch := omega) only [go_sem, rd_ext hb, HP.rd_app hm, fg_ptr hb, leads_ptr hb, apart_ptr hb, rd_ext hb', HP.rd_app hm', fg_ptr hb', leads_ptr hb', apart_ptr hb']
      refine WC_intro (fun h3 => ?_) (fun h3 => ?_) <;> simp (config := { maxSteps := 1000000 }) (disch := omega) only [go_sem, h3, rd_ext hb, HP.rd_app hm, fg_ptr hb, leads_ptr hb, apart_ptr hb, rd_ext hb', HP.rd_app hm', fg_ptr hb', leads_ptr hb', apart_ptr hb']
      · refine W_callp rfl ⟨rfl, rfl⟩ (by simp only [go_sem]; exact None_ok) ?_
        simp (config := { maxSteps := 1000000 }) (disch := omega) only [go_sem]
        simp at h3
        simp [inodeAs, h1, h2, h3]
      · refine W_callp rfl ⟨rfl, rfl⟩ (by simp only [go_sem]; exact Both_ok (m := m) (m' := m') hb.succ (by simp only [HP.push_rd_ext hb, hm]) hb'.succ (by simp only [HP.push_rd_ext hb', hm'])) ?_
        simp (config := { maxSteps := 1000000 }) (disch := omega) only [go_sem, rd_ext hb, HP.rd_app hm, fg_ptr hb, leads_ptr hb, apart_ptr hb, rd_ext hb', HP.rd_app hm', fg_ptr hb', leads_ptr hb', apart_ptr hb']
        simp at h3
        have h4 : 0 < both m m' n := by omega
        simp [inodeAs, h1, h2, h4]
    · simp at h2
      refine W_callp rfl ⟨rfl, rfl⟩ (by simp only [go_sem]; exact None_ok) ?_
      simp (config := { maxSteps := 1000000 }) (disch := omega) only [go_sem]
      simp [inodeAs, h1, h2]
  · simp at h1
    refine W_callp rfl ⟨rfl, rfl⟩ (by simp only [go_sem]; exact Both_ok (m := m) (m' := m') hb.succ (by simp only [HP.push_rd_ext hb, hm]) hb'.succ (by simp only [HP.push_rd_ext hb', hm'])) ?_
    simp (config := { maxSteps := 1000000 }) (disch := omega) only [go_sem, rd_ext hb, HP.rd_app hm, fg_ptr hb, leads_ptr hb, apart_ptr hb, rd_ext hb', HP.rd_app hm', fg_ptr hb', leads_ptr hb', apart_ptr hb']
    refine W_for 2 (fun j => ⟨[(1, .ptr p' q' tImage), (2, .int .i64 n), (6, .ptr (.stk cx.lvl 6) [] tInode), (7, .ptr (.stk cx.lvl 7) [] tInode), (8, .int .i64 j)],
      [(6, ⟨tInode, Ino.zero.enc⟩), (7, ⟨tInode, Ino.enc ⟨(m.ino n).live, (m.ino n).stamp, both m m' n, prts m m' n j⟩⟩)], h⟩) (by simp only [go_sem, prts_0]) fun j hj ih => ?_
    by_cases hlt : j < 2
    · simp (config := { maxSteps := 1000000 }) (disch := omega) only [go_sem, rd_ext hb, HP.rd_app hm, fg_ptr hb, leads_ptr hb, apart_ptr hb, rd_ext hb', HP.rd_app hm', fg_ptr hb', leads_ptr hb', apart_ptr hb', hlt]
      by_cases h0 : (m.ino n).prt j < 0
      · simp (config := { maxSteps := 1000000 }) (disch := omega) only [go_sem, h0, hlt]
        refine ih _ hlt ?_
        simp only [go_sem, part, h0, true_or, if_true, prts_set hlt]
      by_cases h9 : 9 ≤ (m.ino n).prt j
      · simp (config := { maxSteps := 1000000 }) (disch := omega) only [go_sem, h0, h9, hlt]
        refine ih _ hlt ?_
        simp only [go_sem, part, h9, or_true, if_true, prts_set hlt]
      simp (config := { maxSteps := 1000000 }) (disch := omega) only [go_sem, h0, h9, rd_ext hb, HP.rd_app hm, fg_ptr hb, leads_ptr hb, apart_ptr hb, rd_ext hb', HP.rd_app hm', fg_ptr hb', leads_ptr hb', apart_ptr hb', hlt]
      have hx : ¬((m.ino n).prt j < 0 ∨ 9 ≤ (m.ino n).prt j) := by omega
      refine WC_intro (fun h2 => ?_) (fun h2 => ?_) <;> simp (config := { maxSteps := 1000000 }) (disch := omega) only [go_sem, h2, rd_ext hb, HP.rd_app hm, fg_ptr hb, leads_ptr hb, apart_ptr hb, rd_ext hb', HP.rd_app hm', fg_ptr hb', leads_ptr hb', apart_ptr hb', hlt]
      · simp only [decide_eq_true_eq] at h2
        refine ih _ hlt ?_
        have := prts_same (m := m) (m' := m') (n := n) hlt (by simp only [part, hx, h2, if_true, if_false])
        simp only [go_sem, this]
      simp only [decide_eq_false_iff_not] at h2
      refine WG_intro (fun h3 => ?_) (fun h3 => ?_) <;> simp (config := { maxSteps := 1000000 }) (disch := omega) only [go_sem, h3, rd_ext hb, HP.rd_app hm, fg_ptr hb, leads_ptr hb, apart_ptr hb, rd_ext hb', HP.rd_app hm', fg_ptr hb', leads_ptr hb', apart_ptr hb', hlt]
      · refine WC_intro (fun h4 => ?_) (fun h4 => ?_) <;> simp (config := { maxSteps := 1000000 }) (disch := omega) only [go_sem, h4, rd_ext hb, HP.rd_app hm, fg_ptr hb, leads_ptr hb, apart_ptr hb, rd_ext hb', HP.rd_app hm', fg_ptr hb', leads_ptr hb', apart_ptr hb', hlt]
        · simp only [decide_eq_true_eq] at h4
          refine ih _ hlt ?_
          simp only [go_sem]
          rw [prts_set hlt (by simp only [part, hx, h2, h3, h4, if_true, if_false, and_self])]
        · simp only [decide_eq_false_iff_not] at h4
          refine ih _ hlt ?_
          simp only [go_sem]
          rw [prts_set hlt (by simp only [part, hx, h2, h3, h4, if_true, if_false, and_false])]
      · refine ih _ hlt ?_
        simp only [go_sem]
        rw [prts_set hlt (by simp [part, hx, h2, h3])]
    · obtain rfl : j = 2 := by omega
      simp (config := { maxSteps := 1000000 }) (disch := omega) only [go_sem]
      simp [inodeAs, h1, prts_2]
end
end Go.Mini
