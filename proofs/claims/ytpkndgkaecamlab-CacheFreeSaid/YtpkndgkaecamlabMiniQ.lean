/- A part of the proof: MiniQ. -/
import Derived.Test.YtpkndgkaecamlabMiniP
namespace Go.Mini
set_option linter.unusedSimpArgs false
set_option linter.unusedVariables false
set_option maxHeartbeats 4000000
set_option maxRecDepth 100000

def Img.small (m : Img) : Prop := ∀ d s, (m.ent d s).name.size ≤ 100000
def entryFault (m : Img) (d s : Nat) : Int :=
  let e := m.ent d s
  if e.name = ⟨#[]⟩ then (if e = Ent.zero then 0 else 12)
  else if isName e.name = false then 2
  else if anyN s (fun k => decide ((m.ent d k).name = e.name)) = true then 4
  else if e.ino < 0 ∨ 8 ≤ e.ino then 1
  else if (m.ino e.ino.toNat).live = true ∧ (m.ino e.ino.toNat).stamp = e.stamp then 0 else 8
def partFault (m : Img) (i : Ino) (p : Nat) : Int :=
  if i.prt p < -1 ∨ 9 ≤ i.prt p then 1 else if 0 ≤ i.prt p ∧ ¬(m.dat (i.prt p).toNat).of = i.stamp then 10 else 0
def inoFault (m : Img) (n : Nat) : Int :=
  let i := m.ino n
  if i.live = false then (if i = Ino.none then 0 else 12)
  else if i.stamp < 1 ∨ i.links < refs m n then 9
  else firstI 2 (partFault m i)
def dirFault (m : Img) (d : Nat) : Int := firstI 4 (entryFault m d)
def check (m : Img) : Int :=
  if firstI 3 (dirFault m) ≠ 0 then firstI 3 (dirFault m)
  else if firstI 8 (inoFault m) ≠ 0 then firstI 8 (inoFault m)
  else if twice m = true then 11 else 0
section
variable {cx : Cx} {h : HP} {p p' : Id} {q q' : List Nat} {m m' : Img}
theorem entry_ok {d s : Nat} (hd : d < 3) (hs : s < 4) (hg : m.small) (hb : p.below cx.lvl) (hm : h.rd p q = some m.enc) :
    Ok tbl cx Fn.image_entry (St.enter [.ptr p q tImage, .int .i64 d, .int .i64 s] h) fun v h' => v = .int .i64 (entryFault m d s) ∧ h' = h := by
  rw [Ok_eq]
  simp (config := { maxSteps := 1000000 }) (disch := omega) only [go_sem, rd_ext hb, HP.rd_app hm, fg_ptr hb, leads_ptr hb, apart_ptr hb]
  by_cases h1 : (m.ent d s).name = ⟨#[]⟩
  · simp (config := { maxSteps := 1000000 }) (disch := omega) only [go_sem, h1]
    by_cases h2 : m.ent d s = Ent.zero
    · simp (config := { maxSteps := 1000000 }) (disch := omega) only [go_sem, h2]; simp [entryFault, h2, show Ent.zero.name = ⟨#[]⟩ from rfl]
    · simp (config := { maxSteps := 1000000 }) (disch := omega) only [go_sem, h2]; simp [entryFault, h1, h2]
  simp (config := { maxSteps := 1000000 }) (disch := omega) only [go_sem, h1]
  refine W_callp rfl ⟨rfl, rfl⟩ (by simp only [go_sem]; exact Name_ok (hg d s)) ?_
  simp (config := { maxSteps := 1000000 }) (disch := omega) only [go_sem, rd_ext hb, HP.rd_app hm, fg_ptr hb, leads_ptr hb, apart_ptr hb]
  cases h2 : isName (m.ent d s).name with
  | false => simp (config := { maxSteps := 1000000 }) (disch := omega) only [go_sem, h2]; simp [entryFault, h1, h2]
  | true =>
    simp (config := { maxSteps := 1000000 }) (disch := omega) only [go_sem, h2]
    refine W_forP s (fun j => ⟨[(0, .ptr p q tImage), (1, .int .i64 d), (7, .ptr (.stk cx.lvl 7) [] tEntry), (28, .int .i64 s), (29, .int .i64 j)], [(7, ⟨tEntry, (m.ent d s).enc⟩)], h⟩) (fun j => ∀ i, i < j → decide ((m.ent d i).name = (m.ent d s).name) = false) (by simp only [go_sem] <;> rfl) (fun i hi => by omega) fun j hj hp ih => ?_
    by_cases hlt : j < s
    · simp (config := { maxSteps := 1000000 }) (disch := omega) only [go_sem, hlt, rd_ext hb, HP.rd_app hm, fg_ptr hb, leads_ptr hb, apart_ptr hb]
      by_cases h3 : (m.ent d j).name = (m.ent d s).name
      · simp (config := { maxSteps := 1000000 }) (disch := omega) only [go_sem, h3]
        have : anyN s (fun k => decide ((m.ent d k).name = (m.ent d s).name)) = true := anyN_at hlt (by simp [h3])
        simp [entryFault, h1, h2, this]
      · simp (config := { maxSteps := 1000000 }) (disch := omega) only [go_sem, h3]
        refine ih _ hlt (step_all hp (by simp [h3])) ?_
        simp only [go_sem]
    · obtain rfl : j = s := by omega
      have h3 : anyN j (fun k => decide ((m.ent d k).name = (m.ent d j).name)) = false := anyN_false.2 hp
      simp (config := { maxSteps := 1000000 }) (disch := omega) only [go_sem]
      by_cases h4 : (m.ent d j).ino < 0
      · simp (config := { maxSteps := 1000000 }) (disch := omega) only [go_sem, h4]; simp [entryFault, h1, h2, h3, h4]
      by_cases h5 : 8 ≤ (m.ent d j).ino
      · simp (config := { maxSteps := 1000000 }) (disch := omega) only [go_sem, h4, h5]; simp [entryFault, h1, h2, h3, h5]
      simp (config := { maxSteps := 1000000 }) (disch := omega) only [go_sem, h4, h5, rd_ext hb, HP.rd_app hm, fg_ptr hb, leads_ptr hb, apart_ptr hb]
      have h45 : ¬((m.ent d j).ino < 0 ∨ 8 ≤ (m.ent d j).ino) := by omega
      cases h6 : (m.ino (m.ent d j).ino.toNat).live with
      | false => simp (config := { maxSteps := 1000000 }) (disch := omega) only [go_sem, h6]; simp [entryFault, h1, h2, h3, h45, h6]
      | true =>
        by_cases h7 : (m.ino (m.ent d j).ino.toNat).stamp = (m.ent d j).stamp
        · simp (config := { maxSteps := 1000000 }) (disch := omega) only [go_sem, h6, h7]; simp [entryFault, h1, h2, h3, h45, h6, h7]
        · simp (config := { maxSteps := 1000000 }) (disch := omega) only [go_sem, h6, h7]; simp [entryFault, h1, h2, h3, h45, h6, h7]
theorem inode_ok {n : Nat} (hn : n < 8) (hb : p.below cx.lvl) (hm : h.rd p q = some m.enc) :
    Ok tbl cx Fn.image_inode (St.enter [.ptr p q tImage, .int .i64 n] h) fun v h' => v = .int .i64 (inoFault m n) ∧ h' = h := by
  rw [Ok_eq]
  simp (config := { maxSteps := 1000000 }) (disch := omega) only [go_sem, rd_ext hb, HP.rd_app hm, fg_ptr hb, leads_ptr hb, apart_ptr hb]
  cases h1 : (m.ino n).live with
  | false =>
    simp (config := { maxSteps := 1000000 }) (disch := omega) only [go_sem, h1, rd_ext hb, HP.rd_app hm, fg_ptr hb, leads_ptr hb, apart_ptr hb]
    refine W_callp rfl ⟨rfl, rfl⟩ (by simp only [go_sem]; exact Free_ok) ?_
    by_cases h2 : m.ino n = Ino.none
    · simp (config := { maxSteps := 1000000 }) (disch := omega) only [go_sem, h2]; simp [inoFault, h2, show Ino.none.live = false from rfl]
    · simp (config := { maxSteps := 1000000 }) (disch := omega) only [go_sem, h2]; simp [inoFault, h1, h2]
  | true =>
    simp (config := { maxSteps := 1000000 }) (disch := omega) only [go_sem, h1, rd_ext hb, HP.rd_app hm, fg_ptr hb, leads_ptr hb, apart_ptr hb]
    by_cases h2 : (m.ino n).stamp < 1
    · simp (config := { maxSteps := 1000000 }) (disch := omega) only [go_sem, h2]; simp [inoFault, h1, h2]
    simp (config := { maxSteps := 1000000 }) (disch := omega) only [go_sem, h2]
    refine W_callp rfl ⟨rfl, rfl⟩ (by simp only [go_sem]; exact Refs_ok (m := m) hb.succ (by simp only [HP.push_rd_ext hb, hm])) ?_
    simp (config := { maxSteps := 1000000 }) (disch := omega) only [go_sem, h2]
    by_cases h3 : (m.ino n).links < refs m n
    · simp (config := { maxSteps := 1000000 }) (disch := omega) only [go_sem, h2, h3]; simp [inoFault, h1, h3]
    have h23 : ¬((m.ino n).stamp < 1 ∨ (m.ino n).links < refs m n) := by simp only [not_or]; exact ⟨h2, h3⟩
    have e : inoFault m n = firstI 2 (partFault m (m.ino n)) := by simp only [inoFault, h1, Bool.true_eq_false, if_false, h23]
    simp (config := { maxSteps := 1000000 }) (disch := omega) only [go_sem, h3]
    refine W_forP 2 (fun j => ⟨[(0, .ptr p q tImage), (5, .ptr (.stk cx.lvl 5) [] tInode), (32, encV (AV.int .i64) (m.ino n).part), (33, .int .i64 j)], [(5, ⟨tInode, (m.ino n).enc⟩)], h⟩) (fun j => ∀ i, i < j → partFault m (m.ino n) i = 0) (by simp only [go_sem] <;> rfl) (fun i hi => by omega) fun j hj hp ih => ?_
    by_cases hlt : j < 2
    · simp (config := { maxSteps := 1000000 }) (disch := omega) only [go_sem, hlt, rd_ext hb, HP.rd_app hm, fg_ptr hb, leads_ptr hb, apart_ptr hb]
      by_cases h4 : (m.ino n).prt j < -1
      · simp (config := { maxSteps := 1000000 }) (disch := omega) only [go_sem, h4]
        have : partFault m (m.ino n) j = 1 := by simp [partFault, h4]
        rw [e, firstI_at hp (by rw [this]; decide) hlt, this]
      by_cases h5 : 9 ≤ (m.ino n).prt j
      · simp (config := { maxSteps := 1000000 }) (disch := omega) only [go_sem, h4, h5]
        have : partFault m (m.ino n) j = 1 := by simp [partFault, h5]
        rw [e, firstI_at hp (by rw [this]; decide) hlt, this]
      have h45 : ¬((m.ino n).prt j < -1 ∨ 9 ≤ (m.ino n).prt j) := by omega
      by_cases h6 : 0 ≤ (m.ino n).prt j
      · by_cases h7 : (m.dat ((m.ino n).prt j).toNat).of = (m.ino n).stamp
        · simp (config := { maxSteps := 1000000 }) (disch := omega) only [go_sem, h4, h5, h6, rd_ext hb, HP.rd_app hm, fg_ptr hb, leads_ptr hb, apart_ptr hb, h7]
          refine ih _ hlt (step_all hp (by simp [partFault, h45, h7])) ?_
          simp only [go_sem]
        · simp (config := { maxSteps := 1000000 }) (disch := omega) only [go_sem, h4, h5, h6, rd_ext hb, HP.rd_app hm, fg_ptr hb, leads_ptr hb, apart_ptr hb, h7]
          have : partFault m (m.ino n) j = 10 := by simp only [partFault, h45, h6, h7, if_false, not_false_eq_true, and_self, if_true]
          rw [e, firstI_at hp (by rw [this]; decide) hlt, this]
      · simp (config := { maxSteps := 1000000 }) (disch := omega) only [go_sem, h4, h5, h6, rd_ext hb, HP.rd_app hm, fg_ptr hb, leads_ptr hb, apart_ptr hb]
        refine ih _ hlt (step_all hp (by simp only [partFault, h45, h6, if_false, false_and])) ?_
        simp only [go_sem]
    · obtain rfl : j = 2 := by omega
      simp (config := { maxSteps := 1000000 }) (disch := omega) only [go_sem, e]
      rw [firstI_zero.2 hp]
theorem check_1 {d s : Nat} (h0 : ∀ i, i < d → dirFault m i = 0) (hd : d < 3) (h1 : ∀ i, i < s → entryFault m d i = 0) (hs : s < 4) (h2 : entryFault m d s ≠ 0) : check m = entryFault m d s := by
  have e1 : dirFault m d = entryFault m d s := firstI_at h1 h2 hs
  have e2 : firstI 3 (dirFault m) = dirFault m d := firstI_at h0 (by rw [e1]; exact h2) hd
  rw [check, if_pos (by rw [e2, e1]; exact h2), e2, e1]
theorem check_2 {n : Nat} (h0 : ∀ i, i < 3 → dirFault m i = 0) (h1 : ∀ i, i < n → inoFault m i = 0) (hn : n < 8) (h2 : inoFault m n ≠ 0) : check m = inoFault m n := by
  have e1 : firstI 8 (inoFault m) = inoFault m n := firstI_at h1 h2 hn
  rw [check, if_neg (by rw [firstI_zero.2 h0]; simp), if_pos (by rw [e1]; exact h2), e1]
theorem check_3 (h0 : ∀ i, i < 3 → dirFault m i = 0) (h1 : ∀ i, i < 8 → inoFault m i = 0) : check m = if twice m = true then 11 else 0 := by
  rw [check, if_neg (by rw [firstI_zero.2 h0]; simp), if_neg (by rw [firstI_zero.2 h1]; simp)]
theorem Check_ok (hg : m.small) (hb : p.below cx.lvl) (hm : h.rd p q = some m.enc) :
    Ok tbl cx Fn.image_Check (St.enter [.ptr p q tImage] h) fun v h' => v = .int .i64 (check m) ∧ h' = h := by
  rw [Ok_eq]
  simp (config := { maxSteps := 1000000 }) (disch := omega) only [go_sem]
  refine W_forP 3 (fun d => ⟨[(0, .ptr p q tImage), (8, .int .i64 d)], [], h⟩) (fun d => ∀ i, i < d → dirFault m i = 0) (by simp only [go_sem] <;> rfl) (fun i hi => by omega) fun d hd hp ih => ?_
  by_cases hlt : d < 3
  · simp (config := { maxSteps := 1000000 }) (disch := omega) only [go_sem]
    refine W_forP 4 (fun s => ⟨[(0, .ptr p q tImage), (3, .int .i64 d), (8, .int .i64 d), (11, .int .i64 s)], [], h⟩) (fun s => ∀ i, i < s → entryFault m d i = 0) (by simp only [go_sem] <;> rfl) (fun i hi => by omega) fun s hs hp' ih' => ?_
    by_cases hlt' : s < 4
    · simp (config := { maxSteps := 1000000 }) (disch := omega) only [go_sem]
      refine W_callp rfl ⟨rfl, rfl⟩ (by simp only [go_sem]; exact entry_ok (m := m) hlt hlt' hg hb.succ (by simp only [HP.push_rd_ext hb, hm])) ?_
      simp (config := { maxSteps := 1000000 }) (disch := omega) only [go_sem]
      by_cases h1 : entryFault m d s = 0
      · simp (config := { maxSteps := 1000000 }) (disch := omega) only [go_sem, h1]
        refine ih' _ hlt' (step_all hp' h1) ?_
        simp only [go_sem]
      · simp (config := { maxSteps := 1000000 }) (disch := omega) only [go_sem, h1]
        rw [check_1 hp hlt hp' hlt' h1]
    · obtain rfl : s = 4 := by omega
      simp (config := { maxSteps := 1000000 }) (disch := omega) only [go_sem]
      refine ih _ hlt (step_all hp (firstI_zero.2 hp')) ?_
      simp only [go_sem]
  · obtain rfl : d = 3 := by omega
    simp (config := { maxSteps := 1000000 }) (disch := omega) only [go_sem]
    refine W_forP 8 (fun n => ⟨[(0, .ptr p q tImage), (23, .int .i64 n)], [], h⟩) (fun n => ∀ i, i < n → inoFault m i = 0) (by simp only [go_sem] <;> rfl) (fun i hi => by omega) fun n hn hp' ih' => ?_
    by_cases hlt' : n < 8
    · simp (config := { maxSteps := 1000000 }) (disch := omega) only [go_sem]
      refine W_callp rfl ⟨rfl, rfl⟩ (by simp only [go_sem]; exact inode_ok (m := m) hlt' hb.succ (by simp only [HP.push_rd_ext hb, hm])) ?_
      simp (config := { maxSteps := 1000000 }) (disch := omega) only [go_sem]
      by_cases h1 : inoFault m n = 0
      · simp (config := { maxSteps := 1000000 }) (disch := omega) only [go_sem, h1]
        refine ih' _ hlt' (step_all hp' h1) ?_
        simp only [go_sem]
      · simp (config := { maxSteps := 1000000 }) (disch := omega) only [go_sem, h1]
        rw [check_2 hp hp' hlt' h1]
    · obtain rfl : n = 8 := by omega
      simp (config := { maxSteps := 1000000 }) (disch := omega) only [go_sem]
      refine W_callp rfl ⟨rfl, rfl⟩ (by simp only [go_sem]; exact twice_ok (m := m) hb.succ (by simp only [HP.push_rd_ext hb, hm])) ?_
      simp (config := { maxSteps := 1000000 }) (disch := omega) only [go_sem]
      have e := check_3 hp hp'
      cases h1 : twice m with
      | false => simp (config := { maxSteps := 1000000 }) (disch := omega) only [go_sem]; rw [e, h1]; rfl
      | true => simp (config := { maxSteps := 1000000 }) (disch := omega) only [go_sem]; rw [e, h1]; rfl
def exact (m : Img) : Bool := !anyN 8 (fun n => (m.ino n).live && (decide (refs m n = 0) || !decide ((m.ino n).links = refs m n))) && decide (check m = 0)
theorem Exact_ok (hg : m.small) (hb : p.below cx.lvl) (hm : h.rd p q = some m.enc) :
    Ok tbl cx Fn.image_Exact (St.enter [.ptr p q tImage] h) fun v h' => v = .bool (exact m) ∧ h' = h := by
  rw [Ok_eq]
  simp (config := { maxSteps := 1000000 }) (disch := omega) only [go_sem, rd_ext hb, HP.rd_app hm, fg_ptr hb, leads_ptr hb, apart_ptr hb]
  refine W_forP 8 (fun n => ⟨[(0, .ptr p q tImage), (9, encV Ino.enc m.inode), (10, .int .i64 n)], [], h⟩) (fun n => ∀ i, i < n → ((m.ino i).live && (decide (refs m i = 0) || !decide ((m.ino i).links = refs m i))) = false) (by simp only [go_sem] <;> rfl) (fun i hi => by omega) fun n hn hp ih => ?_
  by_cases hlt : n < 8
  · simp (config := { maxSteps := 1000000 }) (disch := omega) only [go_sem, hlt, rd_ext hb, HP.rd_app hm, fg_ptr hb, leads_ptr hb, apart_ptr hb]
    refine W_callp rfl ⟨rfl, rfl⟩ (by simp only [go_sem]; exact Refs_ok (m := m) hb.succ (by simp only [HP.push_rd_ext hb, hm])) ?_
    simp (config := { maxSteps := 1000000 }) (disch := omega) only [go_sem]
    cases h1 : (m.ino n).live with
    | false =>
      simp (config := { maxSteps := 1000000 }) (disch := omega) only [go_sem, h1]
      refine ih _ hlt (step_all hp (by simp [h1])) ?_
      simp only [go_sem]
    | true =>
      by_cases h2 : refs m n = 0
      · simp (config := { maxSteps := 1000000 }) (disch := omega) only [go_sem, h1]
        have : anyN 8 (fun n => (m.ino n).live && (decide (refs m n = 0) || !decide ((m.ino n).links = refs m n))) = true := anyN_at hlt (by simp [h1, h2])
        simp [exact, this]
      · by_cases h3 : (m.ino n).links = refs m n
        · simp (config := { maxSteps := 1000000 }) (disch := omega) only [go_sem, h1, h3]
          refine ih _ hlt (step_all hp (by simp [h1, h2, h3])) ?_
          simp only [go_sem]
        · simp (config := { maxSteps := 1000000 }) (disch := omega) only [go_sem, h1, h3]
          have : anyN 8 (fun n => (m.ino n).live && (decide (refs m n = 0) || !decide ((m.ino n).links = refs m n))) = true := anyN_at hlt (by simp [h1, h3])
          simp [exact, this]
  · obtain rfl : n = 8 := by omega
    simp (config := { maxSteps := 1000000 }) (disch := omega) only [go_sem]
    refine W_callp rfl ⟨rfl, rfl⟩ (by simp only [go_sem]; exact Check_ok (m := m) hg hb.succ (by simp only [HP.push_rd_ext hb, hm])) ?_
    simp (config := { maxSteps := 1000000 }) (disch := omega) only [go_sem]
    have : anyN 8 (fun n => (m.ino n).live && (decide (refs m n = 0) || !decide ((m.ino n).links = refs m n))) = false := anyN_false.2 hp
    simp [exact, this]
end
end Go.Mini
