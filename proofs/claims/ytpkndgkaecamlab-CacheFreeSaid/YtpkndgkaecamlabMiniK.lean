/- A part of the proof: MiniK. -/
import Derived.Test.YtpkndgkaecamlabMiniJ
namespace Go.Mini
set_option linter.unusedSimpArgs false
set_option linter.unusedVariables false
set_option maxHeartbeats 4000000
set_option maxRecDepth 100000

def entryAs (now disk : Img) (d s : Nat) : Ent :=
  let a := now.ent d s
  let b := disk.ent d s
  if a = b then b
  else if b.name = ⟨#[]⟩ then
    if a.ino < 0 ∨ 8 ≤ a.ino then b
    else if (disk.ino a.ino.toNat).live = true ∧ (disk.ino a.ino.toNat).stamp = a.stamp ∧ (refs disk a.ino : Int) < (disk.ino a.ino.toNat).links then a else b
  else if 1 < refs disk b.ino ∨ refs now b.ino = 0 then Ent.zero else b
section
variable {cx : Cx} {h : HP} {p p' : Id} {q q' : List Nat} {m m' : Img}
theorem Entry_ok {d s : Nat} (hd : d < 3) (hs : s < 4) (hb : p.below cx.lvl) (hm : h.rd p q = some m.enc) (hb' : p'.below cx.lvl) (hm' : h.rd p' q' = some m'.enc) :
    Ok tbl cx Fn.safe_Entry (St.enter [.ptr p q tImage, .ptr p' q' tImage, .int .i64 d, .int .i64 s] h) fun v h' => v = (entryAs m m' d s).enc ∧ h' = h := by
  rw [Ok_eq]
  simp (config := { maxSteps := 1000000 }) (disch := omega) only [go_sem, rd_ext hb, HP.rd_app hm, fg_ptr hb, leads_ptr hb, apart_ptr hb, rd_ext hb', HP.rd_app hm', fg_ptr hb', leads_ptr hb', apart_ptr hb']
  by_cases h1 : m.ent d s = m'.ent d s
  · simp (config := { maxSteps := 1000000 }) (disch := omega) only [go_sem, h1]; simp [entryAs, h1]
  simp (config := { maxSteps := 1000000 }) (disch := omega) only [go_sem, h1]
  by_cases h2 : (m'.ent d s).name = ⟨#[]⟩
  · simp (config := { maxSteps := 1000000 }) (disch := omega) only [go_sem, h2]
    by_cases h3 : (m.ent d s).ino < 0
    · simp (config := { maxSteps := 1000000 }) (disch := omega) only [go_sem, h3]; simp [entryAs, h1, h2, h3]
    by_cases h4 : 8 ≤ (m.ent d s).ino
    · simp (config := { maxSteps := 1000000 }) (disch := omega) only [go_sem, h2, h3, h4]; simp [entryAs, h1, h2, h3, h4]
    simp (config := { maxSteps := 1000000 }) (disch := omega) only [go_sem, h2, h3, h4, rd_ext hb, HP.rd_app hm, fg_ptr hb, leads_ptr hb, apart_ptr hb, rd_ext hb', HP.rd_app hm', fg_ptr hb', leads_ptr hb', apart_ptr hb']
    have h34 : ¬((m.ent d s).ino < 0 ∨ 8 ≤ (m.ent d s).ino) := by omega
    by_cases h5 : (m'.ino (m.ent d s).ino.toNat).live = true
    · simp (config := { maxSteps := 1000000 }) (disch := omega) only [go_sem, h5]
      by_cases h6 : (m'.ino (m.ent d s).ino.toNat).stamp = (m.ent d s).stamp
      · simp (config := { maxSteps := 1000000 }) (disch := omega) only [go_sem, h6]
        refine W_callp rfl ⟨rfl, rfl⟩ (by simp only [go_sem]; exact Refs_ok (m := m') hb'.succ (by simp only [HP.push_rd_ext hb', hm'])) ?_
        simp (config := { maxSteps := 1000000 }) (disch := omega) only [go_sem, h6]
        refine WC_intro (fun h7 => ?_) (fun h7 => ?_) <;> simp (config := { maxSteps := 1000000 }) (disch := omega) only [go_sem, h7]
        · simp at h7
          simp [entryAs, h1, h2, h34, h5, h6, h7]
        · simp at h7
          have h8 : ¬(refs m' (m.ent d s).ino : Int) < (m'.ino (m.ent d s).ino.toNat).links := by omega
          simp [entryAs, h1, h2, h34, h5, h6, h8]
      · simp (config := { maxSteps := 1000000 }) (disch := omega) only [go_sem, h6]
        simp [entryAs, h1, h2, h34, h5, h6]
    · simp (config := { maxSteps := 1000000 }) (disch := omega) only [go_sem, h5]
      simp [entryAs, h1, h2, h34, h5]
  · simp (config := { maxSteps := 1000000 }) (disch := omega) only [go_sem, h2, rd_ext hb, HP.rd_app hm, fg_ptr hb, leads_ptr hb, apart_ptr hb, rd_ext hb', HP.rd_app hm', fg_ptr hb', leads_ptr hb', apart_ptr hb']
    refine W_callp rfl ⟨rfl, rfl⟩ (by simp only [go_sem]; exact Refs_ok (m := m') hb'.succ (by simp only [HP.push_rd_ext hb', hm'])) ?_
    simp (config := { maxSteps := 1000000 }) (disch := omega) only [go_sem, h2, rd_ext hb, HP.rd_app hm, fg_ptr hb, leads_ptr hb, apart_ptr hb, rd_ext hb', HP.rd_app hm', fg_ptr hb', leads_ptr hb', apart_ptr hb']
    refine WG_intro (fun h3 => ?_) (fun h3 => ?_) <;> simp (config := { maxSteps := 1000000 }) (disch := omega) only [go_sem, h3, rd_ext hb, HP.rd_app hm, fg_ptr hb, leads_ptr hb, apart_ptr hb, rd_ext hb', HP.rd_app hm', fg_ptr hb', leads_ptr hb', apart_ptr hb']
    · refine W_callp rfl ⟨rfl, rfl⟩ (by simp only [go_sem]; exact Refs_ok (m := m) hb.succ (by simp only [HP.push_rd_ext hb, hm])) ?_
      simp (config := { maxSteps := 1000000 }) (disch := omega) only [go_sem, h2, rd_ext hb, HP.rd_app hm, fg_ptr hb, leads_ptr hb, apart_ptr hb, rd_ext hb', HP.rd_app hm', fg_ptr hb', leads_ptr hb', apart_ptr hb']
      refine WC_intro (fun h4 => ?_) (fun h4 => ?_) <;> simp (config := { maxSteps := 1000000 }) (disch := omega) only [go_sem, h4, rd_ext hb, HP.rd_app hm, fg_ptr hb, leads_ptr hb, apart_ptr hb, rd_ext hb', HP.rd_app hm', fg_ptr hb', leads_ptr hb', apart_ptr hb']
      · simp at h3 h4
        simp [entryAs, h1, h2, h3, h4]
      · simp at h3 h4
        have h5 : ¬1 < refs m' (m'.ent d s).ino := by omega
        simp [entryAs, h1, h2, h3, h4, h5]
    · simp at h3
      have h5 : 1 < refs m' (m'.ent d s).ino := by omega
      simp [entryAs, h1, h2, h5]
theorem EntryAs_ok {d s : Nat} (hd : d < 3) (hs : s < 4) (hb : p.below cx.lvl) (hm : h.rd p q = some m.enc) (hb' : p'.below cx.lvl) (hm' : h.rd p' q' = some m'.enc) :
    Ok tbl cx Fn.eiderdownref_EntryAs (St.enter [.ptr p q tImage, .ptr p' q' tImage, .int .i64 d, .int .i64 s] h) fun v h' => v = (entryAs m m' d s).enc ∧ h' = h := by
  rw [Ok_eq]
  simp (config := { maxSteps := 1000000 }) (disch := omega) only [go_sem, rd_ext hb, HP.rd_app hm, fg_ptr hb, leads_ptr hb, apart_ptr hb, rd_ext hb', HP.rd_app hm', fg_ptr hb', leads_ptr hb', apart_ptr hb']
  by_cases h1 : m.ent d s = m'.ent d s
  · simp (config := { maxSteps := 1000000 }) (disch := omega) only [go_sem, h1]; simp [entryAs, h1]
  simp (config := { maxSteps := 1000000 }) (disch := omega) only [go_sem, h1]
  by_cases h2 : (m'.ent d s).name = ⟨#[]⟩
  · simp (config := { maxSteps := 1000000 }) (disch := omega) only [go_sem, h2]
    by_cases h3 : (m.ent d s).ino < 0
    · simp (config := { maxSteps := 1000000 }) (disch := omega) only [go_sem, h3]; simp [entryAs, h1, h2, h3]
    by_cases h4 : 8 ≤ (m.ent d s).ino
    · simp (config := { maxSteps := 1000000 }) (disch := omega) only [go_sem, h2, h3, h4]; simp [entryAs, h1, h2, h3, h4]
    simp (config := { maxSteps := 1000000 }) (disch := omega) only [go_sem, h2, h3, h4, rd_ext hb, HP.rd_app hm, fg_ptr hb, leads_ptr hb, apart_ptr hb, rd_ext hb', HP.rd_app hm', fg_ptr hb', leads_ptr hb', apart_ptr hb']
    have h34 : ¬((m.ent d s).ino < 0 ∨ 8 ≤ (m.ent d s).ino) := by omega
    by_cases h5 : (m'.ino (m.ent d s).ino.toNat).live = true
    · simp (config := { maxSteps := 1000000 }) (disch := omega) only [go_sem, h5]
      by_cases h6 : (m'.ino (m.ent d s).ino.toNat).stamp = (m.ent d s).stamp
      · simp (config := { maxSteps := 1000000 }) (disch := omega) only [go_sem, h6]
        refine W_callp rfl ⟨rfl, rfl⟩ (by simp only [go_sem]; exact Leads_ok (m := m') hb'.succ (by simp only [HP.push_rd_ext hb', hm'])) ?_
        simp (config := { maxSteps := 1000000 }) (disch := omega) only [go_sem, h6]
        refine WC_intro (fun h7 => ?_) (fun h7 => ?_) <;> simp (config := { maxSteps := 1000000 }) (disch := omega) only [go_sem, h7]
        · simp at h7
          simp [entryAs, h1, h2, h34, h5, h6, h7]
        · simp at h7
          have h8 : ¬(refs m' (m.ent d s).ino : Int) < (m'.ino (m.ent d s).ino.toNat).links := by omega
          simp [entryAs, h1, h2, h34, h5, h6, h8]
      · simp (config := { maxSteps := 1000000 }) (disch := omega) only [go_sem, h6]
        simp [entryAs, h1, h2, h34, h5, h6]
    · simp (config := { maxSteps := 1000000 }) (disch := omega) only [go_sem, h5]
      simp [entryAs, h1, h2, h34, h5]
  · simp (config := { maxSteps := 1000000 }) (disch := omega) only [go_sem, h2, rd_ext hb, HP.rd_app hm, fg_ptr hb, leads_ptr hb, apart_ptr hb, rd_ext hb', HP.rd_app hm', fg_ptr hb', leads_ptr hb', apart_ptr hb']
    refine W_callp rfl ⟨rfl, rfl⟩ (by simp only [go_sem]; exact Leads_ok (m := m) hb.succ (by simp only [HP.push_rd_ext hb, hm])) ?_
    simp (config := { maxSteps := 1000000 }) (disch := omega) only [go_sem, h2, rd_ext hb, HP.rd_app hm, fg_ptr hb, leads_ptr hb, apart_ptr hb, rd_ext hb', HP.rd_app hm', fg_ptr hb', leads_ptr hb', apart_ptr hb']
    refine WG_intro (fun h3 => ?_) (fun h3 => ?_) <;> simp (config := { maxSteps := 1000000 }) (disch := omega) only [go_sem, h3, rd_ext hb, HP.rd_app hm, fg_ptr hb, leads_ptr hb, apart_ptr hb, rd_ext hb', HP.rd_app hm', fg_ptr hb', leads_ptr hb', apart_ptr hb']
    · refine W_callp rfl ⟨rfl, rfl⟩ (by simp only [go_sem]; exact Leads_ok (m := m') hb'.succ (by simp only [HP.push_rd_ext hb', hm'])) ?_
      simp (config := { maxSteps := 1000000 }) (disch := omega) only [go_sem, h2, rd_ext hb, HP.rd_app hm, fg_ptr hb, leads_ptr hb, apart_ptr hb, rd_ext hb', HP.rd_app hm', fg_ptr hb', leads_ptr hb', apart_ptr hb']
      refine WC_intro (fun h4 => ?_) (fun h4 => ?_) <;> simp (config := { maxSteps := 1000000 }) (disch := omega) only [go_sem, h4, rd_ext hb, HP.rd_app hm, fg_ptr hb, leads_ptr hb, apart_ptr hb, rd_ext hb', HP.rd_app hm', fg_ptr hb', leads_ptr hb', apart_ptr hb']
      · simp at h3 h4
        have h5 : 1 < refs m' (m'.ent d s).ino := by omega
        simp [entryAs, h1, h2, h3, h5]
      · simp at h3 h4
        have h5 : ¬1 < refs m' (m'.ent d s).ino := by omega
        simp [entryAs, h1, h2, h3, h4, h5]
    · simp at h3
      simp [entryAs, h1, h2, h3]
end
end Go.Mini
