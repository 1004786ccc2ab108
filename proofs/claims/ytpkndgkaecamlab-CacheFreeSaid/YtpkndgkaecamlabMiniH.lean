/- A part of the proof: MiniH. -/
import Derived.Test.YtpkndgkaecamlabMiniG
namespace Go.Mini
set_option linter.unusedSimpArgs false
set_option linter.unusedVariables false
set_option maxHeartbeats 4000000
set_option maxRecDepth 100000
section
variable {cx : Cx} {h : HP} {p p' : Id} {q q' : List Nat} {m m' : Img}
theorem Union_ok {i : Int} (hb : p.below cx.lvl) (hm : h.rd p q = some m.enc) (hb' : p'.below cx.lvl) (hm' : h.rd p' q' = some m'.enc) :
    Ok tbl cx Fn.safe_Union (St.enter [.ptr p q tImage, .ptr p' q' tImage, .int .i64 i] h) fun v h' => v = .int .i64 (both m m' i) ∧ h' = h := by
  rw [Ok_eq]
  simp (config := { maxSteps := 1000000 }) (disch := omega) only [go_sem]
  refine W_for 3 (fun d => ⟨[(0, .ptr p q tImage), (1, .ptr p' q' tImage), (2, .int .i64 i), (7, .int .i64 (sumN d fun d => bothRow m m' i d 4 : Nat)), (12, .int .i64 d)], [], h⟩) (by simp only [go_sem]; rfl) fun d hd ih => ?_
  by_cases hlt : d < 3
  · have hs := sumN_le (fun d => bothRow_le m m' i d 4) d
    simp (config := { maxSteps := 1000000 }) (disch := omega) only [go_sem, hlt]
    refine W_for 4 (fun s => ⟨[(0, .ptr p q tImage), (1, .ptr p' q' tImage), (2, .int .i64 i), (7, .int .i64 ((sumN d fun d => bothRow m m' i d 4) + bothRow m m' i d s : Nat)), (8, .int .i64 d), (12, .int .i64 d), (15, .int .i64 s)], [], h⟩) (by simp only [go_sem]; rfl) fun s hs' ih' => ?_
    have hr := bothRow_le m m' i d s
    by_cases hlt' : s < 4
    · simp (config := { maxSteps := 1000000 }) (disch := omega) only [go_sem, hlt', rd_ext hb, HP.rd_app hm, fg_ptr hb, leads_ptr hb, apart_ptr hb, rd_ext hb', HP.rd_app hm', fg_ptr hb', leads_ptr hb', apart_ptr hb']
      refine WG_intro (fun h1 => ?_) (fun h1 => ?_) <;> simp (config := { maxSteps := 1000000 }) (disch := omega) only [go_sem, h1]
      all_goals refine WG_intro (fun h2 => ?_) (fun h2 => ?_) <;> simp (config := { maxSteps := 1000000 }) (disch := omega) only [go_sem, h2]
      all_goals try refine WG_intro (fun h3 => ?_) (fun h3 => ?_) <;> simp (config := { maxSteps := 1000000 }) (disch := omega) only [go_sem, h3]
      all_goals try refine WC_intro (fun h4 => ?_) (fun h4 => ?_) <;> simp (config := { maxSteps := 1000000 }) (disch := omega) only [go_sem, h4]
      all_goals refine ih' _ hlt' ?_
      all_goals (clear ih ih'; simp only [go_sem, bothRow_succ, leads, b2n, Int.add_assoc, Nat.add_zero, *])
    · obtain rfl : s = 4 := by omega
      simp (config := { maxSteps := 1000000 }) (disch := omega) only [go_sem]
      exact ih _ hlt (by simp only [go_sem, sumN_succ])
  · obtain rfl : d = 3 := by omega
    simp (config := { maxSteps := 1000000 }) (disch := omega) only [go_sem]
    exact rfl
end
end Go.Mini
