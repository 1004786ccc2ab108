/- A part of the proof: the statement LifeMends, over the model of its code. -/
import Derived.Test.YtpkndgkaecamlacLbS

namespace Go.Mini
set_option linter.unusedSimpArgs false
set_option linter.unusedVariables false
set_option maxHeartbeats 4000000
set_option maxRecDepth 100000

section
variable {cx : Cx} {h : HP} {v : AV} {l : List SStep}
theorem LifeMends_ok (hl : ∀ n, cx.prot.lets (.obj n) = true) (hv : StepsV h v l) (hsz : ∀ k, (stp l k).ok) : Ok tblE cx Fn.eiderdownlaw_LifeMends (St.enter [v] h) fun v h' => v = .bool true := by
  rw [Ok_eq]
  have hvlen := hv.len
  have hvfg := hv.fg
  have hvld := hv.ld
  simp (config := { maxSteps := 1000000 }) (disch := omega) only [go_sem]
  refine W_callF (S := []) (R := fun v _ => v = .bool true) rfl ⟨rfl, rfl⟩ (by simp only [go_sem]; exact lifeBegun_ok (by exact hl)) (fun _ _ e => e) ?_
  rintro _ h1 hF1 rfl
  simp (config := { maxSteps := 1000000 }) (disch := omega) only [go_sem, hvlen, hvfg, hvld]
  refine W_callhv (P := fun x => ∃ b, x = .bool b ∧ (b = false → l.length ≤ 200)) h1 rfl ⟨rfl, rfl⟩ rfl (by simp only [go_sem]; exact greatSteps_ok ((hv.to hF1.arg).push)) ?_
  rintro _ ⟨great, rfl, hgr⟩
  cases great with
  | true => simp (config := { maxSteps := 1000000 }) (disch := omega) only [go_sem]
  | false =>
  have h200 := hgr rfl
  simp (config := { maxSteps := 1000000 }) (disch := omega) only [go_sem, hvlen, hvfg, hvld]
  refine W_callN (h0 := h1) (R := fun v => v = .ptr (.obj (h1.next + 2)) [] tLife) (L' := Lf.new) (p := h1.next + 2) rfl ⟨rfl, rfl⟩ rfl (by simp only [go_sem]; exact LNew_N) ?_
  rintro _ h2 rfl n0
  generalize h1.next + 2 = p at n0 ⊢
  simp (config := { maxSteps := 1000000 }) (disch := omega) only [go_sem, hvlen, hvfg, hvld]
  refine W_forE (α := HP) l.length (fun k h => ⟨[(0, v), (3, .ptr (.obj p) [] tLife), (4, .int .i64 k)], [], h⟩) (fun k h => LifeN h1 h p (lifeRun .new l k)) h2 (by simp only [go_sem] <;> rfl) n0 fun k h3 hk hN ih => ?_
  obtain ⟨inv, hst⟩ := inv_run l Inv.new new_stamp k (by omega)
  by_cases hlt : k < l.length
  · obtain ⟨n, rfl, hn⟩ := (hv.to (hN.arg.trans hF1.arg)).ix k hlt
    simp (config := { maxSteps := 1000000 }) (disch := omega) only [go_sem, hlt, hn]
    refine W_callN (h0 := h1) (R := fun v => v = .int .i64 (lifeC (lifeRun .new l k) (stp l k))) (L' := lifeRun .new l (k + 1)) (p := p) rfl ⟨rfl, rfl⟩ (LifeN.stk hN) (by simp only [go_sem]; exact LStep_N (by exact hl) (LifeN.push hN) inv.i0 (hsz k)) ?_
    rintro _ h4 rfl hN4
    have hn4 : h4.look (.arg n) = some ⟨.arr l.length tStep, encSteps l⟩ := by
      rw [← hn]; show h4.arg n = h3.arg n; rw [hN4.arg, hN.arg]
    obtain ⟨inv4, _⟩ := inv_run l Inv.new new_stamp (k + 1) (by omega)
    obtain ⟨f, c, hA, _, _⟩ := id hN4
    simp (config := { maxSteps := 1000000 }) (disch := omega) only [go_sem, hA.li, hA.fi]
    refine W_callp rfl ⟨rfl, rfl⟩ (by simp only [go_sem]; exact eDisk (a := (lifeRun .new l (k + 1)).fl.now) (b := (lifeRun .new l (k + 1)).fl.disk) (by simp only [go_sem, hA.ca])) ?_
    simp (config := { maxSteps := 1000000 }) (disch := omega) only [go_sem]
    refine W_callp rfl ⟨rfl, rfl⟩ (by simp only [go_sem]; exact upE (up (Check_ok (m := (lifeRun .new l (k + 1)).fl.disk) inv4.i0.sd (below_stk _ _) (by simp only [go_sem, HP.push_rd_own])))) ?_
    rw [inv4.ck]
    simp (config := { maxSteps := 1000000 }) (disch := omega) only [go_sem]
    refine W_callp rfl ⟨rfl, rfl⟩ (by simp only [go_sem]; exact upE (up (ImageFault_ok (m := (lifeRun .new l (k + 1)).fl.disk) inv4.i0.sd (below_stk _ _) (by simp only [go_sem, HP.push_rd_own])))) ?_
    rw [inv4.ck]
    simp (config := { maxSteps := 1000000 }) (disch := omega) only [go_sem, hlt, hn4]
    by_cases c9 : (stp l k).kind = 9
    · have e0 : lifeC (lifeRun .new l k) (stp l k) = 0 := by
        have := inv.ck
        simp [lifeC, c9, this]
      simp (config := { maxSteps := 1000000 }) (disch := omega) only [go_sem, c9, e0]
      refine ih _ h4 hlt ?_ hN4
      simp only [go_sem]
    · simp (config := { maxSteps := 1000000 }) (disch := omega) only [go_sem, c9]
      refine ih _ h4 hlt ?_ hN4
      simp only [go_sem]
  · obtain rfl : k = l.length := by omega
    simp (config := { maxSteps := 1000000 }) (disch := omega) only [go_sem, hvlen, hvfg, hvld]
end
end Go.Mini

