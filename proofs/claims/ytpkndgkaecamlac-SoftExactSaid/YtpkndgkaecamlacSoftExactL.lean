/- A part of the proof: the statement SoftExact, over the model of its code. -/
import Derived.Test.YtpkndgkaecamlacScS

namespace Go.Mini
set_option linter.unusedSimpArgs false
set_option linter.unusedVariables false
set_option maxHeartbeats 4000000
set_option maxRecDepth 100000


def inoFree (m : Img) (k : Nat) : Bool := anyN k fun n => !(m.ino n).live
def slotFree (m : Img) (d k : Nat) : Bool := anyN k fun s => decide ((m.ent d s).name = ⟨#[]⟩)
def datFree (m : Img) (k : Nat) : Bool := anyN k fun x => !held m x
def roomD (x : SStep) : Int := if x.kind = 2 ∨ x.kind = 4 then x.toDir else x.dir
def roomI (m : Img) (x : SStep) : Bool := if x.kind = 2 ∨ x.kind = 4 then true else inoFree m 8
def roomS (m : Img) (d : Int) : Bool := if d < 0 ∨ 3 ≤ d then false else slotFree m d.toNat 4
def roomyB (m : Img) (x : SStep) : Bool := if x.kind = 5 then datFree m 9 else roomI m x && roomS m (roomD x)
section
variable {cx : Cx} {h : HP} {m : Img} {p : Id} {q : List Nat}
theorem roomy_ok {x : SStep} (hb : p.below cx.lvl) (hm : h.rd p q = some m.enc) :
    Ok tblE cx Fn.eiderdownlaw_roomy (St.enter [.ptr p q tImage, x.enc] h) fun v h' => v = .bool (roomyB m x) ∧ h' = h := by
  rw [Ok_eq]
  simp (config := { maxSteps := 1000000 }) (disch := omega) only [go_sem, rd_ext hb, HP.rd_app hm, fg_ptr hb, leads_ptr hb, apart_ptr hb]
  refine W_for 8 (fun k => ⟨[(0, .ptr p q tImage), (3, .ptr (.stk cx.lvl 3) [] tStep), (5, .bool (inoFree m k)), (6, .bool false), (7, .bool false), (8, .int .i64 k)], [(3, ⟨tStep, x.enc⟩)], h⟩) (by simp only [go_sem] <;> rfl) fun k hk ih => ?_
  by_cases hlt : k < 8
  · cases c : inoFree m k with
    | true =>
      simp (config := { maxSteps := 1000000 }) (disch := omega) only [go_sem, hlt, c]
      refine ih _ hlt ?_
      simp only [go_sem, inoFree, anyN_succ]
      simp only [inoFree] at c
      simp [c]
    | false =>
      simp (config := { maxSteps := 1000000 }) (disch := omega) only [go_sem, hlt, c, rd_ext hb, HP.rd_app hm, fg_ptr hb, leads_ptr hb, apart_ptr hb]
      refine ih _ hlt ?_
      simp only [inoFree] at c
      simp only [go_sem, inoFree, anyN_succ, c, Bool.false_or]
  · obtain rfl : k = 8 := by omega
    have key : (x.kind = 2 ∧ roomD x = x.toDir ∧ roomI m x = true) ∨ (¬x.kind = 2 ∧ x.kind = 4 ∧ roomD x = x.toDir ∧ roomI m x = true) ∨ (¬x.kind = 2 ∧ ¬x.kind = 4 ∧ roomD x = x.dir ∧ roomI m x = inoFree m 8) := by
      by_cases c2 : x.kind = 2
      · exact .inl ⟨c2, by simp [roomD, c2], by simp [roomI, c2]⟩
      · by_cases c4 : x.kind = 4
        · exact .inr (.inl ⟨c2, c4, by simp [roomD, c4], by simp [roomI, c4]⟩)
        · exact .inr (.inr ⟨c2, c4, by simp [roomD, c2, c4], by simp [roomI, c2, c4]⟩)
    rcases key with ⟨c2, eD, eI⟩ | ⟨c2, c4, eD, eI⟩ | ⟨c2, c4, eD, eI⟩
    · simp (config := { maxSteps := 1000000 }) (disch := omega) only [go_sem, c2]
      by_cases d0 : x.toDir < 0
      · simp (config := { maxSteps := 1000000 }) (disch := omega) only [go_sem, d0]
        refine W_for 9 (fun k => ⟨[(0, .ptr p q tImage), (3, .ptr (.stk cx.lvl 3) [] tStep), (5, .bool true), (6, .bool (false)), (7, .bool (datFree m k)), (11, .int .i64 k)], [(3, ⟨tStep, x.enc⟩)], h⟩) (by simp only [go_sem] <;> rfl) fun k hk ih => ?_
        by_cases hlt : k < 9
        · cases c : datFree m k with
          | true =>
            simp (config := { maxSteps := 1000000 }) (disch := omega) only [go_sem, hlt, c]
            refine ih _ hlt ?_
            simp only [go_sem, datFree, anyN_succ]
            simp only [datFree] at c
            simp [c]
          | false =>
            simp (config := { maxSteps := 1000000 }) (disch := omega) only [go_sem, hlt, c]
            refine W_callp rfl ⟨rfl, rfl⟩ (by simp only [go_sem]; exact upE (up (Held_ok (m := m) hb.succ (by simp only [HP.push_rd_ext hb, hm])))) ?_
            simp (config := { maxSteps := 1000000 }) (disch := omega) only [go_sem]
            refine ih _ hlt ?_
            simp only [datFree] at c
            simp only [go_sem, datFree, anyN_succ, c, Bool.false_or]
        · obtain rfl : k = 9 := by omega
          by_cases c5 : x.kind = 5
          · first | omega | (simp (config := { maxSteps := 1000000 }) (disch := omega) only [go_sem, c5]; simp [roomyB, c5])
          · have eS : roomS m (roomD x) = false := by simp [roomS, eD, d0]
            have eR : roomyB m x = (true && false) := by simp only [roomyB, c5, if_false, eI, eS]
            rw [eR]
            simp (config := { maxSteps := 1000000 }) (disch := omega) only [go_sem, c5]
            all_goals (cases cI : (true : Bool) <;> simp only [cI, go_sem, Bool.true_and, Bool.false_and] <;> simp (config := { maxSteps := 1000000 }) (disch := omega) only [go_sem, c5])
      by_cases d3 : 3 ≤ x.toDir
      · simp (config := { maxSteps := 1000000 }) (disch := omega) only [go_sem, d0, d3]
        refine W_for 9 (fun k => ⟨[(0, .ptr p q tImage), (3, .ptr (.stk cx.lvl 3) [] tStep), (5, .bool true), (6, .bool (false)), (7, .bool (datFree m k)), (11, .int .i64 k)], [(3, ⟨tStep, x.enc⟩)], h⟩) (by simp only [go_sem] <;> rfl) fun k hk ih => ?_
        by_cases hlt : k < 9
        · cases c : datFree m k with
          | true =>
            simp (config := { maxSteps := 1000000 }) (disch := omega) only [go_sem, hlt, c]
            refine ih _ hlt ?_
            simp only [go_sem, datFree, anyN_succ]
            simp only [datFree] at c
            simp [c]
          | false =>
            simp (config := { maxSteps := 1000000 }) (disch := omega) only [go_sem, hlt, c]
            refine W_callp rfl ⟨rfl, rfl⟩ (by simp only [go_sem]; exact upE (up (Held_ok (m := m) hb.succ (by simp only [HP.push_rd_ext hb, hm])))) ?_
            simp (config := { maxSteps := 1000000 }) (disch := omega) only [go_sem]
            refine ih _ hlt ?_
            simp only [datFree] at c
            simp only [go_sem, datFree, anyN_succ, c, Bool.false_or]
        · obtain rfl : k = 9 := by omega
          by_cases c5 : x.kind = 5
          · first | omega | (simp (config := { maxSteps := 1000000 }) (disch := omega) only [go_sem, c5]; simp [roomyB, c5])
          · have eS : roomS m (roomD x) = false := by simp [roomS, eD, d3]
            have eR : roomyB m x = (true && false) := by simp only [roomyB, c5, if_false, eI, eS]
            rw [eR]
            simp (config := { maxSteps := 1000000 }) (disch := omega) only [go_sem, c5]
            all_goals (cases cI : (true : Bool) <;> simp only [cI, go_sem, Bool.true_and, Bool.false_and] <;> simp (config := { maxSteps := 1000000 }) (disch := omega) only [go_sem, c5])
      simp (config := { maxSteps := 1000000 }) (disch := omega) only [go_sem, d0, d3]
      refine W_for 4 (fun k => ⟨[(0, .ptr p q tImage), (3, .ptr (.stk cx.lvl 3) [] tStep), (5, .bool true), (6, .bool (slotFree m x.toDir.toNat k)), (7, .bool false), (9, .int .i64 x.toDir), (10, .int .i64 k)], [(3, ⟨tStep, x.enc⟩)], h⟩) (by simp only [go_sem] <;> rfl) fun k hk ih => ?_
      by_cases hlt : k < 4
      · cases c : slotFree m x.toDir.toNat k with
        | true =>
          simp (config := { maxSteps := 1000000 }) (disch := omega) only [go_sem, hlt, c]
          refine ih _ hlt ?_
          simp only [go_sem, slotFree, anyN_succ]
          simp only [slotFree] at c
          simp [c]
        | false =>
          simp (config := { maxSteps := 1000000 }) (disch := omega) only [go_sem, hlt, c, d0, d3, rd_ext hb, HP.rd_app hm, fg_ptr hb, leads_ptr hb, apart_ptr hb]
          refine ih _ hlt ?_
          simp only [slotFree] at c
          simp only [go_sem, slotFree, anyN_succ, c, Bool.false_or]
      · obtain rfl : k = 4 := by omega
        simp (config := { maxSteps := 1000000 }) (disch := omega) only [go_sem]
        refine W_for 9 (fun k => ⟨[(0, .ptr p q tImage), (3, .ptr (.stk cx.lvl 3) [] tStep), (5, .bool true), (6, .bool (slotFree m x.toDir.toNat 4)), (7, .bool (datFree m k)), (11, .int .i64 k)], [(3, ⟨tStep, x.enc⟩)], h⟩) (by simp only [go_sem] <;> rfl) fun k hk ih => ?_
        by_cases hlt : k < 9
        · cases c : datFree m k with
          | true =>
            simp (config := { maxSteps := 1000000 }) (disch := omega) only [go_sem, hlt, c]
            refine ih _ hlt ?_
            simp only [go_sem, datFree, anyN_succ]
            simp only [datFree] at c
            simp [c]
          | false =>
            simp (config := { maxSteps := 1000000 }) (disch := omega) only [go_sem, hlt, c]
            refine W_callp rfl ⟨rfl, rfl⟩ (by simp only [go_sem]; exact upE (up (Held_ok (m := m) hb.succ (by simp only [HP.push_rd_ext hb, hm])))) ?_
            simp (config := { maxSteps := 1000000 }) (disch := omega) only [go_sem]
            refine ih _ hlt ?_
            simp only [datFree] at c
            simp only [go_sem, datFree, anyN_succ, c, Bool.false_or]
        · obtain rfl : k = 9 := by omega
          by_cases c5 : x.kind = 5
          · first | omega | (simp (config := { maxSteps := 1000000 }) (disch := omega) only [go_sem, c5]; simp [roomyB, c5])
          · have eS : roomS m (roomD x) = slotFree m x.toDir.toNat 4 := by rw [roomS, eD, if_neg (by omega)]
            have eR : roomyB m x = (true && slotFree m x.toDir.toNat 4) := by simp only [roomyB, c5, if_false, eI, eS]
            rw [eR]
            simp (config := { maxSteps := 1000000 }) (disch := omega) only [go_sem, c5]
            all_goals (cases cI : (true : Bool) <;> simp only [cI, go_sem, Bool.true_and, Bool.false_and] <;> simp (config := { maxSteps := 1000000 }) (disch := omega) only [go_sem, c5])
    · simp (config := { maxSteps := 1000000 }) (disch := omega) only [go_sem, c2, c4]
      by_cases d0 : x.toDir < 0
      · simp (config := { maxSteps := 1000000 }) (disch := omega) only [go_sem, d0]
        refine W_for 9 (fun k => ⟨[(0, .ptr p q tImage), (3, .ptr (.stk cx.lvl 3) [] tStep), (5, .bool true), (6, .bool (false)), (7, .bool (datFree m k)), (11, .int .i64 k)], [(3, ⟨tStep, x.enc⟩)], h⟩) (by simp only [go_sem] <;> rfl) fun k hk ih => ?_
        by_cases hlt : k < 9
        · cases c : datFree m k with
          | true =>
            simp (config := { maxSteps := 1000000 }) (disch := omega) only [go_sem, hlt, c]
            refine ih _ hlt ?_
            simp only [go_sem, datFree, anyN_succ]
            simp only [datFree] at c
            simp [c]
          | false =>
            simp (config := { maxSteps := 1000000 }) (disch := omega) only [go_sem, hlt, c]
            refine W_callp rfl ⟨rfl, rfl⟩ (by simp only [go_sem]; exact upE (up (Held_ok (m := m) hb.succ (by simp only [HP.push_rd_ext hb, hm])))) ?_
            simp (config := { maxSteps := 1000000 }) (disch := omega) only [go_sem]
            refine ih _ hlt ?_
            simp only [datFree] at c
            simp only [go_sem, datFree, anyN_succ, c, Bool.false_or]
        · obtain rfl : k = 9 := by omega
          by_cases c5 : x.kind = 5
          · first | omega | (simp (config := { maxSteps := 1000000 }) (disch := omega) only [go_sem, c5]; simp [roomyB, c5])
          · have eS : roomS m (roomD x) = false := by simp [roomS, eD, d0]
            have eR : roomyB m x = (true && false) := by simp only [roomyB, c5, if_false, eI, eS]
            rw [eR]
            simp (config := { maxSteps := 1000000 }) (disch := omega) only [go_sem, c5]
            all_goals (cases cI : (true : Bool) <;> simp only [cI, go_sem, Bool.true_and, Bool.false_and] <;> simp (config := { maxSteps := 1000000 }) (disch := omega) only [go_sem, c5])
      by_cases d3 : 3 ≤ x.toDir
      · simp (config := { maxSteps := 1000000 }) (disch := omega) only [go_sem, d0, d3]
        refine W_for 9 (fun k => ⟨[(0, .ptr p q tImage), (3, .ptr (.stk cx.lvl 3) [] tStep), (5, .bool true), (6, .bool (false)), (7, .bool (datFree m k)), (11, .int .i64 k)], [(3, ⟨tStep, x.enc⟩)], h⟩) (by simp only [go_sem] <;> rfl) fun k hk ih => ?_
        by_cases hlt : k < 9
        · cases c : datFree m k with
          | true =>
            simp (config := { maxSteps := 1000000 }) (disch := omega) only [go_sem, hlt, c]
            refine ih _ hlt ?_
            simp only [go_sem, datFree, anyN_succ]
            simp only [datFree] at c
            simp [c]
          | false =>
            simp (config := { maxSteps := 1000000 }) (disch := omega) only [go_sem, hlt, c]
            refine W_callp rfl ⟨rfl, rfl⟩ (by simp only [go_sem]; exact upE (up (Held_ok (m := m) hb.succ (by simp only [HP.push_rd_ext hb, hm])))) ?_
            simp (config := { maxSteps := 1000000 }) (disch := omega) only [go_sem]
            refine ih _ hlt ?_
            simp only [datFree] at c
            simp only [go_sem, datFree, anyN_succ, c, Bool.false_or]
        · obtain rfl : k = 9 := by omega
          by_cases c5 : x.kind = 5
          · first | omega | (simp (config := { maxSteps := 1000000 }) (disch := omega) only [go_sem, c5]; simp [roomyB, c5])
          · have eS : roomS m (roomD x) = false := by simp [roomS, eD, d3]
            have eR : roomyB m x = (true && false) := by simp only [roomyB, c5, if_false, eI, eS]
            rw [eR]
            simp (config := { maxSteps := 1000000 }) (disch := omega) only [go_sem, c5]
            all_goals (cases cI : (true : Bool) <;> simp only [cI, go_sem, Bool.true_and, Bool.false_and] <;> simp (config := { maxSteps := 1000000 }) (disch := omega) only [go_sem, c5])
      simp (config := { maxSteps := 1000000 }) (disch := omega) only [go_sem, d0, d3]
      refine W_for 4 (fun k => ⟨[(0, .ptr p q tImage), (3, .ptr (.stk cx.lvl 3) [] tStep), (5, .bool true), (6, .bool (slotFree m x.toDir.toNat k)), (7, .bool false), (9, .int .i64 x.toDir), (10, .int .i64 k)], [(3, ⟨tStep, x.enc⟩)], h⟩) (by simp only [go_sem] <;> rfl) fun k hk ih => ?_
      by_cases hlt : k < 4
      · cases c : slotFree m x.toDir.toNat k with
        | true =>
          simp (config := { maxSteps := 1000000 }) (disch := omega) only [go_sem, hlt, c]
          refine ih _ hlt ?_
          simp only [go_sem, slotFree, anyN_succ]
          simp only [slotFree] at c
          simp [c]
        | false =>
          simp (config := { maxSteps := 1000000 }) (disch := omega) only [go_sem, hlt, c, d0, d3, rd_ext hb, HP.rd_app hm, fg_ptr hb, leads_ptr hb, apart_ptr hb]
          refine ih _ hlt ?_
          simp only [slotFree] at c
          simp only [go_sem, slotFree, anyN_succ, c, Bool.false_or]
      · obtain rfl : k = 4 := by omega
        simp (config := { maxSteps := 1000000 }) (disch := omega) only [go_sem]
        refine W_for 9 (fun k => ⟨[(0, .ptr p q tImage), (3, .ptr (.stk cx.lvl 3) [] tStep), (5, .bool true), (6, .bool (slotFree m x.toDir.toNat 4)), (7, .bool (datFree m k)), (11, .int .i64 k)], [(3, ⟨tStep, x.enc⟩)], h⟩) (by simp only [go_sem] <;> rfl) fun k hk ih => ?_
        by_cases hlt : k < 9
        · cases c : datFree m k with
          | true =>
            simp (config := { maxSteps := 1000000 }) (disch := omega) only [go_sem, hlt, c]
            refine ih _ hlt ?_
            simp only [go_sem, datFree, anyN_succ]
            simp only [datFree] at c
            simp [c]
          | false =>
            simp (config := { maxSteps := 1000000 }) (disch := omega) only [go_sem, hlt, c]
            refine W_callp rfl ⟨rfl, rfl⟩ (by simp only [go_sem]; exact upE (up (Held_ok (m := m) hb.succ (by simp only [HP.push_rd_ext hb, hm])))) ?_
            simp (config := { maxSteps := 1000000 }) (disch := omega) only [go_sem]
            refine ih _ hlt ?_
            simp only [datFree] at c
            simp only [go_sem, datFree, anyN_succ, c, Bool.false_or]
        · obtain rfl : k = 9 := by omega
          by_cases c5 : x.kind = 5
          · first | omega | (simp (config := { maxSteps := 1000000 }) (disch := omega) only [go_sem, c5]; simp [roomyB, c5])
          · have eS : roomS m (roomD x) = slotFree m x.toDir.toNat 4 := by rw [roomS, eD, if_neg (by omega)]
            have eR : roomyB m x = (true && slotFree m x.toDir.toNat 4) := by simp only [roomyB, c5, if_false, eI, eS]
            rw [eR]
            simp (config := { maxSteps := 1000000 }) (disch := omega) only [go_sem, c5]
            all_goals (cases cI : (true : Bool) <;> simp only [cI, go_sem, Bool.true_and, Bool.false_and] <;> simp (config := { maxSteps := 1000000 }) (disch := omega) only [go_sem, c5])
    · simp (config := { maxSteps := 1000000 }) (disch := omega) only [go_sem, c2, c4]
      by_cases d0 : x.dir < 0
      · simp (config := { maxSteps := 1000000 }) (disch := omega) only [go_sem, d0]
        refine W_for 9 (fun k => ⟨[(0, .ptr p q tImage), (3, .ptr (.stk cx.lvl 3) [] tStep), (5, .bool (inoFree m 8)), (6, .bool (false)), (7, .bool (datFree m k)), (11, .int .i64 k)], [(3, ⟨tStep, x.enc⟩)], h⟩) (by simp only [go_sem] <;> rfl) fun k hk ih => ?_
        by_cases hlt : k < 9
        · cases c : datFree m k with
          | true =>
            simp (config := { maxSteps := 1000000 }) (disch := omega) only [go_sem, hlt, c]
            refine ih _ hlt ?_
            simp only [go_sem, datFree, anyN_succ]
            simp only [datFree] at c
            simp [c]
          | false =>
            simp (config := { maxSteps := 1000000 }) (disch := omega) only [go_sem, hlt, c]
            refine W_callp rfl ⟨rfl, rfl⟩ (by simp only [go_sem]; exact upE (up (Held_ok (m := m) hb.succ (by simp only [HP.push_rd_ext hb, hm])))) ?_
            simp (config := { maxSteps := 1000000 }) (disch := omega) only [go_sem]
            refine ih _ hlt ?_
            simp only [datFree] at c
            simp only [go_sem, datFree, anyN_succ, c, Bool.false_or]
        · obtain rfl : k = 9 := by omega
          by_cases c5 : x.kind = 5
          · first | omega | (simp (config := { maxSteps := 1000000 }) (disch := omega) only [go_sem, c5]; simp [roomyB, c5])
          · have eS : roomS m (roomD x) = false := by simp [roomS, eD, d0]
            have eR : roomyB m x = ((inoFree m 8) && false) := by simp only [roomyB, c5, if_false, eI, eS]
            rw [eR]
            simp (config := { maxSteps := 1000000 }) (disch := omega) only [go_sem, c5]
            all_goals (cases cI : ((inoFree m 8) : Bool) <;> simp only [cI, go_sem, Bool.true_and, Bool.false_and] <;> simp (config := { maxSteps := 1000000 }) (disch := omega) only [go_sem, c5])
      by_cases d3 : 3 ≤ x.dir
      · simp (config := { maxSteps := 1000000 }) (disch := omega) only [go_sem, d0, d3]
        refine W_for 9 (fun k => ⟨[(0, .ptr p q tImage), (3, .ptr (.stk cx.lvl 3) [] tStep), (5, .bool (inoFree m 8)), (6, .bool (false)), (7, .bool (datFree m k)), (11, .int .i64 k)], [(3, ⟨tStep, x.enc⟩)], h⟩) (by simp only [go_sem] <;> rfl) fun k hk ih => ?_
        by_cases hlt : k < 9
        · cases c : datFree m k with
          | true =>
            simp (config := { maxSteps := 1000000 }) (disch := omega) only [go_sem, hlt, c]
            refine ih _ hlt ?_
            simp only [go_sem, datFree, anyN_succ]
            simp only [datFree] at c
            simp [c]
          | false =>
            simp (config := { maxSteps := 1000000 }) (disch := omega) only [go_sem, hlt, c]
            refine W_callp rfl ⟨rfl, rfl⟩ (by simp only [go_sem]; exact upE (up (Held_ok (m := m) hb.succ (by simp only [HP.push_rd_ext hb, hm])))) ?_
            simp (config := { maxSteps := 1000000 }) (disch := omega) only [go_sem]
            refine ih _ hlt ?_
            simp only [datFree] at c
            simp only [go_sem, datFree, anyN_succ, c, Bool.false_or]
        · obtain rfl : k = 9 := by omega
          by_cases c5 : x.kind = 5
          · first | omega | (simp (config := { maxSteps := 1000000 }) (disch := omega) only [go_sem, c5]; simp [roomyB, c5])
          · have eS : roomS m (roomD x) = false := by simp [roomS, eD, d3]
            have eR : roomyB m x = ((inoFree m 8) && false) := by simp only [roomyB, c5, if_false, eI, eS]
            rw [eR]
            simp (config := { maxSteps := 1000000 }) (disch := omega) only [go_sem, c5]
            all_goals (cases cI : ((inoFree m 8) : Bool) <;> simp only [cI, go_sem, Bool.true_and, Bool.false_and] <;> simp (config := { maxSteps := 1000000 }) (disch := omega) only [go_sem, c5])
      simp (config := { maxSteps := 1000000 }) (disch := omega) only [go_sem, d0, d3]
      refine W_for 4 (fun k => ⟨[(0, .ptr p q tImage), (3, .ptr (.stk cx.lvl 3) [] tStep), (5, .bool (inoFree m 8)), (6, .bool (slotFree m x.dir.toNat k)), (7, .bool false), (9, .int .i64 x.dir), (10, .int .i64 k)], [(3, ⟨tStep, x.enc⟩)], h⟩) (by simp only [go_sem] <;> rfl) fun k hk ih => ?_
      by_cases hlt : k < 4
      · cases c : slotFree m x.dir.toNat k with
        | true =>
          simp (config := { maxSteps := 1000000 }) (disch := omega) only [go_sem, hlt, c]
          refine ih _ hlt ?_
          simp only [go_sem, slotFree, anyN_succ]
          simp only [slotFree] at c
          simp [c]
        | false =>
          simp (config := { maxSteps := 1000000 }) (disch := omega) only [go_sem, hlt, c, d0, d3, rd_ext hb, HP.rd_app hm, fg_ptr hb, leads_ptr hb, apart_ptr hb]
          refine ih _ hlt ?_
          simp only [slotFree] at c
          simp only [go_sem, slotFree, anyN_succ, c, Bool.false_or]
      · obtain rfl : k = 4 := by omega
        simp (config := { maxSteps := 1000000 }) (disch := omega) only [go_sem]
        refine W_for 9 (fun k => ⟨[(0, .ptr p q tImage), (3, .ptr (.stk cx.lvl 3) [] tStep), (5, .bool (inoFree m 8)), (6, .bool (slotFree m x.dir.toNat 4)), (7, .bool (datFree m k)), (11, .int .i64 k)], [(3, ⟨tStep, x.enc⟩)], h⟩) (by simp only [go_sem] <;> rfl) fun k hk ih => ?_
        by_cases hlt : k < 9
        · cases c : datFree m k with
          | true =>
            simp (config := { maxSteps := 1000000 }) (disch := omega) only [go_sem, hlt, c]
            refine ih _ hlt ?_
            simp only [go_sem, datFree, anyN_succ]
            simp only [datFree] at c
            simp [c]
          | false =>
            simp (config := { maxSteps := 1000000 }) (disch := omega) only [go_sem, hlt, c]
            refine W_callp rfl ⟨rfl, rfl⟩ (by simp only [go_sem]; exact upE (up (Held_ok (m := m) hb.succ (by simp only [HP.push_rd_ext hb, hm])))) ?_
            simp (config := { maxSteps := 1000000 }) (disch := omega) only [go_sem]
            refine ih _ hlt ?_
            simp only [datFree] at c
            simp only [go_sem, datFree, anyN_succ, c, Bool.false_or]
        · obtain rfl : k = 9 := by omega
          by_cases c5 : x.kind = 5
          · first | omega | (simp (config := { maxSteps := 1000000 }) (disch := omega) only [go_sem, c5]; simp [roomyB, c5])
          · have eS : roomS m (roomD x) = slotFree m x.dir.toNat 4 := by rw [roomS, eD, if_neg (by omega)]
            have eR : roomyB m x = ((inoFree m 8) && slotFree m x.dir.toNat 4) := by simp only [roomyB, c5, if_false, eI, eS]
            rw [eR]
            simp (config := { maxSteps := 1000000 }) (disch := omega) only [go_sem, c5]
            all_goals (cases cI : ((inoFree m 8) : Bool) <;> simp only [cI, go_sem, Bool.true_and, Bool.false_and] <;> simp (config := { maxSteps := 1000000 }) (disch := omega) only [go_sem, c5])
end
end Go.Mini

namespace Go.Mini
set_option linter.unusedSimpArgs false
set_option linter.unusedVariables false
set_option maxHeartbeats 4000000
set_option maxRecDepth 100000

theorem stepFault_six (x : SStep) : ¬stepFault x = 6 := by
  have d : ∀ d s, ¬dirFaultN d s = 6 := by
    intro d s
    unfold dirFaultN
    split
    · omega
    · split <;> omega
  unfold stepFault
  split
  · omega
  split
  · exact d _ _
  split
  · exact d _ _
  split
  · omega
  split <;> omega
theorem room_same {a : Img} {d : Int} {s : Str} (hs : ¬s = ⟨#[]⟩) (hn : slotOf a d s < 0) (h : room a a d s < 0) : roomS a d = false := by
  unfold room at h
  rw [if_neg (by omega)] at h
  unfold roomS
  split
  · rfl
  · rename_i hd
    unfold freeSlot at h
    rw [if_neg hd] at h
    rcases findN_lt (f := fun s => decide ((a.ent d.toNat s).name = ⟨#[]⟩) && decide ((a.ent d.toNat s).name = ⟨#[]⟩)) (n := 4) with e | ⟨j, h1, e, _⟩
    · exact anyN_false.2 fun i hi => by
        have := findN_neg e i hi
        simpa using this
    · omega

theorem full_room {F : Fl} {x : SStep} (h : Inv F) (hd : F.disk = F.now) (hc : doC F x = 6) : roomyB F.now x = false := by
  unfold doC at hc
  by_cases c0 : stepFault x = 0
  rotate_left
  · rw [if_pos c0] at hc; exact absurd hc (stepFault_six x)
  rw [if_neg (by simpa using c0)] at hc
  obtain ⟨_, ⟨d0, d3⟩, hn, hto, _, _⟩ := stepFault_zero c0
  rw [hd] at hc
  by_cases c1 : x.kind = 1
  · rw [if_pos c1] at hc
    unfold makeC at hc
    split at hc
    · omega
    rename_i q1
    rw [hd] at hc
    split at hc
    · rename_i q2
      have e1 : roomD x = x.dir := by simp [roomD, c1]
      have e2 : roomI F.now x = inoFree F.now 8 := by simp [roomI, c1]
      unfold roomyB
      rw [if_neg (by omega), e1, e2]
      rcases q2 with q2 | q2
      · have : inoFree F.now 8 = false := by
          unfold freeIno at q2
          rcases findN_lt (f := fun k => !(F.now.ino k).live && decide (refs F.now k = 0)) (n := 8) with e | ⟨j, h1, e, _⟩
          · refine anyN_false.2 fun i hi => ?_
            have := findN_neg e i hi
            cases hl : (F.now.ino i).live with
            | true => rfl
            | false => simp [hl, dead_refs h.cn hi hl] at this
          · omega
        rw [this]; rfl
      · rw [room_same (isName_ne hn) (by omega) q2]; simp
    · omega
  rw [if_neg c1] at hc
  split at hc
  · omega
  by_cases c2 : x.kind = 2 ∨ x.kind = 4
  · rw [if_pos c2] at hc
    unfold enterC at hc
    split at hc
    · omega
    rename_i q1
    split at hc
    · rename_i q2
      have e1 : roomD x = x.toDir := by simp [roomD, c2]
      unfold roomyB
      rw [if_neg (by omega), e1, room_same (isName_ne (hto c2).2) (by omega) q2]; simp
    · omega
  rw [if_neg c2] at hc
  split at hc
  · rename_i c5
    unfold putC at hc
    split at hc
    · rename_i q
      unfold roomyB
      rw [if_pos c5]
      have q2 := q.2
      unfold freeDat at q2
      rcases findN_lt (f := fun x => !held F.now x && !held F.now x) (n := 9) with e | ⟨j, h1, e, _⟩
      · exact anyN_false.2 fun i hi => by
          have := findN_neg e i hi
          simpa using this
      · omega
    · omega
  · omega
theorem doF_code {F : Fl} {x : SStep} (h : ¬doC F x = 0) : doF F x = F := by simp [doF, h]
theorem FilN.sync {h0 h : HP} {f c : Nat} {F : Fl} {b : Img} (hA : FilAt h f c F) (hb : h0.next ≤ f ∧ h0.next ≤ c) (hF : Fr h0 h []) : FilN h0 (h.ob c tCache (encC F.now b)) f { F with disk := b } :=
  ⟨c, ⟨by rw [look_ob_ne hA.fc]; exact hA.fi, look_ob, hA.fc, hA.fn, hA.cn⟩, hb, hF.since (S := [c]) (Fr.ob (by simp)) (by simpa using hb.2)⟩
theorem bed_ne {h : HP} {f c e : Nat} {F : Fl} {B : Bd} (hA : FilAt h f c F) (hB : h.look (.obj e) = some ⟨tBed, B.enc⟩) : ¬e = f ∧ ¬e = c := by
  refine ⟨?_, ?_⟩
  · rintro rfl
    have := hA.fi
    rw [hB] at this
    simp at this
    exact absurd this.1 (by decide)
  · rintro rfl
    have := hA.ca
    rw [hB] at this
    simp at this
    exact absurd this.1 (by decide)
theorem W_filDoB {cx : Cx} {k : List Item} {kill : List Nat} {r : List MOp} {sl : Slots} {own : Own} {h h0 : HP} {Q : St → Prop} {F : Fl} {B : Bd} {x : SStep} {fi f e : Nat} {args : List Opd} {d : Option Nat}
    (hl : ∀ n, cx.prot.lets (.obj n) = true) (hf : tblE fi = some Fn.soft_Files_Do) (ha : args.map (St.opd ⟨sl, own, h⟩) = [.ptr (.obj f) [] tFiles, x.enc])
    (hN : FilN h0 h f F) (hB : h.look (.obj e) = some ⟨tBed, B.enc⟩) (en : e < h.next) (hw : WF F.now) (hx : x.ok)
    (hq : ∀ h1, FilN h0 h1 f (doF F x) → h1.look (.obj e) = some ⟨tBed, B.enc⟩ → h.next ≤ h1.next → W tblE cx (.ops r kill :: k) (St.setd ⟨sl, own, h1⟩ d (.int .i64 (doC F x))) Q) :
    W tblE cx (.ops (⟨d, .call false [] fi args, none⟩ :: r) kill :: k) ⟨sl, own, h⟩ Q := by
  obtain ⟨c, hA, ⟨b1, b2⟩, hF⟩ := hN
  obtain ⟨n1, n2⟩ := bed_ne hA hB
  have hlen : args.length = 2 := by have := congrArg List.length ha; simpa using this
  refine W_callF (S := [f, c]) (R := fun v h' => v = .int .i64 (doC F x) ∧ FilAt h' f c (doF F x)) hf ⟨by rw [hlen], rfl⟩ ?_ (fun v h1 a => ⟨a.1, a.2.pop⟩) fun v h1 hF1 hR => ?_
  · rw [ha]
    refine (Do_ok (F := F) (f := f) (c := c) (by exact hl) hA.push.fi hA.push.ca hA.fc hw hx.name hx.to hx.text).mono fun v h' e => ?_
    obtain ⟨rfl, rfl⟩ := e
    exact ⟨(Fr.ob (by simp)).trans (Fr.ob (by simp)), rfl, hA.push.obs (doF_disk F x)⟩
  · obtain ⟨rfl, hA1⟩ := hR
    exact hq h1 ⟨c, hA1, ⟨b1, b2⟩, hF.since hF1 (by simp; omega)⟩ (hF1.look en (by simp [n1, n2]) hB) hF1.next
theorem WF_bed (B : Bd) (x : SStep) (h : WF B.now) (hk : x.kind = 7 ∨ x.kind = 8 ∨ x.kind = 9) : WF (softB B x).now := by
  have : (softB B x).now = B.now := by
    rcases hk with h | h | h <;> simp [softB, softF, h, Bd.fl]
  rw [this]; exact h
theorem soft_same (F : Fl) (x : SStep) (hk : x.kind = 7 ∨ x.kind = 8 ∨ x.kind = 9) : (softF F x).now = F.now := by
  rcases hk with h | h | h <;> simp [softF, h]
section
variable {cx : Cx} {h : HP} {v : AV} {l : List SStep}
structure SxP (h0 : HP) (f e : Nat) (k : Nat) (q : HP × Fl × Bd) : Prop where
  fil : FilN h0 q.1 f q.2.1
  bed : q.1.look (.obj e) = some ⟨tBed, q.2.2.enc⟩
  en : e < q.1.next
  inv : Inv q.2.1
  st : q.2.1.stamp ≤ 1000000000 + 2 * k
  wb : WF q.2.2.now
theorem SoftExact_ok (hl : ∀ n, cx.prot.lets (.obj n) = true) (hv : StepsV h v l) (hsz : ∀ k, (stp l k).ok) : Ok tblE cx Fn.eiderdownlaw_SoftExact (St.enter [v] h) fun v h' => v = .bool true := by
  rw [Ok_eq]
  have hvlen := hv.len
  have hvfg := hv.fg
  have hvld := hv.ld
  simp (config := { maxSteps := 1000000 }) (disch := omega) only [go_sem]
  refine W_callF (S := []) (R := fun v _ => v = .bool true) rfl ⟨rfl, rfl⟩ (by simp only [go_sem]; exact softBegun_ok (by exact hl)) (fun _ _ e => e) ?_
  rintro _ h1 hF1 rfl
  simp (config := { maxSteps := 1000000 }) (disch := omega) only [go_sem, hvlen, hvfg, hvld]
  refine W_callhv (P := fun x => ∃ b, x = .bool b ∧ (b = false → l.length ≤ 200)) h1 rfl ⟨rfl, rfl⟩ rfl (by simp only [go_sem]; exact greatSteps_ok ((hv.to hF1.arg).push)) ?_
  rintro _ ⟨great, rfl, hgr⟩
  cases great with
  | true => simp (config := { maxSteps := 1000000 }) (disch := omega) only [go_sem]
  | false =>
  have h200 := hgr rfl
  simp (config := { maxSteps := 1000000 }) (disch := omega) only [go_sem, hvlen, hvfg, hvld]
  refine W_callh (v := .ptr (.obj (h1.next + 1)) [] tFiles) (HF h1 fb0) rfl ⟨rfl, rfl⟩ rfl (by simp only [go_sem]; exact SNew_ok) ?_
  simp (config := { maxSteps := 1000000 }) (disch := omega) only [go_sem]
  refine W_callh (v := .ptr (.obj (h1.next + 2)) [] tBed) ((HF h1 fb0).nw tBed (Bd.enc ⟨.blank, .blank, 0, 0, 0, 0, 0⟩)) rfl ⟨rfl, rfl⟩ rfl (by simp only [go_sem]; exact NewBed_ok) ?_
  simp (config := { maxSteps := 1000000 }) (disch := omega) only [go_sem]
  have n0 : SxP h1 (h1.next + 1) (h1.next + 2) 0 ((HF h1 fb0).nw tBed (Bd.enc ⟨.blank, .blank, 0, 0, 0, 0, 0⟩), fb0, ⟨.blank, .blank, 0, 0, 0, 0, 0⟩) :=
    ⟨FilN.new.same Fr.nw, look_nw, by show h1.next + 2 < h1.next + 1 + 1 + 1; omega, Inv.new, by show (0 : Int) ≤ _; omega, fbW0⟩
  have hfe : h1.next ≤ h1.next + 2 := by omega
  generalize (HF h1 fb0).nw tBed (Bd.enc ⟨.blank, .blank, 0, 0, 0, 0, 0⟩) = h2 at n0 ⊢
  generalize h1.next + 1 = f at n0 ⊢
  generalize h1.next + 2 = e at n0 hfe ⊢
  refine W_forE (α := HP × Fl × Bd) l.length (fun k q => ⟨[(0, v), (3, .ptr (.obj f) [] tFiles), (4, .ptr (.obj e) [] tBed), (5, .int .i64 k)], [], q.1⟩) (fun k q => SxP h1 f e k q) (h2, fb0, ⟨.blank, .blank, 0, 0, 0, 0, 0⟩) (by simp only [go_sem] <;> rfl) n0 fun k q hk hP ih => ?_
  obtain ⟨h3, F, B⟩ := q
  obtain ⟨hN, hB, en, inv, st, wb⟩ := hP
  dsimp only at hN hB en inv st wb ⊢
  by_cases hlt : k < l.length
  · obtain ⟨n, rfl, hn⟩ := (hv.to (hN.arg.trans hF1.arg)).ix k hlt
    have hok := hsz k
    generalize hx : stp l k = x at hn hok
    obtain ⟨c, hA, hb, hF⟩ := id hN
    have wf := inv.i0.wf
    by_cases c7 : x.kind = 7 ∨ x.kind = 8 ∨ x.kind = 9
    · have wfb := WF_bed B x wb c7
      have hsm := soft_same F x c7
      have := (inv.softF (by omega) x)
      rcases c7 with c7 | c7 | c7
      · simp (config := { maxSteps := 1000000 }) (disch := omega) only [go_sem, hlt, hn, hx, c7, hA.fi, hA.ca]
        refine W_softStep (h0 := h1) (F := F) (B := B) (x := x) (e := e) (f := f) hl rfl (by simp only [go_sem, List.map]) hN hB hfe en wf wb hok fun h4 hN4 hB4 hn4 => ?_
        obtain ⟨c4, hA4, _, _⟩ := id hN4
        simp (config := { maxSteps := 1000000 }) (disch := omega) only [go_sem, hA4.fi, hA4.ca, hsm]
        refine ih _ (h4, softF F x, softB B x) hlt ?_ ⟨hN4, hB4, by dsimp only; omega, this.1, by dsimp only; omega, wfb⟩
        simp only [go_sem]
      · simp (config := { maxSteps := 1000000 }) (disch := omega) only [go_sem, hlt, hn, hx, c7, hA.fi, hA.ca]
        refine W_softStep (h0 := h1) (F := F) (B := B) (x := x) (e := e) (f := f) hl rfl (by simp only [go_sem, List.map]) hN hB hfe en wf wb hok fun h4 hN4 hB4 hn4 => ?_
        obtain ⟨c4, hA4, _, _⟩ := id hN4
        simp (config := { maxSteps := 1000000 }) (disch := omega) only [go_sem, hA4.fi, hA4.ca, hsm]
        refine ih _ (h4, softF F x, softB B x) hlt ?_ ⟨hN4, hB4, by dsimp only; omega, this.1, by dsimp only; omega, wfb⟩
        simp only [go_sem]
      · simp (config := { maxSteps := 1000000 }) (disch := omega) only [go_sem, hlt, hn, hx, c7, hA.fi, hA.ca]
        refine W_softStep (h0 := h1) (F := F) (B := B) (x := x) (e := e) (f := f) hl rfl (by simp only [go_sem, List.map]) hN hB hfe en wf wb hok fun h4 hN4 hB4 hn4 => ?_
        obtain ⟨c4, hA4, _, _⟩ := id hN4
        simp (config := { maxSteps := 1000000 }) (disch := omega) only [go_sem, hA4.fi, hA4.ca, hsm]
        refine ih _ (h4, softF F x, softB B x) hlt ?_ ⟨hN4, hB4, by dsimp only; omega, this.1, by dsimp only; omega, wfb⟩
        simp only [go_sem]
    · have c7' : ¬x.kind = 7 := fun h => c7 (.inl h)
      have c8' : ¬x.kind = 8 := fun h => c7 (.inr (.inl h))
      have c9' : ¬x.kind = 9 := fun h => c7 (.inr (.inr h))
      simp (config := { maxSteps := 1000000 }) (disch := omega) only [go_sem, hlt, hn, hx, c7', c8', c9', hA.fi, hA.ca]
      refine W_filDoB (h0 := h1) (F := F) (B := B) (x := x) (e := e) (f := f) hl rfl (by simp only [go_sem, List.map]) hN hB en wf hok fun h4 hN4 hB4 hn4 => ?_
      obtain ⟨c4, hA4, hb4, hF4⟩ := id hN4
      have inv4 := inv.doF (by omega) x
      have st4 : (doF F x).stamp ≤ F.stamp + 1 := (doF_now inv (by omega) x).2.2.2.1
      simp (config := { maxSteps := 1000000 }) (disch := omega) only [go_sem, hA4.fi, hA4.ca]
      refine W_callp rfl ⟨rfl, rfl⟩ (by simp only [go_sem]; exact upE (up (Exact_ok (m := (doF F x).now) (p := .obj c4) (q := [0]) inv4.i0.sn (below_obj _ _) (by rw [HP.push_rd_ext (below_obj _ _)]; exact (rd_of hA4.ca).1)))) ?_
      have hex : exact (doF F x).now = true := inv4.ex
      rw [hex]
      by_cases hc : doC F x = 0
      · simp (config := { maxSteps := 1000000 }) (disch := omega) only [go_sem, hc, hA4.fi, hA4.ca]
        refine ih _ (h4, doF F x, B) hlt ?_ ⟨hN4, hB4, by dsimp only; omega, inv4, by dsimp only; omega, wb⟩
        simp only [go_sem]
      have hsame : doF F x = F := doF_code hc
      rw [hsame] at hN4 hA4 inv4 st4
      by_cases h6 : doC F x = 6
      rotate_left
      · simp (config := { maxSteps := 1000000 }) (disch := omega) only [go_sem, hc, h6, hA4.fi, hA4.ca]
        refine ih _ (h4, F, B) hlt ?_ ⟨hN4, hB4, by dsimp only; omega, inv4, by dsimp only; omega, wb⟩
        simp only [go_sem]
      simp (config := { maxSteps := 1000000 }) (disch := omega) only [go_sem, hc, h6, hA4.fi, hA4.ca]
      refine W_callh (v := .int .i64 (syncK F.now F.disk)) (h4.ob c4 tCache (encC F.now (syncTo F.now F.disk))) rfl ⟨rfl, rfl⟩ rfl (by simp only [go_sem]; exact eSync (by exact hl) (by simp only [go_sem, hA4.ca])) ?_
      obtain ⟨_, kt⟩ := sync_ok inv
      rw [kt]
      have hN5 : FilN h1 (h4.ob c4 tCache (encC F.now F.now)) f { F with disk := F.now } := FilN.sync hA4 hb4 hF4
      have inv5 : Inv { F with disk := F.now } := by
        have := inv.sync
        rw [kt] at this
        exact this
      have hB5 : (h4.ob c4 tCache (encC F.now F.now)).look (.obj e) = some ⟨tBed, B.enc⟩ := by rw [look_ob_ne (bed_ne hA4 hB4).2]; exact hB4
      have en5 : e < (h4.ob c4 tCache (encC F.now F.now)).next := by show e < h4.next; omega
      generalize h4.ob c4 tCache (encC F.now F.now) = h5 at hN5 hB5 en5 ⊢
      have st5 : ({ F with disk := F.now } : Fl).stamp ≤ 1000000000 + 2 * k := st
      have hd5 : ({ F with disk := F.now } : Fl).disk = ({ F with disk := F.now } : Fl).now := rfl
      generalize ({ F with disk := F.now } : Fl) = G at hN5 inv5 st5 hd5 ⊢
      simp (config := { maxSteps := 1000000 }) (disch := omega) only [go_sem]
      refine W_filDoB (h0 := h1) (F := G) (B := B) (x := x) (e := e) (f := f) hl rfl (by simp only [go_sem, List.map]) hN5 hB5 en5 inv5.i0.wf hok fun h6' hN6 hB6 hn6 => ?_
      obtain ⟨c6, hA6, hb6, hF6⟩ := id hN6
      have inv6 := inv5.doF (by omega) x
      have st6 : (doF G x).stamp ≤ G.stamp + 1 := (doF_now inv5 (by omega) x).2.2.2.1
      by_cases g6 : doC G x = 6
      · have hsame6 : doF G x = G := doF_code (by omega)
        rw [hsame6] at hN6 hA6 inv6 st6
        simp (config := { maxSteps := 1000000 }) (disch := omega) only [go_sem, g6, hA6.fi, hA6.ca]
        refine W_callp rfl ⟨rfl, rfl⟩ (by simp only [go_sem]; exact roomy_ok (m := G.now) (p := .obj c6) (q := [0]) (below_obj _ _) (by rw [HP.push_rd_ext (below_obj _ _)]; exact (rd_of hA6.ca).1)) ?_
        rw [full_room inv5 hd5 g6]
        simp (config := { maxSteps := 1000000 }) (disch := omega) only [go_sem]
        refine ih _ (h6', G, B) hlt ?_ ⟨hN6, hB6, by dsimp only; omega, inv6, by dsimp only; omega, wb⟩
        simp only [go_sem]
      · simp (config := { maxSteps := 1000000 }) (disch := omega) only [go_sem, g6, hA6.fi, hA6.ca]
        refine ih _ (h6', doF G x, B) hlt ?_ ⟨hN6, hB6, by dsimp only; omega, inv6, by dsimp only; omega, wb⟩
        simp only [go_sem]
  · obtain rfl : k = l.length := by omega
    simp (config := { maxSteps := 1000000 }) (disch := omega) only [go_sem, hvlen, hvfg, hvld]
end
end Go.Mini

