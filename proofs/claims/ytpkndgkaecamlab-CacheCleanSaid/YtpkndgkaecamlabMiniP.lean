/- A part of the proof: MiniP. -/
import Derived.Test.YtpkndgkaecamlabMiniO
namespace Go.Mini
set_option linter.unusedSimpArgs false
set_option linter.unusedVariables false
set_option maxHeartbeats 4000000
set_option maxRecDepth 100000

def stampsN (m : Img) : Nat → List Int
  | 0 => []
  | n + 1 => if (m.ino n).live = true then stampsN m n ++ [(m.ino n).stamp] else stampsN m n
def seenN (m : Img) : Nat → List Int
  | 0 => []
  | n + 1 => if (m.ino n).live = true then seenN m n ++ [(m.ino n).prt 0] ++ [(m.ino n).prt 1] else seenN m n
def badAt (m : Img) (n : Nat) : Bool :=
  (m.ino n).live && ((stampsN m n).contains (m.ino n).stamp || (decide (0 ≤ (m.ino n).prt 0) && (seenN m n).contains ((m.ino n).prt 0)) || (decide (0 ≤ (m.ino n).prt 1) && (seenN m n ++ [(m.ino n).prt 0]).contains ((m.ino n).prt 1)))
def twice (m : Img) : Bool := anyN 8 (badAt m)
theorem stampsN_len (m : Img) : ∀ n, (stampsN m n).length ≤ n
  | 0 => Nat.le_refl _
  | n + 1 => by
    have := stampsN_len m n
    simp only [stampsN]; split <;> simp <;> omega
theorem seenN_len (m : Img) : ∀ n, (seenN m n).length ≤ 2 * n
  | 0 => Nat.le_refl _
  | n + 1 => by
    have := seenN_len m n
    simp only [seenN]; split <;> simp <;> omega
theorem nil_both (m : Img) : ∀ n, stampsN m n = [] ↔ seenN m n = []
  | 0 => by simp [stampsN, seenN]
  | n + 1 => by
    simp only [stampsN, seenN]; split
    · simp
    · exact nil_both m n
def slV (l d : Nat) (a : List Int) : AV := if a = [] then .nilsl else .sl (.stk l d) 0 a.length
def ownL (a b : List Int) : Own := if a = [] then [] else [(27, ⟨.arr a.length tI, encL a⟩), (43, ⟨.arr b.length tI, encL b⟩)]
section
variable {cx : Cx} {h : HP} {p p' : Id} {q q' : List Nat} {m m' : Img}
theorem twice_ok (hb : p.below cx.lvl) (hm : h.rd p q = some m.enc) :
    Ok tbl cx Fn.image_twice (St.enter [.ptr p q tImage] h) fun v h' => v = .bool (twice m) ∧ h' = h := by
  rw [Ok_eq]
  simp (config := { maxSteps := 1000000 }) (disch := omega) only [go_sem, rd_ext hb, HP.rd_app hm, fg_ptr hb, leads_ptr hb, apart_ptr hb]
  refine W_forP 8 (fun n => ⟨[(3, slV cx.lvl 43 (seenN m n)), (4, slV cx.lvl 27 (stampsN m n)), (12, encV Ino.enc m.inode), (13, .int .i64 n)], ownL (stampsN m n) (seenN m n), h⟩) (fun n => ∀ i, i < n → badAt m i = false) (by simp only [go_sem, slV, ownL, stampsN, seenN] <;> rfl) (fun i hi => by omega) fun n hn hp ih => ?_
  by_cases hlt : n < 8
  · by_cases hl : (m.ino n).live = true
    · have bad : ∀ c, ((stampsN m n).contains (m.ino n).stamp || (decide (0 ≤ (m.ino n).prt 0) && (seenN m n).contains ((m.ino n).prt 0)) || (decide (0 ≤ (m.ino n).prt 1) && (seenN m n ++ [(m.ino n).prt 0]).contains ((m.ino n).prt 1))) = c → badAt m n = c := by
        intro c hc; simp only [badAt, hl, Bool.true_and]; exact hc
      have tw : badAt m n = true → twice m = true := fun hb => anyN_at hlt hb
      have e1 : stampsN m (n + 1) = stampsN m n ++ [(m.ino n).stamp] := by simp only [stampsN, hl, if_true]
      have e2 : seenN m (n + 1) = seenN m n ++ [(m.ino n).prt 0] ++ [(m.ino n).prt 1] := by simp only [seenN, hl, if_true]
      have l1 := stampsN_len m n
      have l2 := seenN_len m n
      rw [e1, e2] at ih
      have hboth := nil_both m n
      generalize stampsN m n = A at *
      generalize seenN m n = B at *
      by_cases hA : A = []
      · have hB := hboth.1 hA
        subst hA; subst hB
        simp only [slV, ownL, if_true]
        simp (config := { maxSteps := 1000000 }) (disch := omega) only [go_sem, hlt, hl]
        refine W_callp rfl ⟨rfl, rfl⟩ (by simp only [go_sem]; exact Contains_ok (l := []) (by simp) (.inl ⟨rfl, rfl⟩)) ?_
        simp (config := { maxSteps := 1000000 }) (disch := omega) only [go_sem, List.contains_nil, W_round]
        by_cases c0 : 0 ≤ (m.ino n).prt 0
        · simp (config := { maxSteps := 1000000 }) (disch := omega) only [go_sem, c0]
          refine W_callp rfl ⟨rfl, rfl⟩ (by simp only [go_sem]; exact Contains_ok (l := []) (by simp) (.inl ⟨rfl, rfl⟩)) ?_
          simp (config := { maxSteps := 1000000 }) (disch := omega) only [go_sem, List.contains_nil, W_again (a := [3, 4, 12, 13, 29, 30])]
          by_cases c1 : 0 ≤ (m.ino n).prt 1
          · simp (config := { maxSteps := 1000000 }) (disch := omega) only [go_sem, c1]
            refine W_callp rfl ⟨rfl, rfl⟩ (by simp only [go_sem]; exact Contains_ok (l := [(m.ino n).prt 0]) (by simp only [List.length_append, List.length_cons, List.length_nil] at *; omega) (.inr ⟨_, _, _, rfl, by simp, below_stk _ _, by simp only [HP.push_look_own]; rfl⟩)) ?_
            simp (config := { maxSteps := 1000000 }) (disch := omega) only [go_sem, c1]
            refine WC_intro (fun h4 => ?_) (fun h4 => ?_)
            · simp (config := { maxSteps := 1000000 }) (disch := omega) only [go_sem]
              rw [tw (bad _ (by simp only [h4, c1, List.nil_append, decide_true, Bool.true_and, Bool.or_true]))]
            · simp (config := { maxSteps := 1000000 }) (disch := omega) only [go_sem]
              rw [WA_grow (len := 1) (d := 43) (l := [(m.ino n).prt 0]) rfl rfl (by omega)]
              simp (config := { maxSteps := 1000000 }) (disch := omega) only [go_sem, W_again (a := [3, 4, 12, 13, 29, 30])]
              refine ih _ hlt (step_all hp (bad _ (by simp only [h4, c1, List.nil_append, List.contains_nil, decide_true, decide_false, Bool.false_and, Bool.true_and, Bool.or_false, Bool.and_false, Bool.false_or]))) ?_
              simp [St.keep, Slots.only, Own.only, has, slV, ownL]
          · simp (config := { maxSteps := 1000000 }) (disch := omega) only [go_sem, c1]
            rw [WA_grow (len := 1) (d := 43) (l := [(m.ino n).prt 0]) rfl rfl (by omega)]
            simp (config := { maxSteps := 1000000 }) (disch := omega) only [go_sem, W_again (a := [3, 4, 12, 13, 29, 30])]
            refine ih _ hlt (step_all hp (bad _ (by simp only [c1, List.nil_append, List.contains_nil, decide_false, Bool.false_and, Bool.or_false, Bool.and_false, Bool.false_or]))) ?_
            simp [St.keep, Slots.only, Own.only, has, slV, ownL]

        · simp (config := { maxSteps := 1000000 }) (disch := omega) only [go_sem, c0, W_again (a := [3, 4, 12, 13, 29, 30])]
          by_cases c1 : 0 ≤ (m.ino n).prt 1
          · simp (config := { maxSteps := 1000000 }) (disch := omega) only [go_sem, c1]
            refine W_callp rfl ⟨rfl, rfl⟩ (by simp only [go_sem]; exact Contains_ok (l := [(m.ino n).prt 0]) (by simp only [List.length_append, List.length_cons, List.length_nil] at *; omega) (.inr ⟨_, _, _, rfl, by simp, below_stk _ _, by simp only [HP.push_look_own]; rfl⟩)) ?_
            simp (config := { maxSteps := 1000000 }) (disch := omega) only [go_sem, c1]
            refine WC_intro (fun h4 => ?_) (fun h4 => ?_)
            · simp (config := { maxSteps := 1000000 }) (disch := omega) only [go_sem]
              rw [tw (bad _ (by simp only [c0, h4, c1, List.nil_append, decide_true, Bool.true_and, Bool.or_true]))]
            · simp (config := { maxSteps := 1000000 }) (disch := omega) only [go_sem]
              rw [WA_grow (len := 1) (d := 43) (l := [(m.ino n).prt 0]) rfl rfl (by omega)]
              simp (config := { maxSteps := 1000000 }) (disch := omega) only [go_sem, W_again (a := [3, 4, 12, 13, 29, 30])]
              refine ih _ hlt (step_all hp (bad _ (by simp only [c0, h4, c1, List.nil_append, List.contains_nil, decide_true, decide_false, Bool.false_and, Bool.true_and, Bool.or_false, Bool.and_false, Bool.false_or]))) ?_
              simp [St.keep, Slots.only, Own.only, has, slV, ownL]
          · simp (config := { maxSteps := 1000000 }) (disch := omega) only [go_sem, c1]
            rw [WA_grow (len := 1) (d := 43) (l := [(m.ino n).prt 0]) rfl rfl (by omega)]
            simp (config := { maxSteps := 1000000 }) (disch := omega) only [go_sem, W_again (a := [3, 4, 12, 13, 29, 30])]
            refine ih _ hlt (step_all hp (bad _ (by simp only [c0, c1, List.nil_append, List.contains_nil, decide_false, Bool.false_and, Bool.or_false, Bool.and_false, Bool.false_or]))) ?_
            simp [St.keep, Slots.only, Own.only, has, slV, ownL]

      · have hB : ¬B = [] := fun h => hA (hboth.2 h)
        simp only [slV, ownL, hA, hB, if_false]
        simp (config := { maxSteps := 1000000 }) (disch := omega) only [go_sem, hlt, hl]
        refine W_callp rfl ⟨rfl, rfl⟩ (by simp only [go_sem]; exact Contains_ok (l := A) (by omega) (.inr ⟨_, _, _, rfl, by simp, below_stk _ _, by simp only [HP.push_look_own]; rfl⟩)) ?_
        simp (config := { maxSteps := 1000000 }) (disch := omega) only [go_sem]
        refine WC_intro (fun h2 => ?_) (fun h2 => ?_)
        · simp (config := { maxSteps := 1000000 }) (disch := omega) only [go_sem]
          rw [tw (bad _ (by simp only [h2, Bool.true_or]))]
        simp (config := { maxSteps := 1000000 }) (disch := omega) only [go_sem]
        rw [WA_grow (l := A) rfl rfl (by omega)]
        simp (config := { maxSteps := 1000000 }) (disch := omega) only [go_sem, W_round]
        by_cases c0 : 0 ≤ (m.ino n).prt 0
        · simp (config := { maxSteps := 1000000 }) (disch := omega) only [go_sem, c0]
          refine W_callp rfl ⟨rfl, rfl⟩ (by simp only [go_sem]; exact Contains_ok (l := B) (by omega) (.inr ⟨_, _, _, rfl, by simp, below_stk _ _, by simp only [HP.push_look_own]; rfl⟩)) ?_
          simp (config := { maxSteps := 1000000 }) (disch := omega) only [go_sem]
          refine WC_intro (fun h3 => ?_) (fun h3 => ?_)
          · simp (config := { maxSteps := 1000000 }) (disch := omega) only [go_sem]
            rw [tw (bad _ (by simp only [h3, c0, decide_true, Bool.true_and, Bool.true_or, Bool.or_true]))]
          simp (config := { maxSteps := 1000000 }) (disch := omega) only [go_sem]
          rw [WA_grow (l := B) rfl rfl (by omega)]
          simp (config := { maxSteps := 1000000 }) (disch := omega) only [go_sem, W_again (a := [3, 4, 12, 13, 29, 30])]
          by_cases c1 : 0 ≤ (m.ino n).prt 1
          · simp (config := { maxSteps := 1000000 }) (disch := omega) only [go_sem, c1]
            refine W_callp rfl ⟨rfl, rfl⟩ (by simp only [go_sem]; exact Contains_ok (l := B ++ [(m.ino n).prt 0]) (by simp only [List.length_append, List.length_cons, List.length_nil] at *; omega) (.inr ⟨_, _, _, rfl, by simp, below_stk _ _, by simp only [HP.push_look_own]; rfl⟩)) ?_
            simp (config := { maxSteps := 1000000 }) (disch := omega) only [go_sem, c1]
            refine WC_intro (fun h4 => ?_) (fun h4 => ?_)
            · simp (config := { maxSteps := 1000000 }) (disch := omega) only [go_sem]
              rw [tw (bad _ (by simp only [h2, h3, c0, h4, c1, List.nil_append, decide_true, Bool.true_and, Bool.or_true]))]
            · simp (config := { maxSteps := 1000000 }) (disch := omega) only [go_sem]
              rw [WA_grow (len := B.length + 1) (d := 43) (l := B ++ [(m.ino n).prt 0]) rfl (by simp) (by omega)]
              simp (config := { maxSteps := 1000000 }) (disch := omega) only [go_sem, W_again (a := [3, 4, 12, 13, 29, 30])]
              refine ih _ hlt (step_all hp (bad _ (by simp only [h2, h3, c0, h4, c1, List.nil_append, List.contains_nil, decide_true, decide_false, Bool.false_and, Bool.true_and, Bool.or_false, Bool.and_false, Bool.false_or]))) ?_
              simp [St.keep, Slots.only, Own.only, has, slV, ownL]
          · simp (config := { maxSteps := 1000000 }) (disch := omega) only [go_sem, c1]
            rw [WA_grow (len := B.length + 1) (d := 43) (l := B ++ [(m.ino n).prt 0]) rfl (by simp) (by omega)]
            simp (config := { maxSteps := 1000000 }) (disch := omega) only [go_sem, W_again (a := [3, 4, 12, 13, 29, 30])]
            refine ih _ hlt (step_all hp (bad _ (by simp only [h2, h3, c0, c1, List.nil_append, List.contains_nil, decide_false, Bool.false_and, Bool.or_false, Bool.and_false, Bool.false_or]))) ?_
            simp [St.keep, Slots.only, Own.only, has, slV, ownL]

        · simp (config := { maxSteps := 1000000 }) (disch := omega) only [go_sem, c0]
          rw [WA_grow (l := B) rfl rfl (by omega)]
          simp (config := { maxSteps := 1000000 }) (disch := omega) only [go_sem, W_again (a := [3, 4, 12, 13, 29, 30])]
          by_cases c1 : 0 ≤ (m.ino n).prt 1
          · simp (config := { maxSteps := 1000000 }) (disch := omega) only [go_sem, c1]
            refine W_callp rfl ⟨rfl, rfl⟩ (by simp only [go_sem]; exact Contains_ok (l := B ++ [(m.ino n).prt 0]) (by simp only [List.length_append, List.length_cons, List.length_nil] at *; omega) (.inr ⟨_, _, _, rfl, by simp, below_stk _ _, by simp only [HP.push_look_own]; rfl⟩)) ?_
            simp (config := { maxSteps := 1000000 }) (disch := omega) only [go_sem, c1]
            refine WC_intro (fun h4 => ?_) (fun h4 => ?_)
            · simp (config := { maxSteps := 1000000 }) (disch := omega) only [go_sem]
              rw [tw (bad _ (by simp only [h2, c0, h4, c1, List.nil_append, decide_true, Bool.true_and, Bool.or_true]))]
            · simp (config := { maxSteps := 1000000 }) (disch := omega) only [go_sem]
              rw [WA_grow (len := B.length + 1) (d := 43) (l := B ++ [(m.ino n).prt 0]) rfl (by simp) (by omega)]
              simp (config := { maxSteps := 1000000 }) (disch := omega) only [go_sem, W_again (a := [3, 4, 12, 13, 29, 30])]
              refine ih _ hlt (step_all hp (bad _ (by simp only [h2, c0, h4, c1, List.nil_append, List.contains_nil, decide_true, decide_false, Bool.false_and, Bool.true_and, Bool.or_false, Bool.and_false, Bool.false_or]))) ?_
              simp [St.keep, Slots.only, Own.only, has, slV, ownL]
          · simp (config := { maxSteps := 1000000 }) (disch := omega) only [go_sem, c1]
            rw [WA_grow (len := B.length + 1) (d := 43) (l := B ++ [(m.ino n).prt 0]) rfl (by simp) (by omega)]
            simp (config := { maxSteps := 1000000 }) (disch := omega) only [go_sem, W_again (a := [3, 4, 12, 13, 29, 30])]
            refine ih _ hlt (step_all hp (bad _ (by simp only [h2, c0, c1, List.nil_append, List.contains_nil, decide_false, Bool.false_and, Bool.or_false, Bool.and_false, Bool.false_or]))) ?_
            simp [St.keep, Slots.only, Own.only, has, slV, ownL]

    · simp only [Bool.not_eq_true] at hl
      have e1 : stampsN m (n + 1) = stampsN m n := by simp only [stampsN, hl, Bool.false_eq_true, if_false]
      have e2 : seenN m (n + 1) = seenN m n := by simp only [seenN, hl, Bool.false_eq_true, if_false]
      rw [e1, e2] at ih
      have hboth := nil_both m n
      generalize stampsN m n = A at *
      generalize seenN m n = B at *
      by_cases hA : A = []
      · have hB := hboth.1 hA
        subst hA; subst hB
        simp only [slV, ownL, if_true]
        simp (config := { maxSteps := 1000000 }) (disch := omega) only [go_sem, hlt, hl]
        refine ih _ hlt (step_all hp (by simp [badAt, hl])) ?_
        simp [St.keep, Slots.only, Own.only, has, slV, ownL]
      · have hB : ¬B = [] := fun h => hA (hboth.2 h)
        simp only [slV, ownL, hA, hB, if_false]
        simp (config := { maxSteps := 1000000 }) (disch := omega) only [go_sem, hlt, hl]
        refine ih _ hlt (step_all hp (by simp [badAt, hl])) ?_
        simp [St.keep, Slots.only, Own.only, has, slV, ownL, hA, hB]
  · obtain rfl : n = 8 := by omega
    have : twice m = false := anyN_false.2 hp
    rw [this]
    have hboth := nil_both m 8
    generalize stampsN m 8 = A at *
    generalize seenN m 8 = B at *
    by_cases hA : A = []
    · have hB := hboth.1 hA
      subst hA; subst hB
      simp only [slV, ownL, if_true]
      simp (config := { maxSteps := 1000000 }) (disch := omega) only [go_sem]
    · have hB : ¬B = [] := fun h => hA (hboth.2 h)
      simp only [slV, ownL, hA, hB, if_false]
      simp (config := { maxSteps := 1000000 }) (disch := omega) only [go_sem]
end
end Go.Mini
