/- A part of the proof: CacheC. -/
import Derived.Test.YtpkndgkaecamlabCacheB
namespace Go.Mini
set_option linter.unusedSimpArgs false
set_option linter.unusedVariables false
set_option maxHeartbeats 4000000
set_option maxRecDepth 100000

theorem findN_rng {f : Nat → Bool} {n : Nat} : -1 ≤ findN n f ∧ findN n f < n := by
  rcases findN_lt (f := f) (n := n) with e | ⟨j, h, e, _⟩ <;> rw [e] <;> omega
theorem findN_le {f : Nat → Bool} {n k : Nat} (hk : k < n) (h : f k = true) : 0 ≤ findN n f ∧ findN n f ≤ k := by
  rcases findN_lt (f := f) (n := n) with e | ⟨j, h1, e, _, h2⟩
  · rw [findN_neg e k hk] at h; cases h
  · rw [e]
    refine ⟨by omega, ?_⟩
    by_cases hc : k < j
    · rw [h2 k hc] at h; cases h
    · omega
theorem findN_ne {f : Nat → Bool} {n k : Nat} (h : f k = false) : ¬((k : Int) = findN n f) := by
  rcases findN_lt (f := f) (n := n) with e | ⟨j, h1, e, h3, h2⟩
  · rw [e]; omega
  · rw [e]
    intro hj
    have : k = j := by omega
    subst this
    rw [h] at h3; cases h3
/-- What is told to be free is so, and none ahead of it is. -/
def goodN (n : Nat) (f : Nat → Bool) (N : Int) : Prop := ∀ k, k < n → (f k = true → ¬N < 0 ∧ ¬(k : Int) < N) ∧ (f k = false → ¬(k : Int) = N)
theorem findN_good {f : Nat → Bool} {n : Nat} : goodN n f (findN n f) := fun k hk =>
  ⟨fun h => by have := findN_le hk h; omega, fun h => findN_ne h⟩
section
variable {cx : Cx} {h : HP} {a b m m' : Img}
theorem slot_rng {d : Int} : -1 ≤ freeSlot m' m d ∧ freeSlot m' m d < 4 := by
  unfold freeSlot
  split
  · omega
  · exact findN_rng
theorem slot_good {d : Int} (h0 : ¬d < 0) (h3 : ¬3 ≤ d) : goodN 4 (fun s => decide ((m'.ent d.toNat s).name = ⟨#[]⟩) && decide ((m.ent d.toNat s).name = ⟨#[]⟩)) (freeSlot m' m d) := by
  unfold freeSlot
  rw [if_neg (by omega)]
  exact findN_good
theorem CacheFree_ok {x : Int} (hl : ∀ n, cx.prot.lets (.obj n) = true) : Ok tblB cx Fn.eiderdownlaw_CacheFree (St.enter [m.enc, m'.enc, .int .i64 x] h) fun v h' => v = .bool true := by
  rw [Ok_eq]
  simp (config := { maxSteps := 1000000 }) (disch := omega) only [go_sem]
  refine W_callh (v := .bool true) (cbH h) rfl ⟨rfl, rfl⟩ rfl (by simp only [go_sem]; exact Ok.mono (cacheBegun_ok (hl _)) (fun v h' e => ⟨e.1, e.2⟩)) ?_
  generalize cbH h = H
  simp (config := { maxSteps := 1000000 }) (disch := omega) only [go_sem]
  refine W_callp rfl ⟨rfl, rfl⟩ (by simp only [go_sem]; exact up (Great_ok)) ?_
  simp (config := { maxSteps := 1000000 }) (disch := omega) only [go_sem]
  cases hg' : great m' with
  | true => simp (config := { maxSteps := 1000000 }) (disch := omega) only [go_sem]
  | false =>
    have hs' := great_small hg'
    simp (config := { maxSteps := 1000000 }) (disch := omega) only [go_sem]
    refine W_callp rfl ⟨rfl, rfl⟩ (by simp only [go_sem]; exact up (Great_ok)) ?_
    simp (config := { maxSteps := 1000000 }) (disch := omega) only [go_sem]
    cases hg : great m with
    | true => simp (config := { maxSteps := 1000000 }) (disch := omega) only [go_sem]
    | false =>
      have hs := great_small hg
      simp (config := { maxSteps := 1000000 }) (disch := omega) only [go_sem]
      by_cases hc : check m = 0
      · refine W_callh (v := .ptr (.obj H.next) [] tCache) (H.mk1 m m) rfl ⟨rfl, rfl⟩ rfl (by simp only [go_sem]; exact COf_ok hs hc) ?_
        simp (config := { maxSteps := 1000000 }) (disch := omega) only [go_sem, stV_cache0 (x := m') (look_mk1 H m m) (hl _), mk1_cs]
        obtain ⟨r0, r1⟩ := rd_of (look_mk1 H m' m)
        refine W_callp rfl ⟨rfl, rfl⟩ (by simp only [go_sem]; exact CInode_ok (a := m') (b := m) (by rw [HP.push_rd_ext (below_obj _ _)]; exact r0) (by rw [HP.push_rd_ext (below_obj _ _)]; exact r1)) ?_
        simp (config := { maxSteps := 1000000 }) (disch := omega) only [go_sem]
        refine W_callp rfl ⟨rfl, rfl⟩ (by simp only [go_sem]; exact CSlot_ok (a := m') (b := m) (by rw [HP.push_rd_ext (below_obj _ _)]; exact r0) (by rw [HP.push_rd_ext (below_obj _ _)]; exact r1)) ?_
        simp (config := { maxSteps := 1000000 }) (disch := omega) only [go_sem]
        refine W_callp rfl ⟨rfl, rfl⟩ (by simp only [go_sem]; exact CData_ok (a := m') (b := m) (by rw [HP.push_rd_ext (below_obj _ _)]; exact r0) (by rw [HP.push_rd_ext (below_obj _ _)]; exact r1)) ?_
        simp (config := { maxSteps := 1000000 }) (disch := omega) only [go_sem]
        have n0 := findN_rng (f := fun k => !(m'.ino k).live && decide (refs m k = 0)) (n := 8)
        have nG := findN_good (f := fun k => !(m'.ino k).live && decide (refs m k = 0)) (n := 8)
        generalize findN 8 (fun k => !(m'.ino k).live && decide (refs m k = 0)) = N at *
        have s0 := slot_rng (m' := m') (m := m) (d := x)
        have sG := slot_good (m' := m') (m := m) (d := x)
        generalize freeSlot m' m x = S at *
        have x0 := findN_rng (f := fun k => !held m' k && !held m k) (n := 9)
        have xG := findN_good (f := fun k => !held m' k && !held m k) (n := 9)
        generalize findN 9 (fun k => !held m' k && !held m k) = X at *
        have e1 : ¬N < -1 := by omega
        have e2 : ¬8 ≤ N := by omega
        have e3 : ¬S < -1 := by omega
        have e4 : ¬4 ≤ S := by omega
        have e5 : ¬X < -1 := by omega
        have e6 : ¬9 ≤ X := by omega
        simp (config := { maxSteps := 1000000 }) (disch := omega) only [go_sem, e1, e2, e3, e4, e5, e6]
        refine W_for 8 (fun k => ⟨[(2, .int .i64 x), (3, .ptr (.stk cx.lvl 3) [] tImage), (4, .ptr (.stk cx.lvl 4) [] tImage), (8, .int .i64 N), (9, .int .i64 S), (10, .int .i64 X), (11, .int .i64 k)], [(3, ⟨tImage, m.enc⟩), (4, ⟨tImage, m'.enc⟩)], H.mk1 m' m⟩) (by simp only [go_sem] <;> rfl) fun k hk ih => ?_
        by_cases hlt : k < 8
        · obtain ⟨gT, gF⟩ := nG k hlt
          cases c1 : (m'.ino k).live with
          | true =>
            have g := gF (by simp [c1])
            simp (config := { maxSteps := 1000000 }) (disch := omega) only [go_sem, hlt, c1, g]
            refine ih _ hlt ?_
            simp only [go_sem]
          | false =>
            simp (config := { maxSteps := 1000000 }) (disch := omega) only [go_sem, hlt, c1]
            refine W_callp rfl ⟨rfl, rfl⟩ (by simp only [go_sem]; exact up (Leads_ok (m := m) (below_stk _ _) (by simp only [go_sem, HP.push_rd_own]))) ?_
            simp (config := { maxSteps := 1000000 }) (disch := omega) only [go_sem]
            by_cases c2 : refs m k = 0
            · have g := gT (by simp [c1, c2])
              by_cases c3 : (k : Int) = N
              · subst c3
                simp (config := { maxSteps := 1000000 }) (disch := omega) only [go_sem, c2, g.1, g.2]
                refine ih _ hlt ?_
                simp only [go_sem]
              · simp (config := { maxSteps := 1000000 }) (disch := omega) only [go_sem, c2, c3, g.1, g.2]
                refine ih _ hlt ?_
                simp only [go_sem]
            · have g := gF (by simp [c1, c2])
              simp (config := { maxSteps := 1000000 }) (disch := omega) only [go_sem, c2, g]
              refine ih _ hlt ?_
              simp only [go_sem]
        · obtain rfl : k = 8 := by omega
          simp (config := { maxSteps := 1000000 }) (disch := omega) only [go_sem]
          refine W_for 4 (fun k => ⟨[(2, .int .i64 x), (3, .ptr (.stk cx.lvl 3) [] tImage), (4, .ptr (.stk cx.lvl 4) [] tImage), (9, .int .i64 S), (10, .int .i64 X), (13, .int .i64 k)], [(3, ⟨tImage, m.enc⟩), (4, ⟨tImage, m'.enc⟩)], H.mk1 m' m⟩) (by simp only [go_sem] <;> rfl) fun k hk ih => ?_
          by_cases hlt : k < 4
          · by_cases h0 : x < 0
            · simp (config := { maxSteps := 1000000 }) (disch := omega) only [go_sem, hlt, h0]
              refine W_for 9 (fun k => ⟨[(3, .ptr (.stk cx.lvl 3) [] tImage), (4, .ptr (.stk cx.lvl 4) [] tImage), (10, .int .i64 X), (15, .int .i64 k)], [(3, ⟨tImage, m.enc⟩), (4, ⟨tImage, m'.enc⟩)], H.mk1 m' m⟩) (by simp only [go_sem] <;> rfl) fun k hk ih => ?_
              by_cases hlt : k < 9
              · obtain ⟨gT, gF⟩ := xG k hlt
                simp (config := { maxSteps := 1000000 }) (disch := omega) only [go_sem, hlt]
                refine W_callp rfl ⟨rfl, rfl⟩ (by simp only [go_sem]; exact up (Held_ok (m := m') (below_stk _ _) (by simp only [go_sem, HP.push_rd_own]))) ?_
                simp (config := { maxSteps := 1000000 }) (disch := omega) only [go_sem]
                cases c1 : held m' (k : Nat) with
                | true =>
                  have g := gF (by simp [c1])
                  simp (config := { maxSteps := 1000000 }) (disch := omega) only [go_sem, hlt, c1, g]
                  refine ih _ hlt ?_
                  simp only [go_sem]
                | false =>
                  simp (config := { maxSteps := 1000000 }) (disch := omega) only [go_sem, hlt, c1]
                  refine W_callp rfl ⟨rfl, rfl⟩ (by simp only [go_sem]; exact up (Held_ok (m := m) (below_stk _ _) (by simp only [go_sem, HP.push_rd_own]))) ?_
                  simp (config := { maxSteps := 1000000 }) (disch := omega) only [go_sem]
                  cases c2 : held m (k : Nat) with
                  | false =>
                    have g := gT (by simp [c1, c2])
                    by_cases c3 : (k : Int) = X
                    · subst c3
                      simp (config := { maxSteps := 1000000 }) (disch := omega) only [go_sem, c2, g.1, g.2]
                      refine ih _ hlt ?_
                      simp only [go_sem]
                    · simp (config := { maxSteps := 1000000 }) (disch := omega) only [go_sem, c2, c3, g.1, g.2]
                      refine ih _ hlt ?_
                      simp only [go_sem]
                  | true =>
                    have g := gF (by simp [c1, c2])
                    simp (config := { maxSteps := 1000000 }) (disch := omega) only [go_sem, c2, g]
                    refine ih _ hlt ?_
                    simp only [go_sem]
              · obtain rfl : k = 9 := by omega
                simp (config := { maxSteps := 1000000 }) (disch := omega) only [go_sem]
            · by_cases h3 : 3 ≤ x
              · have h3' : ¬x < 3 := by omega
                simp (config := { maxSteps := 1000000 }) (disch := omega) only [go_sem, hlt, h0, h3, h3']
                refine W_for 9 (fun k => ⟨[(3, .ptr (.stk cx.lvl 3) [] tImage), (4, .ptr (.stk cx.lvl 4) [] tImage), (10, .int .i64 X), (15, .int .i64 k)], [(3, ⟨tImage, m.enc⟩), (4, ⟨tImage, m'.enc⟩)], H.mk1 m' m⟩) (by simp only [go_sem] <;> rfl) fun k hk ih => ?_
                by_cases hlt : k < 9
                · obtain ⟨gT, gF⟩ := xG k hlt
                  simp (config := { maxSteps := 1000000 }) (disch := omega) only [go_sem, hlt]
                  refine W_callp rfl ⟨rfl, rfl⟩ (by simp only [go_sem]; exact up (Held_ok (m := m') (below_stk _ _) (by simp only [go_sem, HP.push_rd_own]))) ?_
                  simp (config := { maxSteps := 1000000 }) (disch := omega) only [go_sem]
                  cases c1 : held m' (k : Nat) with
                  | true =>
                    have g := gF (by simp [c1])
                    simp (config := { maxSteps := 1000000 }) (disch := omega) only [go_sem, hlt, c1, g]
                    refine ih _ hlt ?_
                    simp only [go_sem]
                  | false =>
                    simp (config := { maxSteps := 1000000 }) (disch := omega) only [go_sem, hlt, c1]
                    refine W_callp rfl ⟨rfl, rfl⟩ (by simp only [go_sem]; exact up (Held_ok (m := m) (below_stk _ _) (by simp only [go_sem, HP.push_rd_own]))) ?_
                    simp (config := { maxSteps := 1000000 }) (disch := omega) only [go_sem]
                    cases c2 : held m (k : Nat) with
                    | false =>
                      have g := gT (by simp [c1, c2])
                      by_cases c3 : (k : Int) = X
                      · subst c3
                        simp (config := { maxSteps := 1000000 }) (disch := omega) only [go_sem, c2, g.1, g.2]
                        refine ih _ hlt ?_
                        simp only [go_sem]
                      · simp (config := { maxSteps := 1000000 }) (disch := omega) only [go_sem, c2, c3, g.1, g.2]
                        refine ih _ hlt ?_
                        simp only [go_sem]
                    | true =>
                      have g := gF (by simp [c1, c2])
                      simp (config := { maxSteps := 1000000 }) (disch := omega) only [go_sem, c2, g]
                      refine ih _ hlt ?_
                      simp only [go_sem]
                · obtain rfl : k = 9 := by omega
                  simp (config := { maxSteps := 1000000 }) (disch := omega) only [go_sem]
              · have h3' : x < 3 := by omega
                obtain ⟨gT, gF⟩ := sG h0 h3 k hlt
                by_cases c1 : (m'.ent x.toNat k).name = ⟨#[]⟩
                · by_cases c2 : (m.ent x.toNat k).name = ⟨#[]⟩
                  · have g := gT (by simp [c1, c2])
                    by_cases c3 : (k : Int) = S
                    · subst c3
                      simp (config := { maxSteps := 1000000 }) (disch := omega) only [go_sem, hlt, h0, h3, h3', c1, c2, g.1, g.2]
                      refine ih _ hlt ?_
                      simp only [go_sem]
                    · simp (config := { maxSteps := 1000000 }) (disch := omega) only [go_sem, hlt, h0, h3, h3', c1, c2, c3, g.1, g.2]
                      refine ih _ hlt ?_
                      simp only [go_sem]
                  · have g := gF (by simp [c1, c2])
                    simp (config := { maxSteps := 1000000 }) (disch := omega) only [go_sem, hlt, h0, h3, h3', c1, c2, g]
                    refine ih _ hlt ?_
                    simp only [go_sem]
                · have g := gF (by simp [c1])
                  simp (config := { maxSteps := 1000000 }) (disch := omega) only [go_sem, hlt, h0, h3, h3', c1, g]
                  refine ih _ hlt ?_
                  simp only [go_sem]
          · obtain rfl : k = 4 := by omega
            simp (config := { maxSteps := 1000000 }) (disch := omega) only [go_sem]
            refine W_for 9 (fun k => ⟨[(3, .ptr (.stk cx.lvl 3) [] tImage), (4, .ptr (.stk cx.lvl 4) [] tImage), (10, .int .i64 X), (15, .int .i64 k)], [(3, ⟨tImage, m.enc⟩), (4, ⟨tImage, m'.enc⟩)], H.mk1 m' m⟩) (by simp only [go_sem] <;> rfl) fun k hk ih => ?_
            by_cases hlt : k < 9
            · obtain ⟨gT, gF⟩ := xG k hlt
              simp (config := { maxSteps := 1000000 }) (disch := omega) only [go_sem, hlt]
              refine W_callp rfl ⟨rfl, rfl⟩ (by simp only [go_sem]; exact up (Held_ok (m := m') (below_stk _ _) (by simp only [go_sem, HP.push_rd_own]))) ?_
              simp (config := { maxSteps := 1000000 }) (disch := omega) only [go_sem]
              cases c1 : held m' (k : Nat) with
              | true =>
                have g := gF (by simp [c1])
                simp (config := { maxSteps := 1000000 }) (disch := omega) only [go_sem, hlt, c1, g]
                refine ih _ hlt ?_
                simp only [go_sem]
              | false =>
                simp (config := { maxSteps := 1000000 }) (disch := omega) only [go_sem, hlt, c1]
                refine W_callp rfl ⟨rfl, rfl⟩ (by simp only [go_sem]; exact up (Held_ok (m := m) (below_stk _ _) (by simp only [go_sem, HP.push_rd_own]))) ?_
                simp (config := { maxSteps := 1000000 }) (disch := omega) only [go_sem]
                cases c2 : held m (k : Nat) with
                | false =>
                  have g := gT (by simp [c1, c2])
                  by_cases c3 : (k : Int) = X
                  · subst c3
                    simp (config := { maxSteps := 1000000 }) (disch := omega) only [go_sem, c2, g.1, g.2]
                    refine ih _ hlt ?_
                    simp only [go_sem]
                  · simp (config := { maxSteps := 1000000 }) (disch := omega) only [go_sem, c2, c3, g.1, g.2]
                    refine ih _ hlt ?_
                    simp only [go_sem]
                | true =>
                  have g := gF (by simp [c1, c2])
                  simp (config := { maxSteps := 1000000 }) (disch := omega) only [go_sem, c2, g]
                  refine ih _ hlt ?_
                  simp only [go_sem]
            · obtain rfl : k = 9 := by omega
              simp (config := { maxSteps := 1000000 }) (disch := omega) only [go_sem]
      · refine W_callp rfl ⟨rfl, rfl⟩ (by simp only [go_sem]; exact COf_no hs hc) ?_
        simp (config := { maxSteps := 1000000 }) (disch := omega) only [go_sem]
        refine W_callp rfl ⟨rfl, rfl⟩ (by simp only [go_sem]; exact up (ImageFault_ok (m := m) hs (below_stk _ _) (by simp only [go_sem, HP.push_rd_own]))) ?_
        simp (config := { maxSteps := 1000000 }) (disch := omega) only [go_sem, hc]
end
end Go.Mini
