/- A part of the proof: CacheB. -/
import Derived.Test.YtpkndgkaecamlabCacheA
namespace Go.Mini
set_option linter.unusedSimpArgs false
set_option linter.unusedVariables false
set_option maxHeartbeats 4000000
set_option maxRecDepth 100000

def cbH (h : HP) : HP := ((h.mk1 Img.blank Img.blank).mk1 Img.one Img.one).cs h.next Img.one Img.one
theorem cbH_push (h : HP) (l : Nat) (o : Own) : cbH (h.push l o) = (cbH h).push l o := rfl
theorem cbH_stk (h : HP) : (cbH h).stk = h.stk := rfl
theorem ok_true (a b : Img) {x : Int} (e : ¬(blockOf x).1 = ⟨#[]⟩) : (writeAs a b x).2 = true := by rw [ok_write]; simp [e]
theorem data_clean (a b : Img) {x : Int} {n : Nat} (e : blockOf x = (sData, (n : Int))) (hn : n < 9) : dirty a (writeAs a b x).1 x = false := by
  rw [dirty_a e, writeAs_a e]
  simp [dat_setDat, hn]
section
variable {cx : Cx} {h : HP} {a b m m' : Img}
theorem CacheClean_ok {x : Int} (hl : ∀ n, cx.prot.lets (.obj n) = true) : Ok tblB cx Fn.eiderdownlaw_CacheClean (St.enter [m.enc, m'.enc, .int .i64 x] h) fun v h' => v = .bool true := by
  rw [Ok_eq]
  simp (config := { maxSteps := 1000000 }) (disch := omega) only [go_sem]
  refine W_callh (v := .bool true) (cbH h) rfl ⟨rfl, rfl⟩ rfl (by simp only [go_sem]; exact Ok.mono (cacheBegun_ok (hl _)) (fun v h' e => ⟨e.1, e.2⟩)) ?_
  generalize cbH h = H
  simp (config := { maxSteps := 1000000 }) (disch := omega) only [go_sem]
  refine W_callp rfl ⟨rfl, rfl⟩ (by simp only [go_sem]; exact up (Great_ok)) ?_
  simp (config := { maxSteps := 1000000 }) (disch := omega) only [go_sem]
  cases hg' : great m' with
  | true => simp (config := { maxSteps := 1000000 }) (disch := omega) only [go_sem]
  | false =>
    have hs' := great_small hg'
    simp (config := { maxSteps := 1000000 }) (disch := omega) only [go_sem]
    refine W_callp rfl ⟨rfl, rfl⟩ (by simp only [go_sem]; exact up (Great_ok)) ?_
    simp (config := { maxSteps := 1000000 }) (disch := omega) only [go_sem]
    cases hg : great m with
    | true => simp (config := { maxSteps := 1000000 }) (disch := omega) only [go_sem]
    | false =>
      have hs := great_small hg
      simp (config := { maxSteps := 1000000 }) (disch := omega) only [go_sem]
      by_cases hc : check m = 0
      · refine W_callh (v := .ptr (.obj H.next) [] tCache) (H.mk1 m m) rfl ⟨rfl, rfl⟩ rfl (by simp only [go_sem]; exact COf_ok hs hc) ?_
        simp (config := { maxSteps := 1000000 }) (disch := omega) only [go_sem, stV_cache0 (x := m') (look_mk1 H m m) (hl _), mk1_cs]
        obtain ⟨r0, r1⟩ := rd_of (look_mk1 H m' m)
        refine W_for 14 (fun k => ⟨[(2, .int .i64 x), (7, .ptr (.obj H.next) [] tCache), (8, .bool (anyN k fun i => dirty m' m i)), (9, .int .i64 k)], [], H.mk1 m' m⟩) (by simp only [go_sem] <;> rfl) fun k hk ih => ?_
        by_cases hlt : k < 14
        · simp (config := { maxSteps := 1000000 }) (disch := omega) only [go_sem, hlt]
          cases ha : anyN k (fun i => dirty m' m (i : Nat)) with
          | true =>
            simp (config := { maxSteps := 1000000 }) (disch := omega) only [go_sem, ha]
            refine ih _ hlt ?_
            simp only [go_sem, anyN_succ, ha, Bool.true_or]
          | false =>
            simp (config := { maxSteps := 1000000 }) (disch := omega) only [go_sem, ha]
            refine W_callp rfl ⟨rfl, rfl⟩ (by simp only [go_sem]; exact CDirty_ok (a := m') (b := m) (by rw [HP.push_rd_ext (below_obj _ _)]; exact r0) (by rw [HP.push_rd_ext (below_obj _ _)]; exact r1)) ?_
            simp (config := { maxSteps := 1000000 }) (disch := omega) only [go_sem]
            refine ih _ hlt ?_
            simp only [go_sem, anyN_succ, ha, Bool.false_or]
        · obtain rfl : k = 14 := by omega
          simp (config := { maxSteps := 1000000 }) (disch := omega) only [go_sem]
          refine W_callp rfl ⟨rfl, rfl⟩ (by simp only [go_sem]; exact CClean_ok (a := m') (b := m) (by rw [HP.push_rd_ext (below_obj _ _)]; exact r0) (by rw [HP.push_rd_ext (below_obj _ _)]; exact r1)) ?_
          have hcl : anyN 14 (fun i => dirty m' m (i : Nat)) = !decide (m' = m) := by
            rw [Bool.eq_iff_iff, Bool.not_eq_true', decide_eq_false_iff_not, clean_iff, ← Bool.not_eq_false, anyN_false]
          have hne : decide ((!decide (m' = m)) = decide (m' = m)) = false := by cases decide (m' = m) <;> rfl
          simp (config := { maxSteps := 1000000 }) (disch := omega) only [go_sem, hcl, hne]
          refine W_callp rfl ⟨rfl, rfl⟩ (by simp only [go_sem]; exact up (BlockOf_ok)) ?_
          simp (config := { maxSteps := 1000000 }) (disch := omega) only [go_sem]
          refine W_callh (v := .bool (writeAs m' m x).2) (H.mk1 m' (writeAs m' m x).1) rfl ⟨rfl, rfl⟩ rfl (by
            simp only [go_sem]
            refine Ok.mono (CWrite_ok (h := (H.mk1 m' m).push cx.lvl []) (n := H.next) (a := m') (b := m) (by rw [push_look_obj]; exact look_mk1 _ _ _) (hl _)) ?_
            rintro v h' ⟨h1, h2⟩
            exact ⟨h1, by rw [h2, push_cs, mk1_cs]⟩) ?_
          rw [ok_write]
          have hsync : ∀ (X : Img) (cy : Cx) (hy : cy.prot = cx.prot), Ok tblB cy Fn.cache_Cache_Sync (St.enter [.ptr (.obj H.next) [] tCache] ((H.mk1 m' X).push cx.lvl [])) fun v h' => ∃ k : Nat, k ≤ 8 ∧ v = .int .i64 k ∧ h' = (H.mk1 m' (syncD m' X k)).push cx.lvl [] ∧ (k = 8 ∨ m' = syncD m' X k) := fun X cy hy => by
            have := CSync_ok (cx := cy) (h := (H.mk1 m' X).push cx.lvl []) (n := H.next) (a := m') (b := X) (by rw [hy]; exact hl _)
            rw [push_cs, mk1_cs] at this
            refine Ok.mono this ?_
            rintro v h' ⟨k, h1, h2, h3, h4, _⟩
            exact ⟨k, h1, h2, by rw [h3, push_cs, mk1_cs], h4⟩
          have fin : ∀ X : Img, W tblB cx (.ops [⟨some 66, .call false [] 201 [.s 65], none⟩, ⟨some 12, .mov (.s 66), none⟩] [65, 66] :: [.code (.seq (.reg false Fn.eiderdownlaw_CacheClean.r20 [7, 12, 67, 68, 69, 70, 71, 72, 73, 74, 75, 76, 77, 78, 79, 80]) .ret)]) ⟨[(7, .ptr (.obj H.next) [] tCache), (9, .int .i64 14), (32, .bool false), (44, .bool false), (64, .bool false), (65, .ptr (.obj H.next) [] tCache)], [], H.mk1 m' X⟩ fun s => onO (results cx s [MRes.tmp 6]) fun v => v = AV.bool true := fun X => by
            refine W_callr (R := fun v h' => ∃ k : Nat, k ≤ 8 ∧ v = .int .i64 k ∧ h' = (H.mk1 m' (syncD m' X k)).push cx.lvl [] ∧ (k = 8 ∨ m' = syncD m' X k)) rfl ⟨rfl, rfl⟩ (by simp only [go_sem]; exact hsync X _ rfl) ?_
            rintro v h' ⟨k, hk8, rfl, rfl, hk⟩
            have hpop : St.pop ⟨[(7, .ptr (.obj H.next) [] tCache), (9, .int .i64 14), (32, .bool false), (44, .bool false), (64, .bool false), (65, .ptr (.obj H.next) [] tCache)], [], H.mk1 m' X⟩ cx.lvl [] ((H.mk1 m' (syncD m' X k)).push cx.lvl []) = ⟨[(7, .ptr (.obj H.next) [] tCache), (9, .int .i64 14), (32, .bool false), (44, .bool false), (64, .bool false), (65, .ptr (.obj H.next) [] tCache)], [], H.mk1 m' (syncD m' X k)⟩ := by
              simp only [St.pop, HP.pop, HP.push, Own.unveil, if_true]
              congr 1
              simp only [HP.mk1, HP.cs, HP.set, HP.mk.injEq, and_true]
              funext l
              by_cases hl : l = cx.lvl <;> simp [hl]
            rw [hpop]
            obtain ⟨u0, u1⟩ := rd_of (look_mk1 H m' (syncD m' X k))
            by_cases k8 : k = 8
            · simp (config := { maxSteps := 1000000 }) (disch := omega) only [go_sem, hk8, k8]
            · have e : m' = syncD m' X k := hk.resolve_left k8
              have e' : decide (m' = syncD m' X k) = true := decide_eq_true e
              simp (config := { maxSteps := 1000000 }) (disch := omega) only [go_sem, hk8, k8]
              refine W_callp rfl ⟨rfl, rfl⟩ (by simp only [go_sem]; exact CClean_ok (a := m') (b := syncD m' X k) (by rw [HP.push_rd_ext (below_obj _ _)]; exact u0) (by rw [HP.push_rd_ext (below_obj _ _)]; exact u1)) ?_
              simp (config := { maxSteps := 1000000 }) (disch := omega) only [go_sem, e']
          obtain ⟨n, hn, e⟩ | ⟨n, hn, e⟩ | ⟨n, hn, e⟩ | e := blockOf_cases x
          · simp (config := { maxSteps := 1000000 }) (disch := omega) only [go_sem, e]
            exact fin _
          · simp (config := { maxSteps := 1000000 }) (disch := omega) only [go_sem, e]
            exact fin _
          · obtain ⟨u0, u1⟩ := rd_of (look_mk1 H m' (writeAs m' m x).1)
            simp (config := { maxSteps := 1000000 }) (disch := omega) only [go_sem, e]
            refine W_callp rfl ⟨rfl, rfl⟩ (by simp only [go_sem]; exact CDirty_ok (a := m') (b := (writeAs m' m x).1) (by rw [HP.push_rd_ext (below_obj _ _)]; exact u0) (by rw [HP.push_rd_ext (below_obj _ _)]; exact u1)) ?_
            simp (config := { maxSteps := 1000000 }) (disch := omega) only [go_sem, data_clean m' m e hn]
            exact fin _
          · simp (config := { maxSteps := 1000000 }) (disch := omega) only [go_sem, e]
            exact fin _
      · refine W_callp rfl ⟨rfl, rfl⟩ (by simp only [go_sem]; exact COf_no hs hc) ?_
        simp (config := { maxSteps := 1000000 }) (disch := omega) only [go_sem]
        refine W_callp rfl ⟨rfl, rfl⟩ (by simp only [go_sem]; exact up (ImageFault_ok (m := m) hs (below_stk _ _) (by simp only [go_sem, HP.push_rd_own]))) ?_
        simp (config := { maxSteps := 1000000 }) (disch := omega) only [go_sem, hc]
end
end Go.Mini
