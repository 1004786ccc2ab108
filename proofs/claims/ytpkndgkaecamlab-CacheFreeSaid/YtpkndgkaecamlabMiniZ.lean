/- A part of the proof: MiniZ. -/
import Derived.Test.YtpkndgkaecamlabMiniY
namespace Go.Mini
set_option linter.unusedSimpArgs false
set_option linter.unusedVariables false
set_option maxHeartbeats 4000000
set_option maxRecDepth 100000

/-! What a Write of a directory leaves. -/
def leadsE (y : Ent) (i : Int) : Bool := !decide (y.name = ⟨#[]⟩) && decide (y.ino = i)
theorem leads_E (m : Img) (d s : Nat) (i : Int) : leads m d s i = leadsE (m.ent d s) i := rfl
theorem refs_set {m : Img} {d s : Nat} {y : Ent} (hd : d < 3) (hs : s < 4) (i : Int) : refs m i + b2n (leadsE y i) = refs (m.setEnt d s y) i + b2n (leads m d s i) := by
  have ent : ∀ d' s', d' < 3 → s' < 4 → (m.setEnt d s y).ent d' s' = if d = d' ∧ s = s' then y else m.ent d' s' := fun d' s' h h' => by
    rw [ent_setEnt]
    by_cases e : d = d' ∧ s = s'
    · rw [if_pos ⟨e, h, h'⟩, if_pos e]
    · rw [if_neg (fun h' => e h'.1), if_neg e]
  have e0 : leads (m.setEnt d s y) d s i = leadsE y i := by rw [leads_E, ent d s hd hs, if_pos ⟨rfl, rfl⟩]
  have h2 : sumN 4 (fun t => b2n (leads m d t i)) + b2n (leads (m.setEnt d s y) d s i) = sumN 4 (fun t => b2n (leads (m.setEnt d s y) d t i)) + b2n (leads m d s i) := by
    have := sumN_upd (f := fun t => if t < 4 then b2n (leads m d t i) else 0) (g := fun t => if t < 4 then b2n (leads (m.setEnt d s y) d t i) else 0) (j := s) (n := 4) (fun t ht => by
      show (if t < 4 then b2n (leads m d t i) else 0) = if t < 4 then b2n (leads (m.setEnt d s y) d t i) else 0
      split
      · rename_i h4; rw [leads_congr (m := m) (m' := m.setEnt d s y) (by rw [ent d t hd h4, if_neg (fun h => ht h.2.symm)])]
      · rfl) hs
    have c1 : (sumN 4 fun t => if t < 4 then b2n (leads m d t i) else 0) = sumN 4 (fun t => b2n (leads m d t i)) := sumN_congr fun t ht => by simp [ht]
    have c2 : (sumN 4 fun t => if t < 4 then b2n (leads (m.setEnt d s y) d t i) else 0) = sumN 4 (fun t => b2n (leads (m.setEnt d s y) d t i)) := sumN_congr fun t ht => by simp [ht]
    rw [c1, c2] at this
    simpa [hs] using this
  have h3 : sumN 3 (fun e => refsRow m i e 4) + refsRow (m.setEnt d s y) i d 4 = sumN 3 (fun e => refsRow (m.setEnt d s y) i e 4) + refsRow m i d 4 := by
    have := sumN_upd (f := fun e => if e < 3 then refsRow m i e 4 else 0) (g := fun e => if e < 3 then refsRow (m.setEnt d s y) i e 4 else 0) (j := d) (n := 3) (fun t ht => by
      show (if t < 3 then refsRow m i t 4 else 0) = if t < 3 then refsRow (m.setEnt d s y) i t 4 else 0
      split
      · rename_i h3
        refine sumN_congr fun u hu => ?_
        rw [leads_congr (m := m) (m' := m.setEnt d s y) (by rw [ent t u h3 hu, if_neg (fun h => ht h.1.symm)])]
      · rfl) hd
    have c1 : (sumN 3 fun e => if e < 3 then refsRow m i e 4 else 0) = sumN 3 (fun e => refsRow m i e 4) := sumN_congr fun t ht => by simp [ht]
    have c2 : (sumN 3 fun e => if e < 3 then refsRow (m.setEnt d s y) i e 4 else 0) = sumN 3 (fun e => refsRow (m.setEnt d s y) i e 4) := sumN_congr fun t ht => by simp [ht]
    rw [c1, c2] at this
    simpa [hd] using this
  rw [e0] at h2
  simp only [refs, refsRow] at h3 ⊢
  omega
theorem entryAs_cases (now out : Img) (d s : Nat) : entryAs now out d s = out.ent d s ∨
    ((out.ent d s).name = ⟨#[]⟩ ∧ entryAs now out d s = now.ent d s ∧ 0 ≤ (now.ent d s).ino ∧ (now.ent d s).ino < 8 ∧ (out.ino (now.ent d s).ino.toNat).live = true ∧ (out.ino (now.ent d s).ino.toNat).stamp = (now.ent d s).stamp ∧
      (refs out (now.ent d s).ino : Int) < (out.ino (now.ent d s).ino.toNat).links) ∨
    (¬(out.ent d s).name = ⟨#[]⟩ ∧ entryAs now out d s = Ent.zero ∧ (1 < refs out (out.ent d s).ino ∨ refs now (out.ent d s).ino = 0)) := by
  unfold entryAs
  by_cases h1 : now.ent d s = out.ent d s
  · simp [h1]
  by_cases h2 : (out.ent d s).name = ⟨#[]⟩
  · by_cases h3 : (now.ent d s).ino < 0 ∨ 8 ≤ (now.ent d s).ino
    · simp [h1, h2, h3]
    · by_cases h4 : (out.ino (now.ent d s).ino.toNat).live = true ∧ (out.ino (now.ent d s).ino.toNat).stamp = (now.ent d s).stamp ∧ (refs out (now.ent d s).ino : Int) < (out.ino (now.ent d s).ino.toNat).links
      · right; left
        refine ⟨h2, ?_, by omega, by omega, h4.1, h4.2.1, h4.2.2⟩
        simp only [h1, h2, h3, h4, if_true, if_false, and_self]
      · left
        simp only [h1, h2, h3, h4, if_true, if_false]
  · by_cases h3 : 1 < refs out (out.ent d s).ino ∨ refs now (out.ent d s).ino = 0
    · right; right
      exact ⟨h2, by simp only [h1, h2, h3, if_true, if_false], h3⟩
    · left
      simp only [h1, h2, h3, if_false]
theorem leadsE_zero (i : Int) : leadsE Ent.zero i = false := rfl
theorem leadsE_iff {y : Ent} {i : Int} : leadsE y i = true ↔ ¬y.name = ⟨#[]⟩ ∧ y.ino = i := by simp [leadsE]
theorem wrDir_ok (now disk : Img) {d0 : Nat} (hd : d0 < 3) : ∀ k, k ≤ 4 →
    (∀ n, (wrDir now disk d0 k).ino n = disk.ino n) ∧ (∀ j, (wrDir now disk d0 k).dat j = disk.dat j) ∧ (∀ d s, d < 3 → s < 4 → (d ≠ d0 ∨ k ≤ s) → (wrDir now disk d0 k).ent d s = disk.ent d s) ∧
    (∀ s, s < k → (wrDir now disk d0 k).ent d0 s = disk.ent d0 s ∨ (wrDir now disk d0 k).ent d0 s = Ent.zero ∨
      ((wrDir now disk d0 k).ent d0 s = now.ent d0 s ∧ 0 ≤ (now.ent d0 s).ino ∧ (now.ent d0 s).ino < 8 ∧ (disk.ino (now.ent d0 s).ino.toNat).live = true ∧ (disk.ino (now.ent d0 s).ino.toNat).stamp = (now.ent d0 s).stamp)) ∧
    (∀ n : Nat, 0 < refs disk n → 0 < refs now n → 0 < refs (wrDir now disk d0 k) n) ∧
    (∀ n : Nat, refs (wrDir now disk d0 k) n ≤ refs disk n ∨ ((disk.ino n).live = true ∧ (refs (wrDir now disk d0 k) n : Int) ≤ (disk.ino n).links))
  | 0, _ => ⟨fun _ => rfl, fun _ => rfl, fun _ _ _ _ _ => rfl, fun s hs => by omega, fun n h _ => h, fun n => .inl (Nat.le_refl _)⟩
  | k + 1, hk => by
    obtain ⟨i1, i2, i3, i4, i5, i6⟩ := wrDir_ok now disk hd k (by omega)
    have hk4 : k < 4 := by omega
    have hR := fun i : Int => refs_set (m := wrDir now disk d0 k) (y := entryAs now (wrDir now disk d0 k) d0 k) hd hk4 i
    have hb : (wrDir now disk d0 k).ent d0 k = disk.ent d0 k := i3 d0 k hd hk4 (.inr (Nat.le_refl _))
    have hE := fun d s (h : d < 3) (h' : s < 4) => ent_setEnt (wrDir now disk d0 k) d0 k (entryAs now (wrDir now disk d0 k) d0 k) d s
    have hC := entryAs_cases now (wrDir now disk d0 k) d0 k
    simp only [wrDir]
    generalize wrDir now disk d0 k = out at *
    generalize entryAs now out d0 k = y at *
    have hE' : (out.setEnt d0 k y).ent d0 k = y := by rw [hE d0 k hd hk4, if_pos ⟨⟨rfl, rfl⟩, hd, hk4⟩]
    refine ⟨fun n => by rw [ino_setEnt, i1], fun j => by rw [dat_setEnt, i2], fun d s h h' hne => ?_, fun s hs => ?_, fun n h1 h2 => ?_, fun n => ?_⟩
    · rw [hE d s h h', if_neg (by omega)]
      exact i3 d s h h' (by omega)
    · by_cases e : s = k
      · subst e
        rw [hE']
        rcases hC with c | ⟨c1, c2, c3, c4, c5, c6, c7⟩ | ⟨c1, c2, c3⟩
        · left; rw [c, hb]
        · right; right
          rw [i1] at c5 c6
          exact ⟨c2, c3, c4, c5, c6⟩
        · right; left; exact c2
      · rw [hE d0 s hd (by omega), if_neg (by omega)]
        exact i4 s (by omega)
    · have hr := hR n
      have h5 := i5 n h1 h2
      rcases hC with c | ⟨c1, c2, c3, c4, c5, c6, c7⟩ | ⟨c1, c2, c3⟩
      · rw [c] at hr
        rw [← leads_E] at hr
        rw [c]; omega
      · have : leads out d0 k n = false := by simp [leads, c1]
        rw [this] at hr
        simp only [b2n, Bool.false_eq_true, if_false, Nat.add_zero] at hr
        omega
      · rw [c2, leadsE_zero] at hr
        rw [c2]
        cases hl : leads out d0 k n with
        | false => rw [hl] at hr; simp only [b2n] at hr; omega
        | true =>
          rw [hl] at hr
          rw [leads_E, leadsE_iff] at hl
          rw [hl.2] at c3
          simp only [b2n, if_true] at hr
          rcases c3 with c3 | c3
          · simp at hr; omega
          · omega
    · have hr := hR n
      have h6 := i6 n
      rcases hC with c | ⟨c1, c2, c3, c4, c5, c6, c7⟩ | ⟨c1, c2, c3⟩
      · rw [c] at hr
        rw [← leads_E] at hr
        have : refs (out.setEnt d0 k (out.ent d0 k)) n = refs out n := by omega
        rw [c, this]; exact h6
      · have : leads out d0 k n = false := by simp [leads, c1]
        rw [this] at hr
        cases hl : leadsE y n with
        | false =>
          rw [hl] at hr
          have : refs (out.setEnt d0 k y) n = refs out n := by simp only [b2n] at hr; omega
          rw [this]; exact h6
        | true =>
          rw [hl] at hr
          rw [c2, leadsE_iff] at hl
          rw [hl.2] at c5 c7
          rw [i1, Int.toNat_natCast] at c5 c7
          right
          refine ⟨c5, ?_⟩
          simp [b2n] at hr
          omega
      · rw [c2, leadsE_zero] at hr
        rw [c2]
        simp only [b2n, Bool.false_eq_true, if_false, Nat.add_zero] at hr
        rcases h6 with h6 | ⟨h6, h7⟩
        · left; omega
        · right; exact ⟨h6, by omega⟩
theorem wrInodes_ent (now disk : Img) (n d s : Nat) : ∀ k, (wrInodes now disk n k).ent d s = disk.ent d s
  | 0 => rfl
  | k + 1 => by rw [wrInodes, ent_setIno, wrInodes_ent now disk n d s k]
/-- The last name stays. -/
theorem write_last (now disk : Img) (b : Int) : (∀ n : Nat, 0 < refs disk n → 0 < refs now n → 0 < refs (writeAs now disk b).1 n) ∧
    (∀ n : Nat, n < 8 → refs disk n < refs (writeAs now disk b).1 n → ((writeAs now disk b).1.ino n).live = true ∧ (refs (writeAs now disk b).1 n : Int) ≤ ((writeAs now disk b).1.ino n).links) ∧
    (∀ d s, d < 3 → s < 4 → disk.ent d s = (writeAs now disk b).1.ent d s ∨ ((writeAs now disk b).1.ent d s).name = ⟨#[]⟩ ∨
      ((writeAs now disk b).1.ent d s = now.ent d s ∧ 0 ≤ ((writeAs now disk b).1.ent d s).ino ∧ ((writeAs now disk b).1.ent d s).ino < 8 ∧ (disk.ino ((writeAs now disk b).1.ent d s).ino.toNat).stamp = ((writeAs now disk b).1.ent d s).stamp)) := by
  have same : ∀ x : Img, (∀ d s, x.ent d s = disk.ent d s) → (∀ n : Nat, 0 < refs disk n → 0 < refs now n → 0 < refs x n) ∧
      (∀ n : Nat, n < 8 → refs disk n < refs x n → (x.ino n).live = true ∧ (refs x n : Int) ≤ (x.ino n).links) ∧
      (∀ d s, d < 3 → s < 4 → disk.ent d s = x.ent d s ∨ (x.ent d s).name = ⟨#[]⟩ ∨ (x.ent d s = now.ent d s ∧ 0 ≤ (x.ent d s).ino ∧ (x.ent d s).ino < 8 ∧ (disk.ino (x.ent d s).ino.toNat).stamp = (x.ent d s).stamp)) := by
    intro x hx
    have hr : ∀ i, refs x i = refs disk i := fun i => refs_congr hx i
    exact ⟨fun n h1 _ => by rw [hr]; exact h1, fun n _ h => by rw [hr] at h; omega, fun d s _ _ => .inl (hx d s).symm⟩
  obtain ⟨n, hn, e⟩ | ⟨n, hn, e⟩ | ⟨n, hn, e⟩ | e := blockOf_cases b
  · rw [writeAs_i e]
    exact same _ fun d s => wrInodes_ent now disk n d s 4
  · rw [writeAs_d e]
    obtain ⟨i1, i2, i3, i4, i5, i6⟩ := wrDir_ok now disk hn 4 (Nat.le_refl _)
    refine ⟨i5, fun k hk hlt => ?_, fun d s hd hs => ?_⟩
    · have hlt : refs disk k < refs (wrDir now disk n 4) k := hlt
      rcases i6 k with h | h
      · omega
      · show ((wrDir now disk n 4).ino k).live = true ∧ _
        rw [i1]; exact h
    · show disk.ent d s = (wrDir now disk n 4).ent d s ∨ _
      by_cases hdn : d = n
      · subst hdn
        rcases i4 s hs with h | h | ⟨h1, h2, h3, _, h4⟩
        · exact .inl h.symm
        · right; left; show ((wrDir now disk d 4).ent d s).name = _
          rw [h]; rfl
        · right; right
          show (wrDir now disk d 4).ent d s = _ ∧ 0 ≤ ((wrDir now disk d 4).ent d s).ino ∧ _
          rw [h1]; exact ⟨rfl, h2, h3, h4⟩
      · exact .inl (i3 d s hd hs (.inl hdn)).symm
  · rw [writeAs_a e]
    exact same _ fun d s => ent_setDat ..
  · rw [writeAs_n e]
    exact same _ fun d s => rfl
section
variable {cx : Cx} {h : HP} {p p' : Id} {q q' : List Nat} {m m' : Img}
theorem SafeLast_ok {b : Int} : Ok tbl cx Fn.eiderdownlaw_SafeLast (St.enter [m.enc, m'.enc, .int .i64 b] h) fun v h' => v = .bool true ∧ h' = h := by
  rw [Ok_eq]
  simp (config := { maxSteps := 1000000 }) (disch := omega) only [go_sem]
  refine W_callp rfl ⟨rfl, rfl⟩ (by simp only [go_sem]; exact safeBegun_ok) ?_
  simp (config := { maxSteps := 1000000 }) (disch := omega) only [go_sem]
  refine W_callp rfl ⟨rfl, rfl⟩ (by simp only [go_sem]; exact Great_ok) ?_
  simp (config := { maxSteps := 1000000 }) (disch := omega) only [go_sem]
  cases hg : great m with
  | true => simp (config := { maxSteps := 1000000 }) (disch := omega) only [go_sem]
  | false =>
    simp (config := { maxSteps := 1000000 }) (disch := omega) only [go_sem]
    refine W_callp rfl ⟨rfl, rfl⟩ (by simp only [go_sem]; exact Great_ok) ?_
    simp (config := { maxSteps := 1000000 }) (disch := omega) only [go_sem]
    cases hg' : great m' with
    | true => simp (config := { maxSteps := 1000000 }) (disch := omega) only [go_sem]
    | false =>
      have hs' := great_small hg'
      simp (config := { maxSteps := 1000000 }) (disch := omega) only [go_sem]
      refine W_callp rfl ⟨rfl, rfl⟩ (by simp only [go_sem]; exact Check_ok (m := m') hs' (below_stk _ _) (by simp only [go_sem, HP.push_rd_own])) ?_
      simp (config := { maxSteps := 1000000 }) (disch := omega) only [go_sem]
      by_cases hc : check m' = 0
      · simp (config := { maxSteps := 1000000 }) (disch := omega) only [go_sem, hc]
        refine W_callp rfl ⟨rfl, rfl⟩ (by simp only [go_sem]; exact Write_ok (m := m) (m' := m') (below_stk _ _) (by simp only [go_sem, HP.push_rd_own]) (below_stk _ _) (by simp only [go_sem, HP.push_rd_own])) ?_
        simp (config := { maxSteps := 1000000 }) (disch := omega) only [go_sem]
        obtain ⟨w1, w2, w3⟩ := write_last m m' b
        generalize (writeAs m m' b).1 = X at *
        refine W_for 8 (fun n => ⟨[(3, .ptr (.stk cx.lvl 3) [] tImage), (4, .ptr (.stk cx.lvl 4) [] tImage), (7, .ptr (.stk cx.lvl 7) [] tImage), (9, .int .i64 n)],
          [(3, ⟨tImage, m.enc⟩), (4, ⟨tImage, m'.enc⟩), (7, ⟨tImage, X.enc⟩)], h⟩) (by simp only [go_sem] <;> rfl) fun n hn ih => ?_
        by_cases hlt : n < 8
        · simp (config := { maxSteps := 1000000 }) (disch := omega) only [go_sem, hlt]
          refine W_callp rfl ⟨rfl, rfl⟩ (by simp only [go_sem]; exact Refs_ok (m := m') (below_stk _ _) (by simp only [go_sem, HP.push_rd_own])) ?_
          simp (config := { maxSteps := 1000000 }) (disch := omega) only [go_sem]
          refine W_callp rfl ⟨rfl, rfl⟩ (by simp only [go_sem]; exact Refs_ok (m := X) (below_stk _ _) (by simp only [go_sem, HP.push_rd_own])) ?_
          simp (config := { maxSteps := 1000000 }) (disch := omega) only [go_sem, hlt]
          have v1 := w1 n
          have v2 := w2 n hlt
          by_cases c0 : refs m' n < refs X n
          · obtain ⟨v3, v4⟩ := v2 c0
            have c1 : ¬refs X n = 0 := by omega
            by_cases c2 : 0 < refs m' n
            · simp (config := { maxSteps := 1000000 }) (disch := omega) only [go_sem, c1, c2, v3, hlt, v4]
              refine ih _ hlt ?_
              simp only [go_sem]
            · simp (config := { maxSteps := 1000000 }) (disch := omega) only [go_sem, c1, c2, v3, hlt, v4]
              refine ih _ hlt ?_
              simp only [go_sem]
          · by_cases c2 : 0 < refs m' n
            · by_cases c1 : refs X n = 0
              · simp (config := { maxSteps := 1000000 }) (disch := omega) only [go_sem, c1, c2]
                refine W_callp rfl ⟨rfl, rfl⟩ (by simp only [go_sem]; exact Refs_ok (m := m) (below_stk _ _) (by simp only [go_sem, HP.push_rd_own])) ?_
                have c3 : refs m n = 0 := by
                  rcases Nat.eq_zero_or_pos (refs m n) with h | h
                  · exact h
                  · have := v1 c2 h; omega
                simp (config := { maxSteps := 1000000 }) (disch := omega) only [go_sem, c1, c2, c3, hlt]
                refine ih _ hlt ?_
                simp only [go_sem]
              · simp (config := { maxSteps := 1000000 }) (disch := omega) only [go_sem, c1, c2, hlt]
                refine ih _ hlt ?_
                simp only [go_sem]
            · simp (config := { maxSteps := 1000000 }) (disch := omega) only [go_sem, c2, hlt]
              refine ih _ hlt ?_
              simp only [go_sem]
        · obtain rfl : n = 8 := by omega
          simp (config := { maxSteps := 1000000 }) (disch := omega) only [go_sem]
          refine W_for 3 (fun d => ⟨[(3, .ptr (.stk cx.lvl 3) [] tImage), (4, .ptr (.stk cx.lvl 4) [] tImage), (7, .ptr (.stk cx.lvl 7) [] tImage), (12, .int .i64 d)],
            [(3, ⟨tImage, m.enc⟩), (4, ⟨tImage, m'.enc⟩), (7, ⟨tImage, X.enc⟩)], h⟩) (by simp only [go_sem] <;> rfl) fun d hd ih2 => ?_
          by_cases hlt2 : d < 3
          · simp (config := { maxSteps := 1000000 }) (disch := omega) only [go_sem]
            refine W_for 4 (fun s => ⟨[(3, .ptr (.stk cx.lvl 3) [] tImage), (4, .ptr (.stk cx.lvl 4) [] tImage), (7, .ptr (.stk cx.lvl 7) [] tImage), (12, .int .i64 d), (13, .int .i64 s)],
              [(3, ⟨tImage, m.enc⟩), (4, ⟨tImage, m'.enc⟩), (7, ⟨tImage, X.enc⟩)], h⟩) (by simp only [go_sem] <;> rfl) fun s hs ih3 => ?_
            by_cases hlt3 : s < 4
            · have v3 := w3 d s hlt2 hlt3
              by_cases c1 : m'.ent d s = X.ent d s
              · simp (config := { maxSteps := 1000000 }) (disch := omega) only [go_sem, hlt2, hlt3, c1]
                refine ih3 _ hlt3 ?_
                simp only [go_sem]
              · by_cases c2 : (X.ent d s).name = ⟨#[]⟩
                · simp (config := { maxSteps := 1000000 }) (disch := omega) only [go_sem, hlt2, hlt3, c1, c2]
                  refine ih3 _ hlt3 ?_
                  simp only [go_sem]
                · obtain ⟨x1, x2, x3, x4⟩ := (v3.resolve_left c1).resolve_left c2
                  simp (config := { maxSteps := 1000000 }) (disch := omega) only [go_sem, hlt2, hlt3, c1, c2, x2, x3, x4, x1.symm]
                  refine ih3 _ hlt3 ?_
                  simp only [go_sem]
            · obtain rfl : s = 4 := by omega
              simp (config := { maxSteps := 1000000 }) (disch := omega) only [go_sem]
              refine ih2 _ hlt2 ?_
              simp only [go_sem]
          · obtain rfl : d = 3 := by omega
            simp (config := { maxSteps := 1000000 }) (disch := omega) only [go_sem]
      · simp (config := { maxSteps := 1000000 }) (disch := omega) only [go_sem, hc]
end
end Go.Mini
