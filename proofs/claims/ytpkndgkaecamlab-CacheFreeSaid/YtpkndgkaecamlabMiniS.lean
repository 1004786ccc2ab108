/- A part of the proof: MiniS. -/
import Derived.Test.YtpkndgkaecamlabMiniR
namespace Go.Mini
set_option linter.unusedSimpArgs false
set_option linter.unusedVariables false
set_option maxHeartbeats 4000000
set_option maxRecDepth 100000

theorem sumN_ge {f : Nat → Nat} {j : Nat} : ∀ {n}, j < n → f j ≤ sumN n f
  | 0, h => by omega
  | n + 1, h => by
    rw [sumN]
    by_cases e : j = n
    · subst e; omega
    · have := sumN_ge (f := f) (j := j) (n := n) (by omega); omega
theorem sumN_upd {f g : Nat → Nat} {j : Nat} (h : ∀ i, i ≠ j → f i = g i) : ∀ {n}, j < n → sumN n f + g j = sumN n g + f j
  | 0, hj => by omega
  | n + 1, hj => by
    rw [sumN, sumN]
    by_cases e : j = n
    · subst e
      have := sumN_congr (n := j) (f := f) (g := g) fun i hi => h i (by omega)
      omega
    · have := sumN_upd h (n := n) (by omega)
      have := h n (fun e' => e e'.symm)
      omega
theorem ent_out {m : Img} {d s : Nat} (h : ¬(d < 3 ∧ s < 4)) : m.ent d s = Ent.zero := by simp only [Img.ent]; rw [dif_neg h]
theorem small_of {m : Img} (h : ∀ d, d < 3 → ∀ s, s < 4 → (m.ent d s).name.size ≤ 100000) : m.small := by
  intro d s
  by_cases hc : d < 3 ∧ s < 4
  · exact h d hc.1 s hc.2
  · rw [ent_out hc]; decide
theorem great_name {m : Img} (h : great m = false) (d s : Nat) : (m.ent d s).name.size ≤ 3000 := by
  by_cases hc : d < 3 ∧ s < 4
  · have h1 : min (m.ent d s).name.size 10000 ≤ greatRow m d 4 := sumN_ge (f := fun s => min (m.ent d s).name.size 10000) hc.2
    have h2 : greatRow m d 4 ≤ greatDir m 3 := sumN_ge (f := fun d => greatRow m d 4) hc.1
    simp only [great, decide_eq_false_iff_not] at h
    omega
  · rw [ent_out hc]; decide
theorem great_small {m : Img} (h : great m = false) : m.small := fun d s => by have := great_name h d s; omega
theorem one_small : Img.one.small := small_of (by decide +kernel)
theorem one'_small : (Img.one.setIno 2 ⟨(Img.one.ino 2).live, (Img.one.ino 2).stamp, 0, (Img.one.ino 2).part⟩).small := small_of (by decide +kernel)
theorem ib1 : check Img.one = 0 := by decide +kernel
theorem ib2 : exact Img.one = true := by decide +kernel
theorem ib3 : check (Img.one.setIno 2 ⟨(Img.one.ino 2).live, (Img.one.ino 2).stamp, 0, (Img.one.ino 2).part⟩) = 9 := by decide +kernel
theorem ib4 : refs Img.one 2 = 1 := by decide +kernel
theorem ib5 : held Img.one 3 = true := by decide +kernel
theorem ib6 : slotOf Img.one 1 ⟨#[97]⟩ = 2 := by decide +kernel
theorem ib7 : isName ⟨#[97, 98, 99, 100, 101, 102]⟩ = true := by decide +kernel

theorem check_parts {m : Img} (h : check m = 0) : (∀ d, d < 3 → ∀ s, s < 4 → entryFault m d s = 0) ∧ (∀ n, n < 8 → inoFault m n = 0) ∧ twice m = false := by
  unfold check at h
  split at h
  · rename_i h1; exact absurd h h1
  · rename_i h1
    split at h
    · rename_i h2; exact absurd h h2
    · rename_i h2
      split at h
      · exact absurd h (by decide)
      · rename_i h3
        refine ⟨fun d hd => firstI_zero.1 (firstI_zero.1 (by simpa using h1) d hd), firstI_zero.1 (by simpa using h2), by simpa using h3⟩
theorem check_of {m : Img} (h1 : ∀ d, d < 3 → ∀ s, s < 4 → entryFault m d s = 0) (h2 : ∀ n, n < 8 → inoFault m n = 0) (h3 : twice m = false) : check m = 0 := by
  rw [check_3 (fun d hd => firstI_zero.2 (h1 d hd)) h2, h3]; rfl
/-- What an entry of an image that may be mended is. -/
theorem entry_parts {m : Img} {d s : Nat} (h : entryFault m d s = 0) : m.ent d s = Ent.zero ∨ (¬(m.ent d s).name = ⟨#[]⟩ ∧ isName (m.ent d s).name = true ∧ anyN s (fun k => decide ((m.ent d k).name = (m.ent d s).name)) = false ∧
    0 ≤ (m.ent d s).ino ∧ (m.ent d s).ino < 8 ∧ (m.ino (m.ent d s).ino.toNat).live = true ∧ (m.ino (m.ent d s).ino.toNat).stamp = (m.ent d s).stamp) := by
  simp only [entryFault] at h
  split at h
  · split at h
    · rename_i h1; exact .inl h1
    · exact absurd h (by decide)
  · rename_i h1
    right
    split at h
    · exact absurd h (by decide)
    · rename_i h2
      split at h
      · exact absurd h (by decide)
      · rename_i h3
        split at h
        · exact absurd h (by decide)
        · rename_i h4
          split at h
          · rename_i h5
            exact ⟨h1, by simpa using h2, by simpa using h3, by omega, by omega, h5.1, h5.2⟩
          · exact absurd h (by decide)
theorem entry_of {m : Img} {d s : Nat} (h1 : ¬(m.ent d s).name = ⟨#[]⟩) (h2 : isName (m.ent d s).name = true) (h3 : anyN s (fun k => decide ((m.ent d k).name = (m.ent d s).name)) = false)
    (h4 : 0 ≤ (m.ent d s).ino) (h5 : (m.ent d s).ino < 8) (h6 : (m.ino (m.ent d s).ino.toNat).live = true) (h7 : (m.ino (m.ent d s).ino.toNat).stamp = (m.ent d s).stamp) : entryFault m d s = 0 := by
  have h45 : ¬((m.ent d s).ino < 0 ∨ 8 ≤ (m.ent d s).ino) := by omega
  simp [entryFault, h1, h2, h3, h45, h6, h7]
theorem slot_here {m : Img} {d : Int} {s : Nat} (h0 : 0 ≤ d) (h1 : d < 3) (hs : s < 4) (hn : ¬(m.ent d.toNat s).name = ⟨#[]⟩) (hc : check m = 0) : slotOf m d (m.ent d.toNat s).name = s := by
  have he := (check_parts hc).1 d.toNat (by omega) s hs
  rcases entry_parts he with e | ⟨_, _, h3, _⟩
  · rw [e] at hn; exact absurd rfl hn
  · simp only [slotOf]
    rw [if_neg (by simp only [not_or]; exact ⟨by omega, by omega, hn⟩)]
    exact findN_at (fun i hi => anyN_false.1 h3 i hi) (by simp) hs
section
variable {cx : Cx} {h : HP} {p p' : Id} {q q' : List Nat} {m m' : Img}
theorem imageBegun_ok : Ok tbl cx Fn.eiderdownlaw_imageBegun (St.enter [] h) fun v h' => v = .bool true ∧ h' = h := by
  rw [Ok_eq]
  simp (config := { maxSteps := 1000000 }) (disch := omega) only [go_sem]
  refine W_callp rfl ⟨rfl, rfl⟩ (by simp only [go_sem]; exact one_ok) ?_
  simp (config := { maxSteps := 1000000 }) (disch := omega) only [go_sem]
  refine W_callp rfl ⟨rfl, rfl⟩ (by simp only [go_sem]; exact New_ok) ?_
  simp (config := { maxSteps := 1000000 }) (disch := omega) only [go_sem]
  refine W_callp rfl ⟨rfl, rfl⟩ (by simp only [go_sem]; exact Blank_ok) ?_
  simp (config := { maxSteps := 1000000 }) (disch := omega) only [go_sem]
  refine W_callp rfl ⟨rfl, rfl⟩ (by simp only [go_sem]; exact Check_ok (m := Img.one) one_small (below_stk _ _) (by simp only [go_sem, HP.push_rd_own])) ?_
  simp (config := { maxSteps := 1000000 }) (disch := omega) only [go_sem, ib1]
  refine W_callp rfl ⟨rfl, rfl⟩ (by simp only [go_sem]; exact Exact_ok (m := Img.one) one_small (below_stk _ _) (by simp only [go_sem, HP.push_rd_own])) ?_
  simp (config := { maxSteps := 1000000 }) (disch := omega) only [go_sem, ib2]
  refine W_callp rfl ⟨rfl, rfl⟩ (by simp only [go_sem]; exact Check_ok (m := Img.one.setIno 2 ⟨(Img.one.ino 2).live, (Img.one.ino 2).stamp, 0, (Img.one.ino 2).part⟩) one'_small (below_stk _ _) (by simp only [go_sem, HP.push_rd_own])) ?_
  simp (config := { maxSteps := 1000000 }) (disch := omega) only [go_sem, ib3]
  refine W_callp rfl ⟨rfl, rfl⟩ (by simp only [go_sem]; exact Refs_ok (m := Img.one) (below_stk _ _) (by simp only [go_sem, HP.push_rd_own])) ?_
  simp (config := { maxSteps := 1000000 }) (disch := omega) only [go_sem, ib4]
  refine W_callp rfl ⟨rfl, rfl⟩ (by simp only [go_sem]; exact Holds_ok (m := Img.one) (below_stk _ _) (by simp only [go_sem, HP.push_rd_own])) ?_
  simp (config := { maxSteps := 1000000 }) (disch := omega) only [go_sem, ib5]
  refine W_callp rfl ⟨rfl, rfl⟩ (by simp only [go_sem]; exact Find_ok (m := Img.one) (below_stk _ _) (by simp only [go_sem, HP.push_rd_own])) ?_
  simp (config := { maxSteps := 1000000 }) (disch := omega) only [go_sem, ib6]
  refine W_callp rfl ⟨rfl, rfl⟩ (by simp only [go_sem]; exact Name_ok (by decide)) ?_
  simp (config := { maxSteps := 1000000 }) (disch := omega) only [go_sem, ib7]
  refine W_callp rfl ⟨rfl, rfl⟩ (by simp only [go_sem]; exact Free_ok) ?_
  simp (config := { maxSteps := 1000000 }) (disch := omega) only [go_sem]
  refine W_callp rfl ⟨rfl, rfl⟩ (by simp only [go_sem]; exact None_ok) ?_
  simp (config := { maxSteps := 1000000 }) (disch := omega) only [go_sem]
theorem ImageDoes_ok {n d : Int} {s : Str} : Ok tbl cx Fn.eiderdownlaw_ImageDoes (St.enter [m.enc, .int .i64 n, .int .i64 d, .str s] h) fun v h' => v = .bool true ∧ h' = h := by
  rw [Ok_eq]
  simp (config := { maxSteps := 1000000 }) (disch := omega) only [go_sem]
  refine W_callp rfl ⟨rfl, rfl⟩ (by simp only [go_sem]; exact imageBegun_ok) ?_
  simp (config := { maxSteps := 1000000 }) (disch := omega) only [go_sem]
  refine W_callp rfl ⟨rfl, rfl⟩ (by simp only [go_sem]; exact Great_ok) ?_
  simp (config := { maxSteps := 1000000 }) (disch := omega) only [go_sem]
  cases hg : great m with
  | true => simp (config := { maxSteps := 1000000 }) (disch := omega) only [go_sem]
  | false =>
    have hs := great_small hg
    by_cases hl : 1000 < s.size
    · simp (config := { maxSteps := 1000000 }) (disch := omega) only [go_sem]
    simp (config := { maxSteps := 1000000 }) (disch := omega) only [go_sem]
    refine W_callp rfl ⟨rfl, rfl⟩ (by simp only [go_sem]; exact Name_ok (s := s) (by omega)) ?_
    simp (config := { maxSteps := 1000000 }) (disch := omega) only [go_sem]
    refine W_callp rfl ⟨rfl, rfl⟩ (by simp only [go_sem]; exact IsName_ok (s := s) (by omega)) ?_
    simp (config := { maxSteps := 1000000 }) (disch := omega) only [go_sem]
    refine W_callp rfl ⟨rfl, rfl⟩ (by simp only [go_sem]; exact Refs_ok (m := m) (below_stk _ _) (by simp only [go_sem, HP.push_rd_own])) ?_
    simp (config := { maxSteps := 1000000 }) (disch := omega) only [go_sem]
    refine W_callp rfl ⟨rfl, rfl⟩ (by simp only [go_sem]; exact Leads_ok (m := m) (below_stk _ _) (by simp only [go_sem, HP.push_rd_own])) ?_
    simp (config := { maxSteps := 1000000 }) (disch := omega) only [go_sem]
    refine W_callp rfl ⟨rfl, rfl⟩ (by simp only [go_sem]; exact Holds_ok (m := m) (below_stk _ _) (by simp only [go_sem, HP.push_rd_own])) ?_
    simp (config := { maxSteps := 1000000 }) (disch := omega) only [go_sem]
    refine W_callp rfl ⟨rfl, rfl⟩ (by simp only [go_sem]; exact Held_ok (m := m) (below_stk _ _) (by simp only [go_sem, HP.push_rd_own])) ?_
    simp (config := { maxSteps := 1000000 }) (disch := omega) only [go_sem]
    refine W_callp rfl ⟨rfl, rfl⟩ (by simp only [go_sem]; exact Find_ok (m := m) (below_stk _ _) (by simp only [go_sem, HP.push_rd_own])) ?_
    simp (config := { maxSteps := 1000000 }) (disch := omega) only [go_sem]
    refine W_callp rfl ⟨rfl, rfl⟩ (by simp only [go_sem]; exact SlotOf_ok (m := m) (below_stk _ _) (by simp only [go_sem, HP.push_rd_own])) ?_
    simp (config := { maxSteps := 1000000 }) (disch := omega) only [go_sem]
    refine W_callp rfl ⟨rfl, rfl⟩ (by simp only [go_sem]; exact Check_ok (m := m) hs (below_stk _ _) (by simp only [go_sem, HP.push_rd_own])) ?_
    simp (config := { maxSteps := 1000000 }) (disch := omega) only [go_sem]
    refine W_callp rfl ⟨rfl, rfl⟩ (by simp only [go_sem]; exact ImageFault_ok (m := m) hs (below_stk _ _) (by simp only [go_sem, HP.push_rd_own])) ?_
    simp (config := { maxSteps := 1000000 }) (disch := omega) only [go_sem]
    refine W_callp rfl ⟨rfl, rfl⟩ (by simp only [go_sem]; exact Exact_ok (m := m) hs (below_stk _ _) (by simp only [go_sem, HP.push_rd_own])) ?_
    simp (config := { maxSteps := 1000000 }) (disch := omega) only [go_sem]
    refine W_callp rfl ⟨rfl, rfl⟩ (by simp only [go_sem]; exact IsExact_ok (m := m) hs (below_stk _ _) (by simp only [go_sem, HP.push_rd_own])) ?_
    simp (config := { maxSteps := 1000000 }) (disch := omega) only [go_sem]
theorem ImageFind_ok {d : Int} {s : Str} : Ok tbl cx Fn.eiderdownlaw_ImageFind (St.enter [m.enc, .int .i64 d, .str s] h) fun v h' => v = .bool true ∧ h' = h := by
  rw [Ok_eq]
  simp (config := { maxSteps := 1000000 }) (disch := omega) only [go_sem]
  refine W_callp rfl ⟨rfl, rfl⟩ (by simp only [go_sem]; exact imageBegun_ok) ?_
  simp (config := { maxSteps := 1000000 }) (disch := omega) only [go_sem]
  refine W_callp rfl ⟨rfl, rfl⟩ (by simp only [go_sem]; exact Great_ok) ?_
  simp (config := { maxSteps := 1000000 }) (disch := omega) only [go_sem]
  cases hg : great m with
  | true => simp (config := { maxSteps := 1000000 }) (disch := omega) only [go_sem]
  | false =>
    have hsm := great_small hg
    by_cases hl : 1000 < s.size
    · simp (config := { maxSteps := 1000000 }) (disch := omega) only [go_sem]
    by_cases h0 : d < 0
    · simp (config := { maxSteps := 1000000 }) (disch := omega) only [go_sem, h0]
    by_cases h3 : 3 ≤ d
    · simp (config := { maxSteps := 1000000 }) (disch := omega) only [go_sem, h0, h3]
    by_cases hn : s = ⟨#[]⟩
    · simp (config := { maxSteps := 1000000 }) (disch := omega) only [go_sem, h0, h3]
    simp (config := { maxSteps := 1000000 }) (disch := omega) only [go_sem, h0, h3, hn]
    refine W_callp rfl ⟨rfl, rfl⟩ (by simp only [go_sem]; exact Find_ok (m := m) (below_stk _ _) (by simp only [go_sem, HP.push_rd_own])) ?_
    have e : slotOf m d s = findN 4 fun k => decide ((m.ent d.toNat k).name = s) := by simp only [slotOf]; rw [if_neg (by simp only [not_or]; exact ⟨h0, h3, hn⟩)]
    have key : ∀ j, j < 4 → (m.ent d.toNat j).name = s → ¬slotOf m d s < 0 ∧ ¬(j : Int) < slotOf m d s := by
      intro j hj hjn
      rw [e]
      obtain e1 | ⟨i, hi, e1, e2, e3⟩ := findN_lt (n := 4) (f := fun k => decide ((m.ent d.toNat k).name = s))
      · have := findN_neg e1 j hj; simp [hjn] at this
      · rw [e1]
        refine ⟨by omega, fun hlt => ?_⟩
        have := e3 j (by omega); simp [hjn] at this
    have rng : -1 ≤ slotOf m d s ∧ slotOf m d s < 4 ∧ (0 ≤ slotOf m d s → (m.ent d.toNat (slotOf m d s).toNat).name = s) := by
      rw [e]
      obtain e1 | ⟨i, hi, e1, e2, e3⟩ := findN_lt (n := 4) (f := fun k => decide ((m.ent d.toNat k).name = s))
      · rw [e1]; exact ⟨by omega, by omega, fun h => by omega⟩
      · rw [e1]; exact ⟨by omega, by omega, fun _ => by simpa using e2⟩
    have find := fun j (hj : j < 4) hjn (hc : check m = 0) => slot_here (m := m) (d := d) (s := j) (by omega) (by omega) hj hjn hc
    generalize slotOf m d s = K at key rng
    obtain ⟨k1, k2, k3⟩ := rng
    by_cases k0 : 0 ≤ K
    · have k4 := k3 k0
      simp (config := { maxSteps := 1000000 }) (disch := omega) only [go_sem, k0, k4]
      refine W_for 4 (fun j => ⟨[(1, .int .i64 d), (2, .str s), (3, .ptr (.stk cx.lvl 3) [] tImage), (7, .int .i64 K), (8, .int .i64 j)], [(3, ⟨tImage, m.enc⟩)], h⟩) (by simp only [go_sem] <;> rfl) fun j hj ih => ?_
      by_cases hlt : j < 4
      · simp (config := { maxSteps := 1000000 }) (disch := omega) only [go_sem, hlt, h0, h3]
        by_cases c1 : (m.ent d.toNat j).name = s
        · obtain ⟨q1, q2⟩ := key j hlt c1
          simp (config := { maxSteps := 1000000 }) (disch := omega) only [go_sem, c1, q1, q2, hn, hlt]
          refine W_callp rfl ⟨rfl, rfl⟩ (by simp only [go_sem]; exact Check_ok (m := m) hsm (below_stk _ _) (by simp only [go_sem, HP.push_rd_own])) ?_
          simp (config := { maxSteps := 1000000 }) (disch := omega) only [go_sem]
          by_cases c3 : check m = 0
          · simp (config := { maxSteps := 1000000 }) (disch := omega) only [go_sem, c3]
            refine W_callp rfl ⟨rfl, rfl⟩ (by simp only [go_sem]; exact Find_ok (m := m) (below_stk _ _) (by simp only [go_sem, HP.push_rd_own])) ?_
            have c4 := find j hlt (by rw [c1]; exact hn) c3
            rw [c1] at c4
            simp (config := { maxSteps := 1000000 }) (disch := omega) only [go_sem, c4]
            refine ih _ hlt ?_
            simp only [go_sem]
          · simp (config := { maxSteps := 1000000 }) (disch := omega) only [go_sem, c3]
            refine ih _ hlt ?_
            simp only [go_sem]
        · simp (config := { maxSteps := 1000000 }) (disch := omega) only [go_sem, c1]
          by_cases c2 : (m.ent d.toNat j).name = ⟨#[]⟩
          · simp (config := { maxSteps := 1000000 }) (disch := omega) only [go_sem, c2]
            refine ih _ hlt ?_
            simp only [go_sem]
          · simp (config := { maxSteps := 1000000 }) (disch := omega) only [go_sem, c2]
            refine W_callp rfl ⟨rfl, rfl⟩ (by simp only [go_sem]; exact Check_ok (m := m) hsm (below_stk _ _) (by simp only [go_sem, HP.push_rd_own])) ?_
            simp (config := { maxSteps := 1000000 }) (disch := omega) only [go_sem]
            by_cases c3 : check m = 0
            · simp (config := { maxSteps := 1000000 }) (disch := omega) only [go_sem, c3]
              refine W_callp rfl ⟨rfl, rfl⟩ (by simp only [go_sem]; exact Find_ok (m := m) (below_stk _ _) (by simp only [go_sem, HP.push_rd_own])) ?_
              simp (config := { maxSteps := 1000000 }) (disch := omega) only [go_sem, find j hlt c2 c3]
              refine ih _ hlt ?_
              simp only [go_sem]
            · simp (config := { maxSteps := 1000000 }) (disch := omega) only [go_sem, c3]
              refine ih _ hlt ?_
              simp only [go_sem]
      · obtain rfl : j = 4 := by omega
        simp (config := { maxSteps := 1000000 }) (disch := omega) only [go_sem]
    · simp (config := { maxSteps := 1000000 }) (disch := omega) only [go_sem, k0]
      refine W_for 4 (fun j => ⟨[(1, .int .i64 d), (2, .str s), (3, .ptr (.stk cx.lvl 3) [] tImage), (7, .int .i64 K), (8, .int .i64 j)], [(3, ⟨tImage, m.enc⟩)], h⟩) (by simp only [go_sem] <;> rfl) fun j hj ih => ?_
      by_cases hlt : j < 4
      · simp (config := { maxSteps := 1000000 }) (disch := omega) only [go_sem, hlt, h0, h3]
        by_cases c1 : (m.ent d.toNat j).name = s
        · obtain ⟨q1, q2⟩ := key j hlt c1
          exfalso; omega
        · simp (config := { maxSteps := 1000000 }) (disch := omega) only [go_sem, c1]
          by_cases c2 : (m.ent d.toNat j).name = ⟨#[]⟩
          · simp (config := { maxSteps := 1000000 }) (disch := omega) only [go_sem, c2]
            refine ih _ hlt ?_
            simp only [go_sem]
          · simp (config := { maxSteps := 1000000 }) (disch := omega) only [go_sem, c2]
            refine W_callp rfl ⟨rfl, rfl⟩ (by simp only [go_sem]; exact Check_ok (m := m) hsm (below_stk _ _) (by simp only [go_sem, HP.push_rd_own])) ?_
            simp (config := { maxSteps := 1000000 }) (disch := omega) only [go_sem]
            by_cases c3 : check m = 0
            · simp (config := { maxSteps := 1000000 }) (disch := omega) only [go_sem, c3]
              refine W_callp rfl ⟨rfl, rfl⟩ (by simp only [go_sem]; exact Find_ok (m := m) (below_stk _ _) (by simp only [go_sem, HP.push_rd_own])) ?_
              simp (config := { maxSteps := 1000000 }) (disch := omega) only [go_sem, find j hlt c2 c3]
              refine ih _ hlt ?_
              simp only [go_sem]
            · simp (config := { maxSteps := 1000000 }) (disch := omega) only [go_sem, c3]
              refine ih _ hlt ?_
              simp only [go_sem]
      · obtain rfl : j = 4 := by omega
        simp (config := { maxSteps := 1000000 }) (disch := omega) only [go_sem]
end
end Go.Mini
