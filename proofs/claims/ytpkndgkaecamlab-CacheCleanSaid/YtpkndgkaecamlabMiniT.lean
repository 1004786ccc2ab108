/- A part of the proof: MiniT. -/
import Derived.Test.YtpkndgkaecamlabMiniS
namespace Go.Mini
set_option linter.unusedSimpArgs false
set_option linter.unusedVariables false
set_option maxHeartbeats 4000000
set_option maxRecDepth 100000

/-! A name less. -/
theorem ent_drop {m : Img} {d s d' s' : Nat} (hd : d < 3) (hs : s < 4) : (m.setEnt d s Ent.zero).ent d' s' = if d = d' ∧ s = s' then Ent.zero else m.ent d' s' := by
  rw [ent_setEnt]
  by_cases h : d = d' ∧ s = s'
  · rw [if_pos ⟨h, by omega⟩, if_pos h]
  · rw [if_neg (fun h' => h h'.1), if_neg h]
theorem leads_zero {m : Img} {d s : Nat} {i : Int} (h : m.ent d s = Ent.zero) : leads m d s i = false := by
  simp [leads, h, show Ent.zero.name = ⟨#[]⟩ from rfl]
theorem leads_congr {m m' : Img} {d s : Nat} {i : Int} (h : m.ent d s = m'.ent d s) : leads m d s i = leads m' d s i := by
  simp only [leads, h]
theorem refs_drop {m : Img} {d s : Nat} (hd : d < 3) (hs : s < 4) (i : Int) : refs m i = refs (m.setEnt d s Ent.zero) i + b2n (leads m d s i) := by
  have e0 : leads (m.setEnt d s Ent.zero) d s i = false := leads_zero (by rw [ent_drop hd hs, if_pos ⟨rfl, rfl⟩])
  have h2 := sumN_upd (f := fun t => b2n (leads m d t i)) (g := fun t => b2n (leads (m.setEnt d s Ent.zero) d t i)) (j := s) (n := 4) (fun t ht => by
    show b2n (leads m d t i) = b2n (leads (m.setEnt d s Ent.zero) d t i)
    rw [leads_congr (m := m) (m' := m.setEnt d s Ent.zero) (by rw [ent_drop hd hs, if_neg (fun h => ht h.2.symm)])]) hs
  have h3 := sumN_upd (f := fun e => refsRow m i e 4) (g := fun e => refsRow (m.setEnt d s Ent.zero) i e 4) (j := d) (n := 3) (fun t ht => by
    show sumN 4 _ = sumN 4 _
    refine sumN_congr fun u hu => ?_
    rw [leads_congr (m := m) (m' := m.setEnt d s Ent.zero) (by rw [ent_drop hd hs, if_neg (fun h => ht h.1.symm)])]) hd
  have e1 : b2n (leads (m.setEnt d s Ent.zero) d s i) = 0 := by rw [e0]; rfl
  simp only [refs, refsRow] at *
  omega
theorem twice_ino {m m' : Img} (h : ∀ n, m.ino n = m'.ino n) : twice m = twice m' := by
  rw [← twiceR_eq, ← twiceR_eq]
  simp only [twiceR, pairBad, partBad, h]
theorem small_drop {m : Img} {d s : Nat} (hd : d < 3) (hs : s < 4) (h : m.small) : (m.setEnt d s Ent.zero).small := by
  intro d' s'
  rw [ent_drop hd hs]
  split
  · decide
  · exact h d' s'
theorem check_drop {m : Img} {d s : Nat} (hd : d < 3) (hs : s < 4) (h : check m = 0) : check (m.setEnt d s Ent.zero) = 0 := by
  obtain ⟨h1, h2, h3⟩ := check_parts h
  refine check_of (fun d' hd' s' hs' => ?_) (fun n hn => ?_) ?_
  · by_cases e : d = d' ∧ s = s'
    · have : (m.setEnt d s Ent.zero).ent d' s' = Ent.zero := by rw [ent_drop hd hs, if_pos e]
      simp [entryFault, this, show Ent.zero.name = ⟨#[]⟩ from rfl]
    · have e' : (m.setEnt d s Ent.zero).ent d' s' = m.ent d' s' := by rw [ent_drop hd hs, if_neg e]
      rcases entry_parts (h1 d' hd' s' hs') with e0 | ⟨a1, a2, a3, a4, a5, a6, a7⟩
      · rw [e0] at e'
        simp [entryFault, e', show Ent.zero.name = ⟨#[]⟩ from rfl]
      · refine entry_of (by rw [e']; exact a1) (by rw [e']; exact a2) ?_ (by rw [e']; exact a4) (by rw [e']; exact a5) (by rw [e', ino_setEnt]; exact a6) (by rw [e', ino_setEnt]; exact a7)
        rw [anyN_false]
        intro k hk
        have := anyN_false.1 a3 k hk
        rw [e', ent_drop hd hs]
        split
        · have hne : ¬(⟨#[]⟩ : Str) = (m.ent d' s').name := fun h => a1 h.symm
          simpa [show Ent.zero.name = ⟨#[]⟩ from rfl] using hne
        · exact this
  · have hi := h2 n hn
    have hr := refs_drop (m := m) hd hs n
    simp only [inoFault, ino_setEnt] at hi ⊢
    split
    · rename_i hl; rw [if_pos hl] at hi; exact hi
    · rename_i hl
      rw [if_neg hl] at hi
      split at hi
      · exact absurd hi (by decide)
      · rename_i hc
        rw [if_neg (by simp only [not_or] at hc ⊢; exact ⟨hc.1, by omega⟩)]
        rw [← hi]
        refine firstI_congr fun j hj => ?_
        simp only [partFault, dat_setEnt]
  · rw [← h3]
    exact twice_ino fun n => ino_setEnt ..
theorem exact_parts {m : Img} (h : exact m = true) : check m = 0 ∧ ∀ n, n < 8 → (m.ino n).live = true → ¬refs m n = 0 ∧ (m.ino n).links = refs m n := by
  simp only [exact, Bool.and_eq_true, Bool.not_eq_true', decide_eq_true_eq] at h
  refine ⟨h.2, fun n hn hl => ?_⟩
  have := anyN_false.1 h.1 n hn
  simpa [hl] using this
theorem exact_drop {m : Img} {d s : Nat} (hd : d < 3) (hs : s < 4) (h : exact m = true) (hn : ¬(m.ent d s).name = ⟨#[]⟩) : exact (m.setEnt d s Ent.zero) = false := by
  obtain ⟨hc, he⟩ := exact_parts h
  obtain ⟨h1, _, _⟩ := check_parts hc
  rcases entry_parts (h1 d hd s hs) with e0 | ⟨a1, a2, a3, a4, a5, a6, a7⟩
  · rw [e0] at hn; exact absurd rfl hn
  · obtain ⟨b1, b2⟩ := he (m.ent d s).ino.toNat (by omega) a6
    have hr := refs_drop (m := m) hd hs ((m.ent d s).ino.toNat : Nat)
    have hl : leads m d s ((m.ent d s).ino.toNat : Nat) = true := by
      have : ((m.ent d s).ino.toNat : Int) = (m.ent d s).ino := by omega
      simp [leads, a1, this]
    rw [hl] at hr
    simp only [b2n, if_true] at hr
    have : anyN 8 (fun n => ((m.setEnt d s Ent.zero).ino n).live && (decide (refs (m.setEnt d s Ent.zero) n = 0) || !decide (((m.setEnt d s Ent.zero).ino n).links = refs (m.setEnt d s Ent.zero) n))) = true := by
      refine anyN_at (j := (m.ent d s).ino.toNat) (by omega) ?_
      have h5 : ¬(m.ino (m.ent d s).ino.toNat).links = (refs (m.setEnt d s Ent.zero) ((m.ent d s).ino.toNat : Nat) : Int) := by omega
      simp only [ino_setEnt, a6, h5, decide_false, Bool.not_false, Bool.or_true, Bool.and_self]
    simp only [exact, this, Bool.not_true, Bool.false_and]
section
variable {cx : Cx} {h : HP} {p p' : Id} {q q' : List Nat} {m m' : Img}
theorem ImageExact_ok {d s : Int} : Ok tbl cx Fn.eiderdownlaw_ImageExact (St.enter [m.enc, .int .i64 d, .int .i64 s] h) fun v h' => v = .bool true ∧ h' = h := by
  rw [Ok_eq]
  simp (config := { maxSteps := 1000000 }) (disch := omega) only [go_sem]
  refine W_callp rfl ⟨rfl, rfl⟩ (by simp only [go_sem]; exact imageBegun_ok) ?_
  simp (config := { maxSteps := 1000000 }) (disch := omega) only [go_sem]
  refine W_callp rfl ⟨rfl, rfl⟩ (by simp only [go_sem]; exact Great_ok) ?_
  simp (config := { maxSteps := 1000000 }) (disch := omega) only [go_sem]
  cases hg : great m with
  | true => simp (config := { maxSteps := 1000000 }) (disch := omega) only [go_sem]
  | false =>
    have hsm := great_small hg
    have u3 := umod_lt d (c := 3) (k := 3) rfl (by omega)
    have u4 := umod_lt s (c := 4) (k := 4) rfl (by omega)
    simp (config := { maxSteps := 1000000 }) (disch := omega) only [go_sem]
    refine W_callp rfl ⟨rfl, rfl⟩ (by simp only [go_sem]; exact Exact_ok (m := m) hsm (below_stk _ _) (by simp only [go_sem, HP.push_rd_own])) ?_
    simp (config := { maxSteps := 1000000 }) (disch := omega) only [go_sem]
    cases he : exact m with
    | false => simp (config := { maxSteps := 1000000 }) (disch := omega) only [go_sem]
    | true =>
      have hc := (exact_parts he).1
      simp (config := { maxSteps := 1000000 }) (disch := omega) only [go_sem]
      refine W_callp rfl ⟨rfl, rfl⟩ (by simp only [go_sem]; exact Check_ok (m := m) hsm (below_stk _ _) (by simp only [go_sem, HP.push_rd_own])) ?_
      simp (config := { maxSteps := 1000000 }) (disch := omega) only [go_sem, hc]
      by_cases hn : (m.ent (umod d 3) (umod s 4)).name = ⟨#[]⟩
      · simp (config := { maxSteps := 1000000 }) (disch := omega) only [go_sem, hn]
      · simp (config := { maxSteps := 1000000 }) (disch := omega) only [go_sem, hn]
        refine W_callp rfl ⟨rfl, rfl⟩ (by simp only [go_sem]; exact Check_ok (m := m.setEnt (umod d 3) (umod s 4) Ent.zero) (small_drop u3 u4 hsm) (below_stk _ _) (by simp only [go_sem, HP.push_rd_own])) ?_
        simp (config := { maxSteps := 1000000 }) (disch := omega) only [go_sem, check_drop u3 u4 hc]
        refine W_callp rfl ⟨rfl, rfl⟩ (by simp only [go_sem]; exact Exact_ok (m := m.setEnt (umod d 3) (umod s 4) Ent.zero) (small_drop u3 u4 hsm) (below_stk _ _) (by simp only [go_sem, HP.push_rd_own])) ?_
        simp (config := { maxSteps := 1000000 }) (disch := omega) only [go_sem, exact_drop u3 u4 he hn]
end
end Go.Mini
