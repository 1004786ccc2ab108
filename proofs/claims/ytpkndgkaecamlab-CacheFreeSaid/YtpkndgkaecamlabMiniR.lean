/- A part of the proof: MiniR. -/
import Derived.Test.YtpkndgkaecamlabMiniQ
namespace Go.Mini
set_option linter.unusedSimpArgs false
set_option linter.unusedVariables false
set_option maxHeartbeats 4000000
set_option maxRecDepth 100000

def partBad (m : Img) (n k p q : Nat) : Bool := (!decide (n = k) || !decide (p = q)) && decide (0 ≤ (m.ino n).prt p) && decide ((m.ino n).prt p = (m.ino k).prt q)
def pairBad (m : Img) (n k : Nat) : Bool :=
  (m.ino n).live && (m.ino k).live && ((!decide (n = k) && decide ((m.ino n).stamp = (m.ino k).stamp)) || anyN 2 fun p => anyN 2 fun q => partBad m n k p q)
def twiceR (m : Img) : Bool := anyN 8 fun n => anyN 8 fun k => pairBad m n k
theorem mem_stampsN {m : Img} {x : Int} : ∀ {n}, x ∈ stampsN m n ↔ ∃ k, k < n ∧ (m.ino k).live = true ∧ (m.ino k).stamp = x
  | 0 => by simp [stampsN]
  | n + 1 => by
    rw [stampsN]
    split
    · rename_i hl
      rw [List.mem_append, mem_stampsN, List.mem_singleton]
      constructor
      · rintro (⟨k, h1, h2⟩ | h)
        · exact ⟨k, by omega, h2⟩
        · exact ⟨n, by omega, hl, h.symm⟩
      · rintro ⟨k, h1, h2, h3⟩
        by_cases e : k = n
        · subst e; exact .inr h3.symm
        · exact .inl ⟨k, by omega, h2, h3⟩
    · rename_i hl
      rw [mem_stampsN]
      constructor
      · rintro ⟨k, h1, h2⟩; exact ⟨k, by omega, h2⟩
      · rintro ⟨k, h1, h2, h3⟩
        by_cases e : k = n
        · subst e; exact absurd h2 hl
        · exact ⟨k, by omega, h2, h3⟩
theorem mem_seenN {m : Img} {x : Int} : ∀ {n}, x ∈ seenN m n ↔ ∃ k, k < n ∧ (m.ino k).live = true ∧ ((m.ino k).prt 0 = x ∨ (m.ino k).prt 1 = x)
  | 0 => by simp [seenN]
  | n + 1 => by
    rw [seenN]
    split
    · rename_i hl
      rw [List.mem_append, List.mem_append, mem_seenN, List.mem_singleton, List.mem_singleton]
      constructor
      · rintro ((⟨k, h1, h2⟩ | h) | h)
        · exact ⟨k, by omega, h2⟩
        · exact ⟨n, by omega, hl, .inl h.symm⟩
        · exact ⟨n, by omega, hl, .inr h.symm⟩
      · rintro ⟨k, h1, h2, h3⟩
        by_cases e : k = n
        · subst e
          rcases h3 with h3 | h3
          · exact .inl (.inr h3.symm)
          · exact .inr h3.symm
        · exact .inl (.inl ⟨k, by omega, h2, h3⟩)
    · rename_i hl
      rw [mem_seenN]
      constructor
      · rintro ⟨k, h1, h2⟩; exact ⟨k, by omega, h2⟩
      · rintro ⟨k, h1, h2, h3⟩
        by_cases e : k = n
        · subst e; exact absurd h2 hl
        · exact ⟨k, by omega, h2, h3⟩
theorem badAt_iff {m : Img} {n : Nat} : badAt m n = true ↔ (m.ino n).live = true ∧ ((∃ k, k < n ∧ (m.ino k).live = true ∧ (m.ino k).stamp = (m.ino n).stamp) ∨
    (∃ p, p < 2 ∧ 0 ≤ (m.ino n).prt p ∧ ∃ k, k < n ∧ (m.ino k).live = true ∧ ((m.ino k).prt 0 = (m.ino n).prt p ∨ (m.ino k).prt 1 = (m.ino n).prt p)) ∨ (0 ≤ (m.ino n).prt 1 ∧ (m.ino n).prt 1 = (m.ino n).prt 0)) := by
  simp only [badAt, Bool.and_eq_true, Bool.or_eq_true, List.contains_iff_mem, decide_eq_true_eq, List.mem_append, List.mem_singleton, mem_stampsN, mem_seenN]
  constructor
  · rintro ⟨hl, ((h | ⟨h0, h⟩) | ⟨h1, h | h⟩)⟩
    · exact ⟨hl, .inl h⟩
    · exact ⟨hl, .inr (.inl ⟨0, by omega, h0, h⟩)⟩
    · exact ⟨hl, .inr (.inl ⟨1, by omega, h1, h⟩)⟩
    · exact ⟨hl, .inr (.inr ⟨h1, h⟩)⟩
  · rintro ⟨hl, (h | ⟨p, hp, h0, h⟩ | ⟨h1, h⟩)⟩
    · exact ⟨hl, .inl (.inl h)⟩
    · obtain rfl | rfl : p = 0 ∨ p = 1 := by omega
      · exact ⟨hl, .inl (.inr ⟨h0, h⟩)⟩
      · exact ⟨hl, .inr ⟨h0, .inl h⟩⟩
    · exact ⟨hl, .inr ⟨h1, .inr h⟩⟩
theorem pairBad_iff {m : Img} {n k : Nat} : pairBad m n k = true ↔ (m.ino n).live = true ∧ (m.ino k).live = true ∧ ((n ≠ k ∧ (m.ino n).stamp = (m.ino k).stamp) ∨ ∃ p q, p < 2 ∧ q < 2 ∧ (n ≠ k ∨ p ≠ q) ∧ 0 ≤ (m.ino n).prt p ∧ (m.ino n).prt p = (m.ino k).prt q) := by
  simp only [pairBad, partBad, Bool.and_eq_true, Bool.or_eq_true, anyN_iff, decide_eq_true_eq, Bool.not_eq_true', decide_eq_false_iff_not]
  constructor
  · rintro ⟨⟨h1, h2⟩, (h | ⟨p, hp, q, hq, ⟨h3, h4⟩, h5⟩)⟩
    · exact ⟨h1, h2, .inl h⟩
    · exact ⟨h1, h2, .inr ⟨p, q, hp, hq, h3, h4, h5⟩⟩
  · rintro ⟨h1, h2, (h | ⟨p, q, hp, hq, h3, h4, h5⟩)⟩
    · exact ⟨⟨h1, h2⟩, .inl h⟩
    · exact ⟨⟨h1, h2⟩, .inr ⟨p, hp, q, hq, ⟨h3, h4⟩, h5⟩⟩
theorem prt_or {i : Ino} {q : Nat} {x : Int} (hq : q < 2) (h : i.prt q = x) : i.prt 0 = x ∨ i.prt 1 = x := by
  obtain rfl | rfl : q = 0 ∨ q = 1 := by omega
  · exact .inl h
  · exact .inr h
theorem twiceR_eq (m : Img) : twiceR m = twice m := by
  rw [Bool.eq_iff_iff]
  simp only [twiceR, twice, anyN_iff, pairBad_iff, badAt_iff]
  constructor
  · rintro ⟨n, hn, k, hk, h1, h2, (⟨h3, h4⟩ | ⟨p, q, hp, hq, h3, h4, h5⟩)⟩
    · rcases Nat.lt_or_gt_of_ne h3 with h | h
      · exact ⟨k, hk, h2, .inl ⟨n, h, h1, h4⟩⟩
      · exact ⟨n, hn, h1, .inl ⟨k, h, h2, h4.symm⟩⟩
    · by_cases e : n = k
      · subst e
        refine ⟨n, hn, h1, .inr (.inr ?_)⟩
        have hpq : p ≠ q := h3.resolve_left (fun h => h rfl)
        obtain ⟨rfl, rfl⟩ | ⟨rfl, rfl⟩ : (p = 0 ∧ q = 1) ∨ (p = 1 ∧ q = 0) := by omega
        · exact ⟨by rw [← h5]; exact h4, h5.symm⟩
        · exact ⟨h4, h5⟩
      · rcases Nat.lt_or_gt_of_ne e with h | h
        · exact ⟨k, hk, h2, .inr (.inl ⟨q, hq, by rw [← h5]; exact h4, n, h, h1, prt_or hp h5⟩)⟩
        · exact ⟨n, hn, h1, .inr (.inl ⟨p, hp, h4, k, h, h2, prt_or hq h5.symm⟩)⟩
  · rintro ⟨n, hn, h1, (⟨k, hk, h2, h3⟩ | ⟨p, hp, h2, k, hk, h3, h4⟩ | ⟨h2, h3⟩)⟩
    · exact ⟨n, hn, k, by omega, h1, h2, .inl ⟨by omega, h3.symm⟩⟩
    · rcases h4 with h4 | h4
      · exact ⟨n, hn, k, by omega, h1, h3, .inr ⟨p, 0, hp, by omega, .inl (by omega), h2, h4.symm⟩⟩
      · exact ⟨n, hn, k, by omega, h1, h3, .inr ⟨p, 1, hp, by omega, .inl (by omega), h2, h4.symm⟩⟩
    · exact ⟨n, hn, n, hn, h1, h1, .inr ⟨1, 0, by omega, by omega, .inr (by omega), h2, h3⟩⟩
theorem twice_at {m : Img} {n k : Nat} (hn : n < 8) (hk : k < 8) (h : pairBad m n k = true) : twice m = true := by
  rw [← twiceR_eq]; exact anyN_at hn (anyN_at hk h)
theorem slot_lt {m : Img} {d s : Nat} (hd : d < 3) (hs : s < 4) (hn : ¬(m.ent d s).name = ⟨#[]⟩) : (slotOf m d (m.ent d s).name < s) ↔ anyN s (fun k => decide ((m.ent d k).name = (m.ent d s).name)) = true := by
  have e : slotOf m d (m.ent d s).name = findN 4 fun k => decide ((m.ent d k).name = (m.ent d s).name) := by
    simp only [slotOf, Int.toNat_natCast]
    rw [if_neg (by simp only [not_or]; exact ⟨by omega, by omega, hn⟩)]
  rw [e]
  constructor
  · intro h
    obtain e | ⟨j, hj, e, h1, h2⟩ := findN_lt (n := 4) (f := fun k => decide ((m.ent d k).name = (m.ent d s).name))
    · have := findN_neg e s hs; simp at this
    · rw [e] at h; exact anyN_at (j := j) (by omega) h1
  · intro h
    obtain ⟨j, hj, h1⟩ := anyN_iff.1 h
    obtain e | ⟨i, hi, e, h2, h3⟩ := findN_lt (n := 4) (f := fun k => decide ((m.ent d k).name = (m.ent d s).name))
    · have := findN_neg e j (by omega); rw [h1] at this; exact absurd this (by simp)
    · rw [e]
      rcases Nat.lt_or_ge j i with hji | hji
      · have := h3 j hji; rw [h1] at this; exact absurd this (by simp)
      · omega
theorem slot_ge {m : Img} {d s : Nat} (hd : d < 3) (hs : s < 4) (hn : ¬(m.ent d s).name = ⟨#[]⟩) (h : anyN s (fun k => decide ((m.ent d k).name = (m.ent d s).name)) = false) : ¬slotOf m d (m.ent d s).name < s := by
  rw [slot_lt hd hs hn, h]; simp
section
variable {cx : Cx} {h : HP} {p p' : Id} {q q' : List Nat} {m m' : Img}
theorem ImageFault_ok (hg : m.small) (hb : p.below cx.lvl) (hm : h.rd p q = some m.enc) :
    Ok tbl cx Fn.eiderdownref_ImageFault (St.enter [.ptr p q tImage] h) fun v h' => v = .int .i64 (check m) ∧ h' = h := by
  rw [Ok_eq]
  simp (config := { maxSteps := 1000000 }) (disch := omega) only [go_sem]
  refine W_forP 3 (fun d => ⟨[(0, .ptr p q tImage), (3, .int .i64 d)], [], h⟩) (fun d => ∀ i, i < d → dirFault m i = 0) (by simp only [go_sem] <;> rfl) (fun i hi => by omega) fun d hd hp ih => ?_
  by_cases hlt : d < 3
  · simp (config := { maxSteps := 1000000 }) (disch := omega) only [go_sem]
    refine W_forP 4 (fun s => ⟨[(0, .ptr p q tImage), (3, .int .i64 d), (4, .int .i64 s)], [], h⟩) (fun s => ∀ i, i < s → entryFault m d i = 0) (by simp only [go_sem] <;> rfl) (fun i hi => by omega) fun s hs hp' ih' => ?_
    by_cases hlt' : s < 4
    · have bad : ∀ {c : Int}, entryFault m d s = c → c ≠ 0 → check m = c := fun h1 h2 => by
        rw [check_1 hp hlt hp' hlt' (by rw [h1]; exact h2), h1]
      simp (config := { maxSteps := 1000000 }) (disch := omega) only [go_sem, hlt, hlt', rd_ext hb, HP.rd_app hm, fg_ptr hb, leads_ptr hb, apart_ptr hb]
      by_cases h1 : (m.ent d s).name = ⟨#[]⟩
      · by_cases h2 : (m.ent d s).ino = 0
        · by_cases h3 : (m.ent d s).stamp = 0
          · simp (config := { maxSteps := 1000000 }) (disch := omega) only [go_sem, h1, h2, h3]
            refine ih' _ hlt' (step_all hp' ?_) ?_
            · have : m.ent d s = Ent.zero := by
                cases e : m.ent d s with | mk a b c =>
                rw [e] at h1 h2 h3
                simp only at h1 h2 h3
                subst h1; subst h2; subst h3; rfl
              simp [entryFault, this, show Ent.zero.name = ⟨#[]⟩ from rfl]
            · simp only [go_sem]
          · simp (config := { maxSteps := 1000000 }) (disch := omega) only [go_sem, h1, h2, h3]
            rw [bad (c := 12) (by
              have : ¬m.ent d s = Ent.zero := fun e => h3 (by rw [e]; rfl)
              simp [entryFault, h1, this]) (by decide)]
        · simp (config := { maxSteps := 1000000 }) (disch := omega) only [go_sem, h1, h2]
          rw [bad (c := 12) (by
            have : ¬m.ent d s = Ent.zero := fun e => h2 (by rw [e]; rfl)
            simp [entryFault, h1, this]) (by decide)]
      simp (config := { maxSteps := 1000000 }) (disch := omega) only [go_sem, h1]
      refine W_callp rfl ⟨rfl, rfl⟩ (by simp only [go_sem]; exact IsName_ok (hg d s)) ?_
      simp (config := { maxSteps := 1000000 }) (disch := omega) only [go_sem, rd_ext hb, HP.rd_app hm, fg_ptr hb, leads_ptr hb, apart_ptr hb]
      cases h2 : isName (m.ent d s).name with
      | false => simp (config := { maxSteps := 1000000 }) (disch := omega) only [go_sem, h2]; rw [bad (c := 2) (by simp [entryFault, h1, h2]) (by decide)]
      | true =>
        simp (config := { maxSteps := 1000000 }) (disch := omega) only [go_sem, h2]
        refine W_callp rfl ⟨rfl, rfl⟩ (by simp only [go_sem]; exact SlotOf_ok (m := m) hb.succ (by simp only [HP.push_rd_ext hb, hm])) ?_
        simp (config := { maxSteps := 1000000 }) (disch := omega) only [go_sem]
        cases h3 : anyN s (fun k => decide ((m.ent d k).name = (m.ent d s).name)) with
        | true =>
          have := (slot_lt hlt hlt' h1).2 h3
          simp (config := { maxSteps := 1000000 }) (disch := omega) only [go_sem, this]; rw [bad (c := 4) (by simp [entryFault, h1, h2, h3]) (by decide)]
        | false =>
          have := slot_ge hlt hlt' h1 h3
          simp (config := { maxSteps := 1000000 }) (disch := omega) only [go_sem, this]
          by_cases h4 : (m.ent d s).ino < 0
          · simp (config := { maxSteps := 1000000 }) (disch := omega) only [go_sem, h4]; rw [bad (c := 1) (by simp [entryFault, h1, h2, h3, h4]) (by decide)]
          by_cases h5 : 8 ≤ (m.ent d s).ino
          · simp (config := { maxSteps := 1000000 }) (disch := omega) only [go_sem, h4, h5]; rw [bad (c := 1) (by simp [entryFault, h1, h2, h3, h5]) (by decide)]
          simp (config := { maxSteps := 1000000 }) (disch := omega) only [go_sem, h4, h5, rd_ext hb, HP.rd_app hm, fg_ptr hb, leads_ptr hb, apart_ptr hb]
          have h45 : ¬((m.ent d s).ino < 0 ∨ 8 ≤ (m.ent d s).ino) := by omega
          cases h6 : (m.ino (m.ent d s).ino.toNat).live with
          | false => simp (config := { maxSteps := 1000000 }) (disch := omega) only [go_sem, h6]; rw [bad (c := 8) (by simp [entryFault, h1, h2, h3, h45, h6]) (by decide)]
          | true =>
            by_cases h7 : (m.ino (m.ent d s).ino.toNat).stamp = (m.ent d s).stamp
            · simp (config := { maxSteps := 1000000 }) (disch := omega) only [go_sem, h6, h7, rd_ext hb, HP.rd_app hm, fg_ptr hb, leads_ptr hb, apart_ptr hb]
              refine ih' _ hlt' (step_all hp' (by simp [entryFault, h1, h2, h3, h45, h6, h7])) ?_
              simp only [go_sem]
            · simp (config := { maxSteps := 1000000 }) (disch := omega) only [go_sem, h6, h7, rd_ext hb, HP.rd_app hm, fg_ptr hb, leads_ptr hb, apart_ptr hb]; rw [bad (c := 8) (by simp [entryFault, h1, h2, h3, h45, h6, h7]) (by decide)]
    · obtain rfl : s = 4 := by omega
      simp (config := { maxSteps := 1000000 }) (disch := omega) only [go_sem]
      refine ih _ hlt (step_all hp (firstI_zero.2 hp')) ?_
      simp only [go_sem]
  · obtain rfl : d = 3 := by omega
    simp (config := { maxSteps := 1000000 }) (disch := omega) only [go_sem]
    refine W_forP 8 (fun n => ⟨[(0, .ptr p q tImage), (6, .int .i64 n)], [], h⟩) (fun n => ∀ i, i < n → inoFault m i = 0) (by simp only [go_sem] <;> rfl) (fun i hi => by omega) fun n hn hp' ih' => ?_
    by_cases hlt' : n < 8
    · have bad : ∀ {c : Int}, inoFault m n = c → c ≠ 0 → check m = c := fun h1 h2 => by
        rw [check_2 hp hp' hlt' (by rw [h1]; exact h2), h1]
      simp (config := { maxSteps := 1000000 }) (disch := omega) only [go_sem, hlt', rd_ext hb, HP.rd_app hm, fg_ptr hb, leads_ptr hb, apart_ptr hb]
      cases h1 : (m.ino n).live with
      | false =>
        simp (config := { maxSteps := 1000000 }) (disch := omega) only [go_sem, h1, rd_ext hb, HP.rd_app hm, fg_ptr hb, leads_ptr hb, apart_ptr hb]
        refine W_callp rfl ⟨rfl, rfl⟩ (by simp only [go_sem]; exact None_ok) ?_
        by_cases h2 : m.ino n = Ino.none
        · simp (config := { maxSteps := 1000000 }) (disch := omega) only [go_sem, h2]
          refine ih' _ hlt' (step_all hp' (by simp [inoFault, h2, show Ino.none.live = false from rfl])) ?_
          simp only [go_sem]
        · simp (config := { maxSteps := 1000000 }) (disch := omega) only [go_sem, h2]; rw [bad (c := 12) (by simp [inoFault, h1, h2]) (by decide)]
      | true =>
        simp (config := { maxSteps := 1000000 }) (disch := omega) only [go_sem, h1, rd_ext hb, HP.rd_app hm, fg_ptr hb, leads_ptr hb, apart_ptr hb]
        by_cases h2 : (m.ino n).stamp < 1
        · simp (config := { maxSteps := 1000000 }) (disch := omega) only [go_sem, h2]; rw [bad (c := 9) (by simp [inoFault, h1, h2]) (by decide)]
        simp (config := { maxSteps := 1000000 }) (disch := omega) only [go_sem, h2]
        refine W_callp rfl ⟨rfl, rfl⟩ (by simp only [go_sem]; exact Leads_ok (m := m) hb.succ (by simp only [HP.push_rd_ext hb, hm])) ?_
        simp (config := { maxSteps := 1000000 }) (disch := omega) only [go_sem, h2]
        by_cases h3 : (m.ino n).links < refs m n
        · simp (config := { maxSteps := 1000000 }) (disch := omega) only [go_sem, h2, h3]; rw [bad (c := 9) (by simp [inoFault, h1, h3]) (by decide)]
        have h23 : ¬((m.ino n).stamp < 1 ∨ (m.ino n).links < refs m n) := by simp only [not_or]; exact ⟨h2, h3⟩
        have e : inoFault m n = firstI 2 (partFault m (m.ino n)) := by simp only [inoFault, h1, Bool.true_eq_false, if_false, h23]
        simp (config := { maxSteps := 1000000 }) (disch := omega) only [go_sem, h3]
        refine W_forP 2 (fun j => ⟨[(0, .ptr p q tImage), (6, .int .i64 n), (7, .ptr (.stk cx.lvl 7) [] tInode), (8, .int .i64 j)], [(7, ⟨tInode, (m.ino n).enc⟩)], h⟩) (fun j => ∀ i, i < j → partFault m (m.ino n) i = 0) (by simp only [go_sem] <;> rfl) (fun i hi => by omega) fun j hj hp2 ih2 => ?_
        by_cases hlt2 : j < 2
        · simp (config := { maxSteps := 1000000 }) (disch := omega) only [go_sem, hlt2, rd_ext hb, HP.rd_app hm, fg_ptr hb, leads_ptr hb, apart_ptr hb]
          by_cases h0 : (m.ino n).prt j = -1
          · simp (config := { maxSteps := 1000000 }) (disch := omega) only [go_sem, h0]
            refine ih2 _ hlt2 (step_all hp2 (by simp [partFault, h0])) ?_
            simp only [go_sem]
          by_cases h4 : (m.ino n).prt j < 0
          · simp (config := { maxSteps := 1000000 }) (disch := omega) only [go_sem, h0, h4]
            have : partFault m (m.ino n) j = 1 := by simp only [partFault]; rw [if_pos (by omega)]
            rw [bad (by rw [e, firstI_at hp2 (by rw [this]; decide) hlt2, this]) (by decide)]
          by_cases h5 : 9 ≤ (m.ino n).prt j
          · simp (config := { maxSteps := 1000000 }) (disch := omega) only [go_sem, h0, h4, h5]
            have : partFault m (m.ino n) j = 1 := by simp [partFault, h5]
            rw [bad (by rw [e, firstI_at hp2 (by rw [this]; decide) hlt2, this]) (by decide)]
          have h45 : ¬((m.ino n).prt j < -1 ∨ 9 ≤ (m.ino n).prt j) := by omega
          have h6 : 0 ≤ (m.ino n).prt j := by omega
          by_cases h7 : (m.dat ((m.ino n).prt j).toNat).of = (m.ino n).stamp
          · simp (config := { maxSteps := 1000000 }) (disch := omega) only [go_sem, h0, h4, h5, h6, rd_ext hb, HP.rd_app hm, fg_ptr hb, leads_ptr hb, apart_ptr hb, h7]
            refine ih2 _ hlt2 (step_all hp2 (by simp [partFault, h45, h7])) ?_
            simp only [go_sem]
          · simp (config := { maxSteps := 1000000 }) (disch := omega) only [go_sem, h0, h4, h5, h6, rd_ext hb, HP.rd_app hm, fg_ptr hb, leads_ptr hb, apart_ptr hb, h7]
            have : partFault m (m.ino n) j = 10 := by simp only [partFault, h45, h6, h7, if_false, not_false_eq_true, and_self, if_true]
            rw [bad (by rw [e, firstI_at hp2 (by rw [this]; decide) hlt2, this]) (by decide)]
        · obtain rfl : j = 2 := by omega
          simp (config := { maxSteps := 1000000 }) (disch := omega) only [go_sem]
          refine ih' _ hlt' (step_all hp' (by rw [e]; exact firstI_zero.2 hp2)) ?_
          simp only [go_sem]
    · obtain rfl : n = 8 := by omega
      have ec := check_3 hp hp'
      have bad : ∀ {n k}, n < 8 → k < 8 → pairBad m n k = true → check m = 11 := fun h1 h2 h3 => by
        rw [ec, twice_at h1 h2 h3, if_pos rfl]
      simp (config := { maxSteps := 1000000 }) (disch := omega) only [go_sem]
      refine W_forP 8 (fun n => ⟨[(0, .ptr p q tImage), (10, .int .i64 n)], [], h⟩) (fun n => ∀ i, i < n → anyN 8 (pairBad m i) = false) (by simp only [go_sem] <;> rfl) (fun i hi => by omega) fun n hn hp3 ih3 => ?_
      by_cases hlt3 : n < 8
      · simp (config := { maxSteps := 1000000 }) (disch := omega) only [go_sem]
        refine W_forP 8 (fun k => ⟨[(0, .ptr p q tImage), (10, .int .i64 n), (11, .int .i64 k)], [], h⟩) (fun k => ∀ i, i < k → pairBad m n i = false) (by simp only [go_sem] <;> rfl) (fun i hi => by omega) fun k hk hp4 ih4 => ?_
        by_cases hlt4 : k < 8
        · simp (config := { maxSteps := 1000000 }) (disch := omega) only [go_sem, hlt3, hlt4, rd_ext hb, HP.rd_app hm, fg_ptr hb, leads_ptr hb, apart_ptr hb]
          cases h1 : (m.ino n).live with
          | false =>
            simp (config := { maxSteps := 1000000 }) (disch := omega) only [go_sem, h1]
            refine ih4 _ hlt4 (step_all hp4 (by simp [pairBad, h1])) ?_
            simp only [go_sem]
          | true =>
            simp (config := { maxSteps := 1000000 }) (disch := omega) only [go_sem, h1, hlt3, hlt4, rd_ext hb, HP.rd_app hm, fg_ptr hb, leads_ptr hb, apart_ptr hb]
            cases h2 : (m.ino k).live with
            | false =>
              simp (config := { maxSteps := 1000000 }) (disch := omega) only [go_sem, h2]
              refine ih4 _ hlt4 (step_all hp4 (by simp [pairBad, h2])) ?_
              simp only [go_sem]
            | true =>
              simp (config := { maxSteps := 1000000 }) (disch := omega) only [go_sem, h2]
              by_cases ek : n = k
              · subst ek
                simp (config := { maxSteps := 1000000 }) (disch := omega) only [go_sem, hlt3, hlt4, rd_ext hb, HP.rd_app hm, fg_ptr hb, leads_ptr hb, apart_ptr hb]
                refine W_forP 2 (fun a => ⟨[(0, .ptr p q tImage), (10, .int .i64 n), (11, .int .i64 n), (12, .int .i64 a)], [], h⟩) (fun a => ∀ i, i < a → anyN 2 (partBad m n n i) = false) (by simp only [go_sem] <;> rfl) (fun i hi => by omega) fun a ha hp5 ih5 => ?_
                by_cases hlt5 : a < 2
                · simp (config := { maxSteps := 1000000 }) (disch := omega) only [go_sem]
                  refine W_forP 2 (fun b => ⟨[(0, .ptr p q tImage), (10, .int .i64 n), (11, .int .i64 n), (12, .int .i64 a), (13, .int .i64 b)], [], h⟩) (fun b => ∀ i, i < b → partBad m n n a i = false) (by simp only [go_sem] <;> rfl) (fun i hi => by omega) fun b hb' hp6 ih6 => ?_
                  by_cases hlt6 : b < 2
                  · have pb : partBad m n n a b = true → pairBad m n n = true := fun hx => by
                      have : anyN 2 (fun p => anyN 2 fun q => partBad m n n p q) = true := anyN_at hlt5 (anyN_at hlt6 hx)
                      simp only [pairBad, h1, this, Bool.and_self, Bool.or_true]
                    by_cases ab : a = b
                    · subst ab
                      simp (config := { maxSteps := 1000000 }) (disch := omega) only [go_sem, hlt3, hlt4, hlt5, hlt6, rd_ext hb, HP.rd_app hm, fg_ptr hb, leads_ptr hb, apart_ptr hb]
                      refine ih6 _ hlt6 (step_all hp6 (by simp [partBad])) ?_
                      simp only [go_sem]
                    · simp (config := { maxSteps := 1000000 }) (disch := omega) only [go_sem, hlt3, hlt4, hlt5, hlt6, rd_ext hb, HP.rd_app hm, fg_ptr hb, leads_ptr hb, apart_ptr hb]
                      by_cases c1 : 0 ≤ (m.ino n).prt a
                      · by_cases c2 : (m.ino n).prt a = (m.ino n).prt b
                        · simp (config := { maxSteps := 1000000 }) (disch := omega) only [go_sem, c1, c2, hlt3, hlt4, hlt5, hlt6, rd_ext hb, HP.rd_app hm, fg_ptr hb, leads_ptr hb, apart_ptr hb]
                          rw [bad hlt3 hlt3 (pb (by have c3 := c1; rw [c2] at c3; simp [partBad, ab, c2, c3]))]
                        · simp (config := { maxSteps := 1000000 }) (disch := omega) only [go_sem, c1, c2, hlt3, hlt4, hlt5, hlt6, rd_ext hb, HP.rd_app hm, fg_ptr hb, leads_ptr hb, apart_ptr hb]
                          refine ih6 _ hlt6 (step_all hp6 (by simp [partBad, c2])) ?_
                          simp only [go_sem]
                      · simp (config := { maxSteps := 1000000 }) (disch := omega) only [go_sem, c1]
                        refine ih6 _ hlt6 (step_all hp6 (by simp [partBad, c1])) ?_
                        simp only [go_sem]
                  · obtain rfl : b = 2 := by omega
                    simp (config := { maxSteps := 1000000 }) (disch := omega) only [go_sem]
                    refine ih5 _ hlt5 (step_all hp5 (anyN_false.2 hp6)) ?_
                    simp only [go_sem]
                · obtain rfl : a = 2 := by omega
                  simp (config := { maxSteps := 1000000 }) (disch := omega) only [go_sem]
                  refine ih4 _ hlt4 (step_all hp4 ?_) ?_
                  · have : anyN 2 (fun p => anyN 2 fun q => partBad m n n p q) = false := anyN_false.2 hp5
                    rw [pairBad, this]; simp
                  · simp only [go_sem]
              · by_cases ck : (m.ino n).stamp = (m.ino k).stamp
                · simp (config := { maxSteps := 1000000 }) (disch := omega) only [go_sem, ck, hlt3, hlt4, rd_ext hb, HP.rd_app hm, fg_ptr hb, leads_ptr hb, apart_ptr hb]
                  rw [bad hlt3 hlt4 (by simp [pairBad, h1, h2, ek, ck])]
                · simp (config := { maxSteps := 1000000 }) (disch := omega) only [go_sem, ck, hlt3, hlt4, rd_ext hb, HP.rd_app hm, fg_ptr hb, leads_ptr hb, apart_ptr hb]
                  refine W_forP 2 (fun a => ⟨[(0, .ptr p q tImage), (10, .int .i64 n), (11, .int .i64 k), (12, .int .i64 a)], [], h⟩) (fun a => ∀ i, i < a → anyN 2 (partBad m n k i) = false) (by simp only [go_sem] <;> rfl) (fun i hi => by omega) fun a ha hp5 ih5 => ?_
                  by_cases hlt5 : a < 2
                  · simp (config := { maxSteps := 1000000 }) (disch := omega) only [go_sem]
                    refine W_forP 2 (fun b => ⟨[(0, .ptr p q tImage), (10, .int .i64 n), (11, .int .i64 k), (12, .int .i64 a), (13, .int .i64 b)], [], h⟩) (fun b => ∀ i, i < b → partBad m n k a i = false) (by simp only [go_sem] <;> rfl) (fun i hi => by omega) fun b hb' hp6 ih6 => ?_
                    by_cases hlt6 : b < 2
                    · have pb : partBad m n k a b = true → pairBad m n k = true := fun hx => by
                        have : anyN 2 (fun p => anyN 2 fun q => partBad m n k p q) = true := anyN_at hlt5 (anyN_at hlt6 hx)
                        simp only [pairBad, h1, h2, this, Bool.and_self, Bool.or_true]
                      simp (config := { maxSteps := 1000000 }) (disch := omega) only [go_sem, hlt3, hlt4, hlt5, hlt6, rd_ext hb, HP.rd_app hm, fg_ptr hb, leads_ptr hb, apart_ptr hb]
                      by_cases c1 : 0 ≤ (m.ino n).prt a
                      · by_cases c2 : (m.ino n).prt a = (m.ino k).prt b
                        · simp (config := { maxSteps := 1000000 }) (disch := omega) only [go_sem, c1, c2, hlt3, hlt4, hlt5, hlt6, rd_ext hb, HP.rd_app hm, fg_ptr hb, leads_ptr hb, apart_ptr hb]
                          rw [bad hlt3 hlt4 (pb (by have c3 := c1; rw [c2] at c3; simp [partBad, ek, c2, c3]))]
                        · simp (config := { maxSteps := 1000000 }) (disch := omega) only [go_sem, c1, c2, hlt3, hlt4, hlt5, hlt6, rd_ext hb, HP.rd_app hm, fg_ptr hb, leads_ptr hb, apart_ptr hb]
                          refine ih6 _ hlt6 (step_all hp6 (by simp [partBad, c2])) ?_
                          simp only [go_sem]
                      · simp (config := { maxSteps := 1000000 }) (disch := omega) only [go_sem, c1]
                        refine ih6 _ hlt6 (step_all hp6 (by simp [partBad, c1])) ?_
                        simp only [go_sem]
                    · obtain rfl : b = 2 := by omega
                      simp (config := { maxSteps := 1000000 }) (disch := omega) only [go_sem]
                      refine ih5 _ hlt5 (step_all hp5 (anyN_false.2 hp6)) ?_
                      simp only [go_sem]
                  · obtain rfl : a = 2 := by omega
                    simp (config := { maxSteps := 1000000 }) (disch := omega) only [go_sem]
                    refine ih4 _ hlt4 (step_all hp4 ?_) ?_
                    · have : anyN 2 (fun p => anyN 2 fun q => partBad m n k p q) = false := anyN_false.2 hp5
                      rw [pairBad, this]; simp [ck]
                    · simp only [go_sem]
        · obtain rfl : k = 8 := by omega
          simp (config := { maxSteps := 1000000 }) (disch := omega) only [go_sem]
          refine ih3 _ hlt3 (step_all hp3 (anyN_false.2 hp4)) ?_
          simp only [go_sem]
      · obtain rfl : n = 8 := by omega
        simp (config := { maxSteps := 1000000 }) (disch := omega) only [go_sem]
        have : twice m = false := by rw [← twiceR_eq]; exact anyN_false.2 hp3
        rw [ec, this]; rfl
theorem IsExact_ok (hg : m.small) (hb : p.below cx.lvl) (hm : h.rd p q = some m.enc) :
    Ok tbl cx Fn.eiderdownref_IsExact (St.enter [.ptr p q tImage] h) fun v h' => v = .bool (exact m) ∧ h' = h := by
  rw [Ok_eq]
  simp (config := { maxSteps := 1000000 }) (disch := omega) only [go_sem]
  refine W_callp rfl ⟨rfl, rfl⟩ (by simp only [go_sem]; exact ImageFault_ok (m := m) hg hb.succ (by simp only [HP.push_rd_ext hb, hm])) ?_
  simp (config := { maxSteps := 1000000 }) (disch := omega) only [go_sem]
  by_cases hc : check m = 0
  · simp (config := { maxSteps := 1000000 }) (disch := omega) only [go_sem, hc]
    refine W_forP 8 (fun n => ⟨[(0, .ptr p q tImage), (3, .int .i64 n)], [], h⟩) (fun n => ∀ i, i < n → ((m.ino i).live && (decide (refs m i = 0) || !decide ((m.ino i).links = refs m i))) = false) (by simp only [go_sem] <;> rfl) (fun i hi => by omega) fun n hn hp ih => ?_
    by_cases hlt : n < 8
    · simp (config := { maxSteps := 1000000 }) (disch := omega) only [go_sem, hlt, rd_ext hb, HP.rd_app hm, fg_ptr hb, leads_ptr hb, apart_ptr hb]
      cases h1 : (m.ino n).live with
      | false =>
        simp (config := { maxSteps := 1000000 }) (disch := omega) only [go_sem, h1]
        refine ih _ hlt (step_all hp (by simp [h1])) ?_
        simp only [go_sem]
      | true =>
        simp (config := { maxSteps := 1000000 }) (disch := omega) only [go_sem, h1, hlt, rd_ext hb, HP.rd_app hm, fg_ptr hb, leads_ptr hb, apart_ptr hb]
        have ex : (decide (refs m n = 0) || !decide ((m.ino n).links = refs m n)) = true → exact m = false := fun hx => by
          have : anyN 8 (fun n => (m.ino n).live && (decide (refs m n = 0) || !decide ((m.ino n).links = refs m n))) = true := anyN_at hlt (by simp only [h1, hx, Bool.and_self])
          simp only [exact, this, Bool.not_true, Bool.false_and]
        by_cases h2 : (m.ino n).links < 1
        · simp (config := { maxSteps := 1000000 }) (disch := omega) only [go_sem, h2]
          rw [ex (by
            by_cases h3 : (m.ino n).links = refs m n
            · have : refs m n = 0 := by omega
              simp [this]
            · simp [h3])]
        · simp (config := { maxSteps := 1000000 }) (disch := omega) only [go_sem, h2, hlt, rd_ext hb, HP.rd_app hm, fg_ptr hb, leads_ptr hb, apart_ptr hb]
          refine W_callp rfl ⟨rfl, rfl⟩ (by simp only [go_sem]; exact Leads_ok (m := m) hb.succ (by simp only [HP.push_rd_ext hb, hm])) ?_
          simp (config := { maxSteps := 1000000 }) (disch := omega) only [go_sem, h2, hlt, rd_ext hb, HP.rd_app hm, fg_ptr hb, leads_ptr hb, apart_ptr hb]
          by_cases h3 : (m.ino n).links = refs m n
          · simp (config := { maxSteps := 1000000 }) (disch := omega) only [go_sem, h3]
            refine ih _ hlt (step_all hp ?_) ?_
            · have : ¬refs m n = 0 := by omega
              simp [h3, this]
            · simp only [go_sem]
          · simp (config := { maxSteps := 1000000 }) (disch := omega) only [go_sem, h3]
            rw [ex (by simp [h3])]
    · obtain rfl : n = 8 := by omega
      have : anyN 8 (fun n => (m.ino n).live && (decide (refs m n = 0) || !decide ((m.ino n).links = refs m n))) = false := anyN_false.2 hp
      simp (config := { maxSteps := 1000000 }) (disch := omega) only [go_sem]
      simp [exact, this, hc]
  · simp (config := { maxSteps := 1000000 }) (disch := omega) only [go_sem, hc]
    simp [exact, hc]
end
end Go.Mini
