/- A part of the proof: MiniMends. -/
import Derived.Test.YtpkndgkaecamlabMiniFit
namespace Go.Mini
set_option linter.unusedSimpArgs false
set_option linter.unusedVariables false
set_option maxHeartbeats 4000000
set_option maxRecDepth 100000

theorem inoFault_of {m : Img} {n : Nat} (h1 : (m.ino n).live = true) (h2 : 1 ≤ (m.ino n).stamp) (h3 : (refs m n : Int) ≤ (m.ino n).links) (h4 : ∀ p, p < 2 → partFault m (m.ino n) p = 0) : inoFault m n = 0 := by
  simp only [inoFault, h1, Bool.true_eq_false, if_false]
  rw [if_neg (by omega)]
  exact firstI_zero.2 h4
theorem partFault_of {m : Img} {i : Ino} {p : Nat} (h : i.prt p = -1 ∨ (0 ≤ i.prt p ∧ i.prt p < 9 ∧ (m.dat (i.prt p).toNat).of = i.stamp)) : partFault m i p = 0 := by
  rcases h with h | ⟨h0, h9, he⟩
  · simp [partFault, h]
  · simp only [partFault]
    rw [if_neg (by omega), if_neg (fun h => h.2 he)]
theorem dead_none {m : Img} (hc : check m = 0) {n : Nat} (hn : n < 8) (hl : (m.ino n).live = false) : m.ino n = Ino.none := by
  have h := (check_parts hc).2.1 n hn
  simp only [inoFault, hl, if_true] at h
  split at h
  · assumption
  · exact absurd h (by decide)
theorem inoFault_dead {m : Img} {n : Nat} (h : m.ino n = Ino.none) : inoFault m n = 0 := by simp [inoFault, h, show Ino.none.live = false from rfl]
theorem refs_pos {m : Img} {d s : Nat} (hd : d < 3) (hs : s < 4) {i : Int} (h : leads m d s i = true) : 0 < refs m i := by
  have g2 : refsRow m i d 4 ≤ refs m i := sumN_ge (f := fun d => refsRow m i d 4) hd
  have g3 : b2n (leads m d s i) ≤ refsRow m i d 4 := sumN_ge (f := fun t => b2n (leads m d t i)) hs
  rw [h] at g3
  simp only [b2n, if_true] at g3
  omega
theorem leads_at {m : Img} {d s : Nat} (hn : ¬(m.ent d s).name = ⟨#[]⟩) (h0 : 0 ≤ (m.ent d s).ino) : leads m d s ((m.ent d s).ino.toNat : Nat) = true := by
  have : ((m.ent d s).ino.toNat : Int) = (m.ent d s).ino := by omega
  simp [leads, hn, this]
/-- Where an inode as it may lie there comes from. -/
theorem inodeAs_live_cases {m m' : Img} {n : Nat} (h : (inodeAs m m' n).live = true) :
    ((m.ino n).live = true ∧ (inodeAs m m' n).stamp = (m.ino n).stamp ∧ ∀ p, p < 2 → (inodeAs m m' n).prt p = part m m' n p) ∨
    ((m.ino n).live = false ∧ (m'.ino n).live = true ∧ 0 < both m m' n ∧ (inodeAs m m' n).stamp = (m'.ino n).stamp ∧ ∀ p, (inodeAs m m' n).prt p = (m'.ino n).prt p) := by
  cases hl : (m.ino n).live with
  | true =>
    left
    refine ⟨rfl, by simp only [inodeAs, if_pos hl], fun p hp => ?_⟩
    simp only [inodeAs, if_pos hl, Ino.prt, hp, dite_true]
    obtain rfl | rfl : p = 0 ∨ p = 1 := by omega
    all_goals rfl
  | false =>
    right
    have hl' : ¬(m.ino n).live = true := by rw [hl]; simp
    by_cases hd : (m'.ino n).live = true ∧ 0 < both m m' n
    · have e : inodeAs m m' n = { m'.ino n with links := both m m' n } := by simp only [inodeAs, if_neg hl', if_pos hd]
      rw [e]; exact ⟨rfl, hd.1, hd.2, rfl, fun p => rfl⟩
    · have e : inodeAs m m' n = Ino.none := by simp only [inodeAs, if_neg hl', if_neg hd]
      rw [e] at h; simp [Ino.none] at h
theorem part_cases (m m' : Img) (n p : Nat) : part m m' n p = -1 ∨ (part m m' n p = (m.ino n).prt p ∧ 0 ≤ (m.ino n).prt p ∧ (m.ino n).prt p < 9 ∧ (m'.dat ((m.ino n).prt p).toNat).of = (m.ino n).stamp) ∨
    (part m m' n p = (m'.ino n).prt p ∧ (m'.ino n).live = true ∧ (m'.ino n).stamp = (m.ino n).stamp) := by
  by_cases hx : (m.ino n).prt p < 0 ∨ 9 ≤ (m.ino n).prt p
  · left; simp only [part, if_pos hx]
  by_cases hd : (m'.dat ((m.ino n).prt p).toNat).of = (m.ino n).stamp
  · right; left
    exact ⟨by simp only [part, if_neg hx, if_pos hd], by omega, by omega, hd⟩
  by_cases ho : (m'.ino n).live = true ∧ (m'.ino n).stamp = (m.ino n).stamp
  · right; right
    exact ⟨by simp only [part, if_neg hx, if_neg hd, if_pos ho], ho⟩
  · left; simp only [part, if_neg hx, if_neg hd, if_neg ho]
theorem wrInodes_ino' (m m' : Img) (n : Nat) (hn : n ≤ 4) (i : Nat) : (wrInodes m m' n 4).ino i = if n ≤ i ∧ i < n + 4 then inodeAs m m' i else m'.ino i := by
  have key : ∀ k, k ≤ 4 → (wrInodes m m' n k).ino i = if n ≤ i ∧ i < n + k then inodeAs m m' i else m'.ino i := by
    intro k
    induction k with
    | zero => intro _; rw [if_neg (by omega)]; rfl
    | succ k ih =>
      intro hk
      rw [wrInodes, ino_setIno, ih (by omega)]
      by_cases e : n + k = i
      · subst e; rw [if_pos ⟨rfl, by omega⟩, if_pos (by omega)]
      · rw [if_neg (by omega)]
        by_cases h : n ≤ i ∧ i < n + k
        · rw [if_pos h, if_pos (by omega)]
        · rw [if_neg h, if_neg (by omega)]
  exact key 4 (Nat.le_refl _)
theorem wrInodes_dat (m m' : Img) (n x : Nat) : ∀ k, (wrInodes m m' n k).dat x = m'.dat x
  | 0 => rfl
  | k + 1 => by rw [wrInodes, dat_setIno, wrInodes_dat m m' n x k]

theorem mends_data {m m' : Img} (hc : check m' = 0) (hf : Fits m m') {x : Nat} (hx : x < 9) : check (m'.setDat x (m.dat x)) = 0 := by
  obtain ⟨h1, h2, h3⟩ := check_parts hc
  have hR : ∀ i, refs (m'.setDat x (m.dat x)) i = refs m' i := fun i => refs_congr (fun d s => ent_setDat ..) i
  refine check_of (fun d hd s hs => ?_) (fun n hn => ?_) ?_
  · have e' : (m'.setDat x (m.dat x)).ent d s = m'.ent d s := ent_setDat ..
    rcases entry_parts (h1 d hd s hs) with e0 | ⟨a1, a2, a3, a4, a5, a6, a7⟩
    · rw [e0] at e'; simp [entryFault, e', show Ent.zero.name = ⟨#[]⟩ from rfl]
    · exact entry_of (by rw [e']; exact a1) (by rw [e']; exact a2) (by refine Eq.trans (anyN_congr fun k _ => ?_) a3; rw [decide_eq_decide]; simp only [ent_setDat]) (by rw [e']; exact a4) (by rw [e']; exact a5) (by rw [e', ino_setDat]; exact a6) (by rw [e', ino_setDat]; exact a7)
  · cases hl : (m'.ino n).live with
    | false => exact inoFault_dead (by rw [ino_setDat]; exact dead_none hc hn hl)
    | true =>
      obtain ⟨p1, p2, p3⟩ := ino_parts hc hn hl
      refine inoFault_of (by rw [ino_setDat]; exact hl) (by rw [ino_setDat]; exact p1) (by rw [ino_setDat, hR]; exact p2) fun p hp => ?_
      rw [ino_setDat]
      rcases part_dat (p3 p hp) with hm1 | ⟨h0, h9, ho⟩
      · exact partFault_of (.inl hm1)
      · refine partFault_of (.inr ⟨h0, h9, ?_⟩)
        rw [dat_setDat]
        split
        · rename_i hxe
          have hheld : held m' (x : Int) = true := by
            refine anyN_at hn ?_
            have : (m'.ino n).prt p = (x : Int) := by omega
            obtain rfl | rfl : p = 0 ∨ p = 1 := by omega
            all_goals simp [hl, this]
          have := hf.2.1 x hx hheld
          rw [this, hxe.1]; exact ho
        · exact ho
  · rw [← h3]; exact twice_ino fun n => ino_setDat ..
theorem mends_inodes {m m' : Img} (hc : check m' = 0) (he : exact m = true) (hf : Fits m m') {n0 : Nat} (hn0 : n0 ≤ 4) : check (wrInodes m m' n0 4) = 0 := by
  obtain ⟨hcm, hem⟩ := exact_parts he
  obtain ⟨h1, h2, h3⟩ := check_parts hc
  obtain ⟨g1, g2, g3⟩ := check_parts hcm
  have hE : ∀ d s, (wrInodes m m' n0 4).ent d s = m'.ent d s := fun d s => wrInodes_ent m m' n0 d s 4
  have hI := wrInodes_ino' m m' n0 hn0
  have hD := fun x => wrInodes_dat m m' n0 x 4
  have hR : ∀ i, refs (wrInodes m m' n0 4) i = refs m' i := fun i => refs_congr hE i
  generalize wrInodes m m' n0 4 = X at *
  -- what each live inode is
  have hL : ∀ n, n < 8 → (X.ino n).live = true → ((m.ino n).live = true ∧ (X.ino n).stamp = (m.ino n).stamp ∧ (refs m' n : Int) ≤ (X.ino n).links ∧ ∀ p, p < 2 → (X.ino n).prt p = part m m' n p) ∨
      ((m'.ino n).live = true ∧ (X.ino n).stamp = (m'.ino n).stamp ∧ (refs m' n : Int) ≤ (X.ino n).links ∧ ∀ p, (X.ino n).prt p = (m'.ino n).prt p) := by
    intro n hn hl
    rw [hI] at hl ⊢
    split at hl
    · rename_i hr
      rw [if_pos hr]
      have hlk : (refs m' n : Int) ≤ (inodeAs m m' n).links := by
        rw [inodeAs_links m m' n hl, both_comm]; exact Int.ofNat_le.2 (refs_le_both m' m n)
      rcases inodeAs_live_cases hl with ⟨a1, a2, a3⟩ | ⟨_, a2, _, a4, a5⟩
      · exact .inl ⟨a1, a2, hlk, a3⟩
      · exact .inr ⟨a2, a4, hlk, a5⟩
    · rename_i hr
      rw [if_neg hr]
      exact .inr ⟨hl, rfl, (ino_parts hc hn hl).2.1, fun _ => rfl⟩
  refine check_of (fun d hd s hs => ?_) (fun n hn => ?_) ?_
  · have e' := hE d s
    rcases entry_parts (h1 d hd s hs) with e0 | ⟨a1, a2, a3, a4, a5, a6, a7⟩
    · rw [e0] at e'; simp [entryFault, e', show Ent.zero.name = ⟨#[]⟩ from rfl]
    · have hj : (m'.ent d s).ino.toNat < 8 := by omega
      have hpos := refs_pos hd hs (leads_at a1 a4)
      have key : (X.ino (m'.ent d s).ino.toNat).live = true ∧ (X.ino (m'.ent d s).ino.toNat).stamp = (m'.ent d s).stamp := by
        rw [hI]
        split
        · cases hl : (m.ino (m'.ent d s).ino.toNat).live with
          | true =>
            refine ⟨by simp [inodeAs, hl], ?_⟩
            simp only [inodeAs, if_pos hl]
            by_cases hst : (m.ino (m'.ent d s).ino.toNat).stamp = (m'.ino (m'.ent d s).ino.toNat).stamp
            · rw [hst]; exact a7
            · have := (hf.1 _ hj).1 hl a6 hst; omega
          | false =>
            have hl' : ¬(m.ino (m'.ent d s).ino.toNat).live = true := by rw [hl]; simp
            have hbp : 0 < both m m' ((m'.ent d s).ino.toNat : Nat) := by
              have := refs_le_both m' m ((m'.ent d s).ino.toNat : Nat)
              rw [both_comm] at this; omega
            simp only [inodeAs, if_neg hl', if_pos (And.intro a6 hbp)]
            exact ⟨a6, a7⟩
        · exact ⟨a6, a7⟩
      exact entry_of (by rw [e']; exact a1) (by rw [e']; exact a2) (by simpa only [hE] using a3) (by rw [e']; exact a4) (by rw [e']; exact a5) (by rw [e']; exact key.1) (by rw [e']; exact key.2)
  · cases hl : (X.ino n).live with
    | false =>
      have : X.ino n = Ino.none := by
        rw [hI] at hl ⊢
        split at hl
        · rename_i hr; rw [if_pos hr]; exact (inodeAs_dead m m' n hl).1
        · rename_i hr; rw [if_neg hr]; exact dead_none hc hn hl
      exact inoFault_dead this
    | true =>
      rcases hL n hn hl with ⟨a1, a2, a3, a4⟩ | ⟨a1, a2, a3, a4⟩
      · obtain ⟨p1, _, p3⟩ := ino_parts hcm hn a1
        refine inoFault_of hl (by rw [a2]; exact p1) (by rw [hR]; exact a3) fun p hp => partFault_of ?_
        rw [a4 p hp, a2]
        rcases part_cases m m' n p with c | ⟨c1, c2, c3, c4⟩ | ⟨c1, c2, c3⟩
        · exact .inl c
        · rw [c1]; right; exact ⟨c2, c3, by rw [hD]; exact c4⟩
        · rw [c1]
          obtain ⟨_, _, q3⟩ := ino_parts hc hn c2
          rcases part_dat (q3 p hp) with r | ⟨r1, r2, r3⟩
          · exact .inl r
          · right; exact ⟨r1, r2, by rw [hD, r3, c3]⟩
      · obtain ⟨p1, _, p3⟩ := ino_parts hc hn a1
        refine inoFault_of hl (by rw [a2]; exact p1) (by rw [hR]; exact a3) fun p hp => partFault_of ?_
        rw [a4 p, a2]
        rcases part_dat (p3 p hp) with r | ⟨r1, r2, r3⟩
        · exact .inl r
        · right; exact ⟨r1, r2, by rw [hD]; exact r3⟩
  · -- none twice
    rw [← twiceR_eq]
    unfold twiceR
    rw [anyN_false]
    intro n hn
    rw [anyN_false]
    intro k hk
    rcases hb : pairBad X n k with _ | _
    · rfl
    · exfalso
      rw [pairBad_iff] at hb
      obtain ⟨b1, b2, b3⟩ := hb
      have badm : ∀ {p q}, p < 2 → q < 2 → (n ≠ k ∨ p ≠ q) → (m.ino n).live = true → (m.ino k).live = true → 0 ≤ (m.ino n).prt p → (m.ino n).prt p = (m.ino k).prt q → False := by
        intro p q hp hq hne hl hl' h0 h
        have := twice_at hn hk (pairBad_iff.2 ⟨hl, hl', .inr ⟨p, q, hp, hq, hne, h0, h⟩⟩)
        rw [g3] at this; exact absurd this (by simp)
      have badd : ∀ {p q}, p < 2 → q < 2 → (n ≠ k ∨ p ≠ q) → (m'.ino n).live = true → (m'.ino k).live = true → 0 ≤ (m'.ino n).prt p → (m'.ino n).prt p = (m'.ino k).prt q → False := by
        intro p q hp hq hne hl hl' h0 h
        have := twice_at hn hk (pairBad_iff.2 ⟨hl, hl', .inr ⟨p, q, hp, hq, hne, h0, h⟩⟩)
        rw [h3] at this; exact absurd this (by simp)
      rcases b3 with ⟨hne, hst⟩ | ⟨p, q, hp, hq, hne, h0, hpq⟩
      · rcases hL n hn b1 with ⟨a1, a2, _, _⟩ | ⟨a1, a2, _, _⟩ <;> rcases hL k hk b2 with ⟨c1, c2, _, _⟩ | ⟨c1, c2, _, _⟩
        · have := twice_at hn hk (pairBad_iff.2 ⟨a1, c1, .inl ⟨hne, by rw [← a2, ← c2]; exact hst⟩⟩)
          rw [g3] at this; exact absurd this (by simp)
        · exact (hf.1 n hn).2.1 k hk (fun h => hne h.symm) a1 c1 (by rw [← a2, ← c2]; exact hst.symm)
        · exact (hf.1 k hk).2.1 n hn hne c1 a1 (by rw [← a2, ← c2]; exact hst)
        · have := twice_at hn hk (pairBad_iff.2 ⟨a1, c1, .inl ⟨hne, by rw [← a2, ← c2]; exact hst⟩⟩)
          rw [h3] at this; exact absurd this (by simp)
      · -- each part is from what is to be, or from the disk
        have src : ∀ i a, i < 8 → a < 2 → (X.ino i).live = true → 0 ≤ (X.ino i).prt a → ((m.ino i).live = true ∧ (X.ino i).prt a = (m.ino i).prt a) ∨ ((m'.ino i).live = true ∧ (X.ino i).prt a = (m'.ino i).prt a) := by
          intro i a hi ha hl h0
          rcases hL i hi hl with ⟨a1, _, _, a4⟩ | ⟨a1, _, _, a4⟩
          · rw [a4 a ha] at h0 ⊢
            rcases part_cases m m' i a with c | ⟨c1, _, _, _⟩ | ⟨c1, c2, _⟩
            · omega
            · exact .inl ⟨a1, c1⟩
            · exact .inr ⟨c2, c1⟩
          · exact .inr ⟨a1, a4 a⟩
        rcases src n p hn hp b1 h0 with ⟨s1, s2⟩ | ⟨s1, s2⟩ <;> rcases src k q hk hq b2 (by omega) with ⟨t1, t2⟩ | ⟨t1, t2⟩
        · exact badm hp hq hne s1 t1 (by omega) (by omega)
        · obtain ⟨u1, u2, _⟩ := (hf.1 n hn).2.2 p hp s1 (by omega) k hk q hq t1 (by omega)
          omega
        · obtain ⟨u1, u2, _⟩ := (hf.1 k hk).2.2 q hq t1 (by omega) n hn p hp s1 (by omega)
          omega
        · exact badd hp hq hne s1 t1 (by omega) (by omega)
theorem mends_dir {m m' : Img} (hc : check m' = 0) (he : exact m = true) (hf : Fits m m') {d0 : Nat} (hd0 : d0 < 3) : check (wrDir m m' d0 4) = 0 := by
  obtain ⟨hcm, hem⟩ := exact_parts he
  obtain ⟨h1, h2, h3⟩ := check_parts hc
  obtain ⟨g1, g2, g3⟩ := check_parts hcm
  obtain ⟨i1, i2, i3, i4, i5, i6⟩ := wrDir_ok m m' hd0 4 (Nat.le_refl _)
  generalize wrDir m m' d0 4 = X at *
  refine check_of (fun d hd s hs => ?_) (fun n hn => ?_) ?_
  · -- each slot is as on the disk, or none, or as it is to be
    have slot : ∀ t, t < 4 → X.ent d t = m'.ent d t ∨ X.ent d t = Ent.zero ∨ (X.ent d t = m.ent d t ∧ 0 ≤ (m.ent d t).ino ∧ (m.ent d t).ino < 8 ∧ (m'.ino (m.ent d t).ino.toNat).live = true ∧ (m'.ino (m.ent d t).ino.toNat).stamp = (m.ent d t).stamp) := by
      intro t ht
      by_cases e : d = d0
      · subst e; exact i4 t ht
      · exact .inl (i3 d t hd ht (.inl e))
    have uniq : ∀ k, k < s → ¬(X.ent d s).name = ⟨#[]⟩ → ¬(X.ent d k).name = (X.ent d s).name := by
      intro k hk hne heq
      have hk4 : k < 4 := by omega
      rcases slot s hs with a | a | ⟨a, _⟩ <;> rcases slot k hk4 with b | b | ⟨b, _⟩ <;> rw [a] at hne heq <;> rw [b] at heq
      · rcases entry_parts (h1 d hd s hs) with e0 | ⟨_, _, a3, _⟩
        · rw [e0] at hne; exact hne rfl
        · have := anyN_false.1 a3 k hk; simp [heq] at this
      · exact hne heq.symm
      · exact (hf.2.2 d hd k hk4).2 s hs (by omega) (by rw [heq]; exact hne) heq.symm
      · exact absurd rfl hne
      · exact absurd rfl hne
      · exact absurd rfl hne
      · exact (hf.2.2 d hd s hs).2 k hk4 (by omega) hne heq
      · exact hne heq.symm
      · rcases entry_parts (g1 d hd s hs) with e0 | ⟨_, _, a3, _⟩
        · rw [e0] at hne; exact hne rfl
        · have := anyN_false.1 a3 k hk; simp [heq] at this
    have any : ¬(X.ent d s).name = ⟨#[]⟩ → anyN s (fun k => decide ((X.ent d k).name = (X.ent d s).name)) = false := fun hne => anyN_false.2 fun k hk => by simpa using uniq k hk hne
    rcases slot s hs with a | a | ⟨a, b1, b2, b3, b4⟩
    · rcases entry_parts (h1 d hd s hs) with e0 | ⟨a1, a2, a3, a4, a5, a6, a7⟩
      · rw [e0] at a; simp [entryFault, a, show Ent.zero.name = ⟨#[]⟩ from rfl]
      · exact entry_of (by rw [a]; exact a1) (by rw [a]; exact a2) (any (by rw [a]; exact a1)) (by rw [a]; exact a4) (by rw [a]; exact a5) (by rw [a, i1]; exact a6) (by rw [a, i1]; exact a7)
    · simp [entryFault, a, show Ent.zero.name = ⟨#[]⟩ from rfl]
    · rcases entry_parts (g1 d hd s hs) with e0 | ⟨a1, a2, a3, a4, a5, a6, a7⟩
      · rw [e0] at a; simp [entryFault, a, show Ent.zero.name = ⟨#[]⟩ from rfl]
      · exact entry_of (by rw [a]; exact a1) (by rw [a]; exact a2) (any (by rw [a]; exact a1)) (by rw [a]; exact a4) (by rw [a]; exact a5) (by rw [a, i1]; exact b3) (by rw [a, i1]; exact b4)
  · cases hl : (m'.ino n).live with
    | false => exact inoFault_dead (by rw [i1]; exact dead_none hc hn hl)
    | true =>
      obtain ⟨p1, p2, p3⟩ := ino_parts hc hn hl
      refine inoFault_of (by rw [i1]; exact hl) (by rw [i1]; exact p1) ?_ fun p hp => ?_
      · rw [i1]
        rcases i6 n with h | ⟨_, h⟩
        · omega
        · exact h
      · rw [i1]
        rcases part_dat (p3 p hp) with r | ⟨r1, r2, r3⟩
        · exact partFault_of (.inl r)
        · exact partFault_of (.inr ⟨r1, r2, by rw [i2]; exact r3⟩)
  · rw [← h3]; exact twice_ino i1
theorem write_mends {m m' : Img} (hc : check m' = 0) (he : exact m = true) (hf : Fits m m') (b : Int) : check (writeAs m m' b).1 = 0 := by
  obtain ⟨n, hn, e⟩ | ⟨n, hn, e⟩ | ⟨n, hn, e⟩ | e := blockOf_cases b
  · rw [writeAs_i e]; exact mends_inodes hc he hf hn
  · rw [writeAs_d e]; exact mends_dir hc he hf hn
  · rw [writeAs_a e]; exact mends_data hc hf hn
  · rw [writeAs_n e]; exact hc
end Go.Mini
