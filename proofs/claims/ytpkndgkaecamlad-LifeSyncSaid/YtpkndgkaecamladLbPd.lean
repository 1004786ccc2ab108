/- A part of the proof: what Lb computes, step by step. -/
import Derived.Test.YtpkndgkaecamladLbPc

namespace Go.Mini
set_option linter.unusedSimpArgs false
set_option linter.unusedVariables false
theorem enterCmd_ext {T T' : Nat → Option MFun} (hT : ∀ i fn, T i = some fn → T' i = some fn) {cx : Cx} {prot : Bool} {hide : List Nat} {f : Nat} {args caps : List AV} {d : Option Nat} {todo : List Item} {s : St} :
    enterCmd T cx prot hide f args caps d todo s = .fail ∨ enterCmd T' cx prot hide f args caps d todo s = enterCmd T cx prot hide f args caps d todo s := by
  unfold enterCmd
  cases h : T f with
  | none => exact .inl rfl
  | some fn => rw [hT f fn h]; exact .inr rfl
theorem opCmd_ext {T T' : Nat → Option MFun} (hT : ∀ i fn, T i = some fn → T' i = some fn) {cx : Cx} {d : Option Nat} {o : MK} {k : List Item} {s : St} : opCmd T cx d o k s = .fail ∨ opCmd T' cx d o k s = opCmd T cx d o k s := by
  cases o <;> try exact .inr rfl
  · exact enterCmd_ext hT
  · simp only [opCmd]
    split
    · exact enterCmd_ext hT
    · exact .inl rfl
theorem next_ext {T T' : Nat → Option MFun} (hT : ∀ i fn, T i = some fn → T' i = some fn) {cx : Cx} {k : List Item} {s : St} : next T cx k s = .fail ∨ next T' cx k s = next T cx k s := by
  unfold next
  split <;> try exact .inr rfl
  split
  · exact .inr rfl
  · exact .inr rfl
  · exact opCmd_ext hT
theorem run_ext {T T' : Nat → Option MFun} (hT : ∀ i fn, T i = some fn → T' i = some fn) : ∀ {n : Nat} {cx : Cx} {k : List Item} {s r : St}, run T n cx k s = some r → run T' n cx k s = some r := by
  intro n
  induction n with
  | zero => intro cx k s r h; simp [run] at h
  | succ n ih =>
    intro cx k s r h
    rw [run] at h ⊢
    rcases next_ext hT (cx := cx) (k := k) (s := s) with hf | he
    · rw [hf] at h; exact absurd h (by simp)
    · rw [he]
      split at h
      · exact h
      · exact absurd h (by simp)
      · exact ih h
      · rename_i cx' hide fn e d k' s1 hn
        cases h1 : run T n cx' [.code fn.body] e with
        | none => rw [h1] at h; exact absurd h (by simp)
        | some s' =>
          rw [h1] at h
          rw [ih h1]
          dsimp only at h ⊢
          cases h2 : back cx cx' hide fn d s1 s' with
          | none => rw [h2] at h; exact absurd h (by simp)
          | some s2 => rw [h2] at h; exact ih h
def tblBL : List (Option MFun) := tblL ++ List.replicate 9 none ++ tblNL
def tblB (f : Nat) : Option MFun := tblBL.getD f none
theorem tbl_B (i : Nat) (fn : MFun) (h : tbl i = some fn) : tblB i = some fn := by
  unfold tbl at h
  have hl : i < tblL.length := by
    rcases Nat.lt_or_ge i tblL.length with h' | h'
    · exact h'
    · rw [List.getD_eq_getElem?_getD, List.getElem?_eq_none h'] at h; simp at h
  unfold tblB tblBL
  rw [List.getD_eq_getElem?_getD] at h ⊢
  rw [List.append_assoc, List.getElem?_append_left hl]
  exact h
theorem up {cx : Cx} {fn : MFun} {e : St} {R : AV → HP → Prop} (h : Ok tbl cx fn e R) : Ok tblB cx fn e R := by
  obtain ⟨n, s', v, hr, hv, hR⟩ := h
  exact ⟨n, s', v, run_ext tbl_B hr, hv, hR⟩
end Go.Mini

namespace Go.Mini
set_option linter.unusedSimpArgs false
set_option linter.unusedVariables false
set_option maxHeartbeats 4000000
set_option maxRecDepth 100000
def FA (m m' : Img) (n : Nat) : Prop := (m.ino n).live = true → (m'.ino n).live = true → ¬(m.ino n).stamp = (m'.ino n).stamp → refs m' n = 0
def FB (m m' : Img) (n k : Nat) : Prop := ¬k = n → (m.ino n).live = true → (m'.ino k).live = true → ¬(m'.ino k).stamp = (m.ino n).stamp
def FC (m m' : Img) (n p k q : Nat) : Prop := (m'.ino k).live = true → (m'.ino k).prt q = (m.ino n).prt p → k = n ∧ q = p ∧ (m'.ino k).stamp = (m.ino n).stamp
def FCp (m m' : Img) (n p : Nat) : Prop := (m.ino n).live = true → 0 ≤ (m.ino n).prt p → ∀ k, k < 8 → ∀ q, q < 2 → FC m m' n p k q
def FI (m m' : Img) (n : Nat) : Prop := FA m m' n ∧ (∀ k, k < 8 → FB m m' n k) ∧ ∀ p, p < 2 → FCp m m' n p
def FD (m m' : Img) (x : Nat) : Prop := held m' x = true → (m.dat x).of = (m'.dat x).of
def FE (m m' : Img) (d s : Nat) : Prop := ¬(m.ent d s).name = ⟨#[]⟩ → ¬(m'.ent d s).name = ⟨#[]⟩ → m.ent d s = m'.ent d s
def FG (m m' : Img) (d s t : Nat) : Prop := ¬t = s → ¬(m.ent d s).name = ⟨#[]⟩ → ¬(m'.ent d t).name = (m.ent d s).name
def FSx9 (m m' : Img) (d s : Nat) : Prop := FE m m' d s ∧ ∀ t, t < 4 → FG m m' d s t
def Fits (m m' : Img) : Prop := (∀ n, n < 8 → FI m m' n) ∧ (∀ x, x < 9 → FD m m' x) ∧ ∀ d, d < 3 → ∀ s, s < 4 → FSx9 m m' d s
end Go.Mini

namespace Go.Mini
set_option linter.unusedSimpArgs false
set_option linter.unusedVariables false
set_option maxHeartbeats 4000000
set_option maxRecDepth 100000
theorem inoFault_of {m : Img} {n : Nat} (h1 : (m.ino n).live = true) (h2 : 1 ≤ (m.ino n).stamp) (h3 : (refs m n : Int) ≤ (m.ino n).links) (h4 : ∀ p, p < 2 → partFault m (m.ino n) p = 0) : inoFault m n = 0 := by
  simp only [inoFault, h1, Bool.true_eq_false, if_false]
  rw [if_neg (by omega)]
  exact firstI_zero.2 h4
theorem partFault_of {m : Img} {i : Ino} {p : Nat} (h : i.prt p = -1 ∨ (0 ≤ i.prt p ∧ i.prt p < 9 ∧ (m.dat (i.prt p).toNat).of = i.stamp)) : partFault m i p = 0 := by
  rcases h with h | ⟨h0, h9, he⟩
  · simp [partFault, h]
  · simp only [partFault]
    rw [if_neg (by omega), if_neg (fun h => h.2 he)]
theorem dead_none {m : Img} (hc : check m = 0) {n : Nat} (hn : n < 8) (hl : (m.ino n).live = false) : m.ino n = Ino.none := by
  have h := (check_parts hc).2.1 n hn
  simp only [inoFault, hl, if_true] at h
  split at h
  · assumption
  · exact absurd h (by decide)
theorem inoFault_dead {m : Img} {n : Nat} (h : m.ino n = Ino.none) : inoFault m n = 0 := by simp [inoFault, h, show Ino.none.live = false from rfl]
theorem refs_pos {m : Img} {d s : Nat} (hd : d < 3) (hs : s < 4) {i : Int} (h : leads m d s i = true) : 0 < refs m i := by
  have g2 : refsRow m i d 4 ≤ refs m i := sumN_ge (f := fun d => refsRow m i d 4) hd
  have g3 : b2n (leads m d s i) ≤ refsRow m i d 4 := sumN_ge (f := fun t => b2n (leads m d t i)) hs
  rw [h] at g3
  simp only [b2n, if_true] at g3
  omega
theorem leads_at {m : Img} {d s : Nat} (hn : ¬(m.ent d s).name = ⟨#[]⟩) (h0 : 0 ≤ (m.ent d s).ino) : leads m d s ((m.ent d s).ino.toNat : Nat) = true := by
  have : ((m.ent d s).ino.toNat : Int) = (m.ent d s).ino := by omega
  simp [leads, hn, this]
theorem inodeAs_live_cases {m m' : Img} {n : Nat} (h : (inodeAs m m' n).live = true) :
    ((m.ino n).live = true ∧ (inodeAs m m' n).stamp = (m.ino n).stamp ∧ ∀ p, p < 2 → (inodeAs m m' n).prt p = part m m' n p) ∨
    ((m.ino n).live = false ∧ (m'.ino n).live = true ∧ 0 < both m m' n ∧ (inodeAs m m' n).stamp = (m'.ino n).stamp ∧ ∀ p, (inodeAs m m' n).prt p = (m'.ino n).prt p) := by
  cases hl : (m.ino n).live with
  | true =>
    left
    refine ⟨rfl, by simp only [inodeAs, if_pos hl], fun p hp => ?_⟩
    simp only [inodeAs, if_pos hl, Ino.prt, hp, dite_true]
    obtain rfl | rfl : p = 0 ∨ p = 1 := by omega
    all_goals rfl
  | false =>
    right
    have hl' : ¬(m.ino n).live = true := by rw [hl]; simp
    by_cases hd : (m'.ino n).live = true ∧ 0 < both m m' n
    · have e : inodeAs m m' n = { m'.ino n with links := both m m' n } := by simp only [inodeAs, if_neg hl', if_pos hd]
      rw [e]; exact ⟨rfl, hd.1, hd.2, rfl, fun p => rfl⟩
    · have e : inodeAs m m' n = Ino.none := by simp only [inodeAs, if_neg hl', if_neg hd]
      rw [e] at h; simp [Ino.none] at h
theorem part_cases (m m' : Img) (n p : Nat) : part m m' n p = -1 ∨ (part m m' n p = (m.ino n).prt p ∧ 0 ≤ (m.ino n).prt p ∧ (m.ino n).prt p < 9 ∧ (m'.dat ((m.ino n).prt p).toNat).of = (m.ino n).stamp) ∨
    (part m m' n p = (m'.ino n).prt p ∧ (m'.ino n).live = true ∧ (m'.ino n).stamp = (m.ino n).stamp) := by
  by_cases hx : (m.ino n).prt p < 0 ∨ 9 ≤ (m.ino n).prt p
  · left; simp only [part, if_pos hx]
  by_cases hd : (m'.dat ((m.ino n).prt p).toNat).of = (m.ino n).stamp
  · right; left
    exact ⟨by simp only [part, if_neg hx, if_pos hd], by omega, by omega, hd⟩
  by_cases ho : (m'.ino n).live = true ∧ (m'.ino n).stamp = (m.ino n).stamp
  · right; right
    exact ⟨by simp only [part, if_neg hx, if_neg hd, if_pos ho], ho⟩
  · left; simp only [part, if_neg hx, if_neg hd, if_neg ho]
theorem wrInodes_ino' (m m' : Img) (n : Nat) (hn : n ≤ 4) (i : Nat) : (wrInodes m m' n 4).ino i = if n ≤ i ∧ i < n + 4 then inodeAs m m' i else m'.ino i := by
  have key : ∀ k, k ≤ 4 → (wrInodes m m' n k).ino i = if n ≤ i ∧ i < n + k then inodeAs m m' i else m'.ino i := by
    intro k
    induction k with
    | zero => intro _; rw [if_neg (by omega)]; rfl
    | succ k ih =>
      intro hk
      rw [wrInodes, ino_setIno, ih (by omega)]
      by_cases e : n + k = i
      · subst e; rw [if_pos ⟨rfl, by omega⟩, if_pos (by omega)]
      · rw [if_neg (by omega)]
        by_cases h : n ≤ i ∧ i < n + k
        · rw [if_pos h, if_pos (by omega)]
        · rw [if_neg h, if_neg (by omega)]
  exact key 4 (Nat.le_refl _)
theorem wrInodes_dat (m m' : Img) (n x : Nat) : ∀ k, (wrInodes m m' n k).dat x = m'.dat x
  | 0 => rfl
  | k + 1 => by rw [wrInodes, dat_setIno, wrInodes_dat m m' n x k]
theorem mends_data {m m' : Img} (hc : check m' = 0) (hf : Fits m m') {x : Nat} (hx : x < 9) : check (m'.setDat x (m.dat x)) = 0 := by
  obtain ⟨h1, h2, h3⟩ := check_parts hc
  have hR : ∀ i, refs (m'.setDat x (m.dat x)) i = refs m' i := fun i => refs_congr (fun d s => ent_setDat ..) i
  refine check_of (fun d hd s hs => ?_) (fun n hn => ?_) ?_
  · have e' : (m'.setDat x (m.dat x)).ent d s = m'.ent d s := ent_setDat ..
    rcases entry_parts (h1 d hd s hs) with e0 | ⟨a1, a2, a3, a4, a5, a6, a7⟩
    · rw [e0] at e'; simp [entryFault, e', show Ent.zero.name = ⟨#[]⟩ from rfl]
    · exact entry_of (by rw [e']; exact a1) (by rw [e']; exact a2) (by refine Eq.trans (anyN_congr fun k _ => ?_) a3; rw [decide_eq_decide]; simp only [ent_setDat]) (by rw [e']; exact a4) (by rw [e']; exact a5) (by rw [e', ino_setDat]; exact a6) (by rw [e', ino_setDat]; exact a7)
  · cases hl : (m'.ino n).live with
    | false => exact inoFault_dead (by rw [ino_setDat]; exact dead_none hc hn hl)
    | true =>
      obtain ⟨p1, p2, p3⟩ := ino_parts hc hn hl
      refine inoFault_of (by rw [ino_setDat]; exact hl) (by rw [ino_setDat]; exact p1) (by rw [ino_setDat, hR]; exact p2) fun p hp => ?_
      rw [ino_setDat]
      rcases part_dat (p3 p hp) with hm1 | ⟨h0, h9, ho⟩
      · exact partFault_of (.inl hm1)
      · refine partFault_of (.inr ⟨h0, h9, ?_⟩)
        rw [dat_setDat]
        split
        · rename_i hxe
          have hheld : held m' (x : Int) = true := by
            refine anyN_at hn ?_
            have : (m'.ino n).prt p = (x : Int) := by omega
            obtain rfl | rfl : p = 0 ∨ p = 1 := by omega
            all_goals simp [hl, this]
          have := hf.2.1 x hx hheld
          rw [this, hxe.1]; exact ho
        · exact ho
  · rw [← h3]; exact twice_ino fun n => ino_setDat ..
theorem mends_inodes {m m' : Img} (hc : check m' = 0) (he : exact m = true) (hf : Fits m m') {n0 : Nat} (hn0 : n0 ≤ 4) : check (wrInodes m m' n0 4) = 0 := by
  obtain ⟨hcm, hem⟩ := exact_parts he
  obtain ⟨h1, h2, h3⟩ := check_parts hc
  obtain ⟨g1, g2, g3⟩ := check_parts hcm
  have hE : ∀ d s, (wrInodes m m' n0 4).ent d s = m'.ent d s := fun d s => wrInodes_ent m m' n0 d s 4
  have hI := wrInodes_ino' m m' n0 hn0
  have hD := fun x => wrInodes_dat m m' n0 x 4
  have hR : ∀ i, refs (wrInodes m m' n0 4) i = refs m' i := fun i => refs_congr hE i
  generalize wrInodes m m' n0 4 = X at *
  -- what each live inode is
  have hL : ∀ n, n < 8 → (X.ino n).live = true → ((m.ino n).live = true ∧ (X.ino n).stamp = (m.ino n).stamp ∧ (refs m' n : Int) ≤ (X.ino n).links ∧ ∀ p, p < 2 → (X.ino n).prt p = part m m' n p) ∨
      ((m'.ino n).live = true ∧ (X.ino n).stamp = (m'.ino n).stamp ∧ (refs m' n : Int) ≤ (X.ino n).links ∧ ∀ p, (X.ino n).prt p = (m'.ino n).prt p) := by
    intro n hn hl
    rw [hI] at hl ⊢
    split at hl
    · rename_i hr
      rw [if_pos hr]
      have hlk : (refs m' n : Int) ≤ (inodeAs m m' n).links := by
        rw [inodeAs_links m m' n hl, both_comm]; exact Int.ofNat_le.2 (refs_le_both m' m n)
      rcases inodeAs_live_cases hl with ⟨a1, a2, a3⟩ | ⟨_, a2, _, a4, a5⟩
      · exact .inl ⟨a1, a2, hlk, a3⟩
      · exact .inr ⟨a2, a4, hlk, a5⟩
    · rename_i hr
      rw [if_neg hr]
      exact .inr ⟨hl, rfl, (ino_parts hc hn hl).2.1, fun _ => rfl⟩
  refine check_of (fun d hd s hs => ?_) (fun n hn => ?_) ?_
  · have e' := hE d s
    rcases entry_parts (h1 d hd s hs) with e0 | ⟨a1, a2, a3, a4, a5, a6, a7⟩
    · rw [e0] at e'; simp [entryFault, e', show Ent.zero.name = ⟨#[]⟩ from rfl]
    · have hj : (m'.ent d s).ino.toNat < 8 := by omega
      have hpos := refs_pos hd hs (leads_at a1 a4)
      have key : (X.ino (m'.ent d s).ino.toNat).live = true ∧ (X.ino (m'.ent d s).ino.toNat).stamp = (m'.ent d s).stamp := by
        rw [hI]
        split
        · cases hl : (m.ino (m'.ent d s).ino.toNat).live with
          | true =>
            refine ⟨by simp [inodeAs, hl], ?_⟩
            simp only [inodeAs, if_pos hl]
            by_cases hst : (m.ino (m'.ent d s).ino.toNat).stamp = (m'.ino (m'.ent d s).ino.toNat).stamp
            · rw [hst]; exact a7
            · have := (hf.1 _ hj).1 hl a6 hst; omega
          | false =>
            have hl' : ¬(m.ino (m'.ent d s).ino.toNat).live = true := by rw [hl]; simp
            have hbp : 0 < both m m' ((m'.ent d s).ino.toNat : Nat) := by
              have := refs_le_both m' m ((m'.ent d s).ino.toNat : Nat)
              rw [both_comm] at this; omega
            simp only [inodeAs, if_neg hl', if_pos (And.intro a6 hbp)]
            exact ⟨a6, a7⟩
        · exact ⟨a6, a7⟩
      exact entry_of (by rw [e']; exact a1) (by rw [e']; exact a2) (by simpa only [hE] using a3) (by rw [e']; exact a4) (by rw [e']; exact a5) (by rw [e']; exact key.1) (by rw [e']; exact key.2)
  · cases hl : (X.ino n).live with
    | false =>
      have : X.ino n = Ino.none := by
        rw [hI] at hl ⊢
        split at hl
        · rename_i hr; rw [if_pos hr]; exact (inodeAs_dead m m' n hl).1
        · rename_i hr; rw [if_neg hr]; exact dead_none hc hn hl
      exact inoFault_dead this
    | true =>
      rcases hL n hn hl with ⟨a1, a2, a3, a4⟩ | ⟨a1, a2, a3, a4⟩
      · obtain ⟨p1, _, p3⟩ := ino_parts hcm hn a1
        refine inoFault_of hl (by rw [a2]; exact p1) (by rw [hR]; exact a3) fun p hp => partFault_of ?_
        rw [a4 p hp, a2]
        rcases part_cases m m' n p with c | ⟨c1, c2, c3, c4⟩ | ⟨c1, c2, c3⟩
        · exact .inl c
        · rw [c1]; right; exact ⟨c2, c3, by rw [hD]; exact c4⟩
        · rw [c1]
          obtain ⟨_, _, q3⟩ := ino_parts hc hn c2
          rcases part_dat (q3 p hp) with r | ⟨r1, r2, r3⟩
          · exact .inl r
          · right; exact ⟨r1, r2, by rw [hD, r3, c3]⟩
      · obtain ⟨p1, _, p3⟩ := ino_parts hc hn a1
        refine inoFault_of hl (by rw [a2]; exact p1) (by rw [hR]; exact a3) fun p hp => partFault_of ?_
        rw [a4 p, a2]
        rcases part_dat (p3 p hp) with r | ⟨r1, r2, r3⟩
        · exact .inl r
        · right; exact ⟨r1, r2, by rw [hD]; exact r3⟩
  · -- none twice
    rw [← twiceR_eq]
    unfold twiceR
    rw [anyN_false]
    intro n hn
    rw [anyN_false]
    intro k hk
    rcases hb : pairBad X n k with _ | _
    · rfl
    · exfalso
      rw [pairBad_iff] at hb
      obtain ⟨b1, b2, b3⟩ := hb
      have badm : ∀ {p q}, p < 2 → q < 2 → (n ≠ k ∨ p ≠ q) → (m.ino n).live = true → (m.ino k).live = true → 0 ≤ (m.ino n).prt p → (m.ino n).prt p = (m.ino k).prt q → False := by
        intro p q hp hq hne hl hl' h0 h
        have := twice_at hn hk (pairBad_iff.2 ⟨hl, hl', .inr ⟨p, q, hp, hq, hne, h0, h⟩⟩)
        rw [g3] at this; exact absurd this (by simp)
      have badd : ∀ {p q}, p < 2 → q < 2 → (n ≠ k ∨ p ≠ q) → (m'.ino n).live = true → (m'.ino k).live = true → 0 ≤ (m'.ino n).prt p → (m'.ino n).prt p = (m'.ino k).prt q → False := by
        intro p q hp hq hne hl hl' h0 h
        have := twice_at hn hk (pairBad_iff.2 ⟨hl, hl', .inr ⟨p, q, hp, hq, hne, h0, h⟩⟩)
        rw [h3] at this; exact absurd this (by simp)
      rcases b3 with ⟨hne, hst⟩ | ⟨p, q, hp, hq, hne, h0, hpq⟩
      · rcases hL n hn b1 with ⟨a1, a2, _, _⟩ | ⟨a1, a2, _, _⟩ <;> rcases hL k hk b2 with ⟨c1, c2, _, _⟩ | ⟨c1, c2, _, _⟩
        · have := twice_at hn hk (pairBad_iff.2 ⟨a1, c1, .inl ⟨hne, by rw [← a2, ← c2]; exact hst⟩⟩)
          rw [g3] at this; exact absurd this (by simp)
        · exact (hf.1 n hn).2.1 k hk (fun h => hne h.symm) a1 c1 (by rw [← a2, ← c2]; exact hst.symm)
        · exact (hf.1 k hk).2.1 n hn hne c1 a1 (by rw [← a2, ← c2]; exact hst)
        · have := twice_at hn hk (pairBad_iff.2 ⟨a1, c1, .inl ⟨hne, by rw [← a2, ← c2]; exact hst⟩⟩)
          rw [h3] at this; exact absurd this (by simp)
      · -- each part is from what is to be, or from the disk
        have src : ∀ i a, i < 8 → a < 2 → (X.ino i).live = true → 0 ≤ (X.ino i).prt a → ((m.ino i).live = true ∧ (X.ino i).prt a = (m.ino i).prt a) ∨ ((m'.ino i).live = true ∧ (X.ino i).prt a = (m'.ino i).prt a) := by
          intro i a hi ha hl h0
          rcases hL i hi hl with ⟨a1, _, _, a4⟩ | ⟨a1, _, _, a4⟩
          · rw [a4 a ha] at h0 ⊢
            rcases part_cases m m' i a with c | ⟨c1, _, _, _⟩ | ⟨c1, c2, _⟩
            · omega
            · exact .inl ⟨a1, c1⟩
            · exact .inr ⟨c2, c1⟩
          · exact .inr ⟨a1, a4 a⟩
        rcases src n p hn hp b1 h0 with ⟨s1, s2⟩ | ⟨s1, s2⟩ <;> rcases src k q hk hq b2 (by omega) with ⟨t1, t2⟩ | ⟨t1, t2⟩
        · exact badm hp hq hne s1 t1 (by omega) (by omega)
        · obtain ⟨u1, u2, _⟩ := (hf.1 n hn).2.2 p hp s1 (by omega) k hk q hq t1 (by omega)
          omega
        · obtain ⟨u1, u2, _⟩ := (hf.1 k hk).2.2 q hq t1 (by omega) n hn p hp s1 (by omega)
          omega
        · exact badd hp hq hne s1 t1 (by omega) (by omega)
theorem mends_dir {m m' : Img} (hc : check m' = 0) (he : exact m = true) (hf : Fits m m') {d0 : Nat} (hd0 : d0 < 3) : check (wrDir m m' d0 4) = 0 := by
  obtain ⟨hcm, hem⟩ := exact_parts he
  obtain ⟨h1, h2, h3⟩ := check_parts hc
  obtain ⟨g1, g2, g3⟩ := check_parts hcm
  obtain ⟨i1, i2, i3, i4, i5, i6⟩ := wrDir_ok m m' hd0 4 (Nat.le_refl _)
  generalize wrDir m m' d0 4 = X at *
  refine check_of (fun d hd s hs => ?_) (fun n hn => ?_) ?_
  · -- each slot is as on the disk, or none, or as it is to be
    have slot : ∀ t, t < 4 → X.ent d t = m'.ent d t ∨ X.ent d t = Ent.zero ∨ (X.ent d t = m.ent d t ∧ 0 ≤ (m.ent d t).ino ∧ (m.ent d t).ino < 8 ∧ (m'.ino (m.ent d t).ino.toNat).live = true ∧ (m'.ino (m.ent d t).ino.toNat).stamp = (m.ent d t).stamp) := by
      intro t ht
      by_cases e : d = d0
      · subst e; exact i4 t ht
      · exact .inl (i3 d t hd ht (.inl e))
    have uniq : ∀ k, k < s → ¬(X.ent d s).name = ⟨#[]⟩ → ¬(X.ent d k).name = (X.ent d s).name := by
      intro k hk hne heq
      have hk4 : k < 4 := by omega
      rcases slot s hs with a | a | ⟨a, _⟩ <;> rcases slot k hk4 with b | b | ⟨b, _⟩ <;> rw [a] at hne heq <;> rw [b] at heq
      · rcases entry_parts (h1 d hd s hs) with e0 | ⟨_, _, a3, _⟩
        · rw [e0] at hne; exact hne rfl
        · have := anyN_false.1 a3 k hk; simp [heq] at this
      · exact hne heq.symm
      · exact (hf.2.2 d hd k hk4).2 s hs (by omega) (by rw [heq]; exact hne) heq.symm
      · exact absurd rfl hne
      · exact absurd rfl hne
      · exact absurd rfl hne
      · exact (hf.2.2 d hd s hs).2 k hk4 (by omega) hne heq
      · exact hne heq.symm
      · rcases entry_parts (g1 d hd s hs) with e0 | ⟨_, _, a3, _⟩
        · rw [e0] at hne; exact hne rfl
        · have := anyN_false.1 a3 k hk; simp [heq] at this
    have any : ¬(X.ent d s).name = ⟨#[]⟩ → anyN s (fun k => decide ((X.ent d k).name = (X.ent d s).name)) = false := fun hne => anyN_false.2 fun k hk => by simpa using uniq k hk hne
    rcases slot s hs with a | a | ⟨a, b1, b2, b3, b4⟩
    · rcases entry_parts (h1 d hd s hs) with e0 | ⟨a1, a2, a3, a4, a5, a6, a7⟩
      · rw [e0] at a; simp [entryFault, a, show Ent.zero.name = ⟨#[]⟩ from rfl]
      · exact entry_of (by rw [a]; exact a1) (by rw [a]; exact a2) (any (by rw [a]; exact a1)) (by rw [a]; exact a4) (by rw [a]; exact a5) (by rw [a, i1]; exact a6) (by rw [a, i1]; exact a7)
    · simp [entryFault, a, show Ent.zero.name = ⟨#[]⟩ from rfl]
    · rcases entry_parts (g1 d hd s hs) with e0 | ⟨a1, a2, a3, a4, a5, a6, a7⟩
      · rw [e0] at a; simp [entryFault, a, show Ent.zero.name = ⟨#[]⟩ from rfl]
      · exact entry_of (by rw [a]; exact a1) (by rw [a]; exact a2) (any (by rw [a]; exact a1)) (by rw [a]; exact a4) (by rw [a]; exact a5) (by rw [a, i1]; exact b3) (by rw [a, i1]; exact b4)
  · cases hl : (m'.ino n).live with
    | false => exact inoFault_dead (by rw [i1]; exact dead_none hc hn hl)
    | true =>
      obtain ⟨p1, p2, p3⟩ := ino_parts hc hn hl
      refine inoFault_of (by rw [i1]; exact hl) (by rw [i1]; exact p1) ?_ fun p hp => ?_
      · rw [i1]
        rcases i6 n with h | ⟨_, h⟩
        · omega
        · exact h
      · rw [i1]
        rcases part_dat (p3 p hp) with r | ⟨r1, r2, r3⟩
        · exact partFault_of (.inl r)
        · exact partFault_of (.inr ⟨r1, r2, by rw [i2]; exact r3⟩)
  · rw [← h3]; exact twice_ino i1
theorem write_mends {m m' : Img} (hc : check m' = 0) (he : exact m = true) (hf : Fits m m') (b : Int) : check (writeAs m m' b).1 = 0 := by
  obtain ⟨n, hn, e⟩ | ⟨n, hn, e⟩ | ⟨n, hn, e⟩ | e := blockOf_cases b
  · rw [writeAs_i e]; exact mends_inodes hc he hf hn
  · rw [writeAs_d e]; exact mends_dir hc he hf hn
  · rw [writeAs_a e]; exact mends_data hc hf hn
  · rw [writeAs_n e]; exact hc
end Go.Mini

namespace Go.Mini
set_option linter.unusedSimpArgs false
set_option linter.unusedVariables false
set_option maxHeartbeats 4000000
set_option maxRecDepth 100000
@[go_sem] theorem st_id : decide (sInodes = ⟨#[100, 105, 114]⟩) = false := by decide
@[go_sem] theorem st_ia : decide (sInodes = ⟨#[100, 97, 116, 97]⟩) = false := by decide
@[go_sem] theorem st_da : decide (sDir = ⟨#[100, 97, 116, 97]⟩) = false := by decide
end Go.Mini

namespace Go.Mini
set_option linter.unusedSimpArgs false
set_option linter.unusedVariables false
set_option maxHeartbeats 4000000
set_option maxRecDepth 100000
def encC (a b : Img) : AV := .cons a.enc (.cons b.enc .unit)
theorem fits_cache' (a b : Img) : tCache.fits (encC a b) = true := by
  show (Ty.cons tImage (.cons tImage .unit)).fits (AV.cons _ (.cons _ .unit)) = true
  simp only [fits_cons, fits_unit, fits_img', and_self]
@[go_sem] theorem fits_cache (a b : Img) : (tCache.fits (encC a b) = true) = True := eq_true (fits_cache' a b)
@[go_sem] theorem at_cache0 (a b : Img) (p : List Nat) : (encC a b).at (0 :: p) = a.enc.at p := rfl
@[go_sem] theorem at_cache1 (a b : Img) (p : List Nat) : (encC a b).at (1 :: p) = b.enc.at p := rfl
theorem put_cache0 (a b x : Img) : (encC a b).put [0] x.enc = some (encC x b) := by
  show (AV.put a.enc [] x.enc).map (fun y => AV.cons y (.cons b.enc .unit)) = _
  rw [put_nil]; rfl
theorem put_cache1 (a b x : Img) : (encC a b).put [1] x.enc = some (encC a x) := by
  show ((AV.put b.enc [] x.enc).map (fun y => AV.cons y .unit)).map (fun y => AV.cons a.enc y) = _
  rw [put_nil]; rfl
@[go_sem] theorem field_cache0 : tCache.field 0 = some tImage := rfl
@[go_sem] theorem field_cache1 : tCache.field 1 = some tImage := rfl
theorem zero_cache : tCache.zero = encC Img.zero Img.zero := by
  show AV.cons tImage.zero (.cons tImage.zero .unit) = _
  rw [zero_img]; rfl
@[go_sem] theorem fill_cache (a b : Img) : fill tCache tCache.zero [(0, a.enc), (1, b.enc)] = some (encC a b) := by
  rw [zero_cache]
  simp only [fill]
  show (if tImage.fits a.enc = true then _ else _) = _
  rw [if_pos (fits_img' a), put_cache0]
  show (if tImage.fits b.enc = true then _ else _) = _
  rw [if_pos (fits_img' b), put_cache1]
@[go_sem] theorem fg_cache (a b : Img) (i : Id) : fg (encC a b) i = encC a b := rfl
@[go_sem] theorem leads_cache (a b : Img) (i : Id) : (encC a b).leads i = false := rfl
@[go_sem] theorem isAgg_cache (a b : Img) : (encC a b).isAgg = true := rfl
def HP.cs (h : HP) (n : Nat) (a b : Img) : HP := h.set (.obj n) ⟨tCache, encC a b⟩
def HP.mk1 (h : HP) (a b : Img) : HP := { h.cs h.next a b with next := h.next + 1 }
theorem look_cs (h : HP) (n : Nat) (a b : Img) : (h.cs n a b).look (.obj n) = some ⟨tCache, encC a b⟩ := by simp [HP.cs, HP.set, HP.look]
theorem cs_cs (h : HP) (n : Nat) (a b c d : Img) : (h.cs n a b).cs n c d = h.cs n c d := by
  simp only [HP.cs, HP.set]; congr 1; funext k; by_cases e : k = n <;> simp [e]
theorem push_cs (h : HP) (l n : Nat) (o : Own) (a b : Img) : (h.push l o).cs n a b = (h.cs n a b).push l o := rfl
theorem push_look_obj (h : HP) (l n : Nat) (o : Own) : (h.push l o).look (.obj n) = h.look (.obj n) := rfl
theorem HP.rd0 {h : HP} {i : Id} {a : Nat} {v : AV} (hm : h.rd i [a] = some v) (r : List Nat) : h.rd i (a :: r) = v.at r := HP.rd_app hm r
theorem rd_of {h : HP} {n : Nat} {a b : Img} (h0 : h.look (.obj n) = some ⟨tCache, encC a b⟩) : h.rd (.obj n) [0] = some a.enc ∧ h.rd (.obj n) [1] = some b.enc := by
  simp only [HP.rd, h0, Option.bind_some, at_cache0, at_cache1, at_nil, and_self]
section
variable {T : Nat → Option MFun} {cx : Cx} {k : List Item} {kill : List Nat} {r : List MOp} {sl : Slots} {own : Own} {h : HP} {Q : St → Prop}
theorem W_callh {prot : Bool} {f : Nat} {args : List Opd} {d : Option Nat} {fn : MFun} {v : AV} (h1 : HP) (hf : T f = some fn) (hp : fn.params = args.length ∧ fn.nfree = 0) (hs : h1.stk = h.stk)
    (hc : Ok T (St.callCx ⟨sl, own, h⟩ cx prot) fn (St.enter (args.map (St.opd ⟨sl, own, h⟩)) (h.push cx.lvl own)) fun v' h' => v' = v ∧ h' = h1.push cx.lvl own)
    (hq : W T cx (.ops r kill :: k) (St.setd ⟨sl, own, h1⟩ d v) Q) :
    W T cx (.ops (⟨d, .call prot [] f args, none⟩ :: r) kill :: k) ⟨sl, own, h⟩ Q := by
  refine W_callr hf hp hc ?_
  rintro v h' ⟨rfl, rfl⟩
  have : St.pop ⟨sl, own, h⟩ cx.lvl [] (h1.push cx.lvl own) = ⟨sl, own, h1⟩ := by
    simp only [St.pop, HP.pop, HP.push, Own.unveil, if_true]
    congr 1
    cases h1
    simp only at hs
    subst hs
    simp only [HP.mk.injEq, and_true]
    funext l
    by_cases hl : l = cx.lvl <;> simp [hl]
  rw [this]; exact hq
theorem W_callhide {prot : Bool} {hide : List Nat} {f : Nat} {args : List Opd} {d : Option Nat} {fn : MFun} {v : AV} (hf : T f = some fn) (hp : fn.params = args.length ∧ fn.nfree = 0)
    (hc : Ok T (St.callCx ⟨sl, [], h⟩ cx prot) fn (St.enter (args.map (St.opd ⟨sl, [], h⟩)) (h.push cx.lvl [])) fun v' h' => v' = v ∧ h' = h.push cx.lvl [])
    (hq : W T cx (.ops r kill :: k) (St.setd ⟨sl, [], h⟩ d v) Q) :
    W T cx (.ops (⟨d, .call prot hide f args, none⟩ :: r) kill :: k) ⟨sl, [], h⟩ Q := by
  have e : Own.veil [] hide = [] := by cases hide <;> rfl
  refine W_callr (R := fun v' h' => v' = v ∧ h' = h.push cx.lvl []) hf hp (by rw [e]; exact hc) ?_
  rintro v h' ⟨rfl, rfl⟩
  have : St.pop ⟨sl, [], h⟩ cx.lvl hide (h.push cx.lvl []) = ⟨sl, [], h⟩ := by
    simp only [St.pop, HP.pop, HP.push, if_true]
    have e2 : Own.unveil [] [] hide = [] := by cases hide <;> rfl
    rw [e2]
    congr 1
    cases h
    simp only [HP.mk.injEq, and_true]
    funext l
    by_cases hl : l = cx.lvl <;> simp [hl]
  rw [this]; exact hq
def WBT (T : Nat → Option MFun) (cx : Cx) (v : AV) (d : Nat) (r : List MOp) (kill : List Nat) (k : List Item) (sl : Slots) (own : Own) (h : HP) (Q : St → Prop) : Prop :=
  tCache.fits v = true ∧ W T cx (.ops r kill :: k) ⟨sl.set d (.ptr (.obj h.next) [] tCache), own, { h with obj := fun n => if n = h.next then some ⟨tCache, v⟩ else h.obj n, next := h.next + 1 }⟩ Q
@[go_sem] theorem WBT_enc {a b : Img} {d : Nat} : WBT T cx (encC a b) d r kill k sl own h Q = W T cx (.ops r kill :: k) ⟨sl.set d (.ptr (.obj h.next) [] tCache), own, h.mk1 a b⟩ Q := by
  simp only [WBT, fits_cache, true_and]
  rfl
@[go_sem] theorem W_boxT {d : Nat} {x : Opd} : W T cx (.ops (⟨some d, .box true tCache x, none⟩ :: r) kill :: k) ⟨sl, own, h⟩ Q = WBT T cx (St.opd ⟨sl, own, h⟩ x) d r kill k sl own h Q := by
  rw [W_op rfl, evOp]
  simp only [evK, WBT]
  by_cases h1 : tCache.fits (St.opd ⟨sl, own, h⟩ x) = true
  · simp only [h1, true_and, if_true]; rfl
  · simp only [h1, false_and, Bool.false_eq_true, if_false]; rfl
theorem stV_cache1 {n : Nat} {a b x : Img} (hm : h.look (.obj n) = some ⟨tCache, encC a b⟩) (hl : cx.prot.lets (.obj n) = true) : stV cx tImage (.ptr (.obj n) [1] tImage) x.enc ⟨sl, own, h⟩ = some ⟨sl, own, h.cs n a x⟩ := by
  simp only [stV, fits_img', and_self, if_true, St.look, Id.own, hm, put_cache1, St.write, hl]
  rfl
@[go_sem] theorem eqV_nilp (neg : Bool) (n : Nat) (t : Ty) : eqV tP neg (.ptr (.obj n) [] t) .nilp = some (.bool neg) := by cases neg <;> rfl
@[go_sem] theorem eqV_nilnil (neg : Bool) : eqV tP neg .nilp .nilp = some (.bool (!neg)) := by cases neg <;> rfl
@[go_sem] theorem safe_ptrobj (n : Nat) (p : List Nat) (t : Ty) : (AV.ptr (.obj n) p t).safe = true := rfl
@[go_sem] theorem safe_nilp : AV.nilp.safe = true := rfl
@[go_sem] theorem callCx_prot (s : St) : (s.callCx cx false).prot = cx.prot := rfl
end
section
variable {cx : Cx} {h : HP} {n : Nat} {a b : Img}
theorem CNew_ok : Ok tblB cx Fn.cache_New (St.enter [] h) fun v h' => v = .ptr (.obj h.next) [] tCache ∧ h' = h.mk1 Img.blank Img.blank := by
  rw [Ok_eq]
  simp (config := { maxSteps := 1000000 }) (disch := omega) only [go_sem]
  refine W_callp rfl ⟨rfl, rfl⟩ (by simp only [go_sem]; exact up (New_ok)) ?_
  simp (config := { maxSteps := 1000000 }) (disch := omega) only [go_sem]
  refine W_callp rfl ⟨rfl, rfl⟩ (by simp only [go_sem]; exact up (New_ok)) ?_
  simp (config := { maxSteps := 1000000 }) (disch := omega) only [go_sem]
theorem COf_ok {m : Img} (hs : m.small) (hc : check m = 0) : Ok tblB cx Fn.cache_Of (St.enter [m.enc] h) fun v h' => v = .ptr (.obj h.next) [] tCache ∧ h' = h.mk1 m m := by
  rw [Ok_eq]
  simp (config := { maxSteps := 1000000 }) (disch := omega) only [go_sem]
  refine W_callp rfl ⟨rfl, rfl⟩ (by simp only [go_sem]; exact up (Check_ok (m := m) hs (below_stk _ _) (by simp only [go_sem, HP.push_rd_own]))) ?_
  simp (config := { maxSteps := 1000000 }) (disch := omega) only [go_sem, hc]
theorem COf_no {m : Img} (hs : m.small) (hc : ¬check m = 0) : Ok tblB cx Fn.cache_Of (St.enter [m.enc] h) fun v h' => v = .nilp ∧ h' = h := by
  rw [Ok_eq]
  simp (config := { maxSteps := 1000000 }) (disch := omega) only [go_sem]
  refine W_callp rfl ⟨rfl, rfl⟩ (by simp only [go_sem]; exact up (Check_ok (m := m) hs (below_stk _ _) (by simp only [go_sem, HP.push_rd_own]))) ?_
  simp (config := { maxSteps := 1000000 }) (disch := omega) only [go_sem, hc]
theorem CDisk_ok (hm : h.rd (.obj n) [0] = some a.enc) (hm' : h.rd (.obj n) [1] = some b.enc) : Ok tblB cx Fn.cache_Cache_Disk (St.enter [.ptr (.obj n) [] tCache] h) fun v h' => v = b.enc ∧ h' = h := by
  rw [Ok_eq]
  simp (config := { maxSteps := 1000000 }) (disch := omega) only [go_sem, rd_ext (below_obj _ _), HP.rd0 hm, HP.rd0 hm', fg_ptr (below_obj _ _), leads_ptr (below_obj _ _), apart_ptr (below_obj _ _), hm']
theorem CClean_ok (hm : h.rd (.obj n) [0] = some a.enc) (hm' : h.rd (.obj n) [1] = some b.enc) : Ok tblB cx Fn.cache_Cache_Clean (St.enter [.ptr (.obj n) [] tCache] h) fun v h' => v = .bool (decide (a = b)) ∧ h' = h := by
  rw [Ok_eq]
  simp (config := { maxSteps := 1000000 }) (disch := omega) only [go_sem, rd_ext (below_obj _ _), HP.rd0 hm, HP.rd0 hm', fg_ptr (below_obj _ _), leads_ptr (below_obj _ _), apart_ptr (below_obj _ _), hm, hm']
theorem CWrite_ok {x : Int} (h0 : h.look (.obj n) = some ⟨tCache, encC a b⟩) (hl : cx.prot.lets (.obj n) = true) :
    Ok tblB cx Fn.cache_Cache_Write (St.enter [.ptr (.obj n) [] tCache, .int .i64 x] h) fun v h' => v = .bool (writeAs a b x).2 ∧ h' = h.cs n a (writeAs a b x).1 := by
  obtain ⟨hm, hm'⟩ := rd_of h0
  rw [Ok_eq]
  simp (config := { maxSteps := 1000000 }) (disch := omega) only [go_sem, rd_ext (below_obj _ _), HP.rd0 hm, HP.rd0 hm', fg_ptr (below_obj _ _), leads_ptr (below_obj _ _), apart_ptr (below_obj _ _)]
  refine W_callhide rfl ⟨rfl, rfl⟩ (by simp only [go_sem]; exact up (Write_ok (m := a) (m' := b) (p := .obj n) (p' := .obj n) (q := [0]) (q' := [1]) (below_obj _ _) (by rw [HP.push_rd_ext (below_obj _ _)]; exact hm) (below_obj _ _) (by rw [HP.push_rd_ext (below_obj _ _)]; exact hm'))) ?_
  simp (config := { maxSteps := 1000000 }) (disch := omega) only [go_sem, rd_ext (below_obj _ _), HP.rd0 hm, HP.rd0 hm', fg_ptr (below_obj _ _), leads_ptr (below_obj _ _), apart_ptr (below_obj _ _), stV_cache1 h0 hl]
theorem CInode_ok (hm : h.rd (.obj n) [0] = some a.enc) (hm' : h.rd (.obj n) [1] = some b.enc) :
    Ok tblB cx Fn.cache_Cache_Inode (St.enter [.ptr (.obj n) [] tCache] h) fun v h' => v = .int .i64 (findN 8 fun k => !(a.ino k).live && decide (refs b k = 0)) ∧ h' = h := by
  rw [Ok_eq]
  simp (config := { maxSteps := 1000000 }) (disch := omega) only [go_sem, rd_ext (below_obj _ _), HP.rd0 hm, HP.rd0 hm', fg_ptr (below_obj _ _), leads_ptr (below_obj _ _), apart_ptr (below_obj _ _)]
  refine W_forP 8 (fun k => ⟨[(0, .ptr (.obj n) [] tCache), (9, encV Ino.enc a.inode), (10, .int .i64 k)], [], h⟩) (fun k => ∀ i, i < k → (!(a.ino i).live && decide (refs b i = 0)) = false) (by simp only [go_sem] <;> rfl) (fun i hi => by omega) fun k hk hp ih => ?_
  by_cases hlt : k < 8
  · simp (config := { maxSteps := 1000000 }) (disch := omega) only [go_sem, hlt, rd_ext (below_obj _ _), HP.rd0 hm, HP.rd0 hm', fg_ptr (below_obj _ _), leads_ptr (below_obj _ _), apart_ptr (below_obj _ _)]
    cases c1 : (a.ino k).live with
    | true =>
      simp (config := { maxSteps := 1000000 }) (disch := omega) only [go_sem, c1]
      refine ih _ hlt (step_all hp (by simp [c1])) ?_
      simp only [go_sem]
    | false =>
      simp (config := { maxSteps := 1000000 }) (disch := omega) only [go_sem, c1, rd_ext (below_obj _ _), HP.rd0 hm, HP.rd0 hm', fg_ptr (below_obj _ _), leads_ptr (below_obj _ _), apart_ptr (below_obj _ _)]
      refine W_callp rfl ⟨rfl, rfl⟩ (by simp only [go_sem]; exact up (Refs_ok (m := b) (p := .obj n) (q := [1]) (below_obj _ _) (by rw [HP.push_rd_ext (below_obj _ _)]; exact hm'))) ?_
      simp (config := { maxSteps := 1000000 }) (disch := omega) only [go_sem]
      by_cases c2 : refs b k = 0
      · simp (config := { maxSteps := 1000000 }) (disch := omega) only [go_sem, c2]
        rw [findN_at hp (by simp [c1, c2]) hlt]
      · simp (config := { maxSteps := 1000000 }) (disch := omega) only [go_sem, c2]
        refine ih _ hlt (step_all hp (by simp [c1, c2])) ?_
        simp only [go_sem]
  · obtain rfl : k = 8 := by omega
    simp (config := { maxSteps := 1000000 }) (disch := omega) only [go_sem]
    rw [findN_none hp]
def freeSlot (a b : Img) (d : Int) : Int := if d < 0 ∨ 3 ≤ d then -1 else findN 4 fun s => decide ((a.ent d.toNat s).name = ⟨#[]⟩) && decide ((b.ent d.toNat s).name = ⟨#[]⟩)
theorem CSlot_ok {d : Int} (hm : h.rd (.obj n) [0] = some a.enc) (hm' : h.rd (.obj n) [1] = some b.enc) :
    Ok tblB cx Fn.cache_Cache_Slot (St.enter [.ptr (.obj n) [] tCache, .int .i64 d] h) fun v h' => v = .int .i64 (freeSlot a b d) ∧ h' = h := by
  rw [Ok_eq]
  simp (config := { maxSteps := 1000000 }) (disch := omega) only [go_sem, rd_ext (below_obj _ _), HP.rd0 hm, HP.rd0 hm', fg_ptr (below_obj _ _), leads_ptr (below_obj _ _), apart_ptr (below_obj _ _)]
  by_cases c0 : d < 0
  · simp (config := { maxSteps := 1000000 }) (disch := omega) only [go_sem, c0]; simp [freeSlot, c0]
  by_cases c3 : 3 ≤ d
  · simp (config := { maxSteps := 1000000 }) (disch := omega) only [go_sem, c0, c3]; simp [freeSlot, c3]
  have e : freeSlot a b d = findN 4 fun s => decide ((a.ent d.toNat s).name = ⟨#[]⟩) && decide ((b.ent d.toNat s).name = ⟨#[]⟩) := by simp only [freeSlot]; rw [if_neg (by omega)]
  simp (config := { maxSteps := 1000000 }) (disch := omega) only [go_sem, c0, c3]
  refine W_forP 4 (fun s => ⟨[(0, .ptr (.obj n) [] tCache), (1, .int .i64 d), (12, .int .i64 s)], [], h⟩) (fun s => ∀ i, i < s → (decide ((a.ent d.toNat i).name = ⟨#[]⟩) && decide ((b.ent d.toNat i).name = ⟨#[]⟩)) = false) (by simp only [go_sem] <;> rfl) (fun i hi => by omega) fun s hs hp ih => ?_
  by_cases hlt : s < 4
  · simp (config := { maxSteps := 1000000 }) (disch := omega) only [go_sem, hlt, c0, c3, rd_ext (below_obj _ _), HP.rd0 hm, HP.rd0 hm', fg_ptr (below_obj _ _), leads_ptr (below_obj _ _), apart_ptr (below_obj _ _)]
    by_cases c1 : (a.ent d.toNat s).name = ⟨#[]⟩
    · by_cases c2 : (b.ent d.toNat s).name = ⟨#[]⟩
      · simp (config := { maxSteps := 1000000 }) (disch := omega) only [go_sem, hlt, c0, c3, c1, c2, rd_ext (below_obj _ _), HP.rd0 hm, HP.rd0 hm', fg_ptr (below_obj _ _), leads_ptr (below_obj _ _), apart_ptr (below_obj _ _), e]
        rw [findN_at hp (by simp [c1, c2]) hlt]
      · simp (config := { maxSteps := 1000000 }) (disch := omega) only [go_sem, hlt, c0, c3, c1, c2, rd_ext (below_obj _ _), HP.rd0 hm, HP.rd0 hm', fg_ptr (below_obj _ _), leads_ptr (below_obj _ _), apart_ptr (below_obj _ _)]
        refine ih _ hlt (step_all hp (by simp [c2])) ?_
        simp only [go_sem]
    · simp (config := { maxSteps := 1000000 }) (disch := omega) only [go_sem, c1]
      refine ih _ hlt (step_all hp (by simp [c1])) ?_
      simp only [go_sem]
  · obtain rfl : s = 4 := by omega
    simp (config := { maxSteps := 1000000 }) (disch := omega) only [go_sem, e]
    rw [findN_none hp]
theorem CData_ok (hm : h.rd (.obj n) [0] = some a.enc) (hm' : h.rd (.obj n) [1] = some b.enc) :
    Ok tblB cx Fn.cache_Cache_Data (St.enter [.ptr (.obj n) [] tCache] h) fun v h' => v = .int .i64 (findN 9 fun x => !held a x && !held b x) ∧ h' = h := by
  rw [Ok_eq]
  simp (config := { maxSteps := 1000000 }) (disch := omega) only [go_sem, rd_ext (below_obj _ _), HP.rd0 hm, HP.rd0 hm', fg_ptr (below_obj _ _), leads_ptr (below_obj _ _), apart_ptr (below_obj _ _)]
  refine W_forP 9 (fun k => ⟨[(0, .ptr (.obj n) [] tCache), (4, .int .i64 k)], [], h⟩) (fun k => ∀ i, i < k → (!held a i && !held b i) = false) (by simp only [go_sem] <;> rfl) (fun i hi => by omega) fun k hk hp ih => ?_
  by_cases hlt : k < 9
  · simp (config := { maxSteps := 1000000 }) (disch := omega) only [go_sem, hlt, rd_ext (below_obj _ _), HP.rd0 hm, HP.rd0 hm', fg_ptr (below_obj _ _), leads_ptr (below_obj _ _), apart_ptr (below_obj _ _)]
    refine W_callp rfl ⟨rfl, rfl⟩ (by simp only [go_sem]; exact up (Holds_ok (m := a) (p := .obj n) (q := [0]) (below_obj _ _) (by rw [HP.push_rd_ext (below_obj _ _)]; exact hm))) ?_
    simp (config := { maxSteps := 1000000 }) (disch := omega) only [go_sem]
    cases c1 : held a k with
    | true =>
      simp (config := { maxSteps := 1000000 }) (disch := omega) only [go_sem, c1]
      refine ih _ hlt (step_all hp (by simp [c1])) ?_
      simp only [go_sem]
    | false =>
      simp (config := { maxSteps := 1000000 }) (disch := omega) only [go_sem, c1, rd_ext (below_obj _ _), HP.rd0 hm, HP.rd0 hm', fg_ptr (below_obj _ _), leads_ptr (below_obj _ _), apart_ptr (below_obj _ _)]
      refine W_callp rfl ⟨rfl, rfl⟩ (by simp only [go_sem]; exact up (Holds_ok (m := b) (p := .obj n) (q := [1]) (below_obj _ _) (by rw [HP.push_rd_ext (below_obj _ _)]; exact hm'))) ?_
      simp (config := { maxSteps := 1000000 }) (disch := omega) only [go_sem]
      cases c2 : held b k with
      | false =>
        simp (config := { maxSteps := 1000000 }) (disch := omega) only [go_sem, c2]
        rw [findN_at hp (by simp [c1, c2]) hlt]
      | true =>
        simp (config := { maxSteps := 1000000 }) (disch := omega) only [go_sem, c2]
        refine ih _ hlt (step_all hp (by simp [c1, c2])) ?_
        simp only [go_sem]
  · obtain rfl : k = 9 := by omega
    simp (config := { maxSteps := 1000000 }) (disch := omega) only [go_sem]
    rw [findN_none hp]
end
end Go.Mini

namespace Go.Mini
set_option linter.unusedSimpArgs false
set_option linter.unusedVariables false
set_option maxHeartbeats 4000000
set_option maxRecDepth 100000
def dirty (a b : Img) (x : Int) : Bool :=
  if (blockOf x).1 = sInodes then anyN 4 fun j => !decide (a.ino ((blockOf x).2.toNat + j) = b.ino ((blockOf x).2.toNat + j))
  else if (blockOf x).1 = sDir then anyN 4 fun s => !decide (a.ent (blockOf x).2.toNat s = b.ent (blockOf x).2.toNat s)
  else if (blockOf x).1 = sData then !decide (a.dat (blockOf x).2.toNat = b.dat (blockOf x).2.toNat)
  else false
section
variable {a b : Img} {x : Int} {n : Nat}
theorem dirty_i (e : blockOf x = (sInodes, (n : Int))) : dirty a b x = anyN 4 fun j => !decide (a.ino (n + j) = b.ino (n + j)) := by simp only [dirty, e, if_true, Int.toNat_natCast]
theorem dirty_d (e : blockOf x = (sDir, (n : Int))) : dirty a b x = anyN 4 fun s => !decide (a.ent n s = b.ent n s) := by simp only [dirty, e, if_true, if_false, ne_di, Int.toNat_natCast]
theorem dirty_a (e : blockOf x = (sData, (n : Int))) : dirty a b x = !decide (a.dat n = b.dat n) := by simp only [dirty, e, if_true, if_false, ne_ai, ne_ad, Int.toNat_natCast]
theorem dirty_n (e : blockOf x = (sNone, 0)) : dirty a b x = false := by simp only [dirty, e, if_false, ne_ni, ne_nd, ne_na]
end
theorem row_eq (a b : Img) {n : Nat} (hn : n < 3) : (decide (a.dir[n]'hn = b.dir[n]'hn)) = !anyN 4 fun s => !decide (a.ent n s = b.ent n s) := by
  rw [Bool.eq_iff_iff, decide_eq_true_eq, Bool.not_eq_true', anyN_false]
  constructor
  · intro h s hs
    have : a.ent n s = b.ent n s := by simp [Img.ent, hn, hs, h]
    simp [this]
  · intro h
    ext s hs : 1
    have := h s hs
    simpa [Img.ent, hn, hs] using this
theorem clean_iff (a b : Img) : (a = b) ↔ ∀ k : Nat, k < 14 → dirty a b k = false := by
  have bi : ∀ k : Nat, k < 2 → blockOf (k : Int) = (sInodes, ((k * 4 : Nat) : Int)) := fun k hk => by
    unfold blockOf; rw [if_neg (by omega), if_pos (by omega)]; congr 1
  have bd : ∀ k : Nat, k < 3 → blockOf ((k + 2 : Nat) : Int) = (sDir, (k : Int)) := fun k hk => by
    unfold blockOf; rw [if_neg (by omega), if_neg (by omega), if_pos (by omega)]; congr 1; omega
  have ba : ∀ k : Nat, k < 9 → blockOf ((k + 5 : Nat) : Int) = (sData, (k : Int)) := fun k hk => by
    unfold blockOf; rw [if_neg (by omega), if_neg (by omega), if_neg (by omega)]; congr 1; omega
  constructor
  · rintro rfl k hk
    obtain ⟨n, _, e⟩ | ⟨n, _, e⟩ | ⟨n, _, e⟩ | e := blockOf_cases (k : Int)
    · rw [dirty_i e, anyN_false]; intro i _; simp
    · rw [dirty_d e, anyN_false]; intro i _; simp
    · rw [dirty_a e]; simp
    · exact dirty_n e
  · intro h
    refine Img.ext_of (fun n hn => ?_) (fun d s hd hs => ?_) (fun x hx => ?_)
    · have := h (n / 4) (by omega)
      rw [dirty_i (bi (n / 4) (by omega)), anyN_false] at this
      have := this (n % 4) (by omega)
      rw [show n / 4 * 4 + n % 4 = n by omega] at this
      simpa using this
    · have := h (d + 2) (by omega)
      rw [dirty_d (bd d hd), anyN_false] at this
      simpa using this s hs
    · have := h (x + 5) (by omega)
      rw [dirty_a (ba x hx)] at this
      simpa using this
def wrDown (a b : Img) : Nat → Img
  | 0 => b
  | k + 1 => (writeAs a (wrDown a b k) (13 - (k : Int))).1
def syncD (a b : Img) : Nat → Img
  | 0 => b
  | k + 1 => wrDown a (syncD a b k) 14
section
variable {cx : Cx} {h : HP} {n : Nat} {a b : Img}
theorem CDirty_ok {x : Int} (hm : h.rd (.obj n) [0] = some a.enc) (hm' : h.rd (.obj n) [1] = some b.enc) :
    Ok tblB cx Fn.cache_Cache_Dirty (St.enter [.ptr (.obj n) [] tCache, .int .i64 x] h) fun v h' => v = .bool (dirty a b x) ∧ h' = h := by
  rw [Ok_eq]
  simp (config := { maxSteps := 1000000 }) (disch := omega) only [go_sem]
  refine W_callp rfl ⟨rfl, rfl⟩ (by simp only [go_sem]; exact up (Block_ok)) ?_
  simp (config := { maxSteps := 1000000 }) (disch := omega) only [go_sem]
  obtain ⟨k, hk, e⟩ | ⟨k, hk, e⟩ | ⟨k, hk, e⟩ | e := blockOf_cases x
  · simp (config := { maxSteps := 1000000 }) (disch := omega) only [go_sem, e]
    refine W_forP 4 (fun j => ⟨[(0, .ptr (.obj n) [] tCache), (6, .int .i64 k), (7, .int .i64 (k + j : Nat))], [], h⟩) (fun j => ∀ i, i < j → (!decide (a.ino (k + i) = b.ino (k + i))) = false) (by simp only [go_sem] <;> rfl) (fun i hi => by omega) fun j hj hp ih => ?_
    by_cases hlt : j < 4
    · simp (config := { maxSteps := 1000000 }) (disch := omega) only [go_sem, hlt, rd_ext (below_obj _ _), HP.rd0 hm, HP.rd0 hm', fg_ptr (below_obj _ _), leads_ptr (below_obj _ _), apart_ptr (below_obj _ _)]
      by_cases c : a.ino (k + j) = b.ino (k + j)
      · simp (config := { maxSteps := 1000000 }) (disch := omega) only [go_sem, c]
        refine ih _ hlt (step_all hp (by simp [c])) ?_
        simp only [go_sem, Int.add_assoc]
      · simp (config := { maxSteps := 1000000 }) (disch := omega) only [go_sem, c]
        rw [dirty_i e, anyN_at hlt (by simp [c])]
    · obtain rfl : j = 4 := by omega
      simp (config := { maxSteps := 1000000 }) (disch := omega) only [go_sem]
      rw [dirty_i e, anyN_false.2 hp]
  · simp (config := { maxSteps := 1000000 }) (disch := omega) only [go_sem, e, rd_ext (below_obj _ _), HP.rd0 hm, HP.rd0 hm', fg_ptr (below_obj _ _), leads_ptr (below_obj _ _), apart_ptr (below_obj _ _), row_eq a b hk, dirty_d e, Bool.not_not]
  · simp (config := { maxSteps := 1000000 }) (disch := omega) only [go_sem, e, rd_ext (below_obj _ _), HP.rd0 hm, HP.rd0 hm', fg_ptr (below_obj _ _), leads_ptr (below_obj _ _), apart_ptr (below_obj _ _), dirty_a e]
  · simp (config := { maxSteps := 1000000 }) (disch := omega) only [go_sem, e, dirty_n e]
theorem CSync_ok (hl : cx.prot.lets (.obj n) = true) : Ok tblB cx Fn.cache_Cache_Sync (St.enter [.ptr (.obj n) [] tCache] (h.cs n a b)) fun v h' =>
    ∃ k : Nat, k ≤ 8 ∧ v = .int .i64 k ∧ h' = h.cs n a (syncD a b k) ∧ (k = 8 ∨ a = syncD a b k) ∧ ∀ i, i < k → ¬a = syncD a b i := by
  rw [Ok_eq]
  simp (config := { maxSteps := 1000000 }) (disch := omega) only [go_sem]
  refine W_forP 8 (fun j => ⟨[(0, .ptr (.obj n) [] tCache), (3, .int .i64 j)], [], h.cs n a (syncD a b j)⟩) (fun j => ∀ i, i < j → ¬a = syncD a b i) (by simp only [go_sem, syncD] <;> rfl) (fun i hi => by omega) fun j hj hp ih => ?_
  by_cases hlt : j < 8
  · obtain ⟨hm, hm'⟩ := rd_of (look_cs h n a (syncD a b j))
    simp (config := { maxSteps := 1000000 }) (disch := omega) only [go_sem]
    refine W_callp rfl ⟨rfl, rfl⟩ (by simp only [go_sem]; exact CClean_ok (a := a) (b := syncD a b j) (by rw [HP.push_rd_ext (below_obj _ _)]; exact hm) (by rw [HP.push_rd_ext (below_obj _ _)]; exact hm')) ?_
    simp (config := { maxSteps := 1000000 }) (disch := omega) only [go_sem]
    by_cases c : a = syncD a b j
    · have c' : decide (a = syncD a b j) = true := decide_eq_true c
      simp (config := { maxSteps := 1000000 }) (disch := omega) only [go_sem, c']
      exact ⟨j, hj, rfl, rfl, .inr c, hp⟩
    · simp (config := { maxSteps := 1000000 }) (disch := omega) only [go_sem, c]
      refine W_for 14 (fun i => ⟨[(0, .ptr (.obj n) [] tCache), (3, .int .i64 j), (4, .int .i64 (13 - (i : Int)))], [], h.cs n a (wrDown a (syncD a b j) i)⟩) (by simp only [go_sem, wrDown] <;> rfl) fun i hi ih2 => ?_
      by_cases hlt2 : i < 14
      · simp (config := { maxSteps := 1000000 }) (disch := omega) only [go_sem]
        refine W_callh (v := .bool (writeAs a (wrDown a (syncD a b j) i) (13 - (i : Int))).2) (h.cs n a (wrDown a (syncD a b j) (i + 1))) rfl ⟨rfl, rfl⟩ rfl (by
          simp only [go_sem]
          refine Ok.mono (CWrite_ok (h := (h.cs n a (wrDown a (syncD a b j) i)).push cx.lvl []) (n := n) (a := a) (b := wrDown a (syncD a b j) i) (by rw [push_look_obj]; exact look_cs h n a _) hl) ?_
          rintro v h' ⟨h1, h2⟩
          exact ⟨h1, by rw [h2, push_cs, cs_cs]; rfl⟩) ?_
        simp (config := { maxSteps := 1000000 }) (disch := omega) only [go_sem]
        refine ih2 _ hlt2 ?_
        have e2 : (13 : Int) - (i : Int) - 1 = 13 - ((i : Int) + 1) := by omega
        simp only [go_sem, e2]
      · obtain rfl : i = 14 := by omega
        simp (config := { maxSteps := 1000000 }) (disch := omega) only [go_sem]
        refine ih _ hlt (step_all hp c) ?_
        simp only [go_sem, syncD]
  · obtain rfl : j = 8 := by omega
    simp (config := { maxSteps := 1000000 }) (disch := omega) only [go_sem]
    exact ⟨8, Nat.le_refl _, rfl, rfl, .inl rfl, hp⟩
end
end Go.Mini

namespace Go.Mini
set_option linter.unusedSimpArgs false
set_option linter.unusedVariables false
set_option maxHeartbeats 4000000
set_option maxRecDepth 100000
section
variable {cx : Cx} {h : HP} {a b m m' : Img}
theorem W_callhv {T : Nat → Option MFun} {k : List Item} {kill : List Nat} {r : List MOp} {sl : Slots} {own : Own} {Q : St → Prop} {P : AV → Prop} {prot : Bool} {f : Nat} {args : List Opd} {d : Option Nat} {fn : MFun} (h1 : HP) (hf : T f = some fn) (hp : fn.params = args.length ∧ fn.nfree = 0) (hs : h1.stk = h.stk)
    (hc : Ok T (St.callCx ⟨sl, own, h⟩ cx prot) fn (St.enter (args.map (St.opd ⟨sl, own, h⟩)) (h.push cx.lvl own)) fun v' h' => P v' ∧ h' = h1.push cx.lvl own)
    (hq : ∀ v, P v → W T cx (.ops r kill :: k) (St.setd ⟨sl, own, h1⟩ d v) Q) :
    W T cx (.ops (⟨d, .call prot [] f args, none⟩ :: r) kill :: k) ⟨sl, own, h⟩ Q := by
  refine W_callr hf hp hc ?_
  rintro v h' ⟨hv, rfl⟩
  have : St.pop ⟨sl, own, h⟩ cx.lvl [] (h1.push cx.lvl own) = ⟨sl, own, h1⟩ := by
    simp only [St.pop, HP.pop, HP.push, Own.unveil, if_true]
    congr 1
    cases h1
    simp only at hs
    subst hs
    simp only [HP.mk.injEq, and_true]
    funext l
    by_cases hl : l = cx.lvl <;> simp [hl]
  rw [this]; exact hq v hv
end
end Go.Mini

namespace Go.Mini
namespace Fn
end Fn
def tblDL0 : List (Option MFun) := [none, none, none, none, none, none, none, none, none, none, none, none, none, none, none, none, none, none, none, none, none, none, none, none, none, none, none, none, none, none, none, none, none, none, none, none, none, none, none, none, none, none, none, none, none, none, none, none, none, none, none, none, none, none, none, none, none, none, none, none, none, none, none, none, none]
end Go.Mini

namespace Go.Mini
namespace Fn
@[reducible] def ideal_Check.r0 : List MOp := [⟨some 1, .box false tStep (.s 0), none⟩, ⟨some 2, .mov (.c (.int .i64 0)), none⟩]
@[reducible] def ideal_Check.r1 : List MOp := [⟨some 4, .fld tStep 0 tI (.s 1), none⟩, ⟨some 5, .load false none tI (.s 4), none⟩, ⟨some 6, .bin .lss (.s 5) (.c (.int .i64 1)), none⟩, ⟨some 7, .mov (.s 6), none⟩, ⟨some 8, .fld tStep 0 tI (.s 1), some (7, false)⟩, ⟨some 9, .load false none tI (.s 8), some (7, false)⟩, ⟨some 10, .bin .gtr (.s 9) (.c (.int .i64 6)), some (7, false)⟩, ⟨some 11, .pick (.s 7) (.c (.bool true)) (.s 10), none⟩]
@[reducible] def ideal_Check.r2 : List MOp := [⟨some 2, .mov (.c (.int .i64 7)), none⟩]
@[reducible] def ideal_Check.r3 : List MOp := [⟨some 12, .fld tStep 1 tI (.s 1), none⟩, ⟨some 13, .load false none tI (.s 12), none⟩, ⟨some 14, .fld tStep 4 tS (.s 1), none⟩, ⟨some 15, .load false none tS (.s 14), none⟩, ⟨some 16, .call false [] 232 [(.s 13), (.s 15)], none⟩, ⟨some 3, .mov (.s 16), none⟩]
@[reducible] def ideal_Check.r4 : List MOp := [⟨some 17, .mov (.s 3), none⟩, ⟨some 18, .bin .neq (.s 17) (.c (.int .i64 0)), none⟩]
@[reducible] def ideal_Check.r5 : List MOp := [⟨some 19, .mov (.s 3), none⟩, ⟨some 2, .mov (.s 19), none⟩]
@[reducible] def ideal_Check.r6 : List MOp := [⟨some 20, .fld tStep 0 tI (.s 1), none⟩, ⟨some 21, .load false none tI (.s 20), none⟩, ⟨some 22, .bin .eql (.s 21) (.c (.int .i64 2)), none⟩, ⟨some 23, .mov (.s 22), none⟩, ⟨some 24, .fld tStep 0 tI (.s 1), some (23, false)⟩, ⟨some 25, .load false none tI (.s 24), some (23, false)⟩, ⟨some 26, .bin .eql (.s 25) (.c (.int .i64 4)), some (23, false)⟩, ⟨some 27, .pick (.s 23) (.c (.bool true)) (.s 26), none⟩]
@[reducible] def ideal_Check.r7 : List MOp := [⟨some 28, .fld tStep 2 tI (.s 1), none⟩, ⟨some 29, .load false none tI (.s 28), none⟩, ⟨some 30, .fld tStep 5 tS (.s 1), none⟩, ⟨some 31, .load false none tS (.s 30), none⟩, ⟨some 32, .call false [] 232 [(.s 29), (.s 31)], none⟩, ⟨some 2, .mov (.s 32), none⟩]
@[reducible] def ideal_Check.r8 : List MOp := [⟨some 33, .fld tStep 0 tI (.s 1), none⟩, ⟨some 34, .load false none tI (.s 33), none⟩, ⟨some 35, .bin .eql (.s 34) (.c (.int .i64 5)), none⟩, ⟨some 36, .mov (.s 35), none⟩, ⟨some 37, .fld tStep 0 tI (.s 1), some (36, false)⟩, ⟨some 38, .load false none tI (.s 37), some (36, false)⟩, ⟨some 39, .bin .eql (.s 38) (.c (.int .i64 6)), some (36, false)⟩, ⟨some 40, .pick (.s 36) (.c (.bool true)) (.s 39), none⟩, ⟨some 41, .mov (.s 40), none⟩, ⟨some 42, .fld tStep 3 tI (.s 1), some (41, true)⟩, ⟨some 43, .load false none tI (.s 42), some (41, true)⟩, ⟨some 44, .bin .lss (.s 43) (.c (.int .i64 0)), some (41, true)⟩, ⟨some 45, .mov (.s 44), some (41, true)⟩, ⟨some 46, .fld tStep 3 tI (.s 1), some (45, false)⟩, ⟨some 47, .load false none tI (.s 46), some (45, false)⟩, ⟨some 48, .bin .geq (.s 47) (.c (.int .i64 2)), some (45, false)⟩, ⟨some 49, .pick (.s 45) (.c (.bool true)) (.s 48), some (41, true)⟩, ⟨some 50, .pick (.s 41) (.s 49) (.c (.bool false)), none⟩]
@[reducible] def ideal_Check.r9 : List MOp := [⟨some 2, .mov (.c (.int .i64 1)), none⟩]
@[reducible] def ideal_Check.r10 : List MOp := [⟨some 51, .fld tStep 0 tI (.s 1), none⟩, ⟨some 52, .load false none tI (.s 51), none⟩, ⟨some 53, .bin .eql (.s 52) (.c (.int .i64 5)), none⟩, ⟨some 54, .mov (.s 53), none⟩, ⟨some 55, .fld tStep 6 tS (.s 1), some (54, true)⟩, ⟨some 56, .load false none tS (.s 55), some (54, true)⟩, ⟨some 57, .len true (.s 56), some (54, true)⟩, ⟨some 58, .bin .gtr (.s 57) (.c (.int .i64 8)), some (54, true)⟩, ⟨some 59, .pick (.s 54) (.s 58) (.c (.bool false)), none⟩]
@[reducible] def ideal_Check.r11 : List MOp := [⟨some 2, .mov (.c (.int .i64 3)), none⟩]
@[reducible] def ideal_Check.r12 : List MOp := [⟨some 2, .mov (.c (.int .i64 0)), none⟩]
@[reducible] def ideal_Check.body : MC := (.seq (.reg false ideal_Check.r0 [0, 2]) (.seq (.seq (.reg false ideal_Check.r1 [4, 5, 6, 7, 8, 9, 10]) (.cond (.s 11) (.seq (.reg false ideal_Check.r2 []) .ret) .skip)) (.seq (.seq (.reg false ideal_Check.r3 [12, 13, 14, 15, 16]) (.seq (.reg false ideal_Check.r4 [17]) (.cond (.s 18) (.seq (.reg false ideal_Check.r5 [3, 19]) .ret) .skip))) (.seq (.seq (.reg false ideal_Check.r6 [20, 21, 22, 23, 24, 25, 26]) (.cond (.s 27) (.seq (.reg false ideal_Check.r7 [1, 28, 29, 30, 31, 32]) .ret) .skip)) (.seq (.seq (.reg false ideal_Check.r8 [33, 34, 35, 36, 37, 38, 39, 40, 41, 42, 43, 44, 45, 46, 47, 48, 49]) (.cond (.s 50) (.seq (.reg false ideal_Check.r9 []) .ret) .skip)) (.seq (.seq (.reg false ideal_Check.r10 [1, 51, 52, 53, 54, 55, 56, 57, 58]) (.cond (.s 59) (.seq (.reg false ideal_Check.r11 []) .ret) .skip)) (.seq (.reg false ideal_Check.r12 []) .ret)))))))
@[reducible] def ideal_Check : MFun := { params := 1, nfree := 0, res := [.tmp 2], body := ideal_Check.body }
@[reducible] def eiderdownref_StepFault.r0 : List MOp := [⟨some 1, .box false tStep (.s 0), none⟩, ⟨some 2, .mov (.c (.int .i64 0)), none⟩]
@[reducible] def eiderdownref_StepFault.r1 : List MOp := [⟨some 3, .fld tStep 0 tI (.s 1), none⟩, ⟨some 4, .load false none tI (.s 3), none⟩, ⟨some 5, .bin .lss (.s 4) (.c (.int .i64 1)), none⟩, ⟨some 6, .mov (.s 5), none⟩, ⟨some 7, .fld tStep 0 tI (.s 1), some (6, false)⟩, ⟨some 8, .load false none tI (.s 7), some (6, false)⟩, ⟨some 9, .bin .gtr (.s 8) (.c (.int .i64 6)), some (6, false)⟩, ⟨some 10, .pick (.s 6) (.c (.bool true)) (.s 9), none⟩]
@[reducible] def eiderdownref_StepFault.r2 : List MOp := [⟨some 2, .mov (.c (.int .i64 7)), none⟩]
@[reducible] def eiderdownref_StepFault.r3 : List MOp := [⟨some 11, .fld tStep 1 tI (.s 1), none⟩, ⟨some 12, .load false none tI (.s 11), none⟩, ⟨some 13, .bin .lss (.s 12) (.c (.int .i64 0)), none⟩, ⟨some 14, .mov (.s 13), none⟩, ⟨some 15, .fld tStep 1 tI (.s 1), some (14, false)⟩, ⟨some 16, .load false none tI (.s 15), some (14, false)⟩, ⟨some 17, .bin .geq (.s 16) (.c (.int .i64 3)), some (14, false)⟩, ⟨some 18, .pick (.s 14) (.c (.bool true)) (.s 17), none⟩]
@[reducible] def eiderdownref_StepFault.r4 : List MOp := [⟨some 2, .mov (.c (.int .i64 1)), none⟩]
@[reducible] def eiderdownref_StepFault.r5 : List MOp := [⟨some 19, .fld tStep 4 tS (.s 1), none⟩, ⟨some 20, .load false none tS (.s 19), none⟩, ⟨some 21, .call false [] 15 [(.s 20)], none⟩, ⟨some 22, .un .not (.s 21), none⟩]
@[reducible] def eiderdownref_StepFault.r6 : List MOp := [⟨some 2, .mov (.c (.int .i64 2)), none⟩]
@[reducible] def eiderdownref_StepFault.r7 : List MOp := [⟨some 23, .fld tStep 0 tI (.s 1), none⟩, ⟨some 24, .load false none tI (.s 23), none⟩]
@[reducible] def eiderdownref_StepFault.r8 : List MOp := [⟨some 26, .bin .eql (.s 24) (.c (.int .i64 2)), none⟩, ⟨some 25, .mov (.s 26), none⟩]
@[reducible] def eiderdownref_StepFault.r9 : List MOp := [⟨some 27, .bin .eql (.s 24) (.c (.int .i64 4)), none⟩, ⟨some 25, .mov (.s 27), none⟩]
@[reducible] def eiderdownref_StepFault.r10 : List MOp := [⟨some 28, .fld tStep 2 tI (.s 1), none⟩, ⟨some 29, .load false none tI (.s 28), none⟩, ⟨some 30, .bin .lss (.s 29) (.c (.int .i64 0)), none⟩, ⟨some 31, .mov (.s 30), none⟩, ⟨some 32, .fld tStep 2 tI (.s 1), some (31, false)⟩, ⟨some 33, .load false none tI (.s 32), some (31, false)⟩, ⟨some 34, .bin .geq (.s 33) (.c (.int .i64 3)), some (31, false)⟩, ⟨some 35, .pick (.s 31) (.c (.bool true)) (.s 34), none⟩]
@[reducible] def eiderdownref_StepFault.r11 : List MOp := [⟨some 2, .mov (.c (.int .i64 1)), none⟩]
@[reducible] def eiderdownref_StepFault.r12 : List MOp := [⟨some 36, .fld tStep 5 tS (.s 1), none⟩, ⟨some 37, .load false none tS (.s 36), none⟩, ⟨some 38, .call false [] 15 [(.s 37)], none⟩, ⟨some 39, .un .not (.s 38), none⟩]
@[reducible] def eiderdownref_StepFault.r13 : List MOp := [⟨some 2, .mov (.c (.int .i64 2)), none⟩]
@[reducible] def eiderdownref_StepFault.r14 : List MOp := [⟨some 41, .bin .eql (.s 24) (.c (.int .i64 5)), none⟩, ⟨some 40, .mov (.s 41), none⟩]
@[reducible] def eiderdownref_StepFault.r15 : List MOp := [⟨some 42, .bin .eql (.s 24) (.c (.int .i64 6)), none⟩, ⟨some 40, .mov (.s 42), none⟩]
@[reducible] def eiderdownref_StepFault.r16 : List MOp := [⟨some 43, .fld tStep 3 tI (.s 1), none⟩, ⟨some 44, .load false none tI (.s 43), none⟩, ⟨some 45, .bin .lss (.s 44) (.c (.int .i64 0)), none⟩, ⟨some 46, .mov (.s 45), none⟩, ⟨some 47, .fld tStep 3 tI (.s 1), some (46, false)⟩, ⟨some 48, .load false none tI (.s 47), some (46, false)⟩, ⟨some 49, .bin .geq (.s 48) (.c (.int .i64 2)), some (46, false)⟩, ⟨some 50, .pick (.s 46) (.c (.bool true)) (.s 49), none⟩]
@[reducible] def eiderdownref_StepFault.r17 : List MOp := [⟨some 2, .mov (.c (.int .i64 1)), none⟩]
@[reducible] def eiderdownref_StepFault.r18 : List MOp := [⟨some 51, .fld tStep 0 tI (.s 1), none⟩, ⟨some 52, .load false none tI (.s 51), none⟩, ⟨some 53, .bin .eql (.s 52) (.c (.int .i64 5)), none⟩, ⟨some 54, .mov (.s 53), none⟩, ⟨some 55, .fld tStep 6 tS (.s 1), some (54, true)⟩, ⟨some 56, .load false none tS (.s 55), some (54, true)⟩, ⟨some 57, .len true (.s 56), some (54, true)⟩, ⟨some 58, .bin .gtr (.s 57) (.c (.int .i64 8)), some (54, true)⟩, ⟨some 59, .pick (.s 54) (.s 58) (.c (.bool false)), none⟩]
@[reducible] def eiderdownref_StepFault.r19 : List MOp := [⟨some 2, .mov (.c (.int .i64 3)), none⟩]
@[reducible] def eiderdownref_StepFault.r20 : List MOp := [⟨some 2, .mov (.c (.int .i64 0)), none⟩]
@[reducible] def eiderdownref_StepFault.body : MC := (.seq (.reg false eiderdownref_StepFault.r0 [0, 2]) (.seq (.seq (.reg false eiderdownref_StepFault.r1 [3, 4, 5, 6, 7, 8, 9]) (.cond (.s 10) (.seq (.reg false eiderdownref_StepFault.r2 []) .ret) .skip)) (.seq (.seq (.reg false eiderdownref_StepFault.r3 [11, 12, 13, 14, 15, 16, 17]) (.cond (.s 18) (.seq (.reg false eiderdownref_StepFault.r4 []) .ret) .skip)) (.seq (.seq (.reg false eiderdownref_StepFault.r5 [19, 20, 21]) (.cond (.s 22) (.seq (.reg false eiderdownref_StepFault.r6 []) .ret) .skip)) (.seq (.seq (.reg false eiderdownref_StepFault.r7 [23]) (.block 0 (.seq (.seq (.reg false eiderdownref_StepFault.r8 [26]) (.cond (.s 25) .skip (.reg false eiderdownref_StepFault.r9 [27]))) (.cond (.s 25) (.seq (.seq (.reg false eiderdownref_StepFault.r10 [28, 29, 30, 31, 32, 33, 34]) (.cond (.s 35) (.seq (.reg false eiderdownref_StepFault.r11 []) .ret) .skip)) (.seq (.reg false eiderdownref_StepFault.r12 [1, 36, 37, 38]) (.cond (.s 39) (.seq (.reg false eiderdownref_StepFault.r13 []) .ret) .skip))) (.seq (.seq (.reg false eiderdownref_StepFault.r14 [41]) (.cond (.s 40) .skip (.reg false eiderdownref_StepFault.r15 [24, 42]))) (.cond (.s 40) (.seq (.seq (.reg false eiderdownref_StepFault.r16 [43, 44, 45, 46, 47, 48, 49]) (.cond (.s 50) (.seq (.reg false eiderdownref_StepFault.r17 []) .ret) .skip)) (.seq (.reg false eiderdownref_StepFault.r18 [1, 51, 52, 53, 54, 55, 56, 57, 58]) (.cond (.s 59) (.seq (.reg false eiderdownref_StepFault.r19 []) .ret) .skip))) .skip)))))) (.seq (.reg false eiderdownref_StepFault.r20 []) .ret))))))
@[reducible] def eiderdownref_StepFault : MFun := { params := 1, nfree := 0, res := [.tmp 2], body := eiderdownref_StepFault.body }
@[reducible] def eiderdownref_SameTexts.r0 : List MOp := [⟨some 4, .mov (.c (.bool false)), none⟩]
@[reducible] def eiderdownref_SameTexts.r1 : List MOp := [⟨some 6, .mov (.s 0), none⟩, ⟨some 7, .len false (.s 6), none⟩, ⟨some 8, .mov (.s 1), none⟩, ⟨some 9, .len false (.s 8), none⟩, ⟨some 10, .bin .neq (.s 7) (.s 9), none⟩]
@[reducible] def eiderdownref_SameTexts.r2 : List MOp := [⟨some 4, .mov (.c (.bool false)), none⟩]
@[reducible] def eiderdownref_SameTexts.r3 : List MOp := [⟨some 5, .mov (.c (.int .i64 0)), none⟩]
@[reducible] def eiderdownref_SameTexts.r4 : List MOp := [⟨some 11, .mov (.s 5), none⟩, ⟨some 12, .mov (.s 0), none⟩, ⟨some 13, .len false (.s 12), none⟩, ⟨some 14, .bin .lss (.s 11) (.s 13), none⟩]
@[reducible] def eiderdownref_SameTexts.r5 : List MOp := [⟨some 15, .mov (.s 5), none⟩, ⟨some 16, .bin .add (.s 15) (.c (.int .i64 1)), none⟩, ⟨some 5, .mov (.s 16), none⟩]
@[reducible] def eiderdownref_SameTexts.r6 : List MOp := [⟨some 17, .mov (.s 0), none⟩, ⟨some 18, .mov (.s 5), none⟩, ⟨some 19, .sidx false tS (.s 17) (.s 18), none⟩, ⟨some 20, .load false none tS (.s 19), none⟩, ⟨some 21, .mov (.s 1), none⟩, ⟨some 22, .mov (.s 5), none⟩, ⟨some 23, .sidx false tS (.s 21) (.s 22), none⟩, ⟨some 24, .load false none tS (.s 23), none⟩, ⟨some 25, .bin .neq (.s 20) (.s 24), none⟩]
@[reducible] def eiderdownref_SameTexts.r7 : List MOp := [⟨some 4, .mov (.c (.bool false)), none⟩]
@[reducible] def eiderdownref_SameTexts.r8 : List MOp := [⟨some 4, .mov (.c (.bool true)), none⟩]
@[reducible] def eiderdownref_SameTexts.body : MC := (.seq (.reg false eiderdownref_SameTexts.r0 [4]) (.seq (.seq (.reg false eiderdownref_SameTexts.r1 [6, 7, 8, 9]) (.cond (.s 10) (.seq (.reg false eiderdownref_SameTexts.r2 []) .ret) .skip)) (.seq (.seq (.reg false eiderdownref_SameTexts.r3 []) (.block 0 (.loop [0, 1, 5] [] (.seq (.seq (.reg false eiderdownref_SameTexts.r4 [11, 12, 13]) (.cond (.s 14) .skip (.exit 0))) (.seq (.block 1 (.seq (.reg true eiderdownref_SameTexts.r6 [17, 18, 19, 20, 21, 22, 23, 24]) (.cond (.s 25) (.seq (.reg false eiderdownref_SameTexts.r7 []) .ret) .skip))) (.reg false eiderdownref_SameTexts.r5 [15, 16])))))) (.seq (.reg false eiderdownref_SameTexts.r8 []) .ret))))
@[reducible] def eiderdownref_SameTexts : MFun := { params := 2, nfree := 0, res := [.tmp 4], body := eiderdownref_SameTexts.body }
@[reducible] def eiderdownlaw_greatSteps.r0 : List MOp := [⟨some 2, .mov (.c (.bool false)), none⟩]
@[reducible] def eiderdownlaw_greatSteps.r1 : List MOp := [⟨some 3, .mov (.c (.int .i64 0)), none⟩]
@[reducible] def eiderdownlaw_greatSteps.r2 : List MOp := [⟨some 4, .mov (.s 3), none⟩, ⟨some 5, .mov (.s 0), none⟩, ⟨some 6, .len false (.s 5), none⟩, ⟨some 7, .bin .lss (.s 4) (.s 6), none⟩, ⟨some 8, .mov (.s 7), none⟩, ⟨some 9, .mov (.s 3), some (8, true)⟩, ⟨some 10, .bin .lss (.s 9) (.c (.int .i64 300)), some (8, true)⟩, ⟨some 11, .pick (.s 8) (.s 10) (.c (.bool false)), none⟩]
@[reducible] def eiderdownlaw_greatSteps.r3 : List MOp := [⟨some 12, .mov (.s 3), none⟩, ⟨some 13, .bin .add (.s 12) (.c (.int .i64 1)), none⟩, ⟨some 3, .mov (.s 13), none⟩]
@[reducible] def eiderdownlaw_greatSteps.r4 : List MOp := [⟨some 14, .mov (.s 0), none⟩, ⟨some 15, .mov (.s 3), none⟩, ⟨some 16, .sidx false tStep (.s 14) (.s 15), none⟩, ⟨some 17, .load false none tStep (.s 16), none⟩, ⟨some 18, .call false [] 229 [(.s 17)], none⟩]
@[reducible] def eiderdownlaw_greatSteps.r5 : List MOp := [⟨some 2, .mov (.c (.bool true)), none⟩]
@[reducible] def eiderdownlaw_greatSteps.r6 : List MOp := [⟨some 19, .mov (.s 0), none⟩, ⟨some 20, .len false (.s 19), none⟩, ⟨some 21, .bin .gtr (.s 20) (.c (.int .i64 200)), none⟩, ⟨some 2, .mov (.s 21), none⟩]
@[reducible] def eiderdownlaw_greatSteps.body : MC := (.seq (.reg false eiderdownlaw_greatSteps.r0 [2]) (.seq (.seq (.reg false eiderdownlaw_greatSteps.r1 []) (.block 0 (.loop [0, 3] [] (.seq (.seq (.reg false eiderdownlaw_greatSteps.r2 [4, 5, 6, 7, 8, 9, 10]) (.cond (.s 11) .skip (.exit 0))) (.seq (.block 1 (.seq (.reg false eiderdownlaw_greatSteps.r4 [14, 15, 16, 17]) (.cond (.s 18) (.seq (.reg false eiderdownlaw_greatSteps.r5 []) .ret) .skip))) (.reg false eiderdownlaw_greatSteps.r3 [12, 13])))))) (.seq (.reg false eiderdownlaw_greatSteps.r6 [0, 19, 20, 21]) .ret)))
@[reducible] def eiderdownlaw_greatSteps : MFun := { params := 1, nfree := 0, res := [.tmp 2], body := eiderdownlaw_greatSteps.body }
@[reducible] def eiderdownlaw_greatStep.r0 : List MOp := [⟨some 1, .box false tStep (.s 0), none⟩, ⟨some 2, .mov (.c (.bool false)), none⟩]
@[reducible] def eiderdownlaw_greatStep.r1 : List MOp := [⟨some 3, .fld tStep 4 tS (.s 1), none⟩, ⟨some 4, .load false none tS (.s 3), none⟩, ⟨some 5, .len true (.s 4), none⟩, ⟨some 6, .fld tStep 5 tS (.s 1), none⟩, ⟨some 7, .load false none tS (.s 6), none⟩, ⟨some 8, .len true (.s 7), none⟩, ⟨some 9, .bin .add (.s 5) (.s 8), none⟩, ⟨some 10, .fld tStep 6 tS (.s 1), none⟩, ⟨some 11, .load false none tS (.s 10), none⟩, ⟨some 12, .len true (.s 11), none⟩, ⟨some 13, .bin .add (.s 9) (.s 12), none⟩, ⟨some 14, .bin .gtr (.s 13) (.c (.int .i64 300)), none⟩, ⟨some 2, .mov (.s 14), none⟩]
@[reducible] def eiderdownlaw_greatStep.body : MC := (.seq (.reg false eiderdownlaw_greatStep.r0 [0, 2]) (.seq (.reg false eiderdownlaw_greatStep.r1 [1, 3, 4, 5, 6, 7, 8, 9, 10, 11, 12, 13, 14]) .ret))
@[reducible] def eiderdownlaw_greatStep : MFun := { params := 1, nfree := 0, res := [.tmp 2], body := eiderdownlaw_greatStep.body }
@[reducible] def ideal_check.r0 : List MOp := [⟨some 4, .mov (.c (.int .i64 0)), none⟩]
@[reducible] def ideal_check.r1 : List MOp := [⟨some 6, .mov (.s 0), none⟩, ⟨some 7, .bin .lss (.s 6) (.c (.int .i64 0)), none⟩, ⟨some 8, .mov (.s 7), none⟩, ⟨some 9, .mov (.s 0), some (8, false)⟩, ⟨some 10, .bin .geq (.s 9) (.c (.int .i64 3)), some (8, false)⟩, ⟨some 11, .pick (.s 8) (.c (.bool true)) (.s 10), none⟩, ⟨some 5, .mov (.s 11), none⟩]
@[reducible] def ideal_check.r2 : List MOp := [⟨some 4, .mov (.c (.int .i64 1)), none⟩]
@[reducible] def ideal_check.r3 : List MOp := [⟨some 13, .mov (.s 1), none⟩, ⟨some 14, .call false [] 14 [(.s 13)], none⟩, ⟨some 15, .un .not (.s 14), none⟩, ⟨some 12, .mov (.s 15), none⟩]
@[reducible] def ideal_check.r4 : List MOp := [⟨some 4, .mov (.c (.int .i64 2)), none⟩]
@[reducible] def ideal_check.r5 : List MOp := [⟨some 4, .mov (.c (.int .i64 0)), none⟩]
@[reducible] def ideal_check.body : MC := (.seq (.reg false ideal_check.r0 [4]) (.seq (.block 0 (.seq (.reg false ideal_check.r1 [0, 6, 7, 8, 9, 10, 11]) (.cond (.s 5) (.seq (.reg false ideal_check.r2 []) .ret) (.seq (.reg false ideal_check.r3 [1, 13, 14, 15]) (.cond (.s 12) (.seq (.reg false ideal_check.r4 []) .ret) .skip))))) (.seq (.reg false ideal_check.r5 []) .ret)))
@[reducible] def ideal_check : MFun := { params := 2, nfree := 0, res := [.tmp 4], body := ideal_check.body }
@[reducible] def slices_SortFunc.r0 : List MOp := [⟨some 5, .mov (.s 0), none⟩, ⟨some 6, .len false (.s 5), none⟩, ⟨some 4, .mov (.s 6), none⟩]
@[reducible] def slices_SortFunc.r1 : List MOp := [⟨some 7, .mov (.s 0), none⟩, ⟨some 8, .mov (.s 4), none⟩, ⟨some 9, .mov (.s 4), none⟩, ⟨some 10, .conv .u64 (.s 9), none⟩, ⟨some 11, .call false [] 240 [(.s 10)], none⟩, ⟨some 12, .mov (.s 1), none⟩, ⟨some 13, .call false [] 241 [(.s 7), (.c (.int .i64 0)), (.s 8), (.s 11), (.s 12)], none⟩]
@[reducible] def slices_SortFunc.body : MC := (.seq (.reg false slices_SortFunc.r0 [5, 6]) (.reg false slices_SortFunc.r1 [0, 1, 4, 7, 8, 9, 10, 11, 12, 13]))
@[reducible] def slices_SortFunc : MFun := { params := 2, nfree := 0, res := [], body := slices_SortFunc.body }
@[reducible] def math_bits_Len.r0 : List MOp := [⟨some 2, .mov (.c (.int .i64 0)), none⟩]
@[reducible] def math_bits_Len.r1 : List MOp := [⟨some 3, .mov (.s 0), none⟩, ⟨some 4, .conv .u32 (.s 3), none⟩, ⟨some 5, .call false [] 253 [(.s 4)], none⟩, ⟨some 2, .mov (.s 5), none⟩]
@[reducible] def math_bits_Len.r2 : List MOp := [⟨some 6, .mov (.s 0), none⟩, ⟨some 7, .call false [] 252 [(.s 6)], none⟩, ⟨some 2, .mov (.s 7), none⟩]
@[reducible] def math_bits_Len.body : MC := (.seq (.reg false math_bits_Len.r0 [2]) (.seq (.cond (.c (.bool false)) (.seq (.reg false math_bits_Len.r1 [0, 3, 4, 5]) .ret) .skip) (.seq (.reg false math_bits_Len.r2 [0, 6, 7]) .ret)))
@[reducible] def math_bits_Len : MFun := { params := 1, nfree := 0, res := [.tmp 2], body := math_bits_Len.body }
@[reducible] def slices_pdqsortCmpFunc.r0 : List MOp := [⟨some 10, .mov (.c (.bool true)), none⟩]
@[reducible] def slices_pdqsortCmpFunc.r1 : List MOp := [⟨some 11, .mov (.c (.bool true)), none⟩]
@[reducible] def slices_pdqsortCmpFunc.r2 : List MOp := [⟨some 21, .mov (.s 2), none⟩, ⟨some 22, .mov (.s 1), none⟩, ⟨some 23, .bin .sub (.s 21) (.s 22), none⟩, ⟨some 12, .mov (.s 23), none⟩]
@[reducible] def slices_pdqsortCmpFunc.r3 : List MOp := [⟨some 24, .mov (.s 12), none⟩, ⟨some 25, .bin .leq (.s 24) (.c (.int .i64 12)), none⟩]
@[reducible] def slices_pdqsortCmpFunc.r4 : List MOp := [⟨some 26, .mov (.s 0), none⟩, ⟨some 27, .mov (.s 1), none⟩, ⟨some 28, .mov (.s 2), none⟩, ⟨some 29, .mov (.s 4), none⟩, ⟨some 30, .call false [] 251 [(.s 26), (.s 27), (.s 28), (.s 29)], none⟩]
@[reducible] def slices_pdqsortCmpFunc.r5 : List MOp := [⟨some 31, .mov (.s 3), none⟩, ⟨some 32, .bin .eql (.s 31) (.c (.int .i64 0)), none⟩]
@[reducible] def slices_pdqsortCmpFunc.r6 : List MOp := [⟨some 33, .mov (.s 0), none⟩, ⟨some 34, .mov (.s 1), none⟩, ⟨some 35, .mov (.s 2), none⟩, ⟨some 36, .mov (.s 4), none⟩, ⟨some 37, .call false [] 250 [(.s 33), (.s 34), (.s 35), (.s 36)], none⟩]
@[reducible] def slices_pdqsortCmpFunc.r7 : List MOp := [⟨some 38, .mov (.s 10), none⟩, ⟨some 39, .un .not (.s 38), none⟩]
@[reducible] def slices_pdqsortCmpFunc.r8 : List MOp := [⟨some 40, .mov (.s 0), none⟩, ⟨some 41, .mov (.s 1), none⟩, ⟨some 42, .mov (.s 2), none⟩, ⟨some 43, .mov (.s 4), none⟩, ⟨some 44, .call false [] 249 [(.s 40), (.s 41), (.s 42), (.s 43)], none⟩]
@[reducible] def slices_pdqsortCmpFunc.r9 : List MOp := [⟨some 45, .mov (.s 3), none⟩, ⟨some 46, .bin .sub (.s 45) (.c (.int .i64 1)), none⟩, ⟨some 3, .mov (.s 46), none⟩]
@[reducible] def slices_pdqsortCmpFunc.r10 : List MOp := [⟨some 48, .mov (.s 0), none⟩, ⟨some 49, .mov (.s 1), none⟩, ⟨some 50, .mov (.s 2), none⟩, ⟨some 51, .mov (.s 4), none⟩, ⟨some 52, .call false [] 248 [(.s 48), (.s 49), (.s 50), (.s 51)], none⟩, ⟨some 47, .mov (.s 52), none⟩, ⟨some 53, .ext (.s 47) 0, none⟩, ⟨some 54, .ext (.s 47) 1, none⟩, ⟨some 13, .mov (.s 53), none⟩, ⟨some 14, .mov (.s 54), none⟩]
@[reducible] def slices_pdqsortCmpFunc.r11 : List MOp := [⟨some 55, .mov (.s 14), none⟩, ⟨some 56, .bin .eql (.s 55) (.c (.int .i64 2)), none⟩]
@[reducible] def slices_pdqsortCmpFunc.r12 : List MOp := [⟨some 57, .mov (.s 0), none⟩, ⟨some 58, .mov (.s 1), none⟩, ⟨some 59, .mov (.s 2), none⟩, ⟨some 60, .mov (.s 4), none⟩, ⟨some 61, .call false [] 247 [(.s 57), (.s 58), (.s 59), (.s 60)], none⟩]
@[reducible] def slices_pdqsortCmpFunc.r13 : List MOp := [⟨some 62, .mov (.s 2), none⟩, ⟨some 63, .bin .sub (.s 62) (.c (.int .i64 1)), none⟩, ⟨some 64, .mov (.s 13), none⟩, ⟨some 65, .mov (.s 1), none⟩, ⟨some 66, .bin .sub (.s 64) (.s 65), none⟩, ⟨some 67, .bin .sub (.s 63) (.s 66), none⟩, ⟨some 13, .mov (.s 67), none⟩]
@[reducible] def slices_pdqsortCmpFunc.r14 : List MOp := [⟨some 14, .mov (.c (.int .i64 1)), none⟩]
@[reducible] def slices_pdqsortCmpFunc.r15 : List MOp := [⟨some 68, .mov (.s 10), none⟩, ⟨some 69, .mov (.s 68), none⟩, ⟨some 70, .mov (.s 11), some (69, true)⟩, ⟨some 71, .pick (.s 69) (.s 70) (.c (.bool false)), none⟩, ⟨some 72, .mov (.s 71), none⟩, ⟨some 73, .mov (.s 14), some (72, true)⟩, ⟨some 74, .bin .eql (.s 73) (.c (.int .i64 1)), some (72, true)⟩, ⟨some 75, .pick (.s 72) (.s 74) (.c (.bool false)), none⟩]
@[reducible] def slices_pdqsortCmpFunc.r16 : List MOp := [⟨some 76, .mov (.s 0), none⟩, ⟨some 77, .mov (.s 1), none⟩, ⟨some 78, .mov (.s 2), none⟩, ⟨some 79, .mov (.s 4), none⟩, ⟨some 80, .call false [] 246 [(.s 76), (.s 77), (.s 78), (.s 79)], none⟩]
@[reducible] def slices_pdqsortCmpFunc.r17 : List MOp := [⟨some 81, .mov (.s 1), none⟩, ⟨some 82, .bin .gtr (.s 81) (.c (.int .i64 0)), none⟩, ⟨some 83, .mov (.s 82), none⟩, ⟨some 84, .mov (.s 4), some (83, true)⟩, ⟨some 85, .mov (.s 0), some (83, true)⟩, ⟨some 86, .mov (.s 1), some (83, true)⟩, ⟨some 87, .bin .sub (.s 86) (.c (.int .i64 1)), some (83, true)⟩, ⟨some 88, .sidx false tS (.s 85) (.s 87), some (83, true)⟩, ⟨some 89, .load false none tS (.s 88), some (83, true)⟩, ⟨some 90, .mov (.s 0), some (83, true)⟩, ⟨some 91, .mov (.s 13), some (83, true)⟩, ⟨some 92, .sidx false tS (.s 90) (.s 91), some (83, true)⟩, ⟨some 93, .load false none tS (.s 92), some (83, true)⟩, ⟨some 94, .callv false [] (.s 84) [(.s 89), (.s 93)], some (83, true)⟩, ⟨some 95, .bin .lss (.s 94) (.c (.int .i64 0)), some (83, true)⟩, ⟨some 96, .un .not (.s 95), some (83, true)⟩, ⟨some 97, .pick (.s 83) (.s 96) (.c (.bool false)), none⟩]
@[reducible] def slices_pdqsortCmpFunc.r18 : List MOp := [⟨some 98, .mov (.s 0), none⟩, ⟨some 99, .mov (.s 1), none⟩, ⟨some 100, .mov (.s 2), none⟩, ⟨some 101, .mov (.s 13), none⟩, ⟨some 102, .mov (.s 4), none⟩, ⟨some 103, .call false [] 245 [(.s 98), (.s 99), (.s 100), (.s 101), (.s 102)], none⟩, ⟨some 15, .mov (.s 103), none⟩]
@[reducible] def slices_pdqsortCmpFunc.r19 : List MOp := [⟨some 104, .mov (.s 15), none⟩, ⟨some 1, .mov (.s 104), none⟩]
@[reducible] def slices_pdqsortCmpFunc.r20 : List MOp := [⟨some 106, .mov (.s 0), none⟩, ⟨some 107, .mov (.s 1), none⟩, ⟨some 108, .mov (.s 2), none⟩, ⟨some 109, .mov (.s 13), none⟩, ⟨some 110, .mov (.s 4), none⟩, ⟨some 111, .call false [] 244 [(.s 106), (.s 107), (.s 108), (.s 109), (.s 110)], none⟩, ⟨some 105, .mov (.s 111), none⟩, ⟨some 112, .ext (.s 105) 0, none⟩, ⟨some 113, .ext (.s 105) 1, none⟩, ⟨some 16, .mov (.s 112), none⟩, ⟨some 17, .mov (.s 113), none⟩]
@[reducible] def slices_pdqsortCmpFunc.r21 : List MOp := [⟨some 114, .mov (.s 17), none⟩, ⟨some 11, .mov (.s 114), none⟩]
@[reducible] def slices_pdqsortCmpFunc.r22 : List MOp := [⟨some 115, .mov (.s 16), none⟩, ⟨some 116, .mov (.s 1), none⟩, ⟨some 117, .bin .sub (.s 115) (.s 116), none⟩, ⟨some 118, .mov (.s 2), none⟩, ⟨some 119, .mov (.s 16), none⟩, ⟨some 120, .bin .sub (.s 118) (.s 119), none⟩, ⟨some 18, .mov (.s 117), none⟩, ⟨some 19, .mov (.s 120), none⟩]
@[reducible] def slices_pdqsortCmpFunc.r23 : List MOp := [⟨some 121, .mov (.s 12), none⟩, ⟨some 122, .bin .quo (.s 121) (.c (.int .i64 8)), none⟩, ⟨some 20, .mov (.s 122), none⟩]
@[reducible] def slices_pdqsortCmpFunc.r24 : List MOp := [⟨some 123, .mov (.s 18), none⟩, ⟨some 124, .mov (.s 19), none⟩, ⟨some 125, .bin .lss (.s 123) (.s 124), none⟩]
@[reducible] def slices_pdqsortCmpFunc.r25 : List MOp := [⟨some 126, .mov (.s 18), none⟩, ⟨some 127, .mov (.s 20), none⟩, ⟨some 128, .bin .geq (.s 126) (.s 127), none⟩, ⟨some 10, .mov (.s 128), none⟩]
@[reducible] def slices_pdqsortCmpFunc.r26 : List MOp := [⟨some 129, .mov (.s 0), none⟩, ⟨some 130, .mov (.s 1), none⟩, ⟨some 131, .mov (.s 16), none⟩, ⟨some 132, .mov (.s 3), none⟩, ⟨some 133, .mov (.s 4), none⟩, ⟨some 134, .call false [] 241 [(.s 129), (.s 130), (.s 131), (.s 132), (.s 133)], none⟩]
@[reducible] def slices_pdqsortCmpFunc.r27 : List MOp := [⟨some 135, .mov (.s 16), none⟩, ⟨some 136, .bin .add (.s 135) (.c (.int .i64 1)), none⟩, ⟨some 1, .mov (.s 136), none⟩]
@[reducible] def slices_pdqsortCmpFunc.r28 : List MOp := [⟨some 137, .mov (.s 19), none⟩, ⟨some 138, .mov (.s 20), none⟩, ⟨some 139, .bin .geq (.s 137) (.s 138), none⟩, ⟨some 10, .mov (.s 139), none⟩]
@[reducible] def slices_pdqsortCmpFunc.r29 : List MOp := [⟨some 140, .mov (.s 0), none⟩, ⟨some 141, .mov (.s 16), none⟩, ⟨some 142, .bin .add (.s 141) (.c (.int .i64 1)), none⟩, ⟨some 143, .mov (.s 2), none⟩, ⟨some 144, .mov (.s 3), none⟩, ⟨some 145, .mov (.s 4), none⟩, ⟨some 146, .call false [] 241 [(.s 140), (.s 142), (.s 143), (.s 144), (.s 145)], none⟩]
@[reducible] def slices_pdqsortCmpFunc.r30 : List MOp := [⟨some 147, .mov (.s 16), none⟩, ⟨some 2, .mov (.s 147), none⟩]
@[reducible] def slices_pdqsortCmpFunc.body : MC := (.seq (.reg false slices_pdqsortCmpFunc.r0 []) (.seq (.reg false slices_pdqsortCmpFunc.r1 []) (.block 0 (.loop [0, 1, 2, 3, 4, 10, 11] [] (.block 1 (.seq (.reg false slices_pdqsortCmpFunc.r2 [21, 22, 23]) (.seq (.seq (.reg false slices_pdqsortCmpFunc.r3 [24]) (.cond (.s 25) (.seq (.reg false slices_pdqsortCmpFunc.r4 [0, 1, 2, 4, 26, 27, 28, 29, 30]) .ret) .skip)) (.seq (.seq (.reg false slices_pdqsortCmpFunc.r5 [31]) (.cond (.s 32) (.seq (.reg false slices_pdqsortCmpFunc.r6 [0, 1, 2, 4, 33, 34, 35, 36, 37]) .ret) .skip)) (.seq (.seq (.reg false slices_pdqsortCmpFunc.r7 [38]) (.cond (.s 39) (.seq (.reg false slices_pdqsortCmpFunc.r8 [40, 41, 42, 43, 44]) (.reg false slices_pdqsortCmpFunc.r9 [45, 46])) .skip)) (.seq (.reg false slices_pdqsortCmpFunc.r10 [47, 48, 49, 50, 51, 52, 53, 54]) (.seq (.seq (.reg false slices_pdqsortCmpFunc.r11 [55]) (.cond (.s 56) (.seq (.reg false slices_pdqsortCmpFunc.r12 [57, 58, 59, 60, 61]) (.seq (.reg false slices_pdqsortCmpFunc.r13 [62, 63, 64, 65, 66, 67]) (.reg false slices_pdqsortCmpFunc.r14 []))) .skip)) (.seq (.seq (.reg false slices_pdqsortCmpFunc.r15 [14, 68, 69, 70, 71, 72, 73, 74]) (.cond (.s 75) (.seq (.reg false slices_pdqsortCmpFunc.r16 [76, 77, 78, 79]) (.cond (.s 80) .ret .skip)) .skip)) (.seq (.seq (.reg true slices_pdqsortCmpFunc.r17 [81, 82, 83, 84, 85, 86, 87, 88, 89, 90, 91, 92, 93, 94, 95, 96]) (.cond (.s 97) (.seq (.reg false slices_pdqsortCmpFunc.r18 [1, 13, 98, 99, 100, 101, 102, 103]) (.seq (.reg false slices_pdqsortCmpFunc.r19 [15, 104]) (.exit 1))) .skip)) (.seq (.reg false slices_pdqsortCmpFunc.r20 [13, 105, 106, 107, 108, 109, 110, 111, 112, 113]) (.seq (.reg false slices_pdqsortCmpFunc.r21 [17, 114]) (.seq (.reg false slices_pdqsortCmpFunc.r22 [115, 116, 117, 118, 119, 120]) (.seq (.reg false slices_pdqsortCmpFunc.r23 [12, 121, 122]) (.seq (.reg false slices_pdqsortCmpFunc.r24 [123, 124]) (.cond (.s 125) (.seq (.reg false slices_pdqsortCmpFunc.r25 [18, 20, 126, 127, 128]) (.seq (.reg false slices_pdqsortCmpFunc.r26 [1, 129, 130, 131, 132, 133, 134]) (.reg false slices_pdqsortCmpFunc.r27 [16, 135, 136]))) (.seq (.reg false slices_pdqsortCmpFunc.r28 [19, 20, 137, 138, 139]) (.seq (.reg false slices_pdqsortCmpFunc.r29 [2, 140, 141, 142, 143, 144, 145, 146]) (.reg false slices_pdqsortCmpFunc.r30 [16, 147]))))))))))))))))))))))
@[reducible] def slices_pdqsortCmpFunc : MFun := { params := 5, nfree := 0, res := [], body := slices_pdqsortCmpFunc.body }
@[reducible] def cmp_Compare.r0 : List MOp := [⟨some 4, .mov (.c (.int .i64 0)), none⟩]
@[reducible] def cmp_Compare.r1 : List MOp := [⟨some 7, .mov (.s 0), none⟩, ⟨some 8, .call false [] 243 [(.s 7)], none⟩, ⟨some 5, .mov (.s 8), none⟩]
@[reducible] def cmp_Compare.r2 : List MOp := [⟨some 9, .mov (.s 1), none⟩, ⟨some 10, .call false [] 243 [(.s 9)], none⟩, ⟨some 6, .mov (.s 10), none⟩]
@[reducible] def cmp_Compare.r3 : List MOp := [⟨some 11, .mov (.s 5), none⟩]
@[reducible] def cmp_Compare.r4 : List MOp := [⟨some 12, .mov (.s 6), none⟩]
@[reducible] def cmp_Compare.r5 : List MOp := [⟨some 4, .mov (.c (.int .i64 0)), none⟩]
@[reducible] def cmp_Compare.r6 : List MOp := [⟨some 4, .mov (.c (.int .i64 (-1))), none⟩]
@[reducible] def cmp_Compare.r7 : List MOp := [⟨some 13, .mov (.s 6), none⟩]
@[reducible] def cmp_Compare.r8 : List MOp := [⟨some 4, .mov (.c (.int .i64 1)), none⟩]
@[reducible] def cmp_Compare.r9 : List MOp := [⟨some 14, .mov (.s 0), none⟩, ⟨some 15, .mov (.s 1), none⟩, ⟨some 16, .bin .lss (.s 14) (.s 15), none⟩]
@[reducible] def cmp_Compare.r10 : List MOp := [⟨some 4, .mov (.c (.int .i64 (-1))), none⟩]
@[reducible] def cmp_Compare.r11 : List MOp := [⟨some 17, .mov (.s 0), none⟩, ⟨some 18, .mov (.s 1), none⟩, ⟨some 19, .bin .gtr (.s 17) (.s 18), none⟩]
@[reducible] def cmp_Compare.r12 : List MOp := [⟨some 4, .mov (.c (.int .i64 1)), none⟩]
@[reducible] def cmp_Compare.r13 : List MOp := [⟨some 4, .mov (.c (.int .i64 0)), none⟩]
@[reducible] def cmp_Compare.body : MC := (.seq (.reg false cmp_Compare.r0 [4]) (.seq (.reg false cmp_Compare.r1 [7, 8]) (.seq (.reg false cmp_Compare.r2 [9, 10]) (.seq (.seq (.reg false cmp_Compare.r3 [5]) (.cond (.s 11) (.seq (.seq (.reg false cmp_Compare.r4 [6]) (.cond (.s 12) (.seq (.reg false cmp_Compare.r5 []) .ret) .skip)) (.seq (.reg false cmp_Compare.r6 []) .ret)) .skip)) (.seq (.seq (.reg false cmp_Compare.r7 [6]) (.cond (.s 13) (.seq (.reg false cmp_Compare.r8 []) .ret) .skip)) (.seq (.seq (.reg false cmp_Compare.r9 [14, 15]) (.cond (.s 16) (.seq (.reg false cmp_Compare.r10 []) .ret) .skip)) (.seq (.seq (.reg false cmp_Compare.r11 [0, 1, 17, 18]) (.cond (.s 19) (.seq (.reg false cmp_Compare.r12 []) .ret) .skip)) (.seq (.reg false cmp_Compare.r13 []) .ret))))))))
@[reducible] def cmp_Compare : MFun := { params := 2, nfree := 0, res := [.tmp 4], body := cmp_Compare.body }
@[reducible] def cmp_isNaN.r0 : List MOp := [⟨some 2, .mov (.c (.bool false)), none⟩]
@[reducible] def cmp_isNaN.r1 : List MOp := [⟨some 3, .mov (.s 0), none⟩, ⟨some 4, .mov (.s 0), none⟩, ⟨some 5, .bin .neq (.s 3) (.s 4), none⟩, ⟨some 2, .mov (.s 5), none⟩]
@[reducible] def cmp_isNaN.body : MC := (.seq (.reg false cmp_isNaN.r0 [2]) (.seq (.reg false cmp_isNaN.r1 [0, 3, 4, 5]) .ret))
@[reducible] def cmp_isNaN : MFun := { params := 1, nfree := 0, res := [.tmp 2], body := cmp_isNaN.body }
@[reducible] def slices_partitionCmpFunc.r0 : List MOp := [⟨some 10, .mov (.c (.int .i64 0)), none⟩, ⟨some 11, .mov (.c (.bool false)), none⟩]
@[reducible] def slices_partitionCmpFunc.r1 : List MOp := [⟨some 14, .mov (.s 0), none⟩, ⟨some 15, .mov (.s 1), none⟩, ⟨some 16, .mov (.s 0), none⟩, ⟨some 17, .mov (.s 3), none⟩, ⟨some 18, .mov (.s 0), none⟩, ⟨some 19, .mov (.s 3), none⟩, ⟨some 20, .sidx false tS (.s 18) (.s 19), none⟩, ⟨some 21, .load false none tS (.s 20), none⟩, ⟨some 22, .mov (.s 0), none⟩, ⟨some 23, .mov (.s 1), none⟩, ⟨some 24, .sidx false tS (.s 22) (.s 23), none⟩, ⟨some 25, .load false none tS (.s 24), none⟩, ⟨some 26, .sidx false tS (.s 14) (.s 15), none⟩, ⟨none, .store tS [] (.s 26) (.s 21), none⟩, ⟨some 27, .sidx false tS (.s 16) (.s 17), none⟩, ⟨none, .store tS [] (.s 27) (.s 25), none⟩]
@[reducible] def slices_partitionCmpFunc.r2 : List MOp := [⟨some 28, .mov (.s 1), none⟩, ⟨some 29, .bin .add (.s 28) (.c (.int .i64 1)), none⟩, ⟨some 30, .mov (.s 2), none⟩, ⟨some 31, .bin .sub (.s 30) (.c (.int .i64 1)), none⟩, ⟨some 12, .mov (.s 29), none⟩, ⟨some 13, .mov (.s 31), none⟩]
@[reducible] def slices_partitionCmpFunc.r3 : List MOp := [⟨some 32, .mov (.s 12), none⟩, ⟨some 33, .mov (.s 13), none⟩, ⟨some 34, .bin .leq (.s 32) (.s 33), none⟩, ⟨some 35, .mov (.s 34), none⟩, ⟨some 36, .mov (.s 4), some (35, true)⟩, ⟨some 37, .mov (.s 0), some (35, true)⟩, ⟨some 38, .mov (.s 12), some (35, true)⟩, ⟨some 39, .sidx false tS (.s 37) (.s 38), some (35, true)⟩, ⟨some 40, .load false none tS (.s 39), some (35, true)⟩, ⟨some 41, .mov (.s 0), some (35, true)⟩, ⟨some 42, .mov (.s 1), some (35, true)⟩, ⟨some 43, .sidx false tS (.s 41) (.s 42), some (35, true)⟩, ⟨some 44, .load false none tS (.s 43), some (35, true)⟩, ⟨some 45, .callv false [] (.s 36) [(.s 40), (.s 44)], some (35, true)⟩, ⟨some 46, .bin .lss (.s 45) (.c (.int .i64 0)), some (35, true)⟩, ⟨some 47, .pick (.s 35) (.s 46) (.c (.bool false)), none⟩]
@[reducible] def slices_partitionCmpFunc.r4 : List MOp := [⟨some 48, .mov (.s 12), none⟩, ⟨some 49, .bin .add (.s 48) (.c (.int .i64 1)), none⟩, ⟨some 12, .mov (.s 49), none⟩]
@[reducible] def slices_partitionCmpFunc.r5 : List MOp := [⟨some 50, .mov (.s 12), none⟩, ⟨some 51, .mov (.s 13), none⟩, ⟨some 52, .bin .leq (.s 50) (.s 51), none⟩, ⟨some 53, .mov (.s 52), none⟩, ⟨some 54, .mov (.s 4), some (53, true)⟩, ⟨some 55, .mov (.s 0), some (53, true)⟩, ⟨some 56, .mov (.s 13), some (53, true)⟩, ⟨some 57, .sidx false tS (.s 55) (.s 56), some (53, true)⟩, ⟨some 58, .load false none tS (.s 57), some (53, true)⟩, ⟨some 59, .mov (.s 0), some (53, true)⟩, ⟨some 60, .mov (.s 1), some (53, true)⟩, ⟨some 61, .sidx false tS (.s 59) (.s 60), some (53, true)⟩, ⟨some 62, .load false none tS (.s 61), some (53, true)⟩, ⟨some 63, .callv false [] (.s 54) [(.s 58), (.s 62)], some (53, true)⟩, ⟨some 64, .bin .lss (.s 63) (.c (.int .i64 0)), some (53, true)⟩, ⟨some 65, .un .not (.s 64), some (53, true)⟩, ⟨some 66, .pick (.s 53) (.s 65) (.c (.bool false)), none⟩]
@[reducible] def slices_partitionCmpFunc.r6 : List MOp := [⟨some 67, .mov (.s 13), none⟩, ⟨some 68, .bin .sub (.s 67) (.c (.int .i64 1)), none⟩, ⟨some 13, .mov (.s 68), none⟩]
@[reducible] def slices_partitionCmpFunc.r7 : List MOp := [⟨some 69, .mov (.s 12), none⟩, ⟨some 70, .mov (.s 13), none⟩, ⟨some 71, .bin .gtr (.s 69) (.s 70), none⟩]
@[reducible] def slices_partitionCmpFunc.r8 : List MOp := [⟨some 72, .mov (.s 0), none⟩, ⟨some 73, .mov (.s 13), none⟩, ⟨some 74, .mov (.s 0), none⟩, ⟨some 75, .mov (.s 1), none⟩, ⟨some 76, .mov (.s 0), none⟩, ⟨some 77, .mov (.s 1), none⟩, ⟨some 78, .sidx false tS (.s 76) (.s 77), none⟩, ⟨some 79, .load false none tS (.s 78), none⟩, ⟨some 80, .mov (.s 0), none⟩, ⟨some 81, .mov (.s 13), none⟩, ⟨some 82, .sidx false tS (.s 80) (.s 81), none⟩, ⟨some 83, .load false none tS (.s 82), none⟩, ⟨some 84, .sidx false tS (.s 72) (.s 73), none⟩, ⟨none, .store tS [] (.s 84) (.s 79), none⟩, ⟨some 85, .sidx false tS (.s 74) (.s 75), none⟩, ⟨none, .store tS [] (.s 85) (.s 83), none⟩]
@[reducible] def slices_partitionCmpFunc.r9 : List MOp := [⟨some 86, .mov (.s 13), none⟩, ⟨some 10, .mov (.s 86), none⟩, ⟨some 11, .mov (.c (.bool true)), none⟩]
@[reducible] def slices_partitionCmpFunc.r10 : List MOp := [⟨some 87, .mov (.s 0), none⟩, ⟨some 88, .mov (.s 12), none⟩, ⟨some 89, .mov (.s 0), none⟩, ⟨some 90, .mov (.s 13), none⟩, ⟨some 91, .mov (.s 0), none⟩, ⟨some 92, .mov (.s 13), none⟩, ⟨some 93, .sidx false tS (.s 91) (.s 92), none⟩, ⟨some 94, .load false none tS (.s 93), none⟩, ⟨some 95, .mov (.s 0), none⟩, ⟨some 96, .mov (.s 12), none⟩, ⟨some 97, .sidx false tS (.s 95) (.s 96), none⟩, ⟨some 98, .load false none tS (.s 97), none⟩, ⟨some 99, .sidx false tS (.s 87) (.s 88), none⟩, ⟨none, .store tS [] (.s 99) (.s 94), none⟩, ⟨some 100, .sidx false tS (.s 89) (.s 90), none⟩, ⟨none, .store tS [] (.s 100) (.s 98), none⟩]
@[reducible] def slices_partitionCmpFunc.r11 : List MOp := [⟨some 101, .mov (.s 12), none⟩, ⟨some 102, .bin .add (.s 101) (.c (.int .i64 1)), none⟩, ⟨some 12, .mov (.s 102), none⟩]
@[reducible] def slices_partitionCmpFunc.r12 : List MOp := [⟨some 103, .mov (.s 13), none⟩, ⟨some 104, .bin .sub (.s 103) (.c (.int .i64 1)), none⟩, ⟨some 13, .mov (.s 104), none⟩]
@[reducible] def slices_partitionCmpFunc.r13 : List MOp := [⟨some 105, .mov (.s 12), none⟩, ⟨some 106, .mov (.s 13), none⟩, ⟨some 107, .bin .leq (.s 105) (.s 106), none⟩, ⟨some 108, .mov (.s 107), none⟩, ⟨some 109, .mov (.s 4), some (108, true)⟩, ⟨some 110, .mov (.s 0), some (108, true)⟩, ⟨some 111, .mov (.s 12), some (108, true)⟩, ⟨some 112, .sidx false tS (.s 110) (.s 111), some (108, true)⟩, ⟨some 113, .load false none tS (.s 112), some (108, true)⟩, ⟨some 114, .mov (.s 0), some (108, true)⟩, ⟨some 115, .mov (.s 1), some (108, true)⟩, ⟨some 116, .sidx false tS (.s 114) (.s 115), some (108, true)⟩, ⟨some 117, .load false none tS (.s 116), some (108, true)⟩, ⟨some 118, .callv false [] (.s 109) [(.s 113), (.s 117)], some (108, true)⟩, ⟨some 119, .bin .lss (.s 118) (.c (.int .i64 0)), some (108, true)⟩, ⟨some 120, .pick (.s 108) (.s 119) (.c (.bool false)), none⟩]
@[reducible] def slices_partitionCmpFunc.r14 : List MOp := [⟨some 121, .mov (.s 12), none⟩, ⟨some 122, .bin .add (.s 121) (.c (.int .i64 1)), none⟩, ⟨some 12, .mov (.s 122), none⟩]
@[reducible] def slices_partitionCmpFunc.r15 : List MOp := [⟨some 123, .mov (.s 12), none⟩, ⟨some 124, .mov (.s 13), none⟩, ⟨some 125, .bin .leq (.s 123) (.s 124), none⟩, ⟨some 126, .mov (.s 125), none⟩, ⟨some 127, .mov (.s 4), some (126, true)⟩, ⟨some 128, .mov (.s 0), some (126, true)⟩, ⟨some 129, .mov (.s 13), some (126, true)⟩, ⟨some 130, .sidx false tS (.s 128) (.s 129), some (126, true)⟩, ⟨some 131, .load false none tS (.s 130), some (126, true)⟩, ⟨some 132, .mov (.s 0), some (126, true)⟩, ⟨some 133, .mov (.s 1), some (126, true)⟩, ⟨some 134, .sidx false tS (.s 132) (.s 133), some (126, true)⟩, ⟨some 135, .load false none tS (.s 134), some (126, true)⟩, ⟨some 136, .callv false [] (.s 127) [(.s 131), (.s 135)], some (126, true)⟩, ⟨some 137, .bin .lss (.s 136) (.c (.int .i64 0)), some (126, true)⟩, ⟨some 138, .un .not (.s 137), some (126, true)⟩, ⟨some 139, .pick (.s 126) (.s 138) (.c (.bool false)), none⟩]
@[reducible] def slices_partitionCmpFunc.r16 : List MOp := [⟨some 140, .mov (.s 13), none⟩, ⟨some 141, .bin .sub (.s 140) (.c (.int .i64 1)), none⟩, ⟨some 13, .mov (.s 141), none⟩]
@[reducible] def slices_partitionCmpFunc.r17 : List MOp := [⟨some 142, .mov (.s 12), none⟩, ⟨some 143, .mov (.s 13), none⟩, ⟨some 144, .bin .gtr (.s 142) (.s 143), none⟩]
@[reducible] def slices_partitionCmpFunc.r18 : List MOp := [⟨some 145, .mov (.s 0), none⟩, ⟨some 146, .mov (.s 12), none⟩, ⟨some 147, .mov (.s 0), none⟩, ⟨some 148, .mov (.s 13), none⟩, ⟨some 149, .mov (.s 0), none⟩, ⟨some 150, .mov (.s 13), none⟩, ⟨some 151, .sidx false tS (.s 149) (.s 150), none⟩, ⟨some 152, .load false none tS (.s 151), none⟩, ⟨some 153, .mov (.s 0), none⟩, ⟨some 154, .mov (.s 12), none⟩, ⟨some 155, .sidx false tS (.s 153) (.s 154), none⟩, ⟨some 156, .load false none tS (.s 155), none⟩, ⟨some 157, .sidx false tS (.s 145) (.s 146), none⟩, ⟨none, .store tS [] (.s 157) (.s 152), none⟩, ⟨some 158, .sidx false tS (.s 147) (.s 148), none⟩, ⟨none, .store tS [] (.s 158) (.s 156), none⟩]
@[reducible] def slices_partitionCmpFunc.r19 : List MOp := [⟨some 159, .mov (.s 12), none⟩, ⟨some 160, .bin .add (.s 159) (.c (.int .i64 1)), none⟩, ⟨some 12, .mov (.s 160), none⟩]
@[reducible] def slices_partitionCmpFunc.r20 : List MOp := [⟨some 161, .mov (.s 13), none⟩, ⟨some 162, .bin .sub (.s 161) (.c (.int .i64 1)), none⟩, ⟨some 13, .mov (.s 162), none⟩]
@[reducible] def slices_partitionCmpFunc.r21 : List MOp := [⟨some 163, .mov (.s 0), none⟩, ⟨some 164, .mov (.s 13), none⟩, ⟨some 165, .mov (.s 0), none⟩, ⟨some 166, .mov (.s 1), none⟩, ⟨some 167, .mov (.s 0), none⟩, ⟨some 168, .mov (.s 1), none⟩, ⟨some 169, .sidx false tS (.s 167) (.s 168), none⟩, ⟨some 170, .load false none tS (.s 169), none⟩, ⟨some 171, .mov (.s 0), none⟩, ⟨some 172, .mov (.s 13), none⟩, ⟨some 173, .sidx false tS (.s 171) (.s 172), none⟩, ⟨some 174, .load false none tS (.s 173), none⟩, ⟨some 175, .sidx false tS (.s 163) (.s 164), none⟩, ⟨none, .store tS [] (.s 175) (.s 170), none⟩, ⟨some 176, .sidx false tS (.s 165) (.s 166), none⟩, ⟨none, .store tS [] (.s 176) (.s 174), none⟩]
@[reducible] def slices_partitionCmpFunc.r22 : List MOp := [⟨some 177, .mov (.s 13), none⟩, ⟨some 10, .mov (.s 177), none⟩, ⟨some 11, .mov (.c (.bool false)), none⟩]
@[reducible] def slices_partitionCmpFunc.body : MC := (.seq (.reg false slices_partitionCmpFunc.r0 [10, 11]) (.seq (.reg true slices_partitionCmpFunc.r1 [3, 14, 15, 16, 17, 18, 19, 20, 21, 22, 23, 24, 25, 26, 27]) (.seq (.reg false slices_partitionCmpFunc.r2 [2, 28, 29, 30, 31]) (.seq (.block 0 (.loop [0, 1, 4, 12, 13] [] (.seq (.seq (.reg true slices_partitionCmpFunc.r3 [32, 33, 34, 35, 36, 37, 38, 39, 40, 41, 42, 43, 44, 45, 46]) (.cond (.s 47) .skip (.exit 0))) (.block 1 (.reg false slices_partitionCmpFunc.r4 [48, 49]))))) (.seq (.block 2 (.loop [0, 1, 4, 12, 13] [] (.seq (.seq (.reg true slices_partitionCmpFunc.r5 [50, 51, 52, 53, 54, 55, 56, 57, 58, 59, 60, 61, 62, 63, 64, 65]) (.cond (.s 66) .skip (.exit 2))) (.block 3 (.reg false slices_partitionCmpFunc.r6 [67, 68]))))) (.seq (.seq (.reg false slices_partitionCmpFunc.r7 [69, 70]) (.cond (.s 71) (.seq (.reg true slices_partitionCmpFunc.r8 [0, 1, 72, 73, 74, 75, 76, 77, 78, 79, 80, 81, 82, 83, 84, 85]) (.seq (.reg false slices_partitionCmpFunc.r9 [13, 86]) .ret)) .skip)) (.seq (.reg true slices_partitionCmpFunc.r10 [87, 88, 89, 90, 91, 92, 93, 94, 95, 96, 97, 98, 99, 100]) (.seq (.reg false slices_partitionCmpFunc.r11 [101, 102]) (.seq (.reg false slices_partitionCmpFunc.r12 [103, 104]) (.seq (.block 4 (.loop [0, 1, 4, 12, 13] [] (.block 5 (.seq (.block 6 (.loop [0, 1, 4, 12, 13] [] (.seq (.seq (.reg true slices_partitionCmpFunc.r13 [105, 106, 107, 108, 109, 110, 111, 112, 113, 114, 115, 116, 117, 118, 119]) (.cond (.s 120) .skip (.exit 6))) (.block 7 (.reg false slices_partitionCmpFunc.r14 [121, 122]))))) (.seq (.block 8 (.loop [0, 1, 4, 12, 13] [] (.seq (.seq (.reg true slices_partitionCmpFunc.r15 [123, 124, 125, 126, 127, 128, 129, 130, 131, 132, 133, 134, 135, 136, 137, 138]) (.cond (.s 139) .skip (.exit 8))) (.block 9 (.reg false slices_partitionCmpFunc.r16 [140, 141]))))) (.seq (.seq (.reg false slices_partitionCmpFunc.r17 [142, 143]) (.cond (.s 144) (.exit 4) .skip)) (.seq (.reg true slices_partitionCmpFunc.r18 [145, 146, 147, 148, 149, 150, 151, 152, 153, 154, 155, 156, 157, 158]) (.seq (.reg false slices_partitionCmpFunc.r19 [159, 160]) (.reg false slices_partitionCmpFunc.r20 [161, 162]))))))))) (.seq (.reg true slices_partitionCmpFunc.r21 [0, 1, 163, 164, 165, 166, 167, 168, 169, 170, 171, 172, 173, 174, 175, 176]) (.seq (.reg false slices_partitionCmpFunc.r22 [13, 177]) .ret))))))))))))
@[reducible] def slices_partitionCmpFunc : MFun := { params := 5, nfree := 0, res := [.tmp 10, .tmp 11], body := slices_partitionCmpFunc.body }
@[reducible] def slices_partitionEqualCmpFunc.r0 : List MOp := [⟨some 10, .mov (.c (.int .i64 0)), none⟩]
@[reducible] def slices_partitionEqualCmpFunc.r1 : List MOp := [⟨some 13, .mov (.s 0), none⟩, ⟨some 14, .mov (.s 1), none⟩, ⟨some 15, .mov (.s 0), none⟩, ⟨some 16, .mov (.s 3), none⟩, ⟨some 17, .mov (.s 0), none⟩, ⟨some 18, .mov (.s 3), none⟩, ⟨some 19, .sidx false tS (.s 17) (.s 18), none⟩, ⟨some 20, .load false none tS (.s 19), none⟩, ⟨some 21, .mov (.s 0), none⟩, ⟨some 22, .mov (.s 1), none⟩, ⟨some 23, .sidx false tS (.s 21) (.s 22), none⟩, ⟨some 24, .load false none tS (.s 23), none⟩, ⟨some 25, .sidx false tS (.s 13) (.s 14), none⟩, ⟨none, .store tS [] (.s 25) (.s 20), none⟩, ⟨some 26, .sidx false tS (.s 15) (.s 16), none⟩, ⟨none, .store tS [] (.s 26) (.s 24), none⟩]
@[reducible] def slices_partitionEqualCmpFunc.r2 : List MOp := [⟨some 27, .mov (.s 1), none⟩, ⟨some 28, .bin .add (.s 27) (.c (.int .i64 1)), none⟩, ⟨some 29, .mov (.s 2), none⟩, ⟨some 30, .bin .sub (.s 29) (.c (.int .i64 1)), none⟩, ⟨some 11, .mov (.s 28), none⟩, ⟨some 12, .mov (.s 30), none⟩]
@[reducible] def slices_partitionEqualCmpFunc.r3 : List MOp := [⟨some 31, .mov (.s 11), none⟩, ⟨some 32, .mov (.s 12), none⟩, ⟨some 33, .bin .leq (.s 31) (.s 32), none⟩, ⟨some 34, .mov (.s 33), none⟩, ⟨some 35, .mov (.s 4), some (34, true)⟩, ⟨some 36, .mov (.s 0), some (34, true)⟩, ⟨some 37, .mov (.s 1), some (34, true)⟩, ⟨some 38, .sidx false tS (.s 36) (.s 37), some (34, true)⟩, ⟨some 39, .load false none tS (.s 38), some (34, true)⟩, ⟨some 40, .mov (.s 0), some (34, true)⟩, ⟨some 41, .mov (.s 11), some (34, true)⟩, ⟨some 42, .sidx false tS (.s 40) (.s 41), some (34, true)⟩, ⟨some 43, .load false none tS (.s 42), some (34, true)⟩, ⟨some 44, .callv false [] (.s 35) [(.s 39), (.s 43)], some (34, true)⟩, ⟨some 45, .bin .lss (.s 44) (.c (.int .i64 0)), some (34, true)⟩, ⟨some 46, .un .not (.s 45), some (34, true)⟩, ⟨some 47, .pick (.s 34) (.s 46) (.c (.bool false)), none⟩]
@[reducible] def slices_partitionEqualCmpFunc.r4 : List MOp := [⟨some 48, .mov (.s 11), none⟩, ⟨some 49, .bin .add (.s 48) (.c (.int .i64 1)), none⟩, ⟨some 11, .mov (.s 49), none⟩]
@[reducible] def slices_partitionEqualCmpFunc.r5 : List MOp := [⟨some 50, .mov (.s 11), none⟩, ⟨some 51, .mov (.s 12), none⟩, ⟨some 52, .bin .leq (.s 50) (.s 51), none⟩, ⟨some 53, .mov (.s 52), none⟩, ⟨some 54, .mov (.s 4), some (53, true)⟩, ⟨some 55, .mov (.s 0), some (53, true)⟩, ⟨some 56, .mov (.s 1), some (53, true)⟩, ⟨some 57, .sidx false tS (.s 55) (.s 56), some (53, true)⟩, ⟨some 58, .load false none tS (.s 57), some (53, true)⟩, ⟨some 59, .mov (.s 0), some (53, true)⟩, ⟨some 60, .mov (.s 12), some (53, true)⟩, ⟨some 61, .sidx false tS (.s 59) (.s 60), some (53, true)⟩, ⟨some 62, .load false none tS (.s 61), some (53, true)⟩, ⟨some 63, .callv false [] (.s 54) [(.s 58), (.s 62)], some (53, true)⟩, ⟨some 64, .bin .lss (.s 63) (.c (.int .i64 0)), some (53, true)⟩, ⟨some 65, .pick (.s 53) (.s 64) (.c (.bool false)), none⟩]
@[reducible] def slices_partitionEqualCmpFunc.r6 : List MOp := [⟨some 66, .mov (.s 12), none⟩, ⟨some 67, .bin .sub (.s 66) (.c (.int .i64 1)), none⟩, ⟨some 12, .mov (.s 67), none⟩]
@[reducible] def slices_partitionEqualCmpFunc.r7 : List MOp := [⟨some 68, .mov (.s 11), none⟩, ⟨some 69, .mov (.s 12), none⟩, ⟨some 70, .bin .gtr (.s 68) (.s 69), none⟩]
@[reducible] def slices_partitionEqualCmpFunc.r8 : List MOp := [⟨some 71, .mov (.s 0), none⟩, ⟨some 72, .mov (.s 11), none⟩, ⟨some 73, .mov (.s 0), none⟩, ⟨some 74, .mov (.s 12), none⟩, ⟨some 75, .mov (.s 0), none⟩, ⟨some 76, .mov (.s 12), none⟩, ⟨some 77, .sidx false tS (.s 75) (.s 76), none⟩, ⟨some 78, .load false none tS (.s 77), none⟩, ⟨some 79, .mov (.s 0), none⟩, ⟨some 80, .mov (.s 11), none⟩, ⟨some 81, .sidx false tS (.s 79) (.s 80), none⟩, ⟨some 82, .load false none tS (.s 81), none⟩, ⟨some 83, .sidx false tS (.s 71) (.s 72), none⟩, ⟨none, .store tS [] (.s 83) (.s 78), none⟩, ⟨some 84, .sidx false tS (.s 73) (.s 74), none⟩, ⟨none, .store tS [] (.s 84) (.s 82), none⟩]
@[reducible] def slices_partitionEqualCmpFunc.r9 : List MOp := [⟨some 85, .mov (.s 11), none⟩, ⟨some 86, .bin .add (.s 85) (.c (.int .i64 1)), none⟩, ⟨some 11, .mov (.s 86), none⟩]
@[reducible] def slices_partitionEqualCmpFunc.r10 : List MOp := [⟨some 87, .mov (.s 12), none⟩, ⟨some 88, .bin .sub (.s 87) (.c (.int .i64 1)), none⟩, ⟨some 12, .mov (.s 88), none⟩]
@[reducible] def slices_partitionEqualCmpFunc.r11 : List MOp := [⟨some 89, .mov (.s 11), none⟩, ⟨some 10, .mov (.s 89), none⟩]
@[reducible] def slices_partitionEqualCmpFunc.body : MC := (.seq (.reg false slices_partitionEqualCmpFunc.r0 [10]) (.seq (.reg true slices_partitionEqualCmpFunc.r1 [3, 13, 14, 15, 16, 17, 18, 19, 20, 21, 22, 23, 24, 25, 26]) (.seq (.reg false slices_partitionEqualCmpFunc.r2 [2, 27, 28, 29, 30]) (.seq (.block 0 (.loop [0, 1, 4, 11, 12] [] (.block 1 (.seq (.block 2 (.loop [0, 1, 4, 11, 12] [] (.seq (.seq (.reg true slices_partitionEqualCmpFunc.r3 [31, 32, 33, 34, 35, 36, 37, 38, 39, 40, 41, 42, 43, 44, 45, 46]) (.cond (.s 47) .skip (.exit 2))) (.block 3 (.reg false slices_partitionEqualCmpFunc.r4 [48, 49]))))) (.seq (.block 4 (.loop [0, 1, 4, 11, 12] [] (.seq (.seq (.reg true slices_partitionEqualCmpFunc.r5 [50, 51, 52, 53, 54, 55, 56, 57, 58, 59, 60, 61, 62, 63, 64]) (.cond (.s 65) .skip (.exit 4))) (.block 5 (.reg false slices_partitionEqualCmpFunc.r6 [66, 67]))))) (.seq (.seq (.reg false slices_partitionEqualCmpFunc.r7 [68, 69]) (.cond (.s 70) (.exit 0) .skip)) (.seq (.reg true slices_partitionEqualCmpFunc.r8 [71, 72, 73, 74, 75, 76, 77, 78, 79, 80, 81, 82, 83, 84]) (.seq (.reg false slices_partitionEqualCmpFunc.r9 [85, 86]) (.reg false slices_partitionEqualCmpFunc.r10 [87, 88]))))))))) (.seq (.reg false slices_partitionEqualCmpFunc.r11 [11, 89]) .ret)))))
@[reducible] def slices_partitionEqualCmpFunc : MFun := { params := 5, nfree := 0, res := [.tmp 10], body := slices_partitionEqualCmpFunc.body }
@[reducible] def slices_partialInsertionSortCmpFunc.r0 : List MOp := [⟨some 8, .mov (.c (.bool false)), none⟩]
@[reducible] def slices_partialInsertionSortCmpFunc.r1 : List MOp := [⟨some 13, .mov (.s 1), none⟩, ⟨some 14, .bin .add (.s 13) (.c (.int .i64 1)), none⟩, ⟨some 9, .mov (.s 14), none⟩]
@[reducible] def slices_partialInsertionSortCmpFunc.r2 : List MOp := [⟨some 10, .mov (.c (.int .i64 0)), none⟩]
@[reducible] def slices_partialInsertionSortCmpFunc.r3 : List MOp := [⟨some 15, .mov (.s 10), none⟩, ⟨some 16, .bin .lss (.s 15) (.c (.int .i64 5)), none⟩]
@[reducible] def slices_partialInsertionSortCmpFunc.r4 : List MOp := [⟨some 17, .mov (.s 10), none⟩, ⟨some 18, .bin .add (.s 17) (.c (.int .i64 1)), none⟩, ⟨some 10, .mov (.s 18), none⟩]
@[reducible] def slices_partialInsertionSortCmpFunc.r5 : List MOp := [⟨some 19, .mov (.s 9), none⟩, ⟨some 20, .mov (.s 2), none⟩, ⟨some 21, .bin .lss (.s 19) (.s 20), none⟩, ⟨some 22, .mov (.s 21), none⟩, ⟨some 23, .mov (.s 3), some (22, true)⟩, ⟨some 24, .mov (.s 0), some (22, true)⟩, ⟨some 25, .mov (.s 9), some (22, true)⟩, ⟨some 26, .sidx false tS (.s 24) (.s 25), some (22, true)⟩, ⟨some 27, .load false none tS (.s 26), some (22, true)⟩, ⟨some 28, .mov (.s 0), some (22, true)⟩, ⟨some 29, .mov (.s 9), some (22, true)⟩, ⟨some 30, .bin .sub (.s 29) (.c (.int .i64 1)), some (22, true)⟩, ⟨some 31, .sidx false tS (.s 28) (.s 30), some (22, true)⟩, ⟨some 32, .load false none tS (.s 31), some (22, true)⟩, ⟨some 33, .callv false [] (.s 23) [(.s 27), (.s 32)], some (22, true)⟩, ⟨some 34, .bin .lss (.s 33) (.c (.int .i64 0)), some (22, true)⟩, ⟨some 35, .un .not (.s 34), some (22, true)⟩, ⟨some 36, .pick (.s 22) (.s 35) (.c (.bool false)), none⟩]
@[reducible] def slices_partialInsertionSortCmpFunc.r6 : List MOp := [⟨some 37, .mov (.s 9), none⟩, ⟨some 38, .bin .add (.s 37) (.c (.int .i64 1)), none⟩, ⟨some 9, .mov (.s 38), none⟩]
@[reducible] def slices_partialInsertionSortCmpFunc.r7 : List MOp := [⟨some 39, .mov (.s 9), none⟩, ⟨some 40, .mov (.s 2), none⟩, ⟨some 41, .bin .eql (.s 39) (.s 40), none⟩]
@[reducible] def slices_partialInsertionSortCmpFunc.r8 : List MOp := [⟨some 8, .mov (.c (.bool true)), none⟩]
@[reducible] def slices_partialInsertionSortCmpFunc.r9 : List MOp := [⟨some 42, .mov (.s 2), none⟩, ⟨some 43, .mov (.s 1), none⟩, ⟨some 44, .bin .sub (.s 42) (.s 43), none⟩, ⟨some 45, .bin .lss (.s 44) (.c (.int .i64 50)), none⟩]
@[reducible] def slices_partialInsertionSortCmpFunc.r10 : List MOp := [⟨some 8, .mov (.c (.bool false)), none⟩]
@[reducible] def slices_partialInsertionSortCmpFunc.r11 : List MOp := [⟨some 46, .mov (.s 0), none⟩, ⟨some 47, .mov (.s 9), none⟩, ⟨some 48, .mov (.s 0), none⟩, ⟨some 49, .mov (.s 9), none⟩, ⟨some 50, .bin .sub (.s 49) (.c (.int .i64 1)), none⟩, ⟨some 51, .mov (.s 0), none⟩, ⟨some 52, .mov (.s 9), none⟩, ⟨some 53, .bin .sub (.s 52) (.c (.int .i64 1)), none⟩, ⟨some 54, .sidx false tS (.s 51) (.s 53), none⟩, ⟨some 55, .load false none tS (.s 54), none⟩, ⟨some 56, .mov (.s 0), none⟩, ⟨some 57, .mov (.s 9), none⟩, ⟨some 58, .sidx false tS (.s 56) (.s 57), none⟩, ⟨some 59, .load false none tS (.s 58), none⟩, ⟨some 60, .sidx false tS (.s 46) (.s 47), none⟩, ⟨none, .store tS [] (.s 60) (.s 55), none⟩, ⟨some 61, .sidx false tS (.s 48) (.s 50), none⟩, ⟨none, .store tS [] (.s 61) (.s 59), none⟩]
@[reducible] def slices_partialInsertionSortCmpFunc.r12 : List MOp := [⟨some 62, .mov (.s 9), none⟩, ⟨some 63, .mov (.s 1), none⟩, ⟨some 64, .bin .sub (.s 62) (.s 63), none⟩, ⟨some 65, .bin .geq (.s 64) (.c (.int .i64 2)), none⟩]
@[reducible] def slices_partialInsertionSortCmpFunc.r13 : List MOp := [⟨some 66, .mov (.s 9), none⟩, ⟨some 67, .bin .sub (.s 66) (.c (.int .i64 1)), none⟩, ⟨some 11, .mov (.s 67), none⟩]
@[reducible] def slices_partialInsertionSortCmpFunc.r14 : List MOp := [⟨some 68, .mov (.s 11), none⟩, ⟨some 69, .bin .geq (.s 68) (.c (.int .i64 1)), none⟩]
@[reducible] def slices_partialInsertionSortCmpFunc.r15 : List MOp := [⟨some 70, .mov (.s 11), none⟩, ⟨some 71, .bin .sub (.s 70) (.c (.int .i64 1)), none⟩, ⟨some 11, .mov (.s 71), none⟩]
@[reducible] def slices_partialInsertionSortCmpFunc.r16 : List MOp := [⟨some 72, .mov (.s 3), none⟩, ⟨some 73, .mov (.s 0), none⟩, ⟨some 74, .mov (.s 11), none⟩, ⟨some 75, .sidx false tS (.s 73) (.s 74), none⟩, ⟨some 76, .load false none tS (.s 75), none⟩, ⟨some 77, .mov (.s 0), none⟩, ⟨some 78, .mov (.s 11), none⟩, ⟨some 79, .bin .sub (.s 78) (.c (.int .i64 1)), none⟩, ⟨some 80, .sidx false tS (.s 77) (.s 79), none⟩, ⟨some 81, .load false none tS (.s 80), none⟩, ⟨some 82, .callv false [] (.s 72) [(.s 76), (.s 81)], none⟩, ⟨some 83, .bin .lss (.s 82) (.c (.int .i64 0)), none⟩, ⟨some 84, .un .not (.s 83), none⟩]
@[reducible] def slices_partialInsertionSortCmpFunc.r17 : List MOp := [⟨some 85, .mov (.s 0), none⟩, ⟨some 86, .mov (.s 11), none⟩, ⟨some 87, .mov (.s 0), none⟩, ⟨some 88, .mov (.s 11), none⟩, ⟨some 89, .bin .sub (.s 88) (.c (.int .i64 1)), none⟩, ⟨some 90, .mov (.s 0), none⟩, ⟨some 91, .mov (.s 11), none⟩, ⟨some 92, .bin .sub (.s 91) (.c (.int .i64 1)), none⟩, ⟨some 93, .sidx false tS (.s 90) (.s 92), none⟩, ⟨some 94, .load false none tS (.s 93), none⟩, ⟨some 95, .mov (.s 0), none⟩, ⟨some 96, .mov (.s 11), none⟩, ⟨some 97, .sidx false tS (.s 95) (.s 96), none⟩, ⟨some 98, .load false none tS (.s 97), none⟩, ⟨some 99, .sidx false tS (.s 85) (.s 86), none⟩, ⟨none, .store tS [] (.s 99) (.s 94), none⟩, ⟨some 100, .sidx false tS (.s 87) (.s 89), none⟩, ⟨none, .store tS [] (.s 100) (.s 98), none⟩]
@[reducible] def slices_partialInsertionSortCmpFunc.r18 : List MOp := [⟨some 101, .mov (.s 2), none⟩, ⟨some 102, .mov (.s 9), none⟩, ⟨some 103, .bin .sub (.s 101) (.s 102), none⟩, ⟨some 104, .bin .geq (.s 103) (.c (.int .i64 2)), none⟩]
@[reducible] def slices_partialInsertionSortCmpFunc.r19 : List MOp := [⟨some 105, .mov (.s 9), none⟩, ⟨some 106, .bin .add (.s 105) (.c (.int .i64 1)), none⟩, ⟨some 12, .mov (.s 106), none⟩]
@[reducible] def slices_partialInsertionSortCmpFunc.r20 : List MOp := [⟨some 107, .mov (.s 12), none⟩, ⟨some 108, .mov (.s 2), none⟩, ⟨some 109, .bin .lss (.s 107) (.s 108), none⟩]
@[reducible] def slices_partialInsertionSortCmpFunc.r21 : List MOp := [⟨some 110, .mov (.s 12), none⟩, ⟨some 111, .bin .add (.s 110) (.c (.int .i64 1)), none⟩, ⟨some 12, .mov (.s 111), none⟩]
@[reducible] def slices_partialInsertionSortCmpFunc.r22 : List MOp := [⟨some 112, .mov (.s 3), none⟩, ⟨some 113, .mov (.s 0), none⟩, ⟨some 114, .mov (.s 12), none⟩, ⟨some 115, .sidx false tS (.s 113) (.s 114), none⟩, ⟨some 116, .load false none tS (.s 115), none⟩, ⟨some 117, .mov (.s 0), none⟩, ⟨some 118, .mov (.s 12), none⟩, ⟨some 119, .bin .sub (.s 118) (.c (.int .i64 1)), none⟩, ⟨some 120, .sidx false tS (.s 117) (.s 119), none⟩, ⟨some 121, .load false none tS (.s 120), none⟩, ⟨some 122, .callv false [] (.s 112) [(.s 116), (.s 121)], none⟩, ⟨some 123, .bin .lss (.s 122) (.c (.int .i64 0)), none⟩, ⟨some 124, .un .not (.s 123), none⟩]
@[reducible] def slices_partialInsertionSortCmpFunc.r23 : List MOp := [⟨some 125, .mov (.s 0), none⟩, ⟨some 126, .mov (.s 12), none⟩, ⟨some 127, .mov (.s 0), none⟩, ⟨some 128, .mov (.s 12), none⟩, ⟨some 129, .bin .sub (.s 128) (.c (.int .i64 1)), none⟩, ⟨some 130, .mov (.s 0), none⟩, ⟨some 131, .mov (.s 12), none⟩, ⟨some 132, .bin .sub (.s 131) (.c (.int .i64 1)), none⟩, ⟨some 133, .sidx false tS (.s 130) (.s 132), none⟩, ⟨some 134, .load false none tS (.s 133), none⟩, ⟨some 135, .mov (.s 0), none⟩, ⟨some 136, .mov (.s 12), none⟩, ⟨some 137, .sidx false tS (.s 135) (.s 136), none⟩, ⟨some 138, .load false none tS (.s 137), none⟩, ⟨some 139, .sidx false tS (.s 125) (.s 126), none⟩, ⟨none, .store tS [] (.s 139) (.s 134), none⟩, ⟨some 140, .sidx false tS (.s 127) (.s 129), none⟩, ⟨none, .store tS [] (.s 140) (.s 138), none⟩]
@[reducible] def slices_partialInsertionSortCmpFunc.r24 : List MOp := [⟨some 8, .mov (.c (.bool false)), none⟩]
@[reducible] def slices_partialInsertionSortCmpFunc.body : MC := (.seq (.reg false slices_partialInsertionSortCmpFunc.r0 [8]) (.seq (.reg false slices_partialInsertionSortCmpFunc.r1 [13, 14]) (.seq (.seq (.reg false slices_partialInsertionSortCmpFunc.r2 []) (.block 0 (.loop [0, 1, 2, 3, 9, 10] [] (.seq (.seq (.reg false slices_partialInsertionSortCmpFunc.r3 [15]) (.cond (.s 16) .skip (.exit 0))) (.seq (.block 1 (.seq (.block 2 (.loop [0, 1, 2, 3, 9, 10] [] (.seq (.seq (.reg true slices_partialInsertionSortCmpFunc.r5 [19, 20, 21, 22, 23, 24, 25, 26, 27, 28, 29, 30, 31, 32, 33, 34, 35]) (.cond (.s 36) .skip (.exit 2))) (.block 3 (.reg false slices_partialInsertionSortCmpFunc.r6 [37, 38]))))) (.seq (.seq (.reg false slices_partialInsertionSortCmpFunc.r7 [39, 40]) (.cond (.s 41) (.seq (.reg false slices_partialInsertionSortCmpFunc.r8 []) .ret) .skip)) (.seq (.seq (.reg false slices_partialInsertionSortCmpFunc.r9 [42, 43, 44]) (.cond (.s 45) (.seq (.reg false slices_partialInsertionSortCmpFunc.r10 []) .ret) .skip)) (.seq (.reg true slices_partialInsertionSortCmpFunc.r11 [46, 47, 48, 49, 50, 51, 52, 53, 54, 55, 56, 57, 58, 59, 60, 61]) (.seq (.seq (.reg false slices_partialInsertionSortCmpFunc.r12 [62, 63, 64]) (.cond (.s 65) (.seq (.reg false slices_partialInsertionSortCmpFunc.r13 [66, 67]) (.block 4 (.loop [0, 1, 2, 3, 9, 10, 11] [] (.seq (.seq (.reg false slices_partialInsertionSortCmpFunc.r14 [68]) (.cond (.s 69) .skip (.exit 4))) (.seq (.block 5 (.seq (.seq (.reg true slices_partialInsertionSortCmpFunc.r16 [72, 73, 74, 75, 76, 77, 78, 79, 80, 81, 82, 83]) (.cond (.s 84) (.exit 4) .skip)) (.reg true slices_partialInsertionSortCmpFunc.r17 [85, 86, 87, 88, 89, 90, 91, 92, 93, 94, 95, 96, 97, 98, 99, 100]))) (.reg false slices_partialInsertionSortCmpFunc.r15 [70, 71])))))) .skip)) (.seq (.reg false slices_partialInsertionSortCmpFunc.r18 [101, 102, 103]) (.cond (.s 104) (.seq (.reg false slices_partialInsertionSortCmpFunc.r19 [105, 106]) (.block 6 (.loop [0, 1, 2, 3, 9, 10, 12] [] (.seq (.seq (.reg false slices_partialInsertionSortCmpFunc.r20 [107, 108]) (.cond (.s 109) .skip (.exit 6))) (.seq (.block 7 (.seq (.seq (.reg true slices_partialInsertionSortCmpFunc.r22 [112, 113, 114, 115, 116, 117, 118, 119, 120, 121, 122, 123]) (.cond (.s 124) (.exit 6) .skip)) (.reg true slices_partialInsertionSortCmpFunc.r23 [125, 126, 127, 128, 129, 130, 131, 132, 133, 134, 135, 136, 137, 138, 139, 140]))) (.reg false slices_partialInsertionSortCmpFunc.r21 [110, 111])))))) .skip)))))))) (.reg false slices_partialInsertionSortCmpFunc.r4 [17, 18])))))) (.seq (.reg false slices_partialInsertionSortCmpFunc.r24 []) .ret))))
@[reducible] def slices_partialInsertionSortCmpFunc : MFun := { params := 4, nfree := 0, res := [.tmp 8], body := slices_partialInsertionSortCmpFunc.body }
@[reducible] def slices_reverseRangeCmpFunc.r0 : List MOp := [⟨some 10, .mov (.s 1), none⟩, ⟨some 8, .mov (.s 10), none⟩]
@[reducible] def slices_reverseRangeCmpFunc.r1 : List MOp := [⟨some 11, .mov (.s 2), none⟩, ⟨some 12, .bin .sub (.s 11) (.c (.int .i64 1)), none⟩, ⟨some 9, .mov (.s 12), none⟩]
@[reducible] def slices_reverseRangeCmpFunc.r2 : List MOp := [⟨some 13, .mov (.s 8), none⟩, ⟨some 14, .mov (.s 9), none⟩, ⟨some 15, .bin .lss (.s 13) (.s 14), none⟩]
@[reducible] def slices_reverseRangeCmpFunc.r3 : List MOp := [⟨some 16, .mov (.s 0), none⟩, ⟨some 17, .mov (.s 8), none⟩, ⟨some 18, .mov (.s 0), none⟩, ⟨some 19, .mov (.s 9), none⟩, ⟨some 20, .mov (.s 0), none⟩, ⟨some 21, .mov (.s 9), none⟩, ⟨some 22, .sidx false tS (.s 20) (.s 21), none⟩, ⟨some 23, .load false none tS (.s 22), none⟩, ⟨some 24, .mov (.s 0), none⟩, ⟨some 25, .mov (.s 8), none⟩, ⟨some 26, .sidx false tS (.s 24) (.s 25), none⟩, ⟨some 27, .load false none tS (.s 26), none⟩, ⟨some 28, .sidx false tS (.s 16) (.s 17), none⟩, ⟨none, .store tS [] (.s 28) (.s 23), none⟩, ⟨some 29, .sidx false tS (.s 18) (.s 19), none⟩, ⟨none, .store tS [] (.s 29) (.s 27), none⟩]
@[reducible] def slices_reverseRangeCmpFunc.r4 : List MOp := [⟨some 30, .mov (.s 8), none⟩, ⟨some 31, .bin .add (.s 30) (.c (.int .i64 1)), none⟩, ⟨some 8, .mov (.s 31), none⟩]
@[reducible] def slices_reverseRangeCmpFunc.r5 : List MOp := [⟨some 32, .mov (.s 9), none⟩, ⟨some 33, .bin .sub (.s 32) (.c (.int .i64 1)), none⟩, ⟨some 9, .mov (.s 33), none⟩]
@[reducible] def slices_reverseRangeCmpFunc.body : MC := (.seq (.reg false slices_reverseRangeCmpFunc.r0 [1, 10]) (.seq (.reg false slices_reverseRangeCmpFunc.r1 [2, 11, 12]) (.block 0 (.loop [0, 8, 9] [] (.seq (.seq (.reg false slices_reverseRangeCmpFunc.r2 [13, 14]) (.cond (.s 15) .skip (.exit 0))) (.block 1 (.seq (.reg true slices_reverseRangeCmpFunc.r3 [16, 17, 18, 19, 20, 21, 22, 23, 24, 25, 26, 27, 28, 29]) (.seq (.reg false slices_reverseRangeCmpFunc.r4 [30, 31]) (.reg false slices_reverseRangeCmpFunc.r5 [32, 33])))))))))
@[reducible] def slices_reverseRangeCmpFunc : MFun := { params := 4, nfree := 0, res := [], body := slices_reverseRangeCmpFunc.body }
@[reducible] def slices_choosePivotCmpFunc.r0 : List MOp := [⟨some 8, .mov (.c (.int .i64 0)), none⟩, ⟨some 9, .mov (.c (.int .i64 0)), none⟩]
@[reducible] def slices_choosePivotCmpFunc.r1 : List MOp := [⟨some 15, .mov (.s 2), none⟩, ⟨some 16, .mov (.s 1), none⟩, ⟨some 17, .bin .sub (.s 15) (.s 16), none⟩, ⟨some 10, .mov (.s 17), none⟩]
@[reducible] def slices_choosePivotCmpFunc.r2 : List MOp := [⟨some 11, .alloc false tI, none⟩]
@[reducible] def slices_choosePivotCmpFunc.r3 : List MOp := [⟨some 18, .mov (.s 1), none⟩, ⟨some 19, .mov (.s 10), none⟩, ⟨some 20, .bin .quo (.s 19) (.c (.int .i64 4)), none⟩, ⟨some 21, .bin .mul (.s 20) (.c (.int .i64 1)), none⟩, ⟨some 22, .bin .add (.s 18) (.s 21), none⟩, ⟨some 12, .mov (.s 22), none⟩]
@[reducible] def slices_choosePivotCmpFunc.r4 : List MOp := [⟨some 23, .mov (.s 1), none⟩, ⟨some 24, .mov (.s 10), none⟩, ⟨some 25, .bin .quo (.s 24) (.c (.int .i64 4)), none⟩, ⟨some 26, .bin .mul (.s 25) (.c (.int .i64 2)), none⟩, ⟨some 27, .bin .add (.s 23) (.s 26), none⟩, ⟨some 13, .mov (.s 27), none⟩]
@[reducible] def slices_choosePivotCmpFunc.r5 : List MOp := [⟨some 28, .mov (.s 1), none⟩, ⟨some 29, .mov (.s 10), none⟩, ⟨some 30, .bin .quo (.s 29) (.c (.int .i64 4)), none⟩, ⟨some 31, .bin .mul (.s 30) (.c (.int .i64 3)), none⟩, ⟨some 32, .bin .add (.s 28) (.s 31), none⟩, ⟨some 14, .mov (.s 32), none⟩]
@[reducible] def slices_choosePivotCmpFunc.r6 : List MOp := [⟨some 33, .mov (.s 10), none⟩, ⟨some 34, .bin .geq (.s 33) (.c (.int .i64 8)), none⟩]
@[reducible] def slices_choosePivotCmpFunc.r7 : List MOp := [⟨some 35, .mov (.s 10), none⟩, ⟨some 36, .bin .geq (.s 35) (.c (.int .i64 50)), none⟩]
@[reducible] def slices_choosePivotCmpFunc.r8 : List MOp := [⟨some 37, .mov (.s 0), none⟩, ⟨some 38, .mov (.s 12), none⟩, ⟨some 39, .mov (.s 3), none⟩, ⟨some 40, .call false [] 258 [(.s 37), (.s 38), (.s 11), (.s 39)], none⟩, ⟨some 12, .mov (.s 40), none⟩]
@[reducible] def slices_choosePivotCmpFunc.r9 : List MOp := [⟨some 41, .mov (.s 0), none⟩, ⟨some 42, .mov (.s 13), none⟩, ⟨some 43, .mov (.s 3), none⟩, ⟨some 44, .call false [] 258 [(.s 41), (.s 42), (.s 11), (.s 43)], none⟩, ⟨some 13, .mov (.s 44), none⟩]
@[reducible] def slices_choosePivotCmpFunc.r10 : List MOp := [⟨some 45, .mov (.s 0), none⟩, ⟨some 46, .mov (.s 14), none⟩, ⟨some 47, .mov (.s 3), none⟩, ⟨some 48, .call false [] 258 [(.s 45), (.s 46), (.s 11), (.s 47)], none⟩, ⟨some 14, .mov (.s 48), none⟩]
@[reducible] def slices_choosePivotCmpFunc.r11 : List MOp := [⟨some 49, .mov (.s 0), none⟩, ⟨some 50, .mov (.s 12), none⟩, ⟨some 51, .mov (.s 13), none⟩, ⟨some 52, .mov (.s 14), none⟩, ⟨some 53, .mov (.s 3), none⟩, ⟨some 54, .call false [] 257 [(.s 49), (.s 50), (.s 51), (.s 52), (.s 11), (.s 53)], none⟩, ⟨some 13, .mov (.s 54), none⟩]
@[reducible] def slices_choosePivotCmpFunc.r12 : List MOp := [⟨some 55, .load false none tI (.s 11), none⟩]
@[reducible] def slices_choosePivotCmpFunc.r13 : List MOp := [⟨some 56, .mov (.s 13), none⟩, ⟨some 8, .mov (.s 56), none⟩, ⟨some 9, .mov (.c (.int .i64 0)), none⟩]
@[reducible] def slices_choosePivotCmpFunc.r14 : List MOp := [⟨some 58, .bin .eql (.s 55) (.c (.int .i64 0)), none⟩, ⟨some 57, .mov (.s 58), none⟩]
@[reducible] def slices_choosePivotCmpFunc.r15 : List MOp := [⟨some 59, .mov (.s 13), none⟩, ⟨some 8, .mov (.s 59), none⟩, ⟨some 9, .mov (.c (.int .i64 1)), none⟩]
@[reducible] def slices_choosePivotCmpFunc.r16 : List MOp := [⟨some 61, .bin .eql (.s 55) (.c (.int .i64 12)), none⟩, ⟨some 60, .mov (.s 61), none⟩]
@[reducible] def slices_choosePivotCmpFunc.r17 : List MOp := [⟨some 62, .mov (.s 13), none⟩, ⟨some 8, .mov (.s 62), none⟩, ⟨some 9, .mov (.c (.int .i64 2)), none⟩]
@[reducible] def slices_choosePivotCmpFunc.body : MC := (.seq (.reg false slices_choosePivotCmpFunc.r0 [8, 9]) (.seq (.reg false slices_choosePivotCmpFunc.r1 [2, 15, 16, 17]) (.seq (.reg false slices_choosePivotCmpFunc.r2 []) (.seq (.reg false slices_choosePivotCmpFunc.r3 [18, 19, 20, 21, 22]) (.seq (.reg false slices_choosePivotCmpFunc.r4 [23, 24, 25, 26, 27]) (.seq (.reg false slices_choosePivotCmpFunc.r5 [1, 28, 29, 30, 31, 32]) (.seq (.seq (.reg false slices_choosePivotCmpFunc.r6 [33]) (.cond (.s 34) (.seq (.seq (.reg false slices_choosePivotCmpFunc.r7 [10, 35]) (.cond (.s 36) (.seq (.reg false slices_choosePivotCmpFunc.r8 [37, 38, 39, 40]) (.seq (.reg false slices_choosePivotCmpFunc.r9 [41, 42, 43, 44]) (.reg false slices_choosePivotCmpFunc.r10 [45, 46, 47, 48]))) .skip)) (.reg false slices_choosePivotCmpFunc.r11 [0, 3, 12, 14, 49, 50, 51, 52, 53, 54])) .skip)) (.seq (.reg false slices_choosePivotCmpFunc.r12 [11]) (.block 0 (.seq (.reg false slices_choosePivotCmpFunc.r14 [58]) (.cond (.s 57) (.seq (.reg false slices_choosePivotCmpFunc.r15 [13, 59]) .ret) (.seq (.reg false slices_choosePivotCmpFunc.r16 [55, 61]) (.cond (.s 60) (.seq (.reg false slices_choosePivotCmpFunc.r17 [13, 62]) .ret) (.seq (.reg false slices_choosePivotCmpFunc.r13 [13, 56]) .ret))))))))))))))
@[reducible] def slices_choosePivotCmpFunc : MFun := { params := 4, nfree := 0, res := [.tmp 8, .tmp 9], body := slices_choosePivotCmpFunc.body }
@[reducible] def slices_breakPatternsCmpFunc.r0 : List MOp := [⟨some 13, .mov (.s 2), none⟩, ⟨some 14, .mov (.s 1), none⟩, ⟨some 15, .bin .sub (.s 13) (.s 14), none⟩, ⟨some 8, .mov (.s 15), none⟩]
@[reducible] def slices_breakPatternsCmpFunc.r1 : List MOp := [⟨some 16, .mov (.s 8), none⟩, ⟨some 17, .bin .geq (.s 16) (.c (.int .i64 8)), none⟩]
@[reducible] def slices_breakPatternsCmpFunc.r2 : List MOp := [⟨some 18, .mov (.s 8), none⟩, ⟨some 19, .conv .u64 (.s 18), none⟩, ⟨some 9, .alloc false (.leaf (.int .u64)), none⟩, ⟨none, .store (.leaf (.int .u64)) [] (.s 9) (.s 19), none⟩]
@[reducible] def slices_breakPatternsCmpFunc.r3 : List MOp := [⟨some 20, .mov (.s 8), none⟩, ⟨some 21, .call false [] 256 [(.s 20)], none⟩, ⟨some 10, .mov (.s 21), none⟩]
@[reducible] def slices_breakPatternsCmpFunc.r4 : List MOp := [⟨some 22, .mov (.s 1), none⟩, ⟨some 23, .mov (.s 8), none⟩, ⟨some 24, .bin .quo (.s 23) (.c (.int .i64 4)), none⟩, ⟨some 25, .bin .mul (.s 24) (.c (.int .i64 2)), none⟩, ⟨some 26, .bin .add (.s 22) (.s 25), none⟩, ⟨some 27, .bin .sub (.s 26) (.c (.int .i64 1)), none⟩, ⟨some 11, .mov (.s 27), none⟩]
@[reducible] def slices_breakPatternsCmpFunc.r5 : List MOp := [⟨some 28, .mov (.s 11), none⟩, ⟨some 29, .mov (.s 1), none⟩, ⟨some 30, .mov (.s 8), none⟩, ⟨some 31, .bin .quo (.s 30) (.c (.int .i64 4)), none⟩, ⟨some 32, .bin .mul (.s 31) (.c (.int .i64 2)), none⟩, ⟨some 33, .bin .add (.s 29) (.s 32), none⟩, ⟨some 34, .bin .add (.s 33) (.c (.int .i64 1)), none⟩, ⟨some 35, .bin .leq (.s 28) (.s 34), none⟩]
@[reducible] def slices_breakPatternsCmpFunc.r6 : List MOp := [⟨some 36, .mov (.s 11), none⟩, ⟨some 37, .bin .add (.s 36) (.c (.int .i64 1)), none⟩, ⟨some 11, .mov (.s 37), none⟩]
@[reducible] def slices_breakPatternsCmpFunc.r7 : List MOp := [⟨some 38, .call false [] 255 [(.s 9)], none⟩, ⟨some 39, .mov (.s 10), none⟩, ⟨some 40, .bin .sub (.s 39) (.c (.int .u64 1)), none⟩, ⟨some 41, .bin .and (.s 38) (.s 40), none⟩, ⟨some 42, .conv .i64 (.s 41), none⟩, ⟨some 12, .mov (.s 42), none⟩]
@[reducible] def slices_breakPatternsCmpFunc.r8 : List MOp := [⟨some 43, .mov (.s 12), none⟩, ⟨some 44, .mov (.s 8), none⟩, ⟨some 45, .bin .geq (.s 43) (.s 44), none⟩]
@[reducible] def slices_breakPatternsCmpFunc.r9 : List MOp := [⟨some 46, .mov (.s 12), none⟩, ⟨some 47, .mov (.s 8), none⟩, ⟨some 48, .bin .sub (.s 46) (.s 47), none⟩, ⟨some 12, .mov (.s 48), none⟩]
@[reducible] def slices_breakPatternsCmpFunc.r10 : List MOp := [⟨some 49, .mov (.s 0), none⟩, ⟨some 50, .mov (.s 11), none⟩, ⟨some 51, .mov (.s 0), none⟩, ⟨some 52, .mov (.s 1), none⟩, ⟨some 53, .mov (.s 12), none⟩, ⟨some 54, .bin .add (.s 52) (.s 53), none⟩, ⟨some 55, .mov (.s 0), none⟩, ⟨some 56, .mov (.s 1), none⟩, ⟨some 57, .mov (.s 12), none⟩, ⟨some 58, .bin .add (.s 56) (.s 57), none⟩, ⟨some 59, .sidx false tS (.s 55) (.s 58), none⟩, ⟨some 60, .load false none tS (.s 59), none⟩, ⟨some 61, .mov (.s 0), none⟩, ⟨some 62, .mov (.s 11), none⟩, ⟨some 63, .sidx false tS (.s 61) (.s 62), none⟩, ⟨some 64, .load false none tS (.s 63), none⟩, ⟨some 65, .sidx false tS (.s 49) (.s 50), none⟩, ⟨none, .store tS [] (.s 65) (.s 60), none⟩, ⟨some 66, .sidx false tS (.s 51) (.s 54), none⟩, ⟨none, .store tS [] (.s 66) (.s 64), none⟩]
@[reducible] def slices_breakPatternsCmpFunc.body : MC := (.seq (.reg false slices_breakPatternsCmpFunc.r0 [2, 13, 14, 15]) (.seq (.reg false slices_breakPatternsCmpFunc.r1 [16]) (.cond (.s 17) (.seq (.reg false slices_breakPatternsCmpFunc.r2 [18, 19]) (.seq (.reg false slices_breakPatternsCmpFunc.r3 [20, 21]) (.seq (.reg false slices_breakPatternsCmpFunc.r4 [22, 23, 24, 25, 26, 27]) (.block 0 (.loop [0, 1, 8, 9, 10, 11] [9] (.seq (.seq (.reg false slices_breakPatternsCmpFunc.r5 [28, 29, 30, 31, 32, 33, 34]) (.cond (.s 35) .skip (.exit 0))) (.seq (.block 1 (.seq (.reg false slices_breakPatternsCmpFunc.r7 [38, 39, 40, 41, 42]) (.seq (.seq (.reg false slices_breakPatternsCmpFunc.r8 [43, 44]) (.cond (.s 45) (.reg false slices_breakPatternsCmpFunc.r9 [46, 47, 48]) .skip)) (.reg true slices_breakPatternsCmpFunc.r10 [12, 49, 50, 51, 52, 53, 54, 55, 56, 57, 58, 59, 60, 61, 62, 63, 64, 65, 66])))) (.reg false slices_breakPatternsCmpFunc.r6 [36, 37])))))))) .skip)))
@[reducible] def slices_breakPatternsCmpFunc : MFun := { params := 4, nfree := 0, res := [], body := slices_breakPatternsCmpFunc.body }
@[reducible] def slices_heapSortCmpFunc.r0 : List MOp := [⟨some 13, .mov (.s 1), none⟩, ⟨some 8, .mov (.s 13), none⟩]
@[reducible] def slices_heapSortCmpFunc.r1 : List MOp := [⟨some 9, .mov (.c (.int .i64 0)), none⟩]
@[reducible] def slices_heapSortCmpFunc.r2 : List MOp := [⟨some 14, .mov (.s 2), none⟩, ⟨some 15, .mov (.s 1), none⟩, ⟨some 16, .bin .sub (.s 14) (.s 15), none⟩, ⟨some 10, .mov (.s 16), none⟩]
@[reducible] def slices_heapSortCmpFunc.r3 : List MOp := [⟨some 17, .mov (.s 10), none⟩, ⟨some 18, .bin .sub (.s 17) (.c (.int .i64 1)), none⟩, ⟨some 19, .bin .quo (.s 18) (.c (.int .i64 2)), none⟩, ⟨some 11, .mov (.s 19), none⟩]
@[reducible] def slices_heapSortCmpFunc.r4 : List MOp := [⟨some 20, .mov (.s 11), none⟩, ⟨some 21, .bin .geq (.s 20) (.c (.int .i64 0)), none⟩]
@[reducible] def slices_heapSortCmpFunc.r5 : List MOp := [⟨some 22, .mov (.s 11), none⟩, ⟨some 23, .bin .sub (.s 22) (.c (.int .i64 1)), none⟩, ⟨some 11, .mov (.s 23), none⟩]
@[reducible] def slices_heapSortCmpFunc.r6 : List MOp := [⟨some 24, .mov (.s 0), none⟩, ⟨some 25, .mov (.s 11), none⟩, ⟨some 26, .mov (.s 10), none⟩, ⟨some 27, .mov (.s 8), none⟩, ⟨some 28, .mov (.s 3), none⟩, ⟨some 29, .call false [] 254 [(.s 24), (.s 25), (.s 26), (.s 27), (.s 28)], none⟩]
@[reducible] def slices_heapSortCmpFunc.r7 : List MOp := [⟨some 30, .mov (.s 10), none⟩, ⟨some 31, .bin .sub (.s 30) (.c (.int .i64 1)), none⟩, ⟨some 12, .mov (.s 31), none⟩]
@[reducible] def slices_heapSortCmpFunc.r8 : List MOp := [⟨some 32, .mov (.s 12), none⟩, ⟨some 33, .bin .geq (.s 32) (.c (.int .i64 0)), none⟩]
@[reducible] def slices_heapSortCmpFunc.r9 : List MOp := [⟨some 34, .mov (.s 12), none⟩, ⟨some 35, .bin .sub (.s 34) (.c (.int .i64 1)), none⟩, ⟨some 12, .mov (.s 35), none⟩]
@[reducible] def slices_heapSortCmpFunc.r10 : List MOp := [⟨some 36, .mov (.s 0), none⟩, ⟨some 37, .mov (.s 8), none⟩, ⟨some 38, .mov (.s 0), none⟩, ⟨some 39, .mov (.s 8), none⟩, ⟨some 40, .mov (.s 12), none⟩, ⟨some 41, .bin .add (.s 39) (.s 40), none⟩, ⟨some 42, .mov (.s 0), none⟩, ⟨some 43, .mov (.s 8), none⟩, ⟨some 44, .mov (.s 12), none⟩, ⟨some 45, .bin .add (.s 43) (.s 44), none⟩, ⟨some 46, .sidx false tS (.s 42) (.s 45), none⟩, ⟨some 47, .load false none tS (.s 46), none⟩, ⟨some 48, .mov (.s 0), none⟩, ⟨some 49, .mov (.s 8), none⟩, ⟨some 50, .sidx false tS (.s 48) (.s 49), none⟩, ⟨some 51, .load false none tS (.s 50), none⟩, ⟨some 52, .sidx false tS (.s 36) (.s 37), none⟩, ⟨none, .store tS [] (.s 52) (.s 47), none⟩, ⟨some 53, .sidx false tS (.s 38) (.s 41), none⟩, ⟨none, .store tS [] (.s 53) (.s 51), none⟩]
@[reducible] def slices_heapSortCmpFunc.r11 : List MOp := [⟨some 54, .mov (.s 0), none⟩, ⟨some 55, .mov (.s 9), none⟩, ⟨some 56, .mov (.s 12), none⟩, ⟨some 57, .mov (.s 8), none⟩, ⟨some 58, .mov (.s 3), none⟩, ⟨some 59, .call false [] 254 [(.s 54), (.s 55), (.s 56), (.s 57), (.s 58)], none⟩]
@[reducible] def slices_heapSortCmpFunc.body : MC := (.seq (.reg false slices_heapSortCmpFunc.r0 [13]) (.seq (.reg false slices_heapSortCmpFunc.r1 []) (.seq (.reg false slices_heapSortCmpFunc.r2 [1, 2, 14, 15, 16]) (.seq (.seq (.reg false slices_heapSortCmpFunc.r3 [17, 18, 19]) (.block 0 (.loop [0, 3, 8, 9, 10, 11] [] (.seq (.seq (.reg false slices_heapSortCmpFunc.r4 [20]) (.cond (.s 21) .skip (.exit 0))) (.seq (.block 1 (.reg false slices_heapSortCmpFunc.r6 [24, 25, 26, 27, 28, 29])) (.reg false slices_heapSortCmpFunc.r5 [22, 23])))))) (.seq (.reg false slices_heapSortCmpFunc.r7 [10, 30, 31]) (.block 2 (.loop [0, 3, 8, 9, 12] [] (.seq (.seq (.reg false slices_heapSortCmpFunc.r8 [32]) (.cond (.s 33) .skip (.exit 2))) (.seq (.block 3 (.seq (.reg true slices_heapSortCmpFunc.r10 [36, 37, 38, 39, 40, 41, 42, 43, 44, 45, 46, 47, 48, 49, 50, 51, 52, 53]) (.reg false slices_heapSortCmpFunc.r11 [54, 55, 56, 57, 58, 59]))) (.reg false slices_heapSortCmpFunc.r9 [34, 35]))))))))))
@[reducible] def slices_heapSortCmpFunc : MFun := { params := 4, nfree := 0, res := [], body := slices_heapSortCmpFunc.body }
@[reducible] def slices_insertionSortCmpFunc.r0 : List MOp := [⟨some 10, .mov (.s 1), none⟩, ⟨some 11, .bin .add (.s 10) (.c (.int .i64 1)), none⟩, ⟨some 8, .mov (.s 11), none⟩]
@[reducible] def slices_insertionSortCmpFunc.r1 : List MOp := [⟨some 12, .mov (.s 8), none⟩, ⟨some 13, .mov (.s 2), none⟩, ⟨some 14, .bin .lss (.s 12) (.s 13), none⟩]
@[reducible] def slices_insertionSortCmpFunc.r2 : List MOp := [⟨some 15, .mov (.s 8), none⟩, ⟨some 16, .bin .add (.s 15) (.c (.int .i64 1)), none⟩, ⟨some 8, .mov (.s 16), none⟩]
@[reducible] def slices_insertionSortCmpFunc.r3 : List MOp := [⟨some 17, .mov (.s 8), none⟩, ⟨some 9, .mov (.s 17), none⟩]
@[reducible] def slices_insertionSortCmpFunc.r4 : List MOp := [⟨some 18, .mov (.s 9), none⟩, ⟨some 19, .mov (.s 1), none⟩, ⟨some 20, .bin .gtr (.s 18) (.s 19), none⟩, ⟨some 21, .mov (.s 20), none⟩, ⟨some 22, .mov (.s 3), some (21, true)⟩, ⟨some 23, .mov (.s 0), some (21, true)⟩, ⟨some 24, .mov (.s 9), some (21, true)⟩, ⟨some 25, .sidx false tS (.s 23) (.s 24), some (21, true)⟩, ⟨some 26, .load false none tS (.s 25), some (21, true)⟩, ⟨some 27, .mov (.s 0), some (21, true)⟩, ⟨some 28, .mov (.s 9), some (21, true)⟩, ⟨some 29, .bin .sub (.s 28) (.c (.int .i64 1)), some (21, true)⟩, ⟨some 30, .sidx false tS (.s 27) (.s 29), some (21, true)⟩, ⟨some 31, .load false none tS (.s 30), some (21, true)⟩, ⟨some 32, .callv false [] (.s 22) [(.s 26), (.s 31)], some (21, true)⟩, ⟨some 33, .bin .lss (.s 32) (.c (.int .i64 0)), some (21, true)⟩, ⟨some 34, .pick (.s 21) (.s 33) (.c (.bool false)), none⟩]
@[reducible] def slices_insertionSortCmpFunc.r5 : List MOp := [⟨some 35, .mov (.s 9), none⟩, ⟨some 36, .bin .sub (.s 35) (.c (.int .i64 1)), none⟩, ⟨some 9, .mov (.s 36), none⟩]
@[reducible] def slices_insertionSortCmpFunc.r6 : List MOp := [⟨some 37, .mov (.s 0), none⟩, ⟨some 38, .mov (.s 9), none⟩, ⟨some 39, .mov (.s 0), none⟩, ⟨some 40, .mov (.s 9), none⟩, ⟨some 41, .bin .sub (.s 40) (.c (.int .i64 1)), none⟩, ⟨some 42, .mov (.s 0), none⟩, ⟨some 43, .mov (.s 9), none⟩, ⟨some 44, .bin .sub (.s 43) (.c (.int .i64 1)), none⟩, ⟨some 45, .sidx false tS (.s 42) (.s 44), none⟩, ⟨some 46, .load false none tS (.s 45), none⟩, ⟨some 47, .mov (.s 0), none⟩, ⟨some 48, .mov (.s 9), none⟩, ⟨some 49, .sidx false tS (.s 47) (.s 48), none⟩, ⟨some 50, .load false none tS (.s 49), none⟩, ⟨some 51, .sidx false tS (.s 37) (.s 38), none⟩, ⟨none, .store tS [] (.s 51) (.s 46), none⟩, ⟨some 52, .sidx false tS (.s 39) (.s 41), none⟩, ⟨none, .store tS [] (.s 52) (.s 50), none⟩]
@[reducible] def slices_insertionSortCmpFunc.body : MC := (.seq (.reg false slices_insertionSortCmpFunc.r0 [10, 11]) (.block 0 (.loop [0, 1, 2, 3, 8] [] (.seq (.seq (.reg false slices_insertionSortCmpFunc.r1 [12, 13]) (.cond (.s 14) .skip (.exit 0))) (.seq (.block 1 (.seq (.reg false slices_insertionSortCmpFunc.r3 [17]) (.block 2 (.loop [0, 1, 2, 3, 8, 9] [] (.seq (.seq (.reg true slices_insertionSortCmpFunc.r4 [18, 19, 20, 21, 22, 23, 24, 25, 26, 27, 28, 29, 30, 31, 32, 33]) (.cond (.s 34) .skip (.exit 2))) (.seq (.block 3 (.reg true slices_insertionSortCmpFunc.r6 [37, 38, 39, 40, 41, 42, 43, 44, 45, 46, 47, 48, 49, 50, 51, 52])) (.reg false slices_insertionSortCmpFunc.r5 [35, 36]))))))) (.reg false slices_insertionSortCmpFunc.r2 [15, 16]))))))
@[reducible] def slices_insertionSortCmpFunc : MFun := { params := 4, nfree := 0, res := [], body := slices_insertionSortCmpFunc.body }
@[reducible] def math_bits_Len64.r0 : List MOp := [⟨some 2, .mov (.c (.int .i64 0)), none⟩]
@[reducible] def math_bits_Len64.r1 : List MOp := [⟨some 3, .mov (.s 0), none⟩, ⟨some 4, .bin .geq (.s 3) (.c (.int .u64 4294967296)), none⟩]
@[reducible] def math_bits_Len64.r2 : List MOp := [⟨some 5, .mov (.s 0), none⟩, ⟨some 6, .bin .shr (.s 5) (.c (.int .u64 32)), none⟩, ⟨some 0, .mov (.s 6), none⟩]
@[reducible] def math_bits_Len64.r3 : List MOp := [⟨some 2, .mov (.c (.int .i64 32)), none⟩]
@[reducible] def math_bits_Len64.r4 : List MOp := [⟨some 7, .mov (.s 0), none⟩, ⟨some 8, .bin .geq (.s 7) (.c (.int .u64 65536)), none⟩]
@[reducible] def math_bits_Len64.r5 : List MOp := [⟨some 9, .mov (.s 0), none⟩, ⟨some 10, .bin .shr (.s 9) (.c (.int .u64 16)), none⟩, ⟨some 0, .mov (.s 10), none⟩]
@[reducible] def math_bits_Len64.r6 : List MOp := [⟨some 11, .mov (.s 2), none⟩, ⟨some 12, .bin .add (.s 11) (.c (.int .i64 16)), none⟩, ⟨some 2, .mov (.s 12), none⟩]
@[reducible] def math_bits_Len64.r7 : List MOp := [⟨some 13, .mov (.s 0), none⟩, ⟨some 14, .bin .geq (.s 13) (.c (.int .u64 256)), none⟩]
@[reducible] def math_bits_Len64.r8 : List MOp := [⟨some 15, .mov (.s 0), none⟩, ⟨some 16, .bin .shr (.s 15) (.c (.int .u64 8)), none⟩, ⟨some 0, .mov (.s 16), none⟩]
@[reducible] def math_bits_Len64.r9 : List MOp := [⟨some 17, .mov (.s 2), none⟩, ⟨some 18, .bin .add (.s 17) (.c (.int .i64 8)), none⟩, ⟨some 2, .mov (.s 18), none⟩]
@[reducible] def math_bits_Len64.r10 : List MOp := [⟨some 19, .mov (.s 2), none⟩, ⟨some 20, .mov (.s 0), none⟩, ⟨some 21, .conv .u8 (.s 20), none⟩, ⟨some 22, .stridx (.c (.str ⟨#[0, 1, 2, 2, 3, 3, 3, 3, 4, 4, 4, 4, 4, 4, 4, 4, 5, 5, 5, 5, 5, 5, 5, 5, 5, 5, 5, 5, 5, 5, 5, 5, 6, 6, 6, 6, 6, 6, 6, 6, 6, 6, 6, 6, 6, 6, 6, 6, 6, 6, 6, 6, 6, 6, 6, 6, 6, 6, 6, 6, 6, 6, 6, 6, 7, 7, 7, 7, 7, 7, 7, 7, 7, 7, 7, 7, 7, 7, 7, 7, 7, 7, 7, 7, 7, 7, 7, 7, 7, 7, 7, 7, 7, 7, 7, 7, 7, 7, 7, 7, 7, 7, 7, 7, 7, 7, 7, 7, 7, 7, 7, 7, 7, 7, 7, 7, 7, 7, 7, 7, 7, 7, 7, 7, 7, 7, 7, 7, 8, 8, 8, 8, 8, 8, 8, 8, 8, 8, 8, 8, 8, 8, 8, 8, 8, 8, 8, 8, 8, 8, 8, 8, 8, 8, 8, 8, 8, 8, 8, 8, 8, 8, 8, 8, 8, 8, 8, 8, 8, 8, 8, 8, 8, 8, 8, 8, 8, 8, 8, 8, 8, 8, 8, 8, 8, 8, 8, 8, 8, 8, 8, 8, 8, 8, 8, 8, 8, 8, 8, 8, 8, 8, 8, 8, 8, 8, 8, 8, 8, 8, 8, 8, 8, 8, 8, 8, 8, 8, 8, 8, 8, 8, 8, 8, 8, 8, 8, 8, 8, 8, 8, 8, 8, 8, 8, 8, 8, 8, 8, 8, 8, 8, 8, 8, 8, 8, 8, 8, 8, 8, 8, 8, 8, 8, 8, 8]⟩)) (.s 21), none⟩, ⟨some 23, .conv .i64 (.s 22), none⟩, ⟨some 24, .bin .add (.s 19) (.s 23), none⟩, ⟨some 2, .mov (.s 24), none⟩]
@[reducible] def math_bits_Len64.body : MC := (.seq (.reg false math_bits_Len64.r0 []) (.seq (.seq (.reg false math_bits_Len64.r1 [3]) (.cond (.s 4) (.seq (.reg false math_bits_Len64.r2 [5, 6]) (.reg false math_bits_Len64.r3 [])) .skip)) (.seq (.seq (.reg false math_bits_Len64.r4 [7]) (.cond (.s 8) (.seq (.reg false math_bits_Len64.r5 [9, 10]) (.reg false math_bits_Len64.r6 [11, 12])) .skip)) (.seq (.seq (.reg false math_bits_Len64.r7 [13]) (.cond (.s 14) (.seq (.reg false math_bits_Len64.r8 [15, 16]) (.reg false math_bits_Len64.r9 [17, 18])) .skip)) (.seq (.reg false math_bits_Len64.r10 [0, 19, 20, 21, 22, 23, 24]) .ret)))))
@[reducible] def math_bits_Len64 : MFun := { params := 1, nfree := 0, res := [.tmp 2], body := math_bits_Len64.body }
@[reducible] def math_bits_Len32.r0 : List MOp := [⟨some 2, .mov (.c (.int .i64 0)), none⟩]
@[reducible] def math_bits_Len32.r1 : List MOp := [⟨some 3, .mov (.s 0), none⟩, ⟨some 4, .bin .geq (.s 3) (.c (.int .u32 65536)), none⟩]
@[reducible] def math_bits_Len32.r2 : List MOp := [⟨some 5, .mov (.s 0), none⟩, ⟨some 6, .bin .shr (.s 5) (.c (.int .u64 16)), none⟩, ⟨some 0, .mov (.s 6), none⟩]
@[reducible] def math_bits_Len32.r3 : List MOp := [⟨some 2, .mov (.c (.int .i64 16)), none⟩]
@[reducible] def math_bits_Len32.r4 : List MOp := [⟨some 7, .mov (.s 0), none⟩, ⟨some 8, .bin .geq (.s 7) (.c (.int .u32 256)), none⟩]
@[reducible] def math_bits_Len32.r5 : List MOp := [⟨some 9, .mov (.s 0), none⟩, ⟨some 10, .bin .shr (.s 9) (.c (.int .u64 8)), none⟩, ⟨some 0, .mov (.s 10), none⟩]
@[reducible] def math_bits_Len32.r6 : List MOp := [⟨some 11, .mov (.s 2), none⟩, ⟨some 12, .bin .add (.s 11) (.c (.int .i64 8)), none⟩, ⟨some 2, .mov (.s 12), none⟩]
@[reducible] def math_bits_Len32.r7 : List MOp := [⟨some 13, .mov (.s 2), none⟩, ⟨some 14, .mov (.s 0), none⟩, ⟨some 15, .conv .u8 (.s 14), none⟩, ⟨some 16, .stridx (.c (.str ⟨#[0, 1, 2, 2, 3, 3, 3, 3, 4, 4, 4, 4, 4, 4, 4, 4, 5, 5, 5, 5, 5, 5, 5, 5, 5, 5, 5, 5, 5, 5, 5, 5, 6, 6, 6, 6, 6, 6, 6, 6, 6, 6, 6, 6, 6, 6, 6, 6, 6, 6, 6, 6, 6, 6, 6, 6, 6, 6, 6, 6, 6, 6, 6, 6, 7, 7, 7, 7, 7, 7, 7, 7, 7, 7, 7, 7, 7, 7, 7, 7, 7, 7, 7, 7, 7, 7, 7, 7, 7, 7, 7, 7, 7, 7, 7, 7, 7, 7, 7, 7, 7, 7, 7, 7, 7, 7, 7, 7, 7, 7, 7, 7, 7, 7, 7, 7, 7, 7, 7, 7, 7, 7, 7, 7, 7, 7, 7, 7, 8, 8, 8, 8, 8, 8, 8, 8, 8, 8, 8, 8, 8, 8, 8, 8, 8, 8, 8, 8, 8, 8, 8, 8, 8, 8, 8, 8, 8, 8, 8, 8, 8, 8, 8, 8, 8, 8, 8, 8, 8, 8, 8, 8, 8, 8, 8, 8, 8, 8, 8, 8, 8, 8, 8, 8, 8, 8, 8, 8, 8, 8, 8, 8, 8, 8, 8, 8, 8, 8, 8, 8, 8, 8, 8, 8, 8, 8, 8, 8, 8, 8, 8, 8, 8, 8, 8, 8, 8, 8, 8, 8, 8, 8, 8, 8, 8, 8, 8, 8, 8, 8, 8, 8, 8, 8, 8, 8, 8, 8, 8, 8, 8, 8, 8, 8, 8, 8, 8, 8, 8, 8, 8, 8, 8, 8, 8, 8]⟩)) (.s 15), none⟩, ⟨some 17, .conv .i64 (.s 16), none⟩, ⟨some 18, .bin .add (.s 13) (.s 17), none⟩, ⟨some 2, .mov (.s 18), none⟩]
@[reducible] def math_bits_Len32.body : MC := (.seq (.reg false math_bits_Len32.r0 []) (.seq (.seq (.reg false math_bits_Len32.r1 [3]) (.cond (.s 4) (.seq (.reg false math_bits_Len32.r2 [5, 6]) (.reg false math_bits_Len32.r3 [])) .skip)) (.seq (.seq (.reg false math_bits_Len32.r4 [7]) (.cond (.s 8) (.seq (.reg false math_bits_Len32.r5 [9, 10]) (.reg false math_bits_Len32.r6 [11, 12])) .skip)) (.seq (.reg false math_bits_Len32.r7 [0, 13, 14, 15, 16, 17, 18]) .ret))))
@[reducible] def math_bits_Len32 : MFun := { params := 1, nfree := 0, res := [.tmp 2], body := math_bits_Len32.body }
@[reducible] def slices_siftDownCmpFunc.r0 : List MOp := [⟨some 12, .mov (.s 1), none⟩, ⟨some 10, .mov (.s 12), none⟩]
@[reducible] def slices_siftDownCmpFunc.r1 : List MOp := [⟨some 13, .mov (.s 10), none⟩, ⟨some 14, .bin .mul (.c (.int .i64 2)) (.s 13), none⟩, ⟨some 15, .bin .add (.s 14) (.c (.int .i64 1)), none⟩, ⟨some 11, .mov (.s 15), none⟩]
@[reducible] def slices_siftDownCmpFunc.r2 : List MOp := [⟨some 16, .mov (.s 11), none⟩, ⟨some 17, .mov (.s 2), none⟩, ⟨some 18, .bin .geq (.s 16) (.s 17), none⟩]
@[reducible] def slices_siftDownCmpFunc.r3 : List MOp := [⟨some 19, .mov (.s 11), none⟩, ⟨some 20, .bin .add (.s 19) (.c (.int .i64 1)), none⟩, ⟨some 21, .mov (.s 2), none⟩, ⟨some 22, .bin .lss (.s 20) (.s 21), none⟩, ⟨some 23, .mov (.s 22), none⟩, ⟨some 24, .mov (.s 4), some (23, true)⟩, ⟨some 25, .mov (.s 0), some (23, true)⟩, ⟨some 26, .mov (.s 3), some (23, true)⟩, ⟨some 27, .mov (.s 11), some (23, true)⟩, ⟨some 28, .bin .add (.s 26) (.s 27), some (23, true)⟩, ⟨some 29, .sidx false tS (.s 25) (.s 28), some (23, true)⟩, ⟨some 30, .load false none tS (.s 29), some (23, true)⟩, ⟨some 31, .mov (.s 0), some (23, true)⟩, ⟨some 32, .mov (.s 3), some (23, true)⟩, ⟨some 33, .mov (.s 11), some (23, true)⟩, ⟨some 34, .bin .add (.s 32) (.s 33), some (23, true)⟩, ⟨some 35, .bin .add (.s 34) (.c (.int .i64 1)), some (23, true)⟩, ⟨some 36, .sidx false tS (.s 31) (.s 35), some (23, true)⟩, ⟨some 37, .load false none tS (.s 36), some (23, true)⟩, ⟨some 38, .callv false [] (.s 24) [(.s 30), (.s 37)], some (23, true)⟩, ⟨some 39, .bin .lss (.s 38) (.c (.int .i64 0)), some (23, true)⟩, ⟨some 40, .pick (.s 23) (.s 39) (.c (.bool false)), none⟩]
@[reducible] def slices_siftDownCmpFunc.r4 : List MOp := [⟨some 41, .mov (.s 11), none⟩, ⟨some 42, .bin .add (.s 41) (.c (.int .i64 1)), none⟩, ⟨some 11, .mov (.s 42), none⟩]
@[reducible] def slices_siftDownCmpFunc.r5 : List MOp := [⟨some 43, .mov (.s 4), none⟩, ⟨some 44, .mov (.s 0), none⟩, ⟨some 45, .mov (.s 3), none⟩, ⟨some 46, .mov (.s 10), none⟩, ⟨some 47, .bin .add (.s 45) (.s 46), none⟩, ⟨some 48, .sidx false tS (.s 44) (.s 47), none⟩, ⟨some 49, .load false none tS (.s 48), none⟩, ⟨some 50, .mov (.s 0), none⟩, ⟨some 51, .mov (.s 3), none⟩, ⟨some 52, .mov (.s 11), none⟩, ⟨some 53, .bin .add (.s 51) (.s 52), none⟩, ⟨some 54, .sidx false tS (.s 50) (.s 53), none⟩, ⟨some 55, .load false none tS (.s 54), none⟩, ⟨some 56, .callv false [] (.s 43) [(.s 49), (.s 55)], none⟩, ⟨some 57, .bin .lss (.s 56) (.c (.int .i64 0)), none⟩, ⟨some 58, .un .not (.s 57), none⟩]
@[reducible] def slices_siftDownCmpFunc.r6 : List MOp := [⟨some 59, .mov (.s 0), none⟩, ⟨some 60, .mov (.s 3), none⟩, ⟨some 61, .mov (.s 10), none⟩, ⟨some 62, .bin .add (.s 60) (.s 61), none⟩, ⟨some 63, .mov (.s 0), none⟩, ⟨some 64, .mov (.s 3), none⟩, ⟨some 65, .mov (.s 11), none⟩, ⟨some 66, .bin .add (.s 64) (.s 65), none⟩, ⟨some 67, .mov (.s 0), none⟩, ⟨some 68, .mov (.s 3), none⟩, ⟨some 69, .mov (.s 11), none⟩, ⟨some 70, .bin .add (.s 68) (.s 69), none⟩, ⟨some 71, .sidx false tS (.s 67) (.s 70), none⟩, ⟨some 72, .load false none tS (.s 71), none⟩, ⟨some 73, .mov (.s 0), none⟩, ⟨some 74, .mov (.s 3), none⟩, ⟨some 75, .mov (.s 10), none⟩, ⟨some 76, .bin .add (.s 74) (.s 75), none⟩, ⟨some 77, .sidx false tS (.s 73) (.s 76), none⟩, ⟨some 78, .load false none tS (.s 77), none⟩, ⟨some 79, .sidx false tS (.s 59) (.s 62), none⟩, ⟨none, .store tS [] (.s 79) (.s 72), none⟩, ⟨some 80, .sidx false tS (.s 63) (.s 66), none⟩, ⟨none, .store tS [] (.s 80) (.s 78), none⟩]
@[reducible] def slices_siftDownCmpFunc.r7 : List MOp := [⟨some 81, .mov (.s 11), none⟩, ⟨some 10, .mov (.s 81), none⟩]
@[reducible] def slices_siftDownCmpFunc.body : MC := (.seq (.reg false slices_siftDownCmpFunc.r0 [1, 12]) (.block 0 (.loop [0, 2, 3, 4, 10] [] (.block 1 (.seq (.reg false slices_siftDownCmpFunc.r1 [13, 14, 15]) (.seq (.seq (.reg false slices_siftDownCmpFunc.r2 [16, 17]) (.cond (.s 18) (.exit 0) .skip)) (.seq (.seq (.reg true slices_siftDownCmpFunc.r3 [19, 20, 21, 22, 23, 24, 25, 26, 27, 28, 29, 30, 31, 32, 33, 34, 35, 36, 37, 38, 39]) (.cond (.s 40) (.reg false slices_siftDownCmpFunc.r4 [41, 42]) .skip)) (.seq (.seq (.reg true slices_siftDownCmpFunc.r5 [43, 44, 45, 46, 47, 48, 49, 50, 51, 52, 53, 54, 55, 56, 57]) (.cond (.s 58) .ret .skip)) (.seq (.reg true slices_siftDownCmpFunc.r6 [10, 59, 60, 61, 62, 63, 64, 65, 66, 67, 68, 69, 70, 71, 72, 73, 74, 75, 76, 77, 78, 79, 80]) (.reg false slices_siftDownCmpFunc.r7 [11, 81]))))))))))
@[reducible] def slices_siftDownCmpFunc : MFun := { params := 5, nfree := 0, res := [], body := slices_siftDownCmpFunc.body }
@[reducible] def slices_xorshift_Next.r0 : List MOp := [⟨some 2, .mov (.c (.int .u64 0)), none⟩]
@[reducible] def slices_xorshift_Next.r1 : List MOp := [⟨some 3, .mov (.s 0), none⟩, ⟨some 4, .nilck (.s 3), none⟩, ⟨some 5, .load false none (.leaf (.int .u64)) (.s 4), none⟩, ⟨some 6, .mov (.s 0), none⟩, ⟨some 7, .nilck (.s 6), none⟩, ⟨some 8, .load false none (.leaf (.int .u64)) (.s 7), none⟩, ⟨some 9, .bin .shl (.s 8) (.c (.int .u64 13)), none⟩, ⟨some 10, .bin .xor (.s 5) (.s 9), none⟩, ⟨some 11, .nilck (.s 3), none⟩, ⟨none, .store (.leaf (.int .u64)) [] (.s 11) (.s 10), none⟩]
@[reducible] def slices_xorshift_Next.r2 : List MOp := [⟨some 12, .mov (.s 0), none⟩, ⟨some 13, .nilck (.s 12), none⟩, ⟨some 14, .load false none (.leaf (.int .u64)) (.s 13), none⟩, ⟨some 15, .mov (.s 0), none⟩, ⟨some 16, .nilck (.s 15), none⟩, ⟨some 17, .load false none (.leaf (.int .u64)) (.s 16), none⟩, ⟨some 18, .bin .shr (.s 17) (.c (.int .u64 7)), none⟩, ⟨some 19, .bin .xor (.s 14) (.s 18), none⟩, ⟨some 20, .nilck (.s 12), none⟩, ⟨none, .store (.leaf (.int .u64)) [] (.s 20) (.s 19), none⟩]
@[reducible] def slices_xorshift_Next.r3 : List MOp := [⟨some 21, .mov (.s 0), none⟩, ⟨some 22, .nilck (.s 21), none⟩, ⟨some 23, .load false none (.leaf (.int .u64)) (.s 22), none⟩, ⟨some 24, .mov (.s 0), none⟩, ⟨some 25, .nilck (.s 24), none⟩, ⟨some 26, .load false none (.leaf (.int .u64)) (.s 25), none⟩, ⟨some 27, .bin .shl (.s 26) (.c (.int .u64 17)), none⟩, ⟨some 28, .bin .xor (.s 23) (.s 27), none⟩, ⟨some 29, .nilck (.s 21), none⟩, ⟨none, .store (.leaf (.int .u64)) [] (.s 29) (.s 28), none⟩]
@[reducible] def slices_xorshift_Next.r4 : List MOp := [⟨some 30, .mov (.s 0), none⟩, ⟨some 31, .nilck (.s 30), none⟩, ⟨some 32, .load false none (.leaf (.int .u64)) (.s 31), none⟩, ⟨some 2, .mov (.s 32), none⟩]
@[reducible] def slices_xorshift_Next.body : MC := (.seq (.reg false slices_xorshift_Next.r0 [2]) (.seq (.reg true slices_xorshift_Next.r1 [3, 4, 5, 6, 7, 8, 9, 10, 11]) (.seq (.reg true slices_xorshift_Next.r2 [12, 13, 14, 15, 16, 17, 18, 19, 20]) (.seq (.reg true slices_xorshift_Next.r3 [21, 22, 23, 24, 25, 26, 27, 28, 29]) (.seq (.reg false slices_xorshift_Next.r4 [0, 30, 31, 32]) .ret)))))
@[reducible] def slices_xorshift_Next : MFun := { params := 1, nfree := 0, res := [.tmp 2], body := slices_xorshift_Next.body }
@[reducible] def slices_nextPowerOfTwo.r0 : List MOp := [⟨some 2, .mov (.c (.int .u64 0)), none⟩]
@[reducible] def slices_nextPowerOfTwo.r1 : List MOp := [⟨some 3, .mov (.s 0), none⟩, ⟨some 4, .conv .u64 (.s 3), none⟩, ⟨some 5, .call false [] 240 [(.s 4)], none⟩, ⟨some 6, .bin .shl (.c (.int .u64 1)) (.s 5), none⟩, ⟨some 2, .mov (.s 6), none⟩]
@[reducible] def slices_nextPowerOfTwo.body : MC := (.seq (.reg false slices_nextPowerOfTwo.r0 [2]) (.seq (.reg false slices_nextPowerOfTwo.r1 [0, 3, 4, 5, 6]) .ret))
@[reducible] def slices_nextPowerOfTwo : MFun := { params := 1, nfree := 0, res := [.tmp 2], body := slices_nextPowerOfTwo.body }
@[reducible] def slices_medianCmpFunc.r0 : List MOp := [⟨some 12, .mov (.c (.int .i64 0)), none⟩]
@[reducible] def slices_medianCmpFunc.r1 : List MOp := [⟨some 14, .mov (.s 0), none⟩, ⟨some 15, .mov (.s 1), none⟩, ⟨some 16, .mov (.s 2), none⟩, ⟨some 17, .mov (.s 4), none⟩, ⟨some 18, .mov (.s 5), none⟩, ⟨some 19, .call false [] 259 [(.s 14), (.s 15), (.s 16), (.s 17), (.s 18)], none⟩, ⟨some 13, .mov (.s 19), none⟩, ⟨some 20, .ext (.s 13) 0, none⟩, ⟨some 21, .ext (.s 13) 1, none⟩, ⟨some 1, .mov (.s 20), none⟩, ⟨some 2, .mov (.s 21), none⟩]
@[reducible] def slices_medianCmpFunc.r2 : List MOp := [⟨some 23, .mov (.s 0), none⟩, ⟨some 24, .mov (.s 2), none⟩, ⟨some 25, .mov (.s 3), none⟩, ⟨some 26, .mov (.s 4), none⟩, ⟨some 27, .mov (.s 5), none⟩, ⟨some 28, .call false [] 259 [(.s 23), (.s 24), (.s 25), (.s 26), (.s 27)], none⟩, ⟨some 22, .mov (.s 28), none⟩, ⟨some 29, .ext (.s 22) 0, none⟩, ⟨some 30, .ext (.s 22) 1, none⟩, ⟨some 2, .mov (.s 29), none⟩, ⟨some 3, .mov (.s 30), none⟩]
@[reducible] def slices_medianCmpFunc.r3 : List MOp := [⟨some 32, .mov (.s 0), none⟩, ⟨some 33, .mov (.s 1), none⟩, ⟨some 34, .mov (.s 2), none⟩, ⟨some 35, .mov (.s 4), none⟩, ⟨some 36, .mov (.s 5), none⟩, ⟨some 37, .call false [] 259 [(.s 32), (.s 33), (.s 34), (.s 35), (.s 36)], none⟩, ⟨some 31, .mov (.s 37), none⟩, ⟨some 38, .ext (.s 31) 0, none⟩, ⟨some 39, .ext (.s 31) 1, none⟩, ⟨some 1, .mov (.s 38), none⟩, ⟨some 2, .mov (.s 39), none⟩]
@[reducible] def slices_medianCmpFunc.r4 : List MOp := [⟨some 40, .mov (.s 2), none⟩, ⟨some 12, .mov (.s 40), none⟩]
@[reducible] def slices_medianCmpFunc.body : MC := (.seq (.reg false slices_medianCmpFunc.r0 [12]) (.seq (.reg false slices_medianCmpFunc.r1 [13, 14, 15, 16, 17, 18, 19, 20, 21]) (.seq (.reg false slices_medianCmpFunc.r2 [3, 22, 23, 24, 25, 26, 27, 28, 29, 30]) (.seq (.reg false slices_medianCmpFunc.r3 [0, 1, 4, 5, 31, 32, 33, 34, 35, 36, 37, 38, 39]) (.seq (.reg false slices_medianCmpFunc.r4 [2, 40]) .ret)))))
@[reducible] def slices_medianCmpFunc : MFun := { params := 6, nfree := 0, res := [.tmp 12], body := slices_medianCmpFunc.body }
@[reducible] def slices_medianAdjacentCmpFunc.r0 : List MOp := [⟨some 8, .mov (.c (.int .i64 0)), none⟩]
@[reducible] def slices_medianAdjacentCmpFunc.r1 : List MOp := [⟨some 9, .mov (.s 0), none⟩, ⟨some 10, .mov (.s 1), none⟩, ⟨some 11, .bin .sub (.s 10) (.c (.int .i64 1)), none⟩, ⟨some 12, .mov (.s 1), none⟩, ⟨some 13, .mov (.s 1), none⟩, ⟨some 14, .bin .add (.s 13) (.c (.int .i64 1)), none⟩, ⟨some 15, .mov (.s 2), none⟩, ⟨some 16, .mov (.s 3), none⟩, ⟨some 17, .call false [] 257 [(.s 9), (.s 11), (.s 12), (.s 14), (.s 15), (.s 16)], none⟩, ⟨some 8, .mov (.s 17), none⟩]
@[reducible] def slices_medianAdjacentCmpFunc.body : MC := (.seq (.reg false slices_medianAdjacentCmpFunc.r0 [8]) (.seq (.reg false slices_medianAdjacentCmpFunc.r1 [0, 1, 2, 3, 9, 10, 11, 12, 13, 14, 15, 16, 17]) .ret))
@[reducible] def slices_medianAdjacentCmpFunc : MFun := { params := 4, nfree := 0, res := [.tmp 8], body := slices_medianAdjacentCmpFunc.body }
@[reducible] def slices_order2CmpFunc.r0 : List MOp := [⟨some 10, .mov (.c (.int .i64 0)), none⟩, ⟨some 11, .mov (.c (.int .i64 0)), none⟩]
@[reducible] def slices_order2CmpFunc.r1 : List MOp := [⟨some 12, .mov (.s 4), none⟩, ⟨some 13, .mov (.s 0), none⟩, ⟨some 14, .mov (.s 2), none⟩, ⟨some 15, .sidx false tS (.s 13) (.s 14), none⟩, ⟨some 16, .load false none tS (.s 15), none⟩, ⟨some 17, .mov (.s 0), none⟩, ⟨some 18, .mov (.s 1), none⟩, ⟨some 19, .sidx false tS (.s 17) (.s 18), none⟩, ⟨some 20, .load false none tS (.s 19), none⟩, ⟨some 21, .callv false [] (.s 12) [(.s 16), (.s 20)], none⟩, ⟨some 22, .bin .lss (.s 21) (.c (.int .i64 0)), none⟩]
@[reducible] def slices_order2CmpFunc.r2 : List MOp := [⟨some 23, .mov (.s 3), none⟩, ⟨some 24, .nilck (.s 23), none⟩, ⟨some 25, .load false none tI (.s 24), none⟩, ⟨some 26, .bin .add (.s 25) (.c (.int .i64 1)), none⟩, ⟨some 27, .nilck (.s 23), none⟩, ⟨none, .store tI [] (.s 27) (.s 26), none⟩]
@[reducible] def slices_order2CmpFunc.r3 : List MOp := [⟨some 28, .mov (.s 2), none⟩, ⟨some 29, .mov (.s 1), none⟩, ⟨some 10, .mov (.s 28), none⟩, ⟨some 11, .mov (.s 29), none⟩]
@[reducible] def slices_order2CmpFunc.r4 : List MOp := [⟨some 30, .mov (.s 1), none⟩, ⟨some 31, .mov (.s 2), none⟩, ⟨some 10, .mov (.s 30), none⟩, ⟨some 11, .mov (.s 31), none⟩]
@[reducible] def slices_order2CmpFunc.body : MC := (.seq (.reg false slices_order2CmpFunc.r0 [10, 11]) (.seq (.seq (.reg true slices_order2CmpFunc.r1 [0, 4, 12, 13, 14, 15, 16, 17, 18, 19, 20, 21]) (.cond (.s 22) (.seq (.reg false slices_order2CmpFunc.r2 [3, 23, 24, 25, 26, 27]) (.seq (.reg false slices_order2CmpFunc.r3 [1, 2, 28, 29]) .ret)) .skip)) (.seq (.reg false slices_order2CmpFunc.r4 [1, 2, 30, 31]) .ret)))
@[reducible] def slices_order2CmpFunc : MFun := { params := 5, nfree := 0, res := [.tmp 10, .tmp 11], body := slices_order2CmpFunc.body }
@[reducible] def soft_Files_Same.r0 : List MOp := [⟨some 10, .mov (.c (.bool false)), none⟩]
@[reducible] def soft_Files_Same.r1 : List MOp := [⟨some 13, .mov (.s 0), none⟩, ⟨some 14, .nilck (.s 13), none⟩, ⟨some 15, .fld tFiles 0 tP (.s 14), none⟩, ⟨some 16, .load false none tP (.s 15), none⟩, ⟨some 17, .nilck (.s 16), none⟩, ⟨some 18, .fld tCache 0 tImage (.s 17), none⟩, ⟨some 19, .mov (.s 1), none⟩, ⟨some 20, .mov (.s 2), none⟩, ⟨some 21, .call true [] 19 [(.s 18), (.s 19), (.s 20)], none⟩, ⟨some 22, .mov (.s 0), none⟩, ⟨some 23, .nilck (.s 22), none⟩, ⟨some 24, .fld tFiles 0 tP (.s 23), none⟩, ⟨some 25, .load false none tP (.s 24), none⟩, ⟨some 26, .nilck (.s 25), none⟩, ⟨some 27, .fld tCache 0 tImage (.s 26), none⟩, ⟨some 28, .mov (.s 3), none⟩, ⟨some 29, .mov (.s 4), none⟩, ⟨some 30, .call false [] 19 [(.s 27), (.s 28), (.s 29)], none⟩, ⟨some 11, .mov (.s 21), none⟩, ⟨some 12, .mov (.s 30), none⟩]
@[reducible] def soft_Files_Same.r2 : List MOp := [⟨some 31, .mov (.s 11), none⟩, ⟨some 32, .bin .geq (.s 31) (.c (.int .i64 0)), none⟩, ⟨some 33, .mov (.s 32), none⟩, ⟨some 34, .mov (.s 12), some (33, true)⟩, ⟨some 35, .bin .geq (.s 34) (.c (.int .i64 0)), some (33, true)⟩, ⟨some 36, .pick (.s 33) (.s 35) (.c (.bool false)), none⟩, ⟨some 37, .mov (.s 36), none⟩, ⟨some 38, .mov (.s 0), some (37, true)⟩, ⟨some 39, .nilck (.s 38), some (37, true)⟩, ⟨some 40, .fld tFiles 0 tP (.s 39), some (37, true)⟩, ⟨some 41, .load false none tP (.s 40), some (37, true)⟩, ⟨some 42, .mov (.s 1), some (37, true)⟩, ⟨some 43, .mov (.s 11), some (37, true)⟩, ⟨some 44, .nilck (.s 41), some (37, true)⟩, ⟨some 45, .fld tCache 0 tImage (.s 44), some (37, true)⟩, ⟨some 46, .fld tImage 1 tDirs (.s 45), some (37, true)⟩, ⟨some 47, .idx 3 tRow (.s 46) (.s 42), some (37, true)⟩, ⟨some 48, .idx 4 tEntry (.s 47) (.s 43), some (37, true)⟩, ⟨some 49, .fld tEntry 1 tI (.s 48), some (37, true)⟩, ⟨some 50, .load false none tI (.s 49), some (37, true)⟩, ⟨some 51, .mov (.s 0), some (37, true)⟩, ⟨some 52, .nilck (.s 51), some (37, true)⟩, ⟨some 53, .fld tFiles 0 tP (.s 52), some (37, true)⟩, ⟨some 54, .load false none tP (.s 53), some (37, true)⟩, ⟨some 55, .mov (.s 3), some (37, true)⟩, ⟨some 56, .mov (.s 12), some (37, true)⟩, ⟨some 57, .nilck (.s 54), some (37, true)⟩, ⟨some 58, .fld tCache 0 tImage (.s 57), some (37, true)⟩, ⟨some 59, .fld tImage 1 tDirs (.s 58), some (37, true)⟩, ⟨some 60, .idx 3 tRow (.s 59) (.s 55), some (37, true)⟩, ⟨some 61, .idx 4 tEntry (.s 60) (.s 56), some (37, true)⟩, ⟨some 62, .fld tEntry 1 tI (.s 61), some (37, true)⟩, ⟨some 63, .load false none tI (.s 62), some (37, true)⟩, ⟨some 64, .bin .eql (.s 50) (.s 63), some (37, true)⟩, ⟨some 65, .pick (.s 37) (.s 64) (.c (.bool false)), none⟩, ⟨some 10, .mov (.s 65), none⟩]
@[reducible] def soft_Files_Same.body : MC := (.seq (.reg false soft_Files_Same.r0 [10]) (.seq (.reg true soft_Files_Same.r1 [2, 4, 13, 14, 15, 16, 17, 18, 19, 20, 21, 22, 23, 24, 25, 26, 27, 28, 29, 30]) (.seq (.reg true soft_Files_Same.r2 [0, 1, 3, 11, 12, 31, 32, 33, 34, 35, 36, 37, 38, 39, 40, 41, 42, 43, 44, 45, 46, 47, 48, 49, 50, 51, 52, 53, 54, 55, 56, 57, 58, 59, 60, 61, 62, 63, 64, 65]) .ret)))
@[reducible] def soft_Files_Same : MFun := { params := 5, nfree := 0, res := [.tmp 10], body := soft_Files_Same.body }
@[reducible] def soft_Files_Sure.r0 : List MOp := [⟨some 6, .mov (.c (.bool false)), none⟩]
@[reducible] def soft_Files_Sure.r1 : List MOp := [⟨some 9, .mov (.s 0), none⟩, ⟨some 10, .nilck (.s 9), none⟩, ⟨some 11, .fld tFiles 0 tP (.s 10), none⟩, ⟨some 12, .load false none tP (.s 11), none⟩, ⟨some 13, .nilck (.s 12), none⟩, ⟨some 14, .fld tCache 0 tImage (.s 13), none⟩, ⟨some 15, .mov (.s 1), none⟩, ⟨some 16, .mov (.s 2), none⟩, ⟨some 17, .call false [] 19 [(.s 14), (.s 15), (.s 16)], none⟩, ⟨some 7, .mov (.s 17), none⟩]
@[reducible] def soft_Files_Sure.r2 : List MOp := [⟨some 18, .mov (.s 0), none⟩, ⟨some 19, .nilck (.s 18), none⟩, ⟨some 20, .fld tFiles 0 tP (.s 19), none⟩, ⟨some 21, .load false none tP (.s 20), none⟩, ⟨some 22, .call false [] 203 [(.s 21)], none⟩, ⟨some 8, .alloc false tImage, none⟩, ⟨none, .store tImage [] (.s 8) (.s 22), none⟩]
@[reducible] def soft_Files_Sure.r3 : List MOp := [⟨some 23, .mov (.s 7), none⟩, ⟨some 24, .bin .geq (.s 23) (.c (.int .i64 0)), none⟩, ⟨some 25, .mov (.s 24), none⟩, ⟨some 26, .mov (.s 1), some (25, true)⟩, ⟨some 27, .mov (.s 7), some (25, true)⟩, ⟨some 28, .fld tImage 1 tDirs (.s 8), some (25, true)⟩, ⟨some 29, .idx 3 tRow (.s 28) (.s 26), some (25, true)⟩, ⟨some 30, .idx 4 tEntry (.s 29) (.s 27), some (25, true)⟩, ⟨some 31, .load false none tEntry (.s 30), some (25, true)⟩, ⟨some 32, .mov (.s 0), some (25, true)⟩, ⟨some 33, .nilck (.s 32), some (25, true)⟩, ⟨some 34, .fld tFiles 0 tP (.s 33), some (25, true)⟩, ⟨some 35, .load false none tP (.s 34), some (25, true)⟩, ⟨some 36, .mov (.s 1), some (25, true)⟩, ⟨some 37, .mov (.s 7), some (25, true)⟩, ⟨some 38, .nilck (.s 35), some (25, true)⟩, ⟨some 39, .fld tCache 0 tImage (.s 38), some (25, true)⟩, ⟨some 40, .fld tImage 1 tDirs (.s 39), some (25, true)⟩, ⟨some 41, .idx 3 tRow (.s 40) (.s 36), some (25, true)⟩, ⟨some 42, .idx 4 tEntry (.s 41) (.s 37), some (25, true)⟩, ⟨some 43, .load false none tEntry (.s 42), some (25, true)⟩, ⟨some 44, .eq false tEntry (.s 31) (.s 43), some (25, true)⟩, ⟨some 45, .pick (.s 25) (.s 44) (.c (.bool false)), none⟩, ⟨some 6, .mov (.s 45), none⟩]
@[reducible] def soft_Files_Sure.body : MC := (.seq (.reg false soft_Files_Sure.r0 [6]) (.seq (.reg false soft_Files_Sure.r1 [2, 9, 10, 11, 12, 13, 14, 15, 16, 17]) (.seq (.reg false soft_Files_Sure.r2 [18, 19, 20, 21, 22]) (.seq (.reg true soft_Files_Sure.r3 [0, 1, 7, 8, 23, 24, 25, 26, 27, 28, 29, 30, 31, 32, 33, 34, 35, 36, 37, 38, 39, 40, 41, 42, 43, 44, 45]) .ret))))
@[reducible] def soft_Files_Sure : MFun := { params := 3, nfree := 0, res := [.tmp 6], body := soft_Files_Sure.body }
@[reducible] def soft_Files_Read.r0 : List MOp := [⟨some 8, .mov (.c (.str ⟨#[]⟩)), none⟩, ⟨some 9, .mov (.c (.bool false)), none⟩, ⟨some 10, .mov (.c (.int .i64 0)), none⟩]
@[reducible] def soft_Files_Read.r1 : List MOp := [⟨some 14, .mov (.s 1), none⟩, ⟨some 15, .mov (.s 2), none⟩, ⟨some 16, .mov (.s 3), none⟩, ⟨some 17, .build tStep [(0, (.c (.int .i64 6))), (1, (.s 14)), (4, (.s 15)), (3, (.s 16))], none⟩, ⟨some 18, .call false [] 216 [(.s 17)], none⟩, ⟨some 11, .mov (.s 18), none⟩]
@[reducible] def soft_Files_Read.r2 : List MOp := [⟨some 19, .mov (.s 11), none⟩, ⟨some 20, .bin .neq (.s 19) (.c (.int .i64 0)), none⟩]
@[reducible] def soft_Files_Read.r3 : List MOp := [⟨some 21, .mov (.s 11), none⟩, ⟨some 8, .mov (.c (.str ⟨#[]⟩)), none⟩, ⟨some 9, .mov (.c (.bool false)), none⟩, ⟨some 10, .mov (.s 21), none⟩]
@[reducible] def soft_Files_Read.r4 : List MOp := [⟨some 22, .mov (.s 0), none⟩, ⟨some 23, .nilck (.s 22), none⟩, ⟨some 24, .fld tFiles 0 tP (.s 23), none⟩, ⟨some 25, .load false none tP (.s 24), none⟩, ⟨some 26, .nilck (.s 25), none⟩, ⟨some 27, .fld tCache 0 tImage (.s 26), none⟩, ⟨some 28, .mov (.s 1), none⟩, ⟨some 29, .mov (.s 2), none⟩, ⟨some 30, .call false [] 19 [(.s 27), (.s 28), (.s 29)], none⟩, ⟨some 12, .mov (.s 30), none⟩]
@[reducible] def soft_Files_Read.r5 : List MOp := [⟨some 31, .mov (.s 12), none⟩, ⟨some 32, .bin .lss (.s 31) (.c (.int .i64 0)), none⟩]
@[reducible] def soft_Files_Read.r6 : List MOp := [⟨some 8, .mov (.c (.str ⟨#[]⟩)), none⟩, ⟨some 9, .mov (.c (.bool false)), none⟩, ⟨some 10, .mov (.c (.int .i64 5)), none⟩]
@[reducible] def soft_Files_Read.r7 : List MOp := [⟨some 33, .mov (.s 0), none⟩, ⟨some 34, .nilck (.s 33), none⟩, ⟨some 35, .fld tFiles 0 tP (.s 34), none⟩, ⟨some 36, .load false none tP (.s 35), none⟩, ⟨some 37, .mov (.s 0), none⟩, ⟨some 38, .nilck (.s 37), none⟩, ⟨some 39, .fld tFiles 0 tP (.s 38), none⟩, ⟨some 40, .load false none tP (.s 39), none⟩, ⟨some 41, .mov (.s 1), none⟩, ⟨some 42, .mov (.s 12), none⟩, ⟨some 43, .nilck (.s 40), none⟩, ⟨some 44, .fld tCache 0 tImage (.s 43), none⟩, ⟨some 45, .fld tImage 1 tDirs (.s 44), none⟩, ⟨some 46, .idx 3 tRow (.s 45) (.s 41), none⟩, ⟨some 47, .idx 4 tEntry (.s 46) (.s 42), none⟩, ⟨some 48, .fld tEntry 1 tI (.s 47), none⟩, ⟨some 49, .load false none tI (.s 48), none⟩, ⟨some 50, .mov (.s 3), none⟩, ⟨some 51, .nilck (.s 36), none⟩, ⟨some 52, .fld tCache 0 tImage (.s 51), none⟩, ⟨some 53, .fld tImage 0 tInodes (.s 52), none⟩, ⟨some 54, .idx 8 tInode (.s 53) (.s 49), none⟩, ⟨some 55, .fld tInode 3 tParts (.s 54), none⟩, ⟨some 56, .idx 2 tI (.s 55) (.s 50), none⟩, ⟨some 57, .load false none tI (.s 56), none⟩, ⟨some 13, .mov (.s 57), none⟩]
@[reducible] def soft_Files_Read.r8 : List MOp := [⟨some 58, .mov (.s 13), none⟩, ⟨some 59, .bin .lss (.s 58) (.c (.int .i64 0)), none⟩]
@[reducible] def soft_Files_Read.r9 : List MOp := [⟨some 8, .mov (.c (.str ⟨#[]⟩)), none⟩, ⟨some 9, .mov (.c (.bool false)), none⟩, ⟨some 10, .mov (.c (.int .i64 0)), none⟩]
@[reducible] def soft_Files_Read.r10 : List MOp := [⟨some 60, .mov (.s 0), none⟩, ⟨some 61, .nilck (.s 60), none⟩, ⟨some 62, .fld tFiles 0 tP (.s 61), none⟩, ⟨some 63, .load false none tP (.s 62), none⟩, ⟨some 64, .mov (.s 13), none⟩, ⟨some 65, .nilck (.s 63), none⟩, ⟨some 66, .fld tCache 0 tImage (.s 65), none⟩, ⟨some 67, .fld tImage 2 tDatas (.s 66), none⟩, ⟨some 68, .idx 9 tData (.s 67) (.s 64), none⟩, ⟨some 69, .fld tData 1 tS (.s 68), none⟩, ⟨some 70, .load false none tS (.s 69), none⟩, ⟨some 8, .mov (.s 70), none⟩, ⟨some 9, .mov (.c (.bool true)), none⟩, ⟨some 10, .mov (.c (.int .i64 0)), none⟩]
@[reducible] def soft_Files_Read.body : MC := (.seq (.reg false soft_Files_Read.r0 [8, 9, 10]) (.seq (.seq (.reg false soft_Files_Read.r1 [14, 15, 16, 17, 18]) (.seq (.reg false soft_Files_Read.r2 [19]) (.cond (.s 20) (.seq (.reg false soft_Files_Read.r3 [11, 21]) .ret) .skip))) (.seq (.reg false soft_Files_Read.r4 [2, 22, 23, 24, 25, 26, 27, 28, 29, 30]) (.seq (.seq (.reg false soft_Files_Read.r5 [31]) (.cond (.s 32) (.seq (.reg false soft_Files_Read.r6 []) .ret) .skip)) (.seq (.reg true soft_Files_Read.r7 [1, 3, 12, 33, 34, 35, 36, 37, 38, 39, 40, 41, 42, 43, 44, 45, 46, 47, 48, 49, 50, 51, 52, 53, 54, 55, 56, 57]) (.seq (.seq (.reg false soft_Files_Read.r8 [58]) (.cond (.s 59) (.seq (.reg false soft_Files_Read.r9 []) .ret) .skip)) (.seq (.reg false soft_Files_Read.r10 [0, 13, 60, 61, 62, 63, 64, 65, 66, 67, 68, 69, 70]) .ret)))))))
@[reducible] def soft_Files_Read : MFun := { params := 4, nfree := 0, res := [.tmp 8, .tmp 9, .tmp 10], body := soft_Files_Read.body }
@[reducible] def soft_Files_List.r0 : List MOp := [⟨some 4, .mov (.c .nilsl), none⟩]
@[reducible] def soft_Files_List.r1 : List MOp := [⟨some 5, .mov (.c .nilsl), none⟩]
@[reducible] def soft_Files_List.r2 : List MOp := [⟨some 8, .mov (.s 1), none⟩, ⟨some 9, .bin .lss (.s 8) (.c (.int .i64 0)), none⟩, ⟨some 10, .mov (.s 9), none⟩, ⟨some 11, .mov (.s 1), some (10, false)⟩, ⟨some 12, .bin .geq (.s 11) (.c (.int .i64 3)), some (10, false)⟩, ⟨some 13, .pick (.s 10) (.c (.bool true)) (.s 12), none⟩]
@[reducible] def soft_Files_List.r3 : List MOp := [⟨some 4, .mov (.c .nilsl), none⟩]
@[reducible] def soft_Files_List.r4 : List MOp := [⟨some 14, .mov (.s 0), none⟩, ⟨some 15, .nilck (.s 14), none⟩, ⟨some 16, .fld tFiles 0 tP (.s 15), none⟩, ⟨some 17, .load false none tP (.s 16), none⟩, ⟨some 18, .mov (.s 1), none⟩, ⟨some 19, .nilck (.s 17), none⟩, ⟨some 20, .fld tCache 0 tImage (.s 19), none⟩, ⟨some 21, .fld tImage 1 tDirs (.s 20), none⟩, ⟨some 22, .idx 3 tRow (.s 21) (.s 18), none⟩, ⟨some 23, .load false none tRow (.s 22), none⟩, ⟨some 24, .mov (.c (.int .i64 0)), none⟩]
@[reducible] def soft_Files_List.r5 : List MOp := [⟨some 25, .bin .lss (.s 24) (.c (.int .i64 4)), none⟩]
@[reducible] def soft_Files_List.r6 : List MOp := [⟨some 26, .aidx 4 tEntry (.s 23) (.s 24), none⟩, ⟨some 7, .alloc false tEntry, none⟩, ⟨none, .store tEntry [] (.s 7) (.s 26), none⟩]
@[reducible] def soft_Files_List.r7 : List MOp := [⟨some 27, .fld tEntry 0 tS (.s 7), none⟩, ⟨some 28, .load false none tS (.s 27), none⟩, ⟨some 29, .bin .neq (.s 28) (.c (.str ⟨#[]⟩)), none⟩]
@[reducible] def soft_Files_List.r8 : List MOp := [⟨some 30, .mov (.s 5), none⟩, ⟨some 31, .fld tEntry 0 tS (.s 7), none⟩, ⟨some 32, .load false none tS (.s 31), none⟩, ⟨some 33, .bslice false tS 1 [(0, (.s 32))], none⟩, ⟨some 34, .append true tS (.s 30) (.s 33), none⟩, ⟨some 5, .mov (.s 34), none⟩]
@[reducible] def soft_Files_List.r9 : List MOp := [⟨some 35, .bin .add (.s 24) (.c (.int .i64 1)), none⟩, ⟨some 24, .mov (.s 35), none⟩]
@[reducible] def soft_Files_List.r10 : List MOp := [⟨some 36, .mov (.s 5), none⟩, ⟨some 37, .call false [] 236 [(.s 36), (.f 289)], none⟩]
@[reducible] def soft_Files_List.r11 : List MOp := [⟨some 38, .mov (.s 5), none⟩, ⟨some 4, .mov (.s 38), none⟩]
@[reducible] def soft_Files_List.body : MC := (.seq (.reg false soft_Files_List.r0 [4]) (.seq (.reg false soft_Files_List.r1 []) (.seq (.seq (.reg false soft_Files_List.r2 [8, 9, 10, 11, 12]) (.cond (.s 13) (.seq (.reg false soft_Files_List.r3 []) .ret) .skip)) (.seq (.seq (.reg false soft_Files_List.r4 [0, 1, 14, 15, 16, 17, 18, 19, 20, 21, 22]) (.block 0 (.loop [5, 23, 24] [34] (.seq (.reg false soft_Files_List.r5 []) (.seq (.cond (.s 25) .skip (.exit 0)) (.seq (.block 1 (.seq (.reg false soft_Files_List.r6 [26]) (.seq (.reg false soft_Files_List.r7 [27, 28]) (.cond (.s 29) (.reg false soft_Files_List.r8 [7, 30, 31, 32, 33, 34]) .skip)))) (.reg false soft_Files_List.r9 [35]))))))) (.seq (.reg false soft_Files_List.r10 [36, 37]) (.seq (.reg false soft_Files_List.r11 [5, 38]) .ret))))))
@[reducible] def soft_Files_List : MFun := { params := 2, nfree := 0, res := [.tmp 4], body := soft_Files_List.body }
@[reducible] def soft_Files_Do.r0 : List MOp := [⟨some 3, .box false tStep (.s 1), none⟩, ⟨some 4, .mov (.c (.int .i64 0)), none⟩]
@[reducible] def soft_Files_Do.r1 : List MOp := [⟨some 9, .load false none tStep (.s 3), none⟩, ⟨some 10, .call false [] 216 [(.s 9)], none⟩, ⟨some 5, .mov (.s 10), none⟩]
@[reducible] def soft_Files_Do.r2 : List MOp := [⟨some 11, .mov (.s 5), none⟩, ⟨some 12, .bin .neq (.s 11) (.c (.int .i64 0)), none⟩]
@[reducible] def soft_Files_Do.r3 : List MOp := [⟨some 13, .mov (.s 5), none⟩, ⟨some 4, .mov (.s 13), none⟩]
@[reducible] def soft_Files_Do.r4 : List MOp := [⟨some 14, .fld tStep 0 tI (.s 3), none⟩, ⟨some 15, .load false none tI (.s 14), none⟩, ⟨some 16, .bin .eql (.s 15) (.c (.int .i64 1)), none⟩]
@[reducible] def soft_Files_Do.r5 : List MOp := [⟨some 17, .mov (.s 0), none⟩, ⟨some 18, .fld tStep 1 tI (.s 3), none⟩, ⟨some 19, .load false none tI (.s 18), none⟩, ⟨some 20, .fld tStep 4 tS (.s 3), none⟩, ⟨some 21, .load false none tS (.s 20), none⟩, ⟨some 22, .call false [] 293 [(.s 17), (.s 19), (.s 21)], none⟩, ⟨some 4, .mov (.s 22), none⟩]
@[reducible] def soft_Files_Do.r6 : List MOp := [⟨some 23, .mov (.s 0), none⟩, ⟨some 24, .nilck (.s 23), none⟩, ⟨some 25, .fld tFiles 0 tP (.s 24), none⟩, ⟨some 26, .load false none tP (.s 25), none⟩, ⟨some 27, .nilck (.s 26), none⟩, ⟨some 28, .fld tCache 0 tImage (.s 27), none⟩, ⟨some 29, .fld tStep 1 tI (.s 3), none⟩, ⟨some 30, .load false none tI (.s 29), none⟩, ⟨some 31, .fld tStep 4 tS (.s 3), none⟩, ⟨some 32, .load false none tS (.s 31), none⟩, ⟨some 33, .call false [] 19 [(.s 28), (.s 30), (.s 32)], none⟩, ⟨some 6, .mov (.s 33), none⟩]
@[reducible] def soft_Files_Do.r7 : List MOp := [⟨some 34, .mov (.s 6), none⟩, ⟨some 35, .bin .lss (.s 34) (.c (.int .i64 0)), none⟩]
@[reducible] def soft_Files_Do.r8 : List MOp := [⟨some 4, .mov (.c (.int .i64 5)), none⟩]
@[reducible] def soft_Files_Do.r9 : List MOp := [⟨some 36, .mov (.s 0), none⟩, ⟨some 37, .nilck (.s 36), none⟩, ⟨some 38, .fld tFiles 0 tP (.s 37), none⟩, ⟨some 39, .load false none tP (.s 38), none⟩, ⟨some 40, .fld tStep 1 tI (.s 3), none⟩, ⟨some 41, .load false none tI (.s 40), none⟩, ⟨some 42, .mov (.s 6), none⟩, ⟨some 43, .nilck (.s 39), none⟩, ⟨some 44, .fld tCache 0 tImage (.s 43), none⟩, ⟨some 45, .fld tImage 1 tDirs (.s 44), none⟩, ⟨some 46, .idx 3 tRow (.s 45) (.s 41), none⟩, ⟨some 47, .idx 4 tEntry (.s 46) (.s 42), none⟩, ⟨some 48, .fld tEntry 1 tI (.s 47), none⟩, ⟨some 49, .load false none tI (.s 48), none⟩, ⟨some 7, .mov (.s 49), none⟩]
@[reducible] def soft_Files_Do.r10 : List MOp := [⟨some 50, .fld tStep 0 tI (.s 3), none⟩, ⟨some 51, .load false none tI (.s 50), none⟩]
@[reducible] def soft_Files_Do.r11 : List MOp := [⟨some 53, .bin .eql (.s 51) (.c (.int .i64 2)), none⟩, ⟨some 52, .mov (.s 53), none⟩]
@[reducible] def soft_Files_Do.r12 : List MOp := [⟨some 54, .mov (.s 0), none⟩, ⟨some 55, .fld tStep 2 tI (.s 3), none⟩, ⟨some 56, .load false none tI (.s 55), none⟩, ⟨some 57, .fld tStep 5 tS (.s 3), none⟩, ⟨some 58, .load false none tS (.s 57), none⟩, ⟨some 59, .mov (.s 7), none⟩, ⟨some 60, .call false [] 290 [(.s 54), (.s 56), (.s 58), (.s 59)], none⟩, ⟨some 4, .mov (.s 60), none⟩]
@[reducible] def soft_Files_Do.r13 : List MOp := [⟨some 62, .bin .eql (.s 51) (.c (.int .i64 4)), none⟩, ⟨some 61, .mov (.s 62), none⟩]
@[reducible] def soft_Files_Do.r14 : List MOp := [⟨some 63, .mov (.s 0), none⟩, ⟨some 64, .fld tStep 2 tI (.s 3), none⟩, ⟨some 65, .load false none tI (.s 64), none⟩, ⟨some 66, .fld tStep 5 tS (.s 3), none⟩, ⟨some 67, .load false none tS (.s 66), none⟩, ⟨some 68, .mov (.s 7), none⟩, ⟨some 69, .call false [] 290 [(.s 63), (.s 65), (.s 67), (.s 68)], none⟩, ⟨some 8, .mov (.s 69), none⟩]
@[reducible] def soft_Files_Do.r15 : List MOp := [⟨some 70, .mov (.s 8), none⟩, ⟨some 71, .bin .neq (.s 70) (.c (.int .i64 0)), none⟩]
@[reducible] def soft_Files_Do.r16 : List MOp := [⟨some 72, .mov (.s 8), none⟩, ⟨some 4, .mov (.s 72), none⟩]
@[reducible] def soft_Files_Do.r17 : List MOp := [⟨some 73, .mov (.s 0), none⟩, ⟨some 74, .fld tStep 1 tI (.s 3), none⟩, ⟨some 75, .load false none tI (.s 74), none⟩, ⟨some 76, .mov (.s 6), none⟩, ⟨some 77, .call false [] 291 [(.s 73), (.s 75), (.s 76)], none⟩]
@[reducible] def soft_Files_Do.r18 : List MOp := [⟨some 79, .bin .eql (.s 51) (.c (.int .i64 3)), none⟩, ⟨some 78, .mov (.s 79), none⟩]
@[reducible] def soft_Files_Do.r19 : List MOp := [⟨some 80, .mov (.s 0), none⟩, ⟨some 81, .fld tStep 1 tI (.s 3), none⟩, ⟨some 82, .load false none tI (.s 81), none⟩, ⟨some 83, .mov (.s 6), none⟩, ⟨some 84, .call false [] 291 [(.s 80), (.s 82), (.s 83)], none⟩]
@[reducible] def soft_Files_Do.r20 : List MOp := [⟨some 86, .bin .eql (.s 51) (.c (.int .i64 5)), none⟩, ⟨some 85, .mov (.s 86), none⟩]
@[reducible] def soft_Files_Do.r21 : List MOp := [⟨some 87, .mov (.s 0), none⟩, ⟨some 88, .mov (.s 7), none⟩, ⟨some 89, .fld tStep 3 tI (.s 3), none⟩, ⟨some 90, .load false none tI (.s 89), none⟩, ⟨some 91, .fld tStep 6 tS (.s 3), none⟩, ⟨some 92, .load false none tS (.s 91), none⟩, ⟨some 93, .call false [] 292 [(.s 87), (.s 88), (.s 90), (.s 92)], none⟩, ⟨some 4, .mov (.s 93), none⟩]
@[reducible] def soft_Files_Do.r22 : List MOp := [⟨some 95, .bin .eql (.s 51) (.c (.int .i64 6)), none⟩, ⟨some 94, .mov (.s 95), none⟩]
@[reducible] def soft_Files_Do.r23 : List MOp := [⟨some 96, .mov (.s 0), none⟩, ⟨some 97, .nilck (.s 96), none⟩, ⟨some 98, .fld tFiles 0 tP (.s 97), none⟩, ⟨some 99, .load false none tP (.s 98), none⟩, ⟨some 100, .mov (.s 7), none⟩, ⟨some 101, .fld tStep 3 tI (.s 3), none⟩, ⟨some 102, .load false none tI (.s 101), none⟩, ⟨some 103, .nilck (.s 99), none⟩, ⟨some 104, .fld tCache 0 tImage (.s 103), none⟩, ⟨some 105, .fld tImage 0 tInodes (.s 104), none⟩, ⟨some 106, .idx 8 tInode (.s 105) (.s 100), none⟩, ⟨some 107, .fld tInode 3 tParts (.s 106), none⟩, ⟨some 108, .idx 2 tI (.s 107) (.s 102), none⟩, ⟨none, .store tI [] (.s 108) (.c (.int .i64 (-1))), none⟩]
@[reducible] def soft_Files_Do.r24 : List MOp := [⟨some 4, .mov (.c (.int .i64 0)), none⟩]
@[reducible] def soft_Files_Do.body : MC := (.seq (.reg false soft_Files_Do.r0 [1, 4]) (.seq (.seq (.reg false soft_Files_Do.r1 [9, 10]) (.seq (.reg false soft_Files_Do.r2 [11]) (.cond (.s 12) (.seq (.reg false soft_Files_Do.r3 [5, 13]) .ret) .skip))) (.seq (.seq (.reg false soft_Files_Do.r4 [14, 15]) (.cond (.s 16) (.seq (.reg false soft_Files_Do.r5 [0, 3, 17, 18, 19, 20, 21, 22]) .ret) .skip)) (.seq (.reg true soft_Files_Do.r6 [23, 24, 25, 26, 27, 28, 29, 30, 31, 32, 33]) (.seq (.seq (.reg false soft_Files_Do.r7 [34]) (.cond (.s 35) (.seq (.reg false soft_Files_Do.r8 []) .ret) .skip)) (.seq (.reg true soft_Files_Do.r9 [36, 37, 38, 39, 40, 41, 42, 43, 44, 45, 46, 47, 48, 49]) (.seq (.seq (.reg false soft_Files_Do.r10 [50]) (.block 0 (.seq (.reg false soft_Files_Do.r11 [53]) (.cond (.s 52) (.seq (.reg false soft_Files_Do.r12 [0, 3, 7, 54, 55, 56, 57, 58, 59, 60]) .ret) (.seq (.reg false soft_Files_Do.r13 [62]) (.cond (.s 61) (.seq (.seq (.reg false soft_Files_Do.r14 [7, 63, 64, 65, 66, 67, 68, 69]) (.seq (.reg false soft_Files_Do.r15 [70]) (.cond (.s 71) (.seq (.reg false soft_Files_Do.r16 [8, 72]) .ret) .skip))) (.reg false soft_Files_Do.r17 [0, 3, 6, 73, 74, 75, 76, 77])) (.seq (.reg false soft_Files_Do.r18 [79]) (.cond (.s 78) (.reg false soft_Files_Do.r19 [0, 3, 6, 80, 81, 82, 83, 84]) (.seq (.reg false soft_Files_Do.r20 [86]) (.cond (.s 85) (.seq (.reg false soft_Files_Do.r21 [0, 3, 7, 87, 88, 89, 90, 91, 92, 93]) .ret) (.seq (.reg false soft_Files_Do.r22 [51, 95]) (.cond (.s 94) (.reg true soft_Files_Do.r23 [0, 3, 7, 96, 97, 98, 99, 100, 101, 102, 103, 104, 105, 106, 107, 108]) .skip)))))))))))) (.seq (.reg false soft_Files_Do.r24 []) .ret))))))))
@[reducible] def soft_Files_Do : MFun := { params := 2, nfree := 0, res := [.tmp 4], body := soft_Files_Do.body }
@[reducible] def soft_New.r0 : List MOp := [⟨some 0, .mov (.c .nilp), none⟩]
@[reducible] def soft_New.r1 : List MOp := [⟨some 1, .call false [] 231 [], none⟩, ⟨some 2, .build tFiles [(0, (.s 1))], none⟩, ⟨some 3, .box true tFiles (.s 2), none⟩, ⟨some 0, .mov (.s 3), none⟩]
@[reducible] def soft_New.body : MC := (.seq (.reg false soft_New.r0 [0]) (.seq (.reg false soft_New.r1 [1, 2, 3]) .ret))
@[reducible] def soft_New : MFun := { params := 0, nfree := 0, res := [.tmp 0], body := soft_New.body }
@[reducible] def life_Life_Step.r0 : List MOp := [⟨some 3, .box false tStep (.s 1), none⟩, ⟨some 4, .mov (.c (.int .i64 0)), none⟩]
@[reducible] def life_Life_Step.r1 : List MOp := [⟨some 5, .fld tStep 0 tI (.s 3), none⟩, ⟨some 6, .load false none tI (.s 5), none⟩]
@[reducible] def life_Life_Step.r2 : List MOp := [⟨some 8, .bin .eql (.s 6) (.c (.int .i64 7)), none⟩, ⟨some 7, .mov (.s 8), none⟩]
@[reducible] def life_Life_Step.r3 : List MOp := [⟨some 9, .mov (.s 0), none⟩, ⟨some 10, .nilck (.s 9), none⟩, ⟨some 11, .fld tLife 0 tP (.s 10), none⟩, ⟨some 12, .load false none tP (.s 11), none⟩, ⟨some 13, .nilck (.s 12), none⟩, ⟨some 14, .fld tFiles 0 tP (.s 13), none⟩, ⟨some 15, .load false none tP (.s 14), none⟩, ⟨some 16, .fld tStep 3 tI (.s 3), none⟩, ⟨some 17, .load false none tI (.s 16), none⟩, ⟨some 18, .call false [] 212 [(.s 15), (.s 17)], none⟩, ⟨some 19, .un .not (.s 18), none⟩]
@[reducible] def life_Life_Step.r4 : List MOp := [⟨some 4, .mov (.c (.int .i64 1)), none⟩]
@[reducible] def life_Life_Step.r5 : List MOp := [⟨some 4, .mov (.c (.int .i64 0)), none⟩]
@[reducible] def life_Life_Step.r6 : List MOp := [⟨some 21, .bin .eql (.s 6) (.c (.int .i64 8)), none⟩, ⟨some 20, .mov (.s 21), none⟩]
@[reducible] def life_Life_Step.r7 : List MOp := [⟨some 22, .mov (.s 0), none⟩, ⟨some 23, .nilck (.s 22), none⟩, ⟨some 24, .fld tLife 0 tP (.s 23), none⟩, ⟨some 25, .load false none tP (.s 24), none⟩, ⟨some 26, .nilck (.s 25), none⟩, ⟨some 27, .fld tFiles 0 tP (.s 26), none⟩, ⟨some 28, .load false none tP (.s 27), none⟩, ⟨some 29, .call false [] 201 [(.s 28)], none⟩]
@[reducible] def life_Life_Step.r8 : List MOp := [⟨some 4, .mov (.c (.int .i64 0)), none⟩]
@[reducible] def life_Life_Step.r9 : List MOp := [⟨some 31, .bin .eql (.s 6) (.c (.int .i64 9)), none⟩, ⟨some 30, .mov (.s 31), none⟩]
@[reducible] def life_Life_Step.r10 : List MOp := [⟨some 32, .mov (.s 0), none⟩, ⟨some 33, .call false [] 294 [(.s 32)], none⟩, ⟨some 4, .mov (.s 33), none⟩]
@[reducible] def life_Life_Step.r11 : List MOp := [⟨some 34, .mov (.s 0), none⟩, ⟨some 35, .nilck (.s 34), none⟩, ⟨some 36, .fld tLife 0 tP (.s 35), none⟩, ⟨some 37, .load false none tP (.s 36), none⟩, ⟨some 38, .load false none tStep (.s 3), none⟩, ⟨some 39, .call false [] 275 [(.s 37), (.s 38)], none⟩, ⟨some 4, .mov (.s 39), none⟩]
@[reducible] def life_Life_Step.body : MC := (.seq (.reg false life_Life_Step.r0 [1, 4]) (.seq (.seq (.reg false life_Life_Step.r1 [5]) (.block 0 (.seq (.reg false life_Life_Step.r2 [8]) (.cond (.s 7) (.seq (.seq (.reg true life_Life_Step.r3 [0, 3, 9, 10, 11, 12, 13, 14, 15, 16, 17, 18]) (.cond (.s 19) (.seq (.reg false life_Life_Step.r4 []) .ret) .skip)) (.seq (.reg false life_Life_Step.r5 []) .ret)) (.seq (.reg false life_Life_Step.r6 [21]) (.cond (.s 20) (.seq (.reg false life_Life_Step.r7 [0, 22, 23, 24, 25, 26, 27, 28, 29]) (.seq (.reg false life_Life_Step.r8 []) .ret)) (.seq (.reg false life_Life_Step.r9 [6, 31]) (.cond (.s 30) (.seq (.reg false life_Life_Step.r10 [0, 32, 33]) .ret) .skip)))))))) (.seq (.reg true life_Life_Step.r11 [0, 3, 34, 35, 36, 37, 38, 39]) .ret)))
@[reducible] def life_Life_Step : MFun := { params := 2, nfree := 0, res := [.tmp 4], body := life_Life_Step.body }
@[reducible] def life_Life_Crashes.r0 : List MOp := [⟨some 2, .mov (.c (.int .i64 0)), none⟩]
@[reducible] def life_Life_Crashes.r1 : List MOp := [⟨some 3, .mov (.s 0), none⟩, ⟨some 4, .nilck (.s 3), none⟩, ⟨some 5, .fld tLife 2 tI (.s 4), none⟩, ⟨some 6, .load false none tI (.s 5), none⟩, ⟨some 2, .mov (.s 6), none⟩]
@[reducible] def life_Life_Crashes.body : MC := (.seq (.reg false life_Life_Crashes.r0 [2]) (.seq (.reg false life_Life_Crashes.r1 [0, 3, 4, 5, 6]) .ret))
@[reducible] def life_Life_Crashes : MFun := { params := 1, nfree := 0, res := [.tmp 2], body := life_Life_Crashes.body }
@[reducible] def life_Life_Lost.r0 : List MOp := [⟨some 2, .alloc false tLost, none⟩]
@[reducible] def life_Life_Lost.r1 : List MOp := [⟨some 3, .mov (.s 0), none⟩, ⟨some 4, .nilck (.s 3), none⟩, ⟨some 5, .fld tLife 1 tLost (.s 4), none⟩, ⟨some 6, .load false none tLost (.s 5), none⟩, ⟨none, .store tLost [] (.s 2) (.s 6), none⟩]
@[reducible] def life_Life_Lost.body : MC := (.seq (.reg false life_Life_Lost.r0 []) (.seq (.reg false life_Life_Lost.r1 [0, 3, 4, 5, 6]) .ret))
@[reducible] def life_Life_Lost : MFun := { params := 1, nfree := 0, res := [.cell 2 tLost], body := life_Life_Lost.body }
@[reducible] def life_New.r0 : List MOp := [⟨some 0, .mov (.c .nilp), none⟩]
@[reducible] def life_New.r1 : List MOp := [⟨some 1, .call false [] 276 [], none⟩, ⟨some 2, .build tLife [(0, (.s 1))], none⟩, ⟨some 3, .box true tLife (.s 2), none⟩, ⟨some 0, .mov (.s 3), none⟩]
@[reducible] def life_New.body : MC := (.seq (.reg false life_New.r0 [0]) (.seq (.reg false life_New.r1 [1, 2, 3]) .ret))
@[reducible] def life_New : MFun := { params := 0, nfree := 0, res := [.tmp 0], body := life_New.body }
@[reducible] def eiderdownlaw_lifeBegun.r0 : List MOp := [⟨some 0, .mov (.c (.bool false)), none⟩]
@[reducible] def eiderdownlaw_lifeBegun.r1 : List MOp := [⟨some 6, .call false [] 285 [], none⟩, ⟨some 1, .mov (.s 6), none⟩]
@[reducible] def eiderdownlaw_lifeBegun.r2 : List MOp := [⟨some 7, .mov (.s 1), none⟩, ⟨some 8, .eq false tP (.s 7) (.c .nilp), none⟩]
@[reducible] def eiderdownlaw_lifeBegun.r3 : List MOp := [⟨some 0, .mov (.c (.bool false)), none⟩]
@[reducible] def eiderdownlaw_lifeBegun.r4 : List MOp := [⟨some 9, .mov (.s 1), none⟩, ⟨some 10, .build tStep [(0, (.c (.int .i64 1))), (4, (.c (.str ⟨#[97]⟩)))], none⟩, ⟨some 11, .call false [] 281 [(.s 9), (.s 10)], none⟩, ⟨some 2, .mov (.s 11), none⟩]
@[reducible] def eiderdownlaw_lifeBegun.r5 : List MOp := [⟨some 12, .mov (.s 1), none⟩, ⟨some 13, .build tStep [(0, (.c (.int .i64 8)))], none⟩, ⟨some 14, .call false [] 281 [(.s 12), (.s 13)], none⟩, ⟨some 3, .mov (.s 14), none⟩]
@[reducible] def eiderdownlaw_lifeBegun.r6 : List MOp := [⟨some 15, .mov (.s 1), none⟩, ⟨some 16, .build tStep [(0, (.c (.int .i64 1))), (4, (.c (.str ⟨#[98]⟩)))], none⟩, ⟨some 17, .call false [] 281 [(.s 15), (.s 16)], none⟩]
@[reducible] def eiderdownlaw_lifeBegun.r7 : List MOp := [⟨some 18, .mov (.s 1), none⟩, ⟨some 19, .build tStep [(0, (.c (.int .i64 7)))], none⟩, ⟨some 20, .call false [] 281 [(.s 18), (.s 19)], none⟩, ⟨some 4, .mov (.s 20), none⟩]
@[reducible] def eiderdownlaw_lifeBegun.r8 : List MOp := [⟨some 21, .mov (.s 1), none⟩, ⟨some 22, .build tStep [(0, (.c (.int .i64 9)))], none⟩, ⟨some 23, .call false [] 281 [(.s 21), (.s 22)], none⟩, ⟨some 5, .mov (.s 23), none⟩]
@[reducible] def eiderdownlaw_lifeBegun.r9 : List MOp := [⟨some 24, .mov (.s 2), none⟩, ⟨some 25, .bin .eql (.s 24) (.c (.int .i64 0)), none⟩, ⟨some 26, .mov (.s 25), none⟩, ⟨some 27, .mov (.s 3), some (26, true)⟩, ⟨some 28, .bin .eql (.s 27) (.c (.int .i64 0)), some (26, true)⟩, ⟨some 29, .pick (.s 26) (.s 28) (.c (.bool false)), none⟩, ⟨some 30, .mov (.s 29), none⟩, ⟨some 31, .mov (.s 4), some (30, true)⟩, ⟨some 32, .bin .eql (.s 31) (.c (.int .i64 0)), some (30, true)⟩, ⟨some 33, .pick (.s 30) (.s 32) (.c (.bool false)), none⟩, ⟨some 34, .mov (.s 33), none⟩, ⟨some 35, .mov (.s 5), some (34, true)⟩, ⟨some 36, .bin .eql (.s 35) (.c (.int .i64 0)), some (34, true)⟩, ⟨some 37, .pick (.s 34) (.s 36) (.c (.bool false)), none⟩, ⟨some 38, .mov (.s 37), none⟩, ⟨some 39, .mov (.s 1), some (38, true)⟩, ⟨some 40, .nilck (.s 39), some (38, true)⟩, ⟨some 41, .fld tLife 0 tP (.s 40), some (38, true)⟩, ⟨some 42, .load false none tP (.s 41), some (38, true)⟩, ⟨some 43, .call false [] 272 [(.s 42), (.c (.int .i64 0))], some (38, true)⟩, ⟨some 44, .bslice false tS 1 [(0, (.c (.str ⟨#[97]⟩)))], some (38, true)⟩, ⟨some 45, .call false [] 224 [(.s 43), (.s 44)], some (38, true)⟩, ⟨some 46, .pick (.s 38) (.s 45) (.c (.bool false)), none⟩, ⟨some 47, .mov (.s 46), none⟩, ⟨some 48, .mov (.s 1), some (47, true)⟩, ⟨some 49, .call false [] 283 [(.s 48)], some (47, true)⟩, ⟨some 50, .bin .eql (.s 49) (.c (.int .i64 1)), some (47, true)⟩, ⟨some 51, .pick (.s 47) (.s 50) (.c (.bool false)), none⟩, ⟨some 52, .mov (.s 51), none⟩, ⟨some 53, .mov (.s 1), some (52, true)⟩, ⟨some 54, .call false [] 284 [(.s 53)], some (52, true)⟩, ⟨some 55, .build tLost [(0, (.c (.int .i64 1)))], some (52, true)⟩, ⟨some 56, .eq false tLost (.s 54) (.s 55), some (52, true)⟩, ⟨some 57, .pick (.s 52) (.s 56) (.c (.bool false)), none⟩, ⟨some 58, .mov (.s 57), none⟩, ⟨some 59, .mov (.s 1), some (58, true)⟩, ⟨some 60, .build tStep [(0, (.c (.int .i64 7))), (3, (.c (.int .i64 99)))], some (58, true)⟩, ⟨some 61, .call false [] 281 [(.s 59), (.s 60)], some (58, true)⟩, ⟨some 62, .bin .eql (.s 61) (.c (.int .i64 1)), some (58, true)⟩, ⟨some 63, .pick (.s 58) (.s 62) (.c (.bool false)), none⟩, ⟨some 0, .mov (.s 63), none⟩]
@[reducible] def eiderdownlaw_lifeBegun.body : MC := (.seq (.reg false eiderdownlaw_lifeBegun.r0 [0]) (.seq (.reg false eiderdownlaw_lifeBegun.r1 [6]) (.seq (.seq (.reg false eiderdownlaw_lifeBegun.r2 [7]) (.cond (.s 8) (.seq (.reg false eiderdownlaw_lifeBegun.r3 []) .ret) .skip)) (.seq (.reg false eiderdownlaw_lifeBegun.r4 [9, 10, 11]) (.seq (.reg false eiderdownlaw_lifeBegun.r5 [12, 13, 14]) (.seq (.reg false eiderdownlaw_lifeBegun.r6 [15, 16, 17]) (.seq (.reg false eiderdownlaw_lifeBegun.r7 [18, 19, 20]) (.seq (.reg false eiderdownlaw_lifeBegun.r8 [21, 22, 23]) (.seq (.reg false eiderdownlaw_lifeBegun.r9 [1, 2, 3, 4, 5, 24, 25, 26, 27, 28, 29, 30, 31, 32, 33, 34, 35, 36, 37, 38, 39, 40, 41, 42, 43, 44, 45, 46, 47, 48, 49, 50, 51, 52, 53, 54, 55, 56, 57, 58, 59, 60, 61, 62, 63]) .ret)))))))))
@[reducible] def eiderdownlaw_lifeBegun : MFun := { params := 0, nfree := 0, res := [.tmp 0], body := eiderdownlaw_lifeBegun.body }
@[reducible] def soft_Files_List_1.r0 : List MOp := [⟨some 4, .mov (.c (.int .i64 0)), none⟩]
@[reducible] def soft_Files_List_1.r1 : List MOp := [⟨some 5, .mov (.s 0), none⟩, ⟨some 6, .mov (.s 1), none⟩, ⟨some 7, .call false [] 242 [(.s 5), (.s 6)], none⟩, ⟨some 4, .mov (.s 7), none⟩]
@[reducible] def soft_Files_List_1.body : MC := (.seq (.reg false soft_Files_List_1.r0 [4]) (.seq (.reg false soft_Files_List_1.r1 [0, 1, 5, 6, 7]) .ret))
@[reducible] def soft_Files_List_1 : MFun := { params := 2, nfree := 0, res := [.tmp 4], body := soft_Files_List_1.body }
@[reducible] def soft_Files_enter.r0 : List MOp := [⟨some 8, .mov (.c (.int .i64 0)), none⟩]
@[reducible] def soft_Files_enter.r1 : List MOp := [⟨some 10, .mov (.s 0), none⟩, ⟨some 11, .nilck (.s 10), none⟩, ⟨some 12, .fld tFiles 0 tP (.s 11), none⟩, ⟨some 13, .load false none tP (.s 12), none⟩, ⟨some 14, .nilck (.s 13), none⟩, ⟨some 15, .fld tCache 0 tImage (.s 14), none⟩, ⟨some 16, .mov (.s 1), none⟩, ⟨some 17, .mov (.s 2), none⟩, ⟨some 18, .call false [] 19 [(.s 15), (.s 16), (.s 17)], none⟩, ⟨some 19, .bin .geq (.s 18) (.c (.int .i64 0)), none⟩]
@[reducible] def soft_Files_enter.r2 : List MOp := [⟨some 8, .mov (.c (.int .i64 4)), none⟩]
@[reducible] def soft_Files_enter.r3 : List MOp := [⟨some 20, .mov (.s 0), none⟩, ⟨some 21, .mov (.s 1), none⟩, ⟨some 22, .mov (.s 2), none⟩, ⟨some 23, .call false [] 297 [(.s 20), (.s 21), (.s 22)], none⟩, ⟨some 9, .mov (.s 23), none⟩]
@[reducible] def soft_Files_enter.r4 : List MOp := [⟨some 24, .mov (.s 9), none⟩, ⟨some 25, .bin .lss (.s 24) (.c (.int .i64 0)), none⟩]
@[reducible] def soft_Files_enter.r5 : List MOp := [⟨some 8, .mov (.c (.int .i64 6)), none⟩]
@[reducible] def soft_Files_enter.r6 : List MOp := [⟨some 26, .mov (.s 0), none⟩, ⟨some 27, .nilck (.s 26), none⟩, ⟨some 28, .fld tFiles 0 tP (.s 27), none⟩, ⟨some 29, .load false none tP (.s 28), none⟩, ⟨some 30, .mov (.s 1), none⟩, ⟨some 31, .mov (.s 9), none⟩, ⟨some 32, .mov (.s 2), none⟩, ⟨some 33, .mov (.s 3), none⟩, ⟨some 34, .mov (.s 0), none⟩, ⟨some 35, .nilck (.s 34), none⟩, ⟨some 36, .fld tFiles 0 tP (.s 35), none⟩, ⟨some 37, .load false none tP (.s 36), none⟩, ⟨some 38, .mov (.s 3), none⟩, ⟨some 39, .nilck (.s 37), none⟩, ⟨some 40, .fld tCache 0 tImage (.s 39), none⟩, ⟨some 41, .fld tImage 0 tInodes (.s 40), none⟩, ⟨some 42, .idx 8 tInode (.s 41) (.s 38), none⟩, ⟨some 43, .fld tInode 1 tI (.s 42), none⟩, ⟨some 44, .load false none tI (.s 43), none⟩, ⟨some 45, .build tEntry [(0, (.s 32)), (1, (.s 33)), (2, (.s 44))], none⟩, ⟨some 46, .nilck (.s 29), none⟩, ⟨some 47, .fld tCache 0 tImage (.s 46), none⟩, ⟨some 48, .fld tImage 1 tDirs (.s 47), none⟩, ⟨some 49, .idx 3 tRow (.s 48) (.s 30), none⟩, ⟨some 50, .idx 4 tEntry (.s 49) (.s 31), none⟩, ⟨none, .store tEntry [] (.s 50) (.s 45), none⟩]
@[reducible] def soft_Files_enter.r7 : List MOp := [⟨some 51, .mov (.s 0), none⟩, ⟨some 52, .nilck (.s 51), none⟩, ⟨some 53, .fld tFiles 0 tP (.s 52), none⟩, ⟨some 54, .load false none tP (.s 53), none⟩, ⟨some 55, .mov (.s 3), none⟩, ⟨some 56, .nilck (.s 54), none⟩, ⟨some 57, .fld tCache 0 tImage (.s 56), none⟩, ⟨some 58, .fld tImage 0 tInodes (.s 57), none⟩, ⟨some 59, .idx 8 tInode (.s 58) (.s 55), none⟩, ⟨some 60, .fld tInode 2 tI (.s 59), none⟩, ⟨some 61, .load false none tI (.s 60), none⟩, ⟨some 62, .bin .add (.s 61) (.c (.int .i64 1)), none⟩, ⟨some 63, .nilck (.s 54), none⟩, ⟨some 64, .fld tCache 0 tImage (.s 63), none⟩, ⟨some 65, .fld tImage 0 tInodes (.s 64), none⟩, ⟨some 66, .idx 8 tInode (.s 65) (.s 55), none⟩, ⟨some 67, .fld tInode 2 tI (.s 66), none⟩, ⟨none, .store tI [] (.s 67) (.s 62), none⟩]
@[reducible] def soft_Files_enter.r8 : List MOp := [⟨some 8, .mov (.c (.int .i64 0)), none⟩]
@[reducible] def soft_Files_enter.body : MC := (.seq (.reg false soft_Files_enter.r0 [8]) (.seq (.seq (.reg false soft_Files_enter.r1 [10, 11, 12, 13, 14, 15, 16, 17, 18]) (.cond (.s 19) (.seq (.reg false soft_Files_enter.r2 []) .ret) .skip)) (.seq (.reg false soft_Files_enter.r3 [20, 21, 22, 23]) (.seq (.seq (.reg false soft_Files_enter.r4 [24]) (.cond (.s 25) (.seq (.reg false soft_Files_enter.r5 []) .ret) .skip)) (.seq (.reg true soft_Files_enter.r6 [1, 2, 9, 26, 27, 28, 29, 30, 31, 32, 33, 34, 35, 36, 37, 38, 39, 40, 41, 42, 43, 44, 45, 46, 47, 48, 49, 50]) (.seq (.reg true soft_Files_enter.r7 [0, 3, 51, 52, 53, 54, 55, 56, 57, 58, 59, 60, 61, 62, 63, 64, 65, 66, 67]) (.seq (.reg false soft_Files_enter.r8 []) .ret)))))))
@[reducible] def soft_Files_enter : MFun := { params := 4, nfree := 0, res := [.tmp 8], body := soft_Files_enter.body }
@[reducible] def soft_Files_leave.r0 : List MOp := [⟨some 7, .mov (.s 0), none⟩, ⟨some 8, .nilck (.s 7), none⟩, ⟨some 9, .fld tFiles 0 tP (.s 8), none⟩, ⟨some 10, .load false none tP (.s 9), none⟩, ⟨some 11, .mov (.s 1), none⟩, ⟨some 12, .mov (.s 2), none⟩, ⟨some 13, .nilck (.s 10), none⟩, ⟨some 14, .fld tCache 0 tImage (.s 13), none⟩, ⟨some 15, .fld tImage 1 tDirs (.s 14), none⟩, ⟨some 16, .idx 3 tRow (.s 15) (.s 11), none⟩, ⟨some 17, .idx 4 tEntry (.s 16) (.s 12), none⟩, ⟨some 18, .fld tEntry 1 tI (.s 17), none⟩, ⟨some 19, .load false none tI (.s 18), none⟩, ⟨some 6, .mov (.s 19), none⟩]
@[reducible] def soft_Files_leave.r1 : List MOp := [⟨some 20, .mov (.s 0), none⟩, ⟨some 21, .nilck (.s 20), none⟩, ⟨some 22, .fld tFiles 0 tP (.s 21), none⟩, ⟨some 23, .load false none tP (.s 22), none⟩, ⟨some 24, .mov (.s 1), none⟩, ⟨some 25, .mov (.s 2), none⟩, ⟨some 26, .build tEntry [], none⟩, ⟨some 27, .nilck (.s 23), none⟩, ⟨some 28, .fld tCache 0 tImage (.s 27), none⟩, ⟨some 29, .fld tImage 1 tDirs (.s 28), none⟩, ⟨some 30, .idx 3 tRow (.s 29) (.s 24), none⟩, ⟨some 31, .idx 4 tEntry (.s 30) (.s 25), none⟩, ⟨none, .store tEntry [] (.s 31) (.s 26), none⟩]
@[reducible] def soft_Files_leave.r2 : List MOp := [⟨some 32, .mov (.s 0), none⟩, ⟨some 33, .nilck (.s 32), none⟩, ⟨some 34, .fld tFiles 0 tP (.s 33), none⟩, ⟨some 35, .load false none tP (.s 34), none⟩, ⟨some 36, .mov (.s 6), none⟩, ⟨some 37, .nilck (.s 35), none⟩, ⟨some 38, .fld tCache 0 tImage (.s 37), none⟩, ⟨some 39, .fld tImage 0 tInodes (.s 38), none⟩, ⟨some 40, .idx 8 tInode (.s 39) (.s 36), none⟩, ⟨some 41, .fld tInode 2 tI (.s 40), none⟩, ⟨some 42, .load false none tI (.s 41), none⟩, ⟨some 43, .bin .sub (.s 42) (.c (.int .i64 1)), none⟩, ⟨some 44, .nilck (.s 35), none⟩, ⟨some 45, .fld tCache 0 tImage (.s 44), none⟩, ⟨some 46, .fld tImage 0 tInodes (.s 45), none⟩, ⟨some 47, .idx 8 tInode (.s 46) (.s 36), none⟩, ⟨some 48, .fld tInode 2 tI (.s 47), none⟩, ⟨none, .store tI [] (.s 48) (.s 43), none⟩]
@[reducible] def soft_Files_leave.r3 : List MOp := [⟨some 49, .mov (.s 0), none⟩, ⟨some 50, .nilck (.s 49), none⟩, ⟨some 51, .fld tFiles 0 tP (.s 50), none⟩, ⟨some 52, .load false none tP (.s 51), none⟩, ⟨some 53, .mov (.s 6), none⟩, ⟨some 54, .nilck (.s 52), none⟩, ⟨some 55, .fld tCache 0 tImage (.s 54), none⟩, ⟨some 56, .fld tImage 0 tInodes (.s 55), none⟩, ⟨some 57, .idx 8 tInode (.s 56) (.s 53), none⟩, ⟨some 58, .fld tInode 2 tI (.s 57), none⟩, ⟨some 59, .load false none tI (.s 58), none⟩, ⟨some 60, .bin .eql (.s 59) (.c (.int .i64 0)), none⟩]
@[reducible] def soft_Files_leave.r4 : List MOp := [⟨some 61, .mov (.s 0), none⟩, ⟨some 62, .nilck (.s 61), none⟩, ⟨some 63, .fld tFiles 0 tP (.s 62), none⟩, ⟨some 64, .load false none tP (.s 63), none⟩, ⟨some 65, .mov (.s 6), none⟩, ⟨some 66, .call true [] 33 [], none⟩, ⟨some 67, .nilck (.s 64), none⟩, ⟨some 68, .fld tCache 0 tImage (.s 67), none⟩, ⟨some 69, .fld tImage 0 tInodes (.s 68), none⟩, ⟨some 70, .idx 8 tInode (.s 69) (.s 65), none⟩, ⟨none, .store tInode [] (.s 70) (.s 66), none⟩]
@[reducible] def soft_Files_leave.body : MC := (.seq (.reg false soft_Files_leave.r0 [7, 8, 9, 10, 11, 12, 13, 14, 15, 16, 17, 18, 19]) (.seq (.reg false soft_Files_leave.r1 [1, 2, 20, 21, 22, 23, 24, 25, 26, 27, 28, 29, 30, 31]) (.seq (.reg true soft_Files_leave.r2 [32, 33, 34, 35, 36, 37, 38, 39, 40, 41, 42, 43, 44, 45, 46, 47, 48]) (.seq (.reg false soft_Files_leave.r3 [49, 50, 51, 52, 53, 54, 55, 56, 57, 58, 59]) (.cond (.s 60) (.reg true soft_Files_leave.r4 [0, 6, 61, 62, 63, 64, 65, 66, 67, 68, 69, 70]) .skip)))))
@[reducible] def soft_Files_leave : MFun := { params := 3, nfree := 0, res := [], body := soft_Files_leave.body }
@[reducible] def soft_Files_put.r0 : List MOp := [⟨some 8, .mov (.c (.int .i64 0)), none⟩]
@[reducible] def soft_Files_put.r1 : List MOp := [⟨some 11, .mov (.s 0), none⟩, ⟨some 12, .nilck (.s 11), none⟩, ⟨some 13, .fld tFiles 0 tP (.s 12), none⟩, ⟨some 14, .load false none tP (.s 13), none⟩, ⟨some 15, .mov (.s 1), none⟩, ⟨some 16, .nilck (.s 14), none⟩, ⟨some 17, .fld tCache 0 tImage (.s 16), none⟩, ⟨some 18, .fld tImage 0 tInodes (.s 17), none⟩, ⟨some 19, .idx 8 tInode (.s 18) (.s 15), none⟩, ⟨some 9, .mov (.s 19), none⟩]
@[reducible] def soft_Files_put.r2 : List MOp := [⟨some 20, .mov (.s 9), none⟩, ⟨some 21, .mov (.s 2), none⟩, ⟨some 22, .nilck (.s 20), none⟩, ⟨some 23, .fld tInode 3 tParts (.s 22), none⟩, ⟨some 24, .idx 2 tI (.s 23) (.s 21), none⟩, ⟨some 25, .load false none tI (.s 24), none⟩, ⟨some 26, .bin .lss (.s 25) (.c (.int .i64 0)), none⟩]
@[reducible] def soft_Files_put.r3 : List MOp := [⟨some 27, .mov (.s 0), none⟩, ⟨some 28, .nilck (.s 27), none⟩, ⟨some 29, .fld tFiles 0 tP (.s 28), none⟩, ⟨some 30, .load false none tP (.s 29), none⟩, ⟨some 31, .call false [] 209 [(.s 30)], none⟩, ⟨some 10, .mov (.s 31), none⟩]
@[reducible] def soft_Files_put.r4 : List MOp := [⟨some 32, .mov (.s 10), none⟩, ⟨some 33, .bin .lss (.s 32) (.c (.int .i64 0)), none⟩]
@[reducible] def soft_Files_put.r5 : List MOp := [⟨some 8, .mov (.c (.int .i64 6)), none⟩]
@[reducible] def soft_Files_put.r6 : List MOp := [⟨some 34, .mov (.s 9), none⟩, ⟨some 35, .mov (.s 2), none⟩, ⟨some 36, .mov (.s 10), none⟩, ⟨some 37, .nilck (.s 34), none⟩, ⟨some 38, .fld tInode 3 tParts (.s 37), none⟩, ⟨some 39, .idx 2 tI (.s 38) (.s 35), none⟩, ⟨none, .store tI [] (.s 39) (.s 36), none⟩]
@[reducible] def soft_Files_put.r7 : List MOp := [⟨some 40, .mov (.s 0), none⟩, ⟨some 41, .nilck (.s 40), none⟩, ⟨some 42, .fld tFiles 0 tP (.s 41), none⟩, ⟨some 43, .load false none tP (.s 42), none⟩, ⟨some 44, .mov (.s 9), none⟩, ⟨some 45, .mov (.s 2), none⟩, ⟨some 46, .nilck (.s 44), none⟩, ⟨some 47, .fld tInode 3 tParts (.s 46), none⟩, ⟨some 48, .idx 2 tI (.s 47) (.s 45), none⟩, ⟨some 49, .load false none tI (.s 48), none⟩, ⟨some 50, .mov (.s 9), none⟩, ⟨some 51, .nilck (.s 50), none⟩, ⟨some 52, .fld tInode 1 tI (.s 51), none⟩, ⟨some 53, .load false none tI (.s 52), none⟩, ⟨some 54, .mov (.s 3), none⟩, ⟨some 55, .build tData [(0, (.s 53)), (1, (.s 54))], none⟩, ⟨some 56, .nilck (.s 43), none⟩, ⟨some 57, .fld tCache 0 tImage (.s 56), none⟩, ⟨some 58, .fld tImage 2 tDatas (.s 57), none⟩, ⟨some 59, .idx 9 tData (.s 58) (.s 49), none⟩, ⟨none, .store tData [] (.s 59) (.s 55), none⟩]
@[reducible] def soft_Files_put.r8 : List MOp := [⟨some 8, .mov (.c (.int .i64 0)), none⟩]
@[reducible] def soft_Files_put.body : MC := (.seq (.reg false soft_Files_put.r0 [8]) (.seq (.reg false soft_Files_put.r1 [1, 11, 12, 13, 14, 15, 16, 17, 18, 19]) (.seq (.seq (.reg false soft_Files_put.r2 [20, 21, 22, 23, 24, 25]) (.cond (.s 26) (.seq (.reg false soft_Files_put.r3 [27, 28, 29, 30, 31]) (.seq (.seq (.reg false soft_Files_put.r4 [32]) (.cond (.s 33) (.seq (.reg false soft_Files_put.r5 []) .ret) .skip)) (.reg false soft_Files_put.r6 [10, 34, 35, 36, 37, 38, 39]))) .skip)) (.seq (.reg true soft_Files_put.r7 [0, 2, 3, 9, 40, 41, 42, 43, 44, 45, 46, 47, 48, 49, 50, 51, 52, 53, 54, 55, 56, 57, 58, 59]) (.seq (.reg false soft_Files_put.r8 []) .ret)))))
@[reducible] def soft_Files_put : MFun := { params := 4, nfree := 0, res := [.tmp 8], body := soft_Files_put.body }
@[reducible] def soft_Files_make.r0 : List MOp := [⟨some 6, .mov (.c (.int .i64 0)), none⟩]
@[reducible] def soft_Files_make.r1 : List MOp := [⟨some 8, .mov (.s 0), none⟩, ⟨some 9, .nilck (.s 8), none⟩, ⟨some 10, .fld tFiles 0 tP (.s 9), none⟩, ⟨some 11, .load false none tP (.s 10), none⟩, ⟨some 12, .nilck (.s 11), none⟩, ⟨some 13, .fld tCache 0 tImage (.s 12), none⟩, ⟨some 14, .mov (.s 1), none⟩, ⟨some 15, .mov (.s 2), none⟩, ⟨some 16, .call false [] 19 [(.s 13), (.s 14), (.s 15)], none⟩, ⟨some 17, .bin .geq (.s 16) (.c (.int .i64 0)), none⟩]
@[reducible] def soft_Files_make.r2 : List MOp := [⟨some 6, .mov (.c (.int .i64 4)), none⟩]
@[reducible] def soft_Files_make.r3 : List MOp := [⟨some 18, .mov (.s 0), none⟩, ⟨some 19, .nilck (.s 18), none⟩, ⟨some 20, .fld tFiles 0 tP (.s 19), none⟩, ⟨some 21, .load false none tP (.s 20), none⟩, ⟨some 22, .call false [] 205 [(.s 21)], none⟩, ⟨some 7, .mov (.s 22), none⟩]
@[reducible] def soft_Files_make.r4 : List MOp := [⟨some 23, .mov (.s 7), none⟩, ⟨some 24, .bin .lss (.s 23) (.c (.int .i64 0)), none⟩, ⟨some 25, .mov (.s 24), none⟩, ⟨some 26, .mov (.s 0), some (25, false)⟩, ⟨some 27, .mov (.s 1), some (25, false)⟩, ⟨some 28, .mov (.s 2), some (25, false)⟩, ⟨some 29, .call false [] 297 [(.s 26), (.s 27), (.s 28)], some (25, false)⟩, ⟨some 30, .bin .lss (.s 29) (.c (.int .i64 0)), some (25, false)⟩, ⟨some 31, .pick (.s 25) (.c (.bool true)) (.s 30), none⟩]
@[reducible] def soft_Files_make.r5 : List MOp := [⟨some 6, .mov (.c (.int .i64 6)), none⟩]
@[reducible] def soft_Files_make.r6 : List MOp := [⟨some 32, .mov (.s 0), none⟩, ⟨some 33, .nilck (.s 32), none⟩, ⟨some 34, .fld tFiles 1 tI (.s 33), none⟩, ⟨some 35, .load false none tI (.s 34), none⟩, ⟨some 36, .bin .add (.s 35) (.c (.int .i64 1)), none⟩, ⟨some 37, .nilck (.s 32), none⟩, ⟨some 38, .fld tFiles 1 tI (.s 37), none⟩, ⟨none, .store tI [] (.s 38) (.s 36), none⟩]
@[reducible] def soft_Files_make.r7 : List MOp := [⟨some 39, .mov (.s 0), none⟩, ⟨some 40, .nilck (.s 39), none⟩, ⟨some 41, .fld tFiles 0 tP (.s 40), none⟩, ⟨some 42, .load false none tP (.s 41), none⟩, ⟨some 43, .mov (.s 7), none⟩, ⟨some 44, .call true [] 33 [], none⟩, ⟨some 45, .nilck (.s 42), none⟩, ⟨some 46, .fld tCache 0 tImage (.s 45), none⟩, ⟨some 47, .fld tImage 0 tInodes (.s 46), none⟩, ⟨some 48, .idx 8 tInode (.s 47) (.s 43), none⟩, ⟨none, .store tInode [] (.s 48) (.s 44), none⟩]
@[reducible] def soft_Files_make.r8 : List MOp := [⟨some 49, .mov (.s 0), none⟩, ⟨some 50, .nilck (.s 49), none⟩, ⟨some 51, .fld tFiles 0 tP (.s 50), none⟩, ⟨some 52, .load false none tP (.s 51), none⟩, ⟨some 53, .mov (.s 7), none⟩, ⟨some 54, .mov (.s 0), none⟩, ⟨some 55, .nilck (.s 54), none⟩, ⟨some 56, .fld tFiles 0 tP (.s 55), none⟩, ⟨some 57, .load false none tP (.s 56), none⟩, ⟨some 58, .mov (.s 7), none⟩, ⟨some 59, .mov (.s 0), none⟩, ⟨some 60, .nilck (.s 59), none⟩, ⟨some 61, .fld tFiles 1 tI (.s 60), none⟩, ⟨some 62, .load false none tI (.s 61), none⟩, ⟨some 63, .nilck (.s 52), none⟩, ⟨some 64, .fld tCache 0 tImage (.s 63), none⟩, ⟨some 65, .fld tImage 0 tInodes (.s 64), none⟩, ⟨some 66, .idx 8 tInode (.s 65) (.s 53), none⟩, ⟨some 67, .fld tInode 0 tB (.s 66), none⟩, ⟨none, .store tB [] (.s 67) (.c (.bool true)), none⟩, ⟨some 68, .nilck (.s 57), none⟩, ⟨some 69, .fld tCache 0 tImage (.s 68), none⟩, ⟨some 70, .fld tImage 0 tInodes (.s 69), none⟩, ⟨some 71, .idx 8 tInode (.s 70) (.s 58), none⟩, ⟨some 72, .fld tInode 1 tI (.s 71), none⟩, ⟨none, .store tI [] (.s 72) (.s 62), none⟩]
@[reducible] def soft_Files_make.r9 : List MOp := [⟨some 73, .mov (.s 0), none⟩, ⟨some 74, .mov (.s 1), none⟩, ⟨some 75, .mov (.s 2), none⟩, ⟨some 76, .mov (.s 7), none⟩, ⟨some 77, .call false [] 290 [(.s 73), (.s 74), (.s 75), (.s 76)], none⟩, ⟨some 6, .mov (.s 77), none⟩]
@[reducible] def soft_Files_make.body : MC := (.seq (.reg false soft_Files_make.r0 [6]) (.seq (.seq (.reg false soft_Files_make.r1 [8, 9, 10, 11, 12, 13, 14, 15, 16]) (.cond (.s 17) (.seq (.reg false soft_Files_make.r2 []) .ret) .skip)) (.seq (.reg false soft_Files_make.r3 [18, 19, 20, 21, 22]) (.seq (.seq (.reg false soft_Files_make.r4 [23, 24, 25, 26, 27, 28, 29, 30]) (.cond (.s 31) (.seq (.reg false soft_Files_make.r5 []) .ret) .skip)) (.seq (.reg false soft_Files_make.r6 [32, 33, 34, 35, 36, 37, 38]) (.seq (.reg true soft_Files_make.r7 [39, 40, 41, 42, 43, 44, 45, 46, 47, 48]) (.seq (.reg true soft_Files_make.r8 [49, 50, 51, 52, 53, 54, 55, 56, 57, 58, 59, 60, 61, 62, 63, 64, 65, 66, 67, 68, 69, 70, 71, 72]) (.seq (.reg false soft_Files_make.r9 [0, 1, 2, 7, 73, 74, 75, 76, 77]) .ret))))))))
@[reducible] def soft_Files_make : MFun := { params := 3, nfree := 0, res := [.tmp 6], body := soft_Files_make.body }
@[reducible] def life_Life_crash.r0 : List MOp := [⟨some 2, .mov (.c (.int .i64 0)), none⟩]
@[reducible] def life_Life_crash.r1 : List MOp := [⟨some 7, .mov (.s 0), none⟩, ⟨some 8, .nilck (.s 7), none⟩, ⟨some 9, .fld tLife 0 tP (.s 8), none⟩, ⟨some 10, .load false none tP (.s 9), none⟩, ⟨some 11, .nilck (.s 10), none⟩, ⟨some 12, .fld tFiles 0 tP (.s 11), none⟩, ⟨some 13, .load false none tP (.s 12), none⟩, ⟨some 14, .call false [] 203 [(.s 13)], none⟩, ⟨some 15, .call false [] 27 [(.s 14)], none⟩, ⟨some 6, .mov (.s 15), none⟩, ⟨some 16, .ext (.s 6) 0, none⟩, ⟨some 17, .ext (.s 6) 1, none⟩, ⟨some 18, .ext (.s 6) 2, none⟩, ⟨some 3, .alloc false tImage, none⟩, ⟨some 4, .alloc false tLost, none⟩, ⟨none, .store tImage [] (.s 3) (.s 16), none⟩, ⟨none, .store tLost [] (.s 4) (.s 17), none⟩, ⟨some 5, .mov (.s 18), none⟩]
@[reducible] def life_Life_crash.r2 : List MOp := [⟨some 19, .mov (.s 5), none⟩, ⟨some 20, .bin .neq (.s 19) (.c (.int .i64 0)), none⟩]
@[reducible] def life_Life_crash.r3 : List MOp := [⟨some 21, .mov (.s 5), none⟩, ⟨some 2, .mov (.s 21), none⟩]
@[reducible] def life_Life_crash.r4 : List MOp := [⟨some 22, .mov (.s 0), none⟩, ⟨some 23, .mov (.s 0), none⟩, ⟨some 24, .load false none tImage (.s 3), none⟩, ⟨some 25, .call true [] 278 [(.s 24)], none⟩, ⟨some 26, .load false (some 4) tLost (.s 4), none⟩, ⟨some 27, .nilck (.s 22), none⟩, ⟨some 28, .fld tLife 0 tP (.s 27), none⟩, ⟨none, .store tP [4] (.s 28) (.s 25), none⟩, ⟨some 29, .nilck (.s 23), none⟩, ⟨some 30, .fld tLife 1 tLost (.s 29), none⟩, ⟨none, .store tLost [] (.s 30) (.s 26), none⟩]
@[reducible] def life_Life_crash.r5 : List MOp := [⟨some 31, .mov (.s 0), none⟩, ⟨some 32, .nilck (.s 31), none⟩, ⟨some 33, .fld tLife 2 tI (.s 32), none⟩, ⟨some 34, .load false none tI (.s 33), none⟩, ⟨some 35, .bin .add (.s 34) (.c (.int .i64 1)), none⟩, ⟨some 36, .nilck (.s 31), none⟩, ⟨some 37, .fld tLife 2 tI (.s 36), none⟩, ⟨none, .store tI [] (.s 37) (.s 35), none⟩]
@[reducible] def life_Life_crash.r6 : List MOp := [⟨some 2, .mov (.c (.int .i64 0)), none⟩]
@[reducible] def life_Life_crash.body : MC := (.seq (.reg false life_Life_crash.r0 [2]) (.seq (.reg false life_Life_crash.r1 [6, 7, 8, 9, 10, 11, 12, 13, 14, 15, 16, 17, 18]) (.seq (.seq (.reg false life_Life_crash.r2 [19]) (.cond (.s 20) (.seq (.reg false life_Life_crash.r3 [5, 21]) .ret) .skip)) (.seq (.reg true life_Life_crash.r4 [3, 4, 22, 23, 24, 25, 26, 27, 28, 29, 30]) (.seq (.reg false life_Life_crash.r5 [0, 31, 32, 33, 34, 35, 36, 37]) (.seq (.reg false life_Life_crash.r6 []) .ret))))))
@[reducible] def life_Life_crash : MFun := { params := 1, nfree := 0, res := [.tmp 2], body := life_Life_crash.body }
@[reducible] def soft_Files_free.r0 : List MOp := [⟨some 6, .mov (.c (.int .i64 0)), none⟩]
@[reducible] def soft_Files_free.r1 : List MOp := [⟨some 8, .mov (.s 0), none⟩, ⟨some 9, .nilck (.s 8), none⟩, ⟨some 10, .fld tFiles 0 tP (.s 9), none⟩, ⟨some 11, .load false none tP (.s 10), none⟩, ⟨some 12, .call false [] 203 [(.s 11)], none⟩, ⟨some 7, .alloc false tImage, none⟩, ⟨none, .store tImage [] (.s 7) (.s 12), none⟩]
@[reducible] def soft_Files_free.r2 : List MOp := [⟨some 13, .mov (.s 1), none⟩, ⟨some 14, .mov (.s 2), none⟩, ⟨some 15, .call false [] 19 [(.s 7), (.s 13), (.s 14)], none⟩, ⟨some 16, .bin .geq (.s 15) (.c (.int .i64 0)), none⟩]
@[reducible] def soft_Files_free.r3 : List MOp := [⟨some 6, .mov (.c (.int .i64 (-1))), none⟩]
@[reducible] def soft_Files_free.r4 : List MOp := [⟨some 17, .mov (.s 0), none⟩, ⟨some 18, .nilck (.s 17), none⟩, ⟨some 19, .fld tFiles 0 tP (.s 18), none⟩, ⟨some 20, .load false none tP (.s 19), none⟩, ⟨some 21, .mov (.s 1), none⟩, ⟨some 22, .call false [] 207 [(.s 20), (.s 21)], none⟩, ⟨some 6, .mov (.s 22), none⟩]
@[reducible] def soft_Files_free.body : MC := (.seq (.reg false soft_Files_free.r0 [6]) (.seq (.reg false soft_Files_free.r1 [8, 9, 10, 11, 12]) (.seq (.seq (.reg false soft_Files_free.r2 [2, 7, 13, 14, 15]) (.cond (.s 16) (.seq (.reg false soft_Files_free.r3 []) .ret) .skip)) (.seq (.reg false soft_Files_free.r4 [0, 1, 17, 18, 19, 20, 21, 22]) .ret))))
@[reducible] def soft_Files_free : MFun := { params := 3, nfree := 0, res := [.tmp 6], body := soft_Files_free.body }
end Fn
def tblEL0 : List (Option MFun) := [none, none, none, none, none, none, none, none, none, none, none, none, none, none, none, none, some Fn.ideal_Check, some Fn.eiderdownref_StepFault, none, none, none, none, none, none, some Fn.eiderdownref_SameTexts, none, none, none, some Fn.eiderdownlaw_greatSteps, some Fn.eiderdownlaw_greatStep, none, none, some Fn.ideal_check, none, none, none, some Fn.slices_SortFunc, none, none, none, some Fn.math_bits_Len, some Fn.slices_pdqsortCmpFunc, some Fn.cmp_Compare, some Fn.cmp_isNaN, some Fn.slices_partitionCmpFunc, some Fn.slices_partitionEqualCmpFunc, some Fn.slices_partialInsertionSortCmpFunc, some Fn.slices_reverseRangeCmpFunc, some Fn.slices_choosePivotCmpFunc, some Fn.slices_breakPatternsCmpFunc, some Fn.slices_heapSortCmpFunc, some Fn.slices_insertionSortCmpFunc, some Fn.math_bits_Len64, some Fn.math_bits_Len32, some Fn.slices_siftDownCmpFunc, some Fn.slices_xorshift_Next, some Fn.slices_nextPowerOfTwo, some Fn.slices_medianCmpFunc, some Fn.slices_medianAdjacentCmpFunc, some Fn.slices_order2CmpFunc, none, none, none, none, none, none, some Fn.soft_Files_Same, none, some Fn.soft_Files_Sure, none, none, some Fn.soft_Files_Read, some Fn.soft_Files_List, none, none, some Fn.soft_Files_Do, some Fn.soft_New, none, none, none, none, some Fn.life_Life_Step, none, some Fn.life_Life_Crashes, some Fn.life_Life_Lost, some Fn.life_New, some Fn.eiderdownlaw_lifeBegun, none, none, some Fn.soft_Files_List_1, some Fn.soft_Files_enter, some Fn.soft_Files_leave, some Fn.soft_Files_put, some Fn.soft_Files_make, some Fn.life_Life_crash, none, none, some Fn.soft_Files_free, none, none, none, none, none, none, none, none, none, none]
end Go.Mini
