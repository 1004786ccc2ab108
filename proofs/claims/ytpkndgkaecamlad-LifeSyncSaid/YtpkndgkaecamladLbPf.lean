/- A part of the proof: what Lb computes, step by step. -/
import Derived.Test.YtpkndgkaecamladLbPe
import Derived.ChangeSame
import Derived.Carry
import Derived.OpenShut
import Derived.ProofKit
import Derived.WalkKit
import Derived.Deep.Slices
import Derived.Deep.Fields1

namespace Go.Mini
set_option linter.unusedSimpArgs false
set_option linter.unusedVariables false
set_option maxHeartbeats 4000000
theorem sumN_mono' {f g : Nat → Nat} : ∀ {n}, (∀ i, i < n → f i ≤ g i) → sumN n f ≤ sumN n g
  | 0, _ => Nat.le_refl _
  | n + 1, h => Nat.add_le_add (sumN_mono' fun i hi => h i (by omega)) (h n (by omega))
theorem refs_sub {Z a c : Img} {i : Int} (h : ∀ d s, d < 3 → s < 4 → leads Z d s i = true → leads a d s i = true ∨ leads c d s i = true) : refs Z i ≤ both a c i := by
  refine sumN_mono' fun d hd => sumN_mono' fun s hs => ?_
  cases e : leads Z d s i with
  | false => exact Nat.zero_le _
  | true => rcases h d s hd hs e with e' | e' <;> simp [e', b2n]
theorem refs_mono {Z a : Img} {i : Int} (h : ∀ d s, d < 3 → s < 4 → leads a d s i = true → leads Z d s i = true) : refs a i ≤ refs Z i := by
  refine sumN_mono' fun d hd => sumN_mono' fun s hs => ?_
  cases e : leads a d s i with
  | false => exact Nat.zero_le _
  | true => rw [h d s hd hs e]; exact Nat.le_refl _
theorem ent_set_lt {m : Img} {d s : Nat} {y : Ent} (hd : d < 3) (hs : s < 4) (d' s' : Nat) : (m.setEnt d s y).ent d' s' = if d = d' ∧ s = s' then y else m.ent d' s' := by
  rw [ent_setEnt]
  by_cases e : d = d' ∧ s = s'
  · rw [if_pos ⟨e, by omega, by omega⟩, if_pos e]
  · rw [if_neg (fun h => e h.1), if_neg e]
theorem dir_two {a c Y : Img} {d0 : Nat} (hd0 : d0 < 3) (ha : Ck a) (hlk : ∀ n, n < 8 → (a.ino n).live = true → (Y.ino n).live = true ∧ (Y.ino n).stamp = (a.ino n).stamp ∧ (Y.ino n).links = both a c n)
    (hsub : ∀ d s i, d < 3 → s < 4 → leads Y d s i = true → leads a d s i = true ∨ leads c d s i = true)
    (hfe : ∀ d s, d < 3 → s < 4 → ¬(a.ent d s).name = ⟨#[]⟩ → ¬(Y.ent d s).name = ⟨#[]⟩ → a.ent d s = Y.ent d s) : ∀ k, k ≤ 4 →
    (∀ n, (wrDir a Y d0 k).ino n = Y.ino n) ∧ (∀ d s i, d < 3 → s < 4 → leads (wrDir a Y d0 k) d s i = true → leads a d s i = true ∨ leads c d s i = true) ∧
    (∀ d s, d < 3 → s < 4 → ¬(a.ent d s).name = ⟨#[]⟩ → ¬((wrDir a Y d0 k).ent d s).name = ⟨#[]⟩ → a.ent d s = (wrDir a Y d0 k).ent d s) ∧
    (∀ d s, d < 3 → s < 4 → ¬(a.ent d s).name = ⟨#[]⟩ → (d0 = d ∧ s < k ∨ a.ent d s = Y.ent d s) → a.ent d s = (wrDir a Y d0 k).ent d s)
  | 0, _ => ⟨fun _ => rfl, hsub, hfe, fun d s _ _ _ h => by
      rcases h with h | h
      · omega
      · exact h⟩
  | k + 1, hk => by
    obtain ⟨i1, i2, i3, i4⟩ := dir_two hd0 ha hlk hsub hfe k (by omega)
    have k4 : k < 4 := by omega
    show (∀ n, ((wrDir a Y d0 k).setEnt d0 k (entryAs a (wrDir a Y d0 k) d0 k)).ino n = Y.ino n) ∧ (∀ d s i, d < 3 → s < 4 → leads ((wrDir a Y d0 k).setEnt d0 k (entryAs a (wrDir a Y d0 k) d0 k)) d s i = true → leads a d s i = true ∨ leads c d s i = true) ∧
      (∀ d s, d < 3 → s < 4 → ¬(a.ent d s).name = ⟨#[]⟩ → ¬(((wrDir a Y d0 k).setEnt d0 k (entryAs a (wrDir a Y d0 k) d0 k)).ent d s).name = ⟨#[]⟩ → a.ent d s = ((wrDir a Y d0 k).setEnt d0 k (entryAs a (wrDir a Y d0 k) d0 k)).ent d s) ∧
      (∀ d s, d < 3 → s < 4 → ¬(a.ent d s).name = ⟨#[]⟩ → (d0 = d ∧ s < k + 1 ∨ a.ent d s = Y.ent d s) → a.ent d s = ((wrDir a Y d0 k).setEnt d0 k (entryAs a (wrDir a Y d0 k) d0 k)).ent d s)
    generalize wrDir a Y d0 k = Z at *
    -- what comes to lie there
    have ec := entryAs_cases a Z d0 k
    have here : ¬(a.ent d0 k).name = ⟨#[]⟩ → entryAs a Z d0 k = a.ent d0 k := by
      intro hn
      rcases ha.en d0 k hd0 k4 with e | ⟨_, _, e0, e8, el, es⟩
      · rw [e] at hn; exact absurd rfl hn
      by_cases hz : (Z.ent d0 k).name = ⟨#[]⟩
      · obtain ⟨n, en⟩ : ∃ n : Nat, (a.ent d0 k).ino = n := ⟨(a.ent d0 k).ino.toNat, by omega⟩
        have n8 : n < 8 := by omega
        rw [en, Int.toNat_natCast] at el es
        obtain ⟨l1, l2, l3⟩ := hlk n n8 el
        have hr : refs Z n + 1 ≤ both a c n := by
          have h1 := refs_other (m := Z) (y := a.ent d0 k) hd0 k4 hz n
          have h2 : leadsE (a.ent d0 k) n = true := leadsE_iff.2 ⟨hn, en⟩
          rw [h2] at h1
          have h3 : refs (Z.setEnt d0 k (a.ent d0 k)) n ≤ both a c n := refs_sub fun d s hd hs hh => by
            rw [leads_E, ent_set_lt hd0 k4] at hh
            split at hh
            · rename_i e; left; rw [leads_E, ← e.1, ← e.2]; exact hh
            · exact i2 d s n hd hs hh
          simp [b2n] at h1
          omega
        unfold entryAs
        dsimp only
        by_cases e : a.ent d0 k = Z.ent d0 k
        · rw [if_pos e]; exact e.symm
        · rw [if_neg e, if_pos hz, if_neg (by omega), en, Int.toNat_natCast, if_pos]
          rw [i1]
          exact ⟨l1, by rw [l2, es], by rw [l3]; omega⟩
      · have := i3 d0 k hd0 k4 hn hz
        unfold entryAs
        dsimp only
        rw [if_pos this]; exact this.symm
    refine ⟨fun n => by rw [ino_setEnt]; exact i1 n, fun d s i hd hs hh => ?_, fun d s hd hs hn hz => ?_, fun d s hd hs hn hh => ?_⟩
    · rw [leads_E, ent_set_lt hd0 k4] at hh
      split at hh
      · rename_i e
        rcases ec with g | ⟨_, g, _⟩ | ⟨_, g, _⟩
        · rw [g, ← leads_E, e.1, e.2] at hh; exact i2 d s i hd hs hh
        · left; rw [g, ← leads_E, e.1, e.2] at hh; exact hh
        · rw [g, leadsE_zero] at hh; exact absurd hh (by simp)
      · exact i2 d s i hd hs hh
    · rw [ent_set_lt hd0 k4] at hz ⊢
      split at hz
      · rename_i e; rw [if_pos e]; rw [← e.1, ← e.2] at hn ⊢; exact (here hn).symm
      · rename_i e; rw [if_neg e]; exact i3 d s hd hs hn hz
    · rw [ent_set_lt hd0 k4]
      split
      · rename_i e; rw [← e.1, ← e.2] at hn ⊢; exact (here hn).symm
      · rename_i e
        refine i4 d s hd hs hn ?_
        rcases hh with hh | hh
        · left; refine ⟨hh.1, ?_⟩
          have : ¬k = s := fun e' => e ⟨hh.1, e'⟩
          omega
        · exact .inr hh
theorem dir_three {a Y : Img} {d0 : Nat} (hd0 : d0 < 3) (ha : Ck a) (hall : ∀ d s, d < 3 → s < 4 → ¬(a.ent d s).name = ⟨#[]⟩ → a.ent d s = Y.ent d s) (hz : ∀ d s, d < 3 → s < 4 → (Y.ent d s).name = ⟨#[]⟩ → Y.ent d s = Ent.zero) : ∀ k, k ≤ 4 →
    (∀ d s, d < 3 → s < 4 → ¬(a.ent d s).name = ⟨#[]⟩ → a.ent d s = (wrDir a Y d0 k).ent d s) ∧ (∀ d s, d < 3 → s < 4 → ((wrDir a Y d0 k).ent d s).name = ⟨#[]⟩ → (wrDir a Y d0 k).ent d s = Ent.zero) ∧
    (∀ d s, d < 3 → s < 4 → (d0 = d ∧ s < k ∨ a.ent d s = Y.ent d s) → a.ent d s = (wrDir a Y d0 k).ent d s)
  | 0, _ => ⟨hall, hz, fun d s _ _ h => by
      rcases h with h | h
      · omega
      · exact h⟩
  | k + 1, hk => by
    obtain ⟨i1, i2, i3⟩ := dir_three hd0 ha hall hz k (by omega)
    have k4 : k < 4 := by omega
    show (∀ d s, d < 3 → s < 4 → ¬(a.ent d s).name = ⟨#[]⟩ → a.ent d s = ((wrDir a Y d0 k).setEnt d0 k (entryAs a (wrDir a Y d0 k) d0 k)).ent d s) ∧ (∀ d s, d < 3 → s < 4 → (((wrDir a Y d0 k).setEnt d0 k (entryAs a (wrDir a Y d0 k) d0 k)).ent d s).name = ⟨#[]⟩ → ((wrDir a Y d0 k).setEnt d0 k (entryAs a (wrDir a Y d0 k) d0 k)).ent d s = Ent.zero) ∧
      (∀ d s, d < 3 → s < 4 → (d0 = d ∧ s < k + 1 ∨ a.ent d s = Y.ent d s) → a.ent d s = ((wrDir a Y d0 k).setEnt d0 k (entryAs a (wrDir a Y d0 k) d0 k)).ent d s)
    generalize wrDir a Y d0 k = Z at *
    have here : entryAs a Z d0 k = a.ent d0 k := by
      by_cases hn : (a.ent d0 k).name = ⟨#[]⟩
      · have e0 : a.ent d0 k = Ent.zero := by
          rcases ha.en d0 k hd0 k4 with e | ⟨e, _⟩
          · exact e
          · exact absurd hn e
        by_cases hzn : (Z.ent d0 k).name = ⟨#[]⟩
        · have := i2 d0 k hd0 k4 hzn
          unfold entryAs
          dsimp only
          rw [if_pos (by rw [e0, this]), this, e0]
        · unfold entryAs
          dsimp only
          rw [if_neg (fun e => hzn (by rw [← e]; exact hn)), if_neg hzn, if_pos, e0]
          by_cases hr : refs a (Z.ent d0 k).ino = 0
          · exact .inr hr
          · left
            have h1 := refs_drop (m := Z) hd0 k4 (Z.ent d0 k).ino
            have h2 : leads Z d0 k (Z.ent d0 k).ino = true := by simp [leads, hzn]
            rw [h2] at h1
            have h3 : refs a (Z.ent d0 k).ino ≤ refs (Z.setEnt d0 k Ent.zero) (Z.ent d0 k).ino := refs_mono fun d s hd hs hh => by
              have hnm : ¬(a.ent d s).name = ⟨#[]⟩ := by
                intro e; simp [leads, e] at hh
              rw [leads_E, ent_drop hd0 k4, if_neg (by rintro ⟨rfl, rfl⟩; exact hnm hn), ← i1 d s hd hs hnm]
              exact hh
            simp [b2n] at h1
            omega
      · have := i1 d0 k hd0 k4 hn
        unfold entryAs
        dsimp only
        rw [if_pos this]; exact this.symm
    refine ⟨fun d s hd hs hn => ?_, fun d s hd hs hn => ?_, fun d s hd hs hh => ?_⟩
    · rw [ent_set_lt hd0 k4]
      split
      · rename_i e; rw [here, e.1, e.2]
      · exact i1 d s hd hs hn
    · rw [ent_set_lt hd0 k4] at hn ⊢
      split at hn
      · rename_i e
        rw [if_pos e]
        rw [here] at hn ⊢
        rcases ha.en d0 k hd0 k4 with g | ⟨g, _⟩
        · exact g
        · exact absurd hn g
      · rename_i e; rw [if_neg e]; exact i2 d s hd hs hn
    · rw [ent_set_lt hd0 k4]
      split
      · rename_i e; rw [here, e.1, e.2]
      · rename_i e
        refine i3 d s hd hs ?_
        rcases hh with hh | hh
        · left; refine ⟨hh.1, ?_⟩
          have : ¬k = s := fun e' => e ⟨hh.1, e'⟩
          omega
        · exact .inr hh
theorem wr_data {a b : Img} : ∀ k, k ≤ 9 → (∀ d s, (wrDown a b k).ent d s = b.ent d s) ∧ (∀ n, (wrDown a b k).ino n = b.ino n) ∧ ∀ x, x < 9 → 9 - k ≤ x → (wrDown a b k).dat x = a.dat x
  | 0, _ => ⟨fun _ _ => rfl, fun _ => rfl, fun x hx h => by omega⟩
  | k + 1, hk => by
    obtain ⟨i1, i2, i3⟩ := wr_data (a := a) (b := b) k (by omega)
    have e : blockOf (13 - (k : Int)) = (sData, ((8 - k : Nat) : Int)) := by
      unfold blockOf
      rw [if_neg (by omega), if_neg (by omega), if_neg (by omega)]
      congr 1; omega
    have e2 : wrDown a b (k + 1) = (wrDown a b k).setDat (8 - k) (a.dat (8 - k)) := by
      show (writeAs a (wrDown a b k) (13 - (k : Int))).1 = _
      rw [writeAs_a e]
    rw [e2]
    refine ⟨fun d s => i1 d s, fun n => by rw [ino_setDat]; exact i2 n, fun x hx h => ?_⟩
    rw [dat_setDat]
    split
    · rename_i e; rw [e.1]
    · rename_i e'
      exact i3 x hx (by
        have : ¬(8 - k = x) := fun h' => e' ⟨h', hx⟩
        omega)
theorem wr_dir {a b : Img} (j : Nat) (hj : j < 3) : wrDown a b (10 + j) = wrDir a (wrDown a b (9 + j)) (2 - j) 4 := by
  have e : blockOf (13 - ((9 + j : Nat) : Int)) = (sDir, ((2 - j : Nat) : Int)) := by
    unfold blockOf
    rw [if_neg (by omega), if_neg (by omega), if_pos (by omega)]
    congr 1; omega
  have : 10 + j = (9 + j) + 1 := by omega
  rw [this]
  show (writeAs a (wrDown a b (9 + j)) (13 - ((9 + j : Nat) : Int))).1 = _
  rw [writeAs_d e]
theorem wr_ino {a b : Img} : wrDown a b 14 = wrInodes a (wrInodes a (wrDown a b 12) 4 4) 0 4 := by
  have e1 : blockOf (13 - ((12 : Nat) : Int)) = (sInodes, ((4 : Nat) : Int)) := rfl
  have e2 : blockOf (13 - ((13 : Nat) : Int)) = (sInodes, ((0 : Nat) : Int)) := rfl
  have h1 : wrDown a b 13 = wrInodes a (wrDown a b 12) 4 4 := by
    show (writeAs a (wrDown a b 12) (13 - ((12 : Nat) : Int))).1 = _
    rw [writeAs_i e1]
  show (writeAs a (wrDown a b 13) (13 - ((13 : Nat) : Int))).1 = _
  rw [writeAs_i e2, h1]
theorem inodeAs_now {a X : Img} (ha : Ck a) (hd : ∀ x, x < 9 → X.dat x = a.dat x) {n : Nat} (n8 : n < 8) (hl : (a.ino n).live = true) : inodeAs a X n = { a.ino n with links := both a X n } := by
  have hp : ∀ p, p < 2 → part a X n p = (a.ino n).prt p := by
    intro p hp
    unfold part
    dsimp only
    rcases (ha.li n n8 hl).2.2 p hp with e | ⟨e0, e9, eo⟩
    · rw [if_pos (by omega), e]
    · rw [if_neg (by omega), hd _ (by omega), if_pos eo]
  unfold inodeAs
  rw [if_pos hl, hp 0 (by omega), hp 1 (by omega)]
  refine Ino.ext_of rfl rfl rfl fun p hp => ?_
  rcases (by omega : p = 0 ∨ p = 1) with rfl | rfl <;> rfl
theorem round_end {a b : Img} (ha : Ck a) : (∀ x, x < 9 → (wrDown a b 14).dat x = a.dat x) ∧ (∀ d s, (wrDown a b 14).ent d s = (wrDown a b 12).ent d s) ∧
    (∀ n, n < 8 → (a.ino n).live = true → (wrDown a b 14).ino n = { a.ino n with links := both a (wrDown a b 14) n }) ∧
    (∀ n, n < 8 → (a.ino n).live = false → both a (wrDown a b 14) n = 0 → (wrDown a b 14).ino n = Ino.none) := by
  obtain ⟨_, _, h9⟩ := wr_data (a := a) (b := b) 9 (Nat.le_refl _)
  have hdir : ∀ j, j < 3 → ∀ x, (wrDown a b (10 + j)).dat x = (wrDown a b (9 + j)).dat x := fun j hj x => by
    rw [wr_dir j hj]; exact (wrDir_ok a _ (by omega : 2 - j < 3) 4 (Nat.le_refl _)).2.1 x
  have h12 : ∀ x, x < 9 → (wrDown a b 12).dat x = a.dat x := fun x hx => by
    rw [hdir 2 (by omega), hdir 1 (by omega), hdir 0 (by omega)]; exact h9 x hx (by omega)
  rw [wr_ino]
  have hE1 : ∀ d s, (wrInodes a (wrDown a b 12) 4 4).ent d s = (wrDown a b 12).ent d s := fun d s => wrInodes_ent a _ 4 d s 4
  have hE2 : ∀ d s, (wrInodes a (wrInodes a (wrDown a b 12) 4 4) 0 4).ent d s = (wrDown a b 12).ent d s := fun d s => (wrInodes_ent a _ 0 d s 4).trans (hE1 d s)
  have hD1 : ∀ x, x < 9 → (wrInodes a (wrDown a b 12) 4 4).dat x = a.dat x := fun x hx => (wrInodes_dat a _ 4 x 4).trans (h12 x hx)
  have hD2 : ∀ x, x < 9 → (wrInodes a (wrInodes a (wrDown a b 12) 4 4) 0 4).dat x = a.dat x := fun x hx => (wrInodes_dat a _ 0 x 4).trans (hD1 x hx)
  have hB : ∀ (X X' : Img), (∀ d s, X.ent d s = X'.ent d s) → ∀ i : Int, both a X i = both a X' i := fun X X' h i => by
    refine sumN_congr fun d hd => sumN_congr fun s hs => ?_
    rw [leads_congr (m := X) (m' := X') (h d s)]
  have hB1 : ∀ i : Int, both a (wrDown a b 12) i = both a (wrInodes a (wrInodes a (wrDown a b 12) 4 4) 0 4) i := hB _ _ fun d s => (hE2 d s).symm
  have hB2 : ∀ i : Int, both a (wrInodes a (wrDown a b 12) 4 4) i = both a (wrInodes a (wrInodes a (wrDown a b 12) 4 4) 0 4) i := hB _ _ fun d s => (hE1 d s).trans (hE2 d s).symm
  have hI : ∀ n, n < 8 → (wrInodes a (wrInodes a (wrDown a b 12) 4 4) 0 4).ino n = if n < 4 then inodeAs a (wrInodes a (wrDown a b 12) 4 4) n else inodeAs a (wrDown a b 12) n := fun n hn => by
    rw [wrInodes_ino' a _ 0 (by omega)]
    by_cases e : n < 4
    · rw [if_pos (by omega), if_pos e]
    · rw [if_neg (by omega), if_neg e, wrInodes_ino' a _ 4 (by omega), if_pos (by omega)]
  refine ⟨hD2, hE2, fun n n8 hl => ?_, fun n n8 hl h0 => ?_⟩
  · rw [hI n n8]
    split
    · rw [inodeAs_now ha hD1 n8 hl, hB2]
    · rw [inodeAs_now ha h12 n8 hl, hB1]
  · rw [hI n n8]
    split
    · unfold inodeAs
      rw [if_neg (by rw [hl]; simp), if_neg (by rw [hB2, h0]; simp)]
    · unfold inodeAs
      rw [if_neg (by rw [hl]; simp), if_neg (by rw [hB1, h0]; simp)]
theorem sync_three {F : Fl} (h : Inv F) : syncD F.now F.disk 3 = F.now := by
  obtain ⟨a, b, st⟩ := F
  show syncD a b 3 = a
  have ha : Ck a := .of h.cn
  have hx := (exact_parts h.ex).2
  -- the first round
  obtain ⟨_, _, r3, _⟩ := round_end (b := syncD a b 0) ha
  have inv1 := h.syncD 1
  obtain ⟨c, hc⟩ : ∃ c, syncD a b 1 = c := ⟨_, rfl⟩
  have hc' : wrDown a (syncD a b 0) 14 = c := hc
  rw [hc'] at r3
  have ft1 : Ft a c := by have := inv1.ft; dsimp only at this; rw [hc] at this; exact this
  -- the second one
  have e2 : syncD a b 2 = wrDown a c 14 := by show wrDown a (syncD a b 1) 14 = _; rw [hc]
  have inv2 := h.syncD 2
  obtain ⟨e, he⟩ : ∃ e, wrDown a c 14 = e := ⟨_, rfl⟩
  have all2 : ∀ d s, d < 3 → s < 4 → ¬(a.ent d s).name = ⟨#[]⟩ → a.ent d s = e.ent d s := by
    obtain ⟨p1, p2, _⟩ := wr_data (a := a) (b := c) 9 (Nat.le_refl _)
    have hlk : ∀ n, n < 8 → (a.ino n).live = true → (c.ino n).live = true ∧ (c.ino n).stamp = (a.ino n).stamp ∧ (c.ino n).links = both a c n := fun n n8 hl => by
      rw [r3 n n8 hl]; exact ⟨hl, rfl, rfl⟩
    have q0 := dir_two (a := a) (c := c) (Y := wrDown a c 9) (d0 := 2) (by omega) ha (fun n n8 hl => by rw [p2]; exact hlk n n8 hl) (fun d s i _ _ hh => .inr (by rw [← leads_congr (p1 d s)]; exact hh)) (fun d s hd hs h1 h2 => by rw [p1] at h2 ⊢; exact ft1.fe d s hd hs h1 h2) 4 (Nat.le_refl _)
    have w0 : wrDown a c 10 = wrDir a (wrDown a c 9) 2 4 := wr_dir 0 (by omega)
    rw [← w0] at q0
    obtain ⟨a1, a2, a3, a4⟩ := q0
    have q1 := dir_two (a := a) (c := c) (Y := wrDown a c 10) (d0 := 1) (by omega) ha (fun n n8 hl => by rw [a1, p2]; exact hlk n n8 hl) a2 a3 4 (Nat.le_refl _)
    have w1 : wrDown a c 11 = wrDir a (wrDown a c 10) 1 4 := wr_dir 1 (by omega)
    rw [← w1] at q1
    obtain ⟨b1, b2, b3, b4⟩ := q1
    have q2 := dir_two (a := a) (c := c) (Y := wrDown a c 11) (d0 := 0) (by omega) ha (fun n n8 hl => by rw [b1, a1, p2]; exact hlk n n8 hl) b2 b3 4 (Nat.le_refl _)
    have w2 : wrDown a c 12 = wrDir a (wrDown a c 11) 0 4 := wr_dir 2 (by omega)
    rw [← w2] at q2
    obtain ⟨_, _, _, c4⟩ := q2
    intro d s hd hs hn
    rw [← he, (round_end (b := c) ha).2.1]
    rcases (by omega : d = 0 ∨ d = 1 ∨ d = 2) with rfl | rfl | rfl
    · exact c4 0 s hd hs hn (.inl ⟨rfl, hs⟩)
    · exact c4 1 s hd hs hn (.inr (b4 1 s hd hs hn (.inl ⟨rfl, hs⟩)))
    · exact c4 2 s hd hs hn (.inr (b4 2 s hd hs hn (.inr (a4 2 s hd hs hn (.inl ⟨rfl, hs⟩)))))
  have ck2 : Ck e := by
    have := Ck.of inv2.ck
    dsimp only at this
    rw [e2, he] at this; exact this
  -- the third one
  have e3 : syncD a b 3 = wrDown a e 14 := by show wrDown a (syncD a b 2) 14 = _; rw [e2, he]
  rw [e3]
  obtain ⟨s1, s2, s3, s4⟩ := round_end (b := e) ha
  have ents : ∀ d s, d < 3 → s < 4 → (wrDown a e 14).ent d s = a.ent d s := by
    obtain ⟨p1, p2, _⟩ := wr_data (a := a) (b := e) 9 (Nat.le_refl _)
    have q0 := dir_three (a := a) (Y := wrDown a e 9) (d0 := 2) (by omega) ha (fun d s hd hs hn => by rw [p1]; exact all2 d s hd hs hn) (fun d s hd hs hn => by
      rw [p1] at hn ⊢
      rcases ck2.en d s hd hs with g | ⟨g, _⟩
      · exact g
      · exact absurd hn g) 4 (Nat.le_refl _)
    have w0 : wrDown a e 10 = wrDir a (wrDown a e 9) 2 4 := wr_dir 0 (by omega)
    rw [← w0] at q0
    obtain ⟨a1, a2, a3⟩ := q0
    have q1 := dir_three (a := a) (Y := wrDown a e 10) (d0 := 1) (by omega) ha a1 a2 4 (Nat.le_refl _)
    have w1 : wrDown a e 11 = wrDir a (wrDown a e 10) 1 4 := wr_dir 1 (by omega)
    rw [← w1] at q1
    obtain ⟨b1, b2, b3⟩ := q1
    have q2 := dir_three (a := a) (Y := wrDown a e 11) (d0 := 0) (by omega) ha b1 b2 4 (Nat.le_refl _)
    have w2 : wrDown a e 12 = wrDir a (wrDown a e 11) 0 4 := wr_dir 2 (by omega)
    rw [← w2] at q2
    obtain ⟨_, _, c3⟩ := q2
    intro d s hd hs
    rw [s2]
    rcases (by omega : d = 0 ∨ d = 1 ∨ d = 2) with rfl | rfl | rfl
    · exact (c3 0 s hd hs (.inl ⟨rfl, hs⟩)).symm
    · exact (c3 1 s hd hs (.inr (b3 1 s hd hs (.inl ⟨rfl, hs⟩)))).symm
    · exact (c3 2 s hd hs (.inr (b3 2 s hd hs (.inr (a3 2 s hd hs (.inl ⟨rfl, hs⟩)))))).symm
  have hboth : ∀ i : Int, both a (wrDown a e 14) i = refs a i := fun i => by
    rw [← both_self]
    refine sumN_congr fun d hd => sumN_congr fun s hs => ?_
    rw [leads_congr (m := wrDown a e 14) (m' := a) (ents d s hd hs)]
  refine Img.ext_of (fun n n8 => ?_) ents s1
  cases hl : (a.ino n).live with
  | true =>
    rw [s3 n n8 hl, hboth, ← (hx n n8 hl).2]
  | false =>
    rw [s4 n n8 hl (by rw [hboth]; exact dead_refs h.cn n8 hl)]
    exact (ha.de n n8 hl).symm
theorem sync_ok {F : Fl} (h : Inv F) : syncK F.now F.disk ≤ 3 ∧ syncTo F.now F.disk = F.now := by
  have h3 := sync_three h
  have hf : ∃ j : Nat, j ≤ 3 ∧ findN 8 (fun k => decide (F.now = syncD F.now F.disk k)) = j ∧ F.now = syncD F.now F.disk j := by
    have ha : anyN 8 (fun k => decide (F.now = syncD F.now F.disk k)) = true := anyN_at (j := 3) (by omega) (by simp [h3])
    obtain ⟨j, hj, e, h1, h2⟩ := findN_any ha
    refine ⟨j, ?_, e, by simpa using h1⟩
    by_cases c : 3 < j
    · have := h2 3 c; simp [h3] at this
    · omega
  obtain ⟨j, hj, e, h1⟩ := hf
  have ek : syncK F.now F.disk = j := by
    unfold syncK
    rw [e, if_neg (by omega)]; simp
  exact ⟨by omega, by rw [syncTo, ek]; exact h1.symm⟩
end Go.Mini

namespace Go.Mini
set_option linter.unusedSimpArgs false
set_option linter.unusedVariables false
set_option maxHeartbeats 4000000
set_option maxRecDepth 100000
def lifeRun (L : Lf) (l : List SStep) : Nat → Lf
  | 0 => L
  | k + 1 => lifeF (lifeRun L l k) (stp l k)
theorem inv_run {L : Lf} (l : List SStep) (h : Inv L.fl) (hs : L.fl.stamp ≤ 1000000000) : ∀ k, k ≤ 1000000000 → Inv (lifeRun L l k).fl ∧ (lifeRun L l k).fl.stamp ≤ 1000000000 + k
  | 0, _ => ⟨h, by show L.fl.stamp ≤ _; omega⟩
  | k + 1, hk => by
    obtain ⟨a, b⟩ := inv_run l h hs k (by omega)
    obtain ⟨c, d⟩ := a.lifeF (by omega) (stp l k)
    exact ⟨c, by show (lifeF (lifeRun L l k) (stp l k)).fl.stamp ≤ _; omega⟩
theorem new_stamp : Lf.new.fl.stamp ≤ 1000000000 := by decide
theorem crash_zero {L : Lf} (h : Inv L.fl) : lifeC L sC = 0 := h.ck
theorem crash_is {L : Lf} (h : Inv L.fl) : lifeF L sC = ⟨⟨mended L.fl.disk, mended L.fl.disk, maxSt (mended L.fl.disk) 8⟩, lostF L.fl.disk 8, lostC L.fl.disk 8, lostD (mendI L.fl.disk 8) 9, IntKind.i64.wrap (L.n + 1)⟩ := by
  show crashF L = _
  unfold crashF
  rw [if_pos h.ck]
theorem sC_ok : sC.ok := stepOk_short (by decide)
theorem sS_ok : sS.ok := stepOk_short (by decide)
section
variable {cx : Cx} {h : HP} {c : Nat} {a b : Img}
theorem eClean (hC : h.look (.obj c) = some ⟨tCache, encC a b⟩) : Ok tblE cx Fn.cache_Cache_Clean (St.enter [.ptr (.obj c) [] tCache] h) fun v h' => v = .bool (decide (a = b)) ∧ h' = h := upE (CClean_ok (rd_of hC).1 (rd_of hC).2)
theorem eDirty {x : Int} (hC : h.look (.obj c) = some ⟨tCache, encC a b⟩) : Ok tblE cx Fn.cache_Cache_Dirty (St.enter [.ptr (.obj c) [] tCache, .int .i64 x] h) fun v h' => v = .bool (dirty a b x) ∧ h' = h := upE (CDirty_ok (rd_of hC).1 (rd_of hC).2)
end
@[go_sem] theorem fill_lost0 : fill tLost (encLost 0 0 0) [] = some (encLost 0 0 0) := rfl
end Go.Mini

namespace Go.Mini
open Go.RowKit Go.ChangeShapes
set_option linter.unusedVariables false
section
variable {H : Type} {enc : TypeId × Value → H} {P : Program}
theorem trodAll_stays (hl : laidOutB P = true) {W W' : World} {sp : Nat → Bool} (hB : Below W.heap.size W W') : ∀ {ts : List TypeId} {vs : List Value} {ds : List (DataW H)} {ps : List MemPlace},
    (∀ t ∈ ts, P.readableRec t = true ∧ t < P.types.size) → DataW.TrodAll enc P W 0 (fun _ => true) true ts vs ds ps → (∀ p ∈ ps, p.block < W.heap.size) → (∀ p ∈ ps, sp p.block = true) →
    DataW.TrodAll enc P W' 0 sp true ts vs ds ps
  | [], vs, ds, ps, _, h, _, _ => by
    obtain ⟨rfl, rfl, rfl⟩ := trodAll_nil h
    exact trodAll_mk0
  | t :: ts, vs, ds, ps, ht, h, h1, h2 => by
    obtain ⟨v, vs', d, ds', p, q, rfl, rfl, rfl, h3, h4⟩ := trodAll_cons h
    exact ⟨p, q, WideElems.Trod_stays hl (ht t List.mem_cons_self).1 (ht t List.mem_cons_self).2 h3 (fun x hx => hB.same (h1 x (List.mem_append_left _ hx))) (fun x hx => h2 x (List.mem_append_left _ hx)),
      trodAll_stays hl hB (fun t' ht' => ht t' (List.mem_cons_of_mem _ ht')) h4 (fun x hx => h1 x (List.mem_append_right _ hx)) (fun x hx => h2 x (List.mem_append_right _ hx)), rfl⟩
theorem law_post {f : Func} {s : ChangeSpec} {tb : TypeId} {W W' : World} {args : Array Value} {ds gs : List (DataW H)} {before : List MemPlace} (hl : laidOutB P = true) (hts : ∀ t ∈ f.params.toList, P.readableRec t = true ∧ t < P.types.size)
    (hv : s.vars = []) (hr : f.resultTypes = #[tb]) (hb : P.underlying tb = some .bool)
    (hW : DataW.Whole enc P f.params.toList s.vars false W args.toList ds gs before) (hs : s.fn H ds = { results := [.lit (.bool true)], args := ds }) (hB : Below W.heap.size W W') :
    s.post enc P f false true false false W args (.bool true) W' := by
  have hlt := hW.lt
  obtain ⟨p, q, hA, hV, rfl, hfz, hnd⟩ := id hW
  rw [hv] at hV
  obtain ⟨rfl, rfl⟩ := trodVars_none hV
  refine ⟨ds, [], p ++ [], [], p, [], hW, ?_, ?_, ?_, hB.frame _, fun h => by cases h⟩
  · rw [hr, List.append_nil, hs]
    exact trodAll_cons_mk (shut_bool hb _) trodAll_mk0
  · rw [List.append_nil, hs]
    exact trodAll_stays hl hB hts hA (fun x hx => hlt x (by simpa using hx)) (fun x hx => by simpa using hlt x (by simpa using hx))
  · rw [hv, List.append_nil, hs]
    rfl
end
theorem dec_encV {α : Type} {f : α → AV} {t : Ty} {n : Nat} (h : ∀ v, t.fits v = true → ∃ a, v = f a) {v : AV} (hv : (Ty.arr n t).fits v = true) : ∃ w : Vector α n, v = encV f w := by
  cases v with
  | arr k g =>
    simp only [Ty.fits, Bool.and_eq_true, beq_iff_eq, List.all_eq_true] at hv
    obtain ⟨rfl, hg⟩ := hv
    have hc : ∀ i, ∃ a, g i = f a := fun i => h _ (hg i (List.mem_finRange _))
    refine ⟨Vector.ofFn fun i => (hc i).choose, ?_⟩
    simp only [encV]
    congr 1
    funext i
    simp only [Fin.getElem_fin, Vector.getElem_ofFn]
    exact (hc i).choose_spec
  | _ => simp [Ty.fits] at hv
theorem dec_int {v : AV} (h : tI.fits v = true) : ∃ n, v = .int .i64 n := by
  cases v <;> simp [tI, Ty.fits, LK.fits, AV.safe] at h
  subst h; exact ⟨_, rfl⟩
theorem dec_bool {v : AV} (h : tB.fits v = true) : ∃ n, v = .bool n := by
  cases v <;> simp [tB, Ty.fits, LK.fits, AV.safe] at h
  exact ⟨_, rfl⟩
theorem dec_str {v : AV} (h : tS.fits v = true) : ∃ n, v = .str n := by
  cases v <;> simp [tS, Ty.fits, LK.fits, AV.safe] at h
  exact ⟨_, rfl⟩
theorem dec_cons {a b : Ty} {v : AV} (h : (Ty.cons a b).fits v = true) : ∃ x y, v = .cons x y ∧ a.fits x = true ∧ b.fits y = true := by
  cases v <;> simp [Ty.fits] at h
  exact ⟨_, _, rfl, h⟩
theorem dec_unit {v : AV} (h : Ty.unit.fits v = true) : v = .unit := by
  cases v <;> simp [Ty.fits] at h
  rfl
theorem dec_ent {v : AV} (h : tEntry.fits v = true) : ∃ e : Ent, v = e.enc := by
  obtain ⟨a, v, rfl, ha, h⟩ := dec_cons h
  obtain ⟨b, v, rfl, hb, h⟩ := dec_cons h
  obtain ⟨c, v, rfl, hc, h⟩ := dec_cons h
  obtain rfl := dec_unit h
  obtain ⟨a, rfl⟩ := dec_str ha
  obtain ⟨b, rfl⟩ := dec_int hb
  obtain ⟨c, rfl⟩ := dec_int hc
  exact ⟨⟨a, b, c⟩, rfl⟩
theorem dec_dat {v : AV} (h : tData.fits v = true) : ∃ e : Dat, v = e.enc := by
  obtain ⟨a, v, rfl, ha, h⟩ := dec_cons h
  obtain ⟨b, v, rfl, hb, h⟩ := dec_cons h
  obtain rfl := dec_unit h
  obtain ⟨a, rfl⟩ := dec_int ha
  obtain ⟨b, rfl⟩ := dec_str hb
  exact ⟨⟨a, b⟩, rfl⟩
theorem dec_ino {v : AV} (h : tInode.fits v = true) : ∃ e : Ino, v = e.enc := by
  obtain ⟨a, v, rfl, ha, h⟩ := dec_cons h
  obtain ⟨b, v, rfl, hb, h⟩ := dec_cons h
  obtain ⟨c, v, rfl, hc, h⟩ := dec_cons h
  obtain ⟨d, v, rfl, hd, h⟩ := dec_cons h
  obtain rfl := dec_unit h
  obtain ⟨a, rfl⟩ := dec_bool ha
  obtain ⟨b, rfl⟩ := dec_int hb
  obtain ⟨c, rfl⟩ := dec_int hc
  obtain ⟨d, rfl⟩ := dec_encV (f := AV.int .i64) (fun _ => dec_int) hd
  exact ⟨⟨a, b, c, d⟩, rfl⟩
theorem dec_img {v : AV} (h : tImage.fits v = true) : ∃ e : Img, v = e.enc := by
  obtain ⟨a, v, rfl, ha, h⟩ := dec_cons h
  obtain ⟨b, v, rfl, hb, h⟩ := dec_cons h
  obtain ⟨c, v, rfl, hc, h⟩ := dec_cons h
  obtain rfl := dec_unit h
  obtain ⟨a, rfl⟩ := dec_encV (f := Ino.enc) (fun _ => dec_ino) ha
  obtain ⟨b, rfl⟩ := dec_encV (f := encV Ent.enc) (fun _ => dec_encV (f := Ent.enc) fun _ => dec_ent) hb
  obtain ⟨c, rfl⟩ := dec_encV (f := Dat.enc) (fun _ => dec_dat) hc
  exact ⟨⟨a, b, c⟩, rfl⟩
end Go.Mini

namespace Go.Mini
open Go.RowKit Go.ChangeShapes
set_option linter.unusedVariables false
set_option linter.unusedSimpArgs false
def HP.args (f : Nat → Option Blk) : HP := ⟨fun _ => [], fun _ => none, 0, f⟩
def betaA (g : Nat → Option Place) : Beta
  | .arg n => g n
  | _ => none
def elemOk (P : Program) (ks : List LK) (e : TypeId) : Bool :=
  match P.underlying e with
  | some (.struct fs) => Go.Deep.oneCellFields P fs && (P.cellsOf e == fs.size) && (fs.toList.map (fun f => kindOf (P.underlying f.type)) == ks.map some)
  | d => (P.cellsOf e == 1) && (match kindOf d with | some k => ks == [k] | none => false)
section
variable {H : Type} {enc : TypeId × Value → H} {P : Program} {w : World} {base : Nat} {spare : Nat → Bool} {held : Bool} {φ : Nat → Option FuncId} {β : Beta}
theorem wf_has {k : IntKind} {n : Int} (h : (Lit.int k n).wf = true) : k.has n := by
  simp only [Lit.wf, Bool.and_eq_true, decide_eq_true_eq] at h
  exact h
theorem maxLen_le {n : Nat} (h : n ≤ maxLen) : (n : Int) ≤ IntKind.i64.max := by
  have : IntKind.i64.max = 2 ^ 63 - 1 := by decide
  rw [this]
  unfold maxLen at h
  omega
theorem leaf_trod {u : TypeId} {k : LK} {n : Nat} {cs : List Value} {y : DataW H × List MemPlace} (hk : kindOf (P.underlying u) = some k) (h : DataW.trod enc P w base spare held n u cs = some y) : ∃ x, cs = [x] ∧ okCell k x := by
  unfold kindOf at hk
  split at hk <;> simp at hk <;> subst hk <;> rename_i hu
  · cases n with
    | zero => simp [DataW.trod] at h
    | succ n =>
      unfold DataW.trod at h
      rw [hu] at h
      match cs, h with
      | [.bool b], _ => exact ⟨_, rfl, b, rfl⟩
  · obtain ⟨s, rfl, _, hs⟩ := DataW.trod_string hu h
    exact ⟨_, rfl, s, rfl, maxLen_le hs⟩
  · obtain ⟨m, rfl, _, hs⟩ := DataW.trod_int hu h
    exact ⟨_, rfl, m, rfl, wf_has hs⟩
theorem elem_trod {e : TypeId} {ks : List LK} {n : Nat} {cs : List Value} {y : DataW H × List MemPlace} (hk : elemOk P ks e = true) (h : DataW.trod enc P w base spare held n e cs = some y) : All2 okCell ks cs := by
  unfold elemOk at hk
  split at hk
  · rename_i fs hu
    simp only [Bool.and_eq_true, beq_iff_eq] at hk
    obtain ⟨⟨h1, h2⟩, h3⟩ := hk
    obtain ⟨xs, m, rfl, rfl, hl, hxl, hf⟩ := DataW.trod_struct hu h
    have hone := Go.Deep.hone_of h1
    have hkl : ks.length = fs.size := by simpa using (congrArg List.length h3).symm
    refine ⟨by omega, fun i k x hi hx => ?_⟩
    have hi' : i < fs.size := by
      rcases Nat.lt_or_ge i ks.length with h | h
      · omega
      · rw [List.getElem?_eq_none h] at hi; simp at hi
    have hfi : fs[i]? = some fs[i] := Array.getElem?_eq_getElem hi'
    obtain ⟨ho, hc1⟩ := hone i _ hfi
    have g := hf i _ hfi
    rw [ho, hc1, Go.Deep.take1_drop cs i undef (by omega), List.getElem?_eq_getElem (by omega)] at g
    have hki : kindOf (P.underlying fs[i].type) = some k := by
      have := congrArg (fun l => l[i]?) h3
      simp only [List.getElem?_map, hi, Array.getElem?_toList, hfi, Option.map_some] at this
      simpa using this
    obtain ⟨x', e1, e2⟩ := leaf_trod hki g
    have : cs.getD i undef = x := by simp [List.getD, hx]
    rw [this] at e1
    simp at e1
    subst e1; exact e2
  · simp only [Bool.and_eq_true, beq_iff_eq] at hk
    obtain ⟨_, hk⟩ := hk
    cases hq : kindOf (P.underlying e) with
    | none => rw [hq] at hk; simp at hk
    | some k =>
      rw [hq] at hk
      simp at hk
      subst hk
      obtain ⟨x, rfl, hx⟩ := leaf_trod hq h
      exact All2.cons hx All2.nil
structure SliceAt (φ : Nat → Option FuncId) (W : World) (t : Ty) (l : List AV) (x : Value) (pl : Place) : Prop where
  ty : pl.ty = .arr l.length t
  val : ∀ (g : Nat → Option Place) n, g n = some pl → VR φ (betaA g) (.sl (.arg n) 0 l.length) x
  blk : ∀ (g : Nat → Option Place) (O : Nat → Prop) n, g n = some pl → ∃ cs T fr, BR φ (betaA g) O (.arg n) ⟨.arr l.length t, .ofList l⟩ W pl cs T fr
theorem fits_ofList {t : Ty} {l : List AV} (h : ∀ v ∈ l, t.fits v = true) : (Ty.arr l.length t).fits (.ofList l) = true := by
  simp only [AV.ofList, Ty.fits, beq_self_eq_true, Bool.true_and, List.all_eq_true]
  exact fun i _ => h _ (List.get_mem ..)
theorem given_slice {t : Ty} {U e : TypeId} {r : Reach} {b : Nat} {x : Value} {d : DataW H} {ps : List MemPlace} (hu : P.underlying U = some (.slice e)) (hk : elemOk P t.kinds e = true) (hs : P.cellsOf e = t.size) (hp : 0 < t.size)
    (hok : Value.okWide P w r b U x) (h : DataW.Trod enc P w 0 (fun _ => true) true U x d ps) :
    ∃ l : List AV, (∀ v ∈ l, t.fits v = true ∧ v.ranged) ∧ ((l = [] ∧ (x = .slice none 0 0 ∨ ∃ a cap, x = .slice (some a) 0 cap)) ∨ ∃ pl, SliceAt φ w t l x pl) := by
  obtain ⟨fuel, h⟩ := h
  have hx : Cell.okWide P w r b U x := by unfold Value.okWide at hok; rw [hu] at hok; exact hok
  have hx' : Cell.ok P w r b U x := by
    unfold Cell.okWide at hx
    rw [hu] at hx
    cases x <;> exact hx
  have hx'' : x = .slice none 0 0 ∨ ∃ a len cap, x = .slice (some a) len cap ∧ len ≤ cap ∧ a.spot = none := by
    unfold Cell.ok at hx'
    rw [hu] at hx'
    cases x with
    | slice a len cap =>
      cases a with
      | none =>
        cases len <;> cases cap <;> simp at hx'
        exact .inl rfl
      | some a => exact .inr ⟨a, len, cap, rfl, hx'.1, hx'.2.2.2.1⟩
    | _ => simp at hx'
  rcases hx'' with rfl | ⟨a, len, cap, rfl, hlc, hspot⟩
  · exact ⟨[], by simp, .inl ⟨rfl, .inl rfl⟩⟩
  by_cases h0 : len = 0
  · subst h0
    exact ⟨[], by simp, .inl ⟨rfl, .inr ⟨a, cap, rfl⟩⟩⟩
  rcases Go.Deep.open_slice hu h with ⟨h1, _⟩ | ⟨a', len', cap', m, n, D, Pl, h1, _, _, hcm, hm, _, hel⟩
  · simp [Value.cells] at h1
  simp [Value.cells] at h1
  obtain ⟨rfl, rfl, rfl⟩ := h1
  simp only [if_true] at hm
  subst hm
  rw [hs] at hel
  obtain ⟨br, off, spot⟩ := a
  simp only at hspot
  subst hspot
  -- the block
  obtain ⟨cs0, hc0, _⟩ := hel 0 (by omega)
  obtain ⟨_, hl0, hcell0⟩ := World.cells?_some hc0
  have hb0 := hcell0 0 hp
  rw [List.getElem?_eq_getElem (by omega)] at hb0
  obtain ⟨cs, T, fr, hheap⟩ : ∃ cs T fr, w.heap[br]? = some (.cells cs T fr) := by
    have hblk : ((Addr.mk br off none).add (0 * t.size)).add 0 = ⟨br, off, none⟩ := by simp [Addr.add]
    rw [hblk] at hb0
    unfold World.cell? at hb0
    split at hb0
    · exact ⟨_, _, _, by assumption⟩
    · simp at hb0
  have hcell : ∀ i, i < m → ∀ k, k < t.size → ∀ ci, w.cells? 0 ((Addr.mk br off none).add (i * t.size)) t.size = some ci → cs[off + i * t.size + k]? = ci[k]? := by
    intro i hi k hkt ci hci
    obtain ⟨_, hl, hcell⟩ := World.cells?_some hci
    rw [← hcell k hkt]
    have : ((Addr.mk br off none).add (i * t.size)).add k = ⟨br, off + i * t.size + k, none⟩ := by
      unfold Addr.add
      by_cases e1 : i * t.size = 0 <;> by_cases e2 : k = 0 <;> simp [e1, e2]
    rw [this]
    simp [World.cell?, hheap]
  obtain ⟨V, hV⟩ := Go.Deep.choose_lt (α := AV) (n := len) (p := fun i v => t.fits v = true ∧ v.ranged ∧ ∀ (β : Beta) k c, v.flat[k]? = some c → ∃ x, cs[off + i * t.size + k]? = some x ∧ LR φ β c x) (fun i hi => by
    obtain ⟨ci, hci, hti⟩ := hel i (by omega)
    obtain ⟨_, hlci, _⟩ := World.cells?_some hci
    obtain ⟨v, hf, hl, hr⟩ := build (φ := φ) (β := fun _ => none) t ci (elem_trod hk hti)
    refine ⟨v, hf, hr, fun β k c hc => ?_⟩
    have hkt : k < t.size := by
      rcases Nat.lt_or_ge k v.flat.length with h | h
      · rw [Ty.fits_length hf] at h; exact h
      · rw [List.getElem?_eq_none h] at hc; simp at hc
    refine ⟨ci[k]'(by omega), ?_, ?_⟩
    · rw [hcell i (by omega) k hkt ci hci, List.getElem?_eq_getElem (by omega)]
    · have := hl.2 k c _ hc (List.getElem?_eq_getElem (by omega))
      exact LR_congr (fun i pl _ h => by simp at h) this)
  refine ⟨(List.range len).map V, fun v hv => ?_, .inr ⟨⟨br, off, .arr len t, m * t.size⟩, by simp, fun g n hg => ?_, fun g O n hg => ⟨cs, T, fr, ?_⟩⟩⟩
  · obtain ⟨i, hi, rfl⟩ := List.mem_map.1 hv
    obtain ⟨h1, h2, _⟩ := hV i (List.mem_range.1 hi)
    exact ⟨h1, h2⟩
  · refine VR_of_VR1 ?_
    simp only [VR1, AV.isAgg, Bool.false_eq_true, if_false, LR, AV.rel, List.length_map, List.length_range]
    exact ⟨_, len, t, m, hg, rfl, by omega, by omega, by simp, by simp⟩
  · have hfits : (Ty.arr ((List.range len).map V).length t).fits (.ofList ((List.range len).map V)) = true := fits_ofList fun v hv => by
      obtain ⟨i, hi, rfl⟩ := List.mem_map.1 hv
      exact (hV i (List.mem_range.1 hi)).1
    refine ⟨hg, by simp, hfits, hheap, ?_, ?_, ?_, fun h => by simp [Id.isArg] at h⟩
    · -- room
      obtain ⟨ci, hci, _⟩ := hel (m - 1) (by omega)
      obtain ⟨_, hlci, _⟩ := World.cells?_some hci
      have := hcell (m - 1) (by omega) (t.size - 1) (by omega) ci hci
      rw [List.getElem?_eq_getElem (by omega)] at this
      obtain ⟨hlt, _⟩ := Array.getElem?_eq_some_iff.1 this
      show off + m * t.size ≤ cs.size
      have e : m * t.size = (m - 1) * t.size + t.size := by
        have : m = (m - 1) + 1 := by omega
        calc m * t.size = ((m - 1) + 1) * t.size := by rw [← this]
          _ = _ := by rw [Nat.add_mul, Nat.one_mul]
      omega
    · simp only [Ty.size, List.length_map, List.length_range]
      exact Nat.mul_le_mul_right _ hlc
    · intro k c hc
      have hflat : (AV.ofList ((List.range len).map V)).flat = (List.range len).flatMap fun i => (V i).flat := by
        rw [arr_flat, List.flatMap_map]
      rw [hflat] at hc
      have hlen : ∀ i ∈ List.range len, ((V i).flat).length = t.size := fun i hi => Ty.fits_length (hV i (List.mem_range.1 hi)).1
      have hk : k / t.size < len := by
        have hkl : k < ((List.range len).flatMap fun i => (V i).flat).length := by
          rcases Nat.lt_or_ge k ((List.range len).flatMap fun i => (V i).flat).length with h | h
          · exact h
          · rw [List.getElem?_eq_none h] at hc; simp at hc
        have hll : ((List.range len).flatMap fun i => (V i).flat).length = len * t.size := by
          rw [List.length_flatMap, List.map_congr_left hlen, List.map_const', List.sum_replicate_nat, List.length_range]
        rw [hll] at hkl
        exact (Nat.div_lt_iff_lt_mul hp).2 hkl
      have e := getElem?_flatMap_const (List.range len) (fun i => (V i).flat) t.size hlen (k / t.size) (by simpa using hk) (k % t.size) (Nat.mod_lt _ hp)
      have ek : k / t.size * t.size + k % t.size = k := by rw [Nat.mul_comm]; exact Nat.div_add_mod k t.size
      rw [ek] at e
      rw [e] at hc
      simp only [List.getElem_range] at hc
      obtain ⟨y, hy, hyl⟩ := (hV (k / t.size) hk).2.2 (betaA g) (k % t.size) c hc
      refine ⟨y, ?_, hyl⟩
      show cs[off + k]? = some y
      rw [← hy]
      congr 1
      omega
end
section
variable {P : Program} {T : Nat → Option MFun}
theorem law_runA {φ : Nat → Option FuncId} {fuel F f : Nat} {fn : MFun} {args : List AV} {rargs : List Value} {v : AV} {hp : HP} {bf : Nat → Option Blk} {g : Nat → Option Place} (hT : TblOk P T φ drawOk) (hmo : P.follows .mixedOrders = true) (hf : T f = some fn) (hF : φ f = some F) (hfree : fn.nfree = 0)
    (hrun : runFn T fuel f args (HP.args bf) = some (v, hp)) (hlen : args.length = fn.params) (ha : All2 (VR φ (betaA g)) args rargs) (W : World)
    (hB : ∀ n b, bf n = some b → ∃ pl cs T fr, BR φ (betaA g) (fun r => W.heap.size ≤ r) (.arg n) b W pl cs T fr) :
    Calls P F rargs.toArray W fun e W' => (∃ x β', e = .returned x ∧ VR φ β' v x) ∧ Below W.heap.size W W' := by
  unfold runFn at hrun
  rw [hf] at hrun
  simp only at hrun
  cases hr : run T fuel ⟨0, ⟨0, 0⟩⟩ [.code fn.body] (St.enter args (HP.args bf)) with
  | none => simp [hr] at hrun
  | some s2 =>
    simp only [hr, Option.map_eq_some_iff] at hrun
    obtain ⟨v', hv, he⟩ := hrun
    simp at he
    obtain ⟨rfl, _⟩ := he
    have hst : ∀ i b, (HP.args bf).look i = some b → ∃ n, i = .arg n ∧ bf n = some b := by
      intro i b hb
      cases i with
      | stk l t => simp [HP.args, HP.look, Own.get] at hb
      | obj n => simp [HP.args, HP.look] at hb
      | arg n => exact ⟨n, rfl, hb⟩
    have := callSim hT (drawSound hT hmo) fuel ⟨0, ⟨0, 0⟩⟩ fn F args (HP.args bf) s2 v' (betaA g) (fun r => W.heap.size ≤ r) rargs W (hT f fn F hf hF) hr hv (by simp [hlen, hfree]) ha
      ⟨fun i b hb => by obtain ⟨n, rfl, h⟩ := hst i b hb; exact hB n b h, fun i j bi bj pi pj hi hj _ _ _ _ => by
        obtain ⟨n, rfl, _⟩ := hst i bi hi
        obtain ⟨m, rfl, _⟩ := hst j bj hj
        exact ⟨rfl, rfl⟩⟩ (fun i pl h => by cases i <;> simp [betaA] at h <;> trivial) (fun _ _ => rfl) (fun r h => h)
    refine this.mono fun e W' h => ?_
    obtain ⟨x, β', rfl, hvx, _, hA⟩ := h
    exact ⟨⟨x, β', rfl, hvx⟩, hA.same.os, hA.same.tape, hA.same.output, hA.same.size, fun k hk => hA.same.block k hk (by omega)⟩
theorem law_callsS {φ : Nat → Option FuncId} {F f : Nat} {fn : MFun} {bf : Nat → Option Blk} {g : Nat → Option Place} (hT : TblOk P T φ drawOk) (hmo : P.follows .mixedOrders = true) (hf : T f = some fn) (hF : φ f = some F) (hfree : fn.nfree = 0)
    {args : Array Value} {avs : List AV} (W : World) (ha : All2 (VR φ (betaA g)) avs args.toList) (hlen : avs.length = fn.params) (hB : ∀ n b, bf n = some b → ∃ pl cs T fr, BR φ (betaA g) (fun r => W.heap.size ≤ r) (.arg n) b W pl cs T fr)
    (h : Ok T ⟨0, ⟨0, 0⟩⟩ fn (St.enter avs (HP.args bf)) fun v _ => v = .bool true) :
    Calls P F args W fun e W' => e = .returned (.bool true) ∧ Below W.heap.size W W' := by
  obtain ⟨n, s', v, hr, hv, rfl⟩ := h
  have hr' : runFn T n f avs (HP.args bf) = some (.bool true, s'.hp) := by simp only [runFn, hf, hr, hv]; rfl
  have := law_runA hT hmo hf hF hfree hr' hlen ha W hB
  rw [Array.toArray_toList] at this
  refine this.mono fun e W' h => ⟨?_, h.2⟩
  obtain ⟨⟨x, β', rfl, hv⟩, _⟩ := h
  simp [VR, VR1, AV.isAgg, LR, AV.rel] at hv
  rw [hv]
end
end Go.Mini

namespace Go.Mini
open Go.RowKit Go.ChangeShapes
set_option linter.unusedVariables false
set_option linter.unusedSimpArgs false
theorem dec_step {v : AV} (h : tStep.fits v = true) : ∃ x : SStep, v = x.enc := by
  obtain ⟨a, v, rfl, ha, h⟩ := dec_cons h
  obtain ⟨b, v, rfl, hb, h⟩ := dec_cons h
  obtain ⟨c, v, rfl, hc, h⟩ := dec_cons h
  obtain ⟨d, v, rfl, hd, h⟩ := dec_cons h
  obtain ⟨e, v, rfl, he, h⟩ := dec_cons h
  obtain ⟨f, v, rfl, hf, h⟩ := dec_cons h
  obtain ⟨g, v, rfl, hg, h⟩ := dec_cons h
  obtain rfl := dec_unit h
  obtain ⟨a, rfl⟩ := dec_int ha
  obtain ⟨b, rfl⟩ := dec_int hb
  obtain ⟨c, rfl⟩ := dec_int hc
  obtain ⟨d, rfl⟩ := dec_int hd
  obtain ⟨e, rfl⟩ := dec_str he
  obtain ⟨f, rfl⟩ := dec_str hf
  obtain ⟨g, rfl⟩ := dec_str hg
  exact ⟨⟨a, b, c, d, e, f, g⟩, rfl⟩
theorem dec_list {α : Type} {t : Ty} {f : α → AV} (hd : ∀ v, t.fits v = true → ∃ a, v = f a) : ∀ l : List AV, (∀ v ∈ l, t.fits v = true) → ∃ L : List α, l = L.map f
  | [], _ => ⟨[], rfl⟩
  | v :: l, h => by
    obtain ⟨a, rfl⟩ := hd v (h v List.mem_cons_self)
    obtain ⟨L, rfl⟩ := dec_list hd l fun w hw => h w (List.mem_cons_of_mem _ hw)
    exact ⟨a :: L, rfl⟩
theorem i64max : IntKind.i64.max = 9223372036854775807 := by decide
theorem step_ranged {x : SStep} (h : x.enc.ranged) : x.ok := by
  obtain ⟨_, _, _, _, h5, h6, h7, _⟩ := h
  have e := i64max
  refine ⟨?_, ?_, ?_⟩
  · have : ((ByteArray.size x.name : Nat) : Int) ≤ IntKind.i64.max := h5
    omega
  · have : ((ByteArray.size x.to : Nat) : Int) ≤ IntKind.i64.max := h6
    omega
  · have : ((ByteArray.size x.text : Nat) : Int) ≤ IntKind.i64.max := h7
    omega
section
variable {H : Type} {enc : TypeId × Value → H} {P : Program} {w : World} {φ : Nat → Option FuncId}
theorem given_steps {U e : TypeId} {r : Reach} {b : Nat} {x : Value} {d : DataW H} {ps : List MemPlace} (hu : P.underlying U = some (.slice e)) (hk : elemOk P tStep.kinds e = true) (hs : P.cellsOf e = tStep.size)
    (hok : Value.okWide P w r b U x) (h : DataW.Trod enc P w 0 (fun _ => true) true U x d ps) (n : Nat) :
    ∃ (L : List SStep) (v : AV) (bf : Option Blk) (pl : Option Place), (∀ k, (stp L k).ok) ∧ (∀ g : Nat → Option Place, g n = pl → VR φ (betaA g) v x) ∧
      (∀ (g : Nat → Option Place) (O : Nat → Prop) (b : Blk), g n = pl → bf = some b → ∃ pl' cs T fr, BR φ (betaA g) O (.arg n) b w pl' cs T fr) ∧ (∀ h : HP, h.arg n = bf → StepsV h v L) := by
  obtain ⟨l, hl, hc⟩ := given_slice (φ := φ) (t := tStep) hu hk hs (by decide) hok h
  obtain ⟨L, rfl⟩ := dec_list (fun _ => dec_step) l fun v hv => (hl v hv).1
  have hokL : ∀ k, (stp L k).ok := by
    intro k
    by_cases hk : k < L.length
    · have : stp L k = L[k] := by simp [stp, hk]
      rw [this]
      exact step_ranged (hl _ (List.mem_map.2 ⟨_, List.getElem_mem hk, rfl⟩)).2
    · have : stp L k = ⟨0, 0, 0, 0, ⟨#[]⟩, ⟨#[]⟩, ⟨#[]⟩⟩ := by simp only [stp]; rw [List.getD_eq_getElem?_getD, List.getElem?_eq_none (by omega)]; rfl
      rw [this]
      exact ⟨Nat.zero_le _, Nat.zero_le _, Nat.zero_le _⟩
  rcases hc with ⟨h0, hx⟩ | ⟨pl, hp⟩
  · have hL : L = [] := by simpa using h0
    subst hL
    rcases hx with rfl | ⟨a, cap, rfl⟩
    · exact ⟨[], .nilsl, none, none, hokL, fun g _ => by simp [VR, VR1, AV.isAgg, LR, AV.rel], fun _ _ b _ hb => by simp at hb, fun h _ => ⟨rfl, fun _ _ => rfl, fun _ _ => rfl, fun k hk => by simp at hk⟩⟩
    · exact ⟨[], .slz, none, none, hokL, fun g _ => by simp [VR, VR1, AV.isAgg, LR, AV.rel], fun _ _ b _ hb => by simp at hb, fun h _ => ⟨rfl, fun _ _ => rfl, fun _ _ => rfl, fun k hk => by simp at hk⟩⟩
  · have hlen : (L.map SStep.enc).length = L.length := List.length_map ..
    refine ⟨L, .sl (.arg n) 0 L.length, some ⟨.arr L.length tStep, encSteps L⟩, some pl, hokL, fun g hg => ?_, fun g O b hg hb => ?_, fun h hh => ⟨rfl, fun a b => fg_args n a b _ _, fun a b => leads_args n a b _ _, fun k hk => ⟨n, rfl, ?_⟩⟩⟩
    · have := hp.val g n hg
      rwa [hlen] at this
    · simp only [Option.some.injEq] at hb
      subst hb
      obtain ⟨cs, T, fr, hB⟩ := hp.blk g O n hg
      rw [hlen] at hB
      exact ⟨pl, cs, T, fr, hB⟩
    · simp only [HP.look]; exact hh
end
section
variable {P : Program} {φ : Nat → Option FuncId} {β : Beta} {W : World} {r : Reach} {b : Nat} {x : Value} {U : TypeId}
theorem given_intB (hk : kindOf (P.underlying U) = some (.int .i64)) (h : Value.okWide P W r b U x) : ∃ n, VR φ β (.int .i64 n) x := by
  obtain ⟨v, h1, _, h3⟩ := given_leaf (φ := φ) (β := β) hk h
  obtain ⟨n, rfl⟩ := dec_int h1
  exact ⟨n, h3⟩
theorem given_strB (hk : kindOf (P.underlying U) = some .str) (h : Value.okWide P W r b U x) : ∃ n : Str, n.size ≤ 9223372036854775807 ∧ VR φ β (.str n) x := by
  obtain ⟨v, h1, h2, h3⟩ := given_leaf (φ := φ) (β := β) hk h
  obtain ⟨n, rfl⟩ := dec_str h1
  have e := i64max
  have : ((ByteArray.size n : Nat) : Int) ≤ IntKind.i64.max := h2
  exact ⟨n, by omega, h3⟩
theorem given_imgB {ts : List TypeId} (hts : P.cellTypes P.depth U = some ts) (hk : (ts.map fun u => kindOf (P.underlying u)) = tImage.kinds.map some) (hu : ∃ fs, P.underlying U = some (.struct fs)) (hc : P.cellsOf U = tImage.kinds.length)
    (h : Value.okWide P W r b U x) : ∃ m : Img, VR φ β m.enc x := by
  obtain ⟨v, h1, _, h3⟩ := given_agg (φ := φ) (β := β) hts hk rfl (.inl hu) hc h
  obtain ⟨n, rfl⟩ := dec_img h1
  exact ⟨n, h3⟩
theorem given_stepB {ts : List TypeId} (hts : P.cellTypes P.depth U = some ts) (hk : (ts.map fun u => kindOf (P.underlying u)) = tStep.kinds.map some) (hu : ∃ fs, P.underlying U = some (.struct fs)) (hc : P.cellsOf U = tStep.kinds.length)
    (h : Value.okWide P W r b U x) : ∃ m : SStep, m.ok ∧ VR φ β m.enc x := by
  obtain ⟨v, h1, h2, h3⟩ := given_agg (φ := φ) (β := β) hts hk rfl (.inl hu) hc h
  obtain ⟨n, rfl⟩ := dec_step h1
  exact ⟨n, step_ranged h2, h3⟩
end
theorem lets_top' : ∀ n, (⟨0, ⟨0, 0⟩⟩ : Cx).prot.lets (.obj n) = true := fun n => decide_eq_true (Nat.zero_le n)
def one1 {α : Type} (a : Option α) : Nat → Option α := fun n => if n = 0 then a else none
def two2 {α : Type} (a b : Option α) : Nat → Option α := fun n => if n = 0 then a else if n = 1 then b else none
end Go.Mini
