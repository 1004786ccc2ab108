/- A part of the proof: MiniX. -/
import Derived.Test.YtpkndgkaecamlabMiniV
namespace Go.Mini
set_option linter.unusedSimpArgs false
set_option linter.unusedVariables false
set_option maxHeartbeats 4000000
set_option maxRecDepth 100000

def mb : Img := (Img.one.setIno 2 ⟨(Img.one.ino 2).live, (Img.one.ino 2).stamp, 3, (Img.one.ino 2).part⟩).setDat 5 ⟨9, ⟨#[121]⟩⟩
theorem mb_small : mb.small := small_of (by decide +kernel)
theorem zero_small : Img.zero.small := small_of (by decide +kernel)
theorem mb1 : check mb = 0 := by decide +kernel
theorem mb2 : mendV mb = Img.one := by decide +kernel
theorem mb3 : mendA mb = 0 := by decide +kernel
theorem mb4 : mendB mb = 1 := by decide +kernel
theorem mb5 : mendC mb = 1 := by decide +kernel
theorem mb6 : check Img.zero = 12 := by decide +kernel
theorem mb_eq : (Img.one.setIno 2 ⟨(Img.one.ino 2).live, (Img.one.ino 2).stamp, 3, (Img.one.ino 2).part⟩).setDat 5 ⟨9, ⟨#[121]⟩⟩ = mb := rfl

/-! What an image is that was mended. -/
theorem mended_ent (m : Img) (d s : Nat) : (mended m).ent d s = m.ent d s := by rw [mended, mendD_ent, mendI_ent]
theorem mended_ino (m : Img) {n : Nat} (hn : n < 8) : (mended m).ino n = mendIno m n := by rw [mended, mendD_ino, mendI_ino, if_pos ⟨hn, hn⟩]
theorem mended_dat (m : Img) {x : Nat} (hx : x < 9) : (mended m).dat x = looseDat (mendI m 8) x := by rw [mended, mendD_dat, if_pos ⟨hx, hx⟩]
theorem mended_refs (m : Img) (i : Int) : refs (mended m) i = refs m i := refs_congr (fun d s => mended_ent m d s) i
theorem mendIno_live {m : Img} {n : Nat} : (mendIno m n).live = true ↔ (m.ino n).live = true ∧ ¬refs m n = 0 := by
  unfold mendIno
  cases hl : (m.ino n).live with
  | false => simp [hl]
  | true =>
    by_cases hr : refs m n = 0
    · simp [hr, Ino.none]
    · simp [hr, hl]
theorem mendIno_of {m : Img} {n : Nat} (h : (mendIno m n).live = true) : mendIno m n = { m.ino n with links := refs m n } := by
  obtain ⟨h1, h2⟩ := mendIno_live.1 h
  simp [mendIno, h1, h2]
theorem mendIno_dead {m : Img} {n : Nat} (hc : check m = 0) (hn : n < 8) (h : (mendIno m n).live = false) : mendIno m n = Ino.none := by
  unfold mendIno at h ⊢
  cases hl : (m.ino n).live with
  | false =>
    have := (check_parts hc).2.1 n hn
    simp only [inoFault, hl, if_true] at this
    simp only [if_true]
    split at this
    · assumption
    · exact absurd this (by decide)
  | true =>
    by_cases hr : refs m n = 0
    · simp [hr]
    · simp [hl, hr] at h
theorem ino_parts {m : Img} (hc : check m = 0) {n : Nat} (hn : n < 8) (hl : (m.ino n).live = true) : 1 ≤ (m.ino n).stamp ∧ (refs m n : Int) ≤ (m.ino n).links ∧ ∀ p, p < 2 → partFault m (m.ino n) p = 0 := by
  have h := (check_parts hc).2.1 n hn
  simp only [inoFault, hl, Bool.true_eq_false, if_false] at h
  split at h
  · exact absurd h (by decide)
  · rename_i h1
    exact ⟨by omega, by omega, firstI_zero.1 h⟩
theorem part_dat {m : Img} {i : Ino} {p : Nat} (h : partFault m i p = 0) : i.prt p = -1 ∨ (0 ≤ i.prt p ∧ i.prt p < 9 ∧ (m.dat (i.prt p).toNat).of = i.stamp) := by
  unfold partFault at h
  split at h
  · exact absurd h (by decide)
  · rename_i h1
    split at h
    · exact absurd h (by decide)
    · rename_i h2
      by_cases h0 : 0 ≤ i.prt p
      · right; refine ⟨h0, by omega, ?_⟩
        by_cases he : (m.dat (i.prt p).toNat).of = i.stamp
        · exact he
        · exact absurd ⟨h0, he⟩ h2
      · left; omega
theorem mend_held {m : Img} {n p : Nat} (hn : n < 8) (hp : p < 2) (hl : (mendIno m n).live = true) (h0 : 0 ≤ (m.ino n).prt p) (h9 : (m.ino n).prt p < 9) : (mended m).dat ((m.ino n).prt p).toNat = m.dat ((m.ino n).prt p).toNat := by
  rw [mended_dat m (by omega)]
  have : held (mendI m 8) (((m.ino n).prt p).toNat : Nat) = true := by
    refine anyN_at hn ?_
    have e : (mendI m 8).ino n = mendIno m n := by rw [mendI_ino, if_pos ⟨hn, hn⟩]
    have e2 : ∀ q, (mendIno m n).prt q = (m.ino n).prt q := fun q => by rw [mendIno_of hl]; rfl
    rw [e, hl, e2, e2]
    have e3 : (((m.ino n).prt p).toNat : Int) = (m.ino n).prt p := by omega
    rw [e3]
    obtain rfl | rfl : p = 0 ∨ p = 1 := by omega
    all_goals simp
  simp only [looseDat, loose, this, mendI_dat, Bool.not_true, Bool.and_false, Bool.false_eq_true, if_false]
theorem mended_check {m : Img} (hc : check m = 0) : check (mended m) = 0 := by
  obtain ⟨h1, h2, h3⟩ := check_parts hc
  refine check_of (fun d hd s hs => ?_) (fun n hn => ?_) ?_
  · have e' := mended_ent m d s
    rcases entry_parts (h1 d hd s hs) with e0 | ⟨a1, a2, a3, a4, a5, a6, a7⟩
    · rw [e0] at e'
      simp [entryFault, e', show Ent.zero.name = ⟨#[]⟩ from rfl]
    · have hr : ¬refs m ((m.ent d s).ino.toNat : Nat) = 0 := by
        have hl : leads m d s ((m.ent d s).ino.toNat : Nat) = true := by
          have : ((m.ent d s).ino.toNat : Int) = (m.ent d s).ino := by omega
          simp [leads, a1, this]
        have g1 := sumN_ge (f := fun s => b2n (leads m d s ((m.ent d s).ino.toNat : Nat))) hs
        have g2 : refsRow m ((m.ent d s).ino.toNat : Nat) d 4 ≤ refs m ((m.ent d s).ino.toNat : Nat) := sumN_ge (f := fun d => refsRow m _ d 4) hd
        have g3 : b2n (leads m d s ((m.ent d s).ino.toNat : Nat)) ≤ refsRow m ((m.ent d s).ino.toNat : Nat) d 4 := sumN_ge (f := fun t => b2n (leads m d t _)) hs
        rw [hl] at g3
        simp only [b2n, if_true] at g3
        omega
      have hlive := mendIno_live.2 ⟨a6, hr⟩
      have hino := mended_ino m (n := (m.ent d s).ino.toNat) (by omega)
      refine entry_of (by rw [e']; exact a1) (by rw [e']; exact a2) (by simpa only [mended_ent] using a3) (by rw [e']; exact a4) (by rw [e']; exact a5) (by rw [e', hino]; exact hlive) ?_
      rw [e', hino, mendIno_of hlive]; exact a7
  · have hino := mended_ino m hn
    simp only [inoFault]
    rw [hino]
    cases hl : (mendIno m n).live with
    | false => rw [mendIno_dead hc hn hl]; simp
    | true =>
      obtain ⟨l1, l2⟩ := mendIno_live.1 hl
      obtain ⟨p1, p2, p3⟩ := ino_parts hc hn l1
      have e := mendIno_of hl
      simp only [Bool.true_eq_false, if_false]
      rw [e, mended_refs]
      rw [if_neg (by simp only [not_or]; exact ⟨by omega, by omega⟩)]
      rw [firstI_zero]
      intro p hp
      rcases part_dat (p3 p hp) with hx | ⟨hx0, hx9, hof⟩
      · have : (({ m.ino n with links := (refs m n : Int) } : Ino)).prt p = -1 := hx
        simp [partFault, this]
      · have hd := mend_held hn hp hl hx0 hx9
        have e1 : (({ m.ino n with links := (refs m n : Int) } : Ino)).prt p = (m.ino n).prt p := rfl
        simp only [partFault, e1]
        rw [if_neg (by omega), if_neg]
        rintro ⟨_, hne⟩
        apply hne
        rw [hd]; exact hof
  · rw [← twiceR_eq]
    unfold twiceR
    rw [anyN_false]
    intro n hn
    rw [anyN_false]
    intro k hk
    rcases hb : pairBad (mended m) n k with _ | _
    · rfl
    · exfalso
      rw [pairBad_iff, mended_ino m hn, mended_ino m hk] at hb
      obtain ⟨b1, b2, b3⟩ := hb
      rw [mendIno_of b1, mendIno_of b2] at b3
      have : pairBad m n k = true := pairBad_iff.2 ⟨(mendIno_live.1 b1).1, (mendIno_live.1 b2).1, b3⟩
      have := twice_at hn hk this
      rw [h3] at this; exact absurd this (by simp)
theorem mended_exact {m : Img} (hc : check m = 0) : exact (mended m) = true := by
  simp only [exact, mended_check hc, decide_true, Bool.and_true, Bool.not_eq_true']
  rw [anyN_false]
  intro n hn
  rw [mended_ino m hn, mended_refs]
  cases hl : (mendIno m n).live with
  | false => rfl
  | true =>
    obtain ⟨l1, l2⟩ := mendIno_live.1 hl
    rw [mendIno_of hl]
    simp [l2]
theorem mendIno_again {m : Img} (hc : check m = 0) {n : Nat} (hn : n < 8) : mendIno (mended m) n = (mended m).ino n := by
  have e := mended_ino m hn
  rw [mendIno, mended_refs]
  cases hl : ((mended m).ino n).live with
  | false => simp
  | true =>
    rw [e] at hl
    obtain ⟨l1, l2⟩ := mendIno_live.1 hl
    rw [if_neg (by simp), if_neg l2, e, mendIno_of hl]
theorem mended_ext {m : Img} (hc : check m = 0) (n : Nat) : (mendI (mended m) 8).ino n = (mended m).ino n := by
  rw [mendI_ino]
  split
  · rename_i h; exact mendIno_again hc h.1
  · rfl
theorem loose_again {m : Img} (hc : check m = 0) {x : Nat} (hx : x < 9) : loose (mendI (mended m) 8) x = false := by
  unfold loose
  rw [mendI_dat, held_congr (mended_ext hc), mended_dat m hx]
  have : held (mended m) x = held (mendI m 8) x := held_congr (fun n => by rw [mended, mendD_ino]) x
  rw [this]
  unfold looseDat
  cases hl : loose (mendI m 8) x with
  | true => simp
  | false => exact hl
theorem mended_again {m : Img} (hc : check m = 0) : mended (mended m) = mended m := by
  refine Img.ext_of (fun n hn => ?_) (fun d s _ _ => mended_ent _ d s) (fun x hx => ?_)
  · rw [mended_ino _ hn, mendIno_again hc hn]
  · rw [mended_dat _ hx]
    unfold looseDat
    rw [loose_again hc hx, if_neg (by simp), mendI_dat]
theorem lost_again {m : Img} (hc : check m = 0) : lostF (mended m) 8 = 0 ∧ lostC (mended m) 8 = 0 ∧ lostD (mendI (mended m) 8) 9 = 0 := by
  refine ⟨sumN_zeros fun n hn => ?_, sumN_zeros fun n hn => ?_, sumN_zeros fun x hx => ?_⟩
  · show b2n _ = 0
    rw [mended_ino m hn, mended_refs]
    cases hl : (mendIno m n).live with
    | false => rfl
    | true => simp [(mendIno_live.1 hl).2, b2n]
  · show b2n _ = 0
    rw [mended_ino m hn, mended_refs]
    cases hl : (mendIno m n).live with
    | false => rfl
    | true => rw [mendIno_of hl]; simp [b2n]
  · show b2n _ = 0
    rw [loose_again hc hx]; rfl
theorem mended_small {m : Img} (h : m.small) : (mended m).small := fun d s => by rw [mended_ent]; exact h d s
section
variable {cx : Cx} {h : HP} {p p' : Id} {q q' : List Nat} {m m' : Img}
theorem mendBegun_ok : Ok tbl cx Fn.eiderdownlaw_mendBegun (St.enter [] h) fun v h' => v = .bool true ∧ h' = h := by
  rw [Ok_eq]
  simp (config := { maxSteps := 1000000 }) (disch := omega) only [go_sem]
  refine W_callp rfl ⟨rfl, rfl⟩ (by simp only [go_sem]; exact one_ok) ?_
  simp (config := { maxSteps := 1000000 }) (disch := omega) only [go_sem]
  refine W_callp rfl ⟨rfl, rfl⟩ (by simp only [go_sem]; exact Mend_ok (m := mb) mb_small) ?_
  simp (config := { maxSteps := 1000000 }) (disch := omega) only [go_sem, mb1, mb2, mb3, mb4, mb5]
  refine W_callp rfl ⟨rfl, rfl⟩ (by simp only [go_sem]; exact Mend_ok (m := Img.zero) zero_small) ?_
  simp (config := { maxSteps := 1000000 }) (disch := omega) only [go_sem, mb1, mb2, mb3, mb4, mb5, mb6]
  refine W_callp rfl ⟨rfl, rfl⟩ (by simp only [go_sem]; exact one_ok) ?_
  simp (config := { maxSteps := 1000000 }) (disch := omega) only [go_sem, mb1, mb2, mb3, mb4, mb5, mb6]
theorem MendDoes_ok : Ok tbl cx Fn.eiderdownlaw_MendDoes (St.enter [m.enc] h) fun v h' => v = .bool true ∧ h' = h := by
  rw [Ok_eq]
  simp (config := { maxSteps := 1000000 }) (disch := omega) only [go_sem]
  refine W_callp rfl ⟨rfl, rfl⟩ (by simp only [go_sem]; exact mendBegun_ok) ?_
  simp (config := { maxSteps := 1000000 }) (disch := omega) only [go_sem]
  refine W_callp rfl ⟨rfl, rfl⟩ (by simp only [go_sem]; exact Great_ok) ?_
  simp (config := { maxSteps := 1000000 }) (disch := omega) only [go_sem]
  cases hg : great m with
  | true => simp (config := { maxSteps := 1000000 }) (disch := omega) only [go_sem]
  | false =>
    have hs := great_small hg
    simp (config := { maxSteps := 1000000 }) (disch := omega) only [go_sem]
    refine W_callp rfl ⟨rfl, rfl⟩ (by simp only [go_sem]; exact Mend_ok (m := m) hs) ?_
    simp (config := { maxSteps := 1000000 }) (disch := omega) only [go_sem]
    refine W_callp rfl ⟨rfl, rfl⟩ (by simp only [go_sem]; exact MendOf_ok (m := m) hs) ?_
    simp (config := { maxSteps := 1000000 }) (disch := omega) only [go_sem]
end
end Go.Mini
