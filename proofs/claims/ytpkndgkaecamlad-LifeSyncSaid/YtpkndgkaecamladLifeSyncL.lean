/- A part of the proof: the statement LifeSync, over the model of its code. -/
import Derived.Test.YtpkndgkaecamladLbS

namespace Go.Mini
set_option linter.unusedSimpArgs false
set_option linter.unusedVariables false
set_option maxHeartbeats 4000000
set_option maxRecDepth 100000

@[go_sem] theorem fieldV_lost0 (a b c : Int) : fieldV tLost (encLost a b c) 0 = some (.int .i64 a) := rfl
@[go_sem] theorem fieldV_lost1 (a b c : Int) : fieldV tLost (encLost a b c) 1 = some (.int .i64 b) := rfl
@[go_sem] theorem fieldV_lost2 (a b c : Int) : fieldV tLost (encLost a b c) 2 = some (.int .i64 c) := rfl
theorem syncK_self (a : Img) : syncK a a = 0 ∧ syncTo a a = a := by
  have h : syncK a a = 0 := by
    unfold syncK
    rw [findN_at (j := 0) (fun i hi => by omega) (by simp [syncD]) (by omega), if_neg (by omega)]; simp
  exact ⟨h, by rw [syncTo, h]; rfl⟩
theorem lost_exact {m : Img} (h : exact m = true) : lostF m 8 = 0 ∧ lostC m 8 = 0 := by
  obtain ⟨_, hx⟩ := exact_parts h
  refine ⟨sumN_zeros fun n hn => ?_, sumN_zeros fun n hn => ?_⟩
  · cases hl : (m.ino n).live with
    | false => simp [b2n]
    | true => simp [b2n, (hx n hn hl).1]
  · cases hl : (m.ino n).live with
    | false => simp [b2n]
    | true => simp [b2n, (hx n hn hl).2]

def unheld (a : Img) : Nat → Img
  | 0 => a
  | k + 1 => if held (unheld a k) k = true then unheld a k else (unheld a k).setDat k .zero
theorem unheld_ino (a : Img) (n : Nat) : ∀ k, (unheld a k).ino n = a.ino n
  | 0 => rfl
  | k + 1 => by
    have := unheld_ino a n k
    unfold unheld
    split
    · exact this
    · rw [ino_setDat]; exact this
theorem unheld_ent (a : Img) (d s : Nat) : ∀ k, (unheld a k).ent d s = a.ent d s
  | 0 => rfl
  | k + 1 => by
    have := unheld_ent a d s k
    unfold unheld
    split
    · exact this
    · exact this
theorem unheld_dat (a : Img) (x : Nat) : ∀ k, (unheld a k).dat x = if x < k ∧ x < 9 ∧ held a x = false then Dat.zero else a.dat x
  | 0 => by rw [if_neg (by omega)]; rfl
  | k + 1 => by
    have ih := unheld_dat a x k
    have hh : held (unheld a k) k = held a k := held_congr (fun n => unheld_ino a n k) k
    unfold unheld
    rw [hh]
    split
    · rename_i e
      rw [ih]
      by_cases c : x = k
      · subst c
        rw [if_neg (by omega), if_neg (by rw [e]; simp)]
      · have : (x < k ∧ x < 9 ∧ held a x = false) = (x < k + 1 ∧ x < 9 ∧ held a x = false) := by
          apply propext; constructor <;> rintro ⟨a1, a2, a3⟩ <;> exact ⟨by omega, a2, a3⟩
        simp only [this]
    · rename_i e
      rw [dat_setDat, ih]
      by_cases c : k = x
      · subst c
        by_cases c9 : k < 9
        · rw [if_pos ⟨rfl, c9⟩, if_pos ⟨by omega, c9, by simpa using e⟩]
        · rw [if_neg (by omega), if_neg (by omega), if_neg (by omega)]
      · rw [if_neg (fun h => c h.1)]
        have : (x < k ∧ x < 9 ∧ held a x = false) = (x < k + 1 ∧ x < 9 ∧ held a x = false) := by
          apply propext; constructor <;> rintro ⟨a1, a2, a3⟩ <;> exact ⟨by omega, a2, a3⟩
        simp only [this]
theorem unheld_is {m : Img} (h : exact m = true) : unheld m 9 = mended m := by
  obtain ⟨hc, hx⟩ := exact_parts h
  have hi : ∀ n, n < 8 → mendIno m n = m.ino n := fun n hn => by
    cases hl : (m.ino n).live with
    | true =>
      obtain ⟨a, b⟩ := hx n hn hl
      have : (mendIno m n).live = true := mendIno_live.2 ⟨hl, a⟩
      rw [mendIno_of this, ← b]
    | false =>
      have : (mendIno m n).live = false := by
        cases e : (mendIno m n).live with
        | false => rfl
        | true => have := (mendIno_live.1 e).1; rw [hl] at this; exact absurd this (by simp)
      rw [mendIno_dead hc hn this, dead_none hc hn hl]
  refine Img.ext_of (fun n hn => ?_) (fun d s _ _ => ?_) (fun x hx9 => ?_)
  · rw [unheld_ino, mended_ino m hn, hi n hn]
  · rw [unheld_ent, mended_ent]
  · rw [unheld_dat, mended_dat m hx9, looseDat, loose, mendI_dat]
    have hh : held (mendI m 8) x = held m x := by
      have e : ∀ n, n < 8 → (mendI m 8).ino n = m.ino n := fun n hn => by rw [mendI_ino, if_pos ⟨hn, hn⟩, hi n hn]
      exact anyN_congr fun n hn => by rw [e n hn]
    rw [hh]
    by_cases c : held m x = true
    · rw [if_neg (by rw [c]; simp), if_neg (by rw [c]; simp)]
    · have c' : held m x = false := by simpa using c
      rw [if_pos ⟨hx9, hx9, c'⟩, c']
      by_cases z : m.dat x = Dat.zero
      · simp [z]
      · simp [z]
theorem LifeN.sync {h0 h : HP} {p f c : Nat} {L : Lf} {b : Img} (hA : LifeAt h p f c L) (hb : h0.next ≤ p ∧ h0.next ≤ f ∧ h0.next ≤ c) (hF : Fr h0 h []) : LifeN h0 (h.ob c tCache (encC L.fl.now b)) p { L with fl := { L.fl with disk := b } } :=
  ⟨f, c, hA.setCa b, hb, hF.since (S := [c]) (Fr.ob (by simp)) (by simpa using hb.2.2)⟩
section
variable {cx : Cx} {h : HP} {v : AV} {l : List SStep}
theorem LifeSync_ok (hl : ∀ n, cx.prot.lets (.obj n) = true) (hv : StepsV h v l) (hsz : ∀ k, (stp l k).ok) : Ok tblE cx Fn.eiderdownlaw_LifeSync (St.enter [v] h) fun v h' => v = .bool true := by
  rw [Ok_eq]
  have hvlen := hv.len
  have hvfg := hv.fg
  have hvld := hv.ld
  simp (config := { maxSteps := 1000000 }) (disch := omega) only [go_sem]
  refine W_callF (S := []) (R := fun v _ => v = .bool true) rfl ⟨rfl, rfl⟩ (by simp only [go_sem]; exact lifeBegun_ok (by exact hl)) (fun _ _ e => e) ?_
  rintro _ h1 hF1 rfl
  simp (config := { maxSteps := 1000000 }) (disch := omega) only [go_sem, hvlen, hvfg, hvld]
  refine W_callhv (P := fun x => ∃ b, x = .bool b ∧ (b = false → l.length ≤ 200)) h1 rfl ⟨rfl, rfl⟩ rfl (by simp only [go_sem]; exact greatSteps_ok ((hv.to hF1.arg).push)) ?_
  rintro _ ⟨great, rfl, hgr⟩
  cases great with
  | true => simp (config := { maxSteps := 1000000 }) (disch := omega) only [go_sem]
  | false =>
  have h200 := hgr rfl
  simp (config := { maxSteps := 1000000 }) (disch := omega) only [go_sem, hvlen, hvfg, hvld]
  refine W_callN (h0 := h1) (R := fun v => v = .ptr (.obj (h1.next + 2)) [] tLife) (L' := Lf.new) (p := h1.next + 2) rfl ⟨rfl, rfl⟩ rfl (by simp only [go_sem]; exact LNew_N) ?_
  rintro _ h2 rfl n0
  generalize h1.next + 2 = p at n0 ⊢
  simp (config := { maxSteps := 1000000 }) (disch := omega) only [go_sem, hvlen, hvfg, hvld]
  refine W_forE (α := HP) l.length (fun k h => ⟨[(0, v), (3, .ptr (.obj p) [] tLife), (4, .int .i64 k)], [], h⟩) (fun k h => LifeN h1 h p (lifeRun .new l k)) h2 (by simp only [go_sem] <;> rfl) n0 fun k h3 hk hN ih => ?_
  obtain ⟨inv, hst⟩ := inv_run l Inv.new new_stamp k (by omega)
  by_cases hlt : k < l.length
  · obtain ⟨n, rfl, hn⟩ := (hv.to (hN.arg.trans hF1.arg)).ix k hlt
    simp (config := { maxSteps := 1000000 }) (disch := omega) only [go_sem, hlt, hn]
    refine W_callN (h0 := h1) (R := fun v => v = .int .i64 (lifeC (lifeRun .new l k) (stp l k))) (L' := lifeRun .new l (k + 1)) (p := p) rfl ⟨rfl, rfl⟩ (LifeN.stk hN) (by simp only [go_sem]; exact LStep_N (by exact hl) (LifeN.push hN) inv.i0 (hsz k)) ?_
    rintro _ h4 rfl hN4
    simp (config := { maxSteps := 1000000 }) (disch := omega) only [go_sem]
    refine ih _ h4 hlt ?_ hN4
    simp only [go_sem]
  · obtain rfl : k = l.length := by omega
    simp (config := { maxSteps := 1000000 }) (disch := omega) only [go_sem, hvlen, hvfg, hvld]
    generalize lifeRun .new l l.length = L at hN inv hst
    obtain ⟨f, c, hA, hb, hF⟩ := id hN
    obtain ⟨k3, kt⟩ := sync_ok inv
    have h9 : ¬(3 : Int) < (syncK L.fl.now L.fl.disk : Int) := by omega
    simp (config := { maxSteps := 1000000 }) (disch := omega) only [go_sem, hA.li, hA.fi]
    refine W_callh (v := .int .i64 (syncK L.fl.now L.fl.disk)) (h3.ob c tCache (encC L.fl.now (syncTo L.fl.now L.fl.disk))) rfl ⟨rfl, rfl⟩ rfl (by simp only [go_sem]; exact eSync (by exact hl) (by simp only [go_sem, hA.ca])) ?_
    rw [kt]
    have hN1 : LifeN h1 (h3.ob c tCache (encC L.fl.now L.fl.now)) p ⟨⟨L.fl.now, L.fl.now, L.fl.stamp⟩, L.a, L.b, L.c, L.n⟩ := LifeN.sync hA hb hF
    have inv1 : Inv ⟨L.fl.now, L.fl.now, L.fl.stamp⟩ := by
      have := inv.sync
      rw [kt] at this
      exact this
    generalize h3.ob c tCache (encC L.fl.now L.fl.now) = h4 at hN1 ⊢
    obtain ⟨f, c, hA, hb, hF⟩ := id hN1
    obtain ⟨q1, q2⟩ := syncK_self L.fl.now
    simp (config := { maxSteps := 1000000 }) (disch := omega) only [go_sem, h9, hA.li, hA.fi]
    refine W_callp rfl ⟨rfl, rfl⟩ (by simp only [go_sem]; exact eClean (a := L.fl.now) (b := L.fl.now) (by simp only [go_sem, hA.ca])) ?_
    simp (config := { maxSteps := 1000000 }) (disch := omega) only [go_sem, hA.li, hA.fi]
    refine W_callh (v := .int .i64 (syncK L.fl.now L.fl.now)) (h4.ob c tCache (encC L.fl.now (syncTo L.fl.now L.fl.now))) rfl ⟨rfl, rfl⟩ rfl (by simp only [go_sem]; exact eSync (by exact hl) (by simp only [go_sem, hA.ca])) ?_
    rw [q1, q2]
    have same : h4.ob c tCache (encC L.fl.now L.fl.now) = h4 := ob_self hA.ca
    rw [same]
    simp (config := { maxSteps := 1000000 }) (disch := omega) only [go_sem]
    refine W_for 14 (fun k => ⟨[(3, .ptr (.obj p) [] tLife), (6, .int .i64 k)], [], h4⟩) (by simp only [go_sem] <;> rfl) fun k hk ih => ?_
    by_cases hlt : k < 14
    · have hd : dirty L.fl.now L.fl.now (k : Int) = false := (clean_iff _ _).1 rfl k hlt
      simp (config := { maxSteps := 1000000 }) (disch := omega) only [go_sem, hlt, hA.li, hA.fi]
      refine W_callp rfl ⟨rfl, rfl⟩ (by simp only [go_sem]; exact eDirty (a := L.fl.now) (b := L.fl.now) (by simp only [go_sem, hA.ca])) ?_
      simp (config := { maxSteps := 1000000 }) (disch := omega) only [go_sem, hd]
      refine ih _ hlt ?_
      simp only [go_sem]
    · obtain rfl : k = 14 := by omega
      simp (config := { maxSteps := 1000000 }) (disch := omega) only [go_sem, hA.li, hA.fi, hA.ca]
      refine W_callN (h0 := h1) (R := fun v => v = .int .i64 (lifeC (Lf.mk ⟨L.fl.now, L.fl.now, L.fl.stamp⟩ L.a L.b L.c L.n) (sC))) (L' := lifeF (Lf.mk ⟨L.fl.now, L.fl.now, L.fl.stamp⟩ L.a L.b L.c L.n) sC) (p := p) rfl ⟨rfl, rfl⟩ (LifeN.stk hN1) (by simp only [go_sem]; exact LStep_N (by exact hl) (LifeN.push hN1) inv1.i0 sC_ok) ?_
      rintro _ h5 rfl hN2
      rw [crash_zero (L := ⟨⟨L.fl.now, L.fl.now, L.fl.stamp⟩, L.a, L.b, L.c, L.n⟩) inv1]
      rw [crash_is (L := ⟨⟨L.fl.now, L.fl.now, L.fl.stamp⟩, L.a, L.b, L.c, L.n⟩) inv1] at hN2
      dsimp only at hN2
      obtain ⟨z1, z2⟩ := lost_exact inv1.ex
      dsimp only at z1 z2
      rw [z1, z2] at hN2
      have hun := unheld_is inv1.ex
      dsimp only at hun
      generalize L.fl.now = a at *
      obtain ⟨f, c, hA2, _, _⟩ := id hN2
      simp (config := { maxSteps := 1000000 }) (disch := omega) only [go_sem]
      refine W_callp rfl ⟨rfl, rfl⟩ (by simp only [go_sem]; exact Lost_ok hA2.push) ?_
      simp (config := { maxSteps := 1000000 }) (disch := omega) only [go_sem]
      refine W_callp rfl ⟨rfl, rfl⟩ (by simp only [go_sem]; exact Lost_ok hA2.push) ?_
      simp (config := { maxSteps := 1000000 }) (disch := omega) only [go_sem, hA2.li, hA2.fi, hA2.ca]
      refine W_for 9 (fun k => ⟨[(7, .ptr (.stk cx.lvl 7) [] tImage), (8, .ptr (.stk cx.lvl 8) [] tImage), (9, .int .i64 k)], [(7, ⟨tImage, (unheld a k).enc⟩), (8, ⟨tImage, (mended a).enc⟩)], h5⟩) (by simp only [go_sem] <;> rfl) fun k hk ih => ?_
      by_cases hlt : k < 9
      · simp (config := { maxSteps := 1000000 }) (disch := omega) only [go_sem, hlt]
        refine W_callp rfl ⟨rfl, rfl⟩ (by simp only [go_sem]; exact upE (up (Holds_ok (m := unheld a k) (below_stk _ _) (by simp only [go_sem, HP.push_rd_own])))) ?_
        simp (config := { maxSteps := 1000000 }) (disch := omega) only [go_sem]
        cases ch : held (unheld a k) k with
        | true =>
          simp (config := { maxSteps := 1000000 }) (disch := omega) only [go_sem, ch]
          refine ih _ hlt ?_
          simp only [go_sem, unheld, ch]
        | false =>
          simp (config := { maxSteps := 1000000 }) (disch := omega) only [go_sem, ch]
          refine ih _ hlt ?_
          simp only [go_sem, unheld, ch]
      · obtain rfl : k = 9 := by omega
        simp (config := { maxSteps := 1000000 }) (disch := omega) only [go_sem, hun]
end
end Go.Mini

