/- A part of the proof: the statement LifeNever, over the model of its code. -/
import Derived.Test.YtpkndgkaecamlacLbS

namespace Go.Mini
set_option linter.unusedSimpArgs false
set_option linter.unusedVariables false
set_option maxHeartbeats 4000000
set_option maxRecDepth 100000
section
variable {cx : Cx} {h : HP} {p p' : Id} {q q' : List Nat} {m m' : Img}
def greatRow (m : Img) (d k : Nat) : Nat := sumN k fun s => min (m.ent d s).name.size 10000
def greatDat (m : Img) (k : Nat) : Nat := sumN k fun x => min (m.dat x).text.size 10000
def greatDir (m : Img) (k : Nat) : Nat := sumN k fun d => greatRow m d 4
def great (m : Img) : Bool := decide (3000 < greatDir m 3 + greatDat m 9)
end
end Go.Mini
namespace Go.Mini
set_option linter.unusedSimpArgs false
set_option linter.unusedVariables false
set_option maxHeartbeats 4000000
set_option maxRecDepth 100000
theorem mendIno_again {m : Img} (hc : check m = 0) {n : Nat} (hn : n < 8) : mendIno (mended m) n = (mended m).ino n := by
  have e := mended_ino m hn
  rw [mendIno, mended_refs]
  cases hl : ((mended m).ino n).live with
  | false => simp
  | true =>
    rw [e] at hl
    obtain ⟨l1, l2⟩ := mendIno_live.1 hl
    rw [if_neg (by simp), if_neg l2, e, mendIno_of hl]
theorem mended_ext {m : Img} (hc : check m = 0) (n : Nat) : (mendI (mended m) 8).ino n = (mended m).ino n := by
  rw [mendI_ino]
  split
  · rename_i h; exact mendIno_again hc h.1
  · rfl
theorem loose_again {m : Img} (hc : check m = 0) {x : Nat} (hx : x < 9) : loose (mendI (mended m) 8) x = false := by
  unfold loose
  rw [mendI_dat, held_congr (mended_ext hc), mended_dat m hx]
  have : held (mended m) x = held (mendI m 8) x := held_congr (fun n => by rw [mended, mendD_ino]) x
  rw [this]
  unfold looseDat
  cases hl : loose (mendI m 8) x with
  | true => simp
  | false => exact hl
theorem mended_again {m : Img} (hc : check m = 0) : mended (mended m) = mended m := by
  refine Img.ext_of (fun n hn => ?_) (fun d s _ _ => mended_ent _ d s) (fun x hx => ?_)
  · rw [mended_ino _ hn, mendIno_again hc hn]
  · rw [mended_dat _ hx]
    unfold looseDat
    rw [loose_again hc hx, if_neg (by simp), mendI_dat]
end Go.Mini
namespace Go.Mini
set_option linter.unusedSimpArgs false
set_option linter.unusedVariables false
set_option maxHeartbeats 4000000
set_option maxRecDepth 100000

theorem disk_kept {L : Lf} {x : SStep} {M : Img} (h7 : ¬x.kind = 7) (h8 : ¬x.kind = 8) (hd : L.fl.disk = M) (hm : mended M = M) (hc : check M = 0) : (lifeF L x).fl.disk = M := by
  unfold lifeF
  rw [if_neg h7, if_neg h8]
  split
  · unfold crashF
    rw [hd, if_pos hc]
    exact hm
  · show (doF L.fl x).disk = M
    rw [doF_disk]; exact hd
section
variable {cx : Cx} {h : HP} {v w : AV} {l m : List SStep}
theorem LifeNever_ok (hl : ∀ n, cx.prot.lets (.obj n) = true) (hv : StepsV h v l) (hw : StepsV h w m) (hsz : ∀ k, (stp l k).ok) (hsz2 : ∀ k, (stp m k).ok) : Ok tblE cx Fn.eiderdownlaw_LifeNever (St.enter [v, w] h) fun v h' => v = .bool true := by
  have hwlen := hw.len
  have hwfg := hw.fg
  have hwld := hw.ld
  rw [Ok_eq]
  have hvlen := hv.len
  have hvfg := hv.fg
  have hvld := hv.ld
  simp (config := { maxSteps := 1000000 }) (disch := omega) only [go_sem]
  refine W_callF (S := []) (R := fun v _ => v = .bool true) rfl ⟨rfl, rfl⟩ (by simp only [go_sem]; exact lifeBegun_ok (by exact hl)) (fun _ _ e => e) ?_
  rintro _ h1 hF1 rfl
  simp (config := { maxSteps := 1000000 }) (disch := omega) only [go_sem, hvlen, hvfg, hvld]
  refine W_callhv (P := fun x => ∃ b, x = .bool b ∧ (b = false → l.length ≤ 200)) h1 rfl ⟨rfl, rfl⟩ rfl (by simp only [go_sem]; exact greatSteps_ok ((hv.to hF1.arg).push)) ?_
  rintro _ ⟨great, rfl, hgr⟩
  cases great with
  | true => simp (config := { maxSteps := 1000000 }) (disch := omega) only [go_sem]
  | false =>
  have h200 := hgr rfl
  simp (config := { maxSteps := 1000000 }) (disch := omega) only [go_sem, hvlen, hvfg, hvld]
  refine W_callhv (P := fun x => ∃ b, x = .bool b ∧ (b = false → m.length ≤ 200)) h1 rfl ⟨rfl, rfl⟩ rfl (by simp only [go_sem]; exact greatSteps_ok ((hw.to hF1.arg).push)) ?_
  rintro _ ⟨great, rfl, hgr⟩
  cases great with
  | true => simp (config := { maxSteps := 1000000 }) (disch := omega) only [go_sem]
  | false =>
  have m200 := hgr rfl
  simp (config := { maxSteps := 1000000 }) (disch := omega) only [go_sem, hvlen, hvfg, hvld, hwlen, hwfg, hwld]
  refine W_callN (h0 := h1) (R := fun v => v = .ptr (.obj (h1.next + 2)) [] tLife) (L' := Lf.new) (p := h1.next + 2) rfl ⟨rfl, rfl⟩ rfl (by simp only [go_sem]; exact LNew_N) ?_
  rintro _ h2 rfl n0
  generalize h1.next + 2 = p at n0 ⊢
  simp (config := { maxSteps := 1000000 }) (disch := omega) only [go_sem, hvlen, hvfg, hvld]
  refine W_forE (α := HP) l.length (fun k h => ⟨[(0, v), (1, w), (5, .ptr (.obj p) [] tLife), (6, .int .i64 k)], [], h⟩) (fun k h => LifeN h1 h p (lifeRun .new l k)) h2 (by simp only [go_sem] <;> rfl) n0 fun k h3 hk hN ih => ?_
  obtain ⟨inv, hst⟩ := inv_run l Inv.new new_stamp k (by omega)
  by_cases hlt : k < l.length
  · obtain ⟨n, rfl, hn⟩ := (hv.to (hN.arg.trans hF1.arg)).ix k hlt
    simp (config := { maxSteps := 1000000 }) (disch := omega) only [go_sem, hlt, hn]
    refine W_callN (h0 := h1) (R := fun v => v = .int .i64 (lifeC (lifeRun .new l k) (stp l k))) (L' := lifeRun .new l (k + 1)) (p := p) rfl ⟨rfl, rfl⟩ (LifeN.stk hN) (by simp only [go_sem]; exact LStep_N (by exact hl) (LifeN.push hN) inv.i0 (hsz k)) ?_
    rintro _ h4 rfl hN4
    simp (config := { maxSteps := 1000000 }) (disch := omega) only [go_sem]
    refine ih _ h4 hlt ?_ hN4
    simp only [go_sem]
  · obtain rfl : k = l.length := by omega
    simp (config := { maxSteps := 1000000 }) (disch := omega) only [go_sem, hvlen, hvfg, hvld, hwlen, hwfg, hwld]
    generalize lifeRun .new l l.length = L at hN inv hst
    refine W_callN (h0 := h1) (R := fun v => v = .int .i64 (lifeC (L) (sC))) (L' := lifeF L sC) (p := p) rfl ⟨rfl, rfl⟩ (LifeN.stk hN) (by simp only [go_sem]; exact LStep_N (by exact hl) (LifeN.push hN) inv.i0 sC_ok) ?_
    rintro _ h4 rfl hN1
    have inv1 := (inv.lifeF (by omega) sC).1
    have st1 := (inv.lifeF (by omega) sC).2
    have hnow : (lifeF L sC).fl.now = mended L.fl.disk := by rw [crash_is inv]
    have hdk : (lifeF L sC).fl.disk = mended L.fl.disk := by rw [crash_is inv]
    have hm1 := mended_check inv.ck
    have hma := mended_again inv.ck
    generalize hM : mended L.fl.disk = M at *
    generalize lifeF L sC = L1 at *
    obtain ⟨f, c, hA, _, _⟩ := id hN1
    simp (config := { maxSteps := 1000000 }) (disch := omega) only [go_sem, hwlen, hwfg, hwld, hA.li, hA.fi, hA.ca]
    rw [hnow]
    refine W_forE (α := HP × Lf) m.length (fun k q => ⟨[(1, w), (5, .ptr (.obj p) [] tLife), (7, .ptr (.stk cx.lvl 7) [] tImage), (8, .int .i64 k)], [(7, ⟨tImage, M.enc⟩)], q.1⟩) (fun k q => LifeN h1 q.1 p q.2 ∧ Inv q.2.fl ∧ q.2.fl.stamp ≤ 1000000000 + l.length + 1 + k ∧ q.2.fl.disk = M) (h4, L1) (by simp only [go_sem] <;> rfl) ⟨hN1, inv1, by dsimp only; omega, hdk⟩ fun k q hk hq ih => ?_
    obtain ⟨h5, L2⟩ := q
    obtain ⟨hN2, inv2, st2, dk2⟩ := hq
    dsimp only at hN2 inv2 st2 dk2 ⊢
    by_cases hlt : k < m.length
    · obtain ⟨n, rfl, hn⟩ := (hw.to (hN2.arg.trans hF1.arg)).ix k hlt
      by_cases c7 : (stp m k).kind = 7
      · simp (config := { maxSteps := 1000000 }) (disch := omega) only [go_sem, hlt, hn, c7]
        refine ih _ (h5, L2) hlt ?_ ⟨hN2, inv2, by dsimp only; omega, dk2⟩
        simp only [go_sem]
      by_cases c8 : (stp m k).kind = 8
      · simp (config := { maxSteps := 1000000 }) (disch := omega) only [go_sem, hlt, hn, c7, c8]
        refine ih _ (h5, L2) hlt ?_ ⟨hN2, inv2, by dsimp only; omega, dk2⟩
        simp only [go_sem]
      simp (config := { maxSteps := 1000000 }) (disch := omega) only [go_sem, hlt, hn, c7, c8]
      refine W_callN (h0 := h1) (R := fun v => v = .int .i64 (lifeC (L2) (stp m k))) (L' := lifeF L2 (stp m k)) (p := p) rfl ⟨rfl, rfl⟩ (LifeN.stk hN2) (by simp only [go_sem]; exact LStep_N (by exact hl) (LifeN.push hN2) inv2.i0 (hsz2 k)) ?_
      rintro _ h6 rfl hN3
      obtain ⟨inv3, st3⟩ := inv2.lifeF (by omega) (stp m k)
      simp (config := { maxSteps := 1000000 }) (disch := omega) only [go_sem]
      refine ih _ (h6, lifeF L2 (stp m k)) hlt ?_ ⟨hN3, inv3, by dsimp only; omega, disk_kept c7 c8 dk2 hma hm1⟩
      simp only [go_sem]
    · obtain rfl : k = m.length := by omega
      simp (config := { maxSteps := 1000000 }) (disch := omega) only [go_sem, hwlen, hwfg, hwld]
      refine W_callN (h0 := h1) (R := fun v => v = .int .i64 (lifeC (L2) (sC))) (L' := lifeF L2 sC) (p := p) rfl ⟨rfl, rfl⟩ (LifeN.stk hN2) (by simp only [go_sem]; exact LStep_N (by exact hl) (LifeN.push hN2) inv2.i0 sC_ok) ?_
      rintro _ h6 rfl hN3
      rw [crash_zero inv2]
      have e1 : (lifeF L2 sC).fl.now = M := by rw [crash_is inv2]; dsimp only; rw [dk2]; exact hma
      have e2 : (lifeF L2 sC).fl.disk = M := by rw [crash_is inv2]; dsimp only; rw [dk2]; exact hma
      obtain ⟨f3, c3, hA3, _, _⟩ := id hN3
      simp (config := { maxSteps := 1000000 }) (disch := omega) only [go_sem, hA3.li, hA3.fi, hA3.ca, e1]
      refine W_callp rfl ⟨rfl, rfl⟩ (by simp only [go_sem]; exact eDisk (a := (lifeF L2 sC).fl.now) (b := (lifeF L2 sC).fl.disk) (by simp only [go_sem, hA3.ca])) ?_
      simp (config := { maxSteps := 1000000 }) (disch := omega) only [go_sem, e2]
end
end Go.Mini

