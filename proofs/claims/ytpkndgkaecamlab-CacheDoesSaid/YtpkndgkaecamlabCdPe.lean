/- A part of the proof: what Cd computes, step by step. -/
import Derived.Test.YtpkndgkaecamlabCdPd
import Derived.ChangeSame
import Derived.Carry
import Derived.OpenShut
import Derived.ProofKit
import Derived.WalkKit
import Derived.Deep.Slices
import Derived.Deep.Fields1

namespace Go.Mini
set_option linter.unusedSimpArgs false
set_option linter.unusedVariables false
set_option maxHeartbeats 4000000
set_option maxRecDepth 100000
theorem ok_write (a b : Img) (x : Int) : (writeAs a b x).2 = !decide ((blockOf x).1 = ⟨#[]⟩) := by
  obtain ⟨n, hn, e⟩ | ⟨n, hn, e⟩ | ⟨n, hn, e⟩ | e := blockOf_cases x
  · rw [writeAs_i e, e]; simp [sInodes, ne_ni]; try decide
  · rw [writeAs_d e, e]; simp [sDir]; try decide
  · rw [writeAs_a e, e]; simp [sData]; try decide
  · rw [writeAs_n e, e]; simp [sNone]
theorem cbf1 : ¬Img.one = syncD Img.one Img.blank 0 := by decide +kernel
theorem cbf2 : Img.one = syncD Img.one Img.blank 1 ∨ Img.one = syncD Img.one Img.blank 2 ∨ Img.one = syncD Img.one Img.blank 3 := by decide +kernel
theorem cb3 : dirty Img.blank Img.blank 0 = false := by decide +kernel
theorem cb4 : (findN 8 fun k => !(Img.blank.ino k).live && decide (refs Img.blank k = 0)) = 0 := by decide +kernel
theorem cb5 : freeSlot Img.blank Img.blank 1 = 0 := by decide +kernel
theorem cb6 : (findN 9 fun x => !held Img.blank x) = 0 := by decide +kernel
theorem cb7 : freeSlot Img.blank Img.blank 3 = -1 := by decide +kernel
theorem cb8 : dirty Img.one Img.blank 3 = true := by decide +kernel
theorem cb9 : decide (Img.one = Img.blank) = false := by decide +kernel
theorem cb10 : (findN 8 fun k => !(Img.one.ino k).live && decide (refs Img.blank k = 0)) = 0 := by decide +kernel
theorem cb11 : check Img.zero = 12 := by decide +kernel
theorem cb12 : (blockOf (-1)).1 = sNone := by decide +kernel
section
variable {cx : Cx} {h : HP} {a b m m' : Img}
theorem W_callhv {T : Nat → Option MFun} {k : List Item} {kill : List Nat} {r : List MOp} {sl : Slots} {own : Own} {Q : St → Prop} {P : AV → Prop} {prot : Bool} {f : Nat} {args : List Opd} {d : Option Nat} {fn : MFun} (h1 : HP) (hf : T f = some fn) (hp : fn.params = args.length ∧ fn.nfree = 0) (hs : h1.stk = h.stk)
    (hc : Ok T (St.callCx ⟨sl, own, h⟩ cx prot) fn (St.enter (args.map (St.opd ⟨sl, own, h⟩)) (h.push cx.lvl own)) fun v' h' => P v' ∧ h' = h1.push cx.lvl own)
    (hq : ∀ v, P v → W T cx (.ops r kill :: k) (St.setd ⟨sl, own, h1⟩ d v) Q) :
    W T cx (.ops (⟨d, .call prot [] f args, none⟩ :: r) kill :: k) ⟨sl, own, h⟩ Q := by
  refine W_callr hf hp hc ?_
  rintro v h' ⟨hv, rfl⟩
  have : St.pop ⟨sl, own, h⟩ cx.lvl [] (h1.push cx.lvl own) = ⟨sl, own, h1⟩ := by
    simp only [St.pop, HP.pop, HP.push, Own.unveil, if_true]
    congr 1
    cases h1
    simp only at hs
    subst hs
    simp only [HP.mk.injEq, and_true]
    funext l
    by_cases hl : l = cx.lvl <;> simp [hl]
  rw [this]; exact hq v hv
theorem look_two0 (a b c d : Img) : ((h.mk1 a b).mk1 c d).look (.obj h.next) = some ⟨tCache, encC a b⟩ := by
  have : ¬h.next = h.next + 1 := by omega
  simp [HP.mk1, HP.cs, HP.set, HP.look, this]
theorem look_two2 (a b c d e f : Img) : (((h.mk1 a b).mk1 c d).cs h.next e f).look (.obj (h.next + 1)) = some ⟨tCache, encC c d⟩ := by
  have : ¬h.next + 1 = h.next := by omega
  simp [HP.mk1, HP.cs, HP.set, HP.look, this]
theorem cacheBegun_ok (hl : cx.prot.lets (.obj h.next) = true) : Ok tblB cx Fn.eiderdownlaw_cacheBegun (St.enter [] h) fun v h' => v = .bool true ∧ h' = ((h.mk1 Img.blank Img.blank).mk1 Img.one Img.one).cs h.next Img.one Img.one := by
  rw [Ok_eq]
  simp (config := { maxSteps := 1000000 }) (disch := omega) only [go_sem]
  refine W_callh (v := .ptr (.obj h.next) [] tCache) (h.mk1 Img.blank Img.blank) rfl ⟨rfl, rfl⟩ rfl (by simp only [go_sem]; exact CNew_ok) ?_
  simp (config := { maxSteps := 1000000 }) (disch := omega) only [go_sem]
  refine W_callp rfl ⟨rfl, rfl⟩ (by simp only [go_sem]; exact COf_no (m := Img.zero) zero_small (by rw [cb11]; decide)) ?_
  simp (config := { maxSteps := 1000000 }) (disch := omega) only [go_sem]
  refine W_callp rfl ⟨rfl, rfl⟩ (by simp only [go_sem]; exact up (one_ok)) ?_
  simp (config := { maxSteps := 1000000 }) (disch := omega) only [go_sem]
  refine W_callh (v := .ptr (.obj (h.next + 1)) [] tCache) ((h.mk1 Img.blank Img.blank).mk1 Img.one Img.one) rfl ⟨rfl, rfl⟩ rfl (by simp only [go_sem]; exact COf_ok one_small ib1) ?_
  obtain ⟨r0, r1⟩ := rd_of (look_two0 (h := h) Img.blank Img.blank Img.one Img.one)
  simp (config := { maxSteps := 1000000 }) (disch := omega) only [go_sem]
  refine W_callp rfl ⟨rfl, rfl⟩ (by simp only [go_sem]; exact CClean_ok (a := Img.blank) (b := Img.blank) (by rw [HP.push_rd_ext (below_obj _ _)]; exact r0) (by rw [HP.push_rd_ext (below_obj _ _)]; exact r1)) ?_
  simp (config := { maxSteps := 1000000 }) (disch := omega) only [go_sem]
  refine W_callp rfl ⟨rfl, rfl⟩ (by simp only [go_sem]; exact CDirty_ok (a := Img.blank) (b := Img.blank) (by rw [HP.push_rd_ext (below_obj _ _)]; exact r0) (by rw [HP.push_rd_ext (below_obj _ _)]; exact r1)) ?_
  simp (config := { maxSteps := 1000000 }) (disch := omega) only [go_sem, cb3]
  refine W_callp rfl ⟨rfl, rfl⟩ (by simp only [go_sem]; exact CInode_ok (a := Img.blank) (b := Img.blank) (by rw [HP.push_rd_ext (below_obj _ _)]; exact r0) (by rw [HP.push_rd_ext (below_obj _ _)]; exact r1)) ?_
  simp (config := { maxSteps := 1000000 }) (disch := omega) only [go_sem, cb4]
  refine W_callp rfl ⟨rfl, rfl⟩ (by simp only [go_sem]; exact CSlot_ok (a := Img.blank) (b := Img.blank) (by rw [HP.push_rd_ext (below_obj _ _)]; exact r0) (by rw [HP.push_rd_ext (below_obj _ _)]; exact r1)) ?_
  simp (config := { maxSteps := 1000000 }) (disch := omega) only [go_sem, cb5]
  refine W_callp rfl ⟨rfl, rfl⟩ (by simp only [go_sem]; exact CData_ok (a := Img.blank) (b := Img.blank) (by rw [HP.push_rd_ext (below_obj _ _)]; exact r0) (by rw [HP.push_rd_ext (below_obj _ _)]; exact r1)) ?_
  simp (config := { maxSteps := 1000000 }) (disch := omega) only [go_sem, cb6]
  refine W_callp rfl ⟨rfl, rfl⟩ (by simp only [go_sem]; exact CSlot_ok (a := Img.blank) (b := Img.blank) (by rw [HP.push_rd_ext (below_obj _ _)]; exact r0) (by rw [HP.push_rd_ext (below_obj _ _)]; exact r1)) ?_
  simp (config := { maxSteps := 1000000 }) (disch := omega) only [go_sem, cb7]
  refine W_callp rfl ⟨rfl, rfl⟩ (by simp only [go_sem]; exact up (one_ok)) ?_
  simp (config := { maxSteps := 1000000 }) (disch := omega) only [go_sem, stV_cache0 (x := Img.one) (look_two0 (h := h) Img.blank Img.blank Img.one Img.one) hl]
  obtain ⟨s0, s1⟩ := rd_of (look_cs ((h.mk1 Img.blank Img.blank).mk1 Img.one Img.one) h.next Img.one Img.blank)
  refine W_callp rfl ⟨rfl, rfl⟩ (by simp only [go_sem]; exact CDirty_ok (a := Img.one) (b := Img.blank) (by rw [HP.push_rd_ext (below_obj _ _)]; exact s0) (by rw [HP.push_rd_ext (below_obj _ _)]; exact s1)) ?_
  simp (config := { maxSteps := 1000000 }) (disch := omega) only [go_sem, cb8]
  refine W_callp rfl ⟨rfl, rfl⟩ (by simp only [go_sem]; exact CClean_ok (a := Img.one) (b := Img.blank) (by rw [HP.push_rd_ext (below_obj _ _)]; exact s0) (by rw [HP.push_rd_ext (below_obj _ _)]; exact s1)) ?_
  simp (config := { maxSteps := 1000000 }) (disch := omega) only [go_sem, cb9]
  refine W_callp rfl ⟨rfl, rfl⟩ (by simp only [go_sem]; exact CInode_ok (a := Img.one) (b := Img.blank) (by rw [HP.push_rd_ext (below_obj _ _)]; exact s0) (by rw [HP.push_rd_ext (below_obj _ _)]; exact s1)) ?_
  simp (config := { maxSteps := 1000000 }) (disch := omega) only [go_sem, cb10]
  refine W_callhv (P := fun v => ∃ k : Nat, 0 < k ∧ v = .int .i64 k) (((h.mk1 Img.blank Img.blank).mk1 Img.one Img.one).cs h.next Img.one Img.one) rfl ⟨rfl, rfl⟩ rfl (by
    simp only [go_sem]
    refine Ok.mono (CSync_ok (h := (((h.mk1 Img.blank Img.blank).mk1 Img.one Img.one).push cx.lvl [])) (n := h.next) (a := Img.one) (b := Img.blank) hl) ?_
    rintro v h' ⟨k, hk, rfl, rfl, h1, h2⟩
    have hk0 : ¬k = 0 := by rintro rfl; rcases h1 with h1 | h1; · omega
                            · exact cbf1 h1
    have e : Img.one = syncD Img.one Img.blank k := by
      rcases h1 with rfl | h1
      · rcases cbf2 with h | h | h
        · exact absurd h (h2 1 (by omega))
        · exact absurd h (h2 2 (by omega))
        · exact absurd h (h2 3 (by omega))
      · exact h1
    refine ⟨⟨k, by omega, rfl⟩, ?_⟩
    rw [← e, push_cs]) ?_
  rintro _ ⟨k, hk, rfl⟩
  obtain ⟨u0, u1⟩ := rd_of (look_cs ((h.mk1 Img.blank Img.blank).mk1 Img.one Img.one) h.next Img.one Img.one)
  simp (config := { maxSteps := 1000000 }) (disch := omega) only [go_sem]
  refine W_callp rfl ⟨rfl, rfl⟩ (by simp only [go_sem]; exact CClean_ok (a := Img.one) (b := Img.one) (by rw [HP.push_rd_ext (below_obj _ _)]; exact u0) (by rw [HP.push_rd_ext (below_obj _ _)]; exact u1)) ?_
  simp (config := { maxSteps := 1000000 }) (disch := omega) only [go_sem]
  refine W_callp rfl ⟨rfl, rfl⟩ (by simp only [go_sem]; exact CDisk_ok (a := Img.one) (b := Img.one) (by rw [HP.push_rd_ext (below_obj _ _)]; exact u0) (by rw [HP.push_rd_ext (below_obj _ _)]; exact u1)) ?_
  simp (config := { maxSteps := 1000000 }) (disch := omega) only [go_sem]
  refine W_callp rfl ⟨rfl, rfl⟩ (by simp only [go_sem]; exact up (one_ok)) ?_
  simp (config := { maxSteps := 1000000 }) (disch := omega) only [go_sem]
  obtain ⟨w0, w1⟩ := rd_of (look_two2 (h := h) Img.blank Img.blank Img.one Img.one Img.one Img.one)
  refine W_callp rfl ⟨rfl, rfl⟩ (by simp only [go_sem]; exact CClean_ok (a := Img.one) (b := Img.one) (by rw [HP.push_rd_ext (below_obj _ _)]; exact w0) (by rw [HP.push_rd_ext (below_obj _ _)]; exact w1)) ?_
  simp (config := { maxSteps := 1000000 }) (disch := omega) only [go_sem]
  refine W_callh (v := .bool (writeAs Img.one Img.one (-1)).2) (((h.mk1 Img.blank Img.blank).mk1 Img.one Img.one).cs h.next Img.one Img.one) rfl ⟨rfl, rfl⟩ rfl (by
          simp only [go_sem]
          refine Ok.mono (CWrite_ok (h := (((h.mk1 Img.blank Img.blank).mk1 Img.one Img.one).cs h.next Img.one Img.one).push cx.lvl []) (n := h.next) (a := Img.one) (b := Img.one) (by rw [push_look_obj]; exact look_cs _ h.next _ _) hl) ?_
          rintro v h' ⟨h1, h2⟩
          refine ⟨h1, ?_⟩
          rw [h2, push_cs, cs_cs]; congr 2) ?_
  simp (config := { maxSteps := 1000000 }) (disch := omega) only [go_sem, ok_write, cb12]
end
end Go.Mini

namespace Go.Mini
namespace Fn
@[reducible] def eiderdownref_Bed_Sync.r0 : List MOp := [⟨some 2, .mov (.c (.int .i64 0)), none⟩]
@[reducible] def eiderdownref_Bed_Sync.r1 : List MOp := [⟨some 3, .mov (.c (.int .i64 0)), none⟩]
@[reducible] def eiderdownref_Bed_Sync.r2 : List MOp := [⟨some 5, .mov (.s 3), none⟩, ⟨some 6, .bin .lss (.s 5) (.c (.int .i64 8)), none⟩]
@[reducible] def eiderdownref_Bed_Sync.r3 : List MOp := [⟨some 7, .mov (.s 3), none⟩, ⟨some 8, .bin .add (.s 7) (.c (.int .i64 1)), none⟩, ⟨some 3, .mov (.s 8), none⟩]
@[reducible] def eiderdownref_Bed_Sync.r4 : List MOp := [⟨some 9, .mov (.s 0), none⟩, ⟨some 10, .nilck (.s 9), none⟩, ⟨some 11, .fld tBed 0 tImage (.s 10), none⟩, ⟨some 12, .load false none tImage (.s 11), none⟩, ⟨some 13, .mov (.s 0), none⟩, ⟨some 14, .nilck (.s 13), none⟩, ⟨some 15, .fld tBed 1 tImage (.s 14), none⟩, ⟨some 16, .load false none tImage (.s 15), none⟩, ⟨some 17, .eq false tImage (.s 12) (.s 16), none⟩]
@[reducible] def eiderdownref_Bed_Sync.r5 : List MOp := [⟨some 18, .mov (.s 3), none⟩, ⟨some 2, .mov (.s 18), none⟩]
@[reducible] def eiderdownref_Bed_Sync.r6 : List MOp := [⟨some 4, .mov (.c (.int .i64 13)), none⟩]
@[reducible] def eiderdownref_Bed_Sync.r7 : List MOp := [⟨some 19, .mov (.s 4), none⟩, ⟨some 20, .bin .geq (.s 19) (.c (.int .i64 0)), none⟩]
@[reducible] def eiderdownref_Bed_Sync.r8 : List MOp := [⟨some 21, .mov (.s 4), none⟩, ⟨some 22, .bin .sub (.s 21) (.c (.int .i64 1)), none⟩, ⟨some 4, .mov (.s 22), none⟩]
@[reducible] def eiderdownref_Bed_Sync.r9 : List MOp := [⟨some 23, .mov (.s 0), none⟩, ⟨some 24, .mov (.s 4), none⟩, ⟨some 25, .call false [] 213 [(.s 23), (.s 24)], none⟩]
@[reducible] def eiderdownref_Bed_Sync.r10 : List MOp := [⟨some 2, .mov (.c (.int .i64 8)), none⟩]
@[reducible] def eiderdownref_Bed_Sync.body : MC := (.seq (.reg false eiderdownref_Bed_Sync.r0 [2]) (.seq (.seq (.reg false eiderdownref_Bed_Sync.r1 []) (.block 0 (.loop [0, 3] [] (.seq (.seq (.reg false eiderdownref_Bed_Sync.r2 [5]) (.cond (.s 6) .skip (.exit 0))) (.seq (.block 1 (.seq (.seq (.reg true eiderdownref_Bed_Sync.r4 [9, 10, 11, 12, 13, 14, 15, 16]) (.cond (.s 17) (.seq (.reg false eiderdownref_Bed_Sync.r5 [3, 18]) .ret) .skip)) (.seq (.reg false eiderdownref_Bed_Sync.r6 []) (.block 2 (.loop [0, 3, 4] [] (.seq (.seq (.reg false eiderdownref_Bed_Sync.r7 [19]) (.cond (.s 20) .skip (.exit 2))) (.seq (.block 3 (.reg false eiderdownref_Bed_Sync.r9 [23, 24, 25])) (.reg false eiderdownref_Bed_Sync.r8 [21, 22])))))))) (.reg false eiderdownref_Bed_Sync.r3 [7, 8])))))) (.seq (.reg false eiderdownref_Bed_Sync.r10 []) .ret)))
@[reducible] def eiderdownref_Bed_Sync : MFun := { params := 1, nfree := 0, res := [.tmp 2], body := eiderdownref_Bed_Sync.body }
@[reducible] def eiderdownref_Bed_FreeInode.r0 : List MOp := [⟨some 2, .mov (.c (.int .i64 0)), none⟩]
@[reducible] def eiderdownref_Bed_FreeInode.r1 : List MOp := [⟨some 3, .mov (.c (.int .i64 0)), none⟩]
@[reducible] def eiderdownref_Bed_FreeInode.r2 : List MOp := [⟨some 4, .mov (.s 3), none⟩, ⟨some 5, .bin .lss (.s 4) (.c (.int .i64 8)), none⟩]
@[reducible] def eiderdownref_Bed_FreeInode.r3 : List MOp := [⟨some 6, .mov (.s 3), none⟩, ⟨some 7, .bin .add (.s 6) (.c (.int .i64 1)), none⟩, ⟨some 3, .mov (.s 7), none⟩]
@[reducible] def eiderdownref_Bed_FreeInode.r4 : List MOp := [⟨some 8, .mov (.s 0), none⟩, ⟨some 9, .mov (.s 3), none⟩, ⟨some 10, .nilck (.s 8), none⟩, ⟨some 11, .fld tBed 0 tImage (.s 10), none⟩, ⟨some 12, .fld tImage 0 tInodes (.s 11), none⟩, ⟨some 13, .idx 8 tInode (.s 12) (.s 9), none⟩, ⟨some 14, .fld tInode 0 tB (.s 13), none⟩, ⟨some 15, .load false none tB (.s 14), none⟩, ⟨some 16, .un .not (.s 15), none⟩, ⟨some 17, .mov (.s 16), none⟩, ⟨some 18, .mov (.s 0), some (17, true)⟩, ⟨some 19, .nilck (.s 18), some (17, true)⟩, ⟨some 20, .fld tBed 1 tImage (.s 19), some (17, true)⟩, ⟨some 21, .mov (.s 3), some (17, true)⟩, ⟨some 22, .call false [] 16 [(.s 20), (.s 21)], some (17, true)⟩, ⟨some 23, .bin .eql (.s 22) (.c (.int .i64 0)), some (17, true)⟩, ⟨some 24, .pick (.s 17) (.s 23) (.c (.bool false)), none⟩]
@[reducible] def eiderdownref_Bed_FreeInode.r5 : List MOp := [⟨some 25, .mov (.s 3), none⟩, ⟨some 2, .mov (.s 25), none⟩]
@[reducible] def eiderdownref_Bed_FreeInode.r6 : List MOp := [⟨some 2, .mov (.c (.int .i64 (-1))), none⟩]
@[reducible] def eiderdownref_Bed_FreeInode.body : MC := (.seq (.reg false eiderdownref_Bed_FreeInode.r0 [2]) (.seq (.seq (.reg false eiderdownref_Bed_FreeInode.r1 []) (.block 0 (.loop [0, 3] [] (.seq (.seq (.reg false eiderdownref_Bed_FreeInode.r2 [4]) (.cond (.s 5) .skip (.exit 0))) (.seq (.block 1 (.seq (.reg false eiderdownref_Bed_FreeInode.r4 [8, 9, 10, 11, 12, 13, 14, 15, 16, 17, 18, 19, 20, 21, 22, 23]) (.cond (.s 24) (.seq (.reg false eiderdownref_Bed_FreeInode.r5 [3, 25]) .ret) .skip))) (.reg false eiderdownref_Bed_FreeInode.r3 [6, 7])))))) (.seq (.reg false eiderdownref_Bed_FreeInode.r6 []) .ret)))
@[reducible] def eiderdownref_Bed_FreeInode : MFun := { params := 1, nfree := 0, res := [.tmp 2], body := eiderdownref_Bed_FreeInode.body }
@[reducible] def eiderdownref_Bed_FreeSlot.r0 : List MOp := [⟨some 4, .mov (.c (.int .i64 0)), none⟩]
@[reducible] def eiderdownref_Bed_FreeSlot.r1 : List MOp := [⟨some 6, .mov (.s 1), none⟩, ⟨some 7, .bin .lss (.s 6) (.c (.int .i64 0)), none⟩, ⟨some 8, .mov (.s 7), none⟩, ⟨some 9, .mov (.s 1), some (8, false)⟩, ⟨some 10, .bin .geq (.s 9) (.c (.int .i64 3)), some (8, false)⟩, ⟨some 11, .pick (.s 8) (.c (.bool true)) (.s 10), none⟩]
@[reducible] def eiderdownref_Bed_FreeSlot.r2 : List MOp := [⟨some 4, .mov (.c (.int .i64 (-1))), none⟩]
@[reducible] def eiderdownref_Bed_FreeSlot.r3 : List MOp := [⟨some 5, .mov (.c (.int .i64 0)), none⟩]
@[reducible] def eiderdownref_Bed_FreeSlot.r4 : List MOp := [⟨some 12, .mov (.s 5), none⟩, ⟨some 13, .bin .lss (.s 12) (.c (.int .i64 4)), none⟩]
@[reducible] def eiderdownref_Bed_FreeSlot.r5 : List MOp := [⟨some 14, .mov (.s 5), none⟩, ⟨some 15, .bin .add (.s 14) (.c (.int .i64 1)), none⟩, ⟨some 5, .mov (.s 15), none⟩]
@[reducible] def eiderdownref_Bed_FreeSlot.r6 : List MOp := [⟨some 16, .mov (.s 0), none⟩, ⟨some 17, .mov (.s 1), none⟩, ⟨some 18, .mov (.s 5), none⟩, ⟨some 19, .nilck (.s 16), none⟩, ⟨some 20, .fld tBed 0 tImage (.s 19), none⟩, ⟨some 21, .fld tImage 1 tDirs (.s 20), none⟩, ⟨some 22, .idx 3 tRow (.s 21) (.s 17), none⟩, ⟨some 23, .idx 4 tEntry (.s 22) (.s 18), none⟩, ⟨some 24, .fld tEntry 0 tS (.s 23), none⟩, ⟨some 25, .load false none tS (.s 24), none⟩, ⟨some 26, .bin .eql (.s 25) (.c (.str ⟨#[]⟩)), none⟩, ⟨some 27, .mov (.s 26), none⟩, ⟨some 28, .mov (.s 0), some (27, true)⟩, ⟨some 29, .mov (.s 1), some (27, true)⟩, ⟨some 30, .mov (.s 5), some (27, true)⟩, ⟨some 31, .nilck (.s 28), some (27, true)⟩, ⟨some 32, .fld tBed 1 tImage (.s 31), some (27, true)⟩, ⟨some 33, .fld tImage 1 tDirs (.s 32), some (27, true)⟩, ⟨some 34, .idx 3 tRow (.s 33) (.s 29), some (27, true)⟩, ⟨some 35, .idx 4 tEntry (.s 34) (.s 30), some (27, true)⟩, ⟨some 36, .fld tEntry 0 tS (.s 35), some (27, true)⟩, ⟨some 37, .load false none tS (.s 36), some (27, true)⟩, ⟨some 38, .bin .eql (.s 37) (.c (.str ⟨#[]⟩)), some (27, true)⟩, ⟨some 39, .pick (.s 27) (.s 38) (.c (.bool false)), none⟩]
@[reducible] def eiderdownref_Bed_FreeSlot.r7 : List MOp := [⟨some 40, .mov (.s 5), none⟩, ⟨some 4, .mov (.s 40), none⟩]
@[reducible] def eiderdownref_Bed_FreeSlot.r8 : List MOp := [⟨some 4, .mov (.c (.int .i64 (-1))), none⟩]
@[reducible] def eiderdownref_Bed_FreeSlot.body : MC := (.seq (.reg false eiderdownref_Bed_FreeSlot.r0 [4]) (.seq (.seq (.reg false eiderdownref_Bed_FreeSlot.r1 [6, 7, 8, 9, 10]) (.cond (.s 11) (.seq (.reg false eiderdownref_Bed_FreeSlot.r2 []) .ret) .skip)) (.seq (.seq (.reg false eiderdownref_Bed_FreeSlot.r3 []) (.block 0 (.loop [0, 1, 5] [] (.seq (.seq (.reg false eiderdownref_Bed_FreeSlot.r4 [12]) (.cond (.s 13) .skip (.exit 0))) (.seq (.block 1 (.seq (.reg false eiderdownref_Bed_FreeSlot.r6 [16, 17, 18, 19, 20, 21, 22, 23, 24, 25, 26, 27, 28, 29, 30, 31, 32, 33, 34, 35, 36, 37, 38]) (.cond (.s 39) (.seq (.reg false eiderdownref_Bed_FreeSlot.r7 [5, 40]) .ret) .skip))) (.reg false eiderdownref_Bed_FreeSlot.r5 [14, 15])))))) (.seq (.reg false eiderdownref_Bed_FreeSlot.r8 []) .ret))))
@[reducible] def eiderdownref_Bed_FreeSlot : MFun := { params := 2, nfree := 0, res := [.tmp 4], body := eiderdownref_Bed_FreeSlot.body }
@[reducible] def eiderdownref_Bed_FreeData.r0 : List MOp := [⟨some 2, .mov (.c (.int .i64 0)), none⟩]
@[reducible] def eiderdownref_Bed_FreeData.r1 : List MOp := [⟨some 3, .mov (.c (.int .i64 0)), none⟩]
@[reducible] def eiderdownref_Bed_FreeData.r2 : List MOp := [⟨some 4, .mov (.s 3), none⟩, ⟨some 5, .bin .lss (.s 4) (.c (.int .i64 9)), none⟩]
@[reducible] def eiderdownref_Bed_FreeData.r3 : List MOp := [⟨some 6, .mov (.s 3), none⟩, ⟨some 7, .bin .add (.s 6) (.c (.int .i64 1)), none⟩, ⟨some 3, .mov (.s 7), none⟩]
@[reducible] def eiderdownref_Bed_FreeData.r4 : List MOp := [⟨some 8, .mov (.s 0), none⟩, ⟨some 9, .nilck (.s 8), none⟩, ⟨some 10, .fld tBed 0 tImage (.s 9), none⟩, ⟨some 11, .mov (.s 3), none⟩, ⟨some 12, .call false [] 18 [(.s 10), (.s 11)], none⟩, ⟨some 13, .un .not (.s 12), none⟩, ⟨some 14, .mov (.s 13), none⟩, ⟨some 15, .mov (.s 0), some (14, true)⟩, ⟨some 16, .nilck (.s 15), some (14, true)⟩, ⟨some 17, .fld tBed 1 tImage (.s 16), some (14, true)⟩, ⟨some 18, .mov (.s 3), some (14, true)⟩, ⟨some 19, .call false [] 18 [(.s 17), (.s 18)], some (14, true)⟩, ⟨some 20, .un .not (.s 19), some (14, true)⟩, ⟨some 21, .pick (.s 14) (.s 20) (.c (.bool false)), none⟩]
@[reducible] def eiderdownref_Bed_FreeData.r5 : List MOp := [⟨some 22, .mov (.s 3), none⟩, ⟨some 2, .mov (.s 22), none⟩]
@[reducible] def eiderdownref_Bed_FreeData.r6 : List MOp := [⟨some 2, .mov (.c (.int .i64 (-1))), none⟩]
@[reducible] def eiderdownref_Bed_FreeData.body : MC := (.seq (.reg false eiderdownref_Bed_FreeData.r0 [2]) (.seq (.seq (.reg false eiderdownref_Bed_FreeData.r1 []) (.block 0 (.loop [0, 3] [] (.seq (.seq (.reg false eiderdownref_Bed_FreeData.r2 [4]) (.cond (.s 5) .skip (.exit 0))) (.seq (.block 1 (.seq (.reg false eiderdownref_Bed_FreeData.r4 [8, 9, 10, 11, 12, 13, 14, 15, 16, 17, 18, 19, 20]) (.cond (.s 21) (.seq (.reg false eiderdownref_Bed_FreeData.r5 [3, 22]) .ret) .skip))) (.reg false eiderdownref_Bed_FreeData.r3 [6, 7])))))) (.seq (.reg false eiderdownref_Bed_FreeData.r6 []) .ret)))
@[reducible] def eiderdownref_Bed_FreeData : MFun := { params := 1, nfree := 0, res := [.tmp 2], body := eiderdownref_Bed_FreeData.body }
@[reducible] def eiderdownref_Bed_Write.r0 : List MOp := [⟨some 4, .mov (.c (.bool false)), none⟩]
@[reducible] def eiderdownref_Bed_Write.r1 : List MOp := [⟨some 8, .mov (.s 0), none⟩, ⟨some 9, .nilck (.s 8), none⟩, ⟨some 10, .fld tBed 0 tImage (.s 9), none⟩, ⟨some 11, .mov (.s 0), none⟩, ⟨some 12, .nilck (.s 11), none⟩, ⟨some 13, .fld tBed 1 tImage (.s 12), none⟩, ⟨some 14, .mov (.s 1), none⟩, ⟨some 15, .call false [5] 8 [(.s 10), (.s 13), (.s 14)], none⟩, ⟨some 7, .mov (.s 15), none⟩, ⟨some 16, .ext (.s 7) 0, none⟩, ⟨some 17, .ext (.s 7) 1, none⟩, ⟨some 5, .alloc false tImage, none⟩, ⟨none, .store tImage [] (.s 5) (.s 16), none⟩, ⟨some 6, .mov (.s 17), none⟩]
@[reducible] def eiderdownref_Bed_Write.r2 : List MOp := [⟨some 18, .mov (.s 0), none⟩, ⟨some 19, .load false none tImage (.s 5), none⟩, ⟨some 20, .nilck (.s 18), none⟩, ⟨some 21, .fld tBed 1 tImage (.s 20), none⟩, ⟨none, .store tImage [] (.s 21) (.s 19), none⟩]
@[reducible] def eiderdownref_Bed_Write.r3 : List MOp := [⟨some 22, .mov (.s 6), none⟩, ⟨some 4, .mov (.s 22), none⟩]
@[reducible] def eiderdownref_Bed_Write.body : MC := (.seq (.reg false eiderdownref_Bed_Write.r0 [4]) (.seq (.reg true eiderdownref_Bed_Write.r1 [1, 7, 8, 9, 10, 11, 12, 13, 14, 15, 16, 17]) (.seq (.reg false eiderdownref_Bed_Write.r2 [0, 5, 18, 19, 20, 21]) (.seq (.reg false eiderdownref_Bed_Write.r3 [6, 22]) .ret))))
@[reducible] def eiderdownref_Bed_Write : MFun := { params := 2, nfree := 0, res := [.tmp 4], body := eiderdownref_Bed_Write.body }
@[reducible] def eiderdownlaw_CacheDoes.r0 : List MOp := [⟨some 4, .box false tImage (.s 0), none⟩, ⟨some 5, .box false tImage (.s 1), none⟩, ⟨some 8, .mov (.c (.bool false)), none⟩]
@[reducible] def eiderdownlaw_CacheDoes.r1 : List MOp := [⟨some 17, .call false [] 215 [], none⟩, ⟨some 18, .un .not (.s 17), none⟩]
@[reducible] def eiderdownlaw_CacheDoes.r2 : List MOp := [⟨some 8, .mov (.c (.bool false)), none⟩]
@[reducible] def eiderdownlaw_CacheDoes.r3 : List MOp := [⟨some 19, .load false none tImage (.s 5), none⟩, ⟨some 20, .call false [] 10 [(.s 19)], none⟩, ⟨some 21, .mov (.s 20), none⟩, ⟨some 22, .load false none tImage (.s 4), some (21, false)⟩, ⟨some 23, .call false [] 10 [(.s 22)], some (21, false)⟩, ⟨some 24, .pick (.s 21) (.c (.bool true)) (.s 23), none⟩, ⟨some 25, .mov (.s 24), none⟩, ⟨some 26, .mov (.s 2), some (25, false)⟩, ⟨some 27, .len false (.s 26), some (25, false)⟩, ⟨some 28, .bin .gtr (.s 27) (.c (.int .i64 200)), some (25, false)⟩, ⟨some 29, .pick (.s 25) (.c (.bool true)) (.s 28), none⟩]
@[reducible] def eiderdownlaw_CacheDoes.r4 : List MOp := [⟨some 8, .mov (.c (.bool true)), none⟩]
@[reducible] def eiderdownlaw_CacheDoes.r5 : List MOp := [⟨some 30, .load false none tImage (.s 4), none⟩, ⟨some 31, .call false [] 214 [(.s 30)], none⟩, ⟨some 9, .mov (.s 31), none⟩]
@[reducible] def eiderdownlaw_CacheDoes.r6 : List MOp := [⟨some 32, .call false [] 22 [(.s 4)], none⟩, ⟨some 33, .bin .neq (.s 32) (.c (.int .i64 0)), none⟩, ⟨some 34, .mov (.s 33), none⟩, ⟨some 35, .mov (.s 9), some (34, false)⟩, ⟨some 36, .eq false tP (.s 35) (.c .nilp), some (34, false)⟩, ⟨some 37, .pick (.s 34) (.c (.bool true)) (.s 36), none⟩]
@[reducible] def eiderdownlaw_CacheDoes.r7 : List MOp := [⟨some 38, .call false [] 22 [(.s 4)], none⟩, ⟨some 39, .bin .neq (.s 38) (.c (.int .i64 0)), none⟩, ⟨some 40, .mov (.s 39), none⟩, ⟨some 41, .mov (.s 9), some (40, true)⟩, ⟨some 42, .eq false tP (.s 41) (.c .nilp), some (40, true)⟩, ⟨some 43, .pick (.s 40) (.s 42) (.c (.bool false)), none⟩, ⟨some 8, .mov (.s 43), none⟩]
@[reducible] def eiderdownlaw_CacheDoes.r8 : List MOp := [⟨some 44, .mov (.s 9), none⟩, ⟨some 45, .call true [] 203 [(.s 44)], none⟩, ⟨some 46, .load false none tImage (.s 4), none⟩, ⟨some 47, .eq true tImage (.s 45) (.s 46), none⟩, ⟨some 48, .mov (.s 47), none⟩, ⟨some 49, .mov (.s 9), some (48, false)⟩, ⟨some 50, .nilck (.s 49), some (48, false)⟩, ⟨some 51, .fld tCache 0 tImage (.s 50), some (48, false)⟩, ⟨some 52, .load false none tImage (.s 51), some (48, false)⟩, ⟨some 53, .load false none tImage (.s 4), some (48, false)⟩, ⟨some 54, .eq true tImage (.s 52) (.s 53), some (48, false)⟩, ⟨some 55, .pick (.s 48) (.c (.bool true)) (.s 54), none⟩]
@[reducible] def eiderdownlaw_CacheDoes.r9 : List MOp := [⟨some 8, .mov (.c (.bool false)), none⟩]
@[reducible] def eiderdownlaw_CacheDoes.r10 : List MOp := [⟨some 56, .mov (.s 9), none⟩, ⟨some 57, .load false none tImage (.s 5), none⟩, ⟨some 58, .nilck (.s 56), none⟩, ⟨some 59, .fld tCache 0 tImage (.s 58), none⟩, ⟨none, .store tImage [] (.s 59) (.s 57), none⟩]
@[reducible] def eiderdownlaw_CacheDoes.r11 : List MOp := [⟨some 60, .load false none tImage (.s 5), none⟩, ⟨some 61, .load false none tImage (.s 4), none⟩, ⟨some 62, .build tBed [(0, (.s 60)), (1, (.s 61))], none⟩, ⟨some 63, .box true tBed (.s 62), none⟩, ⟨some 10, .mov (.s 63), none⟩]
@[reducible] def eiderdownlaw_CacheDoes.r12 : List MOp := [⟨some 11, .mov (.c (.int .i64 0)), none⟩]
@[reducible] def eiderdownlaw_CacheDoes.r13 : List MOp := [⟨some 64, .mov (.s 11), none⟩, ⟨some 65, .mov (.s 2), none⟩, ⟨some 66, .len false (.s 65), none⟩, ⟨some 67, .bin .lss (.s 64) (.s 66), none⟩]
@[reducible] def eiderdownlaw_CacheDoes.r14 : List MOp := [⟨some 68, .mov (.s 11), none⟩, ⟨some 69, .bin .add (.s 68) (.c (.int .i64 1)), none⟩, ⟨some 11, .mov (.s 69), none⟩]
@[reducible] def eiderdownlaw_CacheDoes.r15 : List MOp := [⟨some 70, .mov (.s 9), none⟩, ⟨some 71, .mov (.s 2), none⟩, ⟨some 72, .mov (.s 11), none⟩, ⟨some 73, .sidx false tI (.s 71) (.s 72), none⟩, ⟨some 74, .load false none tI (.s 73), none⟩, ⟨some 75, .call false [] 212 [(.s 70), (.s 74)], none⟩, ⟨some 76, .mov (.s 10), none⟩, ⟨some 77, .mov (.s 2), none⟩, ⟨some 78, .mov (.s 11), none⟩, ⟨some 79, .sidx true tI (.s 77) (.s 78), none⟩, ⟨some 80, .load true none tI (.s 79), none⟩, ⟨some 81, .call false [] 213 [(.s 76), (.s 80)], none⟩, ⟨some 82, .eq true tB (.s 75) (.s 81), none⟩, ⟨some 83, .mov (.s 82), none⟩, ⟨some 84, .mov (.s 9), some (83, false)⟩, ⟨some 85, .call true [] 203 [(.s 84)], some (83, false)⟩, ⟨some 86, .mov (.s 10), some (83, false)⟩, ⟨some 87, .nilck (.s 86), some (83, false)⟩, ⟨some 88, .fld tBed 1 tImage (.s 87), some (83, false)⟩, ⟨some 89, .load false none tImage (.s 88), some (83, false)⟩, ⟨some 90, .eq true tImage (.s 85) (.s 89), some (83, false)⟩, ⟨some 91, .pick (.s 83) (.c (.bool true)) (.s 90), none⟩]
@[reducible] def eiderdownlaw_CacheDoes.r16 : List MOp := [⟨some 8, .mov (.c (.bool false)), none⟩]
@[reducible] def eiderdownlaw_CacheDoes.r17 : List MOp := [⟨some 92, .mov (.s 9), none⟩, ⟨some 93, .call false [] 205 [(.s 92)], none⟩, ⟨some 94, .mov (.s 10), none⟩, ⟨some 95, .call false [] 206 [(.s 94)], none⟩, ⟨some 96, .bin .neq (.s 93) (.s 95), none⟩, ⟨some 97, .mov (.s 96), none⟩, ⟨some 98, .mov (.s 9), some (97, false)⟩, ⟨some 99, .mov (.s 3), some (97, false)⟩, ⟨some 100, .call false [] 207 [(.s 98), (.s 99)], some (97, false)⟩, ⟨some 101, .mov (.s 10), some (97, false)⟩, ⟨some 102, .mov (.s 3), some (97, false)⟩, ⟨some 103, .call false [] 208 [(.s 101), (.s 102)], some (97, false)⟩, ⟨some 104, .bin .neq (.s 100) (.s 103), some (97, false)⟩, ⟨some 105, .pick (.s 97) (.c (.bool true)) (.s 104), none⟩, ⟨some 106, .mov (.s 105), none⟩, ⟨some 107, .mov (.s 9), some (106, false)⟩, ⟨some 108, .call false [] 209 [(.s 107)], some (106, false)⟩, ⟨some 109, .mov (.s 10), some (106, false)⟩, ⟨some 110, .call false [] 210 [(.s 109)], some (106, false)⟩, ⟨some 111, .bin .neq (.s 108) (.s 110), some (106, false)⟩, ⟨some 112, .pick (.s 106) (.c (.bool true)) (.s 111), none⟩, ⟨some 113, .mov (.s 112), none⟩, ⟨some 114, .mov (.s 9), some (113, false)⟩, ⟨some 115, .call true [] 211 [(.s 114)], some (113, false)⟩, ⟨some 116, .mov (.s 10), some (113, false)⟩, ⟨some 117, .nilck (.s 116), some (113, false)⟩, ⟨some 118, .fld tBed 0 tImage (.s 117), some (113, false)⟩, ⟨some 119, .load false none tImage (.s 118), some (113, false)⟩, ⟨some 120, .mov (.s 10), some (113, false)⟩, ⟨some 121, .nilck (.s 120), some (113, false)⟩, ⟨some 122, .fld tBed 1 tImage (.s 121), some (113, false)⟩, ⟨some 123, .load false none tImage (.s 122), some (113, false)⟩, ⟨some 124, .eq false tImage (.s 119) (.s 123), some (113, false)⟩, ⟨some 125, .eq true tB (.s 115) (.s 124), some (113, false)⟩, ⟨some 126, .pick (.s 113) (.c (.bool true)) (.s 125), none⟩]
@[reducible] def eiderdownlaw_CacheDoes.r18 : List MOp := [⟨some 8, .mov (.c (.bool false)), none⟩]
@[reducible] def eiderdownlaw_CacheDoes.r19 : List MOp := [⟨some 12, .mov (.c (.int .i64 (-1))), none⟩]
@[reducible] def eiderdownlaw_CacheDoes.r20 : List MOp := [⟨some 127, .mov (.s 12), none⟩, ⟨some 128, .bin .leq (.s 127) (.c (.int .i64 14)), none⟩]
@[reducible] def eiderdownlaw_CacheDoes.r21 : List MOp := [⟨some 129, .mov (.s 12), none⟩, ⟨some 130, .bin .add (.s 129) (.c (.int .i64 1)), none⟩, ⟨some 12, .mov (.s 130), none⟩]
@[reducible] def eiderdownlaw_CacheDoes.r22 : List MOp := [⟨some 132, .mov (.s 12), none⟩, ⟨some 133, .call false [] 6 [(.s 132)], none⟩, ⟨some 131, .mov (.s 133), none⟩, ⟨some 134, .ext (.s 131) 0, none⟩, ⟨some 135, .ext (.s 131) 1, none⟩, ⟨some 13, .mov (.s 134), none⟩, ⟨some 14, .mov (.s 135), none⟩]
@[reducible] def eiderdownlaw_CacheDoes.r23 : List MOp := [⟨some 15, .mov (.c (.bool false)), none⟩]
@[reducible] def eiderdownlaw_CacheDoes.r24 : List MOp := [⟨some 136, .mov (.s 13), none⟩]
@[reducible] def eiderdownlaw_CacheDoes.r25 : List MOp := [⟨some 138, .bin .eql (.s 136) (.c (.str ⟨#[105, 110, 111, 100, 101, 115]⟩)), none⟩, ⟨some 137, .mov (.s 138), none⟩]
@[reducible] def eiderdownlaw_CacheDoes.r26 : List MOp := [⟨some 16, .mov (.c (.int .i64 0)), none⟩]
@[reducible] def eiderdownlaw_CacheDoes.r27 : List MOp := [⟨some 139, .mov (.s 16), none⟩, ⟨some 140, .bin .lss (.s 139) (.c (.int .i64 4)), none⟩]
@[reducible] def eiderdownlaw_CacheDoes.r28 : List MOp := [⟨some 141, .mov (.s 16), none⟩, ⟨some 142, .bin .add (.s 141) (.c (.int .i64 1)), none⟩, ⟨some 16, .mov (.s 142), none⟩]
@[reducible] def eiderdownlaw_CacheDoes.r29 : List MOp := [⟨some 143, .mov (.s 15), none⟩, ⟨some 144, .mov (.s 143), none⟩, ⟨some 145, .mov (.s 14), some (144, false)⟩, ⟨some 146, .mov (.s 16), some (144, false)⟩, ⟨some 147, .bin .add (.s 145) (.s 146), some (144, false)⟩, ⟨some 148, .fld tImage 0 tInodes (.s 5), some (144, false)⟩, ⟨some 149, .idx 8 tInode (.s 148) (.s 147), some (144, false)⟩, ⟨some 150, .load false none tInode (.s 149), some (144, false)⟩, ⟨some 151, .mov (.s 10), some (144, false)⟩, ⟨some 152, .mov (.s 14), some (144, false)⟩, ⟨some 153, .mov (.s 16), some (144, false)⟩, ⟨some 154, .bin .add (.s 152) (.s 153), some (144, false)⟩, ⟨some 155, .nilck (.s 151), some (144, false)⟩, ⟨some 156, .fld tBed 1 tImage (.s 155), some (144, false)⟩, ⟨some 157, .fld tImage 0 tInodes (.s 156), some (144, false)⟩, ⟨some 158, .idx 8 tInode (.s 157) (.s 154), some (144, false)⟩, ⟨some 159, .load false none tInode (.s 158), some (144, false)⟩, ⟨some 160, .eq true tInode (.s 150) (.s 159), some (144, false)⟩, ⟨some 161, .pick (.s 144) (.c (.bool true)) (.s 160), none⟩, ⟨some 15, .mov (.s 161), none⟩]
@[reducible] def eiderdownlaw_CacheDoes.r30 : List MOp := [⟨some 163, .bin .eql (.s 136) (.c (.str ⟨#[100, 105, 114]⟩)), none⟩, ⟨some 162, .mov (.s 163), none⟩]
@[reducible] def eiderdownlaw_CacheDoes.r31 : List MOp := [⟨some 164, .mov (.s 14), none⟩, ⟨some 165, .fld tImage 1 tDirs (.s 5), none⟩, ⟨some 166, .idx 3 tRow (.s 165) (.s 164), none⟩, ⟨some 167, .load false none tRow (.s 166), none⟩, ⟨some 168, .mov (.s 10), none⟩, ⟨some 169, .mov (.s 14), none⟩, ⟨some 170, .nilck (.s 168), none⟩, ⟨some 171, .fld tBed 1 tImage (.s 170), none⟩, ⟨some 172, .fld tImage 1 tDirs (.s 171), none⟩, ⟨some 173, .idx 3 tRow (.s 172) (.s 169), none⟩, ⟨some 174, .load false none tRow (.s 173), none⟩, ⟨some 175, .eq true tRow (.s 167) (.s 174), none⟩, ⟨some 15, .mov (.s 175), none⟩]
@[reducible] def eiderdownlaw_CacheDoes.r32 : List MOp := [⟨some 177, .bin .eql (.s 136) (.c (.str ⟨#[100, 97, 116, 97]⟩)), none⟩, ⟨some 176, .mov (.s 177), none⟩]
@[reducible] def eiderdownlaw_CacheDoes.r33 : List MOp := [⟨some 178, .mov (.s 14), none⟩, ⟨some 179, .fld tImage 2 tDatas (.s 5), none⟩, ⟨some 180, .idx 9 tData (.s 179) (.s 178), none⟩, ⟨some 181, .load false none tData (.s 180), none⟩, ⟨some 182, .mov (.s 10), none⟩, ⟨some 183, .mov (.s 14), none⟩, ⟨some 184, .nilck (.s 182), none⟩, ⟨some 185, .fld tBed 1 tImage (.s 184), none⟩, ⟨some 186, .fld tImage 2 tDatas (.s 185), none⟩, ⟨some 187, .idx 9 tData (.s 186) (.s 183), none⟩, ⟨some 188, .load false none tData (.s 187), none⟩, ⟨some 189, .eq true tData (.s 181) (.s 188), none⟩, ⟨some 15, .mov (.s 189), none⟩]
@[reducible] def eiderdownlaw_CacheDoes.r34 : List MOp := [⟨some 190, .mov (.s 9), none⟩, ⟨some 191, .mov (.s 12), none⟩, ⟨some 192, .call false [] 204 [(.s 190), (.s 191)], none⟩, ⟨some 193, .mov (.s 15), none⟩, ⟨some 194, .eq true tB (.s 192) (.s 193), none⟩]
@[reducible] def eiderdownlaw_CacheDoes.r35 : List MOp := [⟨some 8, .mov (.c (.bool false)), none⟩]
@[reducible] def eiderdownlaw_CacheDoes.r36 : List MOp := [⟨some 195, .mov (.s 9), none⟩, ⟨some 196, .call false [] 201 [(.s 195)], none⟩, ⟨some 197, .mov (.s 10), none⟩, ⟨some 198, .call false [] 202 [(.s 197)], none⟩, ⟨some 199, .bin .eql (.s 196) (.s 198), none⟩, ⟨some 200, .mov (.s 199), none⟩, ⟨some 201, .mov (.s 9), some (200, true)⟩, ⟨some 202, .call true [] 203 [(.s 201)], some (200, true)⟩, ⟨some 203, .mov (.s 10), some (200, true)⟩, ⟨some 204, .nilck (.s 203), some (200, true)⟩, ⟨some 205, .fld tBed 1 tImage (.s 204), some (200, true)⟩, ⟨some 206, .load false none tImage (.s 205), some (200, true)⟩, ⟨some 207, .eq false tImage (.s 202) (.s 206), some (200, true)⟩, ⟨some 208, .pick (.s 200) (.s 207) (.c (.bool false)), none⟩, ⟨some 209, .mov (.s 208), none⟩, ⟨some 210, .mov (.s 9), some (209, true)⟩, ⟨some 211, .nilck (.s 210), some (209, true)⟩, ⟨some 212, .fld tCache 0 tImage (.s 211), some (209, true)⟩, ⟨some 213, .load false none tImage (.s 212), some (209, true)⟩, ⟨some 214, .load false none tImage (.s 5), some (209, true)⟩, ⟨some 215, .eq false tImage (.s 213) (.s 214), some (209, true)⟩, ⟨some 216, .pick (.s 209) (.s 215) (.c (.bool false)), none⟩, ⟨some 8, .mov (.s 216), none⟩]
@[reducible] def eiderdownlaw_CacheDoes.body : MC := (.seq (.reg false eiderdownlaw_CacheDoes.r0 [0, 1, 8]) (.seq (.seq (.reg false eiderdownlaw_CacheDoes.r1 [17]) (.cond (.s 18) (.seq (.reg false eiderdownlaw_CacheDoes.r2 []) .ret) .skip)) (.seq (.seq (.reg false eiderdownlaw_CacheDoes.r3 [19, 20, 21, 22, 23, 24, 25, 26, 27, 28]) (.cond (.s 29) (.seq (.reg false eiderdownlaw_CacheDoes.r4 []) .ret) .skip)) (.seq (.reg false eiderdownlaw_CacheDoes.r5 [30, 31]) (.seq (.seq (.reg false eiderdownlaw_CacheDoes.r6 [32, 33, 34, 35, 36]) (.cond (.s 37) (.seq (.reg false eiderdownlaw_CacheDoes.r7 [4, 9, 38, 39, 40, 41, 42, 43]) .ret) .skip)) (.seq (.seq (.reg true eiderdownlaw_CacheDoes.r8 [44, 45, 46, 47, 48, 49, 50, 51, 52, 53, 54]) (.cond (.s 55) (.seq (.reg false eiderdownlaw_CacheDoes.r9 []) .ret) .skip)) (.seq (.reg false eiderdownlaw_CacheDoes.r10 [56, 57, 58, 59]) (.seq (.reg false eiderdownlaw_CacheDoes.r11 [4, 60, 61, 62, 63]) (.seq (.seq (.reg false eiderdownlaw_CacheDoes.r12 []) (.block 0 (.loop [2, 3, 5, 9, 10, 11] [5, 63] (.seq (.seq (.reg false eiderdownlaw_CacheDoes.r13 [64, 65, 66]) (.cond (.s 67) .skip (.exit 0))) (.seq (.block 1 (.seq (.reg true eiderdownlaw_CacheDoes.r15 [70, 71, 72, 73, 74, 75, 76, 77, 78, 79, 80, 81, 82, 83, 84, 85, 86, 87, 88, 89, 90]) (.cond (.s 91) (.seq (.reg false eiderdownlaw_CacheDoes.r16 []) .ret) .skip))) (.reg false eiderdownlaw_CacheDoes.r14 [68, 69])))))) (.seq (.seq (.reg true eiderdownlaw_CacheDoes.r17 [3, 92, 93, 94, 95, 96, 97, 98, 99, 100, 101, 102, 103, 104, 105, 106, 107, 108, 109, 110, 111, 112, 113, 114, 115, 116, 117, 118, 119, 120, 121, 122, 123, 124, 125]) (.cond (.s 126) (.seq (.reg false eiderdownlaw_CacheDoes.r18 []) .ret) .skip)) (.seq (.seq (.reg false eiderdownlaw_CacheDoes.r19 []) (.block 2 (.loop [5, 9, 10, 12] [5, 63] (.seq (.seq (.reg false eiderdownlaw_CacheDoes.r20 [127]) (.cond (.s 128) .skip (.exit 2))) (.seq (.block 3 (.seq (.reg false eiderdownlaw_CacheDoes.r22 [131, 132, 133, 134, 135]) (.seq (.reg false eiderdownlaw_CacheDoes.r23 []) (.seq (.seq (.reg false eiderdownlaw_CacheDoes.r24 [13]) (.block 4 (.seq (.reg false eiderdownlaw_CacheDoes.r25 [138]) (.cond (.s 137) (.seq (.reg false eiderdownlaw_CacheDoes.r26 []) (.block 5 (.loop [5, 9, 10, 12, 14, 15, 16] [5, 63] (.seq (.seq (.reg false eiderdownlaw_CacheDoes.r27 [139]) (.cond (.s 140) .skip (.exit 5))) (.seq (.block 6 (.reg true eiderdownlaw_CacheDoes.r29 [143, 144, 145, 146, 147, 148, 149, 150, 151, 152, 153, 154, 155, 156, 157, 158, 159, 160, 161])) (.reg false eiderdownlaw_CacheDoes.r28 [141, 142])))))) (.seq (.reg false eiderdownlaw_CacheDoes.r30 [163]) (.cond (.s 162) (.reg true eiderdownlaw_CacheDoes.r31 [14, 164, 165, 166, 167, 168, 169, 170, 171, 172, 173, 174, 175]) (.seq (.reg false eiderdownlaw_CacheDoes.r32 [136, 177]) (.cond (.s 176) (.reg true eiderdownlaw_CacheDoes.r33 [14, 178, 179, 180, 181, 182, 183, 184, 185, 186, 187, 188, 189]) .skip)))))))) (.seq (.reg false eiderdownlaw_CacheDoes.r34 [15, 190, 191, 192, 193]) (.cond (.s 194) (.seq (.reg false eiderdownlaw_CacheDoes.r35 []) .ret) .skip)))))) (.reg false eiderdownlaw_CacheDoes.r21 [129, 130])))))) (.seq (.reg true eiderdownlaw_CacheDoes.r36 [5, 9, 10, 195, 196, 197, 198, 199, 200, 201, 202, 203, 204, 205, 206, 207, 208, 209, 210, 211, 212, 213, 214, 215, 216]) .ret))))))))))))
@[reducible] def eiderdownlaw_CacheDoes : MFun := { params := 4, nfree := 0, res := [.tmp 8], body := eiderdownlaw_CacheDoes.body }
end Fn
def tblDL0 : List (Option MFun) := [none, none, some Fn.eiderdownref_Bed_Sync, none, none, none, some Fn.eiderdownref_Bed_FreeInode, none, some Fn.eiderdownref_Bed_FreeSlot, none, some Fn.eiderdownref_Bed_FreeData, none, none, some Fn.eiderdownref_Bed_Write, none, none, none, none, none, none, none, none, none, none, none, none, none, none, none, none, none, none, none, none, none, none, none, none, none, none, none, none, none, none, none, none, none, none, none, none, none, none, none, none, none, none, none, none, none, none, none, none, none, none, some Fn.eiderdownlaw_CacheDoes]
end Go.Mini

namespace Go.Mini
namespace Fn
end Fn
def tblEL0 : List (Option MFun) := [none, none, none, none, none, none, none, none, none, none, none, none, none, none, none, none, none, none, none, none, none, none, none, none, none, none, none, none, none, none, none, none, none, none, none, none, none, none, none, none, none, none, none, none, none, none, none, none, none, none, none, none, none, none, none, none, none, none, none, none, none, none, none, none, none, none, none, none, none, none, none, none, none, none, none, none, none, none, none, none, none, none, none, none, none, none, none, none, none, none, none, none, none, none, none, none, none, none, none, none, none, none, none, none, none, none, none, none]
end Go.Mini

namespace Go.Mini
namespace Fn
end Fn
def tblF0 : List (Option MFun) := [none, none, none, none, none, none, none, none, none, none, none, none, none, none, none, none, none, none, none, none, none, none, none, none, none, none, none, none, none, none, none, none, none, none, none, none, none, none, none, none, none, none, none, none, none, none, none, none, none, none, none, none, none, none, none, none, none, none, none, none, none, none, none, none, none, none, none, none, none, none, none, none, none, none, none, none, none, none, none, none, none, none, none, none, none, none, none, none, none, none, none, none, none, none, none, none, none, none, none, none, none, none, none, none, none, none, none, none, none, none, none, none, none, none, none, none]
end Go.Mini

namespace Go.Mini
def mergeT : List (Option MFun) → List (Option MFun) → List (Option MFun)
  | [], c => c
  | a, [] => a
  | some x :: a, _ :: c => some x :: mergeT a c
  | none :: a, b :: c => b :: mergeT a c
theorem mergeT_ext : ∀ (a c : List (Option MFun)) (i : Nat) (fn : MFun), a.getD i none = some fn → (mergeT a c).getD i none = some fn
  | [], c, i, fn, h => by simp at h
  | x :: a, [], i, fn, h => by cases x <;> exact h
  | some x :: a, y :: c, 0, fn, h => h
  | none :: a, y :: c, 0, fn, h => by simp at h
  | some x :: a, y :: c, i + 1, fn, h => mergeT_ext a c i fn h
  | none :: a, y :: c, i + 1, fn, h => mergeT_ext a c i fn h
def tblEL : List (Option MFun) := mergeT (mergeT (mergeT tblBL (List.replicate 200 none ++ tblDL0)) (List.replicate 200 none ++ tblEL0)) (List.replicate 200 none ++ tblF0)
def tblE (f : Nat) : Option MFun := tblEL.getD f none
theorem tbl_E (i : Nat) (fn : MFun) (h : tblB i = some fn) : tblE i = some fn := mergeT_ext _ _ _ _ (mergeT_ext _ _ _ _ (mergeT_ext _ _ _ _ h))
theorem upE {cx : Cx} {fn : MFun} {e : St} {R : AV → HP → Prop} (h : Ok tblB cx fn e R) : Ok tblE cx fn e R := by
  obtain ⟨n, s', v, hr, hv, hR⟩ := h
  exact ⟨n, s', v, run_ext tbl_E hr, hv, hR⟩
end Go.Mini

namespace Go.Mini
set_option linter.unusedSimpArgs false
set_option linter.unusedVariables false
set_option maxHeartbeats 4000000
set_option maxRecDepth 100000
def HP.ob (h : HP) (n : Nat) (t : Ty) (v : AV) : HP := h.set (.obj n) ⟨t, v⟩
def HP.nw (h : HP) (t : Ty) (v : AV) : HP := { h.ob h.next t v with next := h.next + 1 }
section
variable {h : HP} {n m l : Nat} {t u : Ty} {v w : AV} {o : Own}
theorem cs_ob (a b : Img) : h.cs n a b = h.ob n tCache (encC a b) := rfl
@[go_sem] theorem look_ob : (h.ob n t v).look (.obj n) = some ⟨t, v⟩ := by simp [HP.ob, HP.set, HP.look]
theorem look_ob_ne (e : ¬m = n) : (h.ob n t v).look (.obj m) = h.look (.obj m) := by simp [HP.ob, HP.set, HP.look, e]
theorem obj_ob_ne (e : ¬m = n) : (h.ob n t v).obj m = h.obj m := by simp [HP.ob, HP.set, e]
@[go_sem] theorem look_ob_arg : (h.ob n t v).look (.arg m) = h.look (.arg m) := rfl
@[go_sem] theorem ob_ob : (h.ob n t v).ob n u w = h.ob n u w := by
  simp only [HP.ob, HP.set]; congr 1; funext k; by_cases e : k = n <;> simp [e]
@[go_sem] theorem push_ob : (h.push l o).ob n t v = (h.ob n t v).push l o := rfl
@[go_sem] theorem push_nw : (h.push l o).nw t v = (h.nw t v).push l o := rfl
@[go_sem] theorem next_ob : (h.ob n t v).next = h.next := rfl
@[go_sem] theorem next_nw : (h.nw t v).next = h.next + 1 := rfl
@[go_sem] theorem next_push : (h.push l o).next = h.next := rfl
@[go_sem] theorem look_nw : (h.nw t v).look (.obj h.next) = some ⟨t, v⟩ := by simp [HP.nw, HP.ob, HP.set, HP.look]
theorem look_nw_ne (e : ¬m = h.next) : (h.nw t v).look (.obj m) = h.look (.obj m) := by simp [HP.nw, HP.ob, HP.set, HP.look, e]
@[go_sem] theorem push_looko : (h.push l o).look (.obj n) = h.look (.obj n) := rfl
@[go_sem] theorem push_look_arg : (h.push l o).look (.arg n) = h.look (.arg n) := rfl
@[go_sem] theorem nw_ob : (h.nw t v).ob h.next u w = h.nw u w := by
  simp only [HP.nw, HP.ob, HP.set]; congr 1; funext k; by_cases e : k = h.next <;> simp [e]
end
section
variable {T : Nat → Option MFun} {cx : Cx} {k : List Item} {kill : List Nat} {r : List MOp} {sl : Slots} {own : Own} {h : HP} {Q : St → Prop}
@[go_sem] theorem fg_ob (n l t : Nat) (p : List Nat) (u : Ty) : fg (.ptr (.obj n) p u) (.stk l t) = .ptr (.obj n) p u := fg_ptr (below_obj n l) p u
@[go_sem] theorem leads_ob (n l t : Nat) (p : List Nat) (u : Ty) : (AV.ptr (.obj n) p u).leads (.stk l t) = false := leads_ptr (below_obj n l) p u
@[go_sem] theorem fg_obs (n l t : Nat) (a b : Nat) : fg (.sl (.obj n) a b) (.stk l t) = .sl (.obj n) a b := fg_sl (below_obj n l) a b
@[go_sem] theorem fg_args (n l t : Nat) (a b : Nat) : fg (.sl (.arg n) a b) (.stk l t) = .sl (.arg n) a b := fg_sl (below_arg n l) a b
@[go_sem] theorem fg_slz (i : Id) : fg .slz i = .slz := rfl
@[go_sem] theorem leads_slz (i : Id) : AV.slz.leads i = false := rfl
@[go_sem] theorem leads_nilsl (i : Id) : AV.nilsl.leads i = false := rfl
@[go_sem] theorem leads_obs (n l t : Nat) (a b : Nat) : (AV.sl (.obj n) a b).leads (.stk l t) = false := by simp [AV.leads, AV.isAgg, AV.names]
@[go_sem] theorem leads_args (n l t : Nat) (a b : Nat) : (AV.sl (.arg n) a b).leads (.stk l t) = false := by simp [AV.leads, AV.isAgg, AV.names]
@[go_sem] theorem rd_look (n : Nat) (p : List Nat) : St.rd cx ⟨sl, own, h⟩ (.obj n) p = (h.look (.obj n)).bind fun b => b.val.at p := rfl
@[go_sem] theorem rd_look_arg (n : Nat) (p : List Nat) : St.rd cx ⟨sl, own, h⟩ (.arg n) p = (h.look (.arg n)).bind fun b => b.val.at p := rfl
@[go_sem] theorem look_obj (n : Nat) : St.look cx ⟨sl, own, h⟩ (.obj n) = h.look (.obj n) := rfl
@[go_sem] theorem look_arg (n : Nat) : St.look cx ⟨sl, own, h⟩ (.arg n) = h.look (.arg n) := rfl
@[go_sem] theorem apart_ob (n m : Nat) (p : List Nat) (u : Ty) : AV.apart (.obj n) (.ptr (.obj m) p u) = !decide (m = n) := by
  simp only [AV.apart]; congr 1; rw [Bool.eq_iff_iff]; simp
@[go_sem] theorem apart_obstk (n l t : Nat) (p : List Nat) (u : Ty) : AV.apart (.obj n) (.ptr (.stk l t) p u) = true := by simp [AV.apart]
@[go_sem] theorem apart_stkob (n l t : Nat) (p : List Nat) (u : Ty) : AV.apart (.stk l t) (.ptr (.obj n) p u) = true := apart_ptr (below_obj n l) p u
theorem stV_ob {n : Nat} {t : Ty} {p : List Nat} {v : AV} (hl : cx.prot.lets (.obj n) = true) : stV cx t (.ptr (.obj n) p t) v ⟨sl, own, h⟩ =
    if t.fits v = true then (h.look (.obj n)).bind fun b => (b.val.put p v).map fun u => ⟨sl, own, h.ob n b.ty u⟩ else none := by
  simp only [stV, true_and, St.look, Id.own]
  split
  · cases h.look (.obj n) with
    | none => rfl
    | some b =>
      simp only [Option.bind]
      cases b.val.put p v with
      | none => rfl
      | some u => simp only [St.write, Id.own, hl, if_true, Option.map]; rfl
  · rfl
theorem W_forE {α : Type} {keep ko : List Nat} {b : MC} {s : St} (N : Nat) (S : Nat → α → St) (P : Nat → α → Prop) (a0 : α) (h0 : s.keep keep ko = S 0 a0) (p0 : P 0 a0)
    (step : ∀ j a, j ≤ N → P j a → (∀ s' a', j < N → s'.keep keep ko = S (j + 1) a' → P (j + 1) a' → W T cx (.inLoop keep ko b :: k) s' Q) → W T cx (.code b :: .inLoop keep ko b :: k) (S j a) Q) :
    W T cx (.code (.loop keep ko b) :: k) s Q :=
  W_loop N (fun j s => ∃ a, s = S j a ∧ P j a) ⟨a0, h0, p0⟩ fun j s hj hs ih => by
    obtain ⟨a, rfl, hp⟩ := hs
    exact step j a hj hp fun s' a' hlt he hp' => ih s' hlt ⟨a', he, hp'⟩
@[go_sem] theorem pickV_sel (c : Bool) (x y : AV) : pickV (.bool c) x y = some (if c = true then x else y) := by cases c <;> rfl
end
structure SStep where
  kind : Int
  dir : Int
  toDir : Int
  p : Int
  name : Str
  to : Str
  text : Str
def SStep.enc (x : SStep) : AV := .cons (.int .i64 x.kind) (.cons (.int .i64 x.dir) (.cons (.int .i64 x.toDir) (.cons (.int .i64 x.p) (.cons (.str x.name) (.cons (.str x.to) (.cons (.str x.text) .unit))))))
@[go_sem] theorem at_step0 (x : SStep) : x.enc.at [0] = some (.int .i64 x.kind) := rfl
@[go_sem] theorem at_step1 (x : SStep) : x.enc.at [1] = some (.int .i64 x.dir) := rfl
@[go_sem] theorem at_step2 (x : SStep) : x.enc.at [2] = some (.int .i64 x.toDir) := rfl
@[go_sem] theorem at_step3 (x : SStep) : x.enc.at [3] = some (.int .i64 x.p) := rfl
@[go_sem] theorem at_step4 (x : SStep) : x.enc.at [4] = some (.str x.name) := rfl
@[go_sem] theorem at_step5 (x : SStep) : x.enc.at [5] = some (.str x.to) := rfl
@[go_sem] theorem at_step6 (x : SStep) : x.enc.at [6] = some (.str x.text) := rfl
@[go_sem] theorem field_step0 : tStep.field 0 = some tI := rfl
@[go_sem] theorem field_step1 : tStep.field 1 = some tI := rfl
@[go_sem] theorem field_step2 : tStep.field 2 = some tI := rfl
@[go_sem] theorem field_step3 : tStep.field 3 = some tI := rfl
@[go_sem] theorem field_step4 : tStep.field 4 = some tS := rfl
@[go_sem] theorem field_step5 : tStep.field 5 = some tS := rfl
@[go_sem] theorem field_step6 : tStep.field 6 = some tS := rfl
@[go_sem] theorem fits_step (x : SStep) : (tStep.fits x.enc = true) = True := eq_true rfl
@[go_sem] theorem fg_step (x : SStep) (i : Id) : fg x.enc i = x.enc := rfl
@[go_sem] theorem leads_step (x : SStep) (i : Id) : x.enc.leads i = false := rfl
@[go_sem] theorem isAgg_step (x : SStep) : x.enc.isAgg = true := rfl
@[go_sem] theorem safe_step (x : SStep) : x.enc.safe = true := rfl
end Go.Mini

namespace Go.Mini
set_option linter.unusedSimpArgs false
set_option linter.unusedVariables false
set_option maxHeartbeats 4000000
set_option maxRecDepth 100000
def freeIno (a b : Img) : Int := findN 8 fun k => !(a.ino k).live && decide (refs b k = 0)
def freeDat (a b : Img) : Int := findN 9 fun x => !held a x && !held b x
def room (a b : Img) (d : Int) (s : Str) : Int := if 0 ≤ slotOf b d s then -1 else freeSlot a b d
def addName (a : Img) (d s : Nat) (name : Str) (n : Nat) : Img :=
  (a.setEnt d s ⟨name, n, (a.ino n).stamp⟩).setIno n { a.ino n with links := IntKind.i64.wrap ((a.ino n).links + 1) }
def newIno (st : Int) : Ino := ⟨true, st, 0, Ino.none.part⟩
structure Fl where
  now : Img
  disk : Img
  stamp : Int
def WF (a : Img) : Prop := (∀ d s, 0 ≤ (a.ent d s).ino ∧ (a.ent d s).ino < 8) ∧ ∀ n p, -1 ≤ (a.ino n).prt p ∧ (a.ino n).prt p < 9
def encF (c : Nat) (st : Int) : AV := .cons (.ptr (.obj c) [] tCache) (.cons (.int .i64 st) .unit)
@[go_sem] theorem at_F0 (c : Nat) (st : Int) : (encF c st).at [0] = some (.ptr (.obj c) [] tCache) := rfl
@[go_sem] theorem at_F1 (c : Nat) (st : Int) : (encF c st).at [1] = some (.int .i64 st) := rfl
@[go_sem] theorem put_F1 (c : Nat) (st n : Int) : (encF c st).put [1] (.int .i64 n) = some (encF c n) := rfl
@[go_sem] theorem field_F0 : tFiles.field 0 = some tP := rfl
@[go_sem] theorem field_F1 : tFiles.field 1 = some tI := rfl
@[go_sem] theorem fits_F (c : Nat) (st : Int) : (tFiles.fits (encF c st) = true) = True := eq_true rfl
@[go_sem] theorem fitO_ptr (n : Nat) (p : List Nat) (t : Ty) : fitO tP (some (.ptr (.obj n) p t)) = some (.ptr (.obj n) p t) := rfl
@[go_sem] theorem fill_F (c : Nat) : fill tFiles tFiles.zero [(0, .ptr (.obj c) [] tCache)] = some (encF c 0) := rfl
@[go_sem] theorem fits_boxF (c : Nat) (st : Int) (i : Id) : fg (encF c st) i = encF c st := rfl
@[go_sem] theorem fits_tP (n : Nat) (p : List Nat) (t : Ty) : (tP.fits (.ptr (.obj n) p t) = true) = True := eq_true rfl
@[go_sem] theorem put_C0 (a b : Img) (p : List Nat) (x : AV) : (encC a b).put (0 :: p) x = (a.enc.put p x).map fun y => .cons y (.cons b.enc .unit) := rfl
@[go_sem] theorem put_C1 (a b : Img) (p : List Nat) (x : AV) : (encC a b).put (1 :: p) x = (b.enc.put p x).map fun y => .cons a.enc (.cons y .unit) := by
  show ((b.enc.put p x).map fun y => AV.cons y .unit).map (fun y => AV.cons a.enc y) = _
  cases b.enc.put p x <;> rfl
@[go_sem] theorem Cmk (a b : Img) : AV.cons a.enc (.cons b.enc .unit) = encC a b := rfl
@[go_sem] theorem results_nil {cx : Cx} {s : St} : results cx s [] = some (.tup .unit) := rfl
theorem ob_self {h : HP} {n : Nat} {t : Ty} {v : AV} (e : h.look (.obj n) = some ⟨t, v⟩) : h.ob n t v = h := by
  cases h
  simp only [HP.look] at e
  simp only [HP.ob, HP.set, HP.mk.injEq, and_true, true_and]
  funext k
  by_cases hk : k = n <;> simp [hk, e]
section
variable {cx : Cx} {h : HP} {c : Nat} {a b : Img}
theorem eDisk (hC : h.look (.obj c) = some ⟨tCache, encC a b⟩) : Ok tblE cx Fn.cache_Cache_Disk (St.enter [.ptr (.obj c) [] tCache] h) fun v h' => v = b.enc ∧ h' = h := upE (CDisk_ok (rd_of hC).1 (rd_of hC).2)
theorem eInode (hC : h.look (.obj c) = some ⟨tCache, encC a b⟩) : Ok tblE cx Fn.cache_Cache_Inode (St.enter [.ptr (.obj c) [] tCache] h) fun v h' => v = .int .i64 (freeIno a b) ∧ h' = h := upE (CInode_ok (rd_of hC).1 (rd_of hC).2)
theorem eData (hC : h.look (.obj c) = some ⟨tCache, encC a b⟩) : Ok tblE cx Fn.cache_Cache_Data (St.enter [.ptr (.obj c) [] tCache] h) fun v h' => v = .int .i64 (freeDat a b) ∧ h' = h := upE (CData_ok (rd_of hC).1 (rd_of hC).2)
theorem eSlot {d : Int} (hC : h.look (.obj c) = some ⟨tCache, encC a b⟩) : Ok tblE cx Fn.cache_Cache_Slot (St.enter [.ptr (.obj c) [] tCache, .int .i64 d] h) fun v h' => v = .int .i64 (freeSlot a b d) ∧ h' = h := upE (CSlot_ok (rd_of hC).1 (rd_of hC).2)
end
end Go.Mini

namespace Go.Mini
set_option linter.unusedSimpArgs false
set_option linter.unusedVariables false
set_option maxHeartbeats 4000000
set_option maxRecDepth 100000
theorem prt_none (p : Nat) : -1 ≤ Ino.none.prt p ∧ Ino.none.prt p < 9 := by
  by_cases hp : p < 2
  · simp [Ino.prt, Ino.none, hp]
  · simp [Ino.prt, hp]
theorem prt_with (i : Ino) (l : Int) (p : Nat) : Ino.prt ⟨i.live, i.stamp, l, i.part⟩ p = i.prt p := rfl
theorem prt_new (st : Int) (p : Nat) : (newIno st).prt p = Ino.none.prt p := rfl
end Go.Mini

namespace Go.Mini
set_option linter.unusedSimpArgs false
set_option linter.unusedVariables false
set_option maxHeartbeats 4000000
set_option maxRecDepth 100000
section
variable {cx : Cx} {h : HP} {f c : Nat} {a b : Img} {st : Int}
def encR (t : Str) (b : Bool) (c : Int) : AV := .tup (.cons (.str t) (.cons (.bool b) (.cons (.int .i64 c) .unit)))
@[go_sem] theorem fill_step1 (k d p : Int) (s : Str) : fill tStep tStep.zero [(0, .int .i64 k), (1, .int .i64 d), (4, .str s), (3, .int .i64 p)] = some (SStep.enc ⟨k, d, 0, p, s, ⟨#[]⟩, ⟨#[]⟩⟩) := rfl
@[go_sem] theorem encR_mk (t : Str) (b : Bool) (c : Int) : some (AV.tup (.cons (.str t) (.cons (.bool b) (.cons (.int .i64 c) .unit)))) = some (encR t b c) := rfl
end
end Go.Mini

namespace Go.Mini
set_option linter.unusedSimpArgs false
set_option linter.unusedVariables false
set_option maxHeartbeats 4000000
set_option maxRecDepth 100000
structure Bd where
  now : Img
  disk : Img
  stamp : Int
  crashes : Int
  files : Int
  counts : Int
  datas : Int
def tailB (s c f n d : Int) : AV := .cons (.int .i64 s) (.cons (.int .i64 c) (.cons (.int .i64 f) (.cons (.int .i64 n) (.cons (.int .i64 d) .unit))))
def Bd.enc (B : Bd) : AV := .cons B.now.enc (.cons B.disk.enc (tailB B.stamp B.crashes B.files B.counts B.datas))
@[go_sem] theorem at_B0 (B : Bd) (p : List Nat) : B.enc.at (0 :: p) = B.now.enc.at p := rfl
@[go_sem] theorem at_B1 (B : Bd) (p : List Nat) : B.enc.at (1 :: p) = B.disk.enc.at p := rfl
@[go_sem] theorem at_B2 (B : Bd) : B.enc.at [2] = some (.int .i64 B.stamp) := rfl
@[go_sem] theorem at_B3 (B : Bd) : B.enc.at [3] = some (.int .i64 B.crashes) := rfl
@[go_sem] theorem at_B4 (B : Bd) : B.enc.at [4] = some (.int .i64 B.files) := rfl
@[go_sem] theorem at_B5 (B : Bd) : B.enc.at [5] = some (.int .i64 B.counts) := rfl
@[go_sem] theorem at_B6 (B : Bd) : B.enc.at [6] = some (.int .i64 B.datas) := rfl
@[go_sem] theorem put_B0 (B : Bd) (p : List Nat) (x : AV) : B.enc.put (0 :: p) x = (B.now.enc.put p x).map fun y => .cons y (.cons B.disk.enc (tailB B.stamp B.crashes B.files B.counts B.datas)) := rfl
@[go_sem] theorem put_B1 (B : Bd) (p : List Nat) (x : AV) : B.enc.put (1 :: p) x = (B.disk.enc.put p x).map fun y => .cons B.now.enc (.cons y (tailB B.stamp B.crashes B.files B.counts B.datas)) := by
  show ((B.disk.enc.put p x).map fun y => AV.cons y (tailB B.stamp B.crashes B.files B.counts B.datas)).map (fun y => AV.cons B.now.enc y) = _
  cases B.disk.enc.put p x <;> rfl
@[go_sem] theorem put_B2 (B : Bd) (x : Int) : B.enc.put [2] (.int .i64 x) = some (Bd.enc { B with stamp := x }) := rfl
@[go_sem] theorem put_B3 (B : Bd) (x : Int) : B.enc.put [3] (.int .i64 x) = some (Bd.enc { B with crashes := x }) := rfl
@[go_sem] theorem put_B4 (B : Bd) (x : Int) : B.enc.put [4] (.int .i64 x) = some (Bd.enc { B with files := x }) := rfl
@[go_sem] theorem put_B5 (B : Bd) (x : Int) : B.enc.put [5] (.int .i64 x) = some (Bd.enc { B with counts := x }) := rfl
@[go_sem] theorem put_B6 (B : Bd) (x : Int) : B.enc.put [6] (.int .i64 x) = some (Bd.enc { B with datas := x }) := rfl
@[go_sem] theorem Bmk (a b : Img) (s c f n d : Int) : AV.cons a.enc (.cons b.enc (tailB s c f n d)) = Bd.enc ⟨a, b, s, c, f, n, d⟩ := rfl
@[go_sem] theorem field_B0 : tBed.field 0 = some tImage := rfl
@[go_sem] theorem field_B1 : tBed.field 1 = some tImage := rfl
@[go_sem] theorem field_B2 : tBed.field 2 = some tI := rfl
@[go_sem] theorem field_B3 : tBed.field 3 = some tI := rfl
@[go_sem] theorem field_B4 : tBed.field 4 = some tI := rfl
@[go_sem] theorem field_B5 : tBed.field 5 = some tI := rfl
@[go_sem] theorem field_B6 : tBed.field 6 = some tI := rfl
theorem fits_B' (B : Bd) : tBed.fits B.enc = true := by
  show (Ty.cons tImage (.cons tImage _)).fits (AV.cons _ (.cons _ _)) = true
  simp only [fits_cons, fits_img', true_and]
  rfl
@[go_sem] theorem fits_B (B : Bd) : (tBed.fits B.enc = true) = True := eq_true (fits_B' B)
@[go_sem] theorem fg_B (B : Bd) (i : Id) : fg B.enc i = B.enc := rfl
@[go_sem] theorem leads_B (B : Bd) (i : Id) : B.enc.leads i = false := rfl
theorem zero_bed : tBed.zero = Bd.enc ⟨.zero, .zero, 0, 0, 0, 0, 0⟩ := by
  show AV.cons tImage.zero (.cons tImage.zero _) = _
  rw [zero_img]; rfl
@[go_sem] theorem fill_B (a b : Img) : fill tBed tBed.zero [(0, a.enc), (1, b.enc)] = some (Bd.enc ⟨a, b, 0, 0, 0, 0, 0⟩) := by
  rw [zero_bed]
  simp only [fill]
  show (if tImage.fits a.enc = true then _ else _) = _
  rw [if_pos (fits_img' a), put_B0, put_nil, Option.map_some, Bmk]
  show (if tImage.fits b.enc = true then _ else _) = _
  rw [if_pos (fits_img' b), put_B1, put_nil, Option.map_some, Bmk]
theorem rdB0 {h : HP} {n : Nat} {B : Bd} (e : h.look (.obj n) = some ⟨tBed, B.enc⟩) : h.rd (.obj n) [0] = some B.now.enc := by simp only [HP.rd, e, Option.bind_some, at_B0, at_nil]
theorem rdB1 {h : HP} {n : Nat} {B : Bd} (e : h.look (.obj n) = some ⟨tBed, B.enc⟩) : h.rd (.obj n) [1] = some B.disk.enc := by simp only [HP.rd, e, Option.bind_some, at_B1, at_nil]
def Bd.fl (B : Bd) : Fl := ⟨B.now, B.disk, B.stamp⟩
section
variable {T : Nat → Option MFun} {cx : Cx} {k : List Item} {kill : List Nat} {r : List MOp} {sl : Slots} {own : Own} {h : HP} {Q : St → Prop}
def WBX (T : Nat → Option MFun) (cx : Cx) (t : Ty) (v : AV) (d : Nat) (r : List MOp) (kill : List Nat) (k : List Item) (sl : Slots) (own : Own) (h : HP) (Q : St → Prop) : Prop :=
  t.fits v = true ∧ W T cx (.ops r kill :: k) ⟨sl.set d (.ptr (.obj h.next) [] t), own, h.nw t v⟩ Q
@[go_sem] theorem WBX_bed {B : Bd} {d : Nat} : WBX T cx tBed B.enc d r kill k sl own h Q = W T cx (.ops r kill :: k) ⟨sl.set d (.ptr (.obj h.next) [] tBed), own, h.nw tBed B.enc⟩ Q := by
  simp only [WBX, fits_B, true_and]
@[go_sem] theorem WBX_files {c : Nat} {n : Int} {d : Nat} : WBX T cx tFiles (encF c n) d r kill k sl own h Q = W T cx (.ops r kill :: k) ⟨sl.set d (.ptr (.obj h.next) [] tFiles), own, h.nw tFiles (encF c n)⟩ Q := by
  simp only [WBX, fits_F, true_and]
theorem W_boxX {d : Nat} {t : Ty} {x : Opd} : W T cx (.ops (⟨some d, .box true t x, none⟩ :: r) kill :: k) ⟨sl, own, h⟩ Q = WBX T cx t (St.opd ⟨sl, own, h⟩ x) d r kill k sl own h Q := by
  rw [W_op rfl, evOp]
  simp only [evK, WBX]
  by_cases h1 : t.fits (St.opd ⟨sl, own, h⟩ x) = true
  · simp only [h1, true_and, if_true]; rfl
  · simp only [h1, false_and, Bool.false_eq_true, if_false]; rfl
@[go_sem] theorem W_boxBed {d : Nat} {x : Opd} : W T cx (.ops (⟨some d, .box true tBed x, none⟩ :: r) kill :: k) ⟨sl, own, h⟩ Q = WBX T cx tBed (St.opd ⟨sl, own, h⟩ x) d r kill k sl own h Q := W_boxX
@[go_sem] theorem W_boxFiles {d : Nat} {x : Opd} : W T cx (.ops (⟨some d, .box true tFiles x, none⟩ :: r) kill :: k) ⟨sl, own, h⟩ Q = WBX T cx tFiles (St.opd ⟨sl, own, h⟩ x) d r kill k sl own h Q := W_boxX
@[go_sem] theorem mk1_nw (a b : Img) : h.mk1 a b = h.nw tCache (encC a b) := rfl
end
section
variable {cx : Cx} {h : HP} {n : Nat} {B : Bd}
theorem rFreeInode_ok (hB : h.look (.obj n) = some ⟨tBed, B.enc⟩) : Ok tblE cx Fn.eiderdownref_Bed_FreeInode (St.enter [.ptr (.obj n) [] tBed] h) fun v h' => v = .int .i64 (freeIno B.now B.disk) ∧ h' = h := by
  rw [Ok_eq]
  simp (config := { maxSteps := 1000000 }) (disch := omega) only [go_sem]
  refine W_forP 8 (fun k => ⟨[(0, .ptr (.obj n) [] tBed), (3, .int .i64 k)], [], h⟩) (fun k => ∀ i, i < k → (!(B.now.ino i).live && decide (refs B.disk i = 0)) = false) (by simp only [go_sem] <;> rfl) (fun i hi => by omega) fun k hk hp ih => ?_
  by_cases hlt : k < 8
  · simp (config := { maxSteps := 1000000 }) (disch := omega) only [go_sem, hlt, hB]
    cases c1 : (B.now.ino k).live with
    | true =>
      simp (config := { maxSteps := 1000000 }) (disch := omega) only [go_sem, c1]
      refine ih _ hlt (step_all hp (by simp [c1])) ?_
      simp only [go_sem]
    | false =>
      simp (config := { maxSteps := 1000000 }) (disch := omega) only [go_sem, c1, hB]
      refine W_callp rfl ⟨rfl, rfl⟩ (by simp only [go_sem]; exact upE (up (Leads_ok (m := B.disk) (p := .obj n) (q := [1]) (below_obj _ _) (by rw [HP.push_rd_ext (below_obj _ _)]; exact rdB1 hB)))) ?_
      simp (config := { maxSteps := 1000000 }) (disch := omega) only [go_sem]
      by_cases c2 : refs B.disk k = 0
      · simp (config := { maxSteps := 1000000 }) (disch := omega) only [go_sem, c2]
        rw [freeIno, findN_at hp (by simp [c1, c2]) hlt]
      · simp (config := { maxSteps := 1000000 }) (disch := omega) only [go_sem, c2]
        refine ih _ hlt (step_all hp (by simp [c1, c2])) ?_
        simp only [go_sem]
  · obtain rfl : k = 8 := by omega
    simp (config := { maxSteps := 1000000 }) (disch := omega) only [go_sem]
    rw [freeIno, findN_none hp]
theorem rFreeSlot_ok {d : Int} (hB : h.look (.obj n) = some ⟨tBed, B.enc⟩) : Ok tblE cx Fn.eiderdownref_Bed_FreeSlot (St.enter [.ptr (.obj n) [] tBed, .int .i64 d] h) fun v h' => v = .int .i64 (freeSlot B.now B.disk d) ∧ h' = h := by
  rw [Ok_eq]
  simp (config := { maxSteps := 1000000 }) (disch := omega) only [go_sem]
  by_cases c0 : d < 0
  · simp (config := { maxSteps := 1000000 }) (disch := omega) only [go_sem, c0]; simp [freeSlot, c0]
  by_cases c3 : 3 ≤ d
  · simp (config := { maxSteps := 1000000 }) (disch := omega) only [go_sem, c0, c3]; simp [freeSlot, c3]
  have e : freeSlot B.now B.disk d = findN 4 fun s => decide ((B.now.ent d.toNat s).name = ⟨#[]⟩) && decide ((B.disk.ent d.toNat s).name = ⟨#[]⟩) := by simp only [freeSlot]; rw [if_neg (by omega)]
  simp (config := { maxSteps := 1000000 }) (disch := omega) only [go_sem, c0, c3]
  refine W_forP 4 (fun s => ⟨[(0, .ptr (.obj n) [] tBed), (1, .int .i64 d), (5, .int .i64 s)], [], h⟩) (fun s => ∀ i, i < s → (decide ((B.now.ent d.toNat i).name = ⟨#[]⟩) && decide ((B.disk.ent d.toNat i).name = ⟨#[]⟩)) = false) (by simp only [go_sem] <;> rfl) (fun i hi => by omega) fun s hs hp ih => ?_
  by_cases hlt : s < 4
  · simp (config := { maxSteps := 1000000 }) (disch := omega) only [go_sem, hlt, c0, c3, hB]
    by_cases c1 : (B.now.ent d.toNat s).name = ⟨#[]⟩
    · by_cases c2 : (B.disk.ent d.toNat s).name = ⟨#[]⟩
      · simp (config := { maxSteps := 1000000 }) (disch := omega) only [go_sem, hlt, c0, c3, c1, c2, hB, e]
        rw [findN_at hp (by simp [c1, c2]) hlt]
      · simp (config := { maxSteps := 1000000 }) (disch := omega) only [go_sem, hlt, c0, c3, c1, c2, hB]
        refine ih _ hlt (step_all hp (by simp [c2])) ?_
        simp only [go_sem]
    · simp (config := { maxSteps := 1000000 }) (disch := omega) only [go_sem, c1]
      refine ih _ hlt (step_all hp (by simp [c1])) ?_
      simp only [go_sem]
  · obtain rfl : s = 4 := by omega
    simp (config := { maxSteps := 1000000 }) (disch := omega) only [go_sem, e]
    rw [findN_none hp]
theorem rFreeData_ok (hB : h.look (.obj n) = some ⟨tBed, B.enc⟩) : Ok tblE cx Fn.eiderdownref_Bed_FreeData (St.enter [.ptr (.obj n) [] tBed] h) fun v h' => v = .int .i64 (freeDat B.now B.disk) ∧ h' = h := by
  rw [Ok_eq]
  simp (config := { maxSteps := 1000000 }) (disch := omega) only [go_sem]
  refine W_forP 9 (fun k => ⟨[(0, .ptr (.obj n) [] tBed), (3, .int .i64 k)], [], h⟩) (fun k => ∀ i, i < k → (!held B.now i && !held B.disk i) = false) (by simp only [go_sem] <;> rfl) (fun i hi => by omega) fun k hk hp ih => ?_
  by_cases hlt : k < 9
  · simp (config := { maxSteps := 1000000 }) (disch := omega) only [go_sem, hlt]
    refine W_callp rfl ⟨rfl, rfl⟩ (by simp only [go_sem]; exact upE (up (Held_ok (m := B.now) (p := .obj n) (q := [0]) (below_obj _ _) (by rw [HP.push_rd_ext (below_obj _ _)]; exact rdB0 hB)))) ?_
    simp (config := { maxSteps := 1000000 }) (disch := omega) only [go_sem]
    cases c1 : held B.now k with
    | true =>
      simp (config := { maxSteps := 1000000 }) (disch := omega) only [go_sem, c1]
      refine ih _ hlt (step_all hp (by simp [c1])) ?_
      simp only [go_sem]
    | false =>
      simp (config := { maxSteps := 1000000 }) (disch := omega) only [go_sem, c1]
      refine W_callp rfl ⟨rfl, rfl⟩ (by simp only [go_sem]; exact upE (up (Held_ok (m := B.disk) (p := .obj n) (q := [1]) (below_obj _ _) (by rw [HP.push_rd_ext (below_obj _ _)]; exact rdB1 hB)))) ?_
      simp (config := { maxSteps := 1000000 }) (disch := omega) only [go_sem]
      cases c2 : held B.disk k with
      | false =>
        simp (config := { maxSteps := 1000000 }) (disch := omega) only [go_sem, c2]
        rw [freeDat, findN_at hp (by simp [c1, c2]) hlt]
      | true =>
        simp (config := { maxSteps := 1000000 }) (disch := omega) only [go_sem, c2]
        refine ih _ hlt (step_all hp (by simp [c1, c2])) ?_
        simp only [go_sem]
  · obtain rfl : k = 9 := by omega
    simp (config := { maxSteps := 1000000 }) (disch := omega) only [go_sem]
    rw [freeDat, findN_none hp]
theorem rWrite_ok {x : Int} (hl : ∀ n, cx.prot.lets (.obj n) = true) (hB : h.look (.obj n) = some ⟨tBed, B.enc⟩) :
    Ok tblE cx Fn.eiderdownref_Bed_Write (St.enter [.ptr (.obj n) [] tBed, .int .i64 x] h) fun v h' => v = .bool (writeAs B.now B.disk x).2 ∧ h' = h.ob n tBed (Bd.enc { B with disk := (writeAs B.now B.disk x).1 }) := by
  rw [Ok_eq]
  simp (config := { maxSteps := 1000000 }) (disch := omega) only [go_sem]
  refine W_callhide rfl ⟨rfl, rfl⟩ (by simp only [go_sem]; exact upE (up (WriteAs_ok (m := B.now) (m' := B.disk) (p := .obj n) (p' := .obj n) (q := [0]) (q' := [1]) (below_obj _ _) (by rw [HP.push_rd_ext (below_obj _ _)]; exact rdB0 hB) (below_obj _ _) (by rw [HP.push_rd_ext (below_obj _ _)]; exact rdB1 hB)))) ?_
  simp (config := { maxSteps := 1000000 }) (disch := omega) only [go_sem, hB, stV_ob (hl _)]
theorem rSync_ok (hl : ∀ n, cx.prot.lets (.obj n) = true) : Ok tblE cx Fn.eiderdownref_Bed_Sync (St.enter [.ptr (.obj n) [] tBed] (h.ob n tBed B.enc)) fun v h' =>
    ∃ k : Nat, k ≤ 8 ∧ v = .int .i64 k ∧ h' = h.ob n tBed (Bd.enc { B with disk := syncD B.now B.disk k }) ∧ (k = 8 ∨ B.now = syncD B.now B.disk k) ∧ ∀ i, i < k → ¬B.now = syncD B.now B.disk i := by
  rw [Ok_eq]
  simp (config := { maxSteps := 1000000 }) (disch := omega) only [go_sem]
  refine W_forP 8 (fun j => ⟨[(0, .ptr (.obj n) [] tBed), (3, .int .i64 j)], [], h.ob n tBed (Bd.enc { B with disk := syncD B.now B.disk j })⟩) (fun j => ∀ i, i < j → ¬B.now = syncD B.now B.disk i) (by simp only [go_sem, syncD] <;> rfl) (fun i hi => by omega) fun j hj hp ih => ?_
  by_cases hlt : j < 8
  · simp (config := { maxSteps := 1000000 }) (disch := omega) only [go_sem]
    by_cases c : B.now = syncD B.now B.disk j
    · have c' : decide (B.now = syncD B.now B.disk j) = true := decide_eq_true c
      simp (config := { maxSteps := 1000000 }) (disch := omega) only [go_sem, c']
      exact ⟨j, hj, rfl, rfl, .inr c, hp⟩
    · simp (config := { maxSteps := 1000000 }) (disch := omega) only [go_sem, c]
      refine W_for 14 (fun i => ⟨[(0, .ptr (.obj n) [] tBed), (3, .int .i64 j), (4, .int .i64 (13 - (i : Int)))], [], h.ob n tBed (Bd.enc { B with disk := wrDown B.now (syncD B.now B.disk j) i })⟩) (by simp only [go_sem, wrDown] <;> rfl) fun i hi ih2 => ?_
      by_cases hlt2 : i < 14
      · have wr := fun (cy : Cx) (hy : ∀ n, cy.prot.lets (.obj n) = true) (o : Own) => rWrite_ok (cx := cy) (h := (h.ob n tBed (Bd.enc { B with disk := wrDown B.now (syncD B.now B.disk j) i })).push cx.lvl o) (n := n) (B := { B with disk := wrDown B.now (syncD B.now B.disk j) i }) (x := 13 - (i : Int)) hy (by simp only [go_sem, ])
        simp only [go_sem] at wr
        simp (config := { maxSteps := 1000000 }) (disch := omega) only [go_sem]
        refine W_callh (v := .bool (writeAs B.now (wrDown B.now (syncD B.now B.disk j) i) (13 - (i : Int))).2) (h.ob n tBed (Bd.enc { B with disk := wrDown B.now (syncD B.now B.disk j) (i + 1) })) rfl ⟨rfl, rfl⟩ rfl (by simp only [go_sem]; exact wr _ (by exact hl) _) ?_
        simp (config := { maxSteps := 1000000 }) (disch := omega) only [go_sem]
        refine ih2 _ hlt2 ?_
        have e2 : (13 : Int) - (i : Int) - 1 = 13 - ((i : Int) + 1) := by omega
        simp only [go_sem, e2]
      · obtain rfl : i = 14 := by omega
        simp (config := { maxSteps := 1000000 }) (disch := omega) only [go_sem]
        refine ih _ hlt (step_all hp c) ?_
        simp only [go_sem, syncD]
  · obtain rfl : j = 8 := by omega
    simp (config := { maxSteps := 1000000 }) (disch := omega) only [go_sem]
    exact ⟨8, Nat.le_refl _, rfl, rfl, .inl rfl, hp⟩
end
end Go.Mini

namespace Go.Mini
set_option linter.unusedSimpArgs false
set_option linter.unusedVariables false
set_option maxHeartbeats 4000000
set_option maxRecDepth 100000
theorem ent_addName (a : Img) (d s : Nat) (name : Str) (n : Nat) (d' s' : Nat) : (addName a d s name n).ent d' s' = if (d = d' ∧ s = s') ∧ d' < 3 ∧ s' < 4 then ⟨name, n, (a.ino n).stamp⟩ else a.ent d' s' := by
  rw [addName, ent_setIno, ent_setEnt]
end Go.Mini

namespace Go.Mini
set_option linter.unusedSimpArgs false
set_option linter.unusedVariables false
set_option maxHeartbeats 4000000
set_option maxRecDepth 100000
structure Fr (h h' : HP) (S : List Nat) : Prop where
  stk : h'.stk = h.stk
  arg : h'.arg = h.arg
  next : h.next ≤ h'.next
  same : ∀ n, n < h.next → n ∉ S → h'.obj n = h.obj n
theorem Fr.refl (h : HP) (S : List Nat) : Fr h h S := ⟨rfl, rfl, Nat.le_refl _, fun _ _ _ => rfl⟩
theorem Fr.trans {h h1 h2 : HP} {S : List Nat} (a : Fr h h1 S) (b : Fr h1 h2 S) : Fr h h2 S :=
  ⟨b.stk.trans a.stk, b.arg.trans a.arg, Nat.le_trans a.next b.next, fun n hn hs => (b.same n (by have := a.next; omega) hs).trans (a.same n hn hs)⟩
theorem Fr.ob {h : HP} {n : Nat} {t : Ty} {v : AV} {S : List Nat} (hn : n ∈ S) : Fr h (h.ob n t v) S :=
  ⟨rfl, rfl, Nat.le_refl _, fun k _ hs => obj_ob_ne fun e => hs (e ▸ hn)⟩
theorem Fr.nw {h : HP} {t : Ty} {v : AV} {S : List Nat} : Fr h (h.nw t v) S :=
  ⟨rfl, rfl, Nat.le_succ _, fun k hk _ => by simp [HP.nw, HP.ob, HP.set]; omega⟩
theorem Fr.mono {h h' : HP} {S S' : List Nat} (a : Fr h h' S) (hs : ∀ n ∈ S, n < h.next → n ∈ S') : Fr h h' S' :=
  ⟨a.stk, a.arg, a.next, fun n hn hn' => a.same n hn fun e => hn' (hs n e hn)⟩
theorem Fr.look {h h' : HP} {S : List Nat} (a : Fr h h' S) {n : Nat} {b : Option Blk} (hn : n < h.next) (hs : n ∉ S) (e : h.look (.obj n) = b) : h'.look (.obj n) = b := by
  rw [← e]; exact a.same n hn hs
theorem look_nn1 {h : HP} {t u : Ty} {v w : AV} : ((h.nw t v).nw u w).look (.obj (h.next + 1)) = some ⟨u, w⟩ := look_nw (h := h.nw t v)
theorem look_nn0 {h : HP} {t u : Ty} {v w : AV} : ((h.nw t v).nw u w).look (.obj h.next) = some ⟨t, v⟩ := by
  rw [look_nw_ne (by show ¬h.next = h.next + 1; omega), look_nw]
def maxSt (m : Img) : Nat → Int
  | 0 => 0
  | k + 1 => if maxSt m k < (m.ino k).stamp then (m.ino k).stamp else maxSt m k
@[go_sem] theorem maxV_int (k : IntKind) (a b : Int) : maxV (.int k a) (.int k b) = some (.int k (if a < b then b else a)) := by simp [maxV]
@[go_sem] theorem fits_tInodes (v : Vector Ino 8) : (tInodes.fits (encV Ino.enc v) = true) = True := fits_inodes v
end Go.Mini

namespace Go.Mini
set_option linter.unusedSimpArgs false
set_option linter.unusedVariables false
set_option maxHeartbeats 4000000
set_option maxRecDepth 100000
def syncK (a b : Img) : Nat := if findN 8 (fun k => decide (a = syncD a b k)) < 0 then 8 else (findN 8 (fun k => decide (a = syncD a b k))).toNat
def syncTo (a b : Img) : Img := syncD a b (syncK a b)
theorem syncK_eq {a b : Img} {k : Nat} (h8 : k ≤ 8) (h : k = 8 ∨ a = syncD a b k) (hn : ∀ i, i < k → ¬a = syncD a b i) : k = syncK a b := by
  unfold syncK
  rcases h with rfl | h
  · rw [findN_none fun i hi => by simp [hn i hi]]; rfl
  · by_cases e : k = 8
    · subst e; rw [findN_none fun i hi => by simp [hn i hi]]; rfl
    · rw [findN_at (j := k) (fun i hi => by simp [hn i hi]) (by simpa using h) (by omega), if_neg (by omega)]; simp
structure Lf where
  fl : Fl
  a : Int
  b : Int
  c : Int
  n : Int
def Lf.new : Lf := ⟨⟨.blank, .blank, 0⟩, 0, 0, 0, 0⟩
theorem small_setEnt {m : Img} (h : m.small) {d s : Nat} {y : Ent} (hy : y.name.size ≤ 100000) : (m.setEnt d s y).small := fun d' s' => by
  rw [ent_setEnt]; split
  · exact hy
  · exact h d' s'
theorem small_wrDir {a b : Img} (ha : a.small) (hb : b.small) (d : Nat) : ∀ k, (wrDir a b d k).small
  | 0 => hb
  | k + 1 => by
    have ih := small_wrDir ha hb d k
    refine small_setEnt ih ?_
    rcases entryAs_cases a (wrDir a b d k) d k with e | ⟨_, e, _⟩ | ⟨_, e, _⟩ <;> rw [e]
    · exact ih d k
    · exact ha d k
    · decide
theorem small_writeAs {a b : Img} (ha : a.small) (hb : b.small) (x : Int) : (writeAs a b x).1.small := by
  obtain ⟨n, hn, e⟩ | ⟨n, hn, e⟩ | ⟨n, hn, e⟩ | e := blockOf_cases x
  · rw [writeAs_i e]; intro d s; show ((wrInodes a b n 4).ent d s).name.size ≤ _; rw [wrInodes_ent]; exact hb d s
  · rw [writeAs_d e]; exact small_wrDir ha hb n 4
  · rw [writeAs_a e]; exact hb
  · rw [writeAs_n e]; exact hb
theorem WF_check {m : Img} (hc : check m = 0) : WF m := by
  refine ⟨fun d s => ?_, fun n p => ?_⟩
  · by_cases h : d < 3 ∧ s < 4
    · rcases entry_parts ((check_parts hc).1 d h.1 s h.2) with e | ⟨_, _, _, a4, a5, _⟩
      · rw [e]; exact ⟨by decide, by decide⟩
      · exact ⟨a4, a5⟩
    · have : m.ent d s = Ent.zero := by simp only [Img.ent]; rw [dif_neg h]
      rw [this]; exact ⟨by decide, by decide⟩
  · by_cases hn : n < 8
    · by_cases hp : p < 2
      · cases hl : (m.ino n).live with
        | true =>
          have := part_dat ((ino_parts hc hn hl).2.2 p hp)
          omega
        | false => rw [dead_none hc hn hl]; exact prt_none p
      · simp [Ino.prt, hp]
    · have : m.ino n = Ino.zero := by simp only [Img.ino]; rw [dif_neg hn]
      rw [this]
      by_cases hp : p < 2
      · simp [Ino.prt, Ino.zero, hp]
      · simp [Ino.prt, hp]
structure Inv0 (F : Fl) : Prop where
  wf : WF F.now
  sn : F.now.small
  sd : F.disk.small
def encLi (f : Nat) (a b c n : Int) : AV := .cons (.ptr (.obj f) [] tFiles) (.cons (encLost a b c) (.cons (.int .i64 n) .unit))
@[go_sem] theorem at_Li0 (f : Nat) (a b c n : Int) : (encLi f a b c n).at [0] = some (.ptr (.obj f) [] tFiles) := rfl
@[go_sem] theorem at_Li1 (f : Nat) (a b c n : Int) : (encLi f a b c n).at [1] = some (encLost a b c) := rfl
@[go_sem] theorem at_Li2 (f : Nat) (a b c n : Int) : (encLi f a b c n).at [2] = some (.int .i64 n) := rfl
@[go_sem] theorem put_Li0 (f g : Nat) (a b c n : Int) : (encLi f a b c n).put [0] (.ptr (.obj g) [] tFiles) = some (encLi g a b c n) := rfl
@[go_sem] theorem put_Li1 (f : Nat) (a b c n a' b' c' : Int) : (encLi f a b c n).put [1] (encLost a' b' c') = some (encLi f a' b' c' n) := rfl
@[go_sem] theorem put_Li2 (f : Nat) (a b c n n' : Int) : (encLi f a b c n).put [2] (.int .i64 n') = some (encLi f a b c n') := rfl
@[go_sem] theorem field_Li0 : tLife.field 0 = some tP := rfl
@[go_sem] theorem field_Li1 : tLife.field 1 = some tLost := rfl
@[go_sem] theorem field_Li2 : tLife.field 2 = some tI := rfl
@[go_sem] theorem fill_Li (f : Nat) : fill tLife tLife.zero [(0, .ptr (.obj f) [] tFiles)] = some (encLi f 0 0 0 0) := rfl
@[go_sem] theorem fits_Li (f : Nat) (a b c n : Int) : (tLife.fits (encLi f a b c n) = true) = True := eq_true rfl
section
variable {T : Nat → Option MFun} {cx : Cx} {k : List Item} {kill : List Nat} {r : List MOp} {sl : Slots} {own : Own} {h : HP} {Q : St → Prop}
@[go_sem] theorem WBX_life {f : Nat} {a b c n : Int} {d : Nat} : WBX T cx tLife (encLi f a b c n) d r kill k sl own h Q = W T cx (.ops r kill :: k) ⟨sl.set d (.ptr (.obj h.next) [] tLife), own, h.nw tLife (encLi f a b c n)⟩ Q := by
  simp only [WBX, fits_Li, true_and]
@[go_sem] theorem W_boxLife {d : Nat} {x : Opd} : W T cx (.ops (⟨some d, .box true tLife x, none⟩ :: r) kill :: k) ⟨sl, own, h⟩ Q = WBX T cx tLife (St.opd ⟨sl, own, h⟩ x) d r kill k sl own h Q := W_boxX
end
structure LifeAt (h : HP) (p f c : Nat) (L : Lf) : Prop where
  li : h.look (.obj p) = some ⟨tLife, encLi f L.a L.b L.c L.n⟩
  fi : h.look (.obj f) = some ⟨tFiles, encF c L.fl.stamp⟩
  ca : h.look (.obj c) = some ⟨tCache, encC L.fl.now L.fl.disk⟩
  pf : ¬p = f
  fc : ¬f = c
  pc : ¬p = c
  pn : p < h.next
  fn : f < h.next
  cn : c < h.next
section
variable {cx : Cx} {h : HP} {p f c : Nat} {L : Lf} {a b : Img}
theorem eSync (hl : ∀ n, cx.prot.lets (.obj n) = true) (hC : h.look (.obj c) = some ⟨tCache, encC a b⟩) : Ok tblE cx Fn.cache_Cache_Sync (St.enter [.ptr (.obj c) [] tCache] h) fun v h' => v = .int .i64 (syncK a b) ∧ h' = h.ob c tCache (encC a (syncTo a b)) := by
  have := upE (CSync_ok (h := h) (n := c) (a := a) (b := b) (hl c))
  rw [cs_ob, ob_self hC] at this
  refine this.mono fun v h' e => ?_
  obtain ⟨k, h8, rfl, rfl, hk, hn⟩ := e
  obtain rfl := syncK_eq h8 hk hn
  exact ⟨rfl, rfl⟩
theorem eWrite {x : Int} (hl : ∀ n, cx.prot.lets (.obj n) = true) (hC : h.look (.obj c) = some ⟨tCache, encC a b⟩) : Ok tblE cx Fn.cache_Cache_Write (St.enter [.ptr (.obj c) [] tCache, .int .i64 x] h) fun v h' => v = .bool (writeAs a b x).2 ∧ h' = h.ob c tCache (encC a (writeAs a b x).1) :=
  upE (CWrite_ok hC (hl c))
end
end Go.Mini

namespace Go.Mini
set_option linter.unusedSimpArgs false
set_option linter.unusedVariables false
set_option maxHeartbeats 4000000
set_option maxRecDepth 100000
def LifeTo (h h' : HP) (p f c : Nat) (L : Lf) : Prop := ∃ f' c', LifeAt h' p f' c' L ∧ ((f' = f ∧ c' = c) ∨ (h.next ≤ f' ∧ h.next ≤ c'))
theorem LifeAt.pop {h : HP} {p f c l : Nat} {o : Own} {L : Lf} (a : LifeAt (h.push l o) p f c L) : LifeAt h p f c L := ⟨a.li, a.fi, a.ca, a.pf, a.fc, a.pc, a.pn, a.fn, a.cn⟩
theorem LifeAt.push {h : HP} {p f c l : Nat} {o : Own} {L : Lf} (a : LifeAt h p f c L) : LifeAt (h.push l o) p f c L := ⟨a.li, a.fi, a.ca, a.pf, a.fc, a.pc, a.pn, a.fn, a.cn⟩
theorem LifeTo.pop {h h1 : HP} {p f c l l' : Nat} {o o' : Own} {L : Lf} (a : LifeTo (h.push l' o') (h1.push l o) p f c L) : LifeTo h h1 p f c L := by
  obtain ⟨f', c', a, b⟩ := a
  exact ⟨f', c', a.pop, b⟩
theorem LifeTo.push {h h1 : HP} {p f c l : Nat} {o : Own} {L : Lf} (a : LifeTo h h1 p f c L) : LifeTo (h.push l o) h1 p f c L := a
end Go.Mini

namespace Go.Mini
set_option linter.unusedSimpArgs false
set_option linter.unusedVariables false
set_option maxHeartbeats 4000000
set_option maxRecDepth 100000
def sLt (a b : Str) : Bool := Op.bytesLess a.toList b.toList
theorem bLt_asymm : ∀ l m : List UInt8, Op.bytesLess l m = true → Op.bytesLess m l = false
  | _, [], h => by simp [Op.bytesLess] at h
  | [], b :: m, _ => rfl
  | a :: l, b :: m, h => by
    simp only [Op.bytesLess, Bool.or_eq_true, Bool.and_eq_true, decide_eq_true_eq, beq_iff_eq] at h
    simp only [Op.bytesLess, Bool.or_eq_false_iff, decide_eq_false_iff_not]
    rcases h with h | ⟨rfl, h⟩
    · refine ⟨fun e => absurd (UInt8.lt_trans h e) (UInt8.lt_irrefl _), ?_⟩
      have : ¬b = a := fun e => by subst e; exact absurd h (UInt8.lt_irrefl _)
      simp [this]
    · exact ⟨UInt8.lt_irrefl _, by simp [bLt_asymm l m h]⟩
theorem sLt_asymm {a b : Str} (h : sLt a b = true) : sLt b a = false := bLt_asymm _ _ h
def sLe (a b : Str) : Bool := !sLt b a
def encS (l : List Str) : AV := .ofList (l.map AV.str)
theorem encS_toList (l : List Str) : (encS l).toList = some (l.map AV.str) := by
  simp only [encS, AV.ofList, AV.toList]
  congr 1
  exact List.ext_getElem (by simp) (by simp)
theorem encS_fits (l : List Str) {n : Nat} (h : n = l.length) : (Ty.arr n tS).fits (encS l) = true := by
  subst h
  simp [encS, AV.ofList, Ty.fits, tS, LK.fits, AV.safe]
def txt (l : List Str) (i : Nat) : Str := l.getD i ⟨#[]⟩
@[go_sem] theorem encS_at (l : List Str) {i : Nat} (h : i < l.length) : (encS l).at [i] = some (.str (txt l i)) := by
  simp [encS, AV.ofList, AV.at, h, txt]
theorem txt_set (l : List Str) (i : Nat) (s : Str) (j : Nat) : txt (l.set i s) j = if j = i ∧ i < l.length then s else txt l j := by
  simp only [txt, List.getD_eq_getElem?_getD, List.getElem?_set]
  by_cases e : i = j
  · subst e
    by_cases h : i < l.length
    · simp [h]
    · simp [h]
  · have : ¬j = i := fun h => e h.symm
    simp [e, this]
theorem txt_get {l : List Str} {i : Nat} (h : i < l.length) : txt l i = l[i] := by simp [txt, h]
theorem arr_ofList {n : Nat} {f : Fin n → AV} {l : List AV} (hl : l.length = n) (h : ∀ i (hi : i < n), f ⟨i, hi⟩ = l[i]'(by omega)) : AV.arr n f = AV.ofList l := by
  subst hl
  simp only [AV.ofList]
  congr 1
  funext i
  exact h i.val i.isLt
@[go_sem] theorem encS_put (l : List Str) {i : Nat} (h : i < l.length) (s : Str) : (encS l).put [i] (.str s) = some (encS (l.set i s)) := by
  simp only [encS, AV.ofList, AV.put, List.length_map, h, dite_true, Option.map_some]
  congr 1
  refine arr_ofList (by simp) fun j hj => ?_
  simp only [List.get_eq_getElem, List.getElem_map, List.getElem_set]
  by_cases e : j = i
  · subst e; simp
  · have : ¬i = j := fun h => e h.symm
    simp [e, this]
@[go_sem] theorem evStr_lss (a b : Str) : evStr .lss a b = some (.bool (sLt a b)) := rfl
@[go_sem] theorem evStr_gtr (a b : Str) : evStr .gtr a b = some (.bool (!(sLt a b || decide (a = b)))) := by
  show some (AV.bool (!(Op.bytesLess a.toList b.toList || a.toList == b.toList))) = _
  rw [bytes_eq]; rfl
section
variable {T : Nat → Option MFun} {cx : Cx} {k : List Item} {kill : List Nat} {r : List MOp} {sl : Slots} {own : Own} {h : HP} {Q : St → Prop}
@[go_sem] theorem sidxV_int {t : Ty} {j : Id} {off len : Nat} {z : Int} {kk : IntKind} {L : Id → Option Blk} (h0 : 0 ≤ z) (hm : z < len) : sidxV t (.sl j off len) (.int kk z) L = sidxB t j (off + z.toNat) (L j) := by
  simp only [sidxV, toIx]; rw [if_pos ⟨by omega, by omega⟩]
@[go_sem] theorem toNat_succ (p : Nat) : ((p : Int) + 1).toNat = p + 1 := by omega
@[go_sem] theorem fg_func (f : Nat) (i : Id) : fg (.func f .unit) i = .func f .unit := by simp [fg, AV.leads, AV.isAgg, AV.names]
@[go_sem] theorem leads_func (f : Nat) (i : Id) : (AV.func f .unit).leads i = false := by simp [AV.leads, AV.isAgg, AV.names]
end
structure PermIn (l m : List Str) (a b : Nat) : Prop where
  perm : m.Perm l
  out : ∀ i, (i < a ∨ b ≤ i) → txt m i = txt l i
theorem PermIn.refl (l : List Str) (a b : Nat) : PermIn l l a b := ⟨List.Perm.refl _, fun _ _ => rfl⟩
theorem PermIn.len {l m : List Str} {a b : Nat} (h : PermIn l m a b) : m.length = l.length := h.perm.length_eq
theorem PermIn.trans {l m n : List Str} {a b : Nat} (h : PermIn l m a b) (k : PermIn m n a b) : PermIn l n a b := ⟨k.perm.trans h.perm, fun i hi => (k.out i hi).trans (h.out i hi)⟩
def swapL (l : List Str) (i j : Nat) : List Str := (l.set i (txt l j)).set j (txt l i)
theorem txt_swap {l : List Str} {i j : Nat} (hi : i < l.length) (hj : j < l.length) (x : Nat) : txt (swapL l i j) x = if x = j then txt l i else if x = i then txt l j else txt l x := by
  simp only [swapL, txt_set, List.length_set, hi, hj, and_true]
theorem swap_perm {l : List Str} {i j : Nat} (hi : i < l.length) (hj : j < l.length) : (swapL l i j).Perm l := by
  rw [swapL, txt_get hi, txt_get hj]
  exact List.set_set_perm hi hj
theorem PermIn.swap {l : List Str} {a b i j : Nat} (hi : i < l.length) (hj : j < l.length) (h1 : a ≤ i ∧ i < b) (h2 : a ≤ j ∧ j < b) : PermIn l (swapL l i j) a b :=
  ⟨swap_perm hi hj, fun x hx => by
    rw [txt_swap hi hj, if_neg (by omega), if_neg (by omega)]⟩
def SortedIn (l : List Str) (a b : Nat) : Prop := ∀ x y, a ≤ x → x < y → y < b → sLe (txt l x) (txt l y) = true
def SinkIn (l : List Str) (a i j : Nat) : Prop := (∀ x y, a ≤ x → x < y → y ≤ i → ¬x = j → ¬y = j → sLe (txt l x) (txt l y) = true) ∧ ∀ y, j < y → y ≤ i → sLe (txt l j) (txt l y) = true
theorem sLe_of_lt {a b : Str} (h : sLt a b = true) : sLe a b = true := by simp [sLe, sLt_asymm h]
theorem SinkIn.start {l : List Str} {a i : Nat} (h : SortedIn l a i) : SinkIn l a i i := ⟨fun x y hx hy hi hxi hyi => h x y hx hy (by omega), fun y h1 h2 => by omega⟩
theorem SinkIn.step {l : List Str} {a i j : Nat} (h : SinkIn l a i (j + 1)) (hj : a ≤ j) (hi : j + 1 ≤ i) (hl : i < l.length) (hlt : sLt (txt l (j + 1)) (txt l j) = true) : SinkIn (swapL l (j + 1) j) a i j := by
  have ts := txt_swap (l := l) (i := j + 1) (j := j) (by omega) (by omega)
  refine ⟨fun x y hx hxy hyi hxj hyj => ?_, fun y hy hyi => ?_⟩
  · rw [ts x, ts y, if_neg hxj, if_neg hyj]
    by_cases e1 : x = j + 1
    · rw [if_pos e1, if_neg (by omega)]
      exact h.1 j y hj (by omega) hyi (by omega) (by omega)
    · rw [if_neg e1]
      by_cases e2 : y = j + 1
      · rw [if_pos e2]
        exact h.1 x j hx (by omega) (by omega) (by omega) (by omega)
      · rw [if_neg e2]
        exact h.1 x y hx hxy hyi (by omega) (by omega)
  · rw [ts j, ts y, if_pos rfl, if_neg (by omega)]
    by_cases e2 : y = j + 1
    · rw [if_pos e2]; exact sLe_of_lt hlt
    · rw [if_neg e2]; exact h.2 y (by omega) hyi
end Go.Mini

namespace Go.Mini
set_option linter.unusedSimpArgs false
set_option linter.unusedVariables false
set_option maxHeartbeats 4000000
set_option maxRecDepth 100000
def SlF (h h1 : HP) (v : AV) (l : List Str) : Prop := (v = .nilsl ∧ l = []) ∨ ∃ q, v = .sl (.obj q) 0 l.length ∧ h.next ≤ q ∧ q < h1.next ∧ h1.look (.obj q) = some ⟨.arr l.length tS, encS l⟩
section
variable {T : Nat → Option MFun} {cx : Cx} {k : List Item} {kill : List Nat} {r : List MOp} {sl : Slots} {own : Own} {h : HP} {Q : St → Prop}
def WBs (T : Nat → Option MFun) (cx : Cx) (v : AV) (d : Nat) (r : List MOp) (kill : List Nat) (k : List Item) (sl : Slots) (own : Own) (h : HP) (Q : St → Prop) : Prop :=
  onO (fill (.arr 1 tS) (Ty.arr 1 tS).zero [(0, v)]) fun w => W T cx (.ops r kill :: k) ⟨(Slots.forget sl (.stk cx.lvl d)).set d (.sl (.stk cx.lvl d) 0 1), own.set d ⟨.arr 1 tS, w⟩, h⟩ Q
theorem fill1s (s : Str) : fill (.arr 1 tS) (Ty.arr 1 tS).zero [(0, .str s)] = some (encS [s]) := by
  simp only [fill, Ty.part, Nat.lt_one_iff, if_true, fits_tS, Ty.zero, AV.put, Nat.zero_lt_one, dite_true, put_nil, Option.map_some, encS, AV.ofList]
  congr 2
  funext j
  match j with
  | ⟨0, _⟩ => rfl
@[go_sem] theorem WBs_str {s : Str} {d : Nat} : WBs T cx (.str s) d r kill k sl own h Q = W T cx (.ops r kill :: k) ⟨(Slots.forget sl (.stk cx.lvl d)).set d (.sl (.stk cx.lvl d) 0 1), own.set d ⟨.arr 1 tS, encS [s]⟩, h⟩ Q := by
  simp only [WBs, fill1s, onO]
@[go_sem] theorem W_bslice1s {d : Nat} {x : Opd} : W T cx (.ops (⟨some d, .bslice false tS 1 [(0, x)], none⟩ :: r) kill :: k) ⟨sl, own, h⟩ Q = WBs T cx (St.opd ⟨sl, own, h⟩ x) d r kill k sl own h Q := by
  rw [W_op rfl, evOp]
  simp only [evK, WBs, List.map_cons, List.map_nil]
  cases fill (.arr 1 tS) (Ty.arr 1 tS).zero [(0, St.opd ⟨sl, own, h⟩ x)] <;> rfl
def WAs (T : Nat → Option MFun) (cx : Cx) (x : AV) (add : Option (List AV)) (d : Nat) (r : List MOp) (kill : List Nat) (k : List Item) (sl : Slots) (own : Own) (h : HP) (Q : St → Prop) : Prop :=
  onO add fun add => onO (evAppend (St.look cx ⟨sl, own, h⟩) tS x add) fun e => onO (applyEff cx (some d) true ⟨sl, own, h⟩ e) fun p => W T cx (.ops r kill :: k) (p.2.setd (some d) p.1) Q
def elemsS (b : Option Blk) (len : Nat) : Option (List AV) := match b with
  | some ⟨.arr _ t', v⟩ => match v.toList with
      | some l => if tS = t' ∧ len ≤ l.length then some (l.take len) else none
      | none => none
  | _ => none
@[go_sem] theorem elems_slS (L : Id → Option Blk) (j : Id) (len : Nat) : elems L tS (.sl j 0 len) = elemsS (L j) len := by
  simp only [elems, elemsS, Nat.zero_add, List.drop_zero]
  cases L j with
  | none => rfl
  | some b => obtain ⟨bt, bv⟩ := b; cases bt <;> rfl
@[go_sem] theorem elemsS_all (l : List Str) (n : Nat) : elemsS (some ⟨.arr n tS, encS l⟩) l.length = some (l.map AV.str) := by
  have : List.take l.length (List.map AV.str l) = List.map AV.str l := List.take_of_length_le (by simp)
  simp [elemsS, encS_toList, this]
@[go_sem] theorem elemsS_one (s : Str) : elemsS (some ⟨.arr 1 tS, encS [s]⟩) 1 = some [.str s] := by
  simp [elemsS, encS_toList]
@[go_sem] theorem W_appendS {d : Nat} {x y : Opd} : W T cx (.ops (⟨some d, .append true tS x y, none⟩ :: r) kill :: k) ⟨sl, own, h⟩ Q = WAs T cx (St.opd ⟨sl, own, h⟩ x) (elems (St.look cx ⟨sl, own, h⟩) tS (St.opd ⟨sl, own, h⟩ y)) d r kill k sl own h Q := by
  rw [W_op rfl, evOp]
  simp only [evK, WAs]
  cases elems (St.look cx ⟨sl, own, h⟩) tS (St.opd ⟨sl, own, h⟩ y) with
  | none => rfl
  | some add =>
    simp only [onO_some]
    cases evAppend (St.look cx ⟨sl, own, h⟩) tS (St.opd ⟨sl, own, h⟩ x) add <;> rfl
@[go_sem] theorem WAs_nil {s : Str} {d : Nat} : WAs T cx .nilsl (some [.str s]) d r kill k sl own h Q =
    W T cx (.ops r kill :: k) ⟨sl.set d (.sl (.obj h.next) 0 1), own, h.nw (.arr 1 tS) (encS [s])⟩ Q := by
  have hf := encS_fits [s] (n := 1) rfl
  simp only [WAs, onO_some, evAppend, List.length_cons, List.length_nil, Nat.zero_add]
  rw [if_neg (by omega), if_pos ⟨hf, by omega⟩]
  rfl
end
end Go.Mini

namespace Go.Mini
set_option linter.unusedSimpArgs false
set_option linter.unusedVariables false
set_option maxHeartbeats 4000000
set_option maxRecDepth 100000
def encSteps (l : List SStep) : AV := .ofList (l.map SStep.enc)
def stp (l : List SStep) (k : Nat) : SStep := l.getD k ⟨0, 0, 0, 0, ⟨#[]⟩, ⟨#[]⟩, ⟨#[]⟩⟩
@[go_sem] theorem encSteps_at (l : List SStep) {k : Nat} (h : k < l.length) (p : List Nat) : (encSteps l).at (k :: p) = (stp l k).enc.at p := by
  simp [encSteps, AV.ofList, AV.at, h, stp]
structure StepsV (h : HP) (v : AV) (l : List SStep) : Prop where
  len : lenV false v = some (.int .i64 l.length)
  fg : ∀ a b, Go.Mini.fg v (.stk a b) = v
  ld : ∀ a b, v.leads (.stk a b) = false
  ix : ∀ k, k < l.length → ∃ n, v = .sl (.arg n) 0 l.length ∧ h.look (.arg n) = some ⟨.arr l.length tStep, encSteps l⟩
theorem StepsV.to {h h' : HP} {v : AV} {l : List SStep} (a : StepsV h v l) (e : h'.arg = h.arg) : StepsV h' v l :=
  ⟨a.len, a.fg, a.ld, fun k hk => by
    obtain ⟨n, h1, h2⟩ := a.ix k hk
    exact ⟨n, h1, by simp only [HP.look, e] at h2 ⊢; exact h2⟩⟩
theorem StepsV.push {h : HP} {v : AV} {l : List SStep} {a : Nat} {o : Own} (s : StepsV h v l) : StepsV (h.push a o) v l := s.to rfl
structure SStep.ok (x : SStep) : Prop where
  name : x.name.size ≤ 9223372036854775807
  to : x.to.size ≤ 9223372036854775807
  text : x.text.size ≤ 9223372036854775807
section
variable {T : Nat → Option MFun} {cx : Cx} {k : List Item} {kill : List Nat} {r : List MOp} {sl : Slots} {own : Own} {h : HP} {Q : St → Prop}
def roV (v : AV) (o : Option AV) : Option AV := match v with
  | .sl j _ _ => if j.isArg = true then o else none
  | .ptr j _ _ => if j.isArg = true then o else none
  | _ => none
@[go_sem] theorem roV_sl (n a b : Nat) (o : Option AV) : roV (.sl (.arg n) a b) o = o := rfl
@[go_sem] theorem roV_ptr (n : Nat) (p : List Nat) (t : Ty) (o : Option AV) : roV (.ptr (.arg n) p t) o = o := rfl
@[go_sem] theorem W_sidxT {d : Option Nat} {t : Ty} {x i : Opd} {s : St} : W T cx (.ops (⟨d, .sidx true t x i, none⟩ :: r) kill :: k) s Q = W1 T cx (roV (s.opd x) (sidxV t (s.opd x) (s.opd i) (s.look cx))) d r kill k s Q :=
  W_val rfl (by
    simp only [evK, sidxV, roV]
    cases s.opd x <;> try (simp; done)
    rename_i j off len
    cases toIx (s.opd i) with
    | none => simp only []; split <;> rfl
    | some z =>
      simp only [true_implies]
      by_cases hj : j.isArg = true
      · rw [if_pos hj]
        by_cases hz : 0 ≤ z ∧ z < (len : Int)
        · rw [if_pos ⟨hz.1, hz.2, hj⟩, if_pos hz]
          cases s.look cx j with
          | none => rfl
          | some b =>
            obtain ⟨bt, bv⟩ := b
            cases bt <;> try rfl
            simp only [sidxB]
            split <;> rfl
        · rw [if_neg (fun h => hz ⟨h.1, h.2.1⟩), if_neg hz]; rfl
      · rw [if_neg (fun h => hj h.2.2), if_neg hj]; rfl)
@[go_sem] theorem W_loadT {d : Option Nat} {t : Ty} {x : Opd} {s : St} : W T cx (.ops (⟨d, .load true none t x, none⟩ :: r) kill :: k) s Q = W1 T cx (roV (s.opd x) (ldV t (s.opd x) (s.rd cx))) d r kill k s Q :=
  W_val rfl (by
    simp only [evK, roV]
    cases s.opd x <;> simp only [ldV, rooted, true_implies, true_and, and_true, Option.map_none] <;> try rfl
    · rename_i i p t'
      by_cases hj : i.isArg = true
      · rw [if_pos hj]
        by_cases ht : t = t'
        · simp only [ht, hj, and_self, if_true, St.rd]
          cases (s.look cx i).bind fun b => b.val.at p with
          | none => rfl
          | some v => by_cases hf : t'.fits v = true <;> simp [hf]
        · rw [if_neg (fun h => ht h.1), if_neg ht]; rfl
      · rw [if_neg (fun h => hj h.2), if_neg hj]; rfl
    · split <;> rfl)
end
def SlX (h : HP) (l : Nat) (v : AV) (m : List Str) : Prop := (v = .nilsl ∧ m = []) ∨ ∃ i, v = .sl i 0 m.length ∧ i.below l ∧ h.look i = some ⟨.arr m.length tS, encS m⟩
theorem SlF.x {h h1 : HP} {v : AV} {m : List Str} {l : Nat} (a : SlF h h1 v m) : SlX h1 l v m := by
  rcases a with a | ⟨q, h1, _, _, h2⟩
  · exact .inl a
  · exact .inr ⟨.obj q, h1, below_obj _ _, h2⟩
theorem SlX.len {h : HP} {l : Nat} {v : AV} {m : List Str} (a : SlX h l v m) : lenV false v = some (.int .i64 m.length) := by
  rcases a with ⟨rfl, rfl⟩ | ⟨i, rfl, _⟩ <;> rfl
end Go.Mini

namespace Go.Mini
set_option linter.unusedSimpArgs false
set_option linter.unusedVariables false
set_option maxHeartbeats 4000000
set_option maxRecDepth 100000
def LifeN (h0 h : HP) (p : Nat) (L : Lf) : Prop := ∃ f c, LifeAt h p f c L ∧ (h0.next ≤ p ∧ h0.next ≤ f ∧ h0.next ≤ c) ∧ Fr h0 h []
theorem LifeN.same {h0 h1 h2 : HP} {p : Nat} {L : Lf} (a : LifeN h0 h1 p L) (b : Fr h1 h2 []) : LifeN h0 h2 p L := by
  obtain ⟨f, c, hA, hb, hF⟩ := a
  exact ⟨f, c, ⟨b.look hA.pn (by simp) hA.li, b.look hA.fn (by simp) hA.fi, b.look hA.cn (by simp) hA.ca, hA.pf, hA.fc, hA.pc, Nat.lt_of_lt_of_le hA.pn b.next, Nat.lt_of_lt_of_le hA.fn b.next, Nat.lt_of_lt_of_le hA.cn b.next⟩, hb, hF.trans b⟩
theorem LifeN.pop {h0 h1 : HP} {p l : Nat} {o : Own} {L : Lf} (a : LifeN (h0.push l o) (h1.push l o) p L) (hs : h1.stk = h0.stk) : LifeN h0 h1 p L := by
  obtain ⟨f, c, hA, hb, hF⟩ := a
  exact ⟨f, c, hA.pop, hb, ⟨hs, hF.arg, hF.next, hF.same⟩⟩
theorem LifeN.push {h0 h1 : HP} {p l : Nat} {o : Own} {L : Lf} (a : LifeN h0 h1 p L) : LifeN (h0.push l o) (h1.push l o) p L := by
  obtain ⟨f, c, hA, hb, hF⟩ := a
  exact ⟨f, c, hA.push, hb, ⟨by simp only [HP.push, hF.stk], hF.arg, hF.next, hF.same⟩⟩
theorem LifeN.stk {h0 h1 : HP} {p : Nat} {L : Lf} (a : LifeN h0 h1 p L) : h1.stk = h0.stk := by
  obtain ⟨f, c, _, _, hF⟩ := a; exact hF.stk
theorem LifeN.arg {h0 h1 : HP} {p : Nat} {L : Lf} (a : LifeN h0 h1 p L) : h1.arg = h0.arg := by
  obtain ⟨f, c, _, _, hF⟩ := a; exact hF.arg
end Go.Mini

namespace Go.Mini
set_option linter.unusedSimpArgs false
set_option linter.unusedVariables false
set_option maxHeartbeats 4000000
set_option maxRecDepth 100000
@[go_sem] theorem fill_stepA (k : Int) : fill tStep tStep.zero [(0, .int .i64 k)] = some (SStep.enc ⟨k, 0, 0, 0, ⟨#[]⟩, ⟨#[]⟩, ⟨#[]⟩⟩) := rfl
@[go_sem] theorem fill_stepB (k : Int) (s : Str) : fill tStep tStep.zero [(0, .int .i64 k), (4, .str s)] = some (SStep.enc ⟨k, 0, 0, 0, s, ⟨#[]⟩, ⟨#[]⟩⟩) := rfl
@[go_sem] theorem fill_stepC (k p : Int) : fill tStep tStep.zero [(0, .int .i64 k), (3, .int .i64 p)] = some (SStep.enc ⟨k, 0, 0, p, ⟨#[]⟩, ⟨#[]⟩, ⟨#[]⟩⟩) := rfl
@[go_sem] theorem fill_lost1 (a : Int) : fill tLost (encLost 0 0 0) [(0, .int .i64 a)] = some (encLost a 0 0) := rfl
theorem SlF.push {h h1 : HP} {v : AV} {m : List Str} {l l' : Nat} {o o' : Own} (a : SlF (h.push l o) (h1.push l' o') v m) : SlF h h1 v m := a
end Go.Mini

namespace Go.Mini
set_option linter.unusedSimpArgs false
set_option linter.unusedVariables false
set_option maxHeartbeats 4000000
structure Ck (m : Img) : Prop where
  en : ∀ d s, d < 3 → s < 4 → m.ent d s = Ent.zero ∨ (¬(m.ent d s).name = ⟨#[]⟩ ∧ isName (m.ent d s).name = true ∧ 0 ≤ (m.ent d s).ino ∧ (m.ent d s).ino < 8 ∧ (m.ino (m.ent d s).ino.toNat).live = true ∧ (m.ino (m.ent d s).ino.toNat).stamp = (m.ent d s).stamp)
  un : ∀ d s t, d < 3 → s < 4 → t < 4 → ¬t = s → ¬(m.ent d s).name = ⟨#[]⟩ → ¬(m.ent d t).name = (m.ent d s).name
  li : ∀ n, n < 8 → (m.ino n).live = true → 1 ≤ (m.ino n).stamp ∧ (refs m n : Int) ≤ (m.ino n).links ∧ ∀ p, p < 2 → (m.ino n).prt p = -1 ∨ (0 ≤ (m.ino n).prt p ∧ (m.ino n).prt p < 9 ∧ (m.dat ((m.ino n).prt p).toNat).of = (m.ino n).stamp)
  de : ∀ n, n < 8 → (m.ino n).live = false → m.ino n = Ino.none
  st : ∀ n k, n < 8 → k < 8 → ¬n = k → (m.ino n).live = true → (m.ino k).live = true → ¬(m.ino n).stamp = (m.ino k).stamp
  pt : ∀ n k p q, n < 8 → k < 8 → p < 2 → q < 2 → (m.ino n).live = true → (m.ino k).live = true → 0 ≤ (m.ino n).prt p → (m.ino n).prt p = (m.ino k).prt q → n = k ∧ p = q
theorem Ck.of {m : Img} (hc : check m = 0) : Ck m := by
  obtain ⟨h1, h2, h3⟩ := check_parts hc
  have h3' : ∀ n k, n < 8 → k < 8 → pairBad m n k = false := by
    intro n k hn hk
    cases e : pairBad m n k with
    | false => rfl
    | true => rw [twice_at hn hk e] at h3; exact absurd h3 (by simp)
  refine ⟨fun d s hd hs => ?_, fun d s t hd hs ht hne hnm heq => ?_, fun n hn hl => ?_, fun n hn hl => dead_none hc hn hl, fun n k hn hk hne hl hl' heq => ?_, fun n k p q hn hk hp hq hl hl' h0 heq => ?_⟩
  · rcases entry_parts (h1 d hd s hs) with e | ⟨a1, a2, _, a4⟩
    · exact .inl e
    · exact .inr ⟨a1, a2, a4⟩
  · rcases Nat.lt_or_ge t s with h | h
    · rcases entry_parts (h1 d hd s hs) with e | ⟨_, _, a3, _⟩
      · rw [e] at hnm; exact hnm rfl
      · have := anyN_false.1 a3 t h; simp [heq] at this
    · rcases entry_parts (h1 d hd t ht) with e | ⟨_, _, a3, _⟩
      · rw [← heq, e] at hnm; exact hnm rfl
      · have := anyN_false.1 a3 s (by omega); simp [heq] at this
  · obtain ⟨a1, a2, a3⟩ := ino_parts hc hn hl
    exact ⟨a1, a2, fun p hp => part_dat (a3 p hp)⟩
  · have := h3' n k hn hk
    simp [pairBad, hl, hl', hne, heq] at this
  · have := h3' n k hn hk
    simp only [pairBad, hl, hl', Bool.true_and, Bool.or_eq_false_iff] at this
    have := anyN_false.1 (anyN_false.1 this.2 p hp) q hq
    simp only [partBad, h0, heq, decide_true, Bool.and_true] at this
    have h0' : 0 ≤ (m.ino k).prt q := by rw [← heq]; exact h0
    simp [h0'] at this
    exact this
theorem Ck.check {m : Img} (h : Ck m) : check m = 0 := by
  refine check_of (fun d hd s hs => ?_) (fun n hn => ?_) ?_
  · rcases h.en d s hd hs with e | ⟨a1, a2, a4, a5, a6, a7⟩
    · simp [entryFault, e, show Ent.zero.name = ⟨#[]⟩ from rfl]
    · exact entry_of a1 a2 (anyN_false.2 fun k hk => by simpa using h.un d s k hd hs (by omega) (by omega) a1) a4 a5 a6 a7
  · cases hl : (m.ino n).live with
    | true =>
      obtain ⟨a1, a2, a3⟩ := h.li n hn hl
      exact inoFault_of hl a1 a2 fun p hp => partFault_of (a3 p hp)
    | false => exact inoFault_dead (h.de n hn hl)
  · rw [← twiceR_eq]
    refine anyN_false.2 fun n hn => anyN_false.2 fun k hk => ?_
    cases hl : (m.ino n).live with
    | false => simp [pairBad, hl]
    | true =>
      cases hl' : (m.ino k).live with
      | false => simp [pairBad, hl']
      | true =>
        simp only [pairBad, hl, hl', Bool.true_and, Bool.or_eq_false_iff]
        refine ⟨?_, anyN_false.2 fun p hp => anyN_false.2 fun q hq => ?_⟩
        · by_cases e : n = k
          · simp [e]
          · simp [h.st n k hn hk e hl hl']
        · by_cases h0 : 0 ≤ (m.ino n).prt p
          · by_cases he : (m.ino n).prt p = (m.ino k).prt q
            · obtain ⟨rfl, rfl⟩ := h.pt n k p q hn hk hp hq hl hl' h0 he
              simp [partBad]
            · simp [partBad, he]
          · simp [partBad, h0]
structure Ex1 (m : Img) (o : Nat) : Prop where
  ck : Ck m
  ln : ∀ n, n < 8 → (m.ino n).live = true → (m.ino n).links = refs m n
  rf : ∀ n, n < 8 → ¬n = o → (m.ino n).live = true → ¬refs m n = 0
theorem Ex1.of {m : Img} (h : exact m = true) (o : Nat) : Ex1 m o := by
  obtain ⟨hc, hx⟩ := exact_parts h
  exact ⟨.of hc, fun n hn hl => (hx n hn hl).2, fun n hn _ hl => (hx n hn hl).1⟩
end Go.Mini

namespace Go.Mini
set_option linter.unusedSimpArgs false
set_option linter.unusedVariables false
set_option maxHeartbeats 4000000
theorem held_iff {m : Img} {x : Int} : held m x = true ↔ ∃ n p, n < 8 ∧ p < 2 ∧ (m.ino n).live = true ∧ (m.ino n).prt p = x := by
  rw [held, anyN_iff]
  constructor
  · rintro ⟨n, hn, h⟩
    simp only [Bool.and_eq_true, Bool.or_eq_true, decide_eq_true_eq] at h
    rcases h.2 with e | e
    · exact ⟨n, 0, hn, by omega, h.1, e⟩
    · exact ⟨n, 1, hn, by omega, h.1, e⟩
  · rintro ⟨n, p, hn, hp, hl, e⟩
    refine ⟨n, hn, ?_⟩
    simp only [Bool.and_eq_true, Bool.or_eq_true, decide_eq_true_eq]
    rcases (by omega : p = 0 ∨ p = 1) with rfl | rfl
    · exact ⟨hl, .inl e⟩
    · exact ⟨hl, .inr e⟩
structure Ft (a b : Img) : Prop where
  fa : ∀ n, n < 8 → (a.ino n).live = true → (b.ino n).live = true → ¬(a.ino n).stamp = (b.ino n).stamp → refs b n = 0
  fb : ∀ n k, n < 8 → k < 8 → ¬k = n → (a.ino n).live = true → (b.ino k).live = true → ¬(b.ino k).stamp = (a.ino n).stamp
  fc : ∀ n p k q, n < 8 → p < 2 → k < 8 → q < 2 → (a.ino n).live = true → 0 ≤ (a.ino n).prt p → (b.ino k).live = true → (b.ino k).prt q = (a.ino n).prt p → k = n ∧ q = p ∧ (b.ino k).stamp = (a.ino n).stamp
  fd : ∀ x : Nat, x < 9 → held b x = true → (a.dat x).of = (b.dat x).of
  fe : ∀ d s, d < 3 → s < 4 → ¬(a.ent d s).name = ⟨#[]⟩ → ¬(b.ent d s).name = ⟨#[]⟩ → a.ent d s = b.ent d s
  fg : ∀ d s t, d < 3 → s < 4 → t < 4 → ¬t = s → ¬(a.ent d s).name = ⟨#[]⟩ → ¬(b.ent d t).name = (a.ent d s).name
theorem Ft.fits {a b : Img} (h : Ft a b) : Fits a b :=
  ⟨fun n hn => ⟨h.fa n hn, fun k hk => h.fb n k hn hk, fun p hp hl h0 k hk q hq => h.fc n p k q hn hp hk hq hl h0⟩, fun x hx => h.fd x hx, fun d hd s hs => ⟨h.fe d s hd hs, fun t ht => h.fg d s t hd hs ht⟩⟩
theorem Ft.self {m : Img} (hc : Ck m) : Ft m m :=
  ⟨fun n _ _ _ h => absurd rfl h, fun n k hn hk hne hl hl' e => hc.st n k hn hk (fun h => hne h.symm) hl hl' e.symm,
   fun n p k q hn hp hk hq hl h0 hl' e => by
    obtain ⟨rfl, rfl⟩ := hc.pt n k p q hn hk hp hq hl hl' h0 e.symm
    exact ⟨rfl, rfl, rfl⟩,
   fun _ _ _ => rfl, fun _ _ _ _ _ _ => rfl, fun d s t hd hs ht hne hn => hc.un d s t hd hs ht hne hn⟩
theorem Ft.data {a b : Img} (h : Ft a b) (x : Nat) : Ft a (b.setDat x (a.dat x)) :=
  ⟨h.fa, h.fb, h.fc, fun y hy hh => by
    rw [dat_setDat]
    split
    · rename_i e; rw [e.1]
    · exact h.fd y hy hh, h.fe, h.fg⟩
theorem Ft.inodes {a b : Img} (h : Ft a b) (ha : Ck a) (hb : Ck b) {n0 : Nat} (hn0 : n0 ≤ 4) : Ft a (wrInodes a b n0 4) := by
  have hE : ∀ d s, (wrInodes a b n0 4).ent d s = b.ent d s := fun d s => wrInodes_ent a b n0 d s 4
  have hI := wrInodes_ino' a b n0 hn0
  have hD := fun x => wrInodes_dat a b n0 x 4
  have hR : ∀ i, refs (wrInodes a b n0 4) i = refs b i := fun i => refs_congr hE i
  generalize wrInodes a b n0 4 = X at *
  -- what each live inode is
  have hL : ∀ n, n < 8 → (X.ino n).live = true → ((a.ino n).live = true ∧ (X.ino n).stamp = (a.ino n).stamp ∧ ∀ p, p < 2 → (X.ino n).prt p = part a b n p) ∨
      ((b.ino n).live = true ∧ (X.ino n).stamp = (b.ino n).stamp ∧ ∀ p, (X.ino n).prt p = (b.ino n).prt p) := by
    intro n hn hl
    rw [hI] at hl ⊢
    split at hl
    · rename_i hr
      rw [if_pos hr]
      rcases inodeAs_live_cases hl with ⟨a1, a2, a3⟩ | ⟨_, a2, _, a4, a5⟩
      · exact .inl ⟨a1, a2, a3⟩
      · exact .inr ⟨a2, a4, a5⟩
    · rename_i hr
      rw [if_neg hr]
      exact .inr ⟨hl, rfl, fun _ => rfl⟩
  refine ⟨fun n hn hl hl' hne => ?_, fun n k hn hk hne hl hl' => ?_, fun n p k q hn hp hk hq hl h0 hl' heq => ?_, fun x hx hh => ?_, fun d s hd hs h1 h2 => ?_, fun d s t hd hs ht hne h1 => ?_⟩
  · rw [hR]
    rcases hL n hn hl' with ⟨_, e, _⟩ | ⟨e1, e2, _⟩
    · exact absurd e.symm hne
    · exact h.fa n hn hl e1 (by rw [← e2]; exact hne)
  · rcases hL k hk hl' with ⟨e1, e, _⟩ | ⟨e1, e2, _⟩
    · rw [e]; exact ha.st k n hk hn hne e1 hl
    · rw [e2]; exact h.fb n k hn hk hne hl e1
  · rcases hL k hk hl' with ⟨e1, e2, e3⟩ | ⟨e1, e2, e3⟩
    · rw [e3 q hq] at heq
      rcases part_cases a b k q with c | ⟨c, _⟩ | ⟨c, c1, c2⟩
      · omega
      · rw [c] at heq
        obtain ⟨rfl, rfl⟩ := ha.pt n k p q hn hk hp hq hl e1 h0 heq.symm
        exact ⟨rfl, rfl, e2⟩
      · rw [c] at heq
        obtain ⟨rfl, rfl, _⟩ := h.fc n p k q hn hp hk hq hl h0 c1 heq
        exact ⟨rfl, rfl, e2⟩
    · rw [e3] at heq
      obtain ⟨rfl, rfl, e⟩ := h.fc n p k q hn hp hk hq hl h0 e1 heq
      exact ⟨rfl, rfl, by rw [e2]; exact e⟩
  · rw [hD]
    obtain ⟨k, q, hk, hq, hl', heq⟩ := held_iff.1 hh
    rcases hL k hk hl' with ⟨e1, e2, e3⟩ | ⟨e1, e2, e3⟩
    · rw [e3 q hq] at heq
      rcases part_cases a b k q with c | ⟨c, c0, c9, c3⟩ | ⟨c, c1, c2⟩
      · omega
      · rw [c] at heq
        rcases (ha.li k hk e1).2.2 q hq with g | ⟨_, _, g⟩
        · omega
        · have : ((a.ino k).prt q).toNat = x := by omega
          rw [this] at c3 g
          rw [c3, g]
      · rw [c] at heq
        exact h.fd x hx (held_iff.2 ⟨k, q, hk, hq, c1, heq⟩)
    · rw [e3] at heq
      exact h.fd x hx (held_iff.2 ⟨k, q, hk, hq, e1, heq⟩)
  · rw [hE] at h2 ⊢; exact h.fe d s hd hs h1 h2
  · rw [hE]; exact h.fg d s t hd hs ht hne h1
theorem Ft.dir {a b : Img} (h : Ft a b) (ha : Ck a) (hb : Ck b) {d0 : Nat} (hd0 : d0 < 3) : Ft a (wrDir a b d0 4) := by
  obtain ⟨i1, i2, i3, i4, _, _⟩ := wrDir_ok a b hd0 4 (Nat.le_refl _)
  generalize wrDir a b d0 4 = X at *
  have slot : ∀ d t, d < 3 → t < 4 → X.ent d t = b.ent d t ∨ X.ent d t = Ent.zero ∨ (X.ent d t = a.ent d t ∧ 0 ≤ (a.ent d t).ino ∧ (a.ent d t).ino < 8 ∧ (b.ino (a.ent d t).ino.toNat).live = true ∧ (b.ino (a.ent d t).ino.toNat).stamp = (a.ent d t).stamp) := by
    intro d t hd ht
    by_cases e : d = d0
    · subst e; exact i4 t ht
    · exact .inl (i3 d t hd ht (.inl e))
  refine ⟨fun n hn hl hl' hne => ?_, fun n k hn hk hne hl hl' => ?_, fun n p k q hn hp hk hq hl h0 hl' heq => ?_, fun x hx hh => ?_, fun d s hd hs h1 h2 => ?_, fun d s t hd hs ht hne h1 => ?_⟩
  · rw [i1] at hl' hne
    have hz := h.fa n hn hl hl' hne
    refine sumN_zeros fun d hd => sumN_zeros fun s hs => ?_
    have hbz : leads b d s n = false := by
      cases e : leads b d s n with
      | false => rfl
      | true => have := refs_pos hd hs e; omega
    rcases slot d s hd hs with e | e | ⟨e, e0, e8, el, es⟩
    · rw [leads_congr e, hbz]; rfl
    · rw [leads_zero e]; rfl
    · cases hx : leads X d s n with
      | false => rfl
      | true =>
        exfalso
        rw [leads_congr e] at hx
        simp only [leads, Bool.and_eq_true, Bool.not_eq_true', decide_eq_false_iff_not, decide_eq_true_eq] at hx
        have en : (a.ent d s).ino.toNat = n := by omega
        rw [en] at el es
        rcases ha.en d s hd hs with g | ⟨_, _, _, _, _, g⟩
        · rw [g] at hx; exact hx.1 rfl
        · rw [en] at g; exact hne (by rw [g, es])
  · rw [i1] at hl' ⊢; exact h.fb n k hn hk hne hl hl'
  · rw [i1] at hl' heq ⊢; exact h.fc n p k q hn hp hk hq hl h0 hl' heq
  · rw [i2]; exact h.fd x hx (by rw [← held_congr i1]; exact hh)
  · rcases slot d s hd hs with e | e | ⟨e, _⟩
    · rw [e] at h2 ⊢; exact h.fe d s hd hs h1 h2
    · rw [e] at h2; exact absurd rfl h2
    · exact e.symm
  · rcases slot d t hd ht with e | e | ⟨e, _⟩
    · rw [e]; exact h.fg d s t hd hs ht hne h1
    · rw [e]; exact fun e' => h1 e'.symm
    · rw [e]; exact ha.un d s t hd hs ht hne h1
theorem Ft.write {a b : Img} (h : Ft a b) (ha : Ck a) (hb : Ck b) (x : Int) : Ft a (writeAs a b x).1 := by
  obtain ⟨n, hn, e⟩ | ⟨n, hn, e⟩ | ⟨n, hn, e⟩ | e := blockOf_cases x
  · rw [writeAs_i e]; exact h.inodes ha hb hn
  · rw [writeAs_d e]; exact h.dir ha hb hn
  · rw [writeAs_a e]; exact h.data n
  · rw [writeAs_n e]; exact h
theorem Ft.add {a b : Img} (h : Ft a b) {d k n : Nat} {name : Str} (hd : d < 3) (hk : k < 4) (n8 : n < 8) (hbn : (b.ent d k).name = ⟨#[]⟩) (hu : ∀ t, t < 4 → ¬(b.ent d t).name = name) : Ft (addName a d k name n) b := by
  have hent := ent_addName a d k name n
  have hlv : ∀ j, j < 8 → ((addName a d k name n).ino j).live = (a.ino j).live ∧ ((addName a d k name n).ino j).stamp = (a.ino j).stamp ∧ ∀ p, ((addName a d k name n).ino j).prt p = (a.ino j).prt p := fun j hj => by
    simp only [addName, ino_setIno, ino_setEnt]
    split
    · rename_i e; rw [← e.1]; exact ⟨rfl, rfl, fun p => prt_with _ _ _⟩
    · exact ⟨rfl, rfl, fun _ => rfl⟩
  have hdat : ∀ x, (addName a d k name n).dat x = a.dat x := fun x => by simp only [addName, dat_setIno, dat_setEnt]
  generalize addName a d k name n = X at *
  refine ⟨fun i hi hl hl' hne => ?_, fun i j hi hj hne hl hl' => ?_, fun i p j q hi hp hj hq hl h0 hl' heq => ?_, fun x hx hh => ?_, fun d' s hd' hs h1 h2 => ?_, fun d' s t hd' hs ht hne h1 => ?_⟩
  · obtain ⟨e1, e2, _⟩ := hlv i hi
    rw [e1] at hl; rw [e2] at hne
    exact h.fa i hi hl hl' hne
  · obtain ⟨e1, e2, _⟩ := hlv i hi
    rw [e1] at hl; rw [e2]
    exact h.fb i j hi hj hne hl hl'
  · obtain ⟨e1, e2, e3⟩ := hlv i hi
    rw [e1] at hl; rw [e3] at h0 heq; rw [e2]
    exact h.fc i p j q hi hp hj hq hl h0 hl' heq
  · rw [hdat]; exact h.fd x hx hh
  · rw [hent] at h1 ⊢
    split at h1
    · rename_i e; rw [← e.1.1, ← e.1.2, hbn] at h2; exact absurd rfl h2
    · rename_i e; rw [if_neg e]; exact h.fe d' s hd' hs h1 h2
  · rw [hent] at h1 ⊢
    split at h1
    · rename_i e; rw [if_pos e]; rw [← e.1.1]; exact hu t ht
    · rename_i e; rw [if_neg e]; exact h.fg d' s t hd' hs ht hne h1
theorem Ft.new {a b : Img} (h : Ft a b) {n : Nat} {st : Int} (n8 : n < 8) (hr : refs b n = 0) (hmax : ∀ j, j < 8 → (b.ino j).live = true → (b.ino j).stamp < st) : Ft (a.setIno n (newIno st)) b := by
  have hino : ∀ j, j < 8 → (a.setIno n (newIno st)).ino j = if n = j then newIno st else a.ino j := fun j hj => by rw [ino_setIno]; simp [hj]
  refine ⟨fun i hi' hl hl' hne => ?_, fun i j hi' hj hne hl hl' => ?_, fun i p j q hi' hp hj hq hl h0 hl' heq => ?_, h.fd, h.fe, h.fg⟩
  · rw [hino i hi'] at hl hne
    by_cases e : n = i
    · rw [← e]; exact hr
    · rw [if_neg e] at hl hne; exact h.fa i hi' hl hl' hne
  · rw [hino i hi'] at hl ⊢
    by_cases e : n = i
    · rw [if_pos e]; have := hmax j hj hl'; show ¬_ = st; omega
    · rw [if_neg e] at hl ⊢; exact h.fb i j hi' hj hne hl hl'
  · rw [hino i hi'] at hl h0 heq ⊢
    by_cases e : n = i
    · rw [if_pos e, prt_new] at h0
      have : Ino.none.prt p = -1 := by simp [Ino.prt, Ino.none, hp]
      omega
    · rw [if_neg e] at hl h0 heq ⊢; exact h.fc i p j q hi' hp hj hq hl h0 hl' heq
theorem Ft.put {a b : Img} (h : Ft a b) {n p x : Nat} {y : Dat} (n8 : n < 8) (hl : (a.ino n).live = true) (hx : held b x = false) : Ft ((a.setIno n ((a.ino n).setPrt p x)).setDat x y) b := by
  have hino : ∀ j, j < 8 → ((a.setIno n ((a.ino n).setPrt p x)).setDat x y).ino j = if n = j then (a.ino n).setPrt p x else a.ino j := fun j hj => by rw [ino_setDat, ino_setIno]; simp [hj]
  have hlv : ∀ j, j < 8 → (((a.setIno n ((a.ino n).setPrt p x)).setDat x y).ino j).live = (a.ino j).live ∧ (((a.setIno n ((a.ino n).setPrt p x)).setDat x y).ino j).stamp = (a.ino j).stamp := fun j hj => by
    rw [hino j hj]; split
    · rename_i e; subst e; exact ⟨rfl, rfl⟩
    · exact ⟨rfl, rfl⟩
  refine ⟨fun i hi' hl hl' hne => ?_, fun i j hi' hj hne hl hl' => ?_, fun i p' j q hi' hp hj hq hl h0 hl' heq => ?_, fun z hz hh => ?_, h.fe, h.fg⟩
  · obtain ⟨e1, e2⟩ := hlv i hi'
    rw [e1] at hl; rw [e2] at hne; exact h.fa i hi' hl hl' hne
  · obtain ⟨e1, e2⟩ := hlv i hi'
    rw [e1] at hl; rw [e2]; exact h.fb i j hi' hj hne hl hl'
  · obtain ⟨e1, e2⟩ := hlv i hi'
    rw [e1] at hl; rw [e2]
    have hpr : (((a.setIno n ((a.ino n).setPrt p x)).setDat x y).ino i).prt p' = if n = i ∧ p = p' then (x : Int) else (a.ino i).prt p' := by
      rw [hino i hi']
      by_cases e : n = i
      · subst e; rw [if_pos rfl, prt_setPrt]; simp [hp]
      · rw [if_neg e, if_neg (fun h => e h.1)]
    rw [hpr] at h0 heq
    split at heq
    · have : held b x = true := held_iff.2 ⟨j, q, hj, hq, hl', heq⟩
      rw [hx] at this; exact absurd this (by simp)
    · rename_i e; rw [if_neg e] at h0; exact h.fc i p' j q hi' hp hj hq hl h0 hl' heq
  · rw [dat_setDat, dat_setIno]
    split
    · rename_i e; rw [← e.1] at hh; rw [hx] at hh; exact absurd hh (by simp)
    · exact h.fd z hz hh
theorem Ft.text {a b : Img} (h : Ft a b) {x : Nat} {t : Str} : Ft (a.setDat x ⟨(a.dat x).of, t⟩) b :=
  ⟨h.fa, h.fb, h.fc, fun z hz hh => by
    rw [dat_setDat]
    split
    · rename_i e; rw [← e.1] at hh ⊢; exact h.fd x (by rw [e.1]; exact hz) hh
    · exact h.fd z hz hh, h.fe, h.fg⟩
end Go.Mini

namespace Go.Mini
set_option linter.unusedSimpArgs false
set_option linter.unusedVariables false
set_option maxHeartbeats 4000000
structure Inv (F : Fl) : Prop where
  i0 : Inv0 F
  ex : exact F.now = true
  ck : check F.disk = 0
  ft : Ft F.now F.disk
  s0 : 0 ≤ F.stamp
  sn : ∀ j, j < 8 → (F.now.ino j).live = true → (F.now.ino j).stamp ≤ F.stamp
  sd : ∀ j, j < 8 → (F.disk.ino j).live = true → (F.disk.ino j).stamp ≤ F.stamp
theorem Inv.cn {F : Fl} (h : Inv F) : check F.now = 0 := (exact_parts h.ex).1
theorem stamp_write {a b : Img} {N : Int} (ha : ∀ j, j < 8 → (a.ino j).live = true → (a.ino j).stamp ≤ N) (hb : ∀ j, j < 8 → (b.ino j).live = true → (b.ino j).stamp ≤ N) (x : Int) : ∀ j, j < 8 → ((writeAs a b x).1.ino j).live = true → ((writeAs a b x).1.ino j).stamp ≤ N := by
  obtain ⟨n, hn, e⟩ | ⟨n, hn, e⟩ | ⟨n, hn, e⟩ | e := blockOf_cases x
  · rw [writeAs_i e]
    intro j hj hl
    dsimp only at hl ⊢
    rw [wrInodes_ino' a b n hn] at hl ⊢
    split at hl
    · rename_i q; rw [if_pos q]
      rcases inodeAs_live_cases hl with ⟨a1, a2, _⟩ | ⟨_, a2, _, a4, _⟩
      · rw [a2]; exact ha j hj a1
      · rw [a4]; exact hb j hj a2
    · rename_i q; rw [if_neg q]; exact hb j hj hl
  · rw [writeAs_d e]
    intro j hj hl
    dsimp only at hl ⊢
    obtain ⟨i1, _⟩ := wrDir_ok a b hn 4 (Nat.le_refl _)
    rw [i1] at hl ⊢; exact hb j hj hl
  · rw [writeAs_a e]; exact hb
  · rw [writeAs_n e]; exact hb
theorem Inv.write {F : Fl} (h : Inv F) (x : Int) : Inv { F with disk := (writeAs F.now F.disk x).1 } :=
  ⟨⟨h.i0.wf, h.i0.sn, small_writeAs h.i0.sn h.i0.sd x⟩, h.ex, write_mends h.ck h.ex h.ft.fits x, h.ft.write (.of h.cn) (.of h.ck) x, h.s0, h.sn, stamp_write h.sn h.sd x⟩
theorem Inv.wrDown {F : Fl} (h : Inv F) : ∀ k, Inv { F with disk := Go.Mini.wrDown F.now F.disk k }
  | 0 => h
  | k + 1 => (h.wrDown k).write _
theorem Inv.syncD {F : Fl} (h : Inv F) : ∀ k, Inv { F with disk := Go.Mini.syncD F.now F.disk k }
  | 0 => h
  | k + 1 => (h.syncD k).wrDown 14
theorem maxSt_ge (m : Img) {n j : Nat} (h : j < n) : (m.ino j).stamp ≤ maxSt m n := by
  induction n with
  | zero => omega
  | succ n ih =>
    unfold maxSt
    by_cases e : j = n
    · subst e; split <;> omega
    · have := ih (by omega)
      split <;> omega
theorem maxSt_pos (m : Img) : ∀ n, 0 ≤ maxSt m n
  | 0 => Int.le_refl _
  | n + 1 => by have := maxSt_pos m n; unfold maxSt; split <;> omega
theorem Inv.of {m : Img} (he : exact m = true) (hs : m.small) : Inv ⟨m, m, maxSt m 8⟩ := by
  have hc := (exact_parts he).1
  exact ⟨⟨WF_check hc, hs, hs⟩, he, hc, Ft.self (.of hc), maxSt_pos m 8, fun j hj _ => maxSt_ge m hj, fun j hj _ => maxSt_ge m hj⟩
theorem Inv.new : Inv Lf.new.fl := by
  have := Inv.of (m := .blank) (by decide +kernel) (small_of (by decide +kernel))
  have e : maxSt .blank 8 = 0 := by decide +kernel
  rw [e] at this
  exact this
end Go.Mini

namespace Go.Mini
set_option linter.unusedSimpArgs false
set_option linter.unusedVariables false
set_option maxHeartbeats 4000000
set_option maxRecDepth 100000
section
variable {cx : Cx} {h : HP} {c : Nat} {a b : Img}
theorem eClean (hC : h.look (.obj c) = some ⟨tCache, encC a b⟩) : Ok tblE cx Fn.cache_Cache_Clean (St.enter [.ptr (.obj c) [] tCache] h) fun v h' => v = .bool (decide (a = b)) ∧ h' = h := upE (CClean_ok (rd_of hC).1 (rd_of hC).2)
theorem eDirty {x : Int} (hC : h.look (.obj c) = some ⟨tCache, encC a b⟩) : Ok tblE cx Fn.cache_Cache_Dirty (St.enter [.ptr (.obj c) [] tCache, .int .i64 x] h) fun v h' => v = .bool (dirty a b x) ∧ h' = h := upE (CDirty_ok (rd_of hC).1 (rd_of hC).2)
end
@[go_sem] theorem fill_lost0 : fill tLost (encLost 0 0 0) [] = some (encLost 0 0 0) := rfl
end Go.Mini

namespace Go.Mini
set_option linter.unusedSimpArgs false
set_option linter.unusedVariables false
set_option maxHeartbeats 4000000
set_option maxRecDepth 100000
def SlJ (h0 h : HP) (v : AV) (l : List Int) : Prop := (v = .nilsl ∧ l = []) ∨ ∃ q, v = .sl (.obj q) 0 l.length ∧ h0.next ≤ q ∧ q < h.next ∧ h.look (.obj q) = some ⟨.arr l.length tI, encL l⟩
theorem SlJ.same {h0 h h' : HP} {v : AV} {l : List Int} (a : SlJ h0 h v l) (b : Fr h h' []) : SlJ h0 h' v l := by
  rcases a with a | ⟨q, h1, h2, h3, h4⟩
  · exact .inl a
  · exact .inr ⟨q, h1, h2, Nat.lt_of_lt_of_le h3 b.next, b.look h3 (by simp) h4⟩
theorem SlJ.push {h0 h : HP} {v : AV} {l : List Int} {n : Nat} {o : Own} (a : SlJ h0 h v l) : SlJ h0 (h.push n o) v l := a
theorem SlJ.from {h0 h1 h : HP} {v : AV} {l : List Int} (a : SlJ h1 h v l) (e : h0.next ≤ h1.next) : SlJ h0 h v l := by
  rcases a with a | ⟨q, h1, h2, h3, h4⟩
  · exact .inl a
  · exact .inr ⟨q, h1, by omega, h3, h4⟩
theorem SlJ.len {h0 h : HP} {v : AV} {l : List Int} (a : SlJ h0 h v l) : lenV false v = some (.int .i64 l.length) := by
  rcases a with ⟨rfl, rfl⟩ | ⟨i, rfl, _⟩ <;> rfl
theorem SlJ.fg {h0 h : HP} {v : AV} {l : List Int} (a : SlJ h0 h v l) (x y : Nat) : Go.Mini.fg v (.stk x y) = v := by
  rcases a with ⟨rfl, rfl⟩ | ⟨i, rfl, _⟩ <;> simp only [go_sem]
theorem SlJ.ld {h0 h : HP} {v : AV} {l : List Int} (a : SlJ h0 h v l) (x y : Nat) : v.leads (.stk x y) = false := by
  rcases a with ⟨rfl, rfl⟩ | ⟨i, rfl, _⟩ <;> simp only [go_sem]
def num (l : List Int) (i : Nat) : Int := l.getD i 0
theorem encL_num (l : List Int) {i : Nat} (h : i < l.length) : (encL l).at [i] = some (.int .i64 (num l i)) := by
  rw [encL_at l h]; simp [num, h]
section
variable {T : Nat → Option MFun} {cx : Cx} {k : List Item} {kill : List Nat} {r : List MOp} {sl : Slots} {own : Own} {h : HP} {Q : St → Prop}
def WAi (T : Nat → Option MFun) (cx : Cx) (x : AV) (add : Option (List AV)) (d : Nat) (r : List MOp) (kill : List Nat) (k : List Item) (sl : Slots) (own : Own) (h : HP) (Q : St → Prop) : Prop :=
  onO add fun add => onO (evAppend (St.look cx ⟨sl, own, h⟩) tI x add) fun e => onO (applyEff cx (some d) true ⟨sl, own, h⟩ e) fun p => W T cx (.ops r kill :: k) (p.2.setd (some d) p.1) Q
@[go_sem] theorem W_appendI {d : Nat} {x y : Opd} : W T cx (.ops (⟨some d, .append true tI x y, none⟩ :: r) kill :: k) ⟨sl, own, h⟩ Q = WAi T cx (St.opd ⟨sl, own, h⟩ x) (elems (St.look cx ⟨sl, own, h⟩) tI (St.opd ⟨sl, own, h⟩ y)) d r kill k sl own h Q := by
  rw [W_op rfl, evOp]
  simp only [evK, WAi]
  cases elems (St.look cx ⟨sl, own, h⟩) tI (St.opd ⟨sl, own, h⟩ y) with
  | none => rfl
  | some add =>
    simp only [onO_some]
    cases evAppend (St.look cx ⟨sl, own, h⟩) tI (St.opd ⟨sl, own, h⟩ x) add <;> rfl
@[go_sem] theorem WAi_nil {n : Int} {d : Nat} : WAi T cx .nilsl (some [.int .i64 n]) d r kill k sl own h Q =
    W T cx (.ops r kill :: k) ⟨sl.set d (.sl (.obj h.next) 0 1), own, h.nw (.arr 1 tI) (encL [n])⟩ Q := by
  have hf := encL_fits [n] (n := 1) rfl
  simp only [WAi, onO_some, evAppend, List.length_cons, List.length_nil, Nat.zero_add]
  rw [if_neg (by omega), if_pos ⟨hf, by omega⟩]
  rfl
end
end Go.Mini

namespace Go.Mini
open Go.RowKit Go.ChangeShapes
set_option linter.unusedVariables false
section
variable {H : Type} {enc : TypeId × Value → H} {P : Program}
theorem trodAll_stays (hl : laidOutB P = true) {W W' : World} {sp : Nat → Bool} (hB : Below W.heap.size W W') : ∀ {ts : List TypeId} {vs : List Value} {ds : List (DataW H)} {ps : List MemPlace},
    (∀ t ∈ ts, P.readableRec t = true ∧ t < P.types.size) → DataW.TrodAll enc P W 0 (fun _ => true) true ts vs ds ps → (∀ p ∈ ps, p.block < W.heap.size) → (∀ p ∈ ps, sp p.block = true) →
    DataW.TrodAll enc P W' 0 sp true ts vs ds ps
  | [], vs, ds, ps, _, h, _, _ => by
    obtain ⟨rfl, rfl, rfl⟩ := trodAll_nil h
    exact trodAll_mk0
  | t :: ts, vs, ds, ps, ht, h, h1, h2 => by
    obtain ⟨v, vs', d, ds', p, q, rfl, rfl, rfl, h3, h4⟩ := trodAll_cons h
    exact ⟨p, q, WideElems.Trod_stays hl (ht t List.mem_cons_self).1 (ht t List.mem_cons_self).2 h3 (fun x hx => hB.same (h1 x (List.mem_append_left _ hx))) (fun x hx => h2 x (List.mem_append_left _ hx)),
      trodAll_stays hl hB (fun t' ht' => ht t' (List.mem_cons_of_mem _ ht')) h4 (fun x hx => h1 x (List.mem_append_right _ hx)) (fun x hx => h2 x (List.mem_append_right _ hx)), rfl⟩
theorem law_post {f : Func} {s : ChangeSpec} {tb : TypeId} {W W' : World} {args : Array Value} {ds gs : List (DataW H)} {before : List MemPlace} (hl : laidOutB P = true) (hts : ∀ t ∈ f.params.toList, P.readableRec t = true ∧ t < P.types.size)
    (hv : s.vars = []) (hr : f.resultTypes = #[tb]) (hb : P.underlying tb = some .bool)
    (hW : DataW.Whole enc P f.params.toList s.vars false W args.toList ds gs before) (hs : s.fn H ds = { results := [.lit (.bool true)], args := ds }) (hB : Below W.heap.size W W') :
    s.post enc P f false true false false W args (.bool true) W' := by
  have hlt := hW.lt
  obtain ⟨p, q, hA, hV, rfl, hfz, hnd⟩ := id hW
  rw [hv] at hV
  obtain ⟨rfl, rfl⟩ := trodVars_none hV
  refine ⟨ds, [], p ++ [], [], p, [], hW, ?_, ?_, ?_, hB.frame _, fun h => by cases h⟩
  · rw [hr, List.append_nil, hs]
    exact trodAll_cons_mk (shut_bool hb _) trodAll_mk0
  · rw [List.append_nil, hs]
    exact trodAll_stays hl hB hts hA (fun x hx => hlt x (by simpa using hx)) (fun x hx => by simpa using hlt x (by simpa using hx))
  · rw [hv, List.append_nil, hs]
    rfl
end
theorem dec_encV {α : Type} {f : α → AV} {t : Ty} {n : Nat} (h : ∀ v, t.fits v = true → ∃ a, v = f a) {v : AV} (hv : (Ty.arr n t).fits v = true) : ∃ w : Vector α n, v = encV f w := by
  cases v with
  | arr k g =>
    simp only [Ty.fits, Bool.and_eq_true, beq_iff_eq, List.all_eq_true] at hv
    obtain ⟨rfl, hg⟩ := hv
    have hc : ∀ i, ∃ a, g i = f a := fun i => h _ (hg i (List.mem_finRange _))
    refine ⟨Vector.ofFn fun i => (hc i).choose, ?_⟩
    simp only [encV]
    congr 1
    funext i
    simp only [Fin.getElem_fin, Vector.getElem_ofFn]
    exact (hc i).choose_spec
  | _ => simp [Ty.fits] at hv
theorem dec_int {v : AV} (h : tI.fits v = true) : ∃ n, v = .int .i64 n := by
  cases v <;> simp [tI, Ty.fits, LK.fits, AV.safe] at h
  subst h; exact ⟨_, rfl⟩
theorem dec_bool {v : AV} (h : tB.fits v = true) : ∃ n, v = .bool n := by
  cases v <;> simp [tB, Ty.fits, LK.fits, AV.safe] at h
  exact ⟨_, rfl⟩
theorem dec_str {v : AV} (h : tS.fits v = true) : ∃ n, v = .str n := by
  cases v <;> simp [tS, Ty.fits, LK.fits, AV.safe] at h
  exact ⟨_, rfl⟩
theorem dec_cons {a b : Ty} {v : AV} (h : (Ty.cons a b).fits v = true) : ∃ x y, v = .cons x y ∧ a.fits x = true ∧ b.fits y = true := by
  cases v <;> simp [Ty.fits] at h
  exact ⟨_, _, rfl, h⟩
theorem dec_unit {v : AV} (h : Ty.unit.fits v = true) : v = .unit := by
  cases v <;> simp [Ty.fits] at h
  rfl
theorem dec_ent {v : AV} (h : tEntry.fits v = true) : ∃ e : Ent, v = e.enc := by
  obtain ⟨a, v, rfl, ha, h⟩ := dec_cons h
  obtain ⟨b, v, rfl, hb, h⟩ := dec_cons h
  obtain ⟨c, v, rfl, hc, h⟩ := dec_cons h
  obtain rfl := dec_unit h
  obtain ⟨a, rfl⟩ := dec_str ha
  obtain ⟨b, rfl⟩ := dec_int hb
  obtain ⟨c, rfl⟩ := dec_int hc
  exact ⟨⟨a, b, c⟩, rfl⟩
theorem dec_dat {v : AV} (h : tData.fits v = true) : ∃ e : Dat, v = e.enc := by
  obtain ⟨a, v, rfl, ha, h⟩ := dec_cons h
  obtain ⟨b, v, rfl, hb, h⟩ := dec_cons h
  obtain rfl := dec_unit h
  obtain ⟨a, rfl⟩ := dec_int ha
  obtain ⟨b, rfl⟩ := dec_str hb
  exact ⟨⟨a, b⟩, rfl⟩
theorem dec_ino {v : AV} (h : tInode.fits v = true) : ∃ e : Ino, v = e.enc := by
  obtain ⟨a, v, rfl, ha, h⟩ := dec_cons h
  obtain ⟨b, v, rfl, hb, h⟩ := dec_cons h
  obtain ⟨c, v, rfl, hc, h⟩ := dec_cons h
  obtain ⟨d, v, rfl, hd, h⟩ := dec_cons h
  obtain rfl := dec_unit h
  obtain ⟨a, rfl⟩ := dec_bool ha
  obtain ⟨b, rfl⟩ := dec_int hb
  obtain ⟨c, rfl⟩ := dec_int hc
  obtain ⟨d, rfl⟩ := dec_encV (f := AV.int .i64) (fun _ => dec_int) hd
  exact ⟨⟨a, b, c, d⟩, rfl⟩
theorem dec_img {v : AV} (h : tImage.fits v = true) : ∃ e : Img, v = e.enc := by
  obtain ⟨a, v, rfl, ha, h⟩ := dec_cons h
  obtain ⟨b, v, rfl, hb, h⟩ := dec_cons h
  obtain ⟨c, v, rfl, hc, h⟩ := dec_cons h
  obtain rfl := dec_unit h
  obtain ⟨a, rfl⟩ := dec_encV (f := Ino.enc) (fun _ => dec_ino) ha
  obtain ⟨b, rfl⟩ := dec_encV (f := encV Ent.enc) (fun _ => dec_encV (f := Ent.enc) fun _ => dec_ent) hb
  obtain ⟨c, rfl⟩ := dec_encV (f := Dat.enc) (fun _ => dec_dat) hc
  exact ⟨⟨a, b, c⟩, rfl⟩
end Go.Mini

namespace Go.Mini
open Go.RowKit Go.ChangeShapes
set_option linter.unusedVariables false
set_option linter.unusedSimpArgs false
def HP.args (f : Nat → Option Blk) : HP := ⟨fun _ => [], fun _ => none, 0, f⟩
def betaA (g : Nat → Option Place) : Beta
  | .arg n => g n
  | _ => none
def elemOk (P : Program) (ks : List LK) (e : TypeId) : Bool :=
  match P.underlying e with
  | some (.struct fs) => Go.Deep.oneCellFields P fs && (P.cellsOf e == fs.size) && (fs.toList.map (fun f => kindOf (P.underlying f.type)) == ks.map some)
  | d => (P.cellsOf e == 1) && (match kindOf d with | some k => ks == [k] | none => false)
section
variable {H : Type} {enc : TypeId × Value → H} {P : Program} {w : World} {base : Nat} {spare : Nat → Bool} {held : Bool} {φ : Nat → Option FuncId} {β : Beta}
theorem wf_has {k : IntKind} {n : Int} (h : (Lit.int k n).wf = true) : k.has n := by
  simp only [Lit.wf, Bool.and_eq_true, decide_eq_true_eq] at h
  exact h
theorem maxLen_le {n : Nat} (h : n ≤ maxLen) : (n : Int) ≤ IntKind.i64.max := by
  have : IntKind.i64.max = 2 ^ 63 - 1 := by decide
  rw [this]
  unfold maxLen at h
  omega
theorem leaf_trod {u : TypeId} {k : LK} {n : Nat} {cs : List Value} {y : DataW H × List MemPlace} (hk : kindOf (P.underlying u) = some k) (h : DataW.trod enc P w base spare held n u cs = some y) : ∃ x, cs = [x] ∧ okCell k x := by
  unfold kindOf at hk
  split at hk <;> simp at hk <;> subst hk <;> rename_i hu
  · cases n with
    | zero => simp [DataW.trod] at h
    | succ n =>
      unfold DataW.trod at h
      rw [hu] at h
      match cs, h with
      | [.bool b], _ => exact ⟨_, rfl, b, rfl⟩
  · obtain ⟨s, rfl, _, hs⟩ := DataW.trod_string hu h
    exact ⟨_, rfl, s, rfl, maxLen_le hs⟩
  · obtain ⟨m, rfl, _, hs⟩ := DataW.trod_int hu h
    exact ⟨_, rfl, m, rfl, wf_has hs⟩
theorem elem_trod {e : TypeId} {ks : List LK} {n : Nat} {cs : List Value} {y : DataW H × List MemPlace} (hk : elemOk P ks e = true) (h : DataW.trod enc P w base spare held n e cs = some y) : All2 okCell ks cs := by
  unfold elemOk at hk
  split at hk
  · rename_i fs hu
    simp only [Bool.and_eq_true, beq_iff_eq] at hk
    obtain ⟨⟨h1, h2⟩, h3⟩ := hk
    obtain ⟨xs, m, rfl, rfl, hl, hxl, hf⟩ := DataW.trod_struct hu h
    have hone := Go.Deep.hone_of h1
    have hkl : ks.length = fs.size := by simpa using (congrArg List.length h3).symm
    refine ⟨by omega, fun i k x hi hx => ?_⟩
    have hi' : i < fs.size := by
      rcases Nat.lt_or_ge i ks.length with h | h
      · omega
      · rw [List.getElem?_eq_none h] at hi; simp at hi
    have hfi : fs[i]? = some fs[i] := Array.getElem?_eq_getElem hi'
    obtain ⟨ho, hc1⟩ := hone i _ hfi
    have g := hf i _ hfi
    rw [ho, hc1, Go.Deep.take1_drop cs i undef (by omega), List.getElem?_eq_getElem (by omega)] at g
    have hki : kindOf (P.underlying fs[i].type) = some k := by
      have := congrArg (fun l => l[i]?) h3
      simp only [List.getElem?_map, hi, Array.getElem?_toList, hfi, Option.map_some] at this
      simpa using this
    obtain ⟨x', e1, e2⟩ := leaf_trod hki g
    have : cs.getD i undef = x := by simp [List.getD, hx]
    rw [this] at e1
    simp at e1
    subst e1; exact e2
  · simp only [Bool.and_eq_true, beq_iff_eq] at hk
    obtain ⟨_, hk⟩ := hk
    cases hq : kindOf (P.underlying e) with
    | none => rw [hq] at hk; simp at hk
    | some k =>
      rw [hq] at hk
      simp at hk
      subst hk
      obtain ⟨x, rfl, hx⟩ := leaf_trod hq h
      exact All2.cons hx All2.nil
structure SliceAt (φ : Nat → Option FuncId) (W : World) (t : Ty) (l : List AV) (x : Value) (pl : Place) : Prop where
  ty : pl.ty = .arr l.length t
  val : ∀ (g : Nat → Option Place) n, g n = some pl → VR φ (betaA g) (.sl (.arg n) 0 l.length) x
  blk : ∀ (g : Nat → Option Place) (O : Nat → Prop) n, g n = some pl → ∃ cs T fr, BR φ (betaA g) O (.arg n) ⟨.arr l.length t, .ofList l⟩ W pl cs T fr
theorem fits_ofList {t : Ty} {l : List AV} (h : ∀ v ∈ l, t.fits v = true) : (Ty.arr l.length t).fits (.ofList l) = true := by
  simp only [AV.ofList, Ty.fits, beq_self_eq_true, Bool.true_and, List.all_eq_true]
  exact fun i _ => h _ (List.get_mem ..)
theorem given_slice {t : Ty} {U e : TypeId} {r : Reach} {b : Nat} {x : Value} {d : DataW H} {ps : List MemPlace} (hu : P.underlying U = some (.slice e)) (hk : elemOk P t.kinds e = true) (hs : P.cellsOf e = t.size) (hp : 0 < t.size)
    (hok : Value.okWide P w r b U x) (h : DataW.Trod enc P w 0 (fun _ => true) true U x d ps) :
    ∃ l : List AV, (∀ v ∈ l, t.fits v = true ∧ v.ranged) ∧ ((l = [] ∧ (x = .slice none 0 0 ∨ ∃ a cap, x = .slice (some a) 0 cap)) ∨ ∃ pl, SliceAt φ w t l x pl) := by
  obtain ⟨fuel, h⟩ := h
  have hx : Cell.okWide P w r b U x := by unfold Value.okWide at hok; rw [hu] at hok; exact hok
  have hx' : Cell.ok P w r b U x := by
    unfold Cell.okWide at hx
    rw [hu] at hx
    cases x <;> exact hx
  have hx'' : x = .slice none 0 0 ∨ ∃ a len cap, x = .slice (some a) len cap ∧ len ≤ cap ∧ a.spot = none := by
    unfold Cell.ok at hx'
    rw [hu] at hx'
    cases x with
    | slice a len cap =>
      cases a with
      | none =>
        cases len <;> cases cap <;> simp at hx'
        exact .inl rfl
      | some a => exact .inr ⟨a, len, cap, rfl, hx'.1, hx'.2.2.2.1⟩
    | _ => simp at hx'
  rcases hx'' with rfl | ⟨a, len, cap, rfl, hlc, hspot⟩
  · exact ⟨[], by simp, .inl ⟨rfl, .inl rfl⟩⟩
  by_cases h0 : len = 0
  · subst h0
    exact ⟨[], by simp, .inl ⟨rfl, .inr ⟨a, cap, rfl⟩⟩⟩
  rcases Go.Deep.open_slice hu h with ⟨h1, _⟩ | ⟨a', len', cap', m, n, D, Pl, h1, _, _, hcm, hm, _, hel⟩
  · simp [Value.cells] at h1
  simp [Value.cells] at h1
  obtain ⟨rfl, rfl, rfl⟩ := h1
  simp only [if_true] at hm
  subst hm
  rw [hs] at hel
  obtain ⟨br, off, spot⟩ := a
  simp only at hspot
  subst hspot
  -- the block
  obtain ⟨cs0, hc0, _⟩ := hel 0 (by omega)
  obtain ⟨_, hl0, hcell0⟩ := World.cells?_some hc0
  have hb0 := hcell0 0 hp
  rw [List.getElem?_eq_getElem (by omega)] at hb0
  obtain ⟨cs, T, fr, hheap⟩ : ∃ cs T fr, w.heap[br]? = some (.cells cs T fr) := by
    have hblk : ((Addr.mk br off none).add (0 * t.size)).add 0 = ⟨br, off, none⟩ := by simp [Addr.add]
    rw [hblk] at hb0
    unfold World.cell? at hb0
    split at hb0
    · exact ⟨_, _, _, by assumption⟩
    · simp at hb0
  have hcell : ∀ i, i < m → ∀ k, k < t.size → ∀ ci, w.cells? 0 ((Addr.mk br off none).add (i * t.size)) t.size = some ci → cs[off + i * t.size + k]? = ci[k]? := by
    intro i hi k hkt ci hci
    obtain ⟨_, hl, hcell⟩ := World.cells?_some hci
    rw [← hcell k hkt]
    have : ((Addr.mk br off none).add (i * t.size)).add k = ⟨br, off + i * t.size + k, none⟩ := by
      unfold Addr.add
      by_cases e1 : i * t.size = 0 <;> by_cases e2 : k = 0 <;> simp [e1, e2]
    rw [this]
    simp [World.cell?, hheap]
  obtain ⟨V, hV⟩ := Go.Deep.choose_lt (α := AV) (n := len) (p := fun i v => t.fits v = true ∧ v.ranged ∧ ∀ (β : Beta) k c, v.flat[k]? = some c → ∃ x, cs[off + i * t.size + k]? = some x ∧ LR φ β c x) (fun i hi => by
    obtain ⟨ci, hci, hti⟩ := hel i (by omega)
    obtain ⟨_, hlci, _⟩ := World.cells?_some hci
    obtain ⟨v, hf, hl, hr⟩ := build (φ := φ) (β := fun _ => none) t ci (elem_trod hk hti)
    refine ⟨v, hf, hr, fun β k c hc => ?_⟩
    have hkt : k < t.size := by
      rcases Nat.lt_or_ge k v.flat.length with h | h
      · rw [Ty.fits_length hf] at h; exact h
      · rw [List.getElem?_eq_none h] at hc; simp at hc
    refine ⟨ci[k]'(by omega), ?_, ?_⟩
    · rw [hcell i (by omega) k hkt ci hci, List.getElem?_eq_getElem (by omega)]
    · have := hl.2 k c _ hc (List.getElem?_eq_getElem (by omega))
      exact LR_congr (fun i pl _ h => by simp at h) this)
  refine ⟨(List.range len).map V, fun v hv => ?_, .inr ⟨⟨br, off, .arr len t, m * t.size⟩, by simp, fun g n hg => ?_, fun g O n hg => ⟨cs, T, fr, ?_⟩⟩⟩
  · obtain ⟨i, hi, rfl⟩ := List.mem_map.1 hv
    obtain ⟨h1, h2, _⟩ := hV i (List.mem_range.1 hi)
    exact ⟨h1, h2⟩
  · refine VR_of_VR1 ?_
    simp only [VR1, AV.isAgg, Bool.false_eq_true, if_false, LR, AV.rel, List.length_map, List.length_range]
    exact ⟨_, len, t, m, hg, rfl, by omega, by omega, by simp, by simp⟩
  · have hfits : (Ty.arr ((List.range len).map V).length t).fits (.ofList ((List.range len).map V)) = true := fits_ofList fun v hv => by
      obtain ⟨i, hi, rfl⟩ := List.mem_map.1 hv
      exact (hV i (List.mem_range.1 hi)).1
    refine ⟨hg, by simp, hfits, hheap, ?_, ?_, ?_, fun h => by simp [Id.isArg] at h⟩
    · -- room
      obtain ⟨ci, hci, _⟩ := hel (m - 1) (by omega)
      obtain ⟨_, hlci, _⟩ := World.cells?_some hci
      have := hcell (m - 1) (by omega) (t.size - 1) (by omega) ci hci
      rw [List.getElem?_eq_getElem (by omega)] at this
      obtain ⟨hlt, _⟩ := Array.getElem?_eq_some_iff.1 this
      show off + m * t.size ≤ cs.size
      have e : m * t.size = (m - 1) * t.size + t.size := by
        have : m = (m - 1) + 1 := by omega
        calc m * t.size = ((m - 1) + 1) * t.size := by rw [← this]
          _ = _ := by rw [Nat.add_mul, Nat.one_mul]
      omega
    · simp only [Ty.size, List.length_map, List.length_range]
      exact Nat.mul_le_mul_right _ hlc
    · intro k c hc
      have hflat : (AV.ofList ((List.range len).map V)).flat = (List.range len).flatMap fun i => (V i).flat := by
        rw [arr_flat, List.flatMap_map]
      rw [hflat] at hc
      have hlen : ∀ i ∈ List.range len, ((V i).flat).length = t.size := fun i hi => Ty.fits_length (hV i (List.mem_range.1 hi)).1
      have hk : k / t.size < len := by
        have hkl : k < ((List.range len).flatMap fun i => (V i).flat).length := by
          rcases Nat.lt_or_ge k ((List.range len).flatMap fun i => (V i).flat).length with h | h
          · exact h
          · rw [List.getElem?_eq_none h] at hc; simp at hc
        have hll : ((List.range len).flatMap fun i => (V i).flat).length = len * t.size := by
          rw [List.length_flatMap, List.map_congr_left hlen, List.map_const', List.sum_replicate_nat, List.length_range]
        rw [hll] at hkl
        exact (Nat.div_lt_iff_lt_mul hp).2 hkl
      have e := getElem?_flatMap_const (List.range len) (fun i => (V i).flat) t.size hlen (k / t.size) (by simpa using hk) (k % t.size) (Nat.mod_lt _ hp)
      have ek : k / t.size * t.size + k % t.size = k := by rw [Nat.mul_comm]; exact Nat.div_add_mod k t.size
      rw [ek] at e
      rw [e] at hc
      simp only [List.getElem_range] at hc
      obtain ⟨y, hy, hyl⟩ := (hV (k / t.size) hk).2.2 (betaA g) (k % t.size) c hc
      refine ⟨y, ?_, hyl⟩
      show cs[off + k]? = some y
      rw [← hy]
      congr 1
      omega
end
section
variable {P : Program} {T : Nat → Option MFun}
theorem law_runA {φ : Nat → Option FuncId} {fuel F f : Nat} {fn : MFun} {args : List AV} {rargs : List Value} {v : AV} {hp : HP} {bf : Nat → Option Blk} {g : Nat → Option Place} (hT : TblOk P T φ drawOk) (hmo : P.follows .mixedOrders = true) (hf : T f = some fn) (hF : φ f = some F) (hfree : fn.nfree = 0)
    (hrun : runFn T fuel f args (HP.args bf) = some (v, hp)) (hlen : args.length = fn.params) (ha : All2 (VR φ (betaA g)) args rargs) (W : World)
    (hB : ∀ n b, bf n = some b → ∃ pl cs T fr, BR φ (betaA g) (fun r => W.heap.size ≤ r) (.arg n) b W pl cs T fr) :
    Calls P F rargs.toArray W fun e W' => (∃ x β', e = .returned x ∧ VR φ β' v x) ∧ Below W.heap.size W W' := by
  unfold runFn at hrun
  rw [hf] at hrun
  simp only at hrun
  cases hr : run T fuel ⟨0, ⟨0, 0⟩⟩ [.code fn.body] (St.enter args (HP.args bf)) with
  | none => simp [hr] at hrun
  | some s2 =>
    simp only [hr, Option.map_eq_some_iff] at hrun
    obtain ⟨v', hv, he⟩ := hrun
    simp at he
    obtain ⟨rfl, _⟩ := he
    have hst : ∀ i b, (HP.args bf).look i = some b → ∃ n, i = .arg n ∧ bf n = some b := by
      intro i b hb
      cases i with
      | stk l t => simp [HP.args, HP.look, Own.get] at hb
      | obj n => simp [HP.args, HP.look] at hb
      | arg n => exact ⟨n, rfl, hb⟩
    have := callSim hT (drawSound hT hmo) fuel ⟨0, ⟨0, 0⟩⟩ fn F args (HP.args bf) s2 v' (betaA g) (fun r => W.heap.size ≤ r) rargs W (hT f fn F hf hF) hr hv (by simp [hlen, hfree]) ha
      ⟨fun i b hb => by obtain ⟨n, rfl, h⟩ := hst i b hb; exact hB n b h, fun i j bi bj pi pj hi hj _ _ _ _ => by
        obtain ⟨n, rfl, _⟩ := hst i bi hi
        obtain ⟨m, rfl, _⟩ := hst j bj hj
        exact ⟨rfl, rfl⟩⟩ (fun i pl h => by cases i <;> simp [betaA] at h <;> trivial) (fun _ _ => rfl) (fun r h => h)
    refine this.mono fun e W' h => ?_
    obtain ⟨x, β', rfl, hvx, _, hA⟩ := h
    exact ⟨⟨x, β', rfl, hvx⟩, hA.same.os, hA.same.tape, hA.same.output, hA.same.size, fun k hk => hA.same.block k hk (by omega)⟩
theorem law_callsS {φ : Nat → Option FuncId} {F f : Nat} {fn : MFun} {bf : Nat → Option Blk} {g : Nat → Option Place} (hT : TblOk P T φ drawOk) (hmo : P.follows .mixedOrders = true) (hf : T f = some fn) (hF : φ f = some F) (hfree : fn.nfree = 0)
    {args : Array Value} {avs : List AV} (W : World) (ha : All2 (VR φ (betaA g)) avs args.toList) (hlen : avs.length = fn.params) (hB : ∀ n b, bf n = some b → ∃ pl cs T fr, BR φ (betaA g) (fun r => W.heap.size ≤ r) (.arg n) b W pl cs T fr)
    (h : Ok T ⟨0, ⟨0, 0⟩⟩ fn (St.enter avs (HP.args bf)) fun v _ => v = .bool true) :
    Calls P F args W fun e W' => e = .returned (.bool true) ∧ Below W.heap.size W W' := by
  obtain ⟨n, s', v, hr, hv, rfl⟩ := h
  have hr' : runFn T n f avs (HP.args bf) = some (.bool true, s'.hp) := by simp only [runFn, hf, hr, hv]; rfl
  have := law_runA hT hmo hf hF hfree hr' hlen ha W hB
  rw [Array.toArray_toList] at this
  refine this.mono fun e W' h => ⟨?_, h.2⟩
  obtain ⟨⟨x, β', rfl, hv⟩, _⟩ := h
  simp [VR, VR1, AV.isAgg, LR, AV.rel] at hv
  rw [hv]
end
end Go.Mini

namespace Go.Mini
open Go.RowKit Go.ChangeShapes
set_option linter.unusedVariables false
set_option linter.unusedSimpArgs false
theorem dec_step {v : AV} (h : tStep.fits v = true) : ∃ x : SStep, v = x.enc := by
  obtain ⟨a, v, rfl, ha, h⟩ := dec_cons h
  obtain ⟨b, v, rfl, hb, h⟩ := dec_cons h
  obtain ⟨c, v, rfl, hc, h⟩ := dec_cons h
  obtain ⟨d, v, rfl, hd, h⟩ := dec_cons h
  obtain ⟨e, v, rfl, he, h⟩ := dec_cons h
  obtain ⟨f, v, rfl, hf, h⟩ := dec_cons h
  obtain ⟨g, v, rfl, hg, h⟩ := dec_cons h
  obtain rfl := dec_unit h
  obtain ⟨a, rfl⟩ := dec_int ha
  obtain ⟨b, rfl⟩ := dec_int hb
  obtain ⟨c, rfl⟩ := dec_int hc
  obtain ⟨d, rfl⟩ := dec_int hd
  obtain ⟨e, rfl⟩ := dec_str he
  obtain ⟨f, rfl⟩ := dec_str hf
  obtain ⟨g, rfl⟩ := dec_str hg
  exact ⟨⟨a, b, c, d, e, f, g⟩, rfl⟩
theorem dec_list {α : Type} {t : Ty} {f : α → AV} (hd : ∀ v, t.fits v = true → ∃ a, v = f a) : ∀ l : List AV, (∀ v ∈ l, t.fits v = true) → ∃ L : List α, l = L.map f
  | [], _ => ⟨[], rfl⟩
  | v :: l, h => by
    obtain ⟨a, rfl⟩ := hd v (h v List.mem_cons_self)
    obtain ⟨L, rfl⟩ := dec_list hd l fun w hw => h w (List.mem_cons_of_mem _ hw)
    exact ⟨a :: L, rfl⟩
theorem i64max : IntKind.i64.max = 9223372036854775807 := by decide
theorem step_ranged {x : SStep} (h : x.enc.ranged) : x.ok := by
  obtain ⟨_, _, _, _, h5, h6, h7, _⟩ := h
  have e := i64max
  refine ⟨?_, ?_, ?_⟩
  · have : ((ByteArray.size x.name : Nat) : Int) ≤ IntKind.i64.max := h5
    omega
  · have : ((ByteArray.size x.to : Nat) : Int) ≤ IntKind.i64.max := h6
    omega
  · have : ((ByteArray.size x.text : Nat) : Int) ≤ IntKind.i64.max := h7
    omega
section
variable {H : Type} {enc : TypeId × Value → H} {P : Program} {w : World} {φ : Nat → Option FuncId}
theorem given_steps {U e : TypeId} {r : Reach} {b : Nat} {x : Value} {d : DataW H} {ps : List MemPlace} (hu : P.underlying U = some (.slice e)) (hk : elemOk P tStep.kinds e = true) (hs : P.cellsOf e = tStep.size)
    (hok : Value.okWide P w r b U x) (h : DataW.Trod enc P w 0 (fun _ => true) true U x d ps) (n : Nat) :
    ∃ (L : List SStep) (v : AV) (bf : Option Blk) (pl : Option Place), (∀ k, (stp L k).ok) ∧ (∀ g : Nat → Option Place, g n = pl → VR φ (betaA g) v x) ∧
      (∀ (g : Nat → Option Place) (O : Nat → Prop) (b : Blk), g n = pl → bf = some b → ∃ pl' cs T fr, BR φ (betaA g) O (.arg n) b w pl' cs T fr) ∧ (∀ h : HP, h.arg n = bf → StepsV h v L) := by
  obtain ⟨l, hl, hc⟩ := given_slice (φ := φ) (t := tStep) hu hk hs (by decide) hok h
  obtain ⟨L, rfl⟩ := dec_list (fun _ => dec_step) l fun v hv => (hl v hv).1
  have hokL : ∀ k, (stp L k).ok := by
    intro k
    by_cases hk : k < L.length
    · have : stp L k = L[k] := by simp [stp, hk]
      rw [this]
      exact step_ranged (hl _ (List.mem_map.2 ⟨_, List.getElem_mem hk, rfl⟩)).2
    · have : stp L k = ⟨0, 0, 0, 0, ⟨#[]⟩, ⟨#[]⟩, ⟨#[]⟩⟩ := by simp only [stp]; rw [List.getD_eq_getElem?_getD, List.getElem?_eq_none (by omega)]; rfl
      rw [this]
      exact ⟨Nat.zero_le _, Nat.zero_le _, Nat.zero_le _⟩
  rcases hc with ⟨h0, hx⟩ | ⟨pl, hp⟩
  · have hL : L = [] := by simpa using h0
    subst hL
    rcases hx with rfl | ⟨a, cap, rfl⟩
    · exact ⟨[], .nilsl, none, none, hokL, fun g _ => by simp [VR, VR1, AV.isAgg, LR, AV.rel], fun _ _ b _ hb => by simp at hb, fun h _ => ⟨rfl, fun _ _ => rfl, fun _ _ => rfl, fun k hk => by simp at hk⟩⟩
    · exact ⟨[], .slz, none, none, hokL, fun g _ => by simp [VR, VR1, AV.isAgg, LR, AV.rel], fun _ _ b _ hb => by simp at hb, fun h _ => ⟨rfl, fun _ _ => rfl, fun _ _ => rfl, fun k hk => by simp at hk⟩⟩
  · have hlen : (L.map SStep.enc).length = L.length := List.length_map ..
    refine ⟨L, .sl (.arg n) 0 L.length, some ⟨.arr L.length tStep, encSteps L⟩, some pl, hokL, fun g hg => ?_, fun g O b hg hb => ?_, fun h hh => ⟨rfl, fun a b => fg_args n a b _ _, fun a b => leads_args n a b _ _, fun k hk => ⟨n, rfl, ?_⟩⟩⟩
    · have := hp.val g n hg
      rwa [hlen] at this
    · simp only [Option.some.injEq] at hb
      subst hb
      obtain ⟨cs, T, fr, hB⟩ := hp.blk g O n hg
      rw [hlen] at hB
      exact ⟨pl, cs, T, fr, hB⟩
    · simp only [HP.look]; exact hh
end
section
variable {P : Program} {φ : Nat → Option FuncId} {β : Beta} {W : World} {r : Reach} {b : Nat} {x : Value} {U : TypeId}
theorem given_intB (hk : kindOf (P.underlying U) = some (.int .i64)) (h : Value.okWide P W r b U x) : ∃ n, VR φ β (.int .i64 n) x := by
  obtain ⟨v, h1, _, h3⟩ := given_leaf (φ := φ) (β := β) hk h
  obtain ⟨n, rfl⟩ := dec_int h1
  exact ⟨n, h3⟩
theorem given_strB (hk : kindOf (P.underlying U) = some .str) (h : Value.okWide P W r b U x) : ∃ n : Str, n.size ≤ 9223372036854775807 ∧ VR φ β (.str n) x := by
  obtain ⟨v, h1, h2, h3⟩ := given_leaf (φ := φ) (β := β) hk h
  obtain ⟨n, rfl⟩ := dec_str h1
  have e := i64max
  have : ((ByteArray.size n : Nat) : Int) ≤ IntKind.i64.max := h2
  exact ⟨n, by omega, h3⟩
theorem given_imgB {ts : List TypeId} (hts : P.cellTypes P.depth U = some ts) (hk : (ts.map fun u => kindOf (P.underlying u)) = tImage.kinds.map some) (hu : ∃ fs, P.underlying U = some (.struct fs)) (hc : P.cellsOf U = tImage.kinds.length)
    (h : Value.okWide P W r b U x) : ∃ m : Img, VR φ β m.enc x := by
  obtain ⟨v, h1, _, h3⟩ := given_agg (φ := φ) (β := β) hts hk rfl (.inl hu) hc h
  obtain ⟨n, rfl⟩ := dec_img h1
  exact ⟨n, h3⟩
theorem given_stepB {ts : List TypeId} (hts : P.cellTypes P.depth U = some ts) (hk : (ts.map fun u => kindOf (P.underlying u)) = tStep.kinds.map some) (hu : ∃ fs, P.underlying U = some (.struct fs)) (hc : P.cellsOf U = tStep.kinds.length)
    (h : Value.okWide P W r b U x) : ∃ m : SStep, m.ok ∧ VR φ β m.enc x := by
  obtain ⟨v, h1, h2, h3⟩ := given_agg (φ := φ) (β := β) hts hk rfl (.inl hu) hc h
  obtain ⟨n, rfl⟩ := dec_step h1
  exact ⟨n, step_ranged h2, h3⟩
end
theorem lets_top' : ∀ n, (⟨0, ⟨0, 0⟩⟩ : Cx).prot.lets (.obj n) = true := fun n => decide_eq_true (Nat.zero_le n)
def one1 {α : Type} (a : Option α) : Nat → Option α := fun n => if n = 0 then a else none
def two2 {α : Type} (a b : Option α) : Nat → Option α := fun n => if n = 0 then a else if n = 1 then b else none
end Go.Mini
