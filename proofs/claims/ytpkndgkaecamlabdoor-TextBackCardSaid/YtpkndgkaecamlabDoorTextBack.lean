/- The card of the statement 'TextBack': whatever the input, the call returns true and leaves its arguments as they were. Its condition: the listed package variables hold what the program's own text lays in them. -/
import Derived.Test.YtpkndgkaecamlabDoorTxE
import Derived.Test.YtpkndgkaecamlabDoorCards
import Derived.SizedLaws
import Derived.ProofKit

set_option linter.unusedSectionVars false
set_option linter.unnecessarySimpa false
set_option linter.unusedVariables false
set_option linter.unusedSimpArgs false
namespace Go.Proofs.YtpkndgkaecamlabDoor.TextBack
open Go.Mini Go.ChangeShapes Go.WideShapes Go.ChangeAt Go.RowKit
set_option linter.unusedVariables false
set_option maxRecDepth 100000
open Go.Proofs.YtpkndgkaecamlabDoor.Base
theorem bool4 : Tryd.prog.underlying 4 = some .bool := by kernel_rfl
theorem read9 : Tryd.prog.readableRec 9 = true ∧ 9 < Tryd.prog.types.size := ⟨by kernel_rfl, of_decide_eq_true (by kernel_rfl)⟩
theorem contract (H : Type) (enc : TypeId × Value → H) (W : World) (base : Nat) (args : Array Value) (ds gs : List (DataW H)) (before : List MemPlace)
    (hval : ∀ (j : Nat) t v, Tryd.f4.params[j]? = some t → args[j]? = some v → Value.okWide Tryd.prog W .any base t v)
    (hW : DataW.Whole enc Tryd.prog Tryd.f4.params.toList Rows.textBackSpec.vars false W args.toList ds gs before)
    (hwt0 : (DataW.weightsEach Tryd.prog (Tryd.f4.params.toList ++ Rows.textBackSpec.plain.varTypes Tryd.prog) (ds ++ gs)).all (· ≤ reachBytes) = true) (hL : laidMetH Tryd.prog Rows.textBackRow.laid W) :
    Calls Tryd.prog 4 args W fun e W' => ∃ v, e = .returned v ∧ Rows.textBackSpec.post enc Tryd.prog Tryd.f4 false true false false W args v W' := by
  have hW0 := hW
  obtain ⟨p, q, hB0, _, _, _, _⟩ := hW0
  have hA0 : DataW.TrodAll enc Tryd.prog W 0 (fun _ => true) true Tryd.f4.params.toList args.toList ds p := hB0
  clear hB0
  have hwt := hwt0
  clear hwt0
  rw [Tryd.params4] at hA0 hval hwt
  obtain ⟨v0, w0, d0, u0, _, _, e0, f0, g0, hT0, hA1⟩ := trodAll_cons hA0
  obtain ⟨v1, w1, d1, u1, _, _, e1, f1, g1, hT1, hA2⟩ := trodAll_cons hA1
  obtain ⟨hn, hd, _⟩ := trodAll_nil hA2
  have hargs : args = #[v0, v1] := by
    apply Array.toList_inj.1
    rw [e0, e1, hn]
  have hds : ds = [d0, d1] := by
    rw [f0, f1, hd]
  subst hargs; subst hds
  obtain ⟨x0, q0, qd0, _, _⟩ := Go.ChangeMaps.open_string Tryd.underlying9 (hval 0 9 v0 rfl rfl) hT0
  have hx0 : x0.data.toList.length < 4611686018427387904 := by
    have := sized_string hwt (j := 0) (t := 9) (bytes := x0.data.toList) rfl (by rw [← qd0]; rfl)
    unfold reachBytes at this; omega
  subst q0
  obtain ⟨x1, q1, qd1, _, _⟩ := Go.ChangeMaps.open_string Tryd.underlying9 (hval 1 9 v1 rfl rfl) hT1
  have hx1 : x1.data.toList.length < 4611686018427387904 := by
    have := sized_string hwt (j := 1) (t := 9) (bytes := x1.data.toList) rfl (by rw [← qd1]; rfl)
    unfold reachBytes at this; omega
  subst q1
  have hc := law_callsS (Cond := Cond) (bf := fun _ => none) (g := fun _ => none) tblOk mixed (f := 354) (F := 4) (fn := Fn.w_TextBack) (args := #[.string x0, .string x1]) (avs := [.str (bsL x0.data.toList), .str (bsL x1.data.toList)]) rfl rfl rfl W (cond_of_laid hL) (All2.cons (VR_of_VR1 (by simp [VR1, AV.isAgg, LR, AV.rel, bsL])) (All2.cons (VR_of_VR1 (by simp [VR1, AV.isAgg, LR, AV.rel, bsL])) All2.nil)) rfl (fun k b hb => absurd hb (by simp)) ((TextBack_ok (fun n _ => lets_top' n) hx0 hx1).mono fun _ _ h => h.1)
  refine hc.mono fun e W' h => ?_
  obtain ⟨rfl, hB⟩ := h
  have hts : ∀ t ∈ Tryd.f4.params.toList, Tryd.prog.readableRec t = true ∧ t < Tryd.prog.types.size := by
    rw [Tryd.params4]
    exact (List.forall_mem_cons.2 ⟨read9, (List.forall_mem_cons.2 ⟨read9, fun t ht => by cases ht⟩)⟩)
  exact ⟨_, rfl, law_post laidOut hts rfl rfl bool4 hW rfl hB⟩

theorem lifted (os : Os) (started : os.Started) (H : Type) (enc : TypeId × Value → H) :
    ReturnsInHanded {} Tryd.checked os 4 .any (fun w args => (Rows.textBackSpec.pre enc Tryd.prog Tryd.f4 [] false w args ∧ laidMetH Tryd.prog Rows.textBackRow.laid w) ∧ sizedMet enc Tryd.prog Tryd.f4 (OpenSpec.ofChange Rows.textBackSpec) false w args)
      (Rows.textBackSpec.post enc Tryd.prog Tryd.f4 false true false false) := by
  refine returnsInHanded_of_change_and (C := Tryd.checked) (X := fun w _ => laidMetH Tryd.prog Rows.textBackRow.laid w) (fun _ _ _ hh h => h.of_heap hh) own started (by kernel_rfl) Tryd.func4
    (ChangeSpec.witness_shaped (enc := enc) (C := Tryd.checked) (os := os) (X := fun w _ => laidMetH Tryd.prog Rows.textBackRow.laid w) false (World.doorLaid Tryd.prog 62 os) #[.string ⟨#[]⟩, .string ⟨#[]⟩] 8 rfl (World.shaped_of_RefB (by kernel_rfl) (by kernel_rfl)) (by kernel_rfl) (by kernel_rfl) (by kernel_rfl) (door_met os _)) ?_
  intro W base args ds gs before hval hW _ hwt hL _
  exact contract H enc W base args ds gs before hval hW hwt hL

theorem over : Rows.TextBackSaid :=
  OpenClaim.holds_of_wide 4 Tryd.f4 (by kernel_rfl) rfl rfl rfl rfl rfl rfl ⟨by kernel_rfl, by kernel_rfl, by kernel_rfl, by kernel_rfl, by kernel_rfl⟩ (by kernel_rfl) (by kernel_rfl) (by kernel_rfl) (by kernel_rfl) (by kernel_rfl) (by kernel_rfl) Tryd.func4 (by kernel_rfl)
    (of_decide_eq_true (by kernel_rfl)) (by unfold Func.isWrapper; first | (rw [if_pos (by decide +kernel)]; kernel_rfl) | (rw [if_neg (by decide +kernel)]; exact ⟨rfl, rfl⟩))
    (fun os started H enc _ => lifted os started H enc)

/-- The statement: the row's card. -/
theorem proved : Rows.TextBackCardSaid :=
  Claim7.holds_tied_plain_at .later [] [.data, .data, .data, .sentinel, .sentinel] true (true, "c85ba589ea4eb299bb8afdda679313327cfb22e1a2d34b8c66977f4fab37bcec") true
    over (fun _ h => by cases h) (by kernel_rfl) (fun _ h => by cases h) textBack_row_tie rfl ⟨rfl, rfl⟩ (by kernel_rfl) rfl
    (fun f fn hf hfn => by
      obtain rfl : f = 4 := Option.some.inj ((show Tryd.prog.funcNamed "eiderdown/eiderdownlaw.TextBack" = some 4 by kernel_rfl).symm.trans hf) |>.symm
      obtain rfl : fn = Tryd.f4 := (Option.some.inj (Tryd.func4.symm.trans hfn)).symm
      exact ⟨by kernel_rfl, fun j t ht => by
        rw [Tryd.params4] at ht
        have hm : t ∈ [9, 9] := by simpa using Array.mem_of_getElem? ht
        have hall : ([9, 9].all fun u => !Tryd.prog.wantsStandIn u) = true := by kernel_rfl
        exact (show Tryd.prog.wantsStandIn t = false by simpa using List.all_eq_true.1 hall t hm)⟩)
    (by kernel_rfl)
end Go.Proofs.YtpkndgkaecamlabDoor.TextBack
