/- The card of the statement 'TextDoes': whatever the input, the call returns true and leaves its arguments as they were. Its condition: the listed package variables hold what the program's own text lays in them. -/
import Derived.Test.YtpkndgkaecamlabDoorTxE
import Derived.Test.YtpkndgkaecamlabDoorCards
import Derived.SizedLaws
import Derived.ProofKit

set_option linter.unusedSectionVars false
set_option linter.unnecessarySimpa false
set_option linter.unusedVariables false
set_option linter.unusedSimpArgs false
namespace Go.Proofs.YtpkndgkaecamlabDoor.TextDoes
open Go.Mini Go.ChangeShapes Go.WideShapes Go.ChangeAt Go.RowKit
set_option linter.unusedVariables false
set_option maxRecDepth 100000
open Go.Proofs.YtpkndgkaecamlabDoor.Base
theorem bool4 : Tryd.prog.underlying 4 = some .bool := by kernel_rfl
theorem read34 : Tryd.prog.readableRec 34 = true ∧ 34 < Tryd.prog.types.size := ⟨by kernel_rfl, of_decide_eq_true (by kernel_rfl)⟩
theorem kinds34 : ((Tryd.prog.cellTypes Tryd.prog.depth 34).map fun ts => ts.map fun u => kindOf (Tryd.prog.underlying u)) = some (tImage.kinds.map some) := by kernel_rfl
theorem cells34 : Tryd.prog.cellsOf 34 = tImage.kinds.length := by kernel_rfl
theorem struct34 : ∃ fs, Tryd.prog.underlying 34 = some (.struct fs) := ⟨_, Tryd.underlying34⟩
def zeroImg : Value := .agg #[.bool false, .int .i64 0, .int .i64 0, .int .i64 0, .int .i64 0, .bool false, .int .i64 0, .int .i64 0, .int .i64 0, .int .i64 0, .bool false, .int .i64 0, .int .i64 0, .int .i64 0, .int .i64 0, .bool false, .int .i64 0, .int .i64 0, .int .i64 0, .int .i64 0, .bool false, .int .i64 0, .int .i64 0, .int .i64 0, .int .i64 0, .bool false, .int .i64 0, .int .i64 0, .int .i64 0, .int .i64 0, .bool false, .int .i64 0, .int .i64 0, .int .i64 0, .int .i64 0, .bool false, .int .i64 0, .int .i64 0, .int .i64 0, .int .i64 0, .string ⟨#[]⟩, .int .i64 0, .int .i64 0, .string ⟨#[]⟩, .int .i64 0, .int .i64 0, .string ⟨#[]⟩, .int .i64 0, .int .i64 0, .string ⟨#[]⟩, .int .i64 0, .int .i64 0, .string ⟨#[]⟩, .int .i64 0, .int .i64 0, .string ⟨#[]⟩, .int .i64 0, .int .i64 0, .string ⟨#[]⟩, .int .i64 0, .int .i64 0, .string ⟨#[]⟩, .int .i64 0, .int .i64 0, .string ⟨#[]⟩, .int .i64 0, .int .i64 0, .string ⟨#[]⟩, .int .i64 0, .int .i64 0, .string ⟨#[]⟩, .int .i64 0, .int .i64 0, .string ⟨#[]⟩, .int .i64 0, .int .i64 0, .int .i64 0, .string ⟨#[]⟩, .int .i64 0, .string ⟨#[]⟩, .int .i64 0, .string ⟨#[]⟩, .int .i64 0, .string ⟨#[]⟩, .int .i64 0, .string ⟨#[]⟩, .int .i64 0, .string ⟨#[]⟩, .int .i64 0, .string ⟨#[]⟩, .int .i64 0, .string ⟨#[]⟩, .int .i64 0, .string ⟨#[]⟩]
theorem read9 : Tryd.prog.readableRec 9 = true ∧ 9 < Tryd.prog.types.size := ⟨by kernel_rfl, of_decide_eq_true (by kernel_rfl)⟩
theorem contract (H : Type) (enc : TypeId × Value → H) (W : World) (base : Nat) (args : Array Value) (ds gs : List (DataW H)) (before : List MemPlace)
    (hval : ∀ (j : Nat) t v, Tryd.f3.params[j]? = some t → args[j]? = some v → Value.okWide Tryd.prog W .any base t v)
    (hW : DataW.Whole enc Tryd.prog Tryd.f3.params.toList Rows.textDoesSpec.vars false W args.toList ds gs before)
    (hwt0 : (DataW.weightsEach Tryd.prog (Tryd.f3.params.toList ++ Rows.textDoesSpec.plain.varTypes Tryd.prog) (ds ++ gs)).all (· ≤ reachBytes) = true) (hL : laidMetH Tryd.prog Rows.textDoesRow.laid W) :
    Calls Tryd.prog 3 args W fun e W' => ∃ v, e = .returned v ∧ Rows.textDoesSpec.post enc Tryd.prog Tryd.f3 false true false false W args v W' := by
  have hW0 := hW
  obtain ⟨p, q, hB0, _, _, _, _⟩ := hW0
  have hA0 : DataW.TrodAll enc Tryd.prog W 0 (fun _ => true) true Tryd.f3.params.toList args.toList ds p := hB0
  clear hB0
  have hwt := hwt0
  clear hwt0
  rw [Tryd.params3] at hA0 hval hwt
  obtain ⟨v0, w0, d0, u0, _, _, e0, f0, g0, hT0, hA1⟩ := trodAll_cons hA0
  obtain ⟨v1, w1, d1, u1, _, _, e1, f1, g1, hT1, hA2⟩ := trodAll_cons hA1
  obtain ⟨v2, w2, d2, u2, _, _, e2, f2, g2, hT2, hA3⟩ := trodAll_cons hA2
  obtain ⟨hn, hd, _⟩ := trodAll_nil hA3
  have hargs : args = #[v0, v1, v2] := by
    apply Array.toList_inj.1
    rw [e0, e1, e2, hn]
  have hds : ds = [d0, d1, d2] := by
    rw [f0, f1, f2, hd]
  subst hargs; subst hds
  obtain ⟨ts0, h10, h20⟩ := Option.map_eq_some_iff.1 kinds34
  obtain ⟨x0, hx0, r0⟩ := given_imgR (φ := phi) (β := betaA (fun _ => none)) (ts := ts0) h10 h20 struct34 cells34 (hval 0 34 v0 rfl rfl)
  obtain ⟨x1, q1, qd1, _, _⟩ := Go.ChangeMaps.open_string Tryd.underlying9 (hval 1 9 v1 rfl rfl) hT1
  have hx1 : x1.data.toList.length < 4611686018427387904 := by
    have := sized_string hwt (j := 1) (t := 9) (bytes := x1.data.toList) rfl (by rw [← qd1]; rfl)
    unfold reachBytes at this; omega
  subst q1
  obtain ⟨x2, q2, qd2, _, _⟩ := Go.ChangeMaps.open_string Tryd.underlying9 (hval 2 9 v2 rfl rfl) hT2
  have hx2 : x2.data.toList.length < 4611686018427387904 := by
    have := sized_string hwt (j := 2) (t := 9) (bytes := x2.data.toList) rfl (by rw [← qd2]; rfl)
    unfold reachBytes at this; omega
  subst q2
  have hc := law_callsS (Cond := Cond) (bf := fun _ => none) (g := fun _ => none) tblOk mixed (f := 353) (F := 3) (fn := Fn.w_TextDoes) (args := #[v0, .string x1, .string x2]) (avs := [x0.enc, .str (bsL x1.data.toList), .str (bsL x2.data.toList)]) rfl rfl rfl W (cond_of_laid hL) (All2.cons r0 (All2.cons (VR_of_VR1 (by simp [VR1, AV.isAgg, LR, AV.rel, bsL])) (All2.cons (VR_of_VR1 (by simp [VR1, AV.isAgg, LR, AV.rel, bsL])) All2.nil))) rfl (fun k b hb => absurd hb (by simp)) ((TextDoes_ok (fun n _ => lets_top' n) hx0 hx1 hx2).mono fun _ _ h => h.1)
  refine hc.mono fun e W' h => ?_
  obtain ⟨rfl, hB⟩ := h
  have hts : ∀ t ∈ Tryd.f3.params.toList, Tryd.prog.readableRec t = true ∧ t < Tryd.prog.types.size := by
    rw [Tryd.params3]
    exact (List.forall_mem_cons.2 ⟨read34, (List.forall_mem_cons.2 ⟨read9, (List.forall_mem_cons.2 ⟨read9, fun t ht => by cases ht⟩)⟩)⟩)
  exact ⟨_, rfl, law_post laidOut hts rfl rfl bool4 hW rfl hB⟩

theorem lifted (os : Os) (started : os.Started) (H : Type) (enc : TypeId × Value → H) :
    ReturnsInHanded {} Tryd.checked os 3 .any (fun w args => (Rows.textDoesSpec.pre enc Tryd.prog Tryd.f3 [] false w args ∧ laidMetH Tryd.prog Rows.textDoesRow.laid w) ∧ sizedMet enc Tryd.prog Tryd.f3 (OpenSpec.ofChange Rows.textDoesSpec) false w args)
      (Rows.textDoesSpec.post enc Tryd.prog Tryd.f3 false true false false) := by
  refine returnsInHanded_of_change_and (C := Tryd.checked) (X := fun w _ => laidMetH Tryd.prog Rows.textDoesRow.laid w) (fun _ _ _ hh h => h.of_heap hh) own started (by kernel_rfl) Tryd.func3
    (ChangeSpec.witness_shaped (enc := enc) (C := Tryd.checked) (os := os) (X := fun w _ => laidMetH Tryd.prog Rows.textDoesRow.laid w) false (World.doorLaid Tryd.prog 62 os) #[zeroImg, .string ⟨#[]⟩, .string ⟨#[]⟩] 8 rfl (World.shaped_of_RefB (by kernel_rfl) (by kernel_rfl)) (by kernel_rfl) (by kernel_rfl) (by kernel_rfl) (door_met os _)) ?_
  intro W base args ds gs before hval hW _ hwt hL _
  exact contract H enc W base args ds gs before hval hW hwt hL

theorem over : Rows.TextDoesSaid :=
  OpenClaim.holds_of_wide 3 Tryd.f3 (by kernel_rfl) rfl rfl rfl rfl rfl rfl ⟨by kernel_rfl, by kernel_rfl, by kernel_rfl, by kernel_rfl, by kernel_rfl⟩ (by kernel_rfl) (by kernel_rfl) (by kernel_rfl) (by kernel_rfl) (by kernel_rfl) (by kernel_rfl) Tryd.func3 (by kernel_rfl)
    (of_decide_eq_true (by kernel_rfl)) (by unfold Func.isWrapper; first | (rw [if_pos (by decide +kernel)]; kernel_rfl) | (rw [if_neg (by decide +kernel)]; exact ⟨rfl, rfl⟩))
    (fun os started H enc _ => lifted os started H enc)

/-- The statement: the row's card. -/
theorem proved : Rows.TextDoesCardSaid :=
  Claim7.holds_tied_plain_at .later [] [.data, .data, .data, .sentinel, .sentinel] true (true, "c85ba589ea4eb299bb8afdda679313327cfb22e1a2d34b8c66977f4fab37bcec") true
    over (fun _ h => by cases h) (by kernel_rfl) (fun _ h => by cases h) textDoes_row_tie rfl ⟨rfl, rfl⟩ (by kernel_rfl) rfl
    (fun f fn hf hfn => by
      obtain rfl : f = 3 := Option.some.inj ((show Tryd.prog.funcNamed "eiderdown/eiderdownlaw.TextDoes" = some 3 by kernel_rfl).symm.trans hf) |>.symm
      obtain rfl : fn = Tryd.f3 := (Option.some.inj (Tryd.func3.symm.trans hfn)).symm
      exact ⟨by kernel_rfl, fun j t ht => by
        rw [Tryd.params3] at ht
        have hm : t ∈ [34, 9, 9] := by simpa using Array.mem_of_getElem? ht
        have hall : ([34, 9, 9].all fun u => !Tryd.prog.wantsStandIn u) = true := by kernel_rfl
        exact (show Tryd.prog.wantsStandIn t = false by simpa using List.all_eq_true.1 hall t hm)⟩)
    (by kernel_rfl)
end Go.Proofs.YtpkndgkaecamlabDoor.TextDoes
