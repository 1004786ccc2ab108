/- The card of the statement 'TextApart': whatever the input, the call returns true and leaves its arguments as they were. Its condition: the listed package variables hold what the program's own text lays in them. -/
import Derived.Test.YtpkndgkaecamlacDoorTxE
import Derived.Test.YtpkndgkaecamlacDoorCards
import Derived.SizedLaws
import Derived.ProofKit

set_option linter.unusedSectionVars false
set_option linter.unnecessarySimpa false
set_option linter.unusedVariables false
set_option linter.unusedSimpArgs false
namespace Go.Proofs.YtpkndgkaecamlacDoor.TextApart
open Go.Mini Go.ChangeShapes Go.WideShapes Go.ChangeAt Go.RowKit
set_option linter.unusedVariables false
set_option maxRecDepth 100000
open Go.Proofs.YtpkndgkaecamlacDoor.Base
theorem bool4 : Tryd.prog.underlying 4 = some .bool := by kernel_rfl
theorem read34 : Tryd.prog.readableRec 34 = true ∧ 34 < Tryd.prog.types.size := ⟨by kernel_rfl, of_decide_eq_true (by kernel_rfl)⟩
theorem kinds34 : ((Tryd.prog.cellTypes Tryd.prog.depth 34).map fun ts => ts.map fun u => kindOf (Tryd.prog.underlying u)) = some (tImage.kinds.map some) := by kernel_rfl
theorem cells34 : Tryd.prog.cellsOf 34 = tImage.kinds.length := by kernel_rfl
theorem struct34 : ∃ fs, Tryd.prog.underlying 34 = some (.struct fs) := ⟨_, Tryd.underlying34⟩
def zeroImg : Value := .agg #[.bool false, .int .i64 0, .int .i64 0, .int .i64 0, .int .i64 0, .bool false, .int .i64 0, .int .i64 0, .int .i64 0, .int .i64 0, .bool false, .int .i64 0, .int .i64 0, .int .i64 0, .int .i64 0, .bool false, .int .i64 0, .int .i64 0, .int .i64 0, .int .i64 0, .bool false, .int .i64 0, .int .i64 0, .int .i64 0, .int .i64 0, .bool false, .int .i64 0, .int .i64 0, .int .i64 0, .int .i64 0, .bool false, .int .i64 0, .int .i64 0, .int .i64 0, .int .i64 0, .bool false, .int .i64 0, .int .i64 0, .int .i64 0, .int .i64 0, .string ⟨#[]⟩, .int .i64 0, .int .i64 0, .string ⟨#[]⟩, .int .i64 0, .int .i64 0, .string ⟨#[]⟩, .int .i64 0, .int .i64 0, .string ⟨#[]⟩, .int .i64 0, .int .i64 0, .string ⟨#[]⟩, .int .i64 0, .int .i64 0, .string ⟨#[]⟩, .int .i64 0, .int .i64 0, .string ⟨#[]⟩, .int .i64 0, .int .i64 0, .string ⟨#[]⟩, .int .i64 0, .int .i64 0, .string ⟨#[]⟩, .int .i64 0, .int .i64 0, .string ⟨#[]⟩, .int .i64 0, .int .i64 0, .string ⟨#[]⟩, .int .i64 0, .int .i64 0, .string ⟨#[]⟩, .int .i64 0, .int .i64 0, .int .i64 0, .string ⟨#[]⟩, .int .i64 0, .string ⟨#[]⟩, .int .i64 0, .string ⟨#[]⟩, .int .i64 0, .string ⟨#[]⟩, .int .i64 0, .string ⟨#[]⟩, .int .i64 0, .string ⟨#[]⟩, .int .i64 0, .string ⟨#[]⟩, .int .i64 0, .string ⟨#[]⟩, .int .i64 0, .string ⟨#[]⟩]
theorem contract (H : Type) (enc : TypeId × Value → H) (W : World) (base : Nat) (args : Array Value) (ds gs : List (DataW H)) (before : List MemPlace)
    (hval : ∀ (j : Nat) t v, Tryd.f3.params[j]? = some t → args[j]? = some v → Value.okWide Tryd.prog W .any base t v)
    (hW : DataW.Whole enc Tryd.prog Tryd.f3.params.toList Rows.textApartSpec.vars false W args.toList ds gs before)
    (hwt0 : (DataW.weightsEach Tryd.prog (Tryd.f3.params.toList ++ Rows.textApartSpec.plain.varTypes Tryd.prog) (ds ++ gs)).all (· ≤ reachBytes) = true) (hL : laidMetH Tryd.prog Rows.textApartRow.laid W) :
    Calls Tryd.prog 3 args W fun e W' => ∃ v, e = .returned v ∧ Rows.textApartSpec.post enc Tryd.prog Tryd.f3 false true false false W args v W' := by
  have hW0 := hW
  obtain ⟨p, q, hB0, _, _, _, _⟩ := hW0
  have hA0 : DataW.TrodAll enc Tryd.prog W 0 (fun _ => true) true Tryd.f3.params.toList args.toList ds p := hB0
  clear hB0
  have hwt := hwt0
  clear hwt0
  rw [Tryd.params3] at hA0 hval hwt
  obtain ⟨v0, w0, d0, u0, _, _, e0, f0, g0, hT0, hA1⟩ := trodAll_cons hA0
  obtain ⟨v1, w1, d1, u1, _, _, e1, f1, g1, hT1, hA2⟩ := trodAll_cons hA1
  obtain ⟨hn, hd, _⟩ := trodAll_nil hA2
  have hargs : args = #[v0, v1] := by
    apply Array.toList_inj.1
    rw [e0, e1, hn]
  have hds : ds = [d0, d1] := by
    rw [f0, f1, hd]
  subst hargs; subst hds
  obtain ⟨ts0, h10, h20⟩ := Option.map_eq_some_iff.1 kinds34
  obtain ⟨x0, hx0, r0⟩ := given_imgR (φ := phi) (β := betaA (fun _ => none)) (ts := ts0) h10 h20 struct34 cells34 (hval 0 34 v0 rfl rfl)
  obtain ⟨ts1, h11, h21⟩ := Option.map_eq_some_iff.1 kinds34
  obtain ⟨x1, hx1, r1⟩ := given_imgR (φ := phi) (β := betaA (fun _ => none)) (ts := ts1) h11 h21 struct34 cells34 (hval 1 34 v1 rfl rfl)
  have hc := law_callsS (Cond := Cond) (bf := fun _ => none) (g := fun _ => none) tblOk mixed (f := 360) (F := 3) (fn := Fn.w_TextApart) (args := #[v0, v1]) (avs := [x0.enc, x1.enc]) rfl rfl rfl W (cond_of_laid hL) (All2.cons r0 (All2.cons r1 All2.nil)) rfl (fun k b hb => absurd hb (by simp)) ((TextApart_ok (fun n _ => lets_top' n) hx0 hx1).mono fun _ _ h => h.1)
  refine hc.mono fun e W' h => ?_
  obtain ⟨rfl, hB⟩ := h
  have hts : ∀ t ∈ Tryd.f3.params.toList, Tryd.prog.readableRec t = true ∧ t < Tryd.prog.types.size := by
    rw [Tryd.params3]
    exact (List.forall_mem_cons.2 ⟨read34, (List.forall_mem_cons.2 ⟨read34, fun t ht => by cases ht⟩)⟩)
  exact ⟨_, rfl, law_post laidOut hts rfl rfl bool4 hW rfl hB⟩

theorem lifted (os : Os) (started : os.Started) (H : Type) (enc : TypeId × Value → H) :
    ReturnsInHanded {} Tryd.checked os 3 .any (fun w args => (Rows.textApartSpec.pre enc Tryd.prog Tryd.f3 [] false w args ∧ laidMetH Tryd.prog Rows.textApartRow.laid w) ∧ sizedMet enc Tryd.prog Tryd.f3 (OpenSpec.ofChange Rows.textApartSpec) false w args)
      (Rows.textApartSpec.post enc Tryd.prog Tryd.f3 false true false false) := by
  refine returnsInHanded_of_change_and (C := Tryd.checked) (X := fun w _ => laidMetH Tryd.prog Rows.textApartRow.laid w) (fun _ _ _ hh h => h.of_heap hh) own started (by kernel_rfl) Tryd.func3
    (ChangeSpec.witness_shaped (enc := enc) (C := Tryd.checked) (os := os) (X := fun w _ => laidMetH Tryd.prog Rows.textApartRow.laid w) false (World.doorLaid Tryd.prog 62 os) #[zeroImg, zeroImg] 8 rfl (World.shaped_of_RefB (by kernel_rfl) (by kernel_rfl)) (by kernel_rfl) (by kernel_rfl) (by kernel_rfl) (door_met os _)) ?_
  intro W base args ds gs before hval hW _ hwt hL _
  exact contract H enc W base args ds gs before hval hW hwt hL

theorem over : Rows.TextApartSaid :=
  OpenClaim.holds_of_wide 3 Tryd.f3 (by kernel_rfl) rfl rfl rfl rfl rfl rfl ⟨by kernel_rfl, by kernel_rfl, by kernel_rfl, by kernel_rfl, by kernel_rfl⟩ (by kernel_rfl) (by kernel_rfl) (by kernel_rfl) (by kernel_rfl) (by kernel_rfl) (by kernel_rfl) Tryd.func3 (by kernel_rfl)
    (of_decide_eq_true (by kernel_rfl)) (by unfold Func.isWrapper; first | (rw [if_pos (by decide +kernel)]; kernel_rfl) | (rw [if_neg (by decide +kernel)]; exact ⟨rfl, rfl⟩))
    (fun os started H enc _ => lifted os started H enc)

/-- The statement: the row's card. -/
theorem proved : Rows.TextApartCardSaid :=
  Claim7.holds_tied_plain_at .later [] [.data, .data, .data, .sentinel, .sentinel] true (true, "14814e5078e88177b5cf6067df417a61e0510f73c98e8c88d7192628b1477441") true
    over (fun _ h => by cases h) (by kernel_rfl) (fun _ h => by cases h) textApart_row_tie rfl ⟨rfl, rfl⟩ (by kernel_rfl) rfl
    (fun f fn hf hfn => by
      obtain rfl : f = 3 := Option.some.inj ((show Tryd.prog.funcNamed "eiderdown/eiderdownlaw.TextApart" = some 3 by kernel_rfl).symm.trans hf) |>.symm
      obtain rfl : fn = Tryd.f3 := (Option.some.inj (Tryd.func3.symm.trans hfn)).symm
      exact ⟨by kernel_rfl, fun j t ht => by
        rw [Tryd.params3] at ht
        have hm : t ∈ [34, 34] := by simpa using Array.mem_of_getElem? ht
        have hall : ([34, 34].all fun u => !Tryd.prog.wantsStandIn u) = true := by kernel_rfl
        exact (show Tryd.prog.wantsStandIn t = false by simpa using List.all_eq_true.1 hall t hm)⟩)
    (by kernel_rfl)
end Go.Proofs.YtpkndgkaecamlacDoor.TextApart
