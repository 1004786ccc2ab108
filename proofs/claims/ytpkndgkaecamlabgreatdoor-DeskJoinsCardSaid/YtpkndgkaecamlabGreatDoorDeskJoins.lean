/- The card of the statement 'DeskJoins': whatever the input, the call returns true and leaves its arguments as they were. Its condition: the listed package variables hold what the program's own text lays in them. -/
import Derived.Test.YtpkndgkaecamlabGreatDoorDjE
import Derived.Test.YtpkndgkaecamlabGreatDoorCards
import Derived.SizedLaws
import Derived.ProofKit

set_option linter.unusedSectionVars false
set_option linter.unnecessarySimpa false
set_option linter.unusedVariables false
set_option linter.unusedSimpArgs false
namespace Go.Proofs.YtpkndgkaecamlabGreatDoor.DeskJoins
open Go.Mini Go.ChangeShapes Go.WideShapes Go.ChangeAt Go.RowKit
set_option linter.unusedVariables false
set_option maxRecDepth 100000
open Go.Proofs.YtpkndgkaecamlabGreatDoor.Base
theorem bool4 : Tryz.prog.underlying 4 = some .bool := by kernel_rfl
theorem readL : Tryz.prog.readableRec 22 = true ∧ 22 < Tryz.prog.types.size := ⟨by kernel_rfl, of_decide_eq_true (by kernel_rfl)⟩
theorem readN : Tryz.prog.readableRec 3 = true ∧ 3 < Tryz.prog.types.size := ⟨by kernel_rfl, of_decide_eq_true (by kernel_rfl)⟩
theorem underL : Tryz.prog.underlying 22 = some (.slice 9) := by kernel_rfl
theorem elemL : elemOk Tryz.prog tS.kinds 9 = true := by kernel_rfl
theorem cellsS : Tryz.prog.cellsOf 9 = tS.size := by kernel_rfl
theorem bytesS : 16 ≤ Tryz.prog.bytesOf 9 := of_decide_eq_true (by kernel_rfl)
theorem contract (H : Type) (enc : TypeId × Value → H) (W : World) (base : Nat) (args : Array Value) (ds gs : List (DataW H)) (before : List MemPlace)
    (hval : ∀ (j : Nat) t v, Tryz.f3.params[j]? = some t → args[j]? = some v → Value.okWide Tryz.prog W .any base t v)
    (hW : DataW.Whole enc Tryz.prog Tryz.f3.params.toList Rows.deskJoinsSpec.vars false W args.toList ds gs before)
    (hwt0 : (DataW.weightsEach Tryz.prog (Tryz.f3.params.toList ++ Rows.deskJoinsSpec.plain.varTypes Tryz.prog) (ds ++ gs)).all (· ≤ reachBytes) = true) (hL : laidMetH Tryz.prog Rows.deskJoinsRow.laid W) (hsh : W.ShapedOpen Tryz.prog) :
    Calls Tryz.prog 3 args W fun e W' => ∃ v, e = .returned v ∧ Rows.deskJoinsSpec.post enc Tryz.prog Tryz.f3 false true false false W args v W' := by
  have hW0 := hW
  obtain ⟨p, q, hB0, _, _, _, _⟩ := hW0
  have hA0 : DataW.TrodAll enc Tryz.prog W 0 (fun _ => true) true Tryz.f3.params.toList args.toList ds p := hB0
  clear hB0
  have hwt := hwt0
  clear hwt0
  rw [Tryz.params3] at hA0 hval hwt
  obtain ⟨v0, w0, d0, u0, _, _, e0, f0, g0, hT0, hA1⟩ := trodAll_cons hA0
  obtain ⟨v1, w1, d1, u1, _, _, e1, f1, g1, hT1, hA2⟩ := trodAll_cons hA1
  obtain ⟨hn, hd, _⟩ := trodAll_nil hA2
  have hargs : args = #[v0, v1] := by
    apply Array.toList_inj.1
    rw [e0, e1, hn]
  have hds : ds = [d0, d1] := by
    rw [f0, f1, hd]
  subst hargs; subst hds
  letI : Fix := fixAt Tryz.prog W
  obtain ⟨L0, x0, bf0, pl0, hl0, hs0, r0, br0, hno0, sv0⟩ := given_strs (φ := phi) underL elemL cellsS Tryz.underlying9 bytesS (hval 0 22 v0 rfl rfl) hT0 (fun n hn => by
    have := List.all_eq_true.1 hwt n (DataW.weights_mem_each (j := 0) rfl rfl n hn)
    simpa using this) 0
  obtain ⟨x1, r1⟩ := given_intB (φ := phi) (β := betaA (one1 pl0)) (by kernel_rfl) (hval 1 3 v1 rfl rfl)
  have hc := law_callsS (Cond := Cond) (bf := one1 bf0) (g := one1 pl0) tblOk mixed (f := 426) (F := 3) (fn := Fn.w_DeskJoins) (args := #[v0, v1]) (avs := [x0, .int .i64 x1]) rfl rfl rfl W (cond_of_laid hL hsh) (All2.cons (r0 _ rfl) (All2.cons r1 All2.nil)) rfl (fun k b hb => by
    unfold one1 at hb
    split at hb
    · rename_i e; subst e; exact br0 _ _ _ rfl hb
    · exact absurd hb (by simp)) (Joins_ok lets_top' (sv0 _ _ rfl) hno0 hl0 hs0)
  refine hc.mono fun e W' h => ?_
  obtain ⟨rfl, hB⟩ := h
  have hts : ∀ t ∈ Tryz.f3.params.toList, Tryz.prog.readableRec t = true ∧ t < Tryz.prog.types.size := by
    rw [Tryz.params3]
    exact (List.forall_mem_cons.2 ⟨readL, (List.forall_mem_cons.2 ⟨readN, fun t ht => by cases ht⟩)⟩)
  exact ⟨_, rfl, law_post laidOut hts rfl rfl bool4 hW rfl hB⟩

theorem lifted (os : Os) (started : os.Started) (H : Type) (enc : TypeId × Value → H) :
    ReturnsInHanded {} Tryz.checked os 3 .any (fun w args => (Rows.deskJoinsSpec.pre enc Tryz.prog Tryz.f3 [] false w args ∧ laidMetH Tryz.prog Rows.deskJoinsRow.laid w) ∧ sizedMet enc Tryz.prog Tryz.f3 (OpenSpec.ofChange Rows.deskJoinsSpec) false w args)
      (Rows.deskJoinsSpec.post enc Tryz.prog Tryz.f3 false true false false) := by
  refine lift_shaped (C := Tryz.checked) (laid := Rows.deskJoinsRow.laid) (fun _ _ hh h => h.of_heap hh) own started (by kernel_rfl) Tryz.func3
    (ChangeSpec.witness_shaped (enc := enc) (C := Tryz.checked) (os := os) (X := fun w _ => laidMetH Tryz.prog Rows.deskJoinsRow.laid w) false (World.laidAll Tryz.prog os Rows.deskJoinsRow.laid) #[.slice none 0 0, .int .i64 0] 8 (World.laidAll_os _ _ _) (World.shaped_of_ZipB (by kernel_rfl) (by kernel_rfl)) (by kernel_rfl) (by kernel_rfl) (by kernel_rfl) (door_met os _)) ?_
  intro W base args ds gs before hval hW hwt hL hsh
  exact contract H enc W base args ds gs before hval hW hwt hL hsh

theorem over : Rows.DeskJoinsSaid :=
  OpenClaim.holds_of_wide 3 Tryz.f3 (by kernel_rfl) rfl rfl rfl rfl rfl rfl ⟨by kernel_rfl, by kernel_rfl, by kernel_rfl, by kernel_rfl, by kernel_rfl⟩ (by kernel_rfl) (by kernel_rfl) (by kernel_rfl) (by kernel_rfl) (by kernel_rfl) (by kernel_rfl) Tryz.func3 (by kernel_rfl)
    (of_decide_eq_true (by kernel_rfl)) (by unfold Func.isWrapper; first | (rw [if_pos (by decide +kernel)]; kernel_rfl) | (rw [if_neg (by decide +kernel)]; exact ⟨rfl, rfl⟩))
    (fun os started H enc _ => lifted os started H enc)

/-- The statement: the row's card. -/
theorem proved : Rows.DeskJoinsCardSaid :=
  Claim7.holds_tied_plain_at .later [] [.data, .data, .data, .data, .sentinel, .sentinel, .pinned] true (true, "15eb75360dbca8c9533308baff072a26fb108312bc6f1546578fd8bf7fa12118") true
    over (fun _ h => by cases h) (by kernel_rfl) (fun _ h => by cases h) deskJoins_row_tie rfl ⟨rfl, rfl⟩ (by kernel_rfl) rfl
    (fun f fn hf hfn => by
      obtain rfl : f = 3 := Option.some.inj ((show Tryz.prog.funcNamed "eiderdown/eiderdownlaw.DeskJoins" = some 3 by kernel_rfl).symm.trans hf) |>.symm
      obtain rfl : fn = Tryz.f3 := (Option.some.inj (Tryz.func3.symm.trans hfn)).symm
      exact ⟨by kernel_rfl, fun j t ht => by
        rw [Tryz.params3] at ht
        have hm : t ∈ [22, 3] := by simpa using Array.mem_of_getElem? ht
        have hall : ([22, 3].all fun u => !Tryz.prog.wantsStandIn u) = true := by kernel_rfl
        exact (show Tryz.prog.wantsStandIn t = false by simpa using List.all_eq_true.1 hall t hm)⟩)
    (by kernel_rfl)
end Go.Proofs.YtpkndgkaecamlabGreatDoor.DeskJoins
