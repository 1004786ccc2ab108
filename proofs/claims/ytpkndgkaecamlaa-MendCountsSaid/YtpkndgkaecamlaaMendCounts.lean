/- The statement 'MendCounts': whatever the input, the call returns true and leaves its arguments as they were. It has no condition. -/
import Derived.Test.YtpkndgkaecamlaaSeatA
import Derived.Test.YtpkndgkaecamlaaMiniY
namespace Go.Proofs.Ytpkndgkaecamlaa.mendCounts
open Go.Mini Go.ChangeShapes Go.WideShapes Go.ChangeAt Go.RowKit
set_option linter.unusedVariables false
theorem contract (H : Type) (enc : TypeId × Value → H) (W : World) (base : Nat) (args : Array Value) (ds gs : List (DataW H)) (before : List MemPlace)
    (hval : ∀ (j : Nat) t v, Try.f11.params[j]? = some t → args[j]? = some v → Value.okWide Try.prog W .any base t v)
    (hW : DataW.Whole enc Try.prog Try.f11.params.toList Rows.mendCountsSpec.vars false W args.toList ds gs before) :
    Calls Try.prog 11 args W fun e W' => ∃ v, e = .returned v ∧ Rows.mendCountsSpec.post enc Try.prog Try.f11 false true false false W args v W' := by
  have hW0 := hW
  obtain ⟨p, q, hB0, _, _, _, _⟩ := hW0
  have hA0 : DataW.TrodAll enc Try.prog W 0 (fun _ => true) true Try.f11.params.toList args.toList ds p := hB0
  clear hB0
  rw [Try.params11] at hA0 hval
  obtain ⟨v0, w0, d0, u0, _, _, e0, f0, g0, _, hA1⟩ := trodAll_cons hA0
  obtain ⟨hn, hd, _⟩ := trodAll_nil hA1
  have hargs : args = #[v0] := by
    apply Array.toList_inj.1
    rw [e0, hn]
  have hds : ds = [d0] := by
    rw [f0, hd]
  subst hargs; subst hds
  obtain ⟨x0, r0⟩ := argImg (hval 0 34 v0 rfl rfl)
  have hc := law_calls tblOk mixed (f := 182) (F := 11) (fn := Fn.eiderdownlaw_MendCounts) (args := #[v0]) (avs := [x0.enc]) rfl rfl rfl (All2.cons r0 All2.nil) rfl MendCounts_ok W
  refine hc.mono fun e W' h => ?_
  obtain ⟨rfl, hB⟩ := h
  have hts : ∀ t ∈ Try.f11.params.toList, Try.prog.readableRec t = true ∧ t < Try.prog.types.size := by
    rw [Try.params11]
    exact (List.forall_mem_cons.2 ⟨read34, fun t ht => by cases ht⟩)
  exact ⟨_, rfl, law_post laidOut hts rfl rfl Try.underlying4 hW rfl hB⟩

set_option maxRecDepth 100000 in
theorem lifted (os : Os) (started : os.Started) (H : Type) (enc : TypeId × Value → H) :
    ReturnsInHanded {} Try.checked os 11 .any (Rows.mendCountsSpec.pre6 enc Try.prog Try.f11 Rows.mendCountsRow.domain false) (Rows.mendCountsSpec.post enc Try.prog Try.f11 false true false false) := by
  refine returnsInHanded_of_change (C := Try.checked) own started (by kernel_rfl) Try.func11
    (ChangeSpec.witness6 (enc := enc) (C := Try.checked) false ⟨#[], #[zeroImg], []⟩ 8 (by kernel_rfl) (by kernel_rfl) (by kernel_rfl) (by kernel_rfl)) ?_
  intro W base args ds gs before hval hW _ _
  exact contract H enc W base args ds gs before hval hW

theorem over : Rows.mendCountsRow.holds Try.pinned (OpenSpec.ofChange Rows.mendCountsSpec) :=
  OpenClaim.holds_of_wide 11 Try.f11 rfl rfl rfl rfl rfl rfl rfl ⟨rfl, rfl, rfl, rfl, rfl⟩ rfl rfl rfl rfl rfl (by kernel_rfl) Try.func11 (by kernel_rfl)
    (of_decide_eq_true (by kernel_rfl)) (by unfold Func.isWrapper; first | (rw [if_pos (by decide +kernel)]; kernel_rfl) | (rw [if_neg (by decide +kernel)]; exact ⟨rfl, rfl⟩))
    (fun os started H enc _ => lifted os started H enc)

/-- The statement. -/
theorem proved : Rows.MendCountsSaid := over
end Go.Proofs.Ytpkndgkaecamlaa.mendCounts
