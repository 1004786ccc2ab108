/- The statement 'CacheFree': whatever the input, the call returns true and leaves its arguments as they were. It has no condition. -/
import Derived.Test.YtpkndgkaecamlabSeatC
import Derived.Test.YtpkndgkaecamlabCacheC
namespace Go.Proofs.Ytpkndgkaecamlab.cacheFree
set_option maxRecDepth 100000
open Go.Mini Go.ChangeShapes Go.WideShapes Go.ChangeAt Go.RowKit
set_option linter.unusedVariables false
theorem contract (H : Type) (enc : TypeId × Value → H) (W : World) (base : Nat) (args : Array Value) (ds gs : List (DataW H)) (before : List MemPlace)
    (hval : ∀ (j : Nat) t v, Try.f7.params[j]? = some t → args[j]? = some v → Value.okWide Try.prog W .any base t v)
    (hW : DataW.Whole enc Try.prog Try.f7.params.toList Rows.cacheFreeSpec.vars false W args.toList ds gs before) :
    Calls Try.prog 7 args W fun e W' => ∃ v, e = .returned v ∧ Rows.cacheFreeSpec.post enc Try.prog Try.f7 false true false false W args v W' := by
  have hW0 := hW
  obtain ⟨p, q, hB0, _, _, _, _⟩ := hW0
  have hA0 : DataW.TrodAll enc Try.prog W 0 (fun _ => true) true Try.f7.params.toList args.toList ds p := hB0
  clear hB0
  rw [Try.params7] at hA0 hval
  obtain ⟨v0, w0, d0, u0, _, _, e0, f0, g0, _, hA1⟩ := trodAll_cons hA0
  obtain ⟨v1, w1, d1, u1, _, _, e1, f1, g1, _, hA2⟩ := trodAll_cons hA1
  obtain ⟨v2, w2, d2, u2, _, _, e2, f2, g2, _, hA3⟩ := trodAll_cons hA2
  obtain ⟨hn, hd, _⟩ := trodAll_nil hA3
  have hargs : args = #[v0, v1, v2] := by
    apply Array.toList_inj.1
    rw [e0, e1, e2, hn]
  have hds : ds = [d0, d1, d2] := by
    rw [f0, f1, f2, hd]
  subst hargs; subst hds
  obtain ⟨x0, r0⟩ := argImg (hval 0 34 v0 rfl rfl)
  obtain ⟨x1, r1⟩ := argImg (hval 1 34 v1 rfl rfl)
  obtain ⟨x2, r2⟩ := argInt (hval 2 3 v2 rfl rfl)
  have hc := law_callsT tblOk mixed (f := 263) (F := 7) (fn := Fn.eiderdownlaw_CacheFree) (args := #[v0, v1, v2]) (avs := [x0.enc, x1.enc, .int .i64 x2]) rfl rfl rfl (All2.cons r0 (All2.cons r1 (All2.cons r2 All2.nil))) rfl (CacheFree_ok lets_top) W
  refine hc.mono fun e W' h => ?_
  obtain ⟨rfl, hB⟩ := h
  have hts : ∀ t ∈ Try.f7.params.toList, Try.prog.readableRec t = true ∧ t < Try.prog.types.size := by
    rw [Try.params7]
    exact (List.forall_mem_cons.2 ⟨read34, (List.forall_mem_cons.2 ⟨read34, (List.forall_mem_cons.2 ⟨read3, fun t ht => by cases ht⟩)⟩)⟩)
  exact ⟨_, rfl, law_post laidOut hts rfl rfl Try.underlying4 hW rfl hB⟩

set_option maxRecDepth 100000 in
theorem lifted (os : Os) (started : os.Started) (H : Type) (enc : TypeId × Value → H) :
    ReturnsInHanded {} Try.checked os 7 .any (Rows.cacheFreeSpec.pre6 enc Try.prog Try.f7 Rows.cacheFreeRow.domain false) (Rows.cacheFreeSpec.post enc Try.prog Try.f7 false true false false) := by
  refine returnsInHanded_of_change (C := Try.checked) own started (by kernel_rfl) Try.func7
    (ChangeSpec.witness6 (enc := enc) (C := Try.checked) false ⟨#[], #[zeroImg, zeroImg, .int .i64 0], []⟩ 8 (by kernel_rfl) (by kernel_rfl) (by kernel_rfl) (by kernel_rfl)) ?_
  intro W base args ds gs before hval hW _ _
  exact contract H enc W base args ds gs before hval hW

theorem over : Rows.cacheFreeRow.holds Try.pinned (OpenSpec.ofChange Rows.cacheFreeSpec) :=
  OpenClaim.holds_of_wide 7 Try.f7 rfl rfl rfl rfl rfl rfl rfl ⟨rfl, rfl, rfl, rfl, rfl⟩ rfl rfl rfl rfl rfl (by kernel_rfl) Try.func7 (by kernel_rfl)
    (of_decide_eq_true (by kernel_rfl)) (by unfold Func.isWrapper; first | (rw [if_pos (by decide +kernel)]; kernel_rfl) | (rw [if_neg (by decide +kernel)]; exact ⟨rfl, rfl⟩))
    (fun os started H enc _ => lifted os started H enc)

/-- The statement. -/
theorem proved : Rows.CacheFreeSaid := over
end Go.Proofs.Ytpkndgkaecamlab.cacheFree
