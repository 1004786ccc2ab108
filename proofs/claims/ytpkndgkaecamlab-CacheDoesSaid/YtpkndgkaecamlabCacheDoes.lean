/- The statement 'CacheDoes': whatever the input, the call returns true and leaves its arguments as they were. It has no condition. -/
import Derived.Test.YtpkndgkaecamlabCacheDoesL
namespace Go.Proofs.Ytpkndgkaecamlab.cacheDoes
open Go.Mini Go.ChangeShapes Go.WideShapes Go.ChangeAt Go.RowKit
set_option linter.unusedVariables false
set_option maxRecDepth 100000
open Go.Proofs.Ytpkndgkaecamlab.seatCd
theorem contract (H : Type) (enc : TypeId × Value → H) (W : World) (base : Nat) (args : Array Value) (ds gs : List (DataW H)) (before : List MemPlace)
    (hval : ∀ (j : Nat) t v, Try.f5.params[j]? = some t → args[j]? = some v → Value.okWide Try.prog W .any base t v)
    (hW : DataW.Whole enc Try.prog Try.f5.params.toList Rows.cacheDoesSpec.vars false W args.toList ds gs before) :
    Calls Try.prog 5 args W fun e W' => ∃ v, e = .returned v ∧ Rows.cacheDoesSpec.post enc Try.prog Try.f5 false true false false W args v W' := by
  have hW0 := hW
  obtain ⟨p, q, hB0, _, _, _, _⟩ := hW0
  have hA0 : DataW.TrodAll enc Try.prog W 0 (fun _ => true) true Try.f5.params.toList args.toList ds p := hB0
  clear hB0
  rw [Try.params5] at hA0 hval
  obtain ⟨v0, w0, d0, u0, _, _, e0, f0, g0, hT0, hA1⟩ := trodAll_cons hA0
  obtain ⟨v1, w1, d1, u1, _, _, e1, f1, g1, hT1, hA2⟩ := trodAll_cons hA1
  obtain ⟨v2, w2, d2, u2, _, _, e2, f2, g2, hT2, hA3⟩ := trodAll_cons hA2
  obtain ⟨v3, w3, d3, u3, _, _, e3, f3, g3, hT3, hA4⟩ := trodAll_cons hA3
  obtain ⟨hn, hd, _⟩ := trodAll_nil hA4
  have hargs : args = #[v0, v1, v2, v3] := by
    apply Array.toList_inj.1
    rw [e0, e1, e2, e3, hn]
  have hds : ds = [d0, d1, d2, d3] := by
    rw [f0, f1, f2, f3, hd]
  subst hargs; subst hds
  obtain ⟨L2, x2, bf2, pl2, r2, br2, sv2⟩ := given_ints (φ := phi) under46 elem46 cells46 (hval 2 46 v2 rfl rfl) hT2 0
  obtain ⟨ts0, h10, h20⟩ := Option.map_eq_some_iff.1 kinds34
  obtain ⟨x0, r0⟩ := given_imgB (φ := phi) (β := betaA (one1 pl2)) (ts := ts0) h10 h20 struct34 cells34 (hval 0 34 v0 rfl rfl)
  obtain ⟨ts1, h11, h21⟩ := Option.map_eq_some_iff.1 kinds34
  obtain ⟨x1, r1⟩ := given_imgB (φ := phi) (β := betaA (one1 pl2)) (ts := ts1) h11 h21 struct34 cells34 (hval 1 34 v1 rfl rfl)
  obtain ⟨x3, r3⟩ := given_intB (φ := phi) (β := betaA (one1 pl2)) (by kernel_rfl) (hval 3 3 v3 rfl rfl)
  have hc := law_callsS (bf := one1 bf2) (g := one1 pl2) tblOk mixed (f := 264) (F := 5) (fn := Fn.eiderdownlaw_CacheDoes) (args := #[v0, v1, v2, v3]) (avs := [x0.enc, x1.enc, x2, .int .i64 x3]) rfl rfl rfl W (All2.cons r0 (All2.cons r1 (All2.cons (r2 _ rfl) (All2.cons r3 All2.nil)))) rfl (fun k b hb => by
    unfold one1 at hb
    split at hb
    · rename_i e; subst e; exact br2 _ _ _ rfl hb
    · exact absurd hb (by simp)) (CacheDoes_ok lets_top' (sv2 _ rfl) )
  refine hc.mono fun e W' h => ?_
  obtain ⟨rfl, hB⟩ := h
  have hts : ∀ t ∈ Try.f5.params.toList, Try.prog.readableRec t = true ∧ t < Try.prog.types.size := by
    rw [Try.params5]
    exact (List.forall_mem_cons.2 ⟨read34, (List.forall_mem_cons.2 ⟨read34, (List.forall_mem_cons.2 ⟨read46, (List.forall_mem_cons.2 ⟨read3, fun t ht => by cases ht⟩)⟩)⟩)⟩)
  exact ⟨_, rfl, law_post laidOut hts rfl rfl bool4 hW rfl hB⟩

theorem lifted (os : Os) (started : os.Started) (H : Type) (enc : TypeId × Value → H) :
    ReturnsInHanded {} Try.checked os 5 .any (Rows.cacheDoesSpec.pre6 enc Try.prog Try.f5 Rows.cacheDoesRow.domain false) (Rows.cacheDoesSpec.post enc Try.prog Try.f5 false true false false) := by
  refine returnsInHanded_of_change (C := Try.checked) own started (by kernel_rfl) Try.func5
    (ChangeSpec.witness6 (enc := enc) (C := Try.checked) false ⟨#[], #[zeroImg, zeroImg, .slice none 0 0, .int .i64 0], []⟩ 8 (by kernel_rfl) (by kernel_rfl) (by kernel_rfl) (by kernel_rfl)) ?_
  intro W base args ds gs before hval hW _ _
  exact contract H enc W base args ds gs before hval hW

theorem over : Rows.cacheDoesRow.holds Try.pinned (OpenSpec.ofChange Rows.cacheDoesSpec) :=
  OpenClaim.holds_of_wide 5 Try.f5 (by kernel_rfl) rfl rfl rfl rfl rfl rfl ⟨by kernel_rfl, by kernel_rfl, by kernel_rfl, by kernel_rfl, by kernel_rfl⟩ (by kernel_rfl) (by kernel_rfl) (by kernel_rfl) (by kernel_rfl) (by kernel_rfl) (by kernel_rfl) Try.func5 (by kernel_rfl)
    (of_decide_eq_true (by kernel_rfl)) (by unfold Func.isWrapper; first | (rw [if_pos (by decide +kernel)]; kernel_rfl) | (rw [if_neg (by decide +kernel)]; exact ⟨rfl, rfl⟩))
    (fun os started H enc _ => lifted os started H enc)

/-- The statement. -/
theorem proved : Rows.CacheDoesSaid := over
end Go.Proofs.Ytpkndgkaecamlab.cacheDoes
