/- The statement 'IdealBack': whatever the input, the call returns true and leaves its arguments as they were. It has no condition. -/
import Derived.Test.YtpkndgkaecamlabIdealBackL
set_option linter.unusedVariables false
set_option maxRecDepth 100000
namespace Go.Proofs.Ytpkndgkaecamlab.idealBack
open Go.Mini Go.ChangeShapes Go.WideShapes Go.ChangeAt Go.RowKit
open Go.Proofs.Ytpkndgkaecamlab.seatId
theorem contract (H : Type) (enc : TypeId × Value → H) (W : World) (base : Nat) (args : Array Value) (ds gs : List (DataW H)) (before : List MemPlace)
  (hval : ∀ (j : Nat) t v,Try.f9.params[j]? = some t → args[j]? = some v → Value.okWide Try.prog W .any base t v)
  (hW : DataW.Whole enc Try.prog Try.f9.params.toList Rows.idealBackSpec.vars false W args.toList ds gs before) :
  Calls Try.prog 9 args W fun e W'=>∃ v,e = .returned v ∧ Rows.idealBackSpec.post enc Try.prog Try.f9 false true false false W args v W':=by
 have hW0:=hW
 obtain ⟨p,q,hB0,_,_,_,_⟩:=hW0
 have hA0 : DataW.TrodAll enc Try.prog W 0 (fun _=>true) true Try.f9.params.toList args.toList ds p:=hB0
 clear hB0
 rw [Try.params9] at hA0 hval
 obtain ⟨v0,w0,d0,u0,_,_,e0,f0,g0,hT0,hA1⟩:=trodAll_cons hA0
 obtain ⟨v1,w1,d1,u1,_,_,e1,f1,g1,hT1,hA2⟩:=trodAll_cons hA1
 obtain ⟨hn,hd,_⟩:=trodAll_nil hA2
 have hargs : args = #[v0,v1]:=by
  apply Array.toList_inj.1
  rw [e0,e1,hn]
 have hds : ds = [d0,d1]:=by
  rw [f0,f1,hd]
 subst hargs; subst hds
 obtain ⟨L0,x0,bf0,pl0,ok0,r0,br0,sv0⟩:=given_steps (φ:=phi) under61 elem61 cells61 (hval 0 61 v0 rfl rfl) hT0 0
 obtain ⟨ts1,h11,h21⟩:=Option.map_eq_some_iff.1 kinds63
 obtain ⟨x1,hx1,r1⟩:=given_stepB (φ:=phi) (β:=betaA (one1 pl0)) (ts:=ts1) h11 h21 struct63 cells63 (hval 1 63 v1 rfl rfl)
 have hc:=law_callsS (bf:=one1 bf0) (g:=one1 pl0) tblOk mixed (f:=332) (F:=9) (fn:=Fn.w_IdealBack) (args:=#[v0,v1]) (avs:=[x0,x1.enc]) rfl rfl rfl W (All2.cons (r0 _ rfl) (All2.cons r1 All2.nil)) rfl (fun k b hb=>by
  unfold one1 at hb
  split at hb
  ·rename_i e; subst e; exact br0 _ _ _ rfl hb
  ·exact absurd hb (by simp)) (IdealBack_ok lets_top' (sv0 _ rfl) ok0 hx1)
 refine hc.mono fun e W' h=>?_
 obtain ⟨rfl,hB⟩:=h
 have hts : ∀ t ∈ Try.f9.params.toList,Try.prog.readableRec t = true ∧ t < Try.prog.types.size:=by
  rw [Try.params9]
  exact (List.forall_mem_cons.2 ⟨read61,(List.forall_mem_cons.2 ⟨read63,fun t ht=>by cases ht⟩)⟩)
 exact ⟨_,rfl,law_post laidOut hts rfl rfl bool4 hW rfl hB⟩
theorem lifted (os : Os) (started : os.Started) (H : Type) (enc : TypeId × Value → H) :
  ReturnsInHanded {} Try.checked os 9 .any (Rows.idealBackSpec.pre6 enc Try.prog Try.f9 Rows.idealBackRow.domain false) (Rows.idealBackSpec.post enc Try.prog Try.f9 false true false false):=by
 refine returnsInHanded_of_change (C:=Try.checked) own started (by kernel_rfl) Try.func9
  (ChangeSpec.witness6 (enc:=enc) (C:=Try.checked) false ⟨#[],#[.slice none 0 0,zeroStep],[]⟩ 8 (by kernel_rfl) (by kernel_rfl) (by kernel_rfl) (by kernel_rfl)) ?_
 intro W base args ds gs before hval hW _ _
 exact contract H enc W base args ds gs before hval hW
theorem over : Rows.idealBackRow.holds Try.pinned (OpenSpec.ofChange Rows.idealBackSpec) :=
 OpenClaim.holds_of_wide 9 Try.f9 (by kernel_rfl) rfl rfl rfl rfl rfl rfl ⟨by kernel_rfl,by kernel_rfl,by kernel_rfl,by kernel_rfl,by kernel_rfl⟩ (by kernel_rfl) (by kernel_rfl) (by kernel_rfl) (by kernel_rfl) (by kernel_rfl) (by kernel_rfl) Try.func9 (by kernel_rfl)
  (of_decide_eq_true (by kernel_rfl)) (by unfold Func.isWrapper; first | (rw [if_pos (by decide +kernel)]; kernel_rfl) | (rw [if_neg (by decide +kernel)]; exact ⟨rfl,rfl⟩))
  (fun os started H enc _=>lifted os started H enc)
/-- The statement. -/
theorem proved : Rows.IdealBackSaid:=over
end Go.Proofs.Ytpkndgkaecamlab.idealBack
