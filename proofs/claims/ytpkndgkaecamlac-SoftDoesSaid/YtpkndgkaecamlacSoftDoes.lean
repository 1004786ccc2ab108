/- The statement 'SoftDoes': whatever the input, the call returns true and leaves its arguments as they were. It has no condition. -/
import Derived.Test.YtpkndgkaecamlacSoftDoesL
set_option linter.unusedVariables false
set_option maxRecDepth 100000
namespace Go.Proofs.Ytpkndgkaecamlac.softDoes
open Go.Mini Go.ChangeShapes Go.WideShapes Go.ChangeAt Go.RowKit
open Go.Proofs.Ytpkndgkaecamlac.seatSd
theorem contract (H : Type) (enc : TypeId × Value → H) (W : World) (base : Nat) (args : Array Value) (ds gs : List (DataW H)) (before : List MemPlace)
  (hval : ∀ (j : Nat) t v,Try.f3.params[j]? = some t → args[j]? = some v → Value.okWide Try.prog W .any base t v)
  (hW : DataW.Whole enc Try.prog Try.f3.params.toList Rows.softDoesSpec.vars false W args.toList ds gs before) :
  Calls Try.prog 3 args W fun e W'=>∃ v,e = .returned v ∧ Rows.softDoesSpec.post enc Try.prog Try.f3 false true false false W args v W':=by
 have hW0:=hW
 obtain ⟨p,q,hB0,_,_,_,_⟩:=hW0
 have hA0 : DataW.TrodAll enc Try.prog W 0 (fun _=>true) true Try.f3.params.toList args.toList ds p:=hB0
 clear hB0
 rw [Try.params3] at hA0 hval
 obtain ⟨v0,w0,d0,u0,_,_,e0,f0,g0,hT0,hA1⟩:=trodAll_cons hA0
 obtain ⟨v1,w1,d1,u1,_,_,e1,f1,g1,hT1,hA2⟩:=trodAll_cons hA1
 obtain ⟨v2,w2,d2,u2,_,_,e2,f2,g2,hT2,hA3⟩:=trodAll_cons hA2
 obtain ⟨hn,hd,_⟩:=trodAll_nil hA3
 have hargs : args = #[v0,v1,v2]:=by
  apply Array.toList_inj.1
  rw [e0,e1,e2,hn]
 have hds : ds = [d0,d1,d2]:=by
  rw [f0,f1,f2,hd]
 subst hargs; subst hds
 obtain ⟨L1,x1,bf1,pl1,ok1,r1,br1,sv1⟩:=given_steps (φ:=phi) under35 elem35 cells35 (hval 1 35 v1 rfl rfl) hT1 0
 obtain ⟨ts0,h10,h20⟩:=Option.map_eq_some_iff.1 kinds34
 obtain ⟨x0,r0⟩:=given_imgB (φ:=phi) (β:=betaA (one1 pl1)) (ts:=ts0) h10 h20 struct34 cells34 (hval 0 34 v0 rfl rfl)
 obtain ⟨ts2,h12,h22⟩:=Option.map_eq_some_iff.1 kinds37
 obtain ⟨x2,hx2,r2⟩:=given_stepB (φ:=phi) (β:=betaA (one1 pl1)) (ts:=ts2) h12 h22 struct37 cells37 (hval 2 37 v2 rfl rfl)
 have hc:=law_callsS (bf:=one1 bf1) (g:=one1 pl1) tblOk mixed (f:=313) (F:=3) (fn:=Fn.w_SoftDoes) (args:=#[v0,v1,v2]) (avs:=[x0.enc,x1,x2.enc]) rfl rfl rfl W (All2.cons r0 (All2.cons (r1 _ rfl) (All2.cons r2 All2.nil))) rfl (fun k b hb=>by
  unfold one1 at hb
  split at hb
  ·rename_i e; subst e; exact br1 _ _ _ rfl hb
  ·exact absurd hb (by simp)) (SoftDoes_ok lets_top' (sv1 _ rfl) ok1 hx2)
 refine hc.mono fun e W' h=>?_
 obtain ⟨rfl,hB⟩:=h
 have hts : ∀ t ∈ Try.f3.params.toList,Try.prog.readableRec t = true ∧ t < Try.prog.types.size:=by
  rw [Try.params3]
  exact (List.forall_mem_cons.2 ⟨read34,(List.forall_mem_cons.2 ⟨read35,(List.forall_mem_cons.2 ⟨read37,fun t ht=>by cases ht⟩)⟩)⟩)
 exact ⟨_,rfl,law_post laidOut hts rfl rfl bool4 hW rfl hB⟩
theorem lifted (os : Os) (started : os.Started) (H : Type) (enc : TypeId × Value → H) :
  ReturnsInHanded {} Try.checked os 3 .any (Rows.softDoesSpec.pre6 enc Try.prog Try.f3 Rows.softDoesRow.domain false) (Rows.softDoesSpec.post enc Try.prog Try.f3 false true false false):=by
 refine returnsInHanded_of_change (C:=Try.checked) own started (by kernel_rfl) Try.func3
  (ChangeSpec.witness6 (enc:=enc) (C:=Try.checked) false ⟨#[],#[zeroImg,.slice none 0 0,zeroStep],[]⟩ 8 (by kernel_rfl) (by kernel_rfl) (by kernel_rfl) (by kernel_rfl)) ?_
 intro W base args ds gs before hval hW _ _
 exact contract H enc W base args ds gs before hval hW
theorem over : Rows.softDoesRow.holds Try.pinned (OpenSpec.ofChange Rows.softDoesSpec) :=
 OpenClaim.holds_of_wide 3 Try.f3 (by kernel_rfl) rfl rfl rfl rfl rfl rfl ⟨by kernel_rfl,by kernel_rfl,by kernel_rfl,by kernel_rfl,by kernel_rfl⟩ (by kernel_rfl) (by kernel_rfl) (by kernel_rfl) (by kernel_rfl) (by kernel_rfl) (by kernel_rfl) Try.func3 (by kernel_rfl)
  (of_decide_eq_true (by kernel_rfl)) (by unfold Func.isWrapper; first | (rw [if_pos (by decide +kernel)]; kernel_rfl) | (rw [if_neg (by decide +kernel)]; exact ⟨rfl,rfl⟩))
  (fun os started H enc _=>lifted os started H enc)
/-- The statement. -/
theorem proved : Rows.SoftDoesSaid:=over
end Go.Proofs.Ytpkndgkaecamlac.softDoes
