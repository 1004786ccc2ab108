/- The card of the statement 'DeskDoes': whatever the input, the call returns true and leaves its arguments as they were. Its condition: the listed package variables hold what the program's own text lays in them. -/
import Derived.Test.YtpkndgkaecamlaaGreatDoorDdE
import Derived.Test.YtpkndgkaecamlaaGreatDoorCards
import Derived.SizedLaws
import Derived.ProofKit

set_option linter.unusedSectionVars false
set_option linter.unnecessarySimpa false
set_option linter.unusedVariables false
set_option linter.unusedSimpArgs false
namespace Go.Proofs.YtpkndgkaecamlaaGreatDoor.DeskDoes
open Go.Mini Go.ChangeShapes Go.WideShapes Go.ChangeAt Go.RowKit
set_option linter.unusedVariables false
set_option maxRecDepth 100000
open Go.Proofs.YtpkndgkaecamlaaGreatDoor.Base
theorem bool4 : Tryz.prog.underlying 4 = some .bool:=by kernel_rfl
theorem readL : Tryz.prog.readableRec 22 = true ∧ 22 < Tryz.prog.types.size:=⟨by kernel_rfl,of_decide_eq_true (by kernel_rfl)⟩
theorem underL : Tryz.prog.underlying 22 = some (.slice 9):=by kernel_rfl
theorem elemL : ru Tryz.prog tS.kinds 9 = true:=by kernel_rfl
theorem cellsS : Tryz.prog.cellsOf 9 = tS.size:=by kernel_rfl
theorem bytesS : 16 ≤ Tryz.prog.bytesOf 9:=of_decide_eq_true (by kernel_rfl)
theorem contract (H : Type) (enc : TypeId × Value → H) (W : World) (base : Nat) (args : Array Value) (ds gs : List (DataW H)) (before : List MemPlace)
    (hval : ∀ (j : Nat) t v,Tryz.f3.params[j]? = some t → args[j]? = some v → Value.okWide Tryz.prog W .any base t v)
    (hW : DataW.Whole enc Tryz.prog Tryz.f3.params.toList Rows.deskDoesSpec.vars false W args.toList ds gs before)
    (hwt0 : (DataW.weightsEach Tryz.prog (Tryz.f3.params.toList ++ Rows.deskDoesSpec.plain.varTypes Tryz.prog) (ds ++ gs)).all (· ≤ reachBytes) = true) (hL : laidMetH Tryz.prog Rows.deskDoesRow.laid W) (hsh : W.ShapedOpen Tryz.prog) :
    Calls Tryz.prog 3 args W fun e W'=>∃ v,e = .returned v ∧ Rows.deskDoesSpec.post enc Tryz.prog Tryz.f3 false true false false W args v W':=by
  have hW0:=hW
  obtain ⟨p,q,hB0,_,_,_,_⟩:=hW0
  have hA0 : DataW.TrodAll enc Tryz.prog W 0 (fun _=>true) true Tryz.f3.params.toList args.toList ds p:=hB0
  clear hB0
  have hwt:=hwt0
  clear hwt0
  rw [Tryz.params3] at hA0 hval hwt
  obtain ⟨v0,w0,d0,u0,_,_,e0,f0,g0,hT0,hA1⟩:=trodAll_cons hA0
  obtain ⟨v1,w1,d1,u1,_,_,e1,f1,g1,hT1,hA2⟩:=trodAll_cons hA1
  obtain ⟨hn,hd,_⟩:=trodAll_nil hA2
  have hargs : args = #[v0,v1]:=by
    apply Array.toList_inj.1
    rw [e0,e1,hn]
  have hds : ds = [d0,d1]:=by
    rw [f0,f1,hd]
  subst hargs; subst hds
  letI : Fix:=fixAt Tryz.prog W
  obtain ⟨L0,x0,bf0,pl0,hl0,hs0,r0,br0,hno0,hf0,sv0⟩:=rl (φ:=phi) underL elemL cellsS Tryz.underlying9 bytesS (hval 0 22 v0 rfl rfl) hT0 (fun n hn=>by
    have:=List.all_eq_true.1 hwt n (DataW.weights_mem_each (j:=0) rfl rfl n hn)
    simpa using this) 0
  obtain ⟨L1,x1,bf1,pl1,hl1,hs1,r1,br1,hno1,hf1,sv1⟩:=rl (φ:=phi) underL elemL cellsS Tryz.underlying9 bytesS (hval 1 22 v1 rfl rfl) hT1 (fun n hn=>by
    have:=List.all_eq_true.1 hwt n (DataW.weights_mem_each (j:=1) rfl rfl n hn)
    simpa using this) 1
  have hc:=xA (Cond:=Cond) (bf:=two2 bf0 bf1) (g:=two2 pl0 pl1) tblOk mixed (f:=441) (F:=3) (fn:=Fn.aZ) (args:=#[v0,v1]) (avs:=[x0,x1]) rfl rfl rfl W (cond_of_laid hL hsh) (All2.cons (r0 _ rfl) (All2.cons (r1 _ rfl) All2.nil)) rfl (fun k b hb=>by
    unfold two2 at hb
    split at hb
    · rename_i e; subst e; exact br0 _ _ _ rfl hb
    · split at hb
      · rename_i e; subst e; exact br1 _ _ _ rfl hb
      · exact absurd hb (by simp)) (wP zS (sv0 _ _ rfl) (sv1 _ _ rfl) hno0 hno1 hf0 hf1 hl0 hl1 hs0 hs1)
  refine hc.mono fun e W' h=>?_
  obtain ⟨rfl,hB⟩:=h
  have hts : ∀ t ∈ Tryz.f3.params.toList,Tryz.prog.readableRec t = true ∧ t < Tryz.prog.types.size:=by
    rw [Tryz.params3]
    exact (List.forall_mem_cons.2 ⟨readL,(List.forall_mem_cons.2 ⟨readL,fun t ht=>by cases ht⟩)⟩)
  exact ⟨_,rfl,Bw laidOut hts rfl rfl bool4 hW rfl hB⟩

theorem lifted (os : Os) (started : os.Started) (H : Type) (enc : TypeId × Value → H) :
    ReturnsInHanded {} Tryz.checked os 3 .any (fun w args=>(Rows.deskDoesSpec.pre enc Tryz.prog Tryz.f3 [] false w args ∧ laidMetH Tryz.prog Rows.deskDoesRow.laid w) ∧ sizedMet enc Tryz.prog Tryz.f3 (OpenSpec.ofChange Rows.deskDoesSpec) false w args)
      (Rows.deskDoesSpec.post enc Tryz.prog Tryz.f3 false true false false):=by
  refine vS (C:=Tryz.checked) (laid:=Rows.deskDoesRow.laid) (fun _ _ hh h=>h.of_heap hh) own started (by kernel_rfl) Tryz.func3
    (ChangeSpec.witness_shaped (enc:=enc) (C:=Tryz.checked) (os:=os) (X:=fun w _=>laidMetH Tryz.prog Rows.deskDoesRow.laid w) false (World.laidAll Tryz.prog os Rows.deskDoesRow.laid) #[.slice none 0 0,.slice none 0 0] 8 (World.laidAll_os _ _ _) (World.shaped_of_ZipB (by kernel_rfl) (by kernel_rfl)) (by kernel_rfl) (by kernel_rfl) (by kernel_rfl) (door_met os _)) ?_
  intro W base args ds gs before hval hW hwt hL hsh
  exact contract H enc W base args ds gs before hval hW hwt hL hsh

theorem over : Rows.DeskDoesSaid :=
  OpenClaim.holds_of_wide 3 Tryz.f3 (by kernel_rfl) rfl rfl rfl rfl rfl rfl ⟨by kernel_rfl,by kernel_rfl,by kernel_rfl,by kernel_rfl,by kernel_rfl⟩ (by kernel_rfl) (by kernel_rfl) (by kernel_rfl) (by kernel_rfl) (by kernel_rfl) (by kernel_rfl) Tryz.func3 (by kernel_rfl)
    (of_decide_eq_true (by kernel_rfl)) (by unfold Func.isWrapper; first | (rw [if_pos (by decide +kernel)]; kernel_rfl) | (rw [if_neg (by decide +kernel)]; exact ⟨rfl,rfl⟩))
    (fun os started H enc _=>lifted os started H enc)

theorem proved : Rows.DeskDoesCardSaid :=
  Claim7.holds_tied_plain_at .later [] [.data, .data, .data, .data, .sentinel, .sentinel, .pinned] true (true, "de24fcbd857b00dafc415fba2cf48f04161042451be0b4b9cd6625d6163a1cc0") true
    over (fun _ h=>by cases h) (by kernel_rfl) (fun _ h=>by cases h) deskDoes_row_tie rfl ⟨rfl,rfl⟩ (by kernel_rfl) rfl
    (fun f fn hf hfn=>by
      obtain rfl : f = 3 := Option.some.inj ((show Tryz.prog.funcNamed "eiderdown/eiderdownlaw.DeskDoes" = some 3 by kernel_rfl).symm.trans hf) |>.symm
      obtain rfl : fn = Tryz.f3:=(Option.some.inj (Tryz.func3.symm.trans hfn)).symm
      exact ⟨by kernel_rfl,fun j t ht=>by
        rw [Tryz.params3] at ht
        have hm : t ∈ [22,22]:=by simpa using Array.mem_of_getElem? ht
        have hall : ([22,22].all fun u=>!Tryz.prog.wantsStandIn u) = true:=by kernel_rfl
        exact (show Tryz.prog.wantsStandIn t = false by simpa using List.all_eq_true.1 hall t hm)⟩)
    (by kernel_rfl)
end Go.Proofs.YtpkndgkaecamlaaGreatDoor.DeskDoes
