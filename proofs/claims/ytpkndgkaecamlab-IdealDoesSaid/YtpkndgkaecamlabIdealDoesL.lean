/- A part of the proof: the statement IdealDoes, over the model of its code. -/
import Derived.Test.YtpkndgkaecamlabIdS

set_option linter.unusedSimpArgs false
set_option linter.unusedVariables false
set_option maxHeartbeats 4000000
set_option maxRecDepth 100000
namespace Go.Mini
theorem W_callIO {cx : Cx} {k : List Item} {kill : List Nat} {r : List MOp} {sl : Slots} {own : Own} {h : HP} {O : Nat → Prop} {Q : St → Prop} {u f : Nat} {args : List Opd} {d : Option Nat} {fn : MFun} {R : AV → Prop} {T' : List Tag} {G' : List RFile}
  (hf : tblE f = some fn) (hp : fn.params = args.length ∧ fn.nfree = 0)
  (hc : Ok tblE (St.callCx ⟨sl,own,h⟩ cx false) fn (St.enter (args.map (St.opd ⟨sl,own,h⟩)) (h.push cx.lvl own)) fun v' h'=>R v' ∧ FrO O (h.push cx.lvl own) h' cx.lvl u ∧ RIAtO O h' cx.lvl u T' G')
  (hq : ∀ v h1 v1 v2 own',R v → (own' = own ∧ own.get u = some ⟨tRIdeal,encRI v1 v2⟩ ∨ own' = own.set u ⟨tRIdeal,encRI v1 v2⟩) → h1.stk = h.stk → h1.arg = h.arg → h.next ≤ h1.next → (∀ n,¬O n → h1.obj n = h.obj n) →
   SlO tTag O h1 v1 (T'.map Tag.enc) → SlO tRFile O h1 v2 (G'.map RFile.enc) → W tblE cx (.ops r kill :: k) (St.setd ⟨sl,own',h1⟩ d v) Q) :
  W tblE cx (.ops (⟨d,.call false [] f args,none⟩ :: r) kill :: k) ⟨sl,own,h⟩ Q:=by
 refine W_callr hf hp hc ?_
 rintro v h' ⟨hR,hF,v1,v2,hm,hS,hG⟩
 have e0 : St.pop ⟨sl,own,h⟩ cx.lvl [] h' = ⟨sl,h'.stk cx.lvl,⟨h.stk,h'.obj,h'.next,h'.arg⟩⟩:=by
  simp only [St.pop,HP.pop,Own.unveil]
  congr 1
  simp only [HP.mk.injEq,and_true]
  funext l
  by_cases hl : l = cx.lvl
  ·simp [hl]
  ·rcases hF.stk with e | ⟨B,e⟩
   ·simp [hl,e,HP.push]
   ·simp [hl,e,HP.push,HP.set]
 rw [e0]
 have own1 : (h.push cx.lvl own).stk cx.lvl = own:=by simp [HP.push]
 refine hq v ⟨h.stk,h'.obj,h'.next,h'.arg⟩ v1 v2 (h'.stk cx.lvl) hR ?_ rfl hF.arg hF.next hF.same hS hG
 rcases hF.stk with e | ⟨B,e⟩
 ·refine .inl ⟨by rw [e,own1],?_⟩
  have : (h'.stk cx.lvl).get u = some ⟨tRIdeal,encRI v1 v2⟩:=hm
  rw [e,own1] at this
  exact this
 ·refine .inr ?_
  have e2 : h'.stk cx.lvl = own.set u B:=by rw [e]; simp [HP.set,own1]
  have : (h'.stk cx.lvl).get u = some ⟨tRIdeal,encRI v1 v2⟩:=hm
  rw [e2,Own.get_setI] at this
  rw [e2]
  injection this with this
  rw [this]
theorem SlO.keepR {t : Ty} {O O' : Nat → Prop} {h h' : HP} {v : AV} {l : List AV} (a : SlO t O h v l) (hn : h.next ≤ h'.next) (hO : ∀ n,n < h.next → O n → O' n) (hs : ∀ n,n < h.next → O n → h'.obj n = h.obj n) : SlO t O' h' v l:=by
 rcases a with a | ⟨q,rfl,ho,hq,hl,hne⟩
 ·exact .inl a
 ·exact .inr ⟨q,rfl,hO _ hq ho,Nat.lt_of_lt_of_le hq hn,by rw [← hl]; exact hs q hq ho,hne⟩
structure Two (h1 h : HP) (w : Nat) (v1 v2 : AV) (OW : Nat → Prop) (T : List Tag) (F : List RFile) : Prop where
 win : ∃ sv ad,WIn OW h w sv ad T F
 lt : ∀ n,OW n → n < h.next
 tags : SlO tTag (fun n=>¬OW n) h v1 (T.map Tag.enc)
 files : SlO tRFile (fun n=>¬OW n) h v2 (F.map RFile.enc)
 stk : h.stk = h1.stk
 arg : h.arg = h1.arg
theorem Two.fr {h1 h h' : HP} {w : Nat} {v1 v2 : AV} {OW : Nat → Prop} {T : List Tag} {F : List RFile} (a : Two h1 h w v1 v2 OW T F) (b : Fr h h' []) : Two h1 h' w v1 v2 OW T F:=by
 obtain ⟨sv,ad,hw⟩:=a.win
 exact ⟨⟨sv,ad,hw.fr b⟩,fun n hn=>Nat.lt_of_lt_of_le (a.lt n hn) b.next,a.tags.keepR b.next (fun _ _ h=>h) (fun n hn _=>b.same n hn (by simp)),a.files.keepR b.next (fun _ _ h=>h) (fun n hn _=>b.same n hn (by simp)),b.stk.trans a.stk,b.arg.trans a.arg⟩
section
variable {cx : Cx} {h : HP} {v : AV} {l : List SStep}
theorem rdo_len {T : List Tag} {F : List RFile} {x : SStep} : (rdoT T F x).length ≤ T.length + 1 ∧ (rdoF T F x).length ≤ F.length + 1:=by
 constructor
 ·unfold rdoT
  repeat' split
  all_goals simp
  all_goals omega
 ·unfold rdoF
  repeat' split
  all_goals simp
theorem IdealDoes_walk {x : SStep} (hl : ∀ n,cx.prot.lets (.obj n) = true) (hls : ∀ x u,cx.lvl ≤ x → cx.prot.lets (.stk x u) = true) (hv : StepsV h v l) (hsz : ∀ k,(stp l k).ok) (hx : x.ok) : Ok tblE cx Fn.w_IdealDoes (St.enter [v,x.enc] h) fun v h'=>v = .bool true:=by
 rw [Ok_eq]
 have hvlen:=hv.len
 have hvfg:=hv.fg
 have hvld:=hv.ld
 simp (maxSteps:=999999) (disch:=omega) only [go_sem,hvfg]
 refine W_callW (O:=fun n=>h.next ≤ n) (R:=fun v _=>v = .bool true) rfl ⟨rfl,rfl⟩ (by simp only [go_sem]; exact idealBegun_ok (h:=h.push cx.lvl [(3,⟨tStep,x.enc⟩)]) (by exact hl) (by exact fun x u hx=>hls x u (Nat.le_trans (Nat.le_succ _) hx))) (fun _ _ e=>e) ?_
 rintro _ h1 hF1 rfl
 simp (maxSteps:=999999) (disch:=omega) only [go_sem,hvlen,hvfg,hvld]
 refine W_callhv (P:=fun x=>∃ b,x = .bool b ∧ (b = false → l.length ≤ 200)) h1 rfl ⟨rfl,rfl⟩ rfl (by simp only [go_sem]; exact greatSteps_ok ((hv.to hF1.arg).push)) ?_
 rintro _ ⟨great,rfl,hgr⟩
 cases great with
 | true=>simp (maxSteps:=999999) (disch:=omega) only [go_sem]
 | false =>
 have h200:=hgr rfl
 simp (maxSteps:=999999) (disch:=omega) only [go_sem,hvlen,hvfg,hvld]
 refine W_callhv (P:=fun x=>∃ b,x = .bool b) h1 rfl ⟨rfl,rfl⟩ rfl (by simp only [go_sem]; exact greatStep_ok) ?_
 rintro _ ⟨great,rfl⟩
 cases great with
 | true=>simp (maxSteps:=999999) (disch:=omega) only [go_sem]
 | false =>
 simp (maxSteps:=999999) (disch:=omega) only [go_sem,hvlen,hvfg,hvld]
 refine W_callh (v:=.ptr (.obj h1.next) [] tWorld) (h1.nw tWorld (encW .nilsl)) rfl ⟨rfl,rfl⟩ rfl (by simp only [go_sem]; exact INew_ok) ?_
 have hT0 : Two h1 (h1.nw tWorld (encW .nilsl)) h1.next .nilsl .nilsl (fun n=>n = h1.next) [] [] :=
  ⟨⟨.nilsl,fun _=>0,WIn.new rfl⟩,fun n hn=>by rw [hn]; exact Nat.lt_succ_self _,.inl ⟨rfl,rfl⟩,.inl ⟨rfl,rfl⟩,rfl,rfl⟩
 generalize h1.nw tWorld (encW .nilsl) = h2 at hT0 ⊢
 generalize h1.next = w at hT0 ⊢
 simp (maxSteps:=999999) (disch:=omega) only [go_sem,hvlen,hvfg,hvld]
 refine W_forE (α:=AV × AV × HP) l.length (fun k q=>⟨[(0,v),(3,.ptr (.stk cx.lvl 3) [] tStep),(5,.ptr (.obj w) [] tWorld),(6,.ptr (.stk cx.lvl 25) [] tRIdeal),(7,.int .i64 k)],[(3,⟨tStep,x.enc⟩),(25,⟨tRIdeal,encRI q.1 q.2.1⟩)],q.2.2⟩)
  (fun k q=>∃ OW T F,Two h1 q.2.2 w q.1 q.2.1 OW T F ∧ T.length ≤ k ∧ F.length ≤ k) (.nilsl,.nilsl,h2) (by simp only [go_sem,hvfg] <;> rfl) ⟨_,[],[],hT0,by simp,by simp⟩ fun k q hk hq ih=>?_
 obtain ⟨v1,v2,h3⟩:=q
 obtain ⟨OW,T,F,hT,hTl,hFl⟩:=hq
 dsimp only at hT ih ⊢
 by_cases hlt : k < l.length
 ·obtain ⟨n,rfl,hn⟩:=(hv.to (hT.arg.trans hF1.arg)).ix k hlt
  have hX:=hsz k
  obtain ⟨sv,ad,hW⟩:=hT.win
  simp (maxSteps:=999999) (disch:=omega) only [go_sem,hlt,hn]
  refine W_callp rfl ⟨rfl,rfl⟩ (by simp only [go_sem]; exact ICheck_ok hX.name hX.to hX.text) ?_
  simp (maxSteps:=999999) (disch:=omega) only [go_sem,hlt,hn]
  refine W_callp rfl ⟨rfl,rfl⟩ (by simp only [go_sem]; exact StepFault_ok hX.name hX.to hX.text) ?_
  simp (maxSteps:=999999) (disch:=omega) only [go_sem,hlt,hn]
  have hOu : OUp (fun n=>OW n ∨ h3.next ≤ n) h3.next:=fun m hm=>.inr hm
  have hW' : WIn (fun n=>OW n ∨ h3.next ≤ n) h3 w sv ad T F:=hW.keep (fun n h1 _=>.inl h1) (Nat.le_refl _) (fun _ _ _=>rfl)
  refine W_IDo (X:=stp l k) (by simp only [go_sem]) (by simp only [go_sem]) hl hOu hW' (by omega) (by omega) hX fun h4 sv4 ad4 hF4 hW4=>?_
  have hOW4 : ∀ n,n < h3.next → ¬OW n → h4.obj n = h3.obj n:=fun n hn hno=>hF4.same n (by simp only [not_or]; exact ⟨hno,by omega⟩)
  obtain ⟨OV,hov⟩ : ∃ OV : Nat → Prop,∀ n,OV n ↔ (OW n ∨ h3.next ≤ n) ∧ n < h4.next:=⟨_,fun _=>Iff.rfl⟩
  have hW4' : WIn OV h4 w sv4 ad4 (rdoT T F (stp l k)) (rdoF T F (stp l k)):=hW4.keep (fun n h1 h2=>(hov n).2 ⟨h1,h2⟩) (Nat.le_refl _) (fun _ _ _=>rfl)
  have hS4 : SlO tTag (fun n=>¬OV n) h4 v1 (T.map Tag.enc):=hT.tags.keepR hF4.next (fun n h1 h2 h3=>by rcases ((hov n).1 h3).1 with h | h; exact h2 h; omega) hOW4
  have hG4 : SlO tRFile (fun n=>¬OV n) h4 v2 (F.map RFile.enc):=hT.files.keepR hF4.next (fun n h1 h2 h3=>by rcases ((hov n).1 h3).1 with h | h; exact h2 h; omega) hOW4
  have hOlt : ∀ n,OV n → n < h4.next:=fun n hn=>((hov n).1 hn).2
  have hn4 : h4.look (.arg n) = some ⟨.arr l.length tStep,encSteps l⟩:=by rw [← hn]; simp only [HP.look,hF4.arg]
  simp (maxSteps:=999999) (disch:=omega) only [go_sem,hlt,hn4]
  have hfo : FilesOk T F:=hW.ok
  refine W_callIO (O:=fun n=>¬OV n) (u:=25) (R:=fun v=>v = .int .i64 (rdoC T (stp l k))) (T':=rdoT T F (stp l k)) (G':=rdoF T F (stp l k)) rfl ⟨rfl,rfl⟩ (by
   simp only [go_sem,List.map_cons,List.map_nil]
   exact RIDoO_ok (h:=h4.push cx.lvl [(3,⟨tStep,x.enc⟩),(25,⟨tRIdeal,encRI v1 v2⟩)]) (l:=cx.lvl) (u:=25) (by exact hl) (hls cx.lvl 25 (Nat.le_refl _)) (Nat.lt_succ_self _) (fun m hm hov=>by have:=hOlt m hov; have hm' : h4.next ≤ m:=hm; omega) ⟨v1,v2,by simp [HP.look,HP.push,Own.get],hS4,hG4⟩ (by omega) (by omega) hfo hX) ?_
  rintro _ h5 w1 w2 own' rfl hown hstk harg hnx hsm hS5 hG5
  have hown' : own' = [(3,⟨tStep,x.enc⟩),(25,⟨tRIdeal,encRI w1 w2⟩)]:=by
   rcases hown with ⟨e1,e2⟩ | e
   ·subst e1
    have e3 : (⟨tRIdeal,encRI v1 v2⟩ : Blk) = ⟨tRIdeal,encRI w1 w2⟩:=by simpa [Own.get] using e2
    rw [e3]
   ·rw [e]; rfl
  subst hown'
  simp (maxSteps:=999999) (disch:=omega) only [go_sem]
  have hlen:=rdo_len (T:=T) (F:=F) (x:=stp l k)
  refine ih _ (w1,w2,h5) hlt ?_ ⟨OV,_,_,⟨⟨sv4,ad4,hW4'.keep (fun _ h1 _=>h1) hnx (fun n hn ho=>hsm n (fun h=>h ho))⟩,fun n hn=>Nat.lt_of_lt_of_le (hOlt n hn) hnx,hS5,hG5,hstk.trans (hF4.stk.trans hT.stk),harg.trans (hF4.arg.trans hT.arg)⟩,by omega,by omega⟩
  simp only [go_sem]
 ·obtain rfl : k = l.length:=by omega
  simp (maxSteps:=999999) (disch:=omega) only [go_sem,hvlen]
  refine W_forE (α:=HP) 5 (fun i h=>⟨[(3,.ptr (.stk cx.lvl 3) [] tStep),(5,.ptr (.obj w) [] tWorld),(6,.ptr (.stk cx.lvl 25) [] tRIdeal),(8,.int .i64 ((i : Int) - 1))],[(3,⟨tStep,x.enc⟩),(25,⟨tRIdeal,encRI v1 v2⟩)],h⟩) (fun i h=>Two h1 h w v1 v2 OW T F) h3 (by simp only [go_sem] <;> rfl) hT fun i h5 hi hT5 ih2=>?_
  obtain ⟨sv,ad,hW⟩:=hT5.win
  have hrd : ∀ (H : HP),(H.push cx.lvl [(3,⟨tStep,x.enc⟩),(25,⟨tRIdeal,encRI v1 v2⟩)]).rd (.stk cx.lvl 25) [0] = some v1:=fun H=>by simp [HP.rd,HP.look,HP.push,Own.get,at_RI0]
  have hrd2 : ∀ (H : HP),(H.push cx.lvl [(3,⟨tStep,x.enc⟩),(25,⟨tRIdeal,encRI v1 v2⟩)]).rd (.stk cx.lvl 25) [1] = some v2:=fun H=>by simp [HP.rd,HP.look,HP.push,Own.get,at_RI1]
  by_cases hlt5 : i < 5
  ·have h3' : (i : Int) - 1 ≤ 3:=by omega
   simp (maxSteps:=999999) (disch:=omega) only [go_sem,h3']
   refine W_IList (dd:=(i : Int) - 1) (by simp only [go_sem]) (by simp only [go_sem]) hl (fun x u hx=>hls x u (Nat.le_of_lt hx)) hW (by omega) fun v6 h6 hf6 hs6 hW6=>?_
   have hvn6:=hs6.vnW
   have hT6:=hT5.fr hf6
   simp (maxSteps:=999999) (disch:=omega) only [go_sem,hvn6]
   refine W_callF (S:=[]) (R:=fun v h'=>SlF h6 h' v (sortS (namesT T ((i : Int) - 1) T.length))) rfl ⟨rfl,rfl⟩ (by
    simp only [go_sem,List.map_cons,List.map_nil]
    exact IList_ok (h:=h6.push cx.lvl [(3,⟨tStep,x.enc⟩),(25,⟨tRIdeal,encRI v1 v2⟩)]) (p:=.stk cx.lvl 25) (v1:=v1) (l:=T) (by exact hl) (Nat.lt_succ_self _) (hrd h6) (fun n e=>by simp at e) hT6.tags.r.push (fun q hq=>by
     rcases hT6.tags with ⟨rfl,_⟩ | ⟨q',rfl,_,hq',_⟩
     ·simp [AV.into] at hq
     ·have : q' = q:=by simpa [AV.into] using hq
      subst this; exact hq') (by omega)) (fun v h1 e=>e) ?_
   rintro v7 h7 hf7 hs7
   have hvn7:=hs7.vnW
   simp (maxSteps:=999999) (disch:=omega) only [go_sem,hvn6,hvn7]
   have hnl:=namesT_len T ((i : Int) - 1) T.length
   refine W_callp rfl ⟨rfl,rfl⟩ (by simp only [go_sem]; exact SameTexts_ok (l:=sortS (namesT T ((i : Int) - 1) T.length)) (m:=sortS (namesT T ((i : Int) - 1) T.length)) (SlX_ofq hs6 hf7) (SlX_ofq hs7 (Fr.refl _ [])) (by rw [(sortS_perm _).length_eq]; omega)) ?_
   have hwr : (i : Int) - 1 + 1 = ((i + 1 : Nat) : Int) - 1:=by omega
   simp (maxSteps:=999999) (disch:=omega) only [go_sem]
   refine ih2 _ h7 hlt5 ?_ (hT6.fr hf7)
   simp only [go_sem,hwr]
  ·obtain rfl : i = 5:=by omega
   simp (maxSteps:=999999) (disch:=omega) only [go_sem]
   refine W_callp rfl ⟨rfl,rfl⟩ (by simp only [go_sem]; exact IRead_ok (O:=OW) (T:=T) (F:=F) hW.push (by omega) hx.name) ?_
   simp (maxSteps:=999999) (disch:=omega) only [go_sem,extW0,extW1,extW2]
   refine W_callp rfl ⟨rfl,rfl⟩ (by simp only [go_sem]; exact RRead_ok (h:=h5.push cx.lvl [(3,⟨tStep,x.enc⟩),(25,⟨tRIdeal,encRI v1 v2⟩)]) (p:=.stk cx.lvl 25) (l:=T) (fs:=F) (Nat.lt_succ_self _) (hrd h5) (hrd2 h5) hT5.tags.r.push hT5.files.r.push (by omega) hW.ok hx.name) ?_
   simp (maxSteps:=999999) (disch:=omega) only [go_sem,extW0,extW1,extW2]
   refine W_callp rfl ⟨rfl,rfl⟩ (by simp only [go_sem]; exact ICheck_ok hx.name hx.to hx.text) ?_
   simp (maxSteps:=999999) (disch:=omega) only [go_sem]
   refine W_callp rfl ⟨rfl,rfl⟩ (by simp only [go_sem]; exact StepFault_ok hx.name hx.to hx.text) ?_
   simp (maxSteps:=999999) (disch:=omega) only [go_sem]
   refine W_callp rfl ⟨rfl,rfl⟩ (by simp only [go_sem]; exact ISame_ok (O:=OW) (T:=T) (F:=F) hW.push (by omega)) ?_
   simp (maxSteps:=999999) (disch:=omega) only [go_sem]
   refine W_callp rfl ⟨rfl,rfl⟩ (by simp only [go_sem]; exact RSame_ok (h:=h5.push cx.lvl [(3,⟨tStep,x.enc⟩),(25,⟨tRIdeal,encRI v1 v2⟩)]) (p:=.stk cx.lvl 25) (l:=T) (Nat.lt_succ_self _) (hrd h5) hT5.tags.r.push (by omega)) ?_
   simp (maxSteps:=999999) (disch:=omega) only [go_sem]
end
theorem lets_topS : ∀ x u,(⟨0,⟨0,0⟩⟩ : Cx).lvl ≤ x → (⟨0,⟨0,0⟩⟩ : Cx).prot.lets (.stk x u) = true:=fun x u _=>decide_eq_true (Nat.zero_le x)
theorem IdealDoes_ok {h : HP} {v : AV} {l : List SStep} {x : SStep} (hl : ∀ n,(⟨0,⟨0,0⟩⟩ : Cx).prot.lets (.obj n) = true) (hv : StepsV h v l) (hsz : ∀ k,(stp l k).ok) (hx : x.ok) : Ok tblE ⟨0,⟨0,0⟩⟩ Fn.w_IdealDoes (St.enter [v,x.enc] h) fun v h'=>v = .bool true :=
 IdealDoes_walk hl lets_topS hv hsz hx
end Go.Mini
