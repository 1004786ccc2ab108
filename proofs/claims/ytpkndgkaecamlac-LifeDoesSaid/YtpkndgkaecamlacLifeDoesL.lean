/- A part of the proof: the statement LifeDoes, over the model of its code. -/
import Derived.Test.YtpkndgkaecamlacSdS

set_option linter.unusedSimpArgs false
set_option linter.unusedVariables false
set_option maxHeartbeats 4000000
set_option maxRecDepth 100000
namespace Go.Mini
@[go_sem] theorem fill_lostB (a b c : Int) : fill tLost (encLost 0 0 0) [(0,.int .i64 a),(1,.int .i64 b),(2,.int .i64 c)] = some (encLost a b c):=rfl
def bdOf (L : Lf) : Bd:=⟨L.fl.now,L.fl.disk,L.fl.stamp,L.n,L.a,L.b,L.c⟩
theorem bdOf_fl (L : Lf) : (bdOf L).fl = L.fl:=rfl
section
variable {cx : Cx} {h : HP} {n : Nat} {L : Lf}
theorem BStep_ok {x : SStep} (hl : ∀ n,cx.prot.lets (.obj n) = true) (hB : h.look (.obj n) = some ⟨tBed,(bdOf L).enc⟩) (hi : Inv0 L.fl) (hx : x.ok) :
  Ok tblE cx Fn.r_Bed_Step (St.enter [.ptr (.obj n) [] tBed,x.enc] h) fun v h'=>v = .int .i64 (lifeC L x) ∧ h' = h.ob n tBed (bdOf (lifeF L x)).enc:=by
 rw [Ok_eq]
 simp (maxSteps:=999999) (disch:=omega) only [go_sem]
 by_cases c7 : x.kind = 7
 ·have eF : bdOf (lifeF L x) = { bdOf L with disk:=(writeAs L.fl.now L.fl.disk x.p).1 }:=by simp [lifeF,c7,bdOf]
  simp (maxSteps:=999999) (disch:=omega) only [go_sem,c7]
  refine W_callh (v:=.bool (writeAs L.fl.now L.fl.disk x.p).2) (h.ob n tBed (Bd.enc { bdOf L with disk:=(writeAs L.fl.now L.fl.disk x.p).1 })) rfl ⟨rfl,rfl⟩ rfl (by simp only [go_sem]; exact rWrite_ok (B:=bdOf L) (by exact hl) (by simp only [go_sem,hB])) ?_
  simp (maxSteps:=999999) (disch:=omega) only [go_sem]
  cases cw : (writeAs L.fl.now L.fl.disk x.p).2 with
  | true =>
   simp (maxSteps:=999999) (disch:=omega) only [go_sem,cw]
   rw [eF]
   exact ⟨by simp [lifeC,c7,cw],rfl⟩
  | false =>
   simp (maxSteps:=999999) (disch:=omega) only [go_sem,cw]
   rw [eF]
   exact ⟨by simp [lifeC,c7,cw],rfl⟩
 by_cases c8 : x.kind = 8
 ·have eF : bdOf (lifeF L x) = { bdOf L with disk:=syncTo L.fl.now L.fl.disk }:=by simp [lifeF,c8,bdOf]
  simp (maxSteps:=999999) (disch:=omega) only [go_sem,c7,c8]
  refine W_callh (v:=.int .i64 (syncK L.fl.now L.fl.disk)) (h.ob n tBed (Bd.enc { bdOf L with disk:=syncTo L.fl.now L.fl.disk })) rfl ⟨rfl,rfl⟩ rfl (by simp only [go_sem]; exact rSync_E (B:=bdOf L) (by exact hl) (by simp only [go_sem,hB])) ?_
  simp (maxSteps:=999999) (disch:=omega) only [go_sem]
  rw [eF]
  exact ⟨by simp [lifeC,c7,c8],rfl⟩
 by_cases c9 : x.kind = 9
 ·have eC : lifeC L x = check L.fl.disk:=by simp [lifeC,c7,c8,c9]
  have eD : (bdOf L).disk = L.fl.disk:=rfl
  simp (maxSteps:=999999) (disch:=omega) only [go_sem,c7,c8,c9,hB,eD]
  refine W_callp rfl ⟨rfl,rfl⟩ (by simp only [go_sem]; exact upE (up (MendOf_ok (m:=L.fl.disk) hi.sd))) ?_
  simp (maxSteps:=999999) (disch:=omega) only [go_sem]
  by_cases e : check L.fl.disk = 0
  rotate_left
  ·simp (maxSteps:=999999) (disch:=omega) only [go_sem,e]
   have : lifeF L x = L:=by simp [lifeF,c7,c8,c9,crashF,e]
   rw [this,eC]
   exact ⟨rfl,(ob_self hB).symm⟩
  rw [mendV_of e,mendA_of e,mendB_of e,mendC_of e]
  simp (maxSteps:=999999) (disch:=omega) only [go_sem,e,hB,stV_ob (hl _)]
  have eF : bdOf (lifeF L x) = ⟨mended L.fl.disk,mended L.fl.disk,maxSt (mended L.fl.disk) 8,IntKind.i64.wrap ((bdOf L).crashes + 1),lostF L.fl.disk 8,lostC L.fl.disk 8,lostD (mendI L.fl.disk 8) 9⟩:=by
   have : lifeF L x = crashF L:=by simp [lifeF,c7,c8,c9]
   rw [this]
   simp [crashF,e,bdOf]
  rw [eF,eC,e]
  generalize mended L.fl.disk = M
  generalize IntKind.i64.wrap ((bdOf L).crashes + 1) = N
  generalize ((lostF L.fl.disk 8 : Nat) : Int) = A
  generalize ((lostC L.fl.disk 8 : Nat) : Int) = B
  generalize ((lostD (mendI L.fl.disk 8) 9 : Nat) : Int) = C
  refine W_for 8 (fun k=>⟨[(0,.ptr (.obj n) [] tBed),(5,.ptr (.stk cx.lvl 5) [] tImage),(8,.int .i64 k)],[(5,⟨tImage,M.enc⟩)],h.ob n tBed (Bd.enc ⟨M,M,maxSt M k,N,A,B,C⟩)⟩) (by simp only [go_sem] <;> rfl) fun k hk ih=>?_
  by_cases hlt : k < 8
  ·by_cases hm : maxSt M k < (M.ino k).stamp
   ·simp (maxSteps:=999999) (disch:=omega) only [go_sem,hlt,hm,stV_ob (hl _)]
    refine ih _ hlt ?_
    simp only [go_sem,maxSt,hm,if_true]
   ·simp (maxSteps:=999999) (disch:=omega) only [go_sem,hlt,hm,stV_ob (hl _)]
    refine ih _ hlt ?_
    simp only [go_sem,maxSt,hm,if_false]
  ·obtain rfl : k = 8:=by omega
   simp (maxSteps:=999999) (disch:=omega) only [go_sem]
 simp (maxSteps:=999999) (disch:=omega) only [go_sem,c7,c8,c9]
 have eF : bdOf (lifeF L x) = { bdOf L with now:=(doF L.fl x).now,stamp:=(doF L.fl x).stamp }:=by
  have : lifeF L x = { L with fl:=doF L.fl x }:=by simp [lifeF,c7,c8,c9]
  rw [this]
  simp only [bdOf,doF_disk]
 refine W_callh (v:=.int .i64 (doC L.fl x)) (h.ob n tBed (Bd.enc { bdOf L with now:=(doF L.fl x).now,stamp:=(doF L.fl x).stamp })) rfl ⟨rfl,rfl⟩ rfl (by simp only [go_sem]; exact Files0_ok (B:=bdOf L) (by exact hl) (by simp only [go_sem,hB]) hi.wf hx.name hx.to hx.text) ?_
 simp (maxSteps:=999999) (disch:=omega) only [go_sem]
 rw [eF]
 exact ⟨by simp [lifeC,c7,c8,c9],rfl⟩
end
theorem SlX_ofq {h h1 h2 : HP} {v : AV} {l : List Str} {k k' : Nat} {o : Own} (a : SlF h h1 v l) (b : Fr h1 h2 []) : SlX (h2.push k' o) k v l:=by
 rcases a with a | ⟨q,rfl,h1,h2,h3⟩
 ·exact .inl a
 ·exact .inr ⟨.obj q,rfl,below_obj _ _,b.look h2 (by simp) h3⟩
theorem bed_life {h : HP} {p f c e : Nat} {L : Lf} {B : Bd} (hA : LifeAt h p f c L) (hB : h.look (.obj e) = some ⟨tBed,B.enc⟩) : ¬e = p ∧ ¬e = f ∧ ¬e = c:=by
 refine ⟨?_,?_,?_⟩
 ·rintro rfl
  have:=hA.li
  rw [hB] at this
  simp at this
  exact absurd this.1 (by decide)
 ·rintro rfl
  have:=hA.fi
  rw [hB] at this
  simp at this
  exact absurd this.1 (by decide)
 ·rintro rfl
  have:=hA.ca
  rw [hB] at this
  simp at this
  exact absurd this.1 (by decide)
theorem W_lifeB {cx : Cx} {k : List Item} {kill : List Nat} {r : List MOp} {sl : Slots} {own : Own} {h h0 : HP} {Q : St → Prop} {L : Lf} {B : Bd} {x : SStep} {fi p e : Nat} {args : List Opd} {d : Option Nat}
  (hl : ∀ n,cx.prot.lets (.obj n) = true) (hf : tblE fi = some Fn.life_Life_Step) (ha : args.map (St.opd ⟨sl,own,h⟩) = [.ptr (.obj p) [] tLife,x.enc])
  (hN : LifeN h0 h p L) (hB : h.look (.obj e) = some ⟨tBed,B.enc⟩) (en : e < h.next) (hi : Inv0 L.fl) (hx : x.ok)
  (hq : ∀ h1,LifeN h0 h1 p (lifeF L x) → h1.look (.obj e) = some ⟨tBed,B.enc⟩ → h.next ≤ h1.next → W tblE cx (.ops r kill :: k) (St.setd ⟨sl,own,h1⟩ d (.int .i64 (lifeC L x))) Q) :
  W tblE cx (.ops (⟨d,.call false [] fi args,none⟩ :: r) kill :: k) ⟨sl,own,h⟩ Q:=by
 obtain ⟨f,c,hA,⟨b1,b2,b3⟩,hF⟩:=hN
 obtain ⟨n1,n2,n3⟩:=bed_life hA hB
 have hlen : args.length = 2:=by have:=congrArg List.length ha; simpa using this
 refine W_callF (S:=[p,f,c]) (R:=fun v h'=>v = .int .i64 (lifeC L x) ∧ LifeTo h h' p f c (lifeF L x)) hf ⟨by rw [hlen],rfl⟩ ?_ (fun v h1 a=>⟨a.1,by
  obtain ⟨f',c',a2,b2⟩:=a.2
  exact ⟨f',c',a2.pop,b2⟩⟩) fun v h1 hF1 hR=>?_
 ·rw [ha]
  refine (LStep_ok (L:=L) (by exact hl) hA.push hi hx.name hx.to hx.text).mono fun v h' e=>?_
  exact ⟨e.1,e.2.1,e.2.2⟩
 ·obtain ⟨rfl,f',c',hA',e2⟩:=hR
  refine hq h1 ⟨f',c',hA',⟨b1,?_,?_⟩,hF.since hF1 (by simp; omega)⟩ (hF1.look en (by simp [n1,n2,n3]) hB) hF1.next
  ·have:=hF.next
   rcases e2 with ⟨rfl,rfl⟩ | ⟨e2,e3⟩ <;> omega
  ·have:=hF.next
   rcases e2 with ⟨rfl,rfl⟩ | ⟨e2,e3⟩ <;> omega
theorem LifeN.ob {h0 h : HP} {p e : Nat} {L : Lf} {t : Ty} {v : AV} {B : Bd} (a : LifeN h0 h p L) (hB : h.look (.obj e) = some ⟨tBed,B.enc⟩) (he : h0.next ≤ e) : LifeN h0 (h.ob e t v) p L:=by
 obtain ⟨f,c,hA,hb,hF⟩:=a
 obtain ⟨n1,n2,n3⟩:=bed_life hA hB
 have q1 : ¬p = e:=fun h=>n1 h.symm
 have q2 : ¬f = e:=fun h=>n2 h.symm
 have q3 : ¬c = e:=fun h=>n3 h.symm
 exact ⟨f,c,⟨by rw [look_ob_ne q1]; exact hA.li,by rw [look_ob_ne q2]; exact hA.fi,by rw [look_ob_ne q3]; exact hA.ca,hA.pf,hA.fc,hA.pc,hA.pn,hA.fn,hA.cn⟩,hb,hF.since (S:=[e]) (Fr.ob (by simp)) (by simpa using he)⟩
section
variable {cx : Cx} {h : HP} {v : AV} {l : List SStep}
theorem LifeDoes_ok (hl : ∀ n,cx.prot.lets (.obj n) = true) (hv : StepsV h v l) (hsz : ∀ k,(stp l k).ok) : Ok tblE cx Fn.w_LifeDoes (St.enter [v] h) fun v h'=>v = .bool true:=by
 rw [Ok_eq]
 have hvlen:=hv.len
 have hvfg:=hv.fg
 have hvld:=hv.ld
 simp (maxSteps:=999999) (disch:=omega) only [go_sem]
 refine W_callF (S:=[]) (R:=fun v _=>v = .bool true) rfl ⟨rfl,rfl⟩ (by simp only [go_sem]; exact lifeBegun_ok (by exact hl)) (fun _ _ e=>e) ?_
 rintro _ h1 hF1 rfl
 simp (maxSteps:=999999) (disch:=omega) only [go_sem,hvlen,hvfg,hvld]
 refine W_callhv (P:=fun x=>∃ b,x = .bool b ∧ (b = false → l.length ≤ 200)) h1 rfl ⟨rfl,rfl⟩ rfl (by simp only [go_sem]; exact greatSteps_ok ((hv.to hF1.arg).push)) ?_
 rintro _ ⟨great,rfl,hgr⟩
 cases great with
 | true=>simp (maxSteps:=999999) (disch:=omega) only [go_sem]
 | false =>
 have h200:=hgr rfl
 simp (maxSteps:=999999) (disch:=omega) only [go_sem,hvlen,hvfg,hvld]
 refine W_callN (h0:=h1) (R:=fun v=>v = .ptr (.obj (h1.next + 2)) [] tLife) (L':=Lf.new) (p:=h1.next + 2) rfl ⟨rfl,rfl⟩ rfl (by simp only [go_sem]; exact LNew_N) ?_
 rintro _ h2 rfl n0
 generalize h1.next + 2 = p at n0 ⊢
 simp (maxSteps:=999999) (disch:=omega) only [go_sem,hvlen,hvfg,hvld]
 refine W_callh (v:=.ptr (.obj h2.next) [] tBed) (h2.nw tBed (Bd.enc ⟨.blank,.blank,0,0,0,0,0⟩)) rfl ⟨rfl,rfl⟩ rfl (by simp only [go_sem]; exact NewBed_ok) ?_
 have n1:=n0.same (Fr.nw (t:=tBed) (v:=Bd.enc ⟨.blank,.blank,0,0,0,0,0⟩))
 have b1 : (h2.nw tBed (Bd.enc ⟨.blank,.blank,0,0,0,0,0⟩)).look (.obj h2.next) = some ⟨tBed,(bdOf .new).enc⟩:=look_nw
 have e1 : h2.next < (h2.nw tBed (Bd.enc ⟨.blank,.blank,0,0,0,0,0⟩)).next:=by show h2.next < h2.next + 1; omega
 have e0 : h1.next ≤ h2.next:=by obtain ⟨_,_,_,_,hF⟩:=n0; exact hF.next
 generalize h2.next = e at b1 e1 e0 ⊢
 generalize h2.nw tBed (Bd.enc ⟨.blank,.blank,0,0,0,0,0⟩) = h3 at n1 b1 e1 ⊢
 simp (maxSteps:=999999) (disch:=omega) only [go_sem,hvlen,hvfg,hvld]
 refine W_forE (α:=HP) l.length (fun k h=>⟨[(0,v),(3,.ptr (.obj p) [] tLife),(4,.ptr (.obj e) [] tBed),(5,.int .i64 k)],[],h⟩) (fun k h=>LifeN h1 h p (lifeRun .new l k) ∧ h.look (.obj e) = some ⟨tBed,(bdOf (lifeRun .new l k)).enc⟩ ∧ e < h.next) h3 (by simp only [go_sem] <;> rfl) ⟨n1,b1,e1⟩ fun k h4 hk hN ih=>?_
 obtain ⟨hN,hB,en⟩:=hN
 obtain ⟨inv,_⟩:=inv_run l Inv.new new_stamp k (by omega)
 by_cases hlt : k < l.length
 ·obtain ⟨n,rfl,hn⟩:=(hv.to (hN.arg.trans hF1.arg)).ix k hlt
  have hx:=hsz k
  simp (maxSteps:=999999) (disch:=omega) only [go_sem,hlt,hn]
  refine W_lifeB (h0:=h1) (L:=lifeRun .new l k) (B:=bdOf (lifeRun .new l k)) (x:=stp l k) (e:=e) (p:=p) hl rfl (by simp only [go_sem,List.map]) hN hB en inv.i0 hx fun h5 hN5 hB5 hn5=>?_
  have hnn : h5.look (.arg n) = some ⟨.arr l.length tStep,encSteps l⟩:=by
   have:=hN5.arg.trans hN.arg.symm
   have hn':=hn
   simp only [HP.look] at hn' ⊢
   rw [this]; exact hn'
  simp (maxSteps:=999999) (disch:=omega) only [go_sem,hlt,hnn]
  refine W_callh (v:=.int .i64 (lifeC (lifeRun .new l k) (stp l k))) (h5.ob e tBed (bdOf (lifeF (lifeRun .new l k) (stp l k))).enc) rfl ⟨rfl,rfl⟩ rfl (by simp only [go_sem]; exact BStep_ok (L:=lifeRun .new l k) (by exact hl) (by simp only [go_sem,hB5]) inv.i0 hx) ?_
  have hN6:=hN5.ob (t:=tBed) (v:=(bdOf (lifeF (lifeRun .new l k) (stp l k))).enc) hB5 e0
  have hB6 : (h5.ob e tBed (bdOf (lifeF (lifeRun .new l k) (stp l k))).enc).look (.obj e) = some ⟨tBed,(bdOf (lifeF (lifeRun .new l k) (stp l k))).enc⟩:=look_ob
  have en6 : e < (h5.ob e tBed (bdOf (lifeF (lifeRun .new l k) (stp l k))).enc).next:=by show e < h5.next; omega
  generalize h5.ob e tBed (bdOf (lifeF (lifeRun .new l k) (stp l k))).enc = h6 at hN6 hB6 en6 ⊢
  have hrun : lifeRun .new l (k + 1) = lifeF (lifeRun .new l k) (stp l k):=rfl
  generalize lifeF (lifeRun .new l k) (stp l k) = L at hN6 hB6 hrun
  obtain ⟨f,c,hA,_,_⟩:=id hN6
  have q1 : (bdOf L).disk = L.fl.disk:=rfl
  have q2 : (bdOf L).now = L.fl.now:=rfl
  have q3 : (bdOf L).crashes = L.n:=rfl
  have q4 : (bdOf L).files = L.a:=rfl
  have q5 : (bdOf L).counts = L.b:=rfl
  have q6 : (bdOf L).datas = L.c:=rfl
  simp (maxSteps:=999999) (disch:=omega) only [go_sem,hA.li,hA.fi,hA.ca,hB6]
  refine W_callp rfl ⟨rfl,rfl⟩ (by simp only [go_sem]; exact eDisk (a:=L.fl.now) (b:=L.fl.disk) (by simp only [go_sem,hA.ca])) ?_
  simp (maxSteps:=999999) (disch:=omega) only [go_sem,hA.li,hA.fi,hA.ca,hB6,q1,q2]
  refine W_callp rfl ⟨rfl,rfl⟩ (by simp only [go_sem]; exact Crashes_ok hA.push) ?_
  simp (maxSteps:=999999) (disch:=omega) only [go_sem,hA.li,hA.fi,hA.ca,hB6,q3]
  refine W_callp rfl ⟨rfl,rfl⟩ (by simp only [go_sem]; exact Lost_ok hA.push) ?_
  simp (maxSteps:=999999) (disch:=omega) only [go_sem,hA.li,hA.fi,hA.ca,hB6,q4,q5,q6]
  refine ih _ h6 hlt ?_ ⟨by rw [hrun]; exact hN6,by rw [hrun]; exact hB6,en6⟩
  simp only [go_sem]
 ·obtain rfl : k = l.length:=by omega
  simp (maxSteps:=999999) (disch:=omega) only [go_sem,hvlen,hvfg,hvld]
  generalize lifeRun .new l l.length = L at hN hB inv
  refine W_forE (α:=HP) 3 (fun d H=>⟨[(3,.ptr (.obj p) [] tLife),(4,.ptr (.obj e) [] tBed),(6,.int .i64 d)],[],H⟩) (fun _ H=>LifeN h1 H p L ∧ H.look (.obj e) = some ⟨tBed,(bdOf L).enc⟩ ∧ e < H.next) h4 (by simp only [go_sem] <;> rfl) ⟨hN,hB,en⟩ fun d h5 hd hP ih=>?_
  obtain ⟨hN,hB,en⟩:=hP
  by_cases hlt : d < 3
  ·obtain ⟨f,c,hA,_,_⟩:=id hN
   simp (maxSteps:=999999) (disch:=omega) only [go_sem,hlt,hA.li]
   refine W_callF (S:=[]) (R:=fun v h'=>SlF h5 h' v (listOf L.fl.now d)) rfl ⟨rfl,rfl⟩ (by simp only [go_sem]; exact List_ok (h:=h5.push cx.lvl []) (f:=f) (c:=c) (a:=L.fl.now) (b:=L.fl.disk) (st:=L.fl.stamp) (by exact hl) hA.fi hA.ca) (fun v h1 e=>e) ?_
   rintro v6 h6 hF6 hs6
   have hB6:=hF6.look en (by simp) hB
   simp (maxSteps:=999999) (disch:=omega) only [go_sem]
   refine W_callF (S:=[]) (R:=fun v h'=>SlF h6 h' v (listOf L.fl.now d)) rfl ⟨rfl,rfl⟩ (by simp only [go_sem]; exact BList_ok (h:=h6.push cx.lvl []) (B:=bdOf L) (by exact hl) hB6 (Nat.lt_of_lt_of_le en hF6.next)) (fun v h1 e=>e) ?_
   rintro v7 h7 hF7 hs7
   have l4 : (listOf L.fl.now d).length ≤ 4:=by
    unfold listOf
    split
    ·simp
    ·rw [(sortS_perm _).length_eq]; exact namesL_len _ _ _
   have hfg6 : ∀ i,fg v6 i = v6 → True:=fun _ _=>trivial
   simp (maxSteps:=999999) (disch:=omega) only [go_sem]
   refine W_callp rfl ⟨rfl,rfl⟩ (by simp only [go_sem]; exact SameTexts_ok (l:=listOf L.fl.now d) (m:=listOf L.fl.now d) (SlX_ofq hs6 hF7) (SlX_ofq hs7 (Fr.refl _ [])) (by omega)) ?_
   simp (maxSteps:=999999) (disch:=omega) only [go_sem]
   refine ih _ h7 hlt ?_ ⟨(hN.same hF6).same hF7,hF7.look (Nat.lt_of_lt_of_le en hF6.next) (by simp) hB6,Nat.lt_of_lt_of_le en (Nat.le_trans hF6.next hF7.next)⟩
   simp only [go_sem]
  ·obtain rfl : d = 3:=by omega
   simp (maxSteps:=999999) (disch:=omega) only [go_sem]
end
end Go.Mini
