/- A part of the proof: the statement SoftDoes, over the model of its code. -/
import Derived.Test.YtpkndgkaecamlacSdS

set_option linter.unusedSimpArgs false
set_option linter.unusedVariables false
set_option maxHeartbeats 4000000
set_option maxRecDepth 100000
namespace Go.Mini
theorem SlX_ofq {h h1 h2 : HP} {v : AV} {l : List Str} {k k' : Nat} {o : Own} (a : SlF h h1 v l) (b : Fr h1 h2 []) : SlX (h2.push k' o) k v l:=by
 rcases a with a | ⟨q,rfl,h1,h2,h3⟩
 ·exact .inl a
 ·exact .inr ⟨.obj q,rfl,below_obj _ _,b.look h2 (by simp) h3⟩
theorem bed_life {h : HP} {p f c e : Nat} {L : Lf} {B : Bd} (hA : LifeAt h p f c L) (hB : h.look (.obj e) = some ⟨tBed,B.enc⟩) : ¬e = p ∧ ¬e = f ∧ ¬e = c:=by
 refine ⟨?_,?_,?_⟩
 ·rintro rfl
  have:=hA.li
  rw [hB] at this
  simp at this
  exact absurd this.1 (by decide)
 ·rintro rfl
  have:=hA.fi
  rw [hB] at this
  simp at this
  exact absurd this.1 (by decide)
 ·rintro rfl
  have:=hA.ca
  rw [hB] at this
  simp at this
  exact absurd this.1 (by decide)
theorem LifeN.ob {h0 h : HP} {p e : Nat} {L : Lf} {t : Ty} {v : AV} {B : Bd} (a : LifeN h0 h p L) (hB : h.look (.obj e) = some ⟨tBed,B.enc⟩) (he : h0.next ≤ e) : LifeN h0 (h.ob e t v) p L:=by
 obtain ⟨f,c,hA,hb,hF⟩:=a
 obtain ⟨n1,n2,n3⟩:=bed_life hA hB
 have q1 : ¬p = e:=fun h=>n1 h.symm
 have q2 : ¬f = e:=fun h=>n2 h.symm
 have q3 : ¬c = e:=fun h=>n3 h.symm
 exact ⟨f,c,⟨by rw [look_ob_ne q1]; exact hA.li,by rw [look_ob_ne q2]; exact hA.fi,by rw [look_ob_ne q3]; exact hA.ca,hA.pf,hA.fc,hA.pc,hA.pn,hA.fn,hA.cn⟩,hb,hF.since (S:=[e]) (Fr.ob (by simp)) (by simpa using he)⟩
section
variable {cx : Cx} {h : HP} {n : Nat} {B : Bd}
theorem BRead_ok {d p : Int} {s : Str} (hB : h.look (.obj n) = some ⟨tBed,B.enc⟩) (hw : WF B.now) (hs : s.size ≤ 9223372036854775807) :
  Ok tblE cx Fn.r_Bed_Read (St.enter [.ptr (.obj n) [] tBed,.int .i64 d,.str s,.int .i64 p] h) fun v h'=>v = encR (readT B.now d s p) (readB B.now d s p) (readC B.now d s p) ∧ h' = h:=by
 rw [Ok_eq]
 simp (maxSteps:=999999) (disch:=omega) only [go_sem]
 refine W_callp rfl ⟨rfl,rfl⟩ (by simp only [go_sem]; exact StepFault_ok (x:=⟨6,d,0,p,s,⟨#[]⟩,⟨#[]⟩⟩) hs (Nat.zero_le _) (Nat.zero_le _)) ?_
 simp (maxSteps:=999999) (disch:=omega) only [go_sem]
 by_cases c0 : stepFault ⟨6,d,0,p,s,⟨#[]⟩,⟨#[]⟩⟩ = 0
 rotate_left
 ·simp (maxSteps:=999999) (disch:=omega) only [go_sem,c0]
  simp [readC,readB,readT,c0,encR]
 obtain ⟨_,⟨d0,d3⟩,_,_,hp,_⟩:=stepFault_zero c0
 obtain ⟨p0,p2⟩:=hp (.inr rfl)
 simp only at d0 d3 p0 p2
 simp (maxSteps:=999999) (disch:=omega) only [go_sem,c0,hB]
 refine W_callp rfl ⟨rfl,rfl⟩ (by simp only [go_sem]; exact upE (up (SlotOf_ok (m:=B.now) (p:=.obj n) (q:=[0]) (below_obj _ _) (by rw [HP.push_rd_ext (below_obj _ _)]; exact rdB0 hB)))) ?_
 simp (maxSteps:=999999) (disch:=omega) only [go_sem]
 rcases slotOf_cases B.now d s with e | ⟨k,k4,e,_⟩
 ·simp (maxSteps:=999999) (disch:=omega) only [go_sem,e]
  simp [readC,readB,readT,c0,e,encR]
 have k0 : ¬(k : Int) < 0:=by omega
 have i0:=(hw.1 d.toNat k).1
 have i8:=(hw.1 d.toNat k).2
 have q9:=(hw.2 (B.now.ent d.toNat k).ino.toNat p.toNat).2
 simp (maxSteps:=999999) (disch:=omega) only [go_sem,e,k0,hB]
 by_cases c1 : (B.now.ino (B.now.ent d.toNat k).ino.toNat).prt p.toNat < 0
 ·simp (maxSteps:=999999) (disch:=omega) only [go_sem,c1]
  simp [readC,readB,readT,readX,c0,e,k0,c1,encR]
 ·simp (maxSteps:=999999) (disch:=omega) only [go_sem,c1,hB]
  simp [readC,readB,readT,readX,c0,e,k0,c1,encR]
theorem BSame_ok {d e : Int} {s t : Str} (hB : h.look (.obj n) = some ⟨tBed,B.enc⟩) :
  Ok tblE cx Fn.r_Bed_Same (St.enter [.ptr (.obj n) [] tBed,.int .i64 d,.str s,.int .i64 e,.str t] h) fun v h'=>v = .bool (sameB B.now d s e t) ∧ h' = h:=by
 rw [Ok_eq]
 simp (maxSteps:=999999) (disch:=omega) only [go_sem,hB]
 refine W_callp rfl ⟨rfl,rfl⟩ (by simp only [go_sem]; exact upE (up (SlotOf_ok (m:=B.now) (p:=.obj n) (q:=[0]) (below_obj _ _) (by rw [HP.push_rd_ext (below_obj _ _)]; exact rdB0 hB)))) ?_
 simp (maxSteps:=999999) (disch:=omega) only [go_sem,hB]
 refine W_callp rfl ⟨rfl,rfl⟩ (by simp only [go_sem]; exact upE (up (SlotOf_ok (m:=B.now) (p:=.obj n) (q:=[0]) (below_obj _ _) (by rw [HP.push_rd_ext (below_obj _ _)]; exact rdB0 hB)))) ?_
 simp (maxSteps:=999999) (disch:=omega) only [go_sem,hB]
 rcases slotOf_cases B.now d s with e1 | ⟨k,k4,e1,d0,d3,_⟩
 ·simp (maxSteps:=999999) (disch:=omega) only [go_sem,e1]
  simp [sameB,e1]
 rcases slotOf_cases B.now e t with e2 | ⟨j,j4,e2,e0,e3,_⟩
 ·simp (maxSteps:=999999) (disch:=omega) only [go_sem,e1,e2]
  simp [sameB,e1,e2]
 simp (maxSteps:=999999) (disch:=omega) only [go_sem,e1,e2,hB]
 simp [sameB,e1,e2]
theorem BSure_ok {d : Int} {s : Str} (hB : h.look (.obj n) = some ⟨tBed,B.enc⟩) :
  Ok tblE cx Fn.r_Bed_Sure (St.enter [.ptr (.obj n) [] tBed,.int .i64 d,.str s] h) fun v h'=>v = .bool (sureB B.now B.disk d s) ∧ h' = h:=by
 rw [Ok_eq]
 simp (maxSteps:=999999) (disch:=omega) only [go_sem,hB]
 refine W_callp rfl ⟨rfl,rfl⟩ (by simp only [go_sem]; exact upE (up (SlotOf_ok (m:=B.now) (p:=.obj n) (q:=[0]) (below_obj _ _) (by rw [HP.push_rd_ext (below_obj _ _)]; exact rdB0 hB)))) ?_
 simp (maxSteps:=999999) (disch:=omega) only [go_sem,hB]
 rcases slotOf_cases B.now d s with e1 | ⟨k,k4,e1,d0,d3,_⟩
 ·simp (maxSteps:=999999) (disch:=omega) only [go_sem,e1]
  simp [sureB,e1]
 simp (maxSteps:=999999) (disch:=omega) only [go_sem,e1,hB]
 simp [sureB,e1]
 exact eq_comm
end
theorem inv_softU {F : Fl} (l : List SStep) (h : Inv F) (hs : F.stamp ≤ 1099511627776) : ∀ k,k ≤ 1000000000 → Inv (softRun F l k) ∧ (softRun F l k).stamp ≤ 1099511627776 + k
 | 0,_=>⟨h,by show F.stamp ≤ _; omega⟩
 | k + 1,hk=>by
  obtain ⟨a,b⟩:=inv_softU l h hs k (by omega)
  obtain ⟨c,d⟩:=a.softF (by omega) (stp l k)
  exact ⟨c,by show (Go.Mini.softF (softRun F l k) (stp l k)).stamp ≤ _; omega⟩
theorem FilN.obB {h0 h : HP} {f e : Nat} {F : Fl} {t : Ty} {v : AV} {B : Bd} (a : FilN h0 h f F) (hB : h.look (.obj e) = some ⟨tBed,B.enc⟩) (he : h0.next ≤ e) : FilN h0 (h.ob e t v) f F:=by
 obtain ⟨c,hA,hb,hF⟩:=a
 have n1 : ¬f = e:=by
  rintro rfl
  have:=hA.fi
  rw [hB] at this
  simp at this
  exact absurd this.1 (by decide)
 have n2 : ¬c = e:=by
  rintro rfl
  have:=hA.ca
  rw [hB] at this
  simp at this
  exact absurd this.1 (by decide)
 exact ⟨c,⟨by rw [look_ob_ne n1]; exact hA.fi,by rw [look_ob_ne n2]; exact hA.ca,hA.fc,hA.fn,hA.cn⟩,hb,hF.since (S:=[e]) (Fr.ob (by simp)) (by simpa using he)⟩
def bdF (F : Fl) : Bd:=⟨F.now,F.disk,F.stamp,0,0,0,0⟩
theorem softB_bdF (F : Fl) (x : SStep) : softB (bdF F) x = bdF (softF F x):=rfl
theorem softC_self (F : Fl) (x : SStep) : softC F F x = true:=by
 unfold softC
 split
 ·simp
 ·split
  ·simp
  ·split <;> simp
section
variable {cx : Cx} {h : HP} {v : AV} {l : List SStep} {m : Img}
theorem SoftDoes_ok {x : SStep} (hl : ∀ n,cx.prot.lets (.obj n) = true) (hv : StepsV h v l) (hsz : ∀ k,(stp l k).ok) (hx : x.ok) : Ok tblE cx Fn.w_SoftDoes (St.enter [m.enc,v,x.enc] h) fun v h'=>v = .bool true:=by
 rw [Ok_eq]
 have hvlen:=hv.len
 have hvfg:=hv.fg
 have hvld:=hv.ld
 simp (maxSteps:=999999) (disch:=omega) only [go_sem,hvfg]
 refine W_callF (S:=[]) (R:=fun v _=>v = .bool true) rfl ⟨rfl,rfl⟩ (by simp only [go_sem]; exact softBegun_ok (by exact hl)) (fun _ _ e=>e) ?_
 rintro _ h1 hF1 rfl
 simp (maxSteps:=999999) (disch:=omega) only [go_sem,hvlen,hvfg,hvld]
 refine W_callp rfl ⟨rfl,rfl⟩ (by simp only [go_sem]; exact upE (up (Great_ok (m:=m)))) ?_
 simp (maxSteps:=999999) (disch:=omega) only [go_sem,hvlen,hvfg,hvld]
 cases cg : great m with
 | true =>
  simp (maxSteps:=999999) (disch:=omega) only [go_sem,cg]
 | false =>
 simp (maxSteps:=999999) (disch:=omega) only [go_sem,cg,hvlen,hvfg,hvld]
 refine W_callhv (P:=fun x=>∃ b,x = .bool b ∧ (b = false → l.length ≤ 200)) h1 rfl ⟨rfl,rfl⟩ rfl (by simp only [go_sem]; exact greatSteps_ok ((hv.to hF1.arg).push)) ?_
 rintro _ ⟨great,rfl,hgr⟩
 cases great with
 | true=>simp (maxSteps:=999999) (disch:=omega) only [go_sem]
 | false =>
 have h200:=hgr rfl
 simp (maxSteps:=999999) (disch:=omega) only [go_sem,hvlen,hvfg,hvld]
 refine W_callhv (P:=fun x=>∃ b,x = .bool b) h1 rfl ⟨rfl,rfl⟩ rfl (by simp only [go_sem]; exact greatStep_ok) ?_
 rintro _ ⟨great,rfl⟩
 cases great with
 | true=>simp (maxSteps:=999999) (disch:=omega) only [go_sem]
 | false =>
 simp (maxSteps:=999999) (disch:=omega) only [go_sem,hvlen,hvfg,hvld]
 refine W_callh (v:=.ptr (.obj (h1.next + 1)) [] tFiles) (HF h1 fb0) rfl ⟨rfl,rfl⟩ rfl (by simp only [go_sem]; exact SNew_ok) ?_
 simp (maxSteps:=999999) (disch:=omega) only [go_sem,hvlen,hvfg,hvld]
 refine W_callh (v:=.ptr (.obj (h1.next + 2)) [] tBed) ((HF h1 fb0).nw tBed (bdF fb0).enc) rfl ⟨rfl,rfl⟩ rfl (by simp only [go_sem]; exact NewBed_ok) ?_
 simp (maxSteps:=999999) (disch:=omega) only [go_sem,hvlen,hvfg,hvld]
 have hB0 : ((HF h1 fb0).nw tBed (bdF fb0).enc).look (.obj (h1.next + 2)) = some ⟨tBed,(bdF fb0).enc⟩:=look_nw
 have en0 : h1.next + 2 < ((HF h1 fb0).nw tBed (bdF fb0).enc).next:=by show h1.next + 2 < h1.next + 1 + 1 + 1; omega
 have hN0 : FilN h1 ((HF h1 fb0).nw tBed (bdF fb0).enc) (h1.next + 1) fb0:=FilN.new.same Fr.nw
 have hfe : h1.next ≤ h1.next + 2:=by omega
 generalize (HF h1 fb0).nw tBed (bdF fb0).enc = h2 at hB0 en0 hN0 ⊢
 generalize h1.next + 2 = e at hB0 en0 hfe ⊢
 generalize h1.next + 1 = f0 at hN0 ⊢
 have hs:=great_small cg
 by_cases hc : check m = 0
 ·refine W_callh (v:=.ptr (.obj (h2.next + 1)) [] tFiles) (HF h2 ⟨m,m,maxSt m 8⟩) rfl ⟨rfl,rfl⟩ rfl (by simp only [go_sem]; exact SOf_ok (fun n _=>hl n) hs hc) ?_
  have hb2 : h1.next ≤ h2.next:=by obtain ⟨_,_,_,hF⟩:=hN0; exact hF.next
  have hF2 : Fr h1 h2 []:=by obtain ⟨_,_,_,hF⟩:=hN0; exact hF
  have hN1 : FilN h1 (HF h2 ⟨m,m,maxSt m 8⟩) (h2.next + 1) ⟨m,m,maxSt m 8⟩ :=
   ⟨h2.next,⟨HF_F,HF_C,by omega,by show h2.next + 1 < h2.next + 1 + 1; omega,by show h2.next < h2.next + 1 + 1; omega⟩,⟨by omega,by omega⟩,hF2.trans HF_fr⟩
  have hB1 : (HF h2 ⟨m,m,maxSt m 8⟩).look (.obj e) = some ⟨tBed,(bdF fb0).enc⟩:=(HF_fr (F:=⟨m,m,maxSt m 8⟩)).look en0 (by simp) hB0
  have en1 : e < (HF h2 ⟨m,m,maxSt m 8⟩).next:=by show e < h2.next + 1 + 1; omega
  have hBx : (bdF fb0) = ⟨.blank,.blank,0,0,0,0,0⟩:=rfl
  generalize HF h2 ⟨m,m,maxSt m 8⟩ = h3 at hN1 hB1 en1 ⊢
  generalize h2.next + 1 = f at hN1 ⊢
  rw [hBx] at hB1
  simp (maxSteps:=999999) (disch:=omega) only [go_sem,hvlen,hvfg,hvld,hB1,stV_ob (hl _)]
  refine W_for 8 (fun k=>⟨[(1,v),(3,.ptr (.stk cx.lvl 3) [] tImage),(5,.ptr (.stk cx.lvl 5) [] tStep),(7,.ptr (.obj f) [] tFiles),(8,.ptr (.obj e) [] tBed),(10,.int .i64 k)],[(3,⟨tImage,m.enc⟩),(5,⟨tStep,x.enc⟩)],h3.ob e tBed (Bd.enc ⟨m,m,maxSt m k,0,0,0,0⟩)⟩) (by simp only [go_sem] <;> rfl) fun k hk ih=>?_
  by_cases hlt : k < 8
  ·simp (maxSteps:=999999) (disch:=omega) only [go_sem,hlt,stV_ob (hl _)]
   refine ih _ hlt ?_
   simp only [go_sem,maxSt]
  ·obtain rfl : k = 8:=by omega
   simp (maxSteps:=999999) (disch:=omega) only [go_sem]
   refine W_callp rfl ⟨rfl,rfl⟩ (by simp only [go_sem]; exact upE (up (ImageFault_ok (m:=m) hs (below_stk _ _) (by simp only [go_sem,HP.push_rd_own])))) ?_
   simp (maxSteps:=999999) (disch:=omega) only [go_sem,hc]
   by_cases hbig : 1099511627776 < maxSt m 8
   ·simp (maxSteps:=999999) (disch:=omega) only [go_sem,hbig]
   have hst : maxSt m 8 ≤ 1099511627776:=by omega
   simp (maxSteps:=999999) (disch:=omega) only [go_sem,hbig,hvlen,hvfg,hvld]
   have hinv : exact m = true → Inv ⟨m,m,maxSt m 8⟩:=fun he=>Inv.of he hs
   have hN : FilN h1 (h3.ob e tBed (bdF ⟨m,m,maxSt m 8⟩).enc) f ⟨m,m,maxSt m 8⟩:=FilN.obB hN1 hB1 hfe
   have hB : (h3.ob e tBed (bdF ⟨m,m,maxSt m 8⟩).enc).look (.obj e) = some ⟨tBed,(bdF ⟨m,m,maxSt m 8⟩).enc⟩:=look_ob
   have en : e < (h3.ob e tBed (bdF ⟨m,m,maxSt m 8⟩).enc).next:=en1
   change W tblE cx _ ⟨_,_,h3.ob e tBed (bdF ⟨m,m,maxSt m 8⟩).enc⟩ _
   generalize h3.ob e tBed (bdF ⟨m,m,maxSt m 8⟩).enc = H at hN hB en ⊢
   have hsm : (⟨m,m,maxSt m 8⟩ : Fl).now.small:=hs
   have hinv' : exact (⟨m,m,maxSt m 8⟩ : Fl).now = true → Inv ⟨m,m,maxSt m 8⟩:=hinv
   have hst' : (⟨m,m,maxSt m 8⟩ : Fl).stamp ≤ 1099511627776:=hst
   clear hinv hst
   generalize (⟨m,m,maxSt m 8⟩ : Fl) = F at hN hB hsm hinv' hst'
   have hinv:=hinv'
   have hst:=hst'
   refine W_callp rfl ⟨rfl,rfl⟩ (by simp only [go_sem]; exact upE (up (IsExact_ok (m:=F.now) (p:=.obj e) (q:=[0]) hsm (below_obj _ _) (by rw [HP.push_rd_ext (below_obj _ _)]; exact rdB0 hB)))) ?_
   simp (maxSteps:=999999) (disch:=omega) only [go_sem,hvlen,hvfg,hvld]
   cases cxx : exact F.now with
   | false=>simp (maxSteps:=999999) (disch:=omega) only [go_sem,cxx]
   | true =>
   have inv0:=hinv cxx
   simp (maxSteps:=999999) (disch:=omega) only [go_sem,cxx,hvlen,hvfg,hvld]
   refine W_forE (α:=HP) l.length (fun k h=>⟨[(1,v),(5,.ptr (.stk cx.lvl 5) [] tStep),(7,.ptr (.obj f) [] tFiles),(8,.ptr (.obj e) [] tBed),(11,.int .i64 k)],[(5,⟨tStep,x.enc⟩)],h⟩) (fun k h=>FilN h1 h f (softRun F l k) ∧ h.look (.obj e) = some ⟨tBed,(bdF (softRun F l k)).enc⟩ ∧ e < h.next) H (by simp only [go_sem] <;> rfl) ⟨hN,hB,en⟩ fun k h3 hk hP ih=>?_
   obtain ⟨hN3,hB3,en3⟩:=hP
   obtain ⟨inv,hst3⟩:=inv_softU l inv0 hst k (by omega)
   by_cases hlt : k < l.length
   ·obtain ⟨n,rfl,hn⟩:=(hv.to (hN3.arg.trans hF1.arg)).ix k hlt
    simp (maxSteps:=999999) (disch:=omega) only [go_sem,hlt,hn]
    refine W_softStep (h0:=h1) (F:=softRun F l k) (B:=bdF (softRun F l k)) (x:=stp l k) (e:=e) (f:=f) hl rfl (by simp only [go_sem,List.map]) hN3 hB3 hfe en3 inv.i0.wf inv.i0.wf (hsz k) fun h4 hN4 hB4 hn4=>?_
    have hcs : softC (softRun F l k) (bdF (softRun F l k)).fl (stp l k) = true:=softC_self _ _
    have hB5 : h4.look (.obj e) = some ⟨tBed,(bdF (softRun F l (k + 1))).enc⟩:=hB4
    have hN5 : FilN h1 h4 f (softRun F l (k + 1)):=hN4
    generalize softRun F l (k + 1) = G at hB5 hN5 ih
    have q1 : (bdF G).now = G.now:=rfl
    have q2 : (bdF G).disk = G.disk:=rfl
    obtain ⟨c4,hA4,_,_⟩:=id hN5
    simp (maxSteps:=999999) (disch:=omega) only [go_sem,hcs,hA4.fi,hA4.ca,hB5,q1]
    refine W_callp rfl ⟨rfl,rfl⟩ (by simp only [go_sem]; exact eDisk (a:=G.now) (b:=G.disk) (by simp only [go_sem,hA4.ca])) ?_
    simp (maxSteps:=999999) (disch:=omega) only [go_sem,hA4.fi,hA4.ca,hB5,q2]
    refine ih _ h4 hlt ?_ ⟨hN5,hB5,Nat.lt_of_lt_of_le en3 hn4⟩
    simp only [go_sem]
   ·obtain rfl : k = l.length:=by omega
    simp (maxSteps:=999999) (disch:=omega) only [go_sem,hvlen,hvfg,hvld]
    generalize softRun F l l.length = G at hN3 hB3 inv
    refine W_forE (α:=HP) 5 (fun i h=>⟨[(5,.ptr (.stk cx.lvl 5) [] tStep),(7,.ptr (.obj f) [] tFiles),(8,.ptr (.obj e) [] tBed),(12,.int .i64 ((i : Int) - 1))],[(5,⟨tStep,x.enc⟩)],h⟩) (fun _ h=>FilN h1 h f G ∧ h.look (.obj e) = some ⟨tBed,(bdF G).enc⟩ ∧ e < h.next) h3 (by simp only [go_sem] <;> rfl) ⟨hN3,hB3,en3⟩ fun i h5 hi hP ih=>?_
    obtain ⟨hN,hB,en⟩:=hP
    obtain ⟨c,hA,_,_⟩:=id hN
    by_cases hlt : i < 5
    ·have h3' : (i : Int) - 1 ≤ 3:=by omega
     simp (maxSteps:=999999) (disch:=omega) only [go_sem,h3']
     refine W_callF (S:=[]) (R:=fun v h'=>SlF h5 h' v (listOf G.now ((i : Int) - 1))) rfl ⟨rfl,rfl⟩ (by simp only [go_sem]; exact List_ok (h:=h5.push cx.lvl [(5,⟨tStep,x.enc⟩)]) (f:=f) (c:=c) (a:=G.now) (b:=G.disk) (st:=G.stamp) (by exact hl) hA.fi hA.ca) (fun v h1 e=>e) ?_
     rintro v6 h6 hF6 hs6
     have hB6:=hF6.look en (by simp) hB
     simp (maxSteps:=999999) (disch:=omega) only [go_sem]
     refine W_callF (S:=[]) (R:=fun v h'=>SlF h6 h' v (listOf G.now ((i : Int) - 1))) rfl ⟨rfl,rfl⟩ (by simp only [go_sem]; exact BList_ok (h:=h6.push cx.lvl [(5,⟨tStep,x.enc⟩)]) (B:=bdF G) (by exact hl) hB6 (Nat.lt_of_lt_of_le en hF6.next)) (fun v h1 e=>e) ?_
     rintro v7 h7 hF7 hs7
     have l4 : (listOf G.now ((i : Int) - 1)).length ≤ 4:=by
      unfold listOf
      split
      ·simp
      ·rw [(sortS_perm _).length_eq]; exact namesL_len _ _ _
     simp (maxSteps:=999999) (disch:=omega) only [go_sem]
     refine W_callp rfl ⟨rfl,rfl⟩ (by simp only [go_sem]; exact SameTexts_ok (l:=listOf G.now ((i : Int) - 1)) (m:=listOf G.now ((i : Int) - 1)) (SlX_ofq hs6 hF7) (SlX_ofq hs7 (Fr.refl _ [])) (by omega)) ?_
     have hwr : (i : Int) - 1 + 1 = ((i + 1 : Nat) : Int) - 1:=by omega
     simp (maxSteps:=999999) (disch:=omega) only [go_sem]
     refine ih _ h7 hlt ?_ ⟨(hN.same hF6).same hF7,hF7.look (Nat.lt_of_lt_of_le en hF6.next) (by simp) hB6,Nat.lt_of_lt_of_le en (Nat.le_trans hF6.next hF7.next)⟩
     simp only [go_sem,hwr]
    ·obtain rfl : i = 5:=by omega
     have q1 : (bdF G).now = G.now:=rfl
     have q2 : (bdF G).disk = G.disk:=rfl
     simp (maxSteps:=999999) (disch:=omega) only [go_sem]
     refine W_callp rfl ⟨rfl,rfl⟩ (by simp only [go_sem]; exact Read_ok (h:=h5.push cx.lvl [(5,⟨tStep,x.enc⟩)]) (f:=f) (c:=c) (a:=G.now) (b:=G.disk) (st:=G.stamp) hA.fi hA.ca inv.i0.wf hx.name) ?_
     simp (maxSteps:=999999) (disch:=omega) only [go_sem,encR]
     refine W_callp rfl ⟨rfl,rfl⟩ (by simp only [go_sem]; exact BRead_ok (h:=h5.push cx.lvl [(5,⟨tStep,x.enc⟩)]) (B:=bdF G) hB inv.i0.wf hx.name) ?_
     simp (maxSteps:=999999) (disch:=omega) only [go_sem,encR,q1]
     refine W_callp rfl ⟨rfl,rfl⟩ (by simp only [go_sem]; exact Same_ok (h:=h5.push cx.lvl [(5,⟨tStep,x.enc⟩)]) (f:=f) (c:=c) (a:=G.now) (b:=G.disk) (st:=G.stamp) hA.fi hA.ca) ?_
     simp (maxSteps:=999999) (disch:=omega) only [go_sem]
     refine W_callp rfl ⟨rfl,rfl⟩ (by simp only [go_sem]; exact BSame_ok (h:=h5.push cx.lvl [(5,⟨tStep,x.enc⟩)]) (B:=bdF G) hB) ?_
     simp (maxSteps:=999999) (disch:=omega) only [go_sem,q1]
     refine W_callp rfl ⟨rfl,rfl⟩ (by simp only [go_sem]; exact Sure_ok (h:=h5.push cx.lvl [(5,⟨tStep,x.enc⟩)]) (f:=f) (c:=c) (a:=G.now) (b:=G.disk) (st:=G.stamp) hA.fi hA.ca) ?_
     simp (maxSteps:=999999) (disch:=omega) only [go_sem]
     refine W_callp rfl ⟨rfl,rfl⟩ (by simp only [go_sem]; exact BSure_ok (h:=h5.push cx.lvl [(5,⟨tStep,x.enc⟩)]) (B:=bdF G) hB) ?_
     simp (maxSteps:=999999) (disch:=omega) only [go_sem,q1,q2]
 ·refine W_callp rfl ⟨rfl,rfl⟩ (by simp only [go_sem]; exact SOf_no hs hc) ?_
  simp (maxSteps:=999999) (disch:=omega) only [go_sem,hvlen,hvfg,hvld]
  refine W_callp rfl ⟨rfl,rfl⟩ (by simp only [go_sem]; exact upE (up (ImageFault_ok (m:=m) hs (below_stk _ _) (by simp only [go_sem,HP.push_rd_own])))) ?_
  simp (maxSteps:=999999) (disch:=omega) only [go_sem,hc,hvlen,hvfg,hvld]
  have hinv : exact fb0.now = true → Inv fb0:=fun _=>Inv.new
  have hst : fb0.stamp ≤ 1099511627776:=by show (0 : Int) ≤ _; omega
  have hsm : fb0.now.small:=Inv.new.i0.sn
  have hN:=hN0
  have hB:=hB0
  have en:=en0
  generalize h2 = H at hN hB en ⊢
  generalize f0 = f at hN ⊢
  generalize fb0 = F at hN hB hsm hinv hst
  refine W_callp rfl ⟨rfl,rfl⟩ (by simp only [go_sem]; exact upE (up (IsExact_ok (m:=F.now) (p:=.obj e) (q:=[0]) hsm (below_obj _ _) (by rw [HP.push_rd_ext (below_obj _ _)]; exact rdB0 hB)))) ?_
  simp (maxSteps:=999999) (disch:=omega) only [go_sem,hvlen,hvfg,hvld]
  cases cxx : exact F.now with
  | false=>simp (maxSteps:=999999) (disch:=omega) only [go_sem,cxx]
  | true =>
  have inv0:=hinv cxx
  simp (maxSteps:=999999) (disch:=omega) only [go_sem,cxx,hvlen,hvfg,hvld]
  refine W_forE (α:=HP) l.length (fun k h=>⟨[(1,v),(5,.ptr (.stk cx.lvl 5) [] tStep),(7,.ptr (.obj f) [] tFiles),(8,.ptr (.obj e) [] tBed),(11,.int .i64 k)],[(5,⟨tStep,x.enc⟩)],h⟩) (fun k h=>FilN h1 h f (softRun F l k) ∧ h.look (.obj e) = some ⟨tBed,(bdF (softRun F l k)).enc⟩ ∧ e < h.next) H (by simp only [go_sem] <;> rfl) ⟨hN,hB,en⟩ fun k h3 hk hP ih=>?_
  obtain ⟨hN3,hB3,en3⟩:=hP
  obtain ⟨inv,hst3⟩:=inv_softU l inv0 hst k (by omega)
  by_cases hlt : k < l.length
  ·obtain ⟨n,rfl,hn⟩:=(hv.to (hN3.arg.trans hF1.arg)).ix k hlt
   simp (maxSteps:=999999) (disch:=omega) only [go_sem,hlt,hn]
   refine W_softStep (h0:=h1) (F:=softRun F l k) (B:=bdF (softRun F l k)) (x:=stp l k) (e:=e) (f:=f) hl rfl (by simp only [go_sem,List.map]) hN3 hB3 hfe en3 inv.i0.wf inv.i0.wf (hsz k) fun h4 hN4 hB4 hn4=>?_
   have hcs : softC (softRun F l k) (bdF (softRun F l k)).fl (stp l k) = true:=softC_self _ _
   have hB5 : h4.look (.obj e) = some ⟨tBed,(bdF (softRun F l (k + 1))).enc⟩:=hB4
   have hN5 : FilN h1 h4 f (softRun F l (k + 1)):=hN4
   generalize softRun F l (k + 1) = G at hB5 hN5 ih
   have q1 : (bdF G).now = G.now:=rfl
   have q2 : (bdF G).disk = G.disk:=rfl
   obtain ⟨c4,hA4,_,_⟩:=id hN5
   simp (maxSteps:=999999) (disch:=omega) only [go_sem,hcs,hA4.fi,hA4.ca,hB5,q1]
   refine W_callp rfl ⟨rfl,rfl⟩ (by simp only [go_sem]; exact eDisk (a:=G.now) (b:=G.disk) (by simp only [go_sem,hA4.ca])) ?_
   simp (maxSteps:=999999) (disch:=omega) only [go_sem,hA4.fi,hA4.ca,hB5,q2]
   refine ih _ h4 hlt ?_ ⟨hN5,hB5,Nat.lt_of_lt_of_le en3 hn4⟩
   simp only [go_sem]
  ·obtain rfl : k = l.length:=by omega
   simp (maxSteps:=999999) (disch:=omega) only [go_sem,hvlen,hvfg,hvld]
   generalize softRun F l l.length = G at hN3 hB3 inv
   refine W_forE (α:=HP) 5 (fun i h=>⟨[(5,.ptr (.stk cx.lvl 5) [] tStep),(7,.ptr (.obj f) [] tFiles),(8,.ptr (.obj e) [] tBed),(12,.int .i64 ((i : Int) - 1))],[(5,⟨tStep,x.enc⟩)],h⟩) (fun _ h=>FilN h1 h f G ∧ h.look (.obj e) = some ⟨tBed,(bdF G).enc⟩ ∧ e < h.next) h3 (by simp only [go_sem] <;> rfl) ⟨hN3,hB3,en3⟩ fun i h5 hi hP ih=>?_
   obtain ⟨hN,hB,en⟩:=hP
   obtain ⟨c,hA,_,_⟩:=id hN
   by_cases hlt : i < 5
   ·have h3' : (i : Int) - 1 ≤ 3:=by omega
    simp (maxSteps:=999999) (disch:=omega) only [go_sem,h3']
    refine W_callF (S:=[]) (R:=fun v h'=>SlF h5 h' v (listOf G.now ((i : Int) - 1))) rfl ⟨rfl,rfl⟩ (by simp only [go_sem]; exact List_ok (h:=h5.push cx.lvl [(5,⟨tStep,x.enc⟩)]) (f:=f) (c:=c) (a:=G.now) (b:=G.disk) (st:=G.stamp) (by exact hl) hA.fi hA.ca) (fun v h1 e=>e) ?_
    rintro v6 h6 hF6 hs6
    have hB6:=hF6.look en (by simp) hB
    simp (maxSteps:=999999) (disch:=omega) only [go_sem]
    refine W_callF (S:=[]) (R:=fun v h'=>SlF h6 h' v (listOf G.now ((i : Int) - 1))) rfl ⟨rfl,rfl⟩ (by simp only [go_sem]; exact BList_ok (h:=h6.push cx.lvl [(5,⟨tStep,x.enc⟩)]) (B:=bdF G) (by exact hl) hB6 (Nat.lt_of_lt_of_le en hF6.next)) (fun v h1 e=>e) ?_
    rintro v7 h7 hF7 hs7
    have l4 : (listOf G.now ((i : Int) - 1)).length ≤ 4:=by
     unfold listOf
     split
     ·simp
     ·rw [(sortS_perm _).length_eq]; exact namesL_len _ _ _
    simp (maxSteps:=999999) (disch:=omega) only [go_sem]
    refine W_callp rfl ⟨rfl,rfl⟩ (by simp only [go_sem]; exact SameTexts_ok (l:=listOf G.now ((i : Int) - 1)) (m:=listOf G.now ((i : Int) - 1)) (SlX_ofq hs6 hF7) (SlX_ofq hs7 (Fr.refl _ [])) (by omega)) ?_
    have hwr : (i : Int) - 1 + 1 = ((i + 1 : Nat) : Int) - 1:=by omega
    simp (maxSteps:=999999) (disch:=omega) only [go_sem]
    refine ih _ h7 hlt ?_ ⟨(hN.same hF6).same hF7,hF7.look (Nat.lt_of_lt_of_le en hF6.next) (by simp) hB6,Nat.lt_of_lt_of_le en (Nat.le_trans hF6.next hF7.next)⟩
    simp only [go_sem,hwr]
   ·obtain rfl : i = 5:=by omega
    have q1 : (bdF G).now = G.now:=rfl
    have q2 : (bdF G).disk = G.disk:=rfl
    simp (maxSteps:=999999) (disch:=omega) only [go_sem]
    refine W_callp rfl ⟨rfl,rfl⟩ (by simp only [go_sem]; exact Read_ok (h:=h5.push cx.lvl [(5,⟨tStep,x.enc⟩)]) (f:=f) (c:=c) (a:=G.now) (b:=G.disk) (st:=G.stamp) hA.fi hA.ca inv.i0.wf hx.name) ?_
    simp (maxSteps:=999999) (disch:=omega) only [go_sem,encR]
    refine W_callp rfl ⟨rfl,rfl⟩ (by simp only [go_sem]; exact BRead_ok (h:=h5.push cx.lvl [(5,⟨tStep,x.enc⟩)]) (B:=bdF G) hB inv.i0.wf hx.name) ?_
    simp (maxSteps:=999999) (disch:=omega) only [go_sem,encR,q1]
    refine W_callp rfl ⟨rfl,rfl⟩ (by simp only [go_sem]; exact Same_ok (h:=h5.push cx.lvl [(5,⟨tStep,x.enc⟩)]) (f:=f) (c:=c) (a:=G.now) (b:=G.disk) (st:=G.stamp) hA.fi hA.ca) ?_
    simp (maxSteps:=999999) (disch:=omega) only [go_sem]
    refine W_callp rfl ⟨rfl,rfl⟩ (by simp only [go_sem]; exact BSame_ok (h:=h5.push cx.lvl [(5,⟨tStep,x.enc⟩)]) (B:=bdF G) hB) ?_
    simp (maxSteps:=999999) (disch:=omega) only [go_sem,q1]
    refine W_callp rfl ⟨rfl,rfl⟩ (by simp only [go_sem]; exact Sure_ok (h:=h5.push cx.lvl [(5,⟨tStep,x.enc⟩)]) (f:=f) (c:=c) (a:=G.now) (b:=G.disk) (st:=G.stamp) hA.fi hA.ca) ?_
    simp (maxSteps:=999999) (disch:=omega) only [go_sem]
    refine W_callp rfl ⟨rfl,rfl⟩ (by simp only [go_sem]; exact BSure_ok (h:=h5.push cx.lvl [(5,⟨tStep,x.enc⟩)]) (B:=bdF G) hB) ?_
    simp (maxSteps:=999999) (disch:=omega) only [go_sem,q1,q2]
end
end Go.Mini
