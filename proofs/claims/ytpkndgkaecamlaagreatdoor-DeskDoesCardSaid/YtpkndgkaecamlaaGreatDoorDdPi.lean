/- A part of the proof: what Dd computes, step by step. -/
import Derived.Test.YtpkndgkaecamlaaGreatDoorDdPh
import Derived.Shelf.Pu.ParseUintPublic10
import Derived.Shelf.Strings.BuilderF
import Derived.Lib.OthersKept
import Derived.SliceStrings
import Derived.SizedLaws
import Derived.Lib.LaidTab

set_option linter.unusedVariables false
set_option linter.unusedSimpArgs false
set_option maxRecDepth 100000
set_option linter.unusedSectionVars false
set_option linter.unnecessarySimpa false
namespace Go.Mini
open Go.RowKit
variable{F:FuncId}{b n:Nat}{t:Ty}{v:AV}
section
variable{φ:Nat->Option FuncId}{β:Beta}{P:Program}{O:Nat->Prop}{w w':World}{look look':Id->Option Blk}
theorem iV{cx:Cx}{args:List AV}{h:HP}{s:St}(ho:s.own=[])(hp:s.hp=h){i:Id}{b:Blk}(hl:s.look cx i=some b):h.look i=some b:=by
 subst hp
 unfold St.look at hl
 split at hl
 ·rw[ho]at hl;simp[Own.get]at hl
 ·exact hl
theorem w7[Tk]{y:AV}{vy:Value}{ws:List Str}(hR:HR φ β O look w)(hy:VR φ β y vy)(h:elems look tS y=some (ws.map .str)):
  ∃a c,vy=.slice a ws.length c/\(ws=[]\/∃bk o,a=some ⟨bk,o,none⟩/\bk<w.heap.size/\ws.length<=c/\∀(j:Nat) x,ws[j]?=some x->w.cell? ⟨bk,o+j,none⟩=some (.string x)):=by
 unfold elems at h
 split at h
 ·simp at h
  subst h
  have:vy=.slice none 0 0:=by simpa[VR,VR1,AV.isAgg,LR,AV.rel]using hy
  exact⟨_,_,this,.inl rfl⟩
 ·simp at h
  subst h
  obtain⟨a,cap,rfl⟩:∃a cap,vy=.slice (some a) 0 cap:=by simpa[VR,VR1,AV.isAgg,LR,AV.rel]using hy
  exact⟨_,_,rfl,.inl rfl⟩
 ·rename_i j off len
  split at h
  ·rename_i n t' v hlk
   split at h
   ·rename_i l hl
    split at h
    ·rename_i hc
     obtain⟨rfl,hle⟩:=hc
     simp only[Option.some.injEq]at h
     obtain⟨pl,m,t',cap,hb,hty,h1,h2,h3,rfl⟩:=j7 hy
     obtain⟨pl',cs,T',fr,hB⟩:=hR.live j _ hlk
     obtain rfl:pl'=pl:=Option.some.inj (hB.place.symm.trans hb)
     rw[hB.ty]at hty
     simp at hty
     obtain⟨rfl,rfl⟩:=hty
     obtain⟨hll,hlf,hfl⟩:=jn hB.fits hl
     have hlen:len=ws.length:=by
      have:=congrArg List.length h
      simp at this
      omega
     subst hlen
     refine⟨_,_,rfl,.inr ⟨_,_,rfl,(Array.getElem?_eq_some_iff.1 hB.heap).1,by omega,fun k x hx=>?_⟩⟩
     have hk:k<ws.length:=by
      rcases Nat.lt_or_ge k ws.length with h|h
      ·exact h
      ·rw[List.getElem?_eq_none h]at hx;simp at hx
     have e1:l[off+k]?=some (.str x):=by
      have:(List.take ws.length (List.drop off l))[k]?=some (.str x):=by rw[h,List.getElem?_map,hx];rfl
      rw[List.getElem?_take,if_pos hk,List.getElem?_drop]at this
      exact this
     have e2:v.flat[off+k]?=some (.str x):=by
      have hone:∀x∈l,(AV.flat x).length=1:=fun x hx=>Ty.fits_length (hlf x hx)
      have:=f6 (k:=off+k) hone
      rw[←hfl]at this
      have hd:l.drop (off+k)=.str x::l.drop (off+k+1):=by
       have hlt:off+k<l.length:=by
        rcases Nat.lt_or_ge (off+k) l.length with h|h
        ·exact h
        ·rw[List.getElem?_eq_none h]at e1;simp at e1
       rw[List.drop_eq_getElem_cons hlt]
       rw[List.getElem?_eq_getElem hlt]at e1
       rw[Option.some.inj e1]
      rw[hd,List.flatMap_cons,Nat.mul_one]at this
      have h0:=congrArg (fun z:List AV=>z[0]?) this
      simp only[List.getElem?_drop,Nat.add_zero]at h0
      rw[←h0];rfl
     obtain⟨y,hy1,hy2⟩:=hB.cells _ _ e2
     have hy3:y=.string x:=hy2
     subst hy3
     have hs:Ty.size tS=1:=rfl
     simp only[World.cell?,hB.heap,hs,Nat.mul_one]
     rw[Nat.add_assoc]
     simpa using hy1
    ·simp at h
   ·simp at h
  ·simp at h
 ·simp at h
theorem LO[Fix]{T:MTb}(hf:∃f c,P.funcs[F]?=some f/\f.body=some c/\(f.name== "runtime.NumGoroutine")=false)
  (hnone:∀w a c sep,Calls P F #[.slice a 0 c,.string sep] w fun e w'=>e=.returned (.string ⟨#[]⟩)/\w'=w)
  (hraw:∀w (bk o c:Nat) (ws:List Str) (sep:ByteArray),(∀(j:Nat) x,ws[j]?=some x->w.cell? ⟨bk,o+j,none⟩=some (.string x))->bk<w.heap.size->ws.length<=1000000->ws.length<=c->(fk ws sep).length<=100000000->
   Calls P F #[.slice (some ⟨bk,o,none⟩) ws.length c,.string sep] w fun e w'=>e=.returned (.string ⟨(fk ws sep).toArray⟩)/\Below w.heap.size w w'):gh P T φ F Fn.da:=by
 refine⟨hf,fun m cx args h s2 v β O rargs w hr hv hlen ha hm hdom htop hfresh hinv=>?_⟩
 match args,hlen with
 | [a,b],_=>
  obtain⟨ws,sep,he,rfl,h1,h2,rfl,ho,hh⟩:=CS hr hv
  obtain⟨x,y,rfl⟩:∃x y,rargs=[x,y]:=by
   have:=ha.1
   match rargs,this with
   | [x,y],_=>exact⟨x,y,rfl⟩
  have hy:=gi (ha.2 1 _ _ rfl rfl)
  subst hy
  have hx:=ha.2 0 _ _ rfl rfl
  obtain⟨aa,c,rfl,hc⟩:=w7 (ie hm fun i b hl=>iV (args:=[a,.str sep]) (cx:=cx) (s:=St.enter [a,.str sep] h) rfl rfl hl) hx he
  have hfin:Calls P F #[.slice aa ws.length c,.string sep] w fun e w'=>e=.returned (.string ⟨(fk ws sep).toArray⟩)/\Below w.heap.size w w':=by
   rcases hc with rfl|⟨bk,o,rfl,hbk,hcap,hcells⟩
   ·refine(hnone w aa c sep).mono ?_
    rintro e w' ⟨rfl,rfl⟩
    exact⟨by simp[fk,Lib.join],Below.refl _ _⟩
   ·exact hraw w bk o c ws sep hcells hbk h1 hcap h2
  refine hfin.mono ?_
  rintro e w' ⟨rfl,hb⟩
  exact⟨_,β,rfl,VR_of_VR1 (by simp[VR1,AV.isAgg,LR,AV.rel]),.inl rfl,iq hm hdom htop ho hh hb⟩
theorem yr{sep:ByteArray}{c:UInt8}(h:sep.data.toList=[c]):sep=⟨#[c]⟩:=by
 apply ByteArray.ext;apply Array.toList_inj.1;rw[h]
theorem AF[Fix]{T:MTb}(hf:∃f c,P.funcs[F]?=some f/\f.body=some c/\(f.name== "runtime.NumGoroutine")=false)
  (hraw:∀w (t:ByteArray) (c:UInt8),Calls P F #[.string t,.string ⟨#[c]⟩] w fun e w'=>e=.returned (.bool (hasB t c))/\w'=w):gh P T φ F Fn.cJ:=by
 refine⟨hf,fun m cx args h s2 v β O rargs w hr hv hlen ha hm hdom htop hfresh hinv=>?_⟩
 match args,hlen with
 | [a,b],_=>
  obtain⟨t,sep,c,rfl,rfl,hc,rfl,ho,hh⟩:=uI hr hv
  obtain⟨x,y,rfl⟩:∃x y,rargs=[x,y]:=by
   have:=ha.1
   match rargs,this with
   | [x,y],_=>exact⟨x,y,rfl⟩
  have hx:=gi (ha.2 0 _ _ rfl rfl)
  have hy:=gi (ha.2 1 _ _ rfl rfl)
  subst hx hy
  obtain rfl:=yr hc
  refine(hraw w t c).mono ?_
  rintro e w' ⟨rfl,rfl⟩
  exact⟨_,β,rfl,VR_of_VR1 (by simp[VR1,AV.isAgg,LR,AV.rel]),.inl rfl,iq hm hdom htop ho hh (Below.refl _ _)⟩
theorem LS[Fix]{T:MTb}(hf:∃f c,P.funcs[F]?=some f/\f.body=some c/\(f.name== "runtime.NumGoroutine")=false)
  (hraw:∀O w,Fix.I O w->∀t:ByteArray,t.size<=1000000->Calls P F #[.string t] w fun e w'=>
   (∃y,e=.returned (.tuple #[.int .i64 (gV t),y])/\((kW t=false/\y=.nilIface)\/(kW t=true/\∃u x,y=.iface u x)))/\Below w.heap.size w w'):gh P T φ F Fn.dM:=by
 refine⟨hf,fun m cx args h s2 v β O rargs w hr hv hlen ha hm hdom htop hfresh hinv=>?_⟩
 match args,hlen with
 | [a],_=>
  obtain⟨t,rfl,ht,rfl,ho,hh⟩:=Dc hr hv
  obtain⟨x,rfl⟩:∃x,rargs=[x]:=by
   have:=ha.1
   match rargs,this with
   | [x],_=>exact⟨x,rfl⟩
  have hx:=gi (ha.2 0 _ _ rfl rfl)
  subst hx
  refine(hraw O w hinv t ht).mono ?_
  rintro e w' ⟨⟨y,rfl,hy⟩,hb⟩
  exact⟨_,β,rfl,⟨_,rfl,rfl,by simp[VR1,AV.isAgg,LR,AV.rel],rfl,by
   simp only[VR1,AV.isAgg,LR,AV.rel,Bool.false_eq_true,if_false];exact hy,trivial⟩,.inr ⟨_,rfl⟩,iq hm hdom htop ho hh hb⟩
theorem ow:∀l:List Str,(l.map AV.str).flatMap AV.flat=l.map AV.str
 | []=>rfl
 |a::r=>by rw[List.map_cons,List.flatMap_cons,ow r];rfl
theorem He[Fix]{T:MTb}{TT:TypeId}(hT:Tk.tk tS TT)(hf:∃f c,P.funcs[F]?=some f/\f.body=some c/\(f.name== "runtime.NumGoroutine")=false)
  (hraw:∀O w,Fix.I O w->∀(t:ByteArray) (c:UInt8),t.size<=1000000->Calls P F #[.string t,.string ⟨#[c]⟩] w fun e w'=>
   e=.returned (.slice (some ⟨w.heap.size,0,none⟩) (cutB t c).length (cutB t c).length)/\w'=w.alloc (.cells ((cutB t c).map Value.string).toArray TT)):gh P T φ F Fn.cY:=by
 refine⟨hf,fun m cx args h s2 v β O rargs w hr hv hlen ha hm hdom htop hfresh hinv=>?_⟩
 match args,hlen with
 | [a,b],_=>
  obtain⟨t,sep,c,rfl,rfl,hc,ht,rfl,ho,hh⟩:=Ap hr hv
  obtain⟨x,y,rfl⟩:∃x y,rargs=[x,y]:=by
   have:=ha.1
   match rargs,this with
   | [x,y],_=>exact⟨x,y,rfl⟩
  have hx:=gi (ha.2 0 _ _ rfl rfl)
  have hy:=gi (ha.2 1 _ _ rfl rfl)
  subst hx hy
  obtain rfl:=yr hc
  refine(hraw O w hinv t c ht).mono ?_
  rintro e w' ⟨rfl,rfl⟩
  have hfits:(Ty.arr (cutB t c).length tS).fits (.ofList ((cutB t c).map .str))=true:=iW (cutB t c) (n:=(cutB t c).length) rfl
  have hflat:(AV.ofList ((cutB t c).map AV.str)).flat=(cutB t c).map AV.str:=by
   have hl:(AV.ofList ((cutB t c).map AV.str)).toList=some ((cutB t c).map AV.str):=fm (cutB t c)
   rw[(jn hfits hl).2.2,ow]
  have hcs:All2 (LR φ β) (AV.ofList ((cutB t c).map AV.str)).flat ((cutB t c).map Value.string).toArray.toList:=by
   rw[hflat]
   refine⟨by simp,fun k x y hx hy=>?_⟩
   simp only[List.getElem?_map,Option.map_eq_some_iff]at hx hy
   obtain⟨z,hz,rfl⟩:=hx
   obtain⟨z',hz',rfl⟩:=hy
   rw[hz]at hz'
   obtain rfl:=Option.some.inj hz'
   simp[LR,AV.rel]
  have hL:=kx (w:=w) (b:=⟨.arr (cutB t c).length tS,.ofList ((cutB t c).map .str)⟩) (T:=TT) hfits hcs (.inl ⟨_,_,rfl,.inl hT⟩)
  have hnone:β (.obj h.next)=none:=by
   cases e:β (.obj h.next)with
   |none=>rfl
   |some pl=>exact absurd (hdom _ _ e) (by simp[Id.under])
  have hlk:∀i b,s2.look cx i=some b->(h.nw (.arr (cutB t c).length tS) (.ofList ((cutB t c).map .str))).look i=some b:=fun i b hl=>iV (args:=[]) ho hh hl
  have hsize:((cutB t c).map Value.string).toArray.size=(cutB t c).length:=by simp
  rw[hsize]at hL
  refine⟨_,upd β (.obj h.next) ⟨w.heap.size,0,.arr (cutB t c).length tS,(cutB t c).length⟩,rfl,?_,.inl rfl,?_⟩
  ·refine VR_of_VR1 ?_
   simp only[VR1,AV.isAgg,Bool.false_eq_true,if_false,LR,AV.rel]
   exact⟨⟨w.heap.size,0,.arr (cutB t c).length tS,(cutB t c).length⟩,(cutB t c).length,tS,(cutB t c).length,by simp[upd],rfl,by omega,by omega,by simp[Ty.size,tS],by simp⟩
  ·have hM:HR φ (upd β (.obj h.next) ⟨w.heap.size,0,.arr (cutB t c).length tS,(cutB t c).length⟩) O (h.nw (.arr (cutB t c).length tS) (.ofList ((cutB t c).map .str))).look (w.alloc (.cells ((cutB t c).map Value.string).toArray TT)):=by
    refine uH (i:=.obj h.next) (look:=h.look) hm rfl (.inr hnone) hL (hfresh _ (Nat.le_refl _)) (fun j bj pj hj hlj hbj=>?_) d7 (fun j bj hj hlj=>?_)
    ·have hj':h.look j=some bj:=by
      cases j with
      |obj n=>
       have hne:n≠h.next:=fun e=>hj (by rw[e])
       have:(if n=h.next then some _ else h.obj n)=some bj:=hlj
       rw[if_neg hne]at this;exact this
      |stk l t=>exact hlj
      |arg n=>exact hlj
     have hlt:=tU hm hj' hbj
     exact⟨fun e=>by rw[e]at hlt;exact Nat.lt_irrefl _ hlt,(jp w _).block _ hlt (fun h=>h)⟩
    ·cases j with
     |obj n=>
      have hne:n≠h.next:=fun e=>hj (by rw[e])
      have:(if n=h.next then some _ else h.obj n)=some bj:=hlj
      rw[if_neg hne]at this;exact this
     |stk l t=>exact hlj
     |arg n=>exact hlj
   refine⟨ie hM hlk,(jp w _).mono (fun _ h=>h.elim),fun i pl hi hb=>?_,?_,fun i pl hi=>?_,?_⟩
   ·unfold upd
    rw[if_neg]
    ·exact hb
    ·rintro rfl
     rw[hnone]at hb;simp at hb
   ·rw[hh];exact Nat.le_succ _
   ·rw[hh]
    show i.under (cx.lvl+1) (h.next+1)
    unfold upd at hi
    split at hi
    ·rename_i e;subst e;exact Nat.lt_succ_self _
    ·have:=hdom i pl hi
     cases i<;>simp only[Id.under]at this⊢ <;>omega
   ·rw[hh];exact htop
theorem Bs(h:tP.fits v=true):v.flat=[v]/\v.isAgg=false:=by
 cases v<;>first|exact⟨rfl,rfl⟩|(simp[tP,Ty.fits,LK.fits]at h;done)
theorem Br(h:tSl.fits v=true):v.flat=[v]/\v.isAgg=false:=by
 cases v<;>first|exact⟨rfl,rfl⟩|(simp[tSl,Ty.fits,LK.fits]at h;done)
theorem kD{a b:Ty}(h:(Ty.cons a b).fits v=true):∃x y,v=.cons x y/\a.fits x=true/\b.fits y=true:=by
 cases v with
 |cons x y=>
  have h':(a.fits x&&b.fits y)=true:=h
  rw[Bool.and_eq_true]at h'
  exact⟨x,y,rfl,h'⟩
 |_=>exact absurd h (by simp[Ty.fits])
theorem rq(h:Ty.unit.fits v=true):v=.unit:=by
 cases v<;>first|rfl|(simp[Ty.fits]at h;done)
theorem rx(h:tDesk.fits v=true):∃x y z,v=.cons (.cons x (.cons y .unit)) (.cons z .unit)/\tP.fits x=true/\tSl.fits y=true/\tP.fits z=true:=by
 obtain⟨a,b,rfl,h1,h2⟩:=kD h
 obtain⟨x,c,rfl,hx,h3⟩:=kD h1
 obtain⟨y,d,rfl,hy,h4⟩:=kD h3
 obtain rfl:=rq h4
 obtain⟨z,e,rfl,hz,h5⟩:=kD h2
 obtain rfl:=rq h5
 exact⟨x,y,z,rfl,hx,hy,hz⟩
theorem AX(hv:v.isLeaf=true)(ht:t.fits v=true):∃k:LK,t=.leaf k/\k.fits v=true:=by
 cases t with
 |leaf k=>
  have h':(k.fits v&&v.safe)=true:=ht
  rw[Bool.and_eq_true]at h'
  exact⟨k,rfl,h'.1⟩
 |arr n t=>cases v<;>first|(simp[AV.isLeaf]at hv;done)|(simp[Ty.fits]at ht;done)
 |unit=>cases v<;>first|(simp[AV.isLeaf]at hv;done)|(simp[Ty.fits]at ht;done)
 |cons a b=>cases v<;>first|(simp[AV.isLeaf]at hv;done)|(simp[Ty.fits]at ht;done)
theorem tyP(h:tP.fits v=true)(ht:t.fits v=true):t=tP:=by
 have h':(LK.ptr.fits v&&v.safe)=true:=h
 rw[Bool.and_eq_true]at h'
 have hk:=h'.1
 obtain⟨k,rfl,hf⟩:=AX (by cases v<;>first|rfl|(simp[LK.fits]at hk;done)) ht
 cases v<;>first|(simp[LK.fits]at hk;done)|(cases k<;>first|rfl|(simp[LK.fits]at hf;done))
theorem NK(h:tSl.fits v=true)(ht:t.fits v=true):t=tSl:=by
 have h':(LK.slice.fits v&&v.safe)=true:=h
 rw[Bool.and_eq_true]at h'
 have hk:=h'.1
 obtain⟨k,rfl,hf⟩:=AX (by cases v<;>first|rfl|(simp[LK.fits]at hk;done)) ht
 cases v<;>first|(simp[LK.fits]at hk;done)|(cases k<;>first|rfl|(simp[LK.fits]at hf;done))
theorem AU(ht:t.fits .unit=true):t=.unit:=by
 cases t with
 |leaf k=>cases k<;>exact absurd ht (by simp[Ty.fits,LK.fits])
 |unit=>rfl
 |_=>exact absurd ht (by simp[Ty.fits])
theorem tY{a b:AV}(ht:t.fits (.cons a b)=true):∃u v,t=.cons u v/\u.fits a=true/\v.fits b=true:=by
 cases t with
 |leaf k=>cases k<;>exact absurd ht (by simp[Ty.fits,LK.fits])
 |cons u v=>
  have h':(u.fits a&&v.fits b)=true:=ht
  rw[Bool.and_eq_true]at h'
  exact⟨_,_,rfl,h'⟩
 |_=>exact absurd ht (by simp[Ty.fits])
theorem Eb(h:tDesk.fits v=true)(ht:t.fits v=true):t=tDesk:=by
 obtain⟨x,y,z,rfl,hx,hy,hz⟩:=rx h
 obtain⟨u,v,rfl,h1,h2⟩:=tY ht
 obtain⟨u1,u2,rfl,h3,h4⟩:=tY h1
 obtain⟨u3,u4,rfl,h5,h6⟩:=tY h4
 obtain⟨u7,u8,rfl,h7,h8⟩:=tY h2
 rw[tyP hx h3,NK hy h5,AU h6,tyP hz h7,AU h8]
theorem rz[Tk]{j:Nat}{bb:Blk}(hR:HR φ β O look w)(hl:look (.obj j)=some bb)(hf:tDesk.fits bb.val=true):
  ∃r cs T x y z,β (.obj j)=some ⟨r,0,tDesk,cs.size⟩/\bb.ty=tDesk/\bb.val=.cons (.cons x (.cons y .unit)) (.cons z .unit)/\tP.fits x=true/\tSl.fits y=true/\tP.fits z=true/\w.heap[r]?=some (.cells cs T (0,0))/\cs.size=3/\Tk.tk tDesk T/\O r/\
   (∃a,cs[0]?=some a/\LR φ β x a)/\(∃a,cs[1]?=some a/\LR φ β y a)/\(∃a,cs[2]?=some a/\LR φ β z a):=by
 obtain⟨pl,cs,T,fr,hB⟩:=hR.live _ _ hl
 have ht:=Eb hf hB.fits
 obtain⟨x,y,z,e,hx,hy,hz⟩:=rx hf
 obtain⟨rfl,hO⟩:=hB.own rfl
 have hk:=hB.kind rfl
 rw[ht]at hk
 rcases hk with⟨n,u,e',_⟩|⟨h1,h2,h3⟩
 ·simp at e'
 ·have hroom:=hB.room
  have hsize:=hB.size
  rw[ht]at hsize
  have hs3:tDesk.size=3:=rfl
  rw[hs3]at hsize h3
  have hfl:bb.val.flat=[x,y,z]:=by
   rw[e];simp[AV.flat,(Bs hx).1,(Br hy).1,(Bs hz).1]
  have hcell:∀k c,[x,y,z][k]?=some c->∃a,cs[k]?=some a/\LR φ β c a:=fun k c hk=>by
   obtain⟨a,ha,hr⟩:=hB.cells k c (by rw[hfl];exact hk)
   rw[h2,Nat.zero_add]at ha
   exact⟨a,ha,hr⟩
  have hpl:pl=⟨pl.r,0,tDesk,cs.size⟩:=by
   have:=hB.ty
   obtain⟨r,base,ty,room⟩:=pl
   simp only at h2 hroom hsize this⊢
   rw[h2,this,ht]
   have:room=cs.size:=by omega
   rw[this]
  exact⟨pl.r,cs,T,x,y,z,by rw[←hpl];exact hB.place,ht,e,hx,hy,hz,hB.heap,h3,h1,hO,hcell 0 x rfl,hcell 1 y rfl,hcell 2 z rfl⟩
theorem ry{j:Nat}{v:Value}{r c:Nat}(hb:β (.obj j)=some ⟨r,0,tDesk,c⟩)(h:LR φ β (.ptr (.obj j) [0] tBld) v):v=.pointer (some ⟨r,0,none⟩):=by
 simp only[LR,AV.rel]at h
 obtain⟨pl,o,hpl,hfd,rfl⟩:=h
 rw[hb]at hpl
 obtain rfl:=Option.some.inj hpl
 have:Ty.find tDesk [0]=some (0,tBld):=rfl
 have hfd':Ty.find tDesk [0]=some (o,tBld):=hfd
 rw[this]at hfd'
 simp only[Option.some.injEq,Prod.mk.injEq,and_true]at hfd'
 subst hfd'
 rfl
theorem yi[Fix]{T:MTb}(hf:∃f c,P.funcs[F]?=some f/\f.body=some c/\(f.name== "runtime.NumGoroutine")=false)
  (hraw:∀w r cs T,w.heap[r]?=some (.cells cs T (0,0))->cs.size=3->Tk.tk tDesk T->(cs[0]?=some (.pointer none)\/cs[0]?=some (.pointer (some ⟨r,0,none⟩)))->Calls P F #[.pointer (some ⟨r,0,none⟩)] w fun e w'=>
   e=.returned (.tuple #[])/\(∃cs',w'.heap[r]?=some (.cells cs' T (0,0))/\cs'.size=cs.size/\cs'[0]?=some (.pointer (some ⟨r,0,none⟩))/\∀k,0<k->cs'[k]?=cs[k]?)/\SameBut w w' (· =r)):gh P T φ F Fn.bA:=by
 refine⟨hf,fun m cx args h s2 v β O rargs w hr hv hlen ha hm hdom htop hfresh hinv=>?_⟩
 match args,hlen with
 | [a],_=>
  obtain⟨j,bb,x,u,rfl,hl,hft,hat,hx,hput,rfl,ho,hh⟩:=sr hr hv
  obtain⟨x',rfl⟩:∃x,rargs=[x]:=by
   have:=ha.1
   match rargs,this with
   | [x],_=>exact⟨x,rfl⟩
  obtain⟨r,cs,TT,x1,y,z,hpl,hty,hval,hx1,hy1,hz1,hheap,h3,htk,hO,⟨a0,ha0,hr0⟩,⟨a1,ha1,hr1⟩,⟨a2,ha2,hr2⟩⟩:=rz hm hl hft
  have hself:=ha.2 0 _ _ rfl rfl
  have hself':LR φ β (.ptr (.obj j) [0] tBld) x':=hself
  obtain rfl:=ry hpl hself'
  rw[hval]at hat hput
  have hat':some x1=some x:=by simpa[AV.at]using hat
  obtain rfl:=Option.some.inj hat'
  have hput':some (AV.cons (.cons (.ptr (.obj j) [0] tBld) (.cons y .unit)) (.cons z .unit))=some u:=by simpa[AV.put]using hput
  obtain rfl:=Option.some.inj hput'
  have hc0:cs[0]?=some (.pointer none)\/cs[0]?=some (.pointer (some ⟨r,0,none⟩)):=by
   rcases hx with rfl|rfl
   ·left;rw[ha0];exact congrArg some hr0
   ·right;rw[ha0];exact congrArg some (ry hpl hr0)
  refine(hraw w r cs TT hheap h3 htk hc0).mono ?_
  rintro e w' ⟨rfl,⟨cs',hheap',hs',hc',hk'⟩,hsame⟩
  have hM:HR φ β O (h.set (.obj j) ⟨bb.ty,.cons (.cons (.ptr (.obj j) [0] tBld) (.cons y .unit)) (.cons z .unit)⟩).look w':=by
   refine FA (i:=.obj j) (b:=⟨bb.ty,.cons (.cons (.ptr (.obj j) [0] tBld) (.cons y .unit)) (.cons z .unit)⟩) hm rfl hl hpl ?_ hsame ?_
   ·refine⟨cs',TT,hheap',by simp[hs'],by rw[hty,h3];exact Nat.le_refl _,hty.symm,?_,?_,.inr ⟨by rw[hty];exact htk,rfl,by rw[hs',h3,hty];rfl⟩⟩
    ·rw[hty]
     simp only[Ty.fits,hy1,hz1,Bool.and_true,Bool.true_and];rfl
    ·intro k c hk
     have hfl:AV.flat (.cons (.cons (.ptr (.obj j) [0] tBld) (.cons y .unit)) (.cons z .unit))=[.ptr (.obj j) [0] tBld,y,z]:=by
      simp[AV.flat,(Br hy1).1,(Bs hz1).1]
     rw[hfl]at hk
     match k,hk with
     |0,hk=>
      obtain rfl:=Option.some.inj (show some _=some c from hk)
      exact⟨_,by simpa using hc',hself'⟩
     |1,hk=>
      obtain rfl:=Option.some.inj (show some _=some c from hk)
      exact⟨a1,by rw[Nat.zero_add,hk' 1 (by omega)];exact ha1,hr1⟩
     |2,hk=>
      obtain rfl:=Option.some.inj (show some _=some c from hk)
      exact⟨a2,by rw[Nat.zero_add,hk' 2 (by omega)];exact ha2,hr2⟩
     |k+3,hk=>simp at hk
   ·intro i
    cases i with
    |obj n=>
     show(if n=j then _ else h.obj n)=_
     by_cases e:n=j
     ·subst e;simp
     ·have:Id.obj n≠ .obj j:=fun h=>e (by injection h)
      rw[if_neg e,if_neg this];rfl
    |stk l t=>rfl
    |arg n=>rfl
  refine⟨_,β,rfl,⟨[],rfl,trivial⟩,.inr ⟨_,rfl⟩,ie hM (fun i b hl=>iV (args:=[]) ho hh hl),hsame.mono (fun r' e=>e▸hO),Ext.refl,?_,fun i pl hi=>?_,?_⟩
  ·rw[hh];exact Nat.le_refl _
  ·rw[hh]
   have:=hdom i pl hi
   show i.under (cx.lvl+1) h.next
   cases i<;>simp only[Id.under]at this⊢ <;>omega
  ·rw[hh];exact htop
theorem Hm[Tk]{i:Id}{b:Blk}{pl:Place}(h:HR φ β O look w)(hi:i.isArg=false)(hl:look i=some b)(hb:β i=some pl)(hs:SameBut w w' (· =pl.r))
  (hk:∀j bj,look' j=some bj->look j=some bj/\j≠i):HR φ β O look' w':=by
 refine⟨fun j bj hj=>?_,fun j k bj bk pj pk hj hk'=>h.apart j k bj bk pj pk (hk j bj hj).1 (hk k bk hk').1⟩
 obtain⟨hj',hne⟩:=hk j bj hj
 obtain⟨pj,cs,T,fr,hB⟩:=h.live j bj hj'
 have hr:pj.r≠pl.r:=fun e=>by
  have:=(h.apart j i bj b pj pl hj' hl hB.place hb hne e).2
  rw[hi]at this;simp at this
 have hlt:pj.r<w.heap.size:=(Array.getElem?_eq_some_iff.1 hB.heap).1
 exact⟨pj,cs,T,fr,hB.place,hB.ty,hB.fits,(hs.block _ hlt hr).trans hB.heap,hB.room,hB.size,hB.cells,hB.own,hB.kind⟩
theorem rD:∀{l:List AV} {bs:List UInt8},bytesOf l=some bs->∃ns:List Int,l=ns.map (AV.int .u8)/\bs=ns.map fun n=>UInt8.ofNat n.toNat
 | [],bs,h=>by
  simp only[bytesOf,Option.some.injEq]at h
  subst h
  exact⟨[],rfl,rfl⟩
 |x::r,bs,h=>by
  unfold bytesOf at h
  split at h
  ·rename_i e;simp at e
  ·rename_i n r' e
   simp only[List.cons.injEq]at e
   obtain⟨rfl,rfl⟩:=e
   simp only[Option.map_eq_some_iff]at h
   obtain⟨q,hq,rfl⟩:=h
   obtain⟨ns,rfl,rfl⟩:=rD hq
   exact⟨n::ns,rfl,rfl⟩
  ·simp at h
theorem s8:∀l:List Int,(l.map (AV.int .u8)).flatMap AV.flat=l.map (AV.int .u8)
 | []=>rfl
 |a::r=>by rw[List.map_cons,List.flatMap_cons,s8 r];rfl
theorem zz[Tk]{g:Nat}{x:Value}{l:List AV}{ns:List Int}(hR:HR φ β O look w)(hx:LR φ β (.sl (.obj g) 0 n) x)(he:elems look tU8 (.sl (.obj g) 0 n)=some l)(hl:l=ns.map (AV.int .u8)):
  ∃r o cs G cap b,look (.obj g)=some b/\(∃q m,β (.obj g)=some ⟨r,o,q,m⟩)/\x=.slice (some ⟨r,o,none⟩) ns.length cap/\ns.length=n/\n<=cap/\w.heap[r]?=some (.cells cs G (0,0))/\O r/\o+n<=cs.size/\
   (Tk.tk tU8 G\/∃m,Tk.tk (.arr m tU8) G/\o=0/\cs.size=m/\n<=m)/\∀(j:Nat) y,ns[j]?=some y->cs[o+j]?=some (.int .u8 y):=by
 unfold elems at he
 simp only at he
 split at he
 ·rename_i m t' v hlk
  split at he
  ·rename_i l' hl'
   split at he
   ·rename_i hc
    obtain⟨rfl,hle⟩:=hc
    simp only[Option.some.injEq,List.drop_zero]at he
    obtain⟨pl,m2,t2,cap,hb,hty,h1,h2,h3,rfl⟩:=j7 (VR_of_VR1 (by simpa[VR1,AV.isAgg]using hx))
    obtain⟨pl',cs,G,fr,hB⟩:=hR.live _ _ hlk
    obtain rfl:pl'=pl:=Option.some.inj (hB.place.symm.trans hb)
    rw[hB.ty]at hty
    simp only[Ty.arr.injEq]at hty
    obtain⟨rfl,rfl⟩:=hty
    obtain⟨hll,hlf,hfl⟩:=jn hB.fits hl'
    obtain⟨rfl,hO⟩:=hB.own rfl
    have hs1:Ty.size tU8=1:=rfl
    have hlen:ns.length=n:=by
     have:=congrArg List.length (he.trans hl)
     simp at this
     omega
    have hroom:=hB.room
    have hsize:=hB.size
    have hsz:(Ty.arr m tU8).size=m*1:=rfl
    simp only[hsz]at hsize
    refine⟨pl'.r,pl'.base,cs,G,cap,_,hlk,⟨_,_,hb⟩,?_,hlen,by omega,hB.heap,hO,by omega,?_,fun j y hy=>?_⟩
    ·rw[hlen];simp
    ·rcases hB.kind rfl with⟨q,u,e,hk⟩|⟨k1,k2,k3⟩
     ·simp only[Ty.arr.injEq]at e
      obtain⟨rfl,rfl⟩:=e
      rcases hk with hk|hk
      ·exact .inl hk
      ·rw[hs1]at hk;simp at hk
     ·exact .inr ⟨m,k1,k2,by rw[k3,hsz,Nat.mul_one],by omega⟩
    ·have hj:j<n:=by
      rcases Nat.lt_or_ge j ns.length with h|h
      ·omega
      ·rw[List.getElem?_eq_none h]at hy;simp at hy
     have e1:(l'.take n).flatMap AV.flat=ns.map (AV.int .u8):=by rw[he,hl,s8]
     rw[fZ (c:=1) fun x hx=>Ty.fits_length (hlf x hx),Nat.mul_one,←hfl]at e1
     have e2:v.flat[j]?=some (.int .u8 y):=by
      have:=congrArg (fun z:List AV=>z[j]?) e1
      simp only[List.getElem?_take,if_pos hj,List.getElem?_map,hy,Option.map_some]at this
      exact this
     obtain⟨a,ha,hr⟩:=hB.cells _ _ e2
     have hr':a=.int .u8 y:=hr
     rw[ha,hr']
   ·simp at he
  ·simp at he
 ·simp at he
theorem Ej[Fix]{T:MTb}(hf:∃f c,P.funcs[F]?=some f/\f.body=some c/\(f.name== "runtime.NumGoroutine")=false)
  (hnil:∀w r cs T,w.heap[r]?=some (.cells cs T (0,0))->cs[1]?=some (.slice none 0 0)->Calls P F #[.pointer (some ⟨r,0,none⟩)] w fun e w'=>e=.returned (.string ⟨#[]⟩)/\w'=w.drew)
  (hrow:∀(w:World) (r:Nat) (cs:Array Value) (T:TypeId) (g o cap:Nat) (gcs:Array Value) (G:TypeId) (ns:List Int),w.heap[r]?=some (.cells cs T (0,0))->cs[1]?=some (.slice (some ⟨g,o,none⟩) ns.length cap)->ns.length<=cap->w.heap[g]?=some (.cells gcs G (0,0))->o+ns.length<=gcs.size->
   (Tk.tk tU8 G\/∃m,Tk.tk (.arr m tU8) G/\o=0/\gcs.size=m/\ns.length<=m)->ns.length<=1048576->(∀(j:Nat) x,ns[j]?=some x->gcs[o+j]?=some (.int .u8 x))->
   Calls P F #[.pointer (some ⟨r,0,none⟩)] w fun e w'=>e=.returned (.string ⟨(ns.map fun n=>UInt8.ofNat n.toNat).toArray⟩)/\SameBut w w' (· =g)):gh P T φ F Fn.bN:=by
 refine⟨hf,fun m cx args h s2 v β O rargs w hr hv hlen ha hm hdom htop hfresh hinv=>?_⟩
 match args,hlen with
 | [a],_=>
  obtain⟨j,bb,y,rfl,hl,hft,hat,ho,hcase⟩:=yb hr hv
  obtain⟨x',rfl⟩:∃x,rargs=[x]:=by
   have:=ha.1
   match rargs,this with
   | [x],_=>exact⟨x,rfl⟩
  obtain⟨r,cs,TT,x1,y1,z,hpl,hty,hval,hx1,hy1,hz1,hheap,h3,htk,hO,_,⟨a1,ha1,hr1⟩,_⟩:=rz hm hl hft
  obtain rfl:=ry hpl (show LR φ β (.ptr (.obj j) [0] tBld) x' from ha.2 0 _ _ rfl rfl)
  rw[hval]at hat
  have hat':some y1=some y:=by simpa[AV.at]using hat
  obtain rfl:=Option.some.inj hat'
  rcases hcase with⟨rfl,rfl,hh⟩|⟨g,l,bs,rfl,hlm,⟨c,hel,hbs⟩,rfl,hh⟩
  ·have ha1':a1=.slice none 0 0:=hr1
   subst ha1'
   refine(hnil w r cs TT hheap ha1).mono ?_
   rintro e w' ⟨rfl,rfl⟩
   exact⟨_,β,rfl,VR_of_VR1 (by simp[VR1,AV.isAgg,LR,AV.rel]),.inl rfl,iq hm hdom htop ho hh (Below.drew (Below.refl _ w))⟩
  ·obtain⟨ns,hc,rfl⟩:=rD hbs
   have hm':HR φ β O ((St.enter [.ptr (.obj j) [0] tBld] h).look cx) w:=ie hm fun i b hl=>iV (args:=[]) (s:=St.enter [.ptr (.obj j) [0] tBld] h) rfl rfl hl
   obtain⟨gr,o,gcs,G,cap,b,hlk,⟨q,mm,hbg⟩,rfl,hnl,hcap,hg,hOg,hle,hk,hcells⟩:=zz hm' hr1 hel hc
   have hlk':h.look (.obj g)=some b:=iV (args:=[]) (s:=St.enter [.ptr (.obj j) [0] tBld] h) rfl rfl hlk
   refine(hrow w r cs TT gr o cap gcs G ns hheap ha1 (by omega) hg (by omega) (hnl▸hk) (by omega) hcells).mono ?_
   rintro e w' ⟨rfl,hsame⟩
   have hM:HR φ β O (h.dl g).look w':=Hm hm rfl hlk' hbg hsame fun i bi hi=>by
    cases i with
    |obj n=>
     have hi':(if n=g then none else h.obj n)=some bi:=hi
     by_cases e:n=g
     ·rw[if_pos e]at hi';simp at hi'
     ·rw[if_neg e]at hi'
      exact⟨hi',fun h=>e (by injection h)⟩
    |stk l t=>exact⟨hi,by simp⟩
    |arg n=>exact⟨hi,by simp⟩
   refine⟨_,β,rfl,VR_of_VR1 (by simp[VR1,AV.isAgg,LR,AV.rel]),.inl rfl,ie hM (fun i b hl=>iV (args:=[]) ho hh hl),hsame.mono (fun r' e=>e▸hOg),Ext.refl,?_,fun i pl hi=>?_,?_⟩
   ·rw[hh];exact Nat.le_refl _
   ·rw[hh]
    have:=hdom i pl hi
    show i.under (cx.lvl+1) h.next
    cases i<;>simp only[Id.under]at this⊢ <;>omega
   ·rw[hh];exact htop
end
open Go.Proofs Go.Shelf Go.RowKit
variable{P:Program}{ρ:Ren}
def ee:Nat->List UInt8->Option Nat
 |a,[]=>some a
 |a,c::r=>match hexV c with
  |some d=>ee (a*16+d) r
  |none=>none
def Ge(e:Nat):Option Nat->Value
 |some n=>.tuple #[.int .u64 n,.nilIface]
 |none=>.tuple #[.int .u64 0,.iface e (.int .i64 2)]
theorem Gf(c:UInt8):bits .or .u8 (c.toNat:Int) 32=((c|||32).toNat:Int):=by
 have:∀c:Fin 256,bits .or .u8 ((UInt8.ofNat c.val).toNat:Int) 32=(((UInt8.ofNat c.val)|||32).toNat:Int):=by decide+kernel
 have e:=this ⟨c.toNat,c.toNat_lt⟩
 simpa using e
set_option maxHeartbeats 32000000 in
set_option maxRecDepth 100000 in
theorem pu16(L:LaysPu.n16 P ρ)(t:ByteArray)(h2:t.size=2)(w:World):
  Calls P (ρ.f 16) #[.string t,.int .i64 16,.int .i64 8] w fun e w'=>e=.returned (Ge (ρ.t 34) (ee 0 t.data.toList))/\w'=Lib.bytesWorld w (ρ.t 5) t:=by
 have mixed:=L.mixed
 have t9:=L.t9;have a9:=L.a9;have z9:=L.z9;have v9:=L.v9
 have t3:=L.t3;have a3:=L.a3;have z3:=L.z3;have v3:=L.v3
 have t22:=L.t22;have a22:=L.a22;have z22:=L.z22;have v22:=L.v22
 have t24:=L.t24;have a24:=L.a24;have z24:=L.z24;have v24:=L.v24
 have t4:=L.t4;have a4:=L.a4;have z4:=L.z4;have v4:=L.v4
 have t34:=L.t34;have a34:=L.a34;have z34:=L.z34;have v34:=L.v34
 have t5:=L.t5;have a5:=L.a5;have z5:=L.z5;have v5:=L.v5
 have t36:=L.t36;have a36:=L.a36;have z36:=L.z36;have v36:=L.v36
 have t37:=L.t37;have a37:=L.a37;have z37:=L.z37;have v37:=L.v37
 have t0:=L.t0;have a0:=L.a0;have z0:=L.z0;have v0:=L.v0
 have e19:∀args w,(callFunc (ρ.f 19) args).run P w=.ok (.enter (ρ.f 19) args) w:=enters_of L.f19 (by kernel_rfl) rfl
 have hemp:t.toList.isEmpty=false:=by
  rw[←decide_eq_emptyBytes]
  exact decide_eq_false (fun h=>by rw[h]at h2;simp at h2)
 have hcv:=Lib.run_convert_string_bytes (P:=P) w (ρ.t 9) (ρ.t 37) (ρ.t 5) t (u:=.string) L.t9 L.t37 L.t5
 have hB:∀j,j<2->(Lib.bytesWorld w (ρ.t 5) t).cell? ⟨w.heap.size,j,none⟩=some (.int .u8 (t.data.toList.getD j 0).toNat):=fun j hj=>Lib.bytesWorld_cell w (ρ.t 5) t j (by omega)
 rw[h2]at hcv
 obtain⟨W1,hW1⟩:∃W1,W1=Lib.bytesWorld w (ρ.t 5) t:=⟨_,rfl⟩
 rw[←hW1]at hcv hB⊢
 clear hW1
 obtain⟨bs,hL⟩:∃bs,bs=t.data.toList:=⟨_,rfl⟩
 have hLn:bs.length=2:=by rw[hL,←Lib.size_eq,h2]
 rw[←hL]at hB⊢
 clear hL
 have hmv:IntKind.u64.wrap (IntKind.u64.wrap 256-1)=255:=by
  rw[IntKind.wrap_u64,IntKind.wrap_u64]
  decide
 go_enter L.f16,BodyPu.n16_ntmps ρ
 go_wp2
 go_loop [12,13,101] (fun vu vn vi=>∃(k acc:Nat) (a:Int),vu=.bool false/\vn=.int .u64 a/\vi=.int .i64 k/\k<=2/\Hid (a=(acc:Int)/\acc<16^k/\ee 0 bs=ee acc (bs.drop k)))
  (fun _ _ vi=>2-(intOf vi).toNat)
 case atStart=>exact⟨0,0,0,rfl,rfl,rfl,by omega,rfl,by omega,rfl⟩
 case round=>
  obtain⟨k,acc,a,rfl,rfl,rfl,hk,hh⟩:=hrel
  obtain⟨ha,hacc,hdec⟩:=hh.out
  clear hh
  by_cases hkn:k<2
  ·have hc:=hB k hkn
   have hdrop:bs.drop k=bs[k]'(by omega)::bs.drop (k+1):=List.drop_eq_getElem_cons (by omega)
   have hget:bs.getD k 0=bs[k]'(by omega):=by simp[List.getD,List.getElem?_eq_getElem (show k<bs.length by omega)]
   have hacc16:acc<16/\16^(k+1)>=16*acc+16:=by
    obtain rfl|rfl:k=0\/k=1:=by omega
    ·simp at hacc;subst hacc;simp
    ·simp at hacc;refine⟨hacc,?_⟩;show 256>=_;omega
   obtain⟨hacc2,hpow⟩:=hacc16
   rw[hdrop]at hdec
   rw[hget]at hc
   generalize bs[k]'(by omega)=c at hc hdec
   have hc256:c.toNat<256:=c.toNat_lt
   clear hB hdrop hget
   by_cases hdig:48<=c.toNat/\c.toNat<=57
   ·obtain⟨hd0,hd1⟩:=hdig
    have hF:ee acc (c::bs.drop (k+1))=ee (acc*16+(c.toNat-48)) (bs.drop (k+1)):=by simp[ee,hexV,hd0,hd1]
    have HN:Hid (a*16+((c.toNat:Int)-48)=((acc*16+(c.toNat-48):Nat):Int)/\acc*16+(c.toNat-48)<16^(k+1)/\ee 0 bs=ee (acc*16+(c.toNat-48)) (bs.drop (k+1))):=Lib.hid ⟨by omega,by omega,hdec.trans hF⟩
    have a0:0<=a:=by omega
    have a1:a<=15:=by omega
    have iov:a*16+((c.toNat:Int)-48)<=255:=by omega
    clear hacc hF hdec ha hpow hacc2
    go_wp2
    refine⟨⟨k+1,acc*16+(c.toNat-48),a*16+((c.toNat:Int)-48),rfl,(by first|rfl|(congr 1;omega)),(by first|rfl|(congr 1;omega)),by omega,HN⟩,by simp[intOf];omega⟩
   ·obtain⟨v,hv⟩:∃v,v=(c|||32).toNat:=⟨_,rfl⟩
    have hv256:v<256:=by rw[hv];exact UInt8.toNat_lt _
    have hlow:∀w,Calls P (ρ.f 19) #[.int .u8 (c.toNat:Int)] w fun e w'=>e=.returned (.int .u8 (v:Int))/\w'=w:=fun w=>by
     have h:=AnyPu.internal_strconv_lower (P:=P) {L with} (c.toNat:Int) w
     rw[Gf,←hv]at h
     exact h
    have ha0:0<=a:=by omega
    have ha1:a<=15:=by omega
    by_cases hc95:c.toNat=95
    ·have hc':(c.toNat:Int)=95:=by omega
     have hv127:v=127:=by
      have:c=95:=UInt8.toNat_inj.1 hc95
      rw[hv,this];rfl
     have hF:ee acc (c::bs.drop (k+1))=none:=by
      have e:hexV c=none:=by unfold hexV;rw[if_neg hdig,←hv,hv127];rfl
      simp only[ee,e]
     rw[hF]at hdec
     rw[hc',hv127]at hlow
     clear hacc hF ha hpow hacc2 hv
     rw[hc']at hc
     go_wp2_with (go_at_fn (ρ.f 19);refine(hlow _).mono ?_;rintro e w' ⟨rfl,rfl⟩)
     all_goals go_ret2
     all_goals first|exact⟨rfl,rfl⟩|exact⟨by rw[hdec];rfl,rfl⟩
    have hc95':¬(c.toNat:Int)=95:=by omega
    by_cases hlet:97<=v/\v<=102
    ·have hF:ee acc (c::bs.drop (k+1))=ee (acc*16+(v-87)) (bs.drop (k+1)):=by
      have e:hexV c=some (v-87):=by unfold hexV;rw[if_neg hdig,←hv,if_pos hlet]
      simp only[ee,e]
     obtain⟨hl0,hl1⟩:=hlet
     have HN:Hid (a*16+((v:Int)-97+10)=((acc*16+(v-87):Nat):Int)/\acc*16+(v-87)<16^(k+1)/\ee 0 bs=ee (acc*16+(v-87)) (bs.drop (k+1))):=Lib.hid ⟨by omega,by omega,hdec.trans hF⟩
     have iov:a*16+((v:Int)-97+10)<=255:=by omega
     clear hacc hF hdec ha hpow hacc2 hv
     go_wp2_with (go_at_fn (ρ.f 19);refine(hlow _).mono ?_;rintro e w' ⟨rfl,rfl⟩)
     all_goals first
      |exact⟨⟨k+1,acc*16+(v-87),a*16+((v:Int)-97+10),rfl,(by first|rfl|(congr 1;omega)),(by first|rfl|(congr 1;omega)),by omega,HN⟩,by simp[intOf];omega⟩
      |skip
    ·have hF:ee acc (c::bs.drop (k+1))=none:=by
      have e:hexV c=none:=by unfold hexV;rw[if_neg hdig,←hv,if_neg hlet]
      simp only[ee,e]
     rw[hF]at hdec
     clear hacc hF ha hpow hacc2 hv
     go_wp2_with (go_at_fn (ρ.f 19);refine(hlow _).mono ?_;rintro e w' ⟨rfl,rfl⟩)
     all_goals go_ret2
     all_goals first|exact⟨rfl,rfl⟩|exact⟨by rw[hdec];rfl,rfl⟩
  ·have hkk:k=2:=by omega
   subst hkk
   have hF:ee acc (bs.drop 2)=some acc:=by rw[List.drop_eq_nil_of_le (by omega)];rfl
   rw[hF]at hdec
   subst ha
   clear hacc hF
   go_wp2
   go_ret2
   exact⟨rfl,rfl⟩
theorem xD(x y:UInt8):ee 0 [x,y]=hex2 ⟨#[x,y]⟩:=by
 simp only[ee,hex2]
 cases hexV x with
 |none=>rfl
 |some p=>cases hexV y with
  |none=>rfl
  |some q=>simp only[Nat.zero_mul,Nat.zero_add,Nat.mul_comm p 16]
set_option maxHeartbeats 4000000 in
set_option maxRecDepth 100000 in
theorem puP(L:LaysPu.n14 P ρ)(t:ByteArray)(h2:t.size=2)(ev:Value)(w:World)(hv:w.cell? ⟨(ρ.g 0),0,none⟩=some ev)(hev:ev=.nilIface\/∃te pe,ev=.iface te pe):
  Calls P (ρ.f 14) #[.string t,.int .i64 16,.int .i64 8] w fun e w'=>
   (match ee 0 t.data.toList with
    |some n=>e=.returned (.tuple #[.int .u64 n,.nilIface])
    |none=>∃N,e=.returned (.tuple #[.int .u64 0,.iface (ρ.t 39) (.pointer (some ⟨N,0,none⟩))]))/\Below w.heap.size w w':=by
 have mixed:=L.mixed
 have t9:=L.t9;have a9:=L.a9;have z9:=L.z9;have v9:=L.v9
 have t3:=L.t3;have a3:=L.a3;have z3:=L.z3;have v3:=L.v3
 have t22:=L.t22;have a22:=L.a22;have z22:=L.z22;have v22:=L.v22
 have t24:=L.t24;have a24:=L.a24;have z24:=L.z24;have v24:=L.v24
 have t25:=L.t25;have a25:=L.a25;have z25:=L.z25;have v25:=L.v25
 have t4:=L.t4;have a4:=L.a4;have z4:=L.z4;have v4:=L.v4
 have e16:∀args w,(callFunc (ρ.f 16) args).run P w=.ok (.enter (ρ.f 16) args) w:=enters_of L.f16 (by kernel_rfl) rfl
 have e17:∀args w,(callFunc (ρ.f 17) args).run P w=.ok (.enter (ρ.f 17) args) w:=enters_of L.f17 (by kernel_rfl) rfl
 have hG:(ρ.g 0)<w.heap.size:=Lib.lt_of_cell hv
 have hI:=pu16 {L with} t h2 w
 cases h:ee 0 t.data.toList with
 |some n=>
  rw[h]at hI
  have hI:Calls P (ρ.f 16) #[.string t,.int .i64 16,.int .i64 8] w fun e w'=>e=.returned (.tuple #[.int .u64 n,.nilIface])/\w'=Lib.bytesWorld w (ρ.t 5) t:=hI
  clear h
  go_enter L.f14,BodyPu.n14_ntmps ρ
  go_wp2_with (go_at_fn (ρ.f 16);refine hI.mono ?_;rintro e W1 ⟨rfl,rfl⟩)
  go_wp2
  go_ret2
  exact⟨rfl,Lib.bytesWorld_below _ _ _⟩
 |none=>
  rw[h]at hI
  have hI:Calls P (ρ.f 16) #[.string t,.int .i64 16,.int .i64 8] w fun e w'=>e=.returned (.tuple #[.int .u64 0,.iface (ρ.t 34) (.int .i64 2)])/\w'=Lib.bytesWorld w (ρ.t 5) t:=hI
  clear h
  go_enter L.f14,BodyPu.n14_ntmps ρ
  go_wp2_with (go_at_fn (ρ.f 16);refine hI.mono ?_)
  rintro e W1 ⟨rfl,hW⟩
  have hb1:Below w.heap.size w W1:=by rw[hW];exact Lib.bytesWorld_below _ _ _
  have hv1:W1.cell? ⟨(ρ.g 0),0,none⟩=some ev:=(hb1.cell (show(⟨(ρ.g 0),0,none⟩:Addr).block<w.heap.size from hG)).trans hv
  clear hW
  go_wp2_with (go_at_fn (ρ.f 17);refine(AnyPu.strconv_toError_syntax {L with} ⟨#[80,97,114,115,101,85,105,110,116]⟩ t 16 8 ev _ (by omega) ?_ hev).mono ?_)
  ·exact hv1
  rintro e W2 ⟨N,rfl,h1,h2,h3⟩
  go_wp2
  go_ret2
  exact⟨⟨N,rfl⟩,hb1.trans (h3.mono hb1.size)⟩
open Go.Proofs Go.Shelf Go.RowKit
variable{P:Program}{ρ:Ren}
variable{T e:TypeId}
set_option maxHeartbeats 1000000 in
set_option maxRecDepth 100000 in
theorem wy(L:Lays.n240 P ρ)(X:Builder.X72 P ρ)(hT:liesAt P P.depth T (2/P.cellsOf T) 0 (ρ.t 72) 1=true)(B b:Nat)(bs:List Value)(w:World)(h:Lib.IsBuilder T (ρ.t 5) B b bs w):
  Calls P (ρ.f 240) #[.pointer (some ⟨b,0,none⟩)] w fun e w'=>e=.returned (.tuple #[])/\(Lib.BuilderAt T (ρ.t 5) B b (.pointer (some ⟨b,0,none⟩)) bs w'/\Below B w w'/\Lib.OthersKept (ρ.t 5) (some b) w w'):=by
 rcases h with h|h
 ·have hgo:Calls P (ρ.f 240) #[.pointer (some ⟨b,0,none⟩)] w fun e w'=>e=.returned (.tuple #[])/\w'=w.setCell ⟨b,0,none⟩ (.pointer (some ⟨b,0,none⟩)):=by
   have h0:=h.cell0
   have hsh:=h.shape
   have hfz:=h.frozen0
   obtain⟨j,hj,hjs⟩:=Option.map_eq_some_iff.1 X.sizeBuilder
   have mixed:=L.mixed
   have t72:=L.t72;have a72:=L.a72;have z72:=L.z72;have v72:=L.v72;have u72:=run_underlying L.t72
   have t70:=L.t70;have a70:=L.a70;have z70:=L.z70;have v70:=L.v70;have u70:=run_underlying L.t70
   have t9:=L.t9;have a9:=L.a9;have z9:=L.z9;have v9:=L.v9;have u9:=run_underlying L.t9
   have t4:=L.t4;have a4:=L.a4;have z4:=L.z4;have v4:=L.v4;have u4:=run_underlying L.t4
   have t164:=L.t164;have a164:=L.a164;have z164:=L.z164;have v164:=L.v164;have u164:=run_underlying L.t164
   go_enter L.f240,Body.n240_ntmps ρ
   go_wp2
   rw[Lib.run_to_unsafe w ⟨b,0,none⟩ L.t70 L.t164 hj (by rw[hjs];decide) hsh (Nat.zero_lt_succ 1)]
   simp only[Result.andThen]
   rw[Oper.upon_value]
   go_wp2
   rw[run_callFunc_extern L.f276 (by kernel_rfl) (by kernel_rfl) (by kernel_rfl) (e:=Extern.AbiNoEscape.same) (by kernel_rfl)]
   rw[Lib.run_noEscape]
   simp only[Result.andThen]
   rw[Oper.upon_value]
   go_wp2
   rw[Lib.run_from_unsafe w ⟨b,0,none⟩ L.t164 L.t70 hj hsh hT]
   simp only[Result.andThen]
   rw[Oper.upon_value]
   go_wp2
   go_end0
   exact⟨rfl,rfl⟩
  refine hgo.mono ?_
  rintro e w' ⟨rfl,rfl⟩
  exact⟨rfl,h.used _,(Below.refl B w).setCell (p:=⟨b,0,none⟩) h.1 _,(Lib.OthersKept.refl _ _ w).setCell ⟨b,0,none⟩ rfl _⟩
 ·refine(Any.Builder_copyCheck_used L X b w h.cell0).mono ?_
  rintro e w' ⟨rfl,rfl⟩
  exact⟨rfl,h,Below.refl B _,Lib.OthersKept.refl _ _ _⟩
set_option maxHeartbeats 2000000 in
set_option maxRecDepth 100000 in
theorem rX(L:Lays.n166 P ρ)(X:Builder.Extra P ρ)(hT:liesAt P P.depth T (2/P.cellsOf T) 0 (ρ.t 72) 1=true)(hT5:T≠ρ.t 5)(B b:Nat)(bs:List Value)(s:ByteArray)(w:World)(h:Lib.IsBuilder T (ρ.t 5) B b bs w)(hlen:bs.length+s.size<=140737488355328)(hBw:B<=w.heap.size):
  Calls P (ρ.f 166) #[.pointer (some ⟨b,0,none⟩),.string s] w fun e w'=>e=.returned (.tuple #[.int .i64 s.size,.nilIface])/\(Lib.IsBuilder T (ρ.t 5) B b (bs++Lib.strCells s) w'/\Below B w w'/\Lib.OthersKept (ρ.t 5) (some b) w w'):=by
 obtain⟨i0,hi,hz0,hz1,hz2⟩:=info_parts X.infoByte
 have mixed:=L.mixed
 have t72:=L.t72;have a72:=L.a72;have z72:=L.z72;have v72:=L.v72;have u72:=run_underlying L.t72
 have t70:=L.t70;have a70:=L.a70;have z70:=L.z70;have v70:=L.v70;have u70:=run_underlying L.t70
 have t37:=L.t37;have a37:=L.a37;have z37:=L.z37;have v37:=L.v37;have u37:=run_underlying L.t37
 have t3:=L.t3;have a3:=L.a3;have z3:=L.z3;have v3:=L.v3;have u3:=run_underlying L.t3
 have t9:=L.t9;have a9:=L.a9;have z9:=L.z9;have v9:=L.v9;have u9:=run_underlying L.t9
 have t4:=L.t4;have a4:=L.a4;have z4:=L.z4;have v4:=L.v4;have u4:=run_underlying L.t4
 have t5:=X.t5;have a5:=X.a5;have z5:=X.z5;have v5:=X.v5;have u5:=run_underlying X.t5
 have e240:∀args w,(callFunc (ρ.f 240) args).run P w=.ok (.enter (ρ.f 240) args) w:=enters_of L.f240 (by kernel_rfl) rfl
 go_enter L.f166,Body.n166_ntmps ρ
 go_wp2_with (go_at_fn (ρ.f 240);refine(wy {L with} X.toX72 hT B b bs _ h).mono ?_)
 rintro e w1 ⟨rfl,⟨hB,v,hbk,hown,hne⟩,hb1,hk1⟩
 have c0:w1.cell? ⟨b,0,none⟩=some (.pointer (some ⟨b,0,none⟩)):=by rw[Lib.cell_of_heap hbk];rfl
 have c1:w1.cell? ⟨b,1,none⟩=some v:=by rw[Lib.cell_of_heap hbk];rfl
 go_wp2_with (at_builtin;refine Lib.wpList_append_own_string _ rfl _ _ (ρ.t 37) (ρ.t 9) rfl B (ρ.t 5) i0 L.t37 L.t9 hi hz0 hz1 hz2 _ _ _ rfl hown s rfl ?c3 ?c4 ?c5 ?_)
 case c3=>unfold maxLen;omega
 case c4=>omega
 case c5=>have:=hb1.size;omega
 intro v' w2 hown' hgrow _
 have hlt:b<w1.heap.size:=by
  rcases Nat.lt_or_ge b w1.heap.size with h'|h'
  ·exact h'
  ·simp[Array.getElem?_eq_none h']at hbk
 have hb2:w2.heap[b]?=some (.cells #[.pointer (some ⟨b,0,none⟩),v] T (0,0)):=by
  rw[hgrow.block b hlt (fun e=>hne e.symm)]
  exact hbk
 have d0:w2.cell? ⟨b,0,none⟩=some (.pointer (some ⟨b,0,none⟩)):=by rw[Lib.cell_of_heap hb2];rfl
 have d1:w2.cell? ⟨b,1,none⟩=some v:=by rw[Lib.cell_of_heap hb2];rfl
 have f1:w2.frozen? ⟨b,1,none⟩=false:=Lib.frozen_of_heap hb2 1
 obtain⟨ao,n',cap,rfl⟩:∃ao n' cap,v'=.slice ao n' cap:=by
  rcases hown'.2 with⟨hv,_⟩|⟨g,cap,cur,hv,_⟩
  ·exact⟨_,_,_,hv⟩
  ·exact⟨_,_,_,hv⟩
 go_wp2
 go_ret2
 refine⟨rfl,.inr ?_,?_,?_⟩
 ·exact Lib.BuilderAt.put (T:=T) (e:=(ρ.t 5)) hB hb2 (bs':=bs++Lib.strCells s) (by simpa[Lib.strCells_length]using hown') hT5
 ·exact(hb1.grown hgrow (by have:=hb1.size;omega) (fun k hk=>(hown.lt k hk).1)).setCell (p:=⟨b,1,none⟩) hB _
 ·refine(hk1.grown hgrow fun g hg=>?_).setCell ⟨b,1,none⟩ rfl _
  rcases hown.2 with⟨rfl,_⟩|⟨g',cap,cur,rfl,_,hgg,_⟩
  ·simp[Value.ownBlock]at hg
  ·simp only[Value.ownBlock,Option.some.injEq]at hg
   exact⟨cur,_,by rw[←hg];exact hgg⟩
set_option maxHeartbeats 2000000 in
set_option maxRecDepth 100000 in
theorem fh(L:Lays.n169 P ρ)(X:Builder.Extra P ρ)(b n c:Nat)(ao:Option Addr)(q:Value)(s:ByteArray)(w w1 w2:World)
  (c1:w.drew.cell? ⟨b,1,none⟩=some (.slice ao n c)) (c2:w1.cell? ⟨b,1,none⟩=some (.slice ao n c)) (c0:w.cell? ⟨b,1,none⟩=some (.slice ao n c))
  (hSD:(Builtin.unsafeSliceData_ #[(ρ.t 37)] (ρ.t 127) #[.slice ao n c]).run P w.drew=.ok q w1)
  (hUS:(Builtin.unsafeString_ #[(ρ.t 127),(ρ.t 3)] (ρ.t 9) #[q,.int .i64 n]).run P w1=.ok (.string s) w2):
  Calls P (ρ.f 169) #[.pointer (some ⟨b,0,none⟩)] w fun e w'=>e=.returned (.string s)/\w'=w2:=by
 have mixed:=L.mixed
 have t72:=L.t72;have a72:=L.a72;have z72:=L.z72;have v72:=L.v72;have u72:=run_underlying L.t72
 have t70:=L.t70;have a70:=L.a70;have z70:=L.z70;have v70:=L.v70;have u70:=run_underlying L.t70
 have t37:=L.t37;have a37:=L.a37;have z37:=L.z37;have v37:=L.v37;have u37:=run_underlying L.t37
 have t127:=L.t127;have a127:=L.a127;have z127:=L.z127;have v127:=L.v127;have u127:=run_underlying L.t127
 have t3:=L.t3;have a3:=L.a3;have z3:=L.z3;have v3:=L.v3;have u3:=run_underlying L.t3
 have t9:=L.t9;have a9:=L.a9;have z9:=L.z9;have v9:=L.v9;have u9:=run_underlying L.t9
 have t5:=X.t5;have a5:=X.a5;have z5:=X.z5;have v5:=X.v5;have u5:=run_underlying X.t5
 go_enter L.f169,Body.n169_ntmps ρ
 go_wp2
 go_region_o
 all_goals (go_wp2;go_ret;exact⟨rfl,rfl⟩)
theorem A5(L:Lays.n169 P ρ)(X:Builder.Extra P ρ)(B b:Nat)(l:List UInt8)(w:World)(h:Lib.IsBuilder T (ρ.t 5) B b (Lib.byteCells l) w)(hBw:B<=w.heap.size):
  Calls P (ρ.f 169) #[.pointer (some ⟨b,0,none⟩)] w fun e w'=>e=.returned (.string ⟨l.toArray⟩)/\Below B w w':=by
 obtain⟨p,hB,v,hbk,hown,hne⟩:∃p,Lib.BuilderAt T (ρ.t 5) B b p (Lib.byteCells l) w:=by
  rcases h with h|h
  ·exact⟨_,h⟩
  ·exact⟨_,h⟩
 have hlt:b<w.heap.size:=by
  rcases Nat.lt_or_ge b w.heap.size with h'|h'
  ·exact h'
  ·simp[Array.getElem?_eq_none h']at hbk
 have hcell:∀{u:World},u.heap[b]?=some (.cells #[p,v] T (0,0))->u.cell? ⟨b,1,none⟩=some v:=fun hu=>by rw[Lib.cell_of_heap hu];rfl
 have c1:w.drew.cell? ⟨b,1,none⟩=some v:=hcell hbk
 have c0:w.cell? ⟨b,1,none⟩=some v:=hcell hbk
 rw[Lib.byteCells_length]at hown
 have hnone:∀(W:World) (q:Option Addr),(Builtin.unsafeString_ #[(ρ.t 127),(ρ.t 3)] (ρ.t 9) #[.pointer q,.int .i64 0]).run P W=.ok (.string .empty) W:=Any.unsafeString_none L X
 rcases hown.2 with⟨rfl,h0⟩|⟨g,cap,cur,rfl,hbg,hg,hnc,hcm,hcs,htake⟩
 ·have hl:l=[]:=by simpa using h0
  subst hl
  refine(fh L X b 0 0 none (.pointer none) _ w w.drew w.drew c1 c1 c0 rfl (hnone _ _)).mono ?_
  rintro e w' ⟨rfl,rfl⟩
  exact⟨rfl,Below.drew (Below.refl B w)⟩
 ·have hgd:w.drew.heap[g]?=some (.cells cur (ρ.t 5) (0,0)):=hg
  by_cases hl:l=[]
  ·subst hl
   by_cases hc0:cap=0
   ·subst hc0
    have hSD:(Builtin.unsafeSliceData_ #[(ρ.t 37)] (ρ.t 127) #[.slice (some ⟨g,0,none⟩) 0 0]).run P w.drew=.ok (.pointer (some ⟨w.drew.heap.size,0,none⟩)) (w.drew.alloc (.view ⟨g,0,none⟩ (ρ.t 5))):=
     Lib.run_unsafeSliceData_zero w.drew _ _ (ρ.t 5) L.t127 ⟨g,0,none⟩ 0 ((ρ.t 5),cur.size) (by simp[World.shape?,hgd])
    refine(fh L X b 0 0 _ _ _ w _ _ c1 (hcell ((Lib.alloc_old w.drew _ b hlt).trans hbk)) c0 hSD (hnone _ _)).mono ?_
    rintro e w' ⟨rfl,rfl⟩
    exact⟨rfl,(Below.drew (Below.refl B w)).alloc hBw _⟩
   ·refine(fh L X b 0 cap _ _ _ w _ _ c1 c1 c0 (Lib.run_unsafeSliceData_row _ _ _ _ _ _ hc0) (hnone _ _)).mono ?_
    rintro e w' ⟨rfl,rfl⟩
    exact⟨rfl,Below.drew (Below.refl B w)⟩
  ·have hl0:l.length≠0:=by simpa using hl
   have hUS:(Builtin.unsafeString_ #[(ρ.t 127),(ρ.t 3)] (ρ.t 9) #[.pointer (some ⟨g,0,none⟩),.int .i64 l.length]).run P w.drew=.ok (.string ⟨l.toArray⟩) (w.drew.freeze ⟨g,0,none⟩ l.length):=by
    refine Lib.run_unsafeString_row w.drew (ρ.t 127) (ρ.t 3) (ρ.t 9) (ρ.t 5) L.t127 X.cellsByte g cur.size (by simp[World.shape?,hgd]) l hl (by omega) (by unfold maxLen at hcm;omega) ?_
    intro j x hx
    have:=hown.cells (g:=g) rfl j (.int .u8 x.toNat) (by simp[Lib.byteCells,hx])
    exact this
   refine(fh L X b l.length cap _ _ _ w _ _ c1 c1 c0 (Lib.run_unsafeSliceData_row _ _ _ _ _ _ (by omega)) hUS).mono ?_
   rintro e w' ⟨rfl,rfl⟩
   exact⟨rfl,Lib.below_freeze (Below.drew (Below.refl B w)) (p:=⟨g,0,none⟩) hbg _⟩
open Go.Proofs Go.Shelf Go.RowKit
section
variable{P:Program}(w:World)
theorem lh:∀(l:List Int) (a:Addr) (acc:ByteArray),(∀j x,l[j]?=some x->w.cell? (a.add j)=some (.int .u8 x))->
  (loadBytes a acc l.length).run P w=.ok ⟨acc.data++(l.map fun n=>UInt8.ofNat n.toNat).toArray⟩ w
 | [],a,acc,_=>by simp[loadBytes]
 |x::l,a,acc,h=>by
  have h0:w.cell? a=some (.int .u8 x):=by
   have:=h 0 x rfl
   simpa[Addr.add]using this
  have ih:=lh l (a.add 1) (acc.push (x.toNat.toUInt8)) (fun j y hy=>by
   have:=h (j+1) y (by simpa using hy)
   have e:(a.add 1).add j=a.add (j+1):=by
    unfold Addr.add
    by_cases hj:j=0
    ·subst hj;simp
    ·simp[hj];omega
   rw[e];exact this)
  simp only[List.length_cons,loadBytes,Sem.run_bind,Go.run_load,h0,Result.andThen]
  rw[ih]
  congr 1
  apply ByteArray.ext
  simp[ByteArray.push]
theorem Jq(pt it ty e T:TypeId)(hp:P.underlying pt=some (.pointer e))(g o cells:Nat)(hsh:w.shape? g=some (T,cells))(l:List Int)(h0:l≠[])
  (hlies:liesAt P P.depth T (cells/P.cellsOf T) o e l.length=true) (h63:l.length<=9223372036854775807)
  (hcell:∀j x,l[j]?=some x->w.cell? ((⟨g,o,none⟩:Addr).add j)=some (.int .u8 x)):
  (Builtin.unsafeString_ #[pt,it] ty #[.pointer (some ⟨g,o,none⟩),.int .i64 l.length]).run P w=.ok (.string ⟨(l.map fun n=>UInt8.ofNat n.toNat).toArray⟩) (w.freeze ⟨g,o,none⟩ l.length):=by
 have hl:l.length≠0:=by simpa using h0
 have hlb:=lh (P:=P) w l ⟨g,o,none⟩ .empty hcell
 have h63':¬(9223372036854775807:Int)<(l.length:Int):=by omega
 obtain⟨x1,x2,x3,hdef⟩:∃x1 x2 x3,Builtin.unsafeString_ #[pt,it] ty #[.pointer (some ⟨g,o,none⟩),.int .i64 l.length]=
   (do
    let n ←asInt (.int .i64 l.length)
    if n<0 then runtimePanic x1
    if n>IntKind.i64.max then unsupported x2
    if n=0 then pure (.string .empty)
    else if←variablesAt ⟨g,o,none⟩ (←elemOf pt) n.toNat then do
     let s ←loadBytes ⟨g,o,none⟩ .empty n.toNat
     freeze ⟨g,o,none⟩ n.toNat
     pure (.string s)
    else unsupported x3):=⟨_,_,_,rfl⟩
 rw[hdef]
 have hmax:IntKind.i64.max=9223372036854775807:=rfl
 have hneg:¬(l.length:Int)<0:=by omega
 simp[asInt,asIntOf,hmax,h63',hneg,hl,variablesAt,hsh,elemOf,run_underlying hp,hlies,hlb]
theorem Bt{u:TypeId}(hu:P.underlying u=some (.int .u8))(he:P.underlying e=some (.int .u8)):sameLayout P P.depth u e=true:=by
 have hd:P.depth=(2*(P.types.size+Made.depth)+1)+1:=rfl
 rw[hd]
 simp[sameLayout,hu,he]
theorem Bp{cells o:Nat}(hT:P.underlying T=some (.int .u8))(hc:P.cellsOf T=1)(he:P.underlying e=some (.int .u8))(hn:o+n<=cells):liesAt P P.depth T (cells/P.cellsOf T) o e n=true:=by
 have h:=Bt (P:=P) hT he
 have hd:P.depth=(2*(P.types.size+Made.depth)+1)+1:=rfl
 have hr:rowAt P (sameLayout P P.depth · e) P.depth T (cells/P.cellsOf T) o n=true:=by
  conv=>lhs;arg 3;rw[hd]
  simp[rowAt,hc,h,hn,Nat.mod_one]
 conv=>lhs;arg 2;rw[hd]
 simp only[liesAt,hr,Bool.true_or]
theorem Bq{u:TypeId}{m:Nat}(hT:P.underlying T=some (.array m u))(hcT:P.cellsOf T=m)(hu:P.underlying u=some (.int .u8))(hc:P.cellsOf u=1)(he:P.underlying e=some (.int .u8))(hn:n<=m)(h0:0<n):liesAt P P.depth T (m/P.cellsOf T) 0 e n=true:=by
 have h:=Bt (P:=P) hu he
 have hd:P.depth=((2*(P.types.size+Made.depth))+1)+1:=rfl
 have hm:m≠0:=by omega
 have hr1:rowAt P (sameLayout P P.depth · e) (2*(P.types.size+Made.depth)+1) u m 0 n=true:=by
  simp[rowAt,hc,h,hn]
 have hr:rowAt P (sameLayout P P.depth · e) P.depth T (m/P.cellsOf T) 0 n=true:=by
  conv=>lhs;arg 3;rw[hd]
  rw[rowAt]
  simp[hcT,hm,hT,hr1,Nat.div_self (Nat.pos_of_ne_zero hm)]
 conv=>lhs;arg 2;rw[hd]
 simp only[liesAt,hr,Bool.true_or]
end
variable{w w':World}
section
variable{P:Program}{ρ:Ren}
theorem SameBut.freeze'{a:Addr}:((w.freeze a n).os=w.os/\(w.freeze a n).tape=w.tape/\(w.freeze a n).output=w.output/\w.heap.size<=(w.freeze a n).heap.size/\∀r,r<w.heap.size->¬r=a.block->(w.freeze a n).heap[r]?=w.heap[r]?):=by
 unfold World.freeze
 split
 ·exact⟨rfl,rfl,rfl,Nat.le_refl _,fun _ _ _=>rfl⟩
 ·exact⟨rfl,rfl,rfl,by simp,fun r _ hr=>by
   simp only[Array.getElem?_modify]
   rw[if_neg (fun e=>hr e.symm)]⟩
set_option maxHeartbeats 1000000 in
set_option maxRecDepth 100000 in
theorem wz(L:Lays.n240 P ρ)(X:Builder.X72 P ρ)(hn:0<n)(hT:liesAt P P.depth T (n/P.cellsOf T) 0 (ρ.t 72) 1=true)(b:Nat)(w:World)(hsh:w.shape? b=some (T,n))(h0:w.cell? ⟨b,0,none⟩=some (.pointer none))(hfz:w.frozen? ⟨b,0,none⟩=false):
  Calls P (ρ.f 240) #[.pointer (some ⟨b,0,none⟩)] w fun e w'=>e=.returned (.tuple #[])/\w'=w.setCell ⟨b,0,none⟩ (.pointer (some ⟨b,0,none⟩)):=by
 obtain⟨j,hj,hjs⟩:=Option.map_eq_some_iff.1 X.sizeBuilder
 have mixed:=L.mixed
 have t72:=L.t72;have a72:=L.a72;have z72:=L.z72;have v72:=L.v72;have u72:=run_underlying L.t72
 have t70:=L.t70;have a70:=L.a70;have z70:=L.z70;have v70:=L.v70;have u70:=run_underlying L.t70
 have t9:=L.t9;have a9:=L.a9;have z9:=L.z9;have v9:=L.v9;have u9:=run_underlying L.t9
 have t4:=L.t4;have a4:=L.a4;have z4:=L.z4;have v4:=L.v4;have u4:=run_underlying L.t4
 have t164:=L.t164;have a164:=L.a164;have z164:=L.z164;have v164:=L.v164;have u164:=run_underlying L.t164
 go_enter L.f240,Body.n240_ntmps ρ
 go_wp2
 rw[Lib.run_to_unsafe w ⟨b,0,none⟩ L.t70 L.t164 hj (by rw[hjs];decide) hsh hn]
 simp only[Result.andThen]
 rw[Oper.upon_value]
 go_wp2
 rw[run_callFunc_extern L.f276 (by kernel_rfl) (by kernel_rfl) (by kernel_rfl) (e:=Extern.AbiNoEscape.same) (by kernel_rfl)]
 rw[Lib.run_noEscape]
 simp only[Result.andThen]
 rw[Oper.upon_value]
 go_wp2
 rw[Lib.run_from_unsafe w ⟨b,0,none⟩ L.t164 L.t70 hj hsh hT]
 simp only[Result.andThen]
 rw[Oper.upon_value]
 go_wp2
 go_end0
 exact⟨rfl,rfl⟩
theorem wA(L:Lays.n240 P ρ)(X:Builder.X72 P ρ){cs:Array Value}(hn:0<cs.size)(hT:liesAt P P.depth T (cs.size/P.cellsOf T) 0 (ρ.t 72) 1=true)(r:Nat)(w:World)(hw:w.heap[r]?=some (.cells cs T (0,0)))
  (h0:cs[0]?=some (.pointer none)\/cs[0]?=some (.pointer (some ⟨r,0,none⟩))):
  Calls P (ρ.f 240) #[.pointer (some ⟨r,0,none⟩)] w fun e w'=>e=.returned (.tuple #[])/\(∃cs',w'.heap[r]?=some (.cells cs' T (0,0))/\cs'.size=cs.size/\cs'[0]?=some (.pointer (some ⟨r,0,none⟩))/\∀k,0<k->cs'[k]?=cs[k]?)/\
   (w'.os=w.os/\w'.tape=w.tape/\w'.output=w.output/\w.heap.size<=w'.heap.size/\∀k,k<w.heap.size->¬k=r->w'.heap[k]?=w.heap[k]?):=by
 have hc:w.cell? ⟨r,0,none⟩=cs[0]?:=by simp[World.cell?,hw]
 rcases h0 with h0|h0
 ·refine(wz L X hn hT r w (by simp[World.shape?,hw]) (hc.trans h0) (by simp[World.frozen?,hw])).mono ?_
  rintro e w' ⟨rfl,rfl⟩
  refine⟨rfl,⟨cs.setIfInBounds 0 (.pointer (some ⟨r,0,none⟩)),?_,by simp,by simp[hn],fun k hk=>?_⟩,rfl,rfl,rfl,by simp[World.setCell],fun k _ hk=>?_⟩
  ·simp[World.setCell,Array.getElem?_modify,hw]
  ·rw[Array.getElem?_setIfInBounds,if_neg (by omega)]
  ·simp only[World.setCell,Array.getElem?_modify]
   rw[if_neg (fun e=>hk e.symm)]
 ·refine(Any.Builder_copyCheck_used L X r w (hc.trans h0)).mono ?_
  rintro e w' ⟨rfl,rfl⟩
  exact⟨rfl,⟨cs,hw,rfl,h0,fun _ _=>rfl⟩,rfl,rfl,rfl,Nat.le_refl _,fun _ _ _=>rfl⟩
theorem w9(L:Lays.n169 P ρ)(X:Builder.Extra P ρ){cs:Array Value}{r:Nat}(hw:w.heap[r]?=some (.cells cs T (0,0)))(h1:cs[1]?=some (.slice none 0 0)):
  Calls P (ρ.f 169) #[.pointer (some ⟨r,0,none⟩)] w fun e w'=>e=.returned (.string ⟨#[]⟩)/\w'=w.drew:=by
 have c0:w.cell? ⟨r,1,none⟩=some (.slice none 0 0):=by simp[World.cell?,hw,h1]
 exact(fh L X r 0 0 none (.pointer none) _ w w.drew w.drew c0 c0 c0 rfl (Any.unsafeString_none L X _ _)).mono fun e w' ⟨h,k⟩=>⟨h,k⟩
theorem w8(L:Lays.n169 P ρ)(X:Builder.Extra P ρ){G:TypeId}{cs gcs:Array Value}{r g o cap:Nat}{ns:List Int}(hw:w.heap[r]?=some (.cells cs T (0,0)))(h1:cs[1]?=some (.slice (some ⟨g,o,none⟩) ns.length cap))(hcap:ns.length<=cap)
  (hg:w.heap[g]?=some (.cells gcs G (0,0))) (hlies:ns≠[]->liesAt P P.depth G (gcs.size/P.cellsOf G) o (ρ.t 5) ns.length=true) (hm:ns.length<=1048576) (hc:∀(j:Nat) x,ns[j]?=some x->gcs[o+j]?=some (.int .u8 x)):
  Calls P (ρ.f 169) #[.pointer (some ⟨r,0,none⟩)] w fun e w'=>e=.returned (.string ⟨(ns.map fun n=>UInt8.ofNat n.toNat).toArray⟩)/\
   (w'.os=w.os/\w'.tape=w.tape/\w'.output=w.output/\w.heap.size<=w'.heap.size/\∀k,k<w.heap.size->¬k=g->w'.heap[k]?=w.heap[k]?):=by
 have c0:w.cell? ⟨r,1,none⟩=some (.slice (some ⟨g,o,none⟩) ns.length cap):=by simp[World.cell?,hw,h1]
 have c1:w.drew.cell? ⟨r,1,none⟩=some (.slice (some ⟨g,o,none⟩) ns.length cap):=c0
 have hlt:r<w.heap.size:=(Array.getElem?_eq_some_iff.1 hw).1
 by_cases hl:ns=[]
 ·subst hl
  by_cases hc0:cap=0
  ·subst hc0
   have hSD:(Builtin.unsafeSliceData_ #[(ρ.t 37)] (ρ.t 127) #[.slice (some ⟨g,o,none⟩) 0 0]).run P w.drew=.ok (.pointer (some ⟨w.drew.heap.size,0,none⟩)) (w.drew.alloc (.view ⟨g,o,none⟩ (ρ.t 5))):=
    Lib.run_unsafeSliceData_zero w.drew _ _ (ρ.t 5) L.t127 ⟨g,o,none⟩ 0 (G,gcs.size) (by
     have:w.drew.heap[g]?=some (.cells gcs G (0,0)):=hg
     simp[World.shape?,this])
   have c2:(w.drew.alloc (.view ⟨g,o,none⟩ (ρ.t 5))).cell? ⟨r,1,none⟩=some (.slice (some ⟨g,o,none⟩) 0 0):=by
    have:(w.drew.alloc (.view ⟨g,o,none⟩ (ρ.t 5))).heap[r]?=some (.cells cs T (0,0)):=(Lib.alloc_old w.drew _ r hlt).trans hw
    simp only[World.cell?,this]
    simpa using h1
   refine(fh L X r 0 0 _ _ _ w _ _ c1 c2 c0 hSD (Any.unsafeString_none L X _ _)).mono ?_
   rintro e w' ⟨rfl,rfl⟩
   exact⟨rfl,rfl,rfl,rfl,(by show w.heap.size<=(w.heap.push _).size;rw[Array.size_push];exact Nat.le_succ _),fun k hk _=>Lib.alloc_old w.drew _ k hk⟩
  ·refine(fh L X r 0 cap _ _ _ w w.drew w.drew c1 c1 c0 (Lib.run_unsafeSliceData_row _ _ _ _ _ _ hc0) (Any.unsafeString_none L X _ _)).mono ?_
   rintro e w' ⟨rfl,rfl⟩
   exact⟨rfl,rfl,rfl,rfl,Nat.le_refl _,fun k _ _=>rfl⟩
 ·have hl0:ns.length≠0:=by simpa using hl
  have hgd:w.drew.heap[g]?=some (.cells gcs G (0,0)):=hg
  have hUS:=Jq (P:=P) w.drew (ρ.t 127) (ρ.t 3) (ρ.t 9) (ρ.t 5) G L.t127 g o gcs.size (by simp[World.shape?,hgd]) ns hl (hlies hl) (by omega) (fun j x hx=>by
   have ea:(⟨g,o,none⟩:Addr).add j=⟨g,o+j,none⟩:=by
    unfold Addr.add
    by_cases hj:j=0
    ·subst hj;simp
    ·simp[hj]
   rw[ea]
   simp only[World.cell?,hgd]
   simpa using hc j x hx)
  refine(fh L X r ns.length cap _ _ _ w w.drew _ c1 c1 c0 (Lib.run_unsafeSliceData_row _ _ _ _ _ _ (by omega)) hUS).mono ?_
  rintro e w' ⟨rfl,rfl⟩
  obtain⟨f1,f2,f3,f4,f5⟩:=SameBut.freeze' (w:=w.drew) (a:=⟨g,o,none⟩) (n:=ns.length)
  exact⟨rfl,f1,f2,f3,f4,fun k hk hne=>(f5 k hk hne)⟩
end
open Go.RowKit Go.Proofs Go.Shelf
section
variable{P:Program}
theorem my(h:tyOk P t (.inl T)=true):P.cellsOf T=t.size:=by
 obtain⟨i,hi,hs⟩:=dG h
 simp[Program.cellsOf,hi,hs]
theorem ym(h:tyOk P tU8 (.inl T)=true):P.underlying T=some (.int .u8):=by
 have h:tyOk P (.leaf (.int .u8)) (.inl T)=true:=h
 simp only[tyOk,Bool.and_eq_true]at h
 have h4:=h.1
 cases hq:P.underlying T with
 |none=>simp[hq]at h4
 |some q=>cases q<;>simp[hq,LK.desc]at h4<;>simp[h4]
theorem AW(h:tyOk P (.arr n t) (.inl T)=true):∃u,P.underlying T=some (.array n u)/\tyOk P t (.inl u)=true:=by
 simp only[tyOk,Bool.and_eq_true]at h
 have h4:=h.1
 cases hq:P.underlying T with
 |none=>simp[hq]at h4
 |some q=>
  cases q<;>simp[hq]at h4
  obtain⟨rfl,h5⟩:=h4
  exact⟨_,rfl,h5⟩
variable{ρ:Ren}{φ:Nat->Option FuncId}{W:World}{T:MTb}{F:FuncId}
theorem yj(L:Lays.n240 P ρ)(X:Builder.X72 P ρ)(hT:∀U,tyOk P tDesk (.inl U)=true->liesAt P P.depth U (3/P.cellsOf U) 0 (ρ.t 72) 1=true)(hF:ρ.f 240=F)
  (hf:∃f c,P.funcs[F]?=some f/\f.body=some c/\(f.name== "runtime.NumGoroutine")=false):@gh (fixAt P W) P T φ F Fn.bA:=by
 letI:Fix:=fixAt P W
 subst hF
 refine yi hf fun w r cs U hw h3 hk h0=>?_
 refine(wA L X (by omega) (by rw[h3];exact hT U hk) r w hw h0).mono ?_
 rintro e w' ⟨he,hc,h1,h2,h3,h4,h5⟩
 exact⟨he,hc,h1,h2,h3,h4,h5⟩
theorem Ek(L:Lays.n169 P ρ)(X:Builder.Extra P ρ)(h5:P.underlying (ρ.t 5)=some (.int .u8))(hF:ρ.f 169=F)
  (hf:∃f c,P.funcs[F]?=some f/\f.body=some c/\(f.name== "runtime.NumGoroutine")=false):@gh (fixAt P W) P T φ F Fn.bN:=by
 letI:Fix:=fixAt P W
 subst hF
 refine Ej hf (fun w r cs U hw h1=>w9 L X hw h1) fun w r cs U g o cap gcs G ns hw h1 hcap hg hle hk hm hc=>?_
 refine(w8 L X hw h1 hcap hg (fun hne=>?_) hm hc).mono ?_
 ·rcases hk with hk|⟨m,hk,rfl,rfl,hn⟩
  ·exact Bp (ym hk) (my hk) h5 hle
  ·obtain⟨u,hu,hku⟩:=AW hk
   have hs:(Ty.arr gcs.size tU8).size=gcs.size*1:=rfl
   have hpos:0<ns.length:=List.length_pos_iff.2 hne
   exact Bq hu ((my hk).trans (by rw[hs,Nat.mul_one])) (ym hku) (my hku) h5 hn hpos
 ·rintro e w' ⟨he,h1,h2,h3,h4,h5⟩
  exact⟨he,h1,h2,h3,h4,h5⟩
end
open Go.RowKit Go.ChangeShapes Go.WideShapes
theorem B8(h:tS.fits v=true):∃s:Str,v=.str s:=Ec h
theorem o9{H:Type}{P:Program}{e:TypeId}:∀{ss:List (DataW H)} {d:DataW H},d∈ss->∀n∈d.weights P e,n∈DataW.weightsAll P e ss
 | [],_,h,_,_=>by simp at h
 |d0::r,d,h,n,hn=>by
  simp only[DataW.weightsAll,List.mem_append]
  rcases List.mem_cons.1 h with rfl|h
  ·exact .inl hn
  ·exact .inr (o9 h n hn)
section
variable[Tk]{H:Type}{enc:TypeId×Value->H}{P:Program}{w:World}{φ:Nat->Option FuncId}
theorem rl{U:TypeId}{r:Reach}{x:Value}{d:DataW H}{ps:List MemPlace}(hu:P.underlying U=some (.slice e))(hk:ru P tS.kinds e=true)(hs:P.cellsOf e=tS.size)(he:P.underlying e=some .string)(hby:16<=P.bytesOf e)
  (hok:Value.okWide P w r b U x) (h:DataW.Trod enc P w 0 (fun _=>true) true U x d ps) (hwt:∀n∈d.weights P U,n<=reachBytes) (n:Nat):
  ∃(L:List Str) (v:AV) (bf:Option Blk) (pl:Option Place),L.length<=4611686018427387904/\(∀k,(txt L k).size<=4611686018427387904)/\(∀g:Nat->Option Place,g n=pl->VR φ (betaA g) v x)/\
   (∀(g:Nat->Option Place) (O:Nat->Prop) (b:Blk),g n=pl->bf=some b->∃pl' cs T fr,BR φ (betaA g) O (.arg n) b w pl' cs T fr)/\notObj v/\tSl.fits v=true/\(∀(h:HP) l,h.arg n=bf->Txs h l v L):=by
 obtain⟨l,hl,hc⟩:=wa (φ:=φ) (t:=tS) hu hk hs (by decide) hok h
 obtain⟨L,rfl⟩:=wv (fun _=>B8) l fun v hv=>(hl v hv).1
 have h0k:∀k,(txt ([]:List Str) k).size<=4611686018427387904:=fun k=>by
  have:txt ([]:List Str) k=⟨#[]⟩:=by simp[txt]
  rw[this];decide
 rcases hc with⟨h0,hx⟩|⟨pl,hp⟩
 ·have hL:L=[]:=by simpa using h0
  subst hL
  rcases hx with rfl|⟨a,cap,rfl⟩
  ·exact⟨[],.nilsl,none,none,by simp,h0k,fun g _=>by simp[VR,VR1,AV.isAgg,LR,AV.rel],fun _ _ b _ hb=>by simp at hb,fun _ _ _ h=>by simp at h,rfl,fun h l _=>.inl ⟨.inl rfl,rfl⟩⟩
  ·exact⟨[],.slz,none,none,by simp,h0k,fun g _=>by simp[VR,VR1,AV.isAgg,LR,AV.rel],fun _ _ b _ hb=>by simp at hb,fun _ _ _ h=>by simp at h,rfl,fun h l _=>.inl ⟨.inr rfl,rfl⟩⟩
 ·have hlen:(L.map AV.str).length=L.length:=List.length_map ..

  let g0:Nat->Option Place:=fun _=>some pl
  obtain⟨cs,T,fr,hB⟩:=hp.blk g0 (fun _=>True) n rfl
  have hv:=hp.val g0 n rfl
  obtain⟨pl',m,t',cap,hb,hty,h1,h2,h3,hxe⟩:=j7 hv
  have hpl:pl=pl':=Option.some.inj hb
  subst hpl
  rw[hp.ty]at hty
  simp only[Ty.arr.injEq]at hty
  obtain⟨rfl,rfl⟩:=hty
  obtain⟨fuel,hf⟩:=h
  have hs1:tS.size=1:=rfl
  have hr62:reachBytes<=4611686018427387904:=by decide
  have hfl:(AV.ofList (L.map AV.str)).flat=L.map AV.str:=by
   have hl':(AV.ofList (L.map AV.str)).toList=some (L.map AV.str):=fm L
   rw[(jn hB.fits hl').2.2,ow]
  have hcell:∀(k:Nat) (y:Str),L[k]?=some y->w.cell? ⟨pl.r,pl.base+k,none⟩=some (.string y):=fun k y hy=>by
   obtain⟨z,hz,hr⟩:=hB.cells k (.str y) (by rw[hfl,List.getElem?_map,hy];rfl)
   have hr':z=.string y:=hr
   subst hr'
   simp only[World.cell?,hB.heap]
   simpa using hz
  have hone:P.cellsOf e=1:=hs.trans hs1
  have hall:L.length<=4611686018427387904/\∀(k:Nat) (y:Str),L[k]?=some y->y.size<=4611686018427387904:=by
   rcases open_strings hu he hone hf with⟨hcs,hx⟩|⟨a0,len',cap',ss,hcs,_,hll,hm,hz,hx,hcell',hsz⟩
   ·rw[hxe]at hcs;simp[Value.cells]at hcs
   ·rw[hxe]at hcs
    simp only[Value.cells,List.cons.injEq,and_true,Value.slice.injEq,Option.some.injEq]at hcs
    obtain⟨rfl,hll2,rfl⟩:=hcs
    simp only[Prod.mk.injEq]at hx
    obtain⟨rfl,_⟩:=hx
    rw[hlen]at hll2
    subst hll2
    have hw0:∀q∈((strs (ss.take L.length):List (DataW H)).length+(strs (ss.drop L.length):List (DataW H)).length)*P.bytesOf e::(DataW.weightsAll P e (strs (ss.take L.length):List (DataW H))++DataW.weightsAll P e (strs (ss.drop L.length):List (DataW H))),q<=reachBytes:=fun q hq=>hwt q (by
     simp only[DataW.weights,hu];exact hq)
    have hssl:L.length<=ss.length:=by rw[hz];split<;>omega
    refine⟨?_,fun k y hy=>?_⟩
    ·have:=hw0 _ List.mem_cons_self
     have e1:(strs (ss.take L.length):List (DataW H)).length=L.length:=by simp[strs];omega
     rw[e1]at this
     have h16:L.length*16<=(L.length+(strs (ss.drop L.length):List (DataW H)).length)*P.bytesOf e:=Nat.mul_le_mul (by omega) hby
     omega
    ·have hk:k<L.length:=by
      rcases Nat.lt_or_ge k L.length with h|h
      ·exact h
      ·rw[List.getElem?_eq_none h]at hy;simp at hy
     have h4:=hcell' k (by omega)
     have h5:=hcell k y hy
     have ea:(Addr.mk pl.r (pl.base+0*tS.size) none).add k=⟨pl.r,pl.base+k,none⟩:=by
      rw[iz];simp
     rw[ea,h5]at h4
     simp only[Option.some.injEq,Value.string.injEq]at h4
     have hmem:(DataW.lit (.string y.data.toList):DataW H)∈(strs (ss.take L.length):List (DataW H)):=by
      rw[h4]
      refine List.mem_map.2 ⟨_,?_,rfl⟩
      have hlt:k<ss.length:=by omega
      rw[List.getD_eq_getElem?_getD,List.getElem?_eq_getElem hlt]
      simp only[Option.getD_some]
      have:(ss.take L.length)[k]'(by simp;omega)=ss[k]:=List.getElem_take ..
      rw[←this]
      exact List.getElem_mem _
     have:=hw0 y.data.toList.length (List.mem_cons_of_mem _ (List.mem_append_left _ (o9 hmem _ (by simp[DataW.weights]))))
     have e2:y.data.toList.length=y.size:=Array.length_toList
     omega
  refine⟨L,.sl (.arg n) 0 L.length,some ⟨.arr L.length tS,encS L⟩,some pl,hall.1,fun k=>?_,fun g hg=>?_,fun g O b hg hb=>?_,fun _ _ _ h=>by simp at h,rfl,fun h l hh=>.inr ⟨.arg n,0,L,rfl,trivial,?_,by simp,by simp⟩⟩
  ·by_cases hk:k<L.length
   ·rw[iA hk]
    exact hall.2 k _ (List.getElem?_eq_getElem hk)
   ·have:txt L k=⟨#[]⟩:=by simp only[txt];rw[List.getD_eq_getElem?_getD,List.getElem?_eq_none (by omega)];rfl
    rw[this];decide
  ·have:=hp.val g n hg
   rwa[hlen]at this
  ·simp only[Option.some.injEq]at hb
   subst hb
   obtain⟨cs,T,fr,hB⟩:=hp.blk g O n hg
   rw[hlen]at hB
   exact⟨pl,cs,T,fr,hB⟩
  ·simp only[HP.look];exact hh
end
section
variable{H:Type}{enc:TypeId×Value->H}
theorem vS{C:Checked}{os:Os}{f:FuncId}{fn:Func}{s:ChangeSpec}{laid:List (String×DataW Unit)}(hX:∀w w':World,w.heap=w'.heap->laidMetH C.prog laid w->laidMetH C.prog laid w')(own:ownKnob C.prog.godebug=none)(started:os.Started)(noInit:C.prog.inits.idxOf? f=none)(hfn:C.prog.funcs[f]?=some fn)
  (witness:∃(w:World) (tape:Tape) (i:Input),w.os=os/\(w.forCall tape i).Shaped C.prog/\i.vars=[]/\Input.okWide C.prog (w.forCall tape i) .any w.heap.size f i/\
   ((s.pre enc C.prog fn [] false (w.forCall tape i).memory i.args/\laidMetH C.prog laid (w.forCall tape i).memory)/\sizedMet enc C.prog fn (OpenSpec.ofChange s) false (w.forCall tape i).memory i.args)/\Assume.holds {} C.prog (lone (Frame.enter C.prog f i.args .normal) [] (w.forCall tape i)))
  (contract:∀(W:World) (base:Nat) (args:Array Value) (ds gs:List (DataW H)) (before:List MemPlace),
   (∀(j:Nat) t v,fn.params[j]?=some t->args[j]?=some v->Value.okWide C.prog W .any base t v)->DataW.Whole enc C.prog fn.params.toList s.vars false W args.toList ds gs before->
   (DataW.weightsEach C.prog (fn.params.toList++s.plain.varTypes C.prog) (ds++gs)).all (· <=reachBytes)=true->laidMetH C.prog laid W->W.ShapedOpen C.prog->
   Calls C.prog f args W fun e W'=>∃v,e=.returned v/\s.post enc C.prog fn false true false false W args v W'):
  ReturnsInHanded {} C os f .any (fun w args=>(s.pre enc C.prog fn [] false w args/\laidMetH C.prog laid w)/\sizedMet enc C.prog fn (OpenSpec.ofChange s) false w args) (s.post enc C.prog fn false true false false):=by
 refine returnsInHanded_of_calls own started noInit witness ?_
 intro w tape i _ hsh _ hok hpre _
 obtain⟨_,_,_,fn',hfn',_,_,_,_,hval⟩:=hok
 obtain rfl:fn'=fn:=Option.some.inj (hfn'.symm.trans hfn)
 obtain⟨⟨⟨ds,gs,before,hw,_⟩,hx⟩,hz⟩:=hpre
 have hw':=DataW.Whole.of_heap (w':=w.forCall tape i) (by rfl) hw
 refine(contract (w.forCall tape i) w.heap.size i.args ds gs before hval hw' (hz.weights hw) (hX _ _ (by rfl) hx) hsh).mono fun e W' h=>?_
 obtain⟨v,rfl,hp⟩:=h
 exact ChangeSpec.post_blind hp
end
open Go.Proofs Go.Shelf Go.RowKit
variable{P:Program}
theorem rj(h:Below w.heap.size w w'):w.grownBy w' none:=⟨h.os,h.tape,h.output,h.size,fun k hk _=>h.block k hk⟩
theorem kU{B:Nat}{bs:List Value}(h:Lib.IsBuilder T e B b bs w)(hb:Below w.heap.size w w'):Lib.IsBuilder T e B b bs w':=by
 have key:∀p,Lib.BuilderAt T e B b p bs w->Lib.BuilderAt T e B b p bs w':=fun p h=>by
  have hlt:=h.lt
  obtain⟨hB,v,hh,hown,hne⟩:=h
  exact⟨hB,v,(hb.block b hlt).trans hh,hown.kept (rj hb) (by cases hv:v.ownBlock<;>simp),hne⟩
 exact h.imp (key _) (key _)
theorem zd{name:String}{k:IntKind}{zs:List Int}(h:Lib.TabIs P w name k zs)(hb:Below w.heap.size w w'):Lib.TabIs P w' name k zs:=by
 unfold Lib.TabIs World.var? at *
 cases hg:P.globalNamed name with
 |none=>simp[hg]at h
 |some g=>
  simp only[hg,Option.bind_some]at h⊢
  have hlt:g<w.heap.size:=by
   rcases Nat.lt_or_ge g w.heap.size with h'|h'
   ·exact h'
   ·rw[Array.getElem?_eq_none h']at h;simp at h
  rw[hb.block g hlt]
  exact h
theorem ky{B:Nat}{bs:List Value}(h:Lib.IsBuilder T e B b bs w):b<w.heap.size:=h.elim (fun h=>h.lt) (fun h=>h.lt)
end Go.Mini
