/- A part of the proof: what Dd computes, step by step. -/
import Derived.Test.YtpkndgkaecamlaaGreatDoorDdPe
import Derived.Lib.Tables
import Derived.Lib.AtoiAll
import Derived.Lib.SplitLaws
import Derived.Lib.Bytealg

set_option linter.unusedSimpArgs false
set_option linter.unusedVariables false
set_option maxHeartbeats 4000000
set_option maxRecDepth 100000
set_option linter.unusedSectionVars false
set_option linter.unnecessarySimpa false
namespace Go.Mini
structure Bd where
 now:Img
 disk:Img
 stamp:Int
 crashes:Int
 files:Int
 counts:Int
 datas:Int
def uV(s c f n d:Int):AV:=.cons (.int .i64 s) (.cons (.int .i64 c) (.cons (.int .i64 f) (.cons (.int .i64 n) (.cons (.int .i64 d) .unit))))
def Bd.enc(B:Bd):AV:=.cons B.now.enc (.cons B.disk.enc (uV B.stamp B.crashes B.files B.counts B.datas))
@[go_sem] theorem Lv(B:Bd)(p:List Nat):B.enc.at (0::p)=B.now.enc.at p:=rfl
@[go_sem] theorem Lu(B:Bd)(p:List Nat):B.enc.at (1::p)=B.disk.enc.at p:=rfl
@[go_sem] theorem Pk(B:Bd):B.enc.at [2]=some (.int .i64 B.stamp):=rfl
@[go_sem] theorem Pj(B:Bd):B.enc.at [3]=some (.int .i64 B.crashes):=rfl
@[go_sem] theorem Pi(B:Bd):B.enc.at [4]=some (.int .i64 B.files):=rfl
@[go_sem] theorem Ph(B:Bd):B.enc.at [5]=some (.int .i64 B.counts):=rfl
@[go_sem] theorem Pg(B:Bd):B.enc.at [6]=some (.int .i64 B.datas):=rfl
@[go_sem] theorem FT(B:Bd)(p:List Nat)(x:AV):B.enc.put (0::p) x=(B.now.enc.put p x).map fun y=>.cons y (.cons B.disk.enc (uV B.stamp B.crashes B.files B.counts B.datas)):=rfl
@[go_sem] theorem FR(B:Bd)(p:List Nat)(x:AV):B.enc.put (1::p) x=(B.disk.enc.put p x).map fun y=>.cons B.now.enc (.cons y (uV B.stamp B.crashes B.files B.counts B.datas)):=by
 show((B.disk.enc.put p x).map fun y=>AV.cons y (uV B.stamp B.crashes B.files B.counts B.datas)).map (fun y=>AV.cons B.now.enc y)=_
 cases B.disk.enc.put p x<;>rfl
@[go_sem] theorem NY(B:Bd)(x:Int):B.enc.put [2] (.int .i64 x)=some (Bd.enc {B with stamp:=x}):=rfl
@[go_sem] theorem NX(B:Bd)(x:Int):B.enc.put [3] (.int .i64 x)=some (Bd.enc {B with crashes:=x}):=rfl
@[go_sem] theorem NW(B:Bd)(x:Int):B.enc.put [4] (.int .i64 x)=some (Bd.enc {B with files:=x}):=rfl
@[go_sem] theorem NV(B:Bd)(x:Int):B.enc.put [5] (.int .i64 x)=some (Bd.enc {B with counts:=x}):=rfl
@[go_sem] theorem NU(B:Bd)(x:Int):B.enc.put [6] (.int .i64 x)=some (Bd.enc {B with datas:=x}):=rfl
@[go_sem] theorem Bmk(a b:Img)(s c f n d:Int):AV.cons a.enc (.cons b.enc (uV s c f n d))=Bd.enc ⟨a,b,s,c,f,n,d⟩:=rfl
@[go_sem] theorem KX:tBed.field 0=some ac:=rfl
@[go_sem] theorem KW:tBed.field 1=some ac:=rfl
@[go_sem] theorem KV:tBed.field 2=some tI:=rfl
@[go_sem] theorem KU:tBed.field 3=some tI:=rfl
@[go_sem] theorem KT:tBed.field 4=some tI:=rfl
@[go_sem] theorem KS:tBed.field 5=some tI:=rfl
@[go_sem] theorem KR:tBed.field 6=some tI:=rfl
theorem D1(B:Bd):tBed.fits B.enc=true:=by
 show(Ty.cons ac (.cons ac _)).fits (AV.cons _ (.cons _ _))=true
 simp only[ox,fa,true_and]
 rfl
@[go_sem] theorem Gl(B:Bd):(tBed.fits B.enc=true)=True:=eq_true (D1 B)
@[go_sem] theorem PG(B:Bd)(i:Id):fg B.enc i=B.enc:=rfl
@[go_sem] theorem Mq(B:Bd)(i:Id):B.enc.leads i=false:=rfl
theorem AO:tBed.zero=Bd.enc ⟨.zero,.zero,0,0,0,0,0⟩:=by
 show AV.cons ac.zero (.cons ac.zero _)=_
 rw[uK];rfl
@[go_sem] theorem N3(a b:Img):fill tBed tBed.zero [(0,a.enc),(1,b.enc)]=some (Bd.enc ⟨a,b,0,0,0,0,0⟩):=by
 rw[AO]
 simp only[fill]
 show(if ac.fits a.enc=true then _ else _)=_
 rw[if_pos (fa a),FT,gl,Option.map_some,Bmk]
 show(if ac.fits b.enc=true then _ else _)=_
 rw[if_pos (fa b),FR,gl,Option.map_some,Bmk]
variable{B:Bd}{F d f i j n p q:Nat}{h h1:HP}
theorem uf(e:h.look (.obj n)=some ⟨tBed,B.enc⟩):h.rd (.obj n) [0]=some B.now.enc:=by simp only[HP.rd,e,Option.bind_some,Lv,xU]
theorem DE(e:h.look (.obj n)=some ⟨tBed,B.enc⟩):h.rd (.obj n) [1]=some B.disk.enc:=by simp only[HP.rd,e,Option.bind_some,Lu,xU]
def Bd.fl(B:Bd):Fl:=⟨B.now,B.disk,B.stamp⟩
variable{t u:Ty}{x y:Opd}
section
variable{T:MTb}{cx:Cx}{k:List Item}{kill:List Nat}{r:List MOp}{sl:Slots}{own:Own}{h:HP}{Q:St->Prop}
def WBX(T:MTb)(cx:Cx)(t:Ty)(v:AV)(d:Nat)(r:List MOp)(kill:List Nat)(k:List Item)(sl:Slots)(own:Own)(h:HP)(Q:St->Prop):Prop:=
 t.fits v=true/\W T cx (.ops r kill::k) ⟨sl.set d (.ptr (.obj h.next) [] t),own,h.nw t v⟩ Q
@[go_sem] theorem ND:WBX T cx tBed B.enc d r kill k sl own h Q=W T cx (.ops r kill::k) ⟨sl.set d (.ptr (.obj h.next) [] tBed),own,h.nw tBed B.enc⟩ Q:=by
 simp only[WBX,Gl,true_and]
@[go_sem] theorem Jn{c:Nat}{n:Int}:WBX T cx tFiles (encF c n) d r kill k sl own h Q=W T cx (.ops r kill::k) ⟨sl.set d (.ptr (.obj h.next) [] tFiles),own,h.nw tFiles (encF c n)⟩ Q:=by
 simp only[WBX,Gk,true_and]
theorem o5:W T cx (.ops (⟨some d,.box true t x,none⟩::r) kill::k) ⟨sl,own,h⟩ Q=WBX T cx t (St.opd ⟨sl,own,h⟩ x) d r kill k sl own h Q:=by
 rw[gW rfl,evOp]
 simp only[evK,WBX]
 by_cases h1:t.fits (St.opd ⟨sl,own,h⟩ x)=true
 ·simp only[h1,true_and,if_true];rfl
 ·simp only[h1,false_and,Bool.false_eq_true,if_false];rfl
@[go_sem] theorem LE:W T cx (.ops (⟨some d,.box true tBed x,none⟩::r) kill::k) ⟨sl,own,h⟩ Q=WBX T cx tBed (St.opd ⟨sl,own,h⟩ x) d r kill k sl own h Q:=o5
@[go_sem] theorem Ha:W T cx (.ops (⟨some d,.box true tFiles x,none⟩::r) kill::k) ⟨sl,own,h⟩ Q=WBX T cx tFiles (St.opd ⟨sl,own,h⟩ x) d r kill k sl own h Q:=o5
@[go_sem] theorem N0(a b:Img):h.mk1 a b=h.nw tCache (encC a b):=rfl
end
variable{a b s:Str}
section
variable{cx:Cx}{h:HP}{n:Nat}{B:Bd}
theorem Aw:Ok dH cx Fn.ij (St.enter [] h) fun v h'=>v=.ptr (.obj h.next) [] tBed/\h'=h.nw tBed (Bd.enc ⟨.blank,.blank,0,0,0,0,0⟩):=by
 rw[aE]
 simp(disch:=omega)only[go_sem]
 refine am rfl ⟨rfl,rfl⟩ (by simp only[go_sem];exact upE (up (wS))) ?_
 simp(disch:=omega)only[go_sem]
 refine am rfl ⟨rfl,rfl⟩ (by simp only[go_sem];exact upE (up (wS))) ?_
 simp(disch:=omega)only[go_sem]
theorem sf(hB:h.look (.obj n)=some ⟨tBed,B.enc⟩):Ok dH cx Fn.bQ (St.enter [.ptr (.obj n) [] tBed] h) fun v h'=>v=.int .i64 (gP B.now B.disk)/\h'=h:=by
 rw[aE]
 simp(disch:=omega)only[go_sem]
 refine cm 8 (fun k=>⟨[(0,.ptr (.obj n) [] tBed),(3,.int .i64 k)],[],h⟩) (fun k=>∀i,i<k->(!(B.now.ino i).live&&decide (refs B.disk i=0))=false) (by simp only[go_sem]<;>rfl) (fun i hi=>by omega) fun k hk hp ih=>?_
 by_cases hlt:k<8
 ·simp(disch:=omega)only[go_sem,hlt,hB]
  cases c1:(B.now.ino k).live with
  |true=>
   simp(disch:=omega)only[go_sem,c1]
   refine ih _ hlt (aJ hp (by simp[c1])) ?_
   simp only[go_sem]
  |false=>
   simp(disch:=omega)only[go_sem,c1,hB]
   refine am rfl ⟨rfl,rfl⟩ (by simp only[go_sem];exact upE (up (j6 (m:=B.disk) (p:=.obj n) (q:=[1]) (ar _ _) (by rw[HP.push_rd_ext (ar _ _)];exact DE hB)))) ?_
   simp(disch:=omega)only[go_sem]
   by_cases c2:refs B.disk k=0
   ·simp(disch:=omega)only[go_sem,c2]
    rw[gP,dV hp (by simp[c1,c2]) hlt]
   ·simp(disch:=omega)only[go_sem,c2]
    refine ih _ hlt (aJ hp (by simp[c1,c2])) ?_
    simp only[go_sem]
 ·obtain rfl:k=8:=by omega
  simp(disch:=omega)only[go_sem]
  rw[gP,findN_none hp]
theorem ng{d:Int}(hB:h.look (.obj n)=some ⟨tBed,B.enc⟩):Ok dH cx Fn.bJ (St.enter [.ptr (.obj n) [] tBed,.int .i64 d] h) fun v h'=>v=.int .i64 (dN B.now B.disk d)/\h'=h:=by
 rw[aE]
 simp(disch:=omega)only[go_sem]
 by_cases c0:d<0
 ·simp(disch:=omega)only[go_sem,c0];simp[dN,c0]
 by_cases c3:3<=d
 ·simp(disch:=omega)only[go_sem,c0,c3];simp[dN,c3]
 have e:dN B.now B.disk d=findN 4 fun s=>decide ((B.now.ent d.toNat s).name=⟨#[]⟩)&&decide ((B.disk.ent d.toNat s).name=⟨#[]⟩):=by simp only[dN];rw[if_neg (by omega)]
 simp(disch:=omega)only[go_sem,c0,c3]
 refine cm 4 (fun s=>⟨[(0,.ptr (.obj n) [] tBed),(1,.int .i64 d),(5,.int .i64 s)],[],h⟩) (fun s=>∀i,i<s->(decide ((B.now.ent d.toNat i).name=⟨#[]⟩)&&decide ((B.disk.ent d.toNat i).name=⟨#[]⟩))=false) (by simp only[go_sem]<;>rfl) (fun i hi=>by omega) fun s hs hp ih=>?_
 by_cases hlt:s<4
 ·simp(disch:=omega)only[go_sem,hlt,c0,c3,hB]
  by_cases c1:(B.now.ent d.toNat s).name=⟨#[]⟩
  ·by_cases c2:(B.disk.ent d.toNat s).name=⟨#[]⟩
   ·simp(disch:=omega)only[go_sem,hlt,c0,c3,c1,c2,hB,e]
    rw[dV hp (by simp[c1,c2]) hlt]
   ·simp(disch:=omega)only[go_sem,hlt,c0,c3,c1,c2,hB]
    refine ih _ hlt (aJ hp (by simp[c2])) ?_
    simp only[go_sem]
  ·simp(disch:=omega)only[go_sem,c1]
   refine ih _ hlt (aJ hp (by simp[c1])) ?_
   simp only[go_sem]
 ·obtain rfl:s=4:=by omega
  simp(disch:=omega)only[go_sem,e]
  rw[findN_none hp]
theorem uh(hB:h.look (.obj n)=some ⟨tBed,B.enc⟩):Ok dH cx Fn.bV (St.enter [.ptr (.obj n) [] tBed] h) fun v h'=>v=.int .i64 (gp B.now B.disk)/\h'=h:=by
 rw[aE]
 simp(disch:=omega)only[go_sem]
 refine cm 9 (fun k=>⟨[(0,.ptr (.obj n) [] tBed),(3,.int .i64 k)],[],h⟩) (fun k=>∀i,i<k->(!held B.now i&& !held B.disk i)=false) (by simp only[go_sem]<;>rfl) (fun i hi=>by omega) fun k hk hp ih=>?_
 by_cases hlt:k<9
 ·simp(disch:=omega)only[go_sem,hlt]
  refine am rfl ⟨rfl,rfl⟩ (by simp only[go_sem];exact upE (up (uF (m:=B.now) (p:=.obj n) (q:=[0]) (ar _ _) (by rw[HP.push_rd_ext (ar _ _)];exact uf hB)))) ?_
  simp(disch:=omega)only[go_sem]
  cases c1:held B.now k with
  |true=>
   simp(disch:=omega)only[go_sem,c1]
   refine ih _ hlt (aJ hp (by simp[c1])) ?_
   simp only[go_sem]
  |false=>
   simp(disch:=omega)only[go_sem,c1]
   refine am rfl ⟨rfl,rfl⟩ (by simp only[go_sem];exact upE (up (uF (m:=B.disk) (p:=.obj n) (q:=[1]) (ar _ _) (by rw[HP.push_rd_ext (ar _ _)];exact DE hB)))) ?_
   simp(disch:=omega)only[go_sem]
   cases c2:held B.disk k with
   |false=>
    simp(disch:=omega)only[go_sem,c2]
    rw[gp,dV hp (by simp[c1,c2]) hlt]
   |true=>
    simp(disch:=omega)only[go_sem,c2]
    refine ih _ hlt (aJ hp (by simp[c1,c2])) ?_
    simp only[go_sem]
 ·obtain rfl:k=9:=by omega
  simp(disch:=omega)only[go_sem]
  rw[gp,findN_none hp]
theorem qH{d:Int}(hB:h.look (.obj n)=some ⟨tBed,B.enc⟩):Ok dH cx Fn.fO (St.enter [.ptr (.obj n) [] tBed,.int .i64 d,.str s] h) fun v h'=>v=.bool (decide (0<=room B.now B.disk d s))/\h'=h:=by
 rw[aE]
 simp(disch:=omega)only[go_sem]
 refine am rfl ⟨rfl,rfl⟩ (by simp only[go_sem];exact ng (B:=B) (by simp only[go_sem,hB])) ?_
 simp(disch:=omega)only[go_sem]
 rcases lu B.now B.disk d with e|⟨k,k4,e,d0,d3,_⟩
 ·simp(disch:=omega)only[go_sem,e]
  simp[room,e]
 ·simp(disch:=omega)only[go_sem,e]
  refine am rfl ⟨rfl,rfl⟩ (by simp only[go_sem];exact upE (up (gc (m:=B.disk) (p:=.obj n) (q:=[1]) (ar _ _) (by rw[HP.push_rd_ext (ar _ _)];exact DE hB)))) ?_
  simp(disch:=omega)only[go_sem]
  by_cases c1:0<=cr B.disk d s
  ·have c2:¬cr B.disk d s<0:=by omega
   simp(disch:=omega)only[go_sem,c1,c2];simp[room,c1]
  ·have c2:cr B.disk d s<0:=by omega
   simp(disch:=omega)only[go_sem,c1,c2];simp[room,c1,e]
theorem ug{d:Int}{k:Nat}(hl:HL cx)(hB:h.look (.obj n)=some ⟨tBed,B.enc⟩)(hk:k<4)(e:dN B.now B.disk d=k)(d0:0<=d)(d3:d<3)(i8:i<8):
  Ok dH cx Fn.gA (St.enter [.ptr (.obj n) [] tBed,.int .i64 d,.str s,.int .i64 i] h) fun v h'=>v=.tup .unit/\h'=h.ob n tBed (Bd.enc {B with now:=addName B.now d.toNat k s i}):=by
 rw[aE]
 simp(disch:=omega)only[go_sem]
 refine am rfl ⟨rfl,rfl⟩ (by simp only[go_sem];exact ng (B:=B) (by simp only[go_sem,hB])) ?_
 simp(disch:=omega)only[go_sem,e,hB,cN (hl _)]
 simp only[addName]
theorem sF{x:Int}(hl:HL cx)(hB:h.look (.obj n)=some ⟨tBed,B.enc⟩):
  Ok dH cx Fn.dT (St.enter [.ptr (.obj n) [] tBed,.int .i64 x] h) fun v h'=>v=.bool (writeAs B.now B.disk x).2/\h'=h.ob n tBed (Bd.enc {B with disk:=(writeAs B.now B.disk x).1}):=by
 rw[aE]
 simp(disch:=omega)only[go_sem]
 refine rL rfl ⟨rfl,rfl⟩ (by simp only[go_sem];exact upE (up (xZ (m:=B.now) (m':=B.disk) (p:=.obj n) (p':=.obj n) (q:=[0]) (q':=[1]) (ar _ _) (by rw[HP.push_rd_ext (ar _ _)];exact uf hB) (ar _ _) (by rw[HP.push_rd_ext (ar _ _)];exact DE hB)))) ?_
 simp(disch:=omega)only[go_sem,hB,cN (hl _)]
theorem Bf(hl:HL cx):Ok dH cx Fn.bW (St.enter [.ptr (.obj n) [] tBed] (h.ob n tBed B.enc)) fun v h'=>
  ∃k:Nat,k<=8/\v=.int .i64 k/\h'=h.ob n tBed (Bd.enc {B with disk:=syncD B.now B.disk k})/\(k=8\/B.now=syncD B.now B.disk k)/\∀i,i<k->¬B.now=syncD B.now B.disk i:=by
 rw[aE]
 simp(disch:=omega)only[go_sem]
 refine cm 8 (fun j=>⟨[(0,.ptr (.obj n) [] tBed),(3,.int .i64 j)],[],h.ob n tBed (Bd.enc {B with disk:=syncD B.now B.disk j})⟩) (fun j=>∀i,i<j->¬B.now=syncD B.now B.disk i) (by simp only[go_sem,syncD]<;>rfl) (fun i hi=>by omega) fun j hj hp ih=>?_
 by_cases hlt:j<8
 ·simp(disch:=omega)only[go_sem]
  by_cases c:B.now=syncD B.now B.disk j
  ·have c':decide (B.now=syncD B.now B.disk j)=true:=decide_eq_true c
   simp(disch:=omega)only[go_sem,c']
   exact⟨j,hj,rfl,rfl,.inr c,hp⟩
  ·simp(disch:=omega)only[go_sem,c]
   refine fo 14 (fun i=>⟨[(0,.ptr (.obj n) [] tBed),(3,.int .i64 j),(4,.int .i64 (13-(i:Int)))],[],h.ob n tBed (Bd.enc {B with disk:=wrDown B.now (syncD B.now B.disk j) i})⟩) (by simp only[go_sem,wrDown]<;>rfl) fun i hi ih2=>?_
   by_cases hlt2:i<14
   ·have wr:=fun(cy:Cx) (hy:∀n,cy.prot.lets (.obj n)=true) (o:Own)=>sF (cx:=cy) (h:=(h.ob n tBed (Bd.enc {B with disk:=wrDown B.now (syncD B.now B.disk j) i})).push cx.lvl o) (n:=n) (B:={B with disk:=wrDown B.now (syncD B.now B.disk j) i}) (x:=13-(i:Int)) hy (by simp only[go_sem,])
    simp only[go_sem]at wr
    simp(disch:=omega)only[go_sem]
    refine bK (v:=.bool (writeAs B.now (wrDown B.now (syncD B.now B.disk j) i) (13-(i:Int))).2) (h.ob n tBed (Bd.enc {B with disk:=wrDown B.now (syncD B.now B.disk j) (i+1)})) rfl ⟨rfl,rfl⟩ rfl (by simp only[go_sem];exact wr _ (by exact hl) _) ?_
    simp(disch:=omega)only[go_sem]
    refine ih2 _ hlt2 ?_
    have e2:(13:Int)-(i:Int)-1=13-((i:Int)+1):=by omega
    simp only[go_sem,e2]
   ·obtain rfl:i=14:=by omega
    simp(disch:=omega)only[go_sem]
    refine ih _ hlt (aJ hp c) ?_
    simp only[go_sem,syncD]
 ·obtain rfl:j=8:=by omega
  simp(disch:=omega)only[go_sem]
  exact⟨8,Nat.le_refl _,rfl,rfl,.inl rfl,hp⟩
end
theorem wq(a:Img)(d s:Nat)(name:Str)(n:Nat)(d' s':Nat):(addName a d s name n).ent d' s'=if(d=d'/\s=s')/\d'<3/\s'<4 then⟨name,n,(a.ino n).stamp⟩else a.ent d' s':=by
 rw[addName,ji,kG]
section
variable{cx:Cx}{h:HP}{n:Nat}{B:Bd}
theorem AC{x:SStep}(hl:HL cx)(hB:h.look (.obj n)=some ⟨tBed,B.enc⟩)
  (hw:WF B.now) (h1:x.name.size<=9223372036854775807) (h2:x.to.size<=9223372036854775807) (h3:x.text.size<=9223372036854775807):
  Ok dH cx Fn.an (St.enter [.ptr (.obj n) [] tBed,x.enc] h) fun v h'=>v=.int .i64 (doC B.fl x)/\h'=h.ob n tBed (Bd.enc {B with now:=(doF B.fl x).now,stamp:=(doF B.fl x).stamp}):=by
 rw[aE]
 have same:h.ob n tBed (Bd.enc ⟨B.now,B.disk,B.stamp,B.crashes,B.files,B.counts,B.datas⟩)=h:=eJ hB
 simp(disch:=omega)only[go_sem]
 refine am rfl ⟨rfl,rfl⟩ (by simp only[go_sem];exact nO h1 h2 h3) ?_
 simp(disch:=omega)only[go_sem]
 by_cases c0:co x=0
 rotate_left
 ·simp(disch:=omega)only[go_sem,c0]
  simp[doC,doF,c0,Bd.fl,same]
 obtain⟨⟨k1,k6⟩,⟨d0,d3⟩,hn,hto,hp,htx⟩:=e8 c0
 simp(disch:=omega)only[go_sem,c0]
 refine am rfl ⟨rfl,rfl⟩ (by simp only[go_sem];exact upE (up (gc (m:=B.now) (p:=.obj n) (q:=[0]) (ar _ _) (by rw[HP.push_rd_ext (ar _ _)];exact uf hB)))) ?_
 simp(disch:=omega)only[go_sem]
 by_cases c1:x.kind=1
 ·simp(disch:=omega)only[go_sem,c1]
  by_cases c2:0<=cr B.now x.dir x.name
  ·simp(disch:=omega)only[go_sem,c2]
   simp[doC,doF,iG,c0,c1,c2,Bd.fl,same]
  simp(disch:=omega)only[go_sem,c2]
  refine am rfl ⟨rfl,rfl⟩ (by simp only[go_sem];exact sf (B:=B) (by simp only[go_sem,hB])) ?_
  simp(disch:=omega)only[go_sem]
  rcases jH B.now B.disk with e|⟨i,i8,e,_⟩
  ·simp(disch:=omega)only[go_sem,e]
   simp[doC,doF,iG,c0,c1,c2,e,Bd.fl,same]
  have i0:¬(i:Int)<0:=by omega
  simp(disch:=omega)only[go_sem,e,i0]
  refine am rfl ⟨rfl,rfl⟩ (by simp only[go_sem];exact qH (B:=B) (by simp only[go_sem,hB])) ?_
  simp(disch:=omega)only[go_sem]
  rcases iZ B.now B.disk x.dir x.name with e2|⟨k,k4,e2,_,_,_,_,sd⟩
  ·simp(disch:=omega)only[go_sem,e2]
   simp[doC,doF,iG,c0,c1,c2,e,i0,e2,Bd.fl,same]
  have k0:¬(k:Int)<0:=by omega
  have k0':(0:Int)<=k:=by omega
  have ef:dN B.now B.disk x.dir=k:=by rw[←e2,room,if_neg (by omega)]
  simp(disch:=omega)only[go_sem,e2,k0',hB,cN (hl _)]
  refine am rfl ⟨rfl,rfl⟩ (by simp only[go_sem];exact upE (up (iL))) ?_
  simp(disch:=omega)only[go_sem,hB,cN (hl _),i8]
  rw[dX,dX]
  have add:=fun(cy:Cx) (hy:∀n,cy.prot.lets (.obj n)=true) (o:Own)=>ug (cx:=cy) (h:=(h.ob n tBed (Bd.enc ⟨B.now.setIno i (km (IntKind.i64.wrap (B.stamp+1))),B.disk,IntKind.i64.wrap (B.stamp+1),B.crashes,B.files,B.counts,B.datas⟩)).push cx.lvl o) (n:=n) (B:=⟨B.now.setIno i (km (IntKind.i64.wrap (B.stamp+1))),B.disk,IntKind.i64.wrap (B.stamp+1),B.crashes,B.files,B.counts,B.datas⟩) (d:=x.dir) (s:=x.name) (i:=i) (k:=k) hy (by simp only[go_sem,]) k4 ef d0 d3 i8
  simp only[go_sem]at add
  refine bK (v:=.tup .unit) (h.ob n tBed (Bd.enc ⟨addName (B.now.setIno i (km (IntKind.i64.wrap (B.stamp+1)))) x.dir.toNat k x.name i,B.disk,IntKind.i64.wrap (B.stamp+1),B.crashes,B.files,B.counts,B.datas⟩)) rfl ⟨rfl,rfl⟩ rfl (by simp only[go_sem];exact add _ (by exact hl) _) ?_
  simp(disch:=omega)only[go_sem]
  simp[doC,doF,iG,gB,c0,c1,c2,e,i0,e2,k0,Bd.fl]
 simp(disch:=omega)only[go_sem,c1]
 rcases dW B.now x.dir x.name with e|⟨s,s4,e,_,_,hnm,hne⟩
 ·simp(disch:=omega)only[go_sem,e]
  simp[doC,doF,c0,c1,e,Bd.fl,same]
 have s0:¬(s:Int)<0:=by omega
 have i0:=(hw.1 x.dir.toNat s).1
 have i8:=(hw.1 x.dir.toNat s).2
 have n8:(B.now.ent x.dir.toNat s).ino.toNat<8:=by omega
 have ni:(((B.now.ent x.dir.toNat s).ino.toNat:Nat):Int)=(B.now.ent x.dir.toNat s).ino:=by omega
 simp(disch:=omega)only[go_sem,e,s0,hB]
 by_cases c2:x.kind=2
 ·simp(disch:=omega)only[go_sem,c2,hB]
  refine am rfl ⟨rfl,rfl⟩ (by simp only[go_sem];exact upE (up (gc (m:=B.now) (p:=.obj n) (q:=[0]) (ar _ _) (by rw[HP.push_rd_ext (ar _ _)];exact uf hB)))) ?_
  simp(disch:=omega)only[go_sem]
  by_cases cs:0<=cr B.now x.toDir x.to
  ·simp(disch:=omega)only[go_sem,cs]
   simp[doC,doF,eG,c0,c1,c2,e,s0,cs,Bd.fl,same]
  simp(disch:=omega)only[go_sem,cs]
  refine am rfl ⟨rfl,rfl⟩ (by simp only[go_sem];exact qH (B:=B) (by simp only[go_sem,hB])) ?_
  simp(disch:=omega)only[go_sem]
  rcases iZ B.now B.disk x.toDir x.to with e2|⟨k,k4,e2,t0,t3,kn,_,sd⟩
  ·simp(disch:=omega)only[go_sem,e2]
   simp[doC,doF,eG,c0,c1,c2,e,s0,cs,e2,Bd.fl,same]
  have k0:¬(k:Int)<0:=by omega
  have k0':(0:Int)<=k:=by omega
  have ef:dN B.now B.disk x.toDir=k:=by rw[←e2,room,if_neg (by omega)]
  have add:=fun(cy:Cx) (hy:∀n,cy.prot.lets (.obj n)=true) (o:Own)=>ug (cx:=cy) (h:=h.push cx.lvl o) (n:=n) (B:=B) (d:=x.toDir) (s:=x.to) (i:=(B.now.ent x.dir.toNat s).ino.toNat) (k:=k) hy (by simp only[go_sem,hB]) k4 ef t0 t3 n8
  simp only[ni,go_sem]at add
  simp(disch:=omega)only[go_sem,e2,k0',hB]
  refine bK (v:=.tup .unit) (h.ob n tBed (Bd.enc {B with now:=addName B.now x.toDir.toNat k x.to (B.now.ent x.dir.toNat s).ino.toNat})) rfl ⟨rfl,rfl⟩ rfl (by simp only[go_sem];exact add _ (by exact hl) _) ?_
  simp(disch:=omega)only[go_sem,c2]
  simp[doC,doF,eG,enterA,c0,c1,c2,e,s0,cs,e2,k0,Bd.fl]
 by_cases c4:x.kind=4
 ·simp(disch:=omega)only[go_sem,c2,c4,hB]
  refine am rfl ⟨rfl,rfl⟩ (by simp only[go_sem];exact upE (up (gc (m:=B.now) (p:=.obj n) (q:=[0]) (ar _ _) (by rw[HP.push_rd_ext (ar _ _)];exact uf hB)))) ?_
  simp(disch:=omega)only[go_sem]
  by_cases cs:0<=cr B.now x.toDir x.to
  ·simp(disch:=omega)only[go_sem,cs]
   simp[doC,doF,eG,c0,c1,c2,c4,e,s0,cs,Bd.fl,same]
  simp(disch:=omega)only[go_sem,cs]
  refine am rfl ⟨rfl,rfl⟩ (by simp only[go_sem];exact qH (B:=B) (by simp only[go_sem,hB])) ?_
  simp(disch:=omega)only[go_sem]
  rcases iZ B.now B.disk x.toDir x.to with e2|⟨k,k4,e2,t0,t3,kn,_,sd⟩
  ·simp(disch:=omega)only[go_sem,e2]
   simp[doC,doF,eG,c0,c1,c2,c4,e,s0,cs,e2,Bd.fl,same]
  have k0:¬(k:Int)<0:=by omega
  have k0':(0:Int)<=k:=by omega
  have ef:dN B.now B.disk x.toDir=k:=by rw[←e2,room,if_neg (by omega)]
  have add:=fun(cy:Cx) (hy:∀n,cy.prot.lets (.obj n)=true) (o:Own)=>ug (cx:=cy) (h:=h.push cx.lvl o) (n:=n) (B:=B) (d:=x.toDir) (s:=x.to) (i:=(B.now.ent x.dir.toNat s).ino.toNat) (k:=k) hy (by simp only[go_sem,hB]) k4 ef t0 t3 n8
  simp only[ni,go_sem]at add
  simp(disch:=omega)only[go_sem,e2,k0',hB]
  refine bK (v:=.tup .unit) (h.ob n tBed (Bd.enc {B with now:=addName B.now x.toDir.toNat k x.to (B.now.ent x.dir.toNat s).ino.toNat})) rfl ⟨rfl,rfl⟩ rfl (by simp only[go_sem];exact add _ (by exact hl) _) ?_
  have hne2:¬((x.toDir.toNat=x.dir.toNat/\k=s)/\x.dir.toNat<3/\s<4):=by
   rintro⟨⟨e3,e4⟩,_⟩
   rw[e3,e4,hnm]at kn
   exact hne kn
  have same_ent:(addName B.now x.toDir.toNat k x.to (B.now.ent x.dir.toNat s).ino.toNat).ent x.dir.toNat s=B.now.ent x.dir.toNat s:=by rw[wq,if_neg hne2]
  have eF:dropName (addName B.now x.toDir.toNat k x.to (B.now.ent x.dir.toNat s).ino.toNat) x.dir.toNat s=(doF B.fl x).now:=by
   simp[doC,doF,eG,enterA,c0,c1,c2,c4,e,s0,cs,e2,k0,Bd.fl]
  have eS:(doF B.fl x).stamp=B.stamp:=by simp[doC,doF,eG,enterA,c0,c1,c2,c4,e,s0,cs,e2,k0,Bd.fl]
  have eC:doC B.fl x=0:=by simp[doC,doF,eG,enterA,c0,c1,c2,c4,e,s0,cs,e2,k0,Bd.fl]
  rw[eS,eC,←eF,dropName]
  simp only[same_ent]
  generalize addName B.now x.toDir.toNat k x.to (B.now.ent x.dir.toNat s).ino.toNat=A
  simp(disch:=omega)only[go_sem,c2,c4,hB,cN (hl _),n8]
  by_cases cz:IntKind.i64.wrap ((A.ino (B.now.ent x.dir.toNat s).ino.toNat).links-1)=0
  ·simp(disch:=omega)only[go_sem,cz]
   refine am rfl ⟨rfl,rfl⟩ (by simp only[go_sem];exact upE (up (iL))) ?_
   simp(disch:=omega)only[go_sem,hB,cN (hl _),n8,cz,dX]
  ·simp(disch:=omega)only[go_sem,cz,dX]
 by_cases c3:x.kind=3
 ·simp(disch:=omega)only[go_sem,c2,c4,c3,hB,cN (hl _),n8]
  by_cases cz:IntKind.i64.wrap ((B.now.ino (B.now.ent x.dir.toNat s).ino.toNat).links-1)=0
  ·simp(disch:=omega)only[go_sem,cz]
   refine am rfl ⟨rfl,rfl⟩ (by simp only[go_sem];exact upE (up (iL))) ?_
   simp(disch:=omega)only[go_sem,hB,cN (hl _),n8,cz]
   simp[doC,doF,dropName,c0,c1,c2,c3,c4,e,s0,Bd.fl,cz,dX]
  ·simp(disch:=omega)only[go_sem,cz]
   simp[doC,doF,dropName,c0,c1,c2,c3,c4,e,s0,Bd.fl,cz,dX]
 by_cases c5:x.kind=5
 ·have hp0:=(hp (.inl c5)).1
  have hp2:=(hp (.inl c5)).2
  have p2':x.p.toNat<2:=by omega
  have q9:=(hw.2 (B.now.ent x.dir.toNat s).ino.toNat x.p.toNat).2
  simp(disch:=omega)only[go_sem,c2,c4,c3,c5,hB,cN (hl _),n8]
  by_cases cq:(B.now.ino (B.now.ent x.dir.toNat s).ino.toNat).prt x.p.toNat<0
  ·simp(disch:=omega)only[go_sem,cq]
   refine am rfl ⟨rfl,rfl⟩ (by simp only[go_sem];exact uh (B:=B) (by simp only[go_sem,hB])) ?_
   simp(disch:=omega)only[go_sem]
   rcases jI B.now B.disk with ed|⟨k,k9,ed,_⟩
   ·simp(disch:=omega)only[go_sem,ed]
    simp[doC,doF,qh,mG,c0,c1,c2,c3,c4,c5,e,s0,Bd.fl,cq,ed,same]
   ·have k0:¬(k:Int)<0:=by omega
    simp(disch:=omega)only[go_sem,ed,k0,hB,cN (hl _),n8,p2']
    simp[doC,doF,qh,mG,c0,c1,c2,c3,c4,c5,e,s0,Bd.fl,cq,ed,k0]
  ·simp(disch:=omega)only[go_sem,cq,hB,cN (hl _),n8,p2']
   simp[doC,doF,qh,mG,c0,c1,c2,c3,c4,c5,e,s0,Bd.fl,cq]
 have c6:x.kind=6:=by omega
 have hp0:=(hp (.inr c6)).1
 have hp2:=(hp (.inr c6)).2
 simp(disch:=omega)only[go_sem,c2,c4,c3,c5,c6,hB,cN (hl _),n8]
 simp[doC,doF,c0,c1,c2,c3,c4,c5,e,s0,Bd.fl]
end
structure Fr(h h':HP)(S:List Nat):Prop where
 stk:h'.stk=h.stk
 arg:h'.arg=h.arg
 next:h.next<=h'.next
 same:∀n,n<h.next->n∉S->h'.obj n=h.obj n
theorem Fr.refl(h:HP)(S:List Nat):Fr h h S:=⟨rfl,rfl,Nat.le_refl _,fun _ _ _=>rfl⟩
variable{S:List Nat}
theorem Fr.trans{h2:HP}(a:Fr h h1 S)(b:Fr h1 h2 S):Fr h h2 S:=
 ⟨b.stk.trans a.stk,b.arg.trans a.arg,Nat.le_trans a.next b.next,fun n hn hs=>(b.same n (by have:=a.next;omega) hs).trans (a.same n hn hs)⟩
variable{v w:AV}
theorem Fr.ob(hn:n∈S):Fr h (h.ob n t v) S:=
 ⟨rfl,rfl,Nat.le_refl _,fun k _ hs=>n9 fun e=>hs (e▸hn)⟩
theorem Fr.nw:Fr h (h.nw t v) S:=
 ⟨rfl,rfl,Nat.le_succ _,fun k hk _=>by simp[HP.nw,HP.ob,HP.set];omega⟩
theorem Fr.mono{h':HP}{S':List Nat}(a:Fr h h' S)(hs:∀n∈S,n<h.next->n∈S'):Fr h h' S':=
 ⟨a.stk,a.arg,a.next,fun n hn hn'=>a.same n hn fun e=>hn' (hs n e hn)⟩
theorem Fr.look{h':HP}(a:Fr h h' S){b:Option Blk}(hn:n<h.next)(hs:n∉S)(e:h.look (.obj n)=b):h'.look (.obj n)=b:=by
 rw[←e];exact a.same n hn hs
theorem qZ:((h.nw t v).nw u w).look (.obj (h.next+1))=some ⟨u,w⟩:=d7 (h:=h.nw t v)
theorem vQ:((h.nw t v).nw u w).look (.obj h.next)=some ⟨t,v⟩:=by
 rw[fv (by show¬h.next=h.next+1;omega),d7]
theorem FZ{u':Ty}{w':AV}:((h.nw t v).nw u w).ob (h.next+1) u' w'=(h.nw t v).nw u' w':=Km (h:=h.nw t v)
variable{R:AV->HP->Prop}{fn:MFun}{prot:Bool}
section
variable{T:MTb}{cx:Cx}{k:List Item}{kill:List Nat}{r:List MOp}{sl:Slots}{own:Own}{h:HP}{Q:St->Prop}
theorem eY{args:List Opd}{d:Option Nat}(hf:T f=some fn)(hp:fn.params=args.length/\fn.nfree=0)
  (hc:Ok T (St.callCx ⟨sl,own,h⟩ cx prot) fn (St.enter (args.map (St.opd ⟨sl,own,h⟩)) (h.push cx.lvl own)) fun v' h'=>Fr (h.push cx.lvl own) h' S/\R v' h')
  (hR:∀v h1,R v (HP.push h1 cx.lvl own)->R v h1)
  (hq:∀v h1,Fr h h1 S->R v h1->W T cx (.ops r kill::k) (St.setd ⟨sl,own,h1⟩ d v) Q):
  W T cx (.ops (⟨d,.call prot [] f args,none⟩::r) kill::k) ⟨sl,own,h⟩ Q:=by
 refine nN (R:=fun v h1=>Fr h h1 S/\R v h1) hf hp (hc.mono fun v h' e=>?_) fun v h1 e=>hq v h1 e.1 e.2
 obtain⟨e1,e2⟩:=e
 have hh:h'=HP.push ⟨h.stk,h'.obj,h'.next,h'.arg⟩ cx.lvl own:=by
  have:=e1.stk
  cases h'
  simp only at this
  subst this
  rfl
 refine⟨⟨h.stk,h'.obj,h'.next,h'.arg⟩,hh,rfl,⟨rfl,e1.arg,e1.next,e1.same⟩,hR _ _ (hh▸e2)⟩
end
def jS(m:Img):Nat->Int
 |0=>0
 |k+1=>if jS m k<(m.ino k).stamp then(m.ino k).stamp else jS m k
@[go_sem] theorem Ko(k:IntKind)(a b:Int):DL (.int k a) (.int k b)=some (.int k (if a<b then b else a)):=by simp[DL]
@[go_sem] theorem DV(v:Vector Ino 8):(aK.fits (bF Ino.enc v)=true)=True:=pW v
section
variable{cx:Cx}{h:HP}{m:Img}
theorem En:Ok dH cx Fn.ii (St.enter [] h) fun v h'=>v=.ptr (.obj (h.next+1)) [] tFiles/\h'=(h.nw tCache (encC .blank .blank)).nw tFiles (encF h.next 0):=by
 rw[aE]
 simp(disch:=omega)only[go_sem]
 refine bK (v:=.ptr (.obj h.next) [] tCache) (h.nw tCache (encC .blank .blank)) rfl ⟨rfl,rfl⟩ rfl (by simp only[go_sem];exact upE EC) ?_
 simp(disch:=omega)only[go_sem]
theorem Hh(hl:∀n,h.next<=n->cx.prot.lets (.obj n)=true)(hs:m.small)(hc:check m=0):Ok dH cx Fn.du (St.enter [m.enc] h) fun v h'=>
  v=.ptr (.obj (h.next+1)) [] tFiles/\h'=(h.nw tCache (encC m m)).nw tFiles (encF h.next (jS m 8)):=by
 rw[aE]
 simp(disch:=omega)only[go_sem]
 refine bK (v:=.ptr (.obj h.next) [] tCache) (h.nw tCache (encC m m)) rfl ⟨rfl,rfl⟩ rfl (by simp only[go_sem];exact upE (Hr hs hc)) ?_
 simp(disch:=omega)only[go_sem]
 refine fo 8 (fun k=>⟨[(4,.ptr (.obj (h.next+1)) [] tFiles),(15,bF Ino.enc m.inode),(16,.int .i64 k)],[],(h.nw tCache (encC m m)).nw tFiles (encF h.next (jS m k))⟩) (by simp only[go_sem]<;>rfl) fun k hk ih=>?_
 by_cases hlt:k<8
 ·simp(disch:=omega)only[go_sem,hlt,qZ,cN (hl (h.next+1) (by omega)),FZ]
  refine ih _ hlt ?_
  simp only[go_sem,jS]
 ·obtain rfl:k=8:=by omega
  simp(disch:=omega)only[go_sem]
end
def qw(a b:Img):Nat:=if findN 8 (fun k=>decide (a=syncD a b k))<0 then 8 else(findN 8 (fun k=>decide (a=syncD a b k))).toNat
def mA(a b:Img):Img:=syncD a b (qw a b)
theorem uY{a b:Img}{k:Nat}(h8:k<=8)(h:k=8\/a=syncD a b k)(hn:∀i,i<k->¬a=syncD a b i):k=qw a b:=by
 unfold qw
 rcases h with rfl|h
 ·rw[findN_none fun i hi=>by simp[hn i hi]];rfl
 ·by_cases e:k=8
  ·subst e;rw[findN_none fun i hi=>by simp[hn i hi]];rfl
  ·rw[dV (j:=k) (fun i hi=>by simp[hn i hi]) (by simpa using h) (by omega),if_neg (by omega)];simp
structure Lf where
 fl:Fl
 a:Int
 b:Int
 c:Int
 n:Int
def Lf.new:Lf:=⟨⟨.blank,.blank,0⟩,0,0,0,0⟩
def eB(L:Lf)(x:SStep):Int:=
 if x.kind=7 then(if(writeAs L.fl.now L.fl.disk x.p).2=true then 0 else 1)else
 if x.kind=8 then 0 else if x.kind=9 then check L.fl.disk else doC L.fl x
def g9(L:Lf):Lf:=if check L.fl.disk=0 then
  ⟨⟨mended L.fl.disk,mended L.fl.disk,jS (mended L.fl.disk) 8⟩,lostF L.fl.disk 8,lostC L.fl.disk 8,lostD (mendI L.fl.disk 8) 9,IntKind.i64.wrap (L.n+1)⟩else L
def lifeF(L:Lf)(x:SStep):Lf:=
 if x.kind=7 then{L with fl:={L.fl with disk:=(writeAs L.fl.now L.fl.disk x.p).1}}else
 if x.kind=8 then{L with fl:={L.fl with disk:=mA L.fl.now L.fl.disk}}else
 if x.kind=9 then g9 L else{L with fl:=doF L.fl x}
variable{m:Img}
theorem kb(h:m.small){s:Nat}{y:Ent}(hy:y.name.size<=100000):(m.setEnt d s y).small:=fun d' s'=>by
 rw[kG];split
 ·exact hy
 ·exact h d' s'
theorem gK(h:m.small){y:Ino}:(m.setIno n y).small:=h
theorem mY(h:m.small){y:Dat}:(m.setDat n y).small:=h
theorem isName_size(h:cO s=true):s.size<=100000:=by
 simp[cO]at h;omega
theorem mp{a:Img}(h:a.small){s:Nat}{name:Str}(hn:name.size<=100000):(addName a d s name n).small:=gK (kb h hn)
theorem small_dropName{a:Img}(h:a.small){s:Nat}:(dropName a d s).small:=by
 unfold dropName
 dsimp only
 split<;>exact gK (kb h (by decide))
theorem small_enterA{a b:Img}(h:a.small){d:Int}(hn:s.size<=100000):(enterA a b d s n).small:=by
 unfold enterA
 split
 ·exact mp h hn
 ·exact h
theorem zi{F:Fl}(h:F.now.small){x:SStep}:(doF F x).now.small:=by
 unfold doF
 split
 ·exact h
 rename_i hc
 have c0:co x=0:=by
  by_cases e:co x=0
  ·exact e
  ·exfalso;apply hc;simp only[doC];rw[if_pos e];exact e
 obtain⟨⟨k1,k6⟩,_,hn,hto,_⟩:=e8 c0
 split
 ·unfold gB
  split
  ·exact mp (gK h) (isName_size hn)
  ·exact h
 dsimp only
 split
 ·rename_i k2;exact small_enterA h (isName_size (hto (.inl k2)).2)
 split
 ·rename_i k4;exact small_dropName (small_enterA h (isName_size (hto (.inr k4)).2))
 split
 ·exact small_dropName h
 split
 ·unfold mG
  split
  ·split
   ·exact h
   ·exact mY (gK h)
  ·exact mY h
 ·exact gK h
theorem po{a b:Img}(ha:a.small)(hb:b.small)(d:Nat):∀k,(wrDir a b d k).small
 |0=>hb
 |k+1=>by
  have ih:=po ha hb d k
  refine kb ih ?_
  rcases mu a (wrDir a b d k) d k with e|⟨_,e,_⟩|⟨_,e,_⟩<;>rw[e]
  ·exact ih d k
  ·exact ha d k
  ·decide
theorem mo{a b:Img}(ha:a.small)(hb:b.small)(x:Int):(writeAs a b x).1.small:=by
 obtain⟨n,hn,e⟩|⟨n,hn,e⟩|⟨n,hn,e⟩|e:=fH x
 ·rw[lM e];intro d s;show((wrInodes a b n 4).ent d s).name.size<=_;rw[wrInodes_ent];exact hb d s
 ·rw[lN e];exact po ha hb n 4
 ·rw[lO e];exact hb
 ·rw[lL e];exact hb
theorem mX{a b:Img}(ha:a.small)(hb:b.small):∀k,(wrDown a b k).small
 |0=>hb
 |k+1=>mo ha (mX ha hb k) _
theorem pp{a b:Img}(ha:a.small)(hb:b.small):∀k,(syncD a b k).small
 |0=>hb
 |k+1=>mX ha (pp ha hb k) 14
theorem wH(hc:check m=0):WF m:=by
 refine⟨fun d s=>?_,fun n p=>?_⟩
 ·by_cases h:d<3/\s<4
  ·rcases p7 ((iw hc).1 d h.1 s h.2)with e|⟨_,_,_,a4,a5,_⟩
   ·rw[e];exact⟨by decide,by decide⟩
   ·exact⟨a4,a5⟩
  ·have:m.ent d s=Ent.zero:=by simp only[Img.ent];rw[dif_neg h]
   rw[this];exact⟨by decide,by decide⟩
 ·by_cases hn:n<8
  ·by_cases hp:p<2
   ·cases hl:(m.ino n).live with
    |true=>
     have:=vv ((sU hc hn hl).2.2 p hp)
     omega
    |false=>rw[Ae hc hn hl];exact lm p
   ·simp[Ino.prt,hp]
  ·have:m.ino n=Ino.zero:=by simp only[Img.ino];rw[dif_neg hn]
   rw[this]
   by_cases hp:p<2
   ·simp[Ino.prt,Ino.zero,hp]
   ·simp[Ino.prt,hp]
structure Inv0(F:Fl):Prop where
 wf:WF F.now
 sn:F.now.small
 sd:F.disk.small
theorem nI(F:Fl)(x:SStep):(doF F x).disk=F.disk:=by
 unfold doF gB
 split
 ·rfl
 split
 ·split<;>rfl
 dsimp only
 split
 ·rfl
 split
 ·rfl
 split
 ·rfl
 split<;>rfl
theorem Inv0.doF{F:Fl}(h:Inv0 F)(x:SStep):Inv0 (doF F x):=⟨Hc h.wf x,zi h.sn,by rw[nI];exact h.sd⟩
variable{L:Lf}
theorem Inv0.lifeF(h:Inv0 L.fl)(x:SStep):Inv0 (lifeF L x).fl:=by
 unfold Go.Mini.lifeF
 split
 ·exact⟨h.wf,h.sn,mo h.sn h.sd _⟩
 split
 ·exact⟨h.wf,h.sn,pp h.sn h.sd _⟩
 split
 ·unfold g9
  split
  ·rename_i hc
   exact⟨wH (nl hc),kr h.sd,kr h.sd⟩
  ·exact h
 ·exact h.doF x
def encLi(f:Nat)(a b c n:Int):AV:=.cons (.ptr (.obj f) [] tFiles) (.cons (cc a b c) (.cons (.int .i64 n) .unit))
@[go_sem] theorem OG(f:Nat)(a b c n:Int):(encLi f a b c n).at [0]=some (.ptr (.obj f) [] tFiles):=rfl
@[go_sem] theorem OF(f:Nat)(a b c n:Int):(encLi f a b c n).at [1]=some (cc a b c):=rfl
@[go_sem] theorem OE(f:Nat)(a b c n:Int):(encLi f a b c n).at [2]=some (.int .i64 n):=rfl
@[go_sem] theorem Mg(f g:Nat)(a b c n:Int):(encLi f a b c n).put [0] (.ptr (.obj g) [] tFiles)=some (encLi g a b c n):=rfl
@[go_sem] theorem Mf(f:Nat)(a b c n a' b' c':Int):(encLi f a b c n).put [1] (cc a' b' c')=some (encLi f a' b' c' n):=rfl
@[go_sem] theorem Me(f:Nat)(a b c n n':Int):(encLi f a b c n).put [2] (.int .i64 n')=some (encLi f a b c n'):=rfl
@[go_sem] theorem IL:tLife.field 0=some tP:=rfl
@[go_sem] theorem IK:tLife.field 1=some cS:=rfl
@[go_sem] theorem IJ:tLife.field 2=some tI:=rfl
@[go_sem] theorem ML(f:Nat):fill tLife tLife.zero [(0,.ptr (.obj f) [] tFiles)]=some (encLi f 0 0 0 0):=rfl
@[go_sem] theorem DZ(f:Nat)(a b c n:Int):(tLife.fits (encLi f a b c n)=true)=True:=eq_true rfl
section
variable{T:MTb}{cx:Cx}{k:List Item}{kill:List Nat}{r:List MOp}{sl:Slots}{own:Own}{h:HP}{Q:St->Prop}
@[go_sem] theorem LJ{a b c n:Int}:WBX T cx tLife (encLi f a b c n) d r kill k sl own h Q=W T cx (.ops r kill::k) ⟨sl.set d (.ptr (.obj h.next) [] tLife),own,h.nw tLife (encLi f a b c n)⟩ Q:=by
 simp only[WBX,DZ,true_and]
@[go_sem] theorem Jj:W T cx (.ops (⟨some d,.box true tLife x,none⟩::r) kill::k) ⟨sl,own,h⟩ Q=WBX T cx tLife (St.opd ⟨sl,own,h⟩ x) d r kill k sl own h Q:=o5
end
structure LifeAt(h:HP)(p f c:Nat)(L:Lf):Prop where
 li:h.look (.obj p)=some ⟨tLife,encLi f L.a L.b L.c L.n⟩
 fi:h.look (.obj f)=some ⟨tFiles,encF c L.fl.stamp⟩
 ca:h.look (.obj c)=some ⟨tCache,encC L.fl.now L.fl.disk⟩
 pf:¬p=f
 fc:¬f=c
 pc:¬p=c
 pn:p<h.next
 fn:f<h.next
 cn:c<h.next
section
variable{cx:Cx}{h:HP}{p f c:Nat}{L:Lf}{a b:Img}
theorem Ex:Ok dH cx Fn.ik (St.enter [] h) fun v h'=>v=.ptr (.obj (h.next+2)) [] tLife/\h'=((h.nw tCache (encC .blank .blank)).nw tFiles (encF h.next 0)).nw tLife (encLi (h.next+1) 0 0 0 0):=by
 rw[aE]
 simp(disch:=omega)only[go_sem]
 refine bK (v:=.ptr (.obj (h.next+1)) [] tFiles) ((h.nw tCache (encC .blank .blank)).nw tFiles (encF h.next 0)) rfl ⟨rfl,rfl⟩ rfl (by simp only[go_sem];exact En) ?_
 simp(disch:=omega)only[go_sem]
theorem Lc(hl:HL cx)(hC:h.look (.obj c)=some ⟨tCache,encC a b⟩):Ok dH cx Fn.a8 (St.enter [.ptr (.obj c) [] tCache] h) fun v h'=>v=.int .i64 (qw a b)/\h'=h.ob c tCache (encC a (mA a b)):=by
 have:=upE (C3 (h:=h) (n:=c) (a:=a) (b:=b) (hl c))
 rw[Lg,eJ hC]at this
 refine this.mono fun v h' e=>?_
 obtain⟨k,h8,rfl,rfl,hk,hn⟩:=e
 obtain rfl:=uY h8 hk hn
 exact⟨rfl,rfl⟩
theorem GU{x:Int}(hl:HL cx)(hC:h.look (.obj c)=some ⟨tCache,encC a b⟩):Ok dH cx Fn.b7 (St.enter [.ptr (.obj c) [] tCache,.int .i64 x] h) fun v h'=>v=.bool (writeAs a b x).2/\h'=h.ob c tCache (encC a (writeAs a b x).1):=
 upE (tX hC (hl c))
theorem yh(hA:LifeAt h p f c L):Ok dH cx Fn.dy (St.enter [.ptr (.obj p) [] tLife] h) fun v h'=>v=.int .i64 L.n/\h'=h:=by
 rw[aE]
 simp(disch:=omega)only[go_sem,hA.li]
theorem Ev(hA:LifeAt h p f c L):Ok dH cx Fn.dZ (St.enter [.ptr (.obj p) [] tLife] h) fun v h'=>v=cc L.a L.b L.c/\h'=h:=by
 rw[aE]
 simp(disch:=omega)only[go_sem,hA.li]
end
theorem xw(e:p<h.next):((h.nw t v).nw u w).look (.obj p)=h.look (.obj p):=by
 rw[fv (by show¬p=h.next+1;omega),xv e]
theorem vH(hc:check m=0):pD m=mended m:=by simp[pD,hc]
theorem vK(hc:check m=0):pH m=lostF m 8:=by simp[pH,hc]
theorem vJ(hc:check m=0):pG m=lostC m 8:=by simp[pG,hc]
theorem vI(hc:check m=0):pF m=lostD (mendI m 8) 9:=by simp[pF,hc]
def js(h h':HP)(p f c:Nat)(L:Lf):Prop:=∃f' c',LifeAt h' p f' c' L/\((f'=f/\c'=c)\/(h.next<=f'/\h.next<=c'))
variable{o:Own}
theorem LifeAt.pop{c l:Nat}(a:LifeAt (h.push l o) p f c L):LifeAt h p f c L:=⟨a.li,a.fi,a.ca,a.pf,a.fc,a.pc,a.pn,a.fn,a.cn⟩
theorem LifeAt.push{c l:Nat}(a:LifeAt h p f c L):LifeAt (h.push l o) p f c L:=⟨a.li,a.fi,a.ca,a.pf,a.fc,a.pc,a.pn,a.fn,a.cn⟩
theorem js.pop{c l l':Nat}{o':Own}(a:js (h.push l' o') (h1.push l o) p f c L):js h h1 p f c L:=by
 obtain⟨f',c',a,b⟩:=a
 exact⟨f',c',a.pop,b⟩
theorem js.push{c l:Nat}(a:js h h1 p f c L):js (h.push l o) h1 p f c L:=a
section
variable{cx:Cx}{h:HP}{p f c:Nat}{L:Lf}
theorem LifeAt.setFl(hA:LifeAt h p f c L)(F:Fl):LifeAt ((h.ob f tFiles (encF c F.stamp)).ob c tCache (encC F.now F.disk)) p f c {L with fl:=F}:=by
 have h1:=hA.pf
 have h2:=hA.fc
 have h3:=hA.pc
 refine⟨?_,?_,gm,h1,h2,h3,hA.pn,hA.fn,hA.cn⟩
 ·rw[b0 h3,b0 h1];exact hA.li
 ·rw[b0 h2];exact gm
theorem CY:Fr h ((h.ob f tFiles v).ob c tCache w) [p,f,c]:=(Fr.ob (by simp)).trans (Fr.ob (by simp))
theorem LifeAt.setCa(hA:LifeAt h p f c L)(b:Img):LifeAt (h.ob c tCache (encC L.fl.now b)) p f c {L with fl:={L.fl with disk:=b}}:=by
 have:=hA.setFl {L.fl with disk:=b}
 rw[eJ (v:=encF c L.fl.stamp) hA.fi]at this
 exact this
theorem Ca(hl:HL cx)(hA:LifeAt h p f c L)(hs:L.fl.disk.small):
  Ok dH cx Fn.bR (St.enter [.ptr (.obj p) [] tLife] h) fun v h'=>Fr h h' [p,f,c]/\v=.int .i64 (check L.fl.disk)/\js h h' p f c (g9 L):=by
 obtain⟨li,fi,ca,pf,fc,pc,pn,fn,cn⟩:=hA
 rw[aE]
 simp(disch:=omega)only[go_sem,li,fi,ca]
 refine am rfl ⟨rfl,rfl⟩ (by simp only[go_sem];exact yH (a:=L.fl.now) (b:=L.fl.disk) (by simp only[go_sem,ca])) ?_
 simp(disch:=omega)only[go_sem]
 refine am rfl ⟨rfl,rfl⟩ (by simp only[go_sem];exact upE (up (Et hs))) ?_
 simp(disch:=omega)only[go_sem]
 by_cases e:check L.fl.disk=0
 rotate_left
 ·simp(disch:=omega)only[go_sem,e]
  refine⟨Fr.refl _ _,f,c,?_,.inl ⟨rfl,rfl⟩⟩
  have:g9 L=L:=by simp[g9,e]
  rw[this]
  exact⟨li,fi,ca,pf,fc,pc,pn,fn,cn⟩
 rw[vH e,vK e,vJ e,vI e]
 simp(disch:=omega)only[go_sem,e]
 refine bK (v:=.ptr (.obj (h.next+1)) [] tFiles) ((h.nw tCache (encC (mended L.fl.disk) (mended L.fl.disk))).nw tFiles (encF h.next (jS (mended L.fl.disk) 8))) rfl ⟨rfl,rfl⟩ rfl (by simp only[go_sem];exact Hh (fun n hn=>decide_eq_true hn) (kr hs) (nl e)) ?_
 have d1:¬h.next+1=p:=by omega
 have d2:¬h.next=p:=by omega
 simp(disch:=omega)only[go_sem,cN (hl p),xw pn,li]
 have hc:g9 L=⟨⟨mended L.fl.disk,mended L.fl.disk,jS (mended L.fl.disk) 8⟩,lostF L.fl.disk 8,lostC L.fl.disk 8,lostD (mendI L.fl.disk 8) 9,IntKind.i64.wrap (L.n+1)⟩:=by simp[g9,e]
 refine⟨(Fr.nw.trans Fr.nw).trans (Fr.ob (by simp)),?_⟩
 rw[hc]
 refine⟨h.next+1,h.next,?_,.inr ⟨by omega,Nat.le_refl _⟩⟩
 constructor<;>try dsimp only
 ·exact gm
 ·rw[b0 d1];exact qZ
 ·rw[b0 d2];exact vQ
 ·omega
 ·omega
 ·omega
 ·show p<h.next+1+1;omega
 ·show h.next+1<h.next+1+1;omega
 ·show h.next<h.next+1+1;omega
theorem CP{x:SStep}(hl:HL cx)(hA:LifeAt h p f c L)(hi:Inv0 L.fl)(h1:x.name.size<=9223372036854775807)(h2:x.to.size<=9223372036854775807)(h3:x.text.size<=9223372036854775807):
  Ok dH cx Fn.aS (St.enter [.ptr (.obj p) [] tLife,x.enc] h) fun v h'=>Fr h h' [p,f,c]/\v=.int .i64 (eB L x)/\js h h' p f c (lifeF L x):=by
 obtain⟨li,fi,ca,pf,fc,pc,pn,fn,cn⟩:=id hA
 rw[aE]
 simp(disch:=omega)only[go_sem]
 by_cases c7:x.kind=7
 ·simp(disch:=omega)only[go_sem,c7,li,fi,ca]
  refine bK (v:=.bool (writeAs L.fl.now L.fl.disk x.p).2) (h.ob c tCache (encC L.fl.now (writeAs L.fl.now L.fl.disk x.p).1)) rfl ⟨rfl,rfl⟩ rfl (by simp only[go_sem];exact GU (by exact hl) (by simp only[go_sem,ca])) ?_
  simp(disch:=omega)only[go_sem]
  have fin:js h (h.ob c tCache (encC L.fl.now (writeAs L.fl.now L.fl.disk x.p).1)) p f c (lifeF L x):=by
   have:lifeF L x={L with fl:={L.fl with disk:=(writeAs L.fl.now L.fl.disk x.p).1}}:=by simp[lifeF,c7]
   rw[this]
   exact⟨f,c,hA.setCa _,.inl ⟨rfl,rfl⟩⟩
  cases cw:(writeAs L.fl.now L.fl.disk x.p).2 with
  |true=>
   simp(disch:=omega)only[go_sem,cw]
   exact⟨Fr.ob (by simp),by simp[eB,c7,cw],fin⟩
  |false=>
   simp(disch:=omega)only[go_sem,cw]
   exact⟨Fr.ob (by simp),by simp[eB,c7,cw],fin⟩
 by_cases c8:x.kind=8
 ·simp(disch:=omega)only[go_sem,c7,c8,li,fi,ca]
  refine bK (v:=.int .i64 (qw L.fl.now L.fl.disk)) (h.ob c tCache (encC L.fl.now (mA L.fl.now L.fl.disk))) rfl ⟨rfl,rfl⟩ rfl (by simp only[go_sem];exact Lc (by exact hl) (by simp only[go_sem,ca])) ?_
  simp(disch:=omega)only[go_sem]
  refine⟨Fr.ob (by simp),by simp[eB,c7,c8],?_⟩
  have:lifeF L x={L with fl:={L.fl with disk:=mA L.fl.now L.fl.disk}}:=by simp[lifeF,c7,c8]
  rw[this]
  exact⟨f,c,hA.setCa _,.inl ⟨rfl,rfl⟩⟩
 by_cases c9:x.kind=9
 ·simp(disch:=omega)only[go_sem,c7,c8,c9]
  refine eY (S:=[p,f,c]) (R:=fun v h'=>v=.int .i64 (check L.fl.disk)/\js (h.push cx.lvl [(3,{ty:=aD,val:=x.enc})]) h' p f c (g9 L)) rfl ⟨rfl,rfl⟩ (by
   simp only[go_sem]
   exact Ca (L:=L) (f:=f) (c:=c) (by exact hl) ⟨li,fi,ca,pf,fc,pc,pn,fn,cn⟩ hi.sd) (fun v h1 e=>⟨e.1,e.2.pop.push⟩) ?_
  rintro v h' hF ⟨rfl,hT⟩
  simp(disch:=omega)only[go_sem]
  refine⟨hF,by simp[eB,c7,c8,c9],?_⟩
  have:lifeF L x=g9 L:=by simp[lifeF,c7,c8,c9]
  rw[this];exact hT
 simp(disch:=omega)only[go_sem,c7,c8,c9,li,fi,ca]
 refine bK (v:=.int .i64 (doC L.fl x)) ((h.ob f tFiles (encF c (doF L.fl x).stamp)).ob c tCache (encC (doF L.fl x).now L.fl.disk)) rfl ⟨rfl,rfl⟩ rfl (by simp only[go_sem];exact LQ (by exact hl) (by simp only[go_sem,fi]) (by simp only[go_sem,ca]) fc hi.wf h1 h2 h3) ?_
 simp(disch:=omega)only[go_sem]
 refine⟨CY,by simp[eB,c7,c8,c9],?_⟩
 have:lifeF L x={L with fl:=doF L.fl x}:=by simp[lifeF,c7,c8,c9]
 rw[this]
 refine⟨f,c,?_,.inl ⟨rfl,rfl⟩⟩
 have:=hA.setFl (doF L.fl x)
 rwa[nI]at this
end
def sLt(a b:Str):Bool:=Op.bytesLess a.toList b.toList
theorem rG:∀l:List UInt8,Op.bytesLess l l=false
 | []=>rfl
 |a::l=>by simp[Op.bytesLess,rG l]
theorem tE:∀l m:List UInt8,Op.bytesLess l m=true->Op.bytesLess m l=false
 |_,[],h=>by simp[Op.bytesLess]at h
 | [],b::m,_=>rfl
 |a::l,b::m,h=>by
  simp only[Op.bytesLess,Bool.or_eq_true,Bool.and_eq_true,decide_eq_true_eq,beq_iff_eq]at h
  simp only[Op.bytesLess,Bool.or_eq_false_iff,decide_eq_false_iff_not]
  rcases h with h|⟨rfl,h⟩
  ·refine⟨fun e=>absurd (UInt8.lt_trans h e) (UInt8.lt_irrefl _),?_⟩
   have:¬b=a:=fun e=>by subst e;exact absurd h (UInt8.lt_irrefl _)
   simp[this]
  ·exact⟨UInt8.lt_irrefl _,by simp[tE l m h]⟩
theorem tD:∀l m:List UInt8,Op.bytesLess l m=false->Op.bytesLess m l=false->l=m
 | [],[],_,_=>rfl
 | [],_::_,h,_=>by simp[Op.bytesLess]at h
 |_::_,[],_,h=>by simp[Op.bytesLess]at h
 |a::l,b::m,h,k=>by
  simp only[Op.bytesLess,Bool.or_eq_false_iff,decide_eq_false_iff_not]at h k
  have e:a=b:=by
   have h1:=h.1;have k1:=k.1
   rw[UInt8.lt_iff_toNat_lt]at h1 k1
   exact UInt8.toNat_inj.1 (by omega)
  subst e
  simp at h k
  rw[tD l m h k]
theorem tC:∀l m n:List UInt8,Op.bytesLess l m=true->Op.bytesLess m n=true->Op.bytesLess l n=true
 |_,[],_,h,_=>by simp[Op.bytesLess]at h
 |_,_::_,[],_,h=>by simp[Op.bytesLess]at h
 | [],_::_,_::_,_,_=>rfl
 |a::l,b::m,c::n,h,k=>by
  simp only[Op.bytesLess,Bool.or_eq_true,Bool.and_eq_true,decide_eq_true_eq,beq_iff_eq]at h k⊢
  rcases h with h|⟨rfl,h⟩
  ·rcases k with k|⟨rfl,k⟩
   ·exact .inl (UInt8.lt_trans h k)
   ·exact .inl h
  ·rcases k with k|⟨rfl,k⟩
   ·exact .inl k
   ·exact .inr ⟨rfl,tC l m n h k⟩
theorem xa:a.toList=b.toList↔a=b:=by
 constructor
 ·intro h
  rw[kJ,kJ]at h
  cases a;cases b
  simp only[ByteArray.mk.injEq]
  exact Array.toList_inj.1 h
 ·rintro rfl;rfl
theorem xe(a:Str):sLt a a=false:=rG _
theorem sA(h:sLt a b=true):sLt b a=false:=tE _ _ h
theorem zt{c:Str}(h:sLt a b=true)(k:sLt b c=true):sLt a c=true:=tC _ _ _ h k
theorem sy(h:sLt a b=false)(k:sLt b a=false):a=b:=xa.1 (tD _ _ h k)
def sLe(a b:Str):Bool:=!sLt b a
theorem nW{c:Str}(h:sLe a b=true)(k:sLe b c=true):sLe a c=true:=by
 simp only[sLe,Bool.not_eq_true']at h k⊢
 cases e:sLt c a with
 |false=>rfl
 |true=>
  cases e2:sLt b c with
  |true=>rw[zt e2 e]at h;exact h
  |false=>
   have:b=c:=sy e2 k
   subst this
   rw[e]at h;exact h
theorem uc(h:sLe a b=true)(k:sLe b a=true):a=b:=by
 simp only[sLe,Bool.not_eq_true']at h k
 exact sy k h
def Sorted(l:List Str):Prop:=l.Pairwise fun a b=>sLe a b=true
theorem mn:∀{l m:List Str},Sorted l->Sorted m->l.Perm m->l=m
 | [],m,_,_,p=>(List.Perm.nil_eq p)
 |a::l,[],_,_,p=>absurd p.length_eq (by simp)
 |a::l,b::m,hl,hm,p=>by
  have e:a=b:=by
   have ha:a∈b::m:=p.subset List.mem_cons_self
   have hb:b∈a::l:=p.symm.subset List.mem_cons_self
   rcases List.mem_cons.1 ha with e|ha
   ·exact e
   ·rcases List.mem_cons.1 hb with e|hb
    ·exact e.symm
    ·exact uc ((List.pairwise_cons.1 hl).1 b hb) ((List.pairwise_cons.1 hm).1 a ha)
  subst e
  rw[mn (List.pairwise_cons.1 hl).2 (List.pairwise_cons.1 hm).2 (List.Perm.cons_inv p)]
def encS(l:List Str):AV:=.ofList (l.map AV.str)
theorem fm(l:List Str):(encS l).toList=some (l.map AV.str):=by
 simp only[encS,AV.ofList,AV.toList]
 congr 1
 exact List.ext_getElem (by simp) (by simp)
theorem iW(l:List Str)(h:n=l.length):(Ty.arr n tS).fits (encS l)=true:=by
 subst h
 simp[encS,AV.ofList,Ty.fits,tS,LK.fits,AV.safe]
def txt(l:List Str)(i:Nat):Str:=l.getD i ⟨#[]⟩
@[go_sem] theorem M2(l:List Str)(h:i<l.length):(encS l).at [i]=some (.str (txt l i)):=by
 simp[encS,AV.ofList,AV.at,h,txt]
theorem Dp(l:List Str)(i:Nat)(s:Str)(j:Nat):txt (l.set i s) j=if j=i/\i<l.length then s else txt l j:=by
 simp only[txt,List.getD_eq_getElem?_getD,List.getElem?_set]
 by_cases e:i=j
 ·subst e
  by_cases h:i<l.length
  ·simp[h]
  ·simp[h]
 ·have:¬j=i:=fun h=>e h.symm
  simp[e,this]
variable{l ws:List Str}
theorem qk(h:i<l.length):txt l i=l[i]:=by simp[txt,h]
theorem xV{f:Fin n->AV}{l:List AV}(hl:l.length=n)(h:∀i (hi:i<n),f ⟨i,hi⟩=l[i]'(by omega)):AV.arr n f=AV.ofList l:=by
 subst hl
 simp only[AV.ofList]
 congr 1
 funext i
 exact h i.val i.isLt
@[go_sem] theorem K8(l:List Str)(h:i<l.length)(s:Str):(encS l).put [i] (.str s)=some (encS (l.set i s)):=by
 simp only[encS,AV.ofList,AV.put,List.length_map,h,dite_true,Option.map_some]
 congr 1
 refine xV (by simp) fun j hj=>?_
 simp only[List.get_eq_getElem,List.getElem_map,List.getElem_set]
 by_cases e:j=i
 ·subst e;simp
 ·have:¬i=j:=fun h=>e h.symm
  simp[e,this]
def rB(a b:Str):Int:=if sLt a b=true then -1 else if a=b then 0 else 1
theorem yM(a b:Str):(rB a b<0)↔sLt a b=true:=by
 unfold rB
 split
 ·simp[*]
 ·rename_i h1
  have h2:sLt a b=false:=by simpa using h1
  split<;>simp[h2]
@[go_sem] theorem IV(a b:Str):evStr .lss a b=some (.bool (sLt a b)):=rfl
@[go_sem] theorem IW(a b:Str):evStr .gtr a b=some (.bool (!(sLt a b||decide (a=b)))):=by
 show some (AV.bool (!(Op.bytesLess a.toList b.toList||a.toList==b.toList)))=_
 rw[rE];rfl
variable{kk:IntKind}{z:Int}
section
variable{T:MTb}{cx:Cx}{k:List Item}{kill:List Nat}{r:List MOp}{sl:Slots}{own:Own}{h:HP}{Q:St->Prop}
@[go_sem] theorem zj{j:Id}{off len:Nat}{L:Id->Option Blk}(h0:0<=z)(hm:z<len):qB t (.sl j off len) (.int kk z) L=sw t j (off+z.toNat) (L j):=by
 simp only[qB,toIx];rw[if_pos ⟨by omega,by omega⟩]
@[go_sem] theorem FD(p:Nat):((p:Int)+1).toNat=p+1:=by omega
theorem rK{args:List Opd}{d:Option Nat}(hx:St.opd ⟨sl,own,h⟩ x=.func f .unit)(hf:T f=some fn)(hp:fn.params=args.length/\fn.nfree=0)
  (hc:Ok T (St.callCx ⟨sl,own,h⟩ cx prot) fn (St.enter (args.map (St.opd ⟨sl,own,h⟩)) (h.push cx.lvl own)) fun v' h'=>v'=v/\h'=h.push cx.lvl own)
  (hq:W T cx (.ops r kill::k) (St.setd ⟨sl,own,h⟩ d v) Q):
  W T cx (.ops (⟨d,.callv prot [] x args,none⟩::r) kill::k) ⟨sl,own,h⟩ Q:=by
 refine uB (R:=fun v' h'=>v'=v/\h'=h.push cx.lvl own) (cx':=St.callCx ⟨sl,own,h⟩ cx prot) (hide:=[]) (e:=St.enter (args.map (St.opd ⟨sl,own,h⟩)) (h.push cx.lvl own)) (fn:=fn) (d:=d) (k1:=.ops r kill::k) (s1:=⟨sl,own,h⟩) ?_ hc ?_
 ·simp only[next,St.wanted,opCmd,hx,enterCmd,hf,gt,List.length_map,List.length_nil,List.append_nil,qo]
  rw[if_pos hp]
 ·rintro v' h' ⟨rfl,rfl⟩
  rw[qN];exact hq
end
structure PermIn(l m:List Str)(a b:Nat):Prop where
 perm:m.Perm l
 out:∀i,(i<a\/b<=i)->txt m i=txt l i
theorem PermIn.refl(l:List Str)(a b:Nat):PermIn l l a b:=⟨List.Perm.refl _,fun _ _=>rfl⟩
theorem PermIn.len{m:List Str}{a b:Nat}(h:PermIn l m a b):m.length=l.length:=h.perm.length_eq
theorem PermIn.trans{m n:List Str}{a b:Nat}(h:PermIn l m a b)(k:PermIn m n a b):PermIn l n a b:=⟨k.perm.trans h.perm,fun i hi=>(k.out i hi).trans (h.out i hi)⟩
def pg(l:List Str)(i j:Nat):List Str:=(l.set i (txt l j)).set j (txt l i)
theorem uP(hi:i<l.length)(hj:j<l.length)(x:Nat):txt (pg l i j) x=if x=j then txt l i else if x=i then txt l j else txt l x:=by
 simp only[pg,Dp,List.length_set,hi,hj,and_true]
theorem ze(hi:i<l.length)(hj:j<l.length):(pg l i j).Perm l:=by
 rw[pg,qk hi,qk hj]
 exact List.set_set_perm hi hj
theorem PermIn.swap{a b:Nat}(hi:i<l.length)(hj:j<l.length)(h1:a<=i/\i<b)(h2:a<=j/\j<b):PermIn l (pg l i j) a b:=
 ⟨ze hi hj,fun x hx=>by
  rw[uP hi hj,if_neg (by omega),if_neg (by omega)]⟩
def j0(l:List Str)(a b:Nat):Prop:=∀x y,a<=x->x<y->y<b->sLe (txt l x) (txt l y)=true
def jr(l:List Str)(a i j:Nat):Prop:=(∀x y,a<=x->x<y->y<=i->¬x=j->¬y=j->sLe (txt l x) (txt l y)=true)/\∀y,j<y->y<=i->sLe (txt l j) (txt l y)=true
theorem sB(h:sLt a b=true):sLe a b=true:=by simp[sLe,sA h]
theorem jr.start{a:Nat}(h:j0 l a i):jr l a i i:=⟨fun x y hx hy hi hxi hyi=>h x y hx hy (by omega),fun y h1 h2=>by omega⟩
theorem jr.step{a:Nat}(h:jr l a i (j+1))(hj:a<=j)(hi:j+1<=i)(hl:i<l.length)(hlt:sLt (txt l (j+1)) (txt l j)=true):jr (pg l (j+1) j) a i j:=by
 have ts:=uP (l:=l) (i:=j+1) (j:=j) (by omega) (by omega)
 refine⟨fun x y hx hxy hyi hxj hyj=>?_,fun y hy hyi=>?_⟩
 ·rw[ts x,ts y,if_neg hxj,if_neg hyj]
  by_cases e1:x=j+1
  ·rw[if_pos e1,if_neg (by omega)]
   exact h.1 j y hj (by omega) hyi (by omega) (by omega)
  ·rw[if_neg e1]
   by_cases e2:y=j+1
   ·rw[if_pos e2]
    exact h.1 x j hx (by omega) (by omega) (by omega) (by omega)
   ·rw[if_neg e2]
    exact h.1 x y hx hxy hyi (by omega) (by omega)
 ·rw[ts j,ts y,if_pos rfl,if_neg (by omega)]
  by_cases e2:y=j+1
  ·rw[if_pos e2];exact sB hlt
  ·rw[if_neg e2];exact h.2 y (by omega) hyi
theorem jr.low{a:Nat}(h:jr l a i a):j0 l a (i+1):=fun x y hx hxy hy=>by
 by_cases e:x=a
 ·subst e;exact h.2 y hxy (by omega)
 ·exact h.1 x y hx hxy (by omega) e (by omega)
theorem jr.rest{a:Nat}(h:jr l a i (j+1))(hj:a<=j)(hge:sLt (txt l (j+1)) (txt l j)=false):j0 l a (i+1):=fun x y hx hxy hy=>by
 have hle:sLe (txt l j) (txt l (j+1))=true:=by simp[sLe,hge]
 by_cases e:x=j+1
 ·subst e;exact h.2 y hxy (by omega)
 ·by_cases e2:y=j+1
  ·subst e2
   by_cases e3:x=j
   ·subst e3;exact hle
   ·by_cases e4:j<=i
    ·exact nW (h.1 x j hx (by omega) e4 e (by omega)) hle
    ·omega
  ·exact h.1 x y hx hxy (by omega) e e2
section
variable{cx:Cx}{h:HP}
theorem vV:Ok dH cx Fn.gG (St.enter [.str a] h) fun v h'=>v=.bool false/\h'=h:=by
 rw[aE]
 simp(disch:=omega)only[go_sem]
theorem yk:Ok dH cx Fn.bB (St.enter [.str a,.str b] h) fun v h'=>v=.int .i64 (rB a b)/\h'=h:=by
 rw[aE]
 simp(disch:=omega)only[go_sem]
 refine am rfl ⟨rfl,rfl⟩ (by simp only[go_sem];exact vV) ?_
 simp(disch:=omega)only[go_sem]
 refine am rfl ⟨rfl,rfl⟩ (by simp only[go_sem];exact vV) ?_
 simp(disch:=omega)only[go_sem]
 cases c1:sLt a b with
 |true=>simp(disch:=omega)only[go_sem,c1];simp[rB,c1]
 |false=>
  simp(disch:=omega)only[go_sem,c1]
  by_cases c2:a=b
  ·simp(disch:=omega)only[go_sem,c2]
   simp[rB,xe]
  ·simp(disch:=omega)only[go_sem,c2]
   simp[rB,c1,c2]
theorem CM:Ok dH cx Fn.dv (St.enter [.str a,.str b] h) fun v h'=>v=.int .i64 (rB a b)/\h'=h:=by
 rw[aE]
 simp(disch:=omega)only[go_sem]
 refine am rfl ⟨rfl,rfl⟩ (by simp only[go_sem];exact yk) ?_
 simp(disch:=omega)only[go_sem]
def yX(F:Nat):Prop:=∃fn:MFun,dH F=some fn/\(fn.params=2/\fn.nfree=0)/\∀(cx:Cx) (h:HP) (a b:Str),Ok dH cx fn (St.enter [.str a,.str b] h) fun v h'=>v=.int .i64 (rB a b)/\h'=h
theorem Bx:yX 289:=⟨_,rfl,⟨rfl,rfl⟩,fun _ _ _ _=>CM⟩
theorem xC{a b:Nat}(hl:HL cx)(hF:yX F)(hn:l.length=n)(hb:b<=n)(hn2:n<=1000000)(hab:a<=b)(hq:h.look (.obj q)=some ⟨.arr n tS,encS l⟩):
  Ok dH cx Fn.aB (St.enter [.sl (.obj q) 0 n,.int .i64 a,.int .i64 b,.func F .unit] h) fun v h'=>v=.tup .unit/\∃m,h'=h.ob q (.arr n tS) (encS m)/\PermIn l m a b/\j0 m a b:=by
 obtain⟨fn,hf1,hf2,hf3⟩:=hF
 rw[aE]
 simp(disch:=omega)only[go_sem]
 have h0:h.ob q (.arr n tS) (encS l)=h:=eJ hq
 refine gv (α:=List Str) (b-a) (fun k m=>⟨[(0,.sl (.obj q) 0 n),(1,.int .i64 a),(2,.int .i64 b),(3,.func F .unit),(8,.int .i64 (a+1+k:Nat))],[],h.ob q (.arr n tS) (encS m)⟩) (fun k m=>PermIn l m a b/\j0 m a (a+1+k)) l (by simp only[go_sem,h0]<;>rfl) ⟨PermIn.refl _ _ _,fun x y h1 h2 h3=>by omega⟩ fun k m hk hp ih=>?_
 obtain⟨hp,hs⟩:=hp
 have hm:=hp.len
 by_cases hlt:a+1+k<b
 ·simp(disch:=omega)only[go_sem,hlt]
  refine gv (α:=List Str) (k+1) (fun j m=>⟨[(0,.sl (.obj q) 0 n),(1,.int .i64 a),(2,.int .i64 b),(3,.func F .unit),(8,.int .i64 (a+1+k:Nat)),(9,.int .i64 ((a+1+k-j:Nat):Int))],[],h.ob q (.arr n tS) (encS m)⟩) (fun j m=>PermIn l m a b/\jr m a (a+1+k) (a+1+k-j)) m (by simp only[go_sem]<;>rfl) ⟨hp,jr.start hs⟩ fun j m hj hp ih2=>?_
  obtain⟨hp,hs⟩:=hp
  have hm:=hp.len
  by_cases hj2:j<k+1
  ·obtain⟨p,hpd⟩:∃p,a+k-j=p:=⟨_,rfl⟩
   have e1:a+1+k-j=p+1:=by omega
   rw[e1]at hs⊢
   have e2:((p:Int)+1-1)=(p:Int):=by omega
   simp(maxSteps:=999999) (disch:=first|omega|(simp only[List.length_set];omega))only[go_sem,e2]
   refine rK (v:=.int .i64 (rB (txt m (p+1)) (txt m p))) (by simp only[go_sem]<;>rfl) hf1 hf2 (by simp only[go_sem];exact hf3 _ _ _ _) ?_
   simp(maxSteps:=999999) (disch:=first|omega|(simp only[List.length_set];omega))only[go_sem]
   cases c:sLt (txt m (p+1)) (txt m p)with
   |true=>
    have c':rB (txt m (p+1)) (txt m p)<0:=(yM _ _).2 c
    simp(maxSteps:=999999) (disch:=first|omega|(simp only[List.length_set];omega))only[go_sem,c',e2,cN (hl _)]
    refine ih2 _ (pg m (p+1) p) hj2 ?_ ⟨hp.trans (PermIn.swap (by omega) (by omega) (by omega) (by omega)),?_⟩
    ·have e3:a+1+k-(j+1)=p:=by omega
     simp only[go_sem,e3,pg]
    ·have e3:a+1+k-(j+1)=p:=by omega
     rw[e3]
     exact hs.step (by omega) (by omega) (by omega) c
   |false=>
    have c':¬rB (txt m (p+1)) (txt m p)<0:=fun e=>by rw[yM,c]at e;simp at e
    simp(maxSteps:=999999) (disch:=first|omega|(simp only[List.length_set];omega))only[go_sem,c']
    refine ih _ m (by omega) ?_ ⟨hp,?_⟩
    ·simp only[go_sem,Int.add_assoc]
    ·exact hs.rest (by omega) c
  ·obtain rfl:j=k+1:=by omega
   have e1:a+1+k-(k+1)=a:=by omega
   rw[e1]at hs⊢
   simp(maxSteps:=999999) (disch:=first|omega|(simp only[List.length_set];omega))only[go_sem]
   refine ih _ m (by omega) ?_ ⟨hp,?_⟩
   ·simp only[go_sem,Int.add_assoc]
   ·exact hs.low
 ·simp(maxSteps:=999999) (disch:=first|omega|(simp only[List.length_set];omega))only[go_sem,hlt]
  refine⟨m,rfl,hp,fun x y h1 h2 h3=>hs x y h1 h2 (by omega)⟩
def oq:Str:=Lib.len8tab
theorem xz{x:Nat}(hx:x<256):∃c:UInt8,oq[x]?=some c/\c.toNat<=8:=by
 have h:∀x:Fin 256,∃c:UInt8,oq[x.val]?=some c/\c.toNat<=8:=by
  have:∀x:Fin 256,(match oq[x.val]? with|some c=>decide (c.toNat<=8)|none=>false)=true:=by decide+kernel
  intro x
  have:=this x
  cases e:oq[x.val]? with
  |none=>rw[e]at this;simp at this
  |some c=>rw[e]at this;exact⟨c,rfl,by simpa using this⟩
 exact h ⟨x,hx⟩
theorem CO{x:Nat}(hx:x<256):Ok dH cx Fn.aV (St.enter [.int .u64 x] h) fun v h'=>(∃z:Int,0<=z/\z<=8/\v=.int .i64 z)/\h'=h:=by
 obtain⟨c,hc,hc8⟩:=xz hx
 have e1:IntKind.u8.wrap (x:Int)=x:=by
  have e1:(IntKind.u8).bits=8:=rfl
  have e2:(IntKind.u8).signed=false:=rfl
  have p1:(2:Int)^8=256:=rfl
  simp only[IntKind.wrap,e1,e2,Bool.false_and,Bool.false_eq_true,if_false,p1]
  omega
 have e2:ia (.str oq) (.int .u8 (x:Int))=some (.int .u8 c.toNat):=by
  simp only[ia,toIx,Int.toNat_natCast,hc,Option.map_some]
  rw[if_pos (by omega)]
 have e3:IntKind.i64.wrap (c.toNat:Int)=c.toNat:=wrap64 (by omega) (by omega)
 rw[aE]
 rw[oq]at e2
 simp(disch:=omega)only[go_sem,e1,e2,e3]
 exact⟨_,by omega,by omega,rfl⟩
theorem CN{x:Nat}(hx:x<256):Ok dH cx Fn.dL (St.enter [.int .u64 x] h) fun v h'=>(∃z:Int,0<=z/\z<=8/\v=.int .i64 z)/\h'=h:=by
 rw[aE]
 simp(disch:=omega)only[go_sem]
 refine lJ (P:=fun v=>∃z:Int,0<=z/\z<=8/\v=.int .i64 z) h rfl ⟨rfl,rfl⟩ rfl (by simp only[go_sem];exact CO hx) ?_
 rintro v ⟨z,z0,z8,rfl⟩
 simp(disch:=omega)only[go_sem]
 exact⟨_,z0,z8,rfl⟩
def iE(l:List Str):List Str:=l.mergeSort sLe
theorem t8(l:List Str):Sorted (iE l):=List.pairwise_mergeSort (le:=sLe) (fun a b c=>nW) (fun a b=>by
 cases e:sLt b a with
 |false=>simp[sLe,e]
 |true=>simp[sLe,sA e]) l
theorem ka(l:List Str):(iE l).Perm l:=List.mergeSort_perm l sLe
theorem zh{m:List Str}(h:j0 m 0 m.length):Sorted m:=by
 rw[Sorted,List.pairwise_iff_getElem]
 intro i j hi hj hij
 have:=h i j (Nat.zero_le _) hij hj
 rwa[qk hi,qk hj]at this
theorem vf{m:List Str}(hp:m.Perm l)(hs:Sorted m):m=iE l:=mn hs (t8 l) (hp.trans (ka l).symm)
theorem zG(hl:HL cx)(hF:yX F)(hn:l.length<=12)(hq:h.look (.obj q)=some ⟨.arr l.length tS,encS l⟩)(z:Int):
  Ok dH cx Fn.ai (St.enter [.sl (.obj q) 0 l.length,.int .i64 0,.int .i64 l.length,.int .i64 z,.func F .unit] h) fun v h'=>v=.tup .unit/\h'=h.ob q (.arr l.length tS) (encS (iE l)):=by
 rw[aE]
 simp(disch:=omega)only[go_sem,eR]
 refine nN (R:=fun v h1=>v=.tup .unit/\h1=h.ob q (.arr l.length tS) (encS (iE l))) rfl ⟨rfl,rfl⟩ (by
  simp only[go_sem]
  refine Ok.mono (xC (q:=q) (n:=l.length) (a:=0) (b:=l.length) (l:=l) (by exact hl) hF rfl (Nat.le_refl _) (by omega) (Nat.zero_le _) (by simp only[go_sem,hq])) ?_
  rintro v h' ⟨rfl,m,rfl,hp,hs⟩
  have em:=vf hp.perm (zh (by rw[hp.len];exact hs))
  subst em
  exact⟨_,DG,rfl,rfl,rfl⟩) ?_
 rintro v h1 ⟨rfl,rfl⟩
 simp(disch:=omega)only[go_sem]
theorem El(hl:HL cx)(hF:yX F)(hn:l.length<=12)(hq:h.look (.obj q)=some ⟨.arr l.length tS,encS l⟩):
  Ok dH cx Fn.dF (St.enter [.sl (.obj q) 0 l.length,.func F .unit] h) fun v h'=>v=.tup .unit/\h'=h.ob q (.arr l.length tS) (encS (iE l)):=by
 have e1:IntKind.u64.wrap (l.length:Int)=l.length:=by
  have e1:(IntKind.u64).bits=64:=rfl
  have e2:(IntKind.u64).signed=false:=rfl
  have p1:(2:Int)^64=18446744073709551616:=rfl
  simp only[IntKind.wrap,e1,e2,Bool.false_and,Bool.false_eq_true,if_false,p1]
  omega
 rw[aE]
 simp(disch:=omega)only[go_sem,e1]
 refine lJ (P:=fun v=>∃z:Int,0<=z/\z<=8/\v=.int .i64 z) h rfl ⟨rfl,rfl⟩ rfl (by simp only[go_sem];exact CN (x:=l.length) (by omega)) ?_
 rintro v ⟨z,z0,z8,rfl⟩
 simp(disch:=omega)only[go_sem]
 refine bK (v:=.tup .unit) (h.ob q (.arr l.length tS) (encS (iE l))) rfl ⟨rfl,rfl⟩ rfl (by simp only[go_sem];exact zG (by exact hl) hF hn (by simp only[go_sem,hq]) z) ?_
 simp(disch:=omega)only[go_sem]
theorem zU:Ok dH cx Fn.aB (St.enter [.nilsl,.int .i64 0,.int .i64 0,.func F .unit] h) fun v h'=>v=.tup .unit/\h'=h:=by
 rw[aE]
 simp(disch:=omega)only[go_sem,eR]
theorem zH:Ok dH cx Fn.ai (St.enter [.nilsl,.int .i64 0,.int .i64 0,.int .i64 z,.func F .unit] h) fun v h'=>v=.tup .unit/\h'=h:=by
 rw[aE]
 simp(disch:=omega)only[go_sem,eR]
 refine am rfl ⟨rfl,rfl⟩ (by simp only[go_sem];exact zU) ?_
 simp(disch:=omega)only[go_sem]
theorem yc:Ok dH cx Fn.dF (St.enter [.nilsl,.func F .unit] h) fun v h'=>v=.tup .unit/\h'=h:=by
 have e1:IntKind.u64.wrap 0=((0:Nat):Int):=by decide+kernel
 rw[aE]
 simp(disch:=omega)only[go_sem,e1]
 refine lJ (P:=fun v=>∃z:Int,0<=z/\z<=8/\v=.int .i64 z) h rfl ⟨rfl,rfl⟩ rfl (by simp only[go_sem];exact CN (x:=0) (by omega)) ?_
 rintro v ⟨z,z0,z8,rfl⟩
 simp(disch:=omega)only[go_sem]
 refine am rfl ⟨rfl,rfl⟩ (by simp only[go_sem];exact zH) ?_
 simp(disch:=omega)only[go_sem]
end
def namesL(a:Img)(d:Nat):Nat->List Str
 |0=>[]
 |k+1=>if(a.ent d k).name=⟨#[]⟩then namesL a d k else namesL a d k++[(a.ent d k).name]
theorem kp(a:Img)(d:Nat):∀k,(namesL a d k).length<=k
 |0=>Nat.le_refl _
 |k+1=>by
  have:=kp a d k
  unfold namesL
  split
  ·omega
  ·simp;omega
def listOf(a:Img)(d:Int):List Str:=if d<0\/3<=d then[]else iE (namesL a d.toNat 4)
def HP.dl(h:HP)(q:Nat):HP:={h with obj:=fun k=>if k=q then none else h.obj k}
theorem Fr.dl(a:Fr h h1 S)(hq:h.next<=q):Fr h (h1.dl q) S:=
 ⟨a.stk,a.arg,a.next,fun n hn hs=>by
  show(if n=q then none else h1.obj n)=_
  rw[if_neg (by omega)];exact a.same n hn hs⟩
def SlF(h h1:HP)(v:AV)(l:List Str):Prop:=(v=.nilsl/\l=[])\/∃q,v=.sl (.obj q) 0 l.length/\h.next<=q/\q<h1.next/\h1.look (.obj q)=some ⟨.arr l.length tS,encS l⟩
section
variable{T:MTb}{cx:Cx}{k:List Item}{kill:List Nat}{r:List MOp}{sl:Slots}{own:Own}{h:HP}{Q:St->Prop}
def WBs(T:MTb)(cx:Cx)(v:AV)(d:Nat)(r:List MOp)(kill:List Nat)(k:List Item)(sl:Slots)(own:Own)(h:HP)(Q:St->Prop):Prop:=
 onO (fill (.arr 1 tS) (Ty.arr 1 tS).zero [(0,v)]) fun w=>W T cx (.ops r kill::k) ⟨(Slots.forget sl (.stk cx.lvl d)).set d (.sl (.stk cx.lvl d) 0 1),own.set d ⟨.arr 1 tS,w⟩,h⟩ Q
theorem fill1s(s:Str):fill (.arr 1 tS) (Ty.arr 1 tS).zero [(0,.str s)]=some (encS [s]):=by
 simp only[fill,Ty.part,Nat.lt_one_iff,if_true,DU,Ty.zero,AV.put,Nat.zero_lt_one,dite_true,gl,Option.map_some,encS,AV.ofList]
 congr 2
 funext j
 match j with
 |⟨0,_⟩=>rfl
@[go_sem] theorem NC:WBs T cx (.str s) d r kill k sl own h Q=W T cx (.ops r kill::k) ⟨(Slots.forget sl (.stk cx.lvl d)).set d (.sl (.stk cx.lvl d) 0 1),own.set d ⟨.arr 1 tS,encS [s]⟩,h⟩ Q:=by
 simp only[WBs,fill1s,onO]
@[go_sem] theorem G8:W T cx (.ops (⟨some d,.bslice false tS 1 [(0,x)],none⟩::r) kill::k) ⟨sl,own,h⟩ Q=WBs T cx (St.opd ⟨sl,own,h⟩ x) d r kill k sl own h Q:=by
 rw[gW rfl,evOp]
 simp only[evK,WBs,List.map_cons,List.map_nil]
 cases fill (.arr 1 tS) (Ty.arr 1 tS).zero [(0,St.opd ⟨sl,own,h⟩ x)]<;>rfl
def WAs(T:MTb)(cx:Cx)(x:AV)(add:Option (List AV))(d:Nat)(r:List MOp)(kill:List Nat)(k:List Item)(sl:Slots)(own:Own)(h:HP)(Q:St->Prop):Prop:=
 onO add fun add=>onO (evAppend (St.look cx ⟨sl,own,h⟩) tS x add) fun e=>onO (ax cx (some d) true ⟨sl,own,h⟩ e) fun p=>W T cx (.ops r kill::k) (p.2.setd (some d) p.1) Q
def ur(b:Option Blk)(len:Nat):Option (List AV):=match b with
 |some ⟨.arr _ t',v⟩=>match v.toList with
   |some l=>if tS=t'/\len<=l.length then some (l.take len)else none
   |none=>none
 |_=>none
@[go_sem] theorem Ja(L:Id->Option Blk)(j:Id)(len:Nat):elems L tS (.sl j 0 len)=ur (L j) len:=by
 simp only[elems,ur,Nat.zero_add,List.drop_zero]
 cases L j with
 |none=>rfl
 |some b=>obtain⟨bt,bv⟩:=b;cases bt<;>rfl
@[go_sem] theorem GS(s:Str):ur (some ⟨.arr 1 tS,encS [s]⟩) 1=some [.str s]:=by
 simp[ur,fm]
@[go_sem] theorem Jm:W T cx (.ops (⟨some d,.append true [] tS x y,none⟩::r) kill::k) ⟨sl,own,h⟩ Q=WAs T cx (St.opd ⟨sl,own,h⟩ x) (elems (St.look cx ⟨sl,own,h⟩) tS (St.opd ⟨sl,own,h⟩ y)) d r kill k sl own h Q:=by
 rw[gW rfl,evOp]
 simp only[evK,WAs]
 cases elems (St.look cx ⟨sl,own,h⟩) tS (St.opd ⟨sl,own,h⟩ y)with
 |none=>rfl
 |some add=>
  simp only[cE]
  cases evAppend (St.look cx ⟨sl,own,h⟩) tS (St.opd ⟨sl,own,h⟩ x) add<;>rfl
@[go_sem] theorem NF:WAs T cx .nilsl (some [.str s]) d r kill k sl own h Q=
  W T cx (.ops r kill::k) ⟨sl.set d (.sl (.obj h.next) 0 1),own,h.nw (.arr 1 tS) (encS [s])⟩ Q:=by
 have hf:=iW [s] (n:=1) rfl
 simp only[WAs,cE,evAppend,List.length_cons,List.length_nil,Nat.zero_add]
 rw[if_neg (by omega),if_pos ⟨hf,by omega⟩]
 rfl
theorem rO(hl:cx.prot.lets (.obj q)=true)(hq:h.look (.obj q)=some ⟨.arr l.length tS,encS l⟩)(hm:l.length+1<=1048576):WAs T cx (.sl (.obj q) 0 l.length) (some [.str s]) d r kill k sl own h Q=
  W T cx (.ops r kill::k) ⟨sl.set d (.sl (.obj h.next) 0 (l++[s]).length),own,(h.dl q).nw (.arr (l++[s]).length tS) (encS (l++[s]))⟩ Q:=by
 have hf:=iW (l++[s]) (n:=l.length+1) (by simp)
 have e:List.map AV.str (l++[s])=(List.map AV.str l).take l.length++[.str s]:=by
  rw[List.map_append,List.take_of_length_le (by simp)];rfl
 have el:(l++[s]).length=l.length+1:=by simp
 simp only[encS,e]at hf⊢
 simp only[WAs,cE,evAppend,no,hq,fm,List.length_map,List.length_cons,List.length_nil,Nat.zero_add,List.drop_zero,if_true]
 rw[if_neg (by omega),if_pos (by omega),if_pos ⟨hf,hm⟩]
 simp only[cE,ax,St.drop,Id.own,hl,if_true,Option.map_some,el]
 rfl
end
section
variable{cx:Cx}{h:HP}{f c:Nat}{a b:Img}{st:Int}
theorem Ew{d:Int}(hl:HL cx)(hF:h.look (.obj f)=some ⟨tFiles,encF c st⟩)(hC:h.look (.obj c)=some ⟨tCache,encC a b⟩):
  Ok dH cx Fn.aO (St.enter [.ptr (.obj f) [] tFiles,.int .i64 d] h) fun v h'=>Fr h h' []/\SlF h h' v (listOf a d):=by
 rw[aE]
 simp(disch:=omega)only[go_sem]
 by_cases c0:d<0
 ·simp(disch:=omega)only[go_sem,c0]
  exact⟨Fr.refl _ _,.inl ⟨rfl,by simp[listOf,c0]⟩⟩
 by_cases c3:3<=d
 ·simp(disch:=omega)only[go_sem,c0,c3]
  exact⟨Fr.refl _ _,.inl ⟨rfl,by simp[listOf,c3]⟩⟩
 have d3:d.toNat<3:=by omega
 have eL:listOf a d=iE (namesL a d.toNat 4):=by simp only[listOf];rw[if_neg (by omega)]
 simp(disch:=omega)only[go_sem,c0,c3,hF,hC]
 refine gv (α:=AV×HP) 4 (fun k p=>⟨[(5,p.1),(23,bF Ent.enc a.dir[d.toNat]),(24,.int .i64 k)],[],p.2⟩) (fun k p=>Fr h p.2 []/\SlF h p.2 p.1 (namesL a d.toNat k)) (.nilsl,h) (by simp only[go_sem]<;>rfl) ⟨Fr.refl _ _,.inl ⟨rfl,rfl⟩⟩ fun k p hk hp ih=>?_
 obtain⟨v,h1⟩:=p
 obtain⟨hr,hs⟩:=hp
 simp only at hr hs⊢
 have hlen:=kp a d.toNat k
 by_cases hlt:k<4
 ·by_cases ce:(a.ent d.toNat k).name=⟨#[]⟩
  ·have en:namesL a d.toNat (k+1)=namesL a d.toNat k:=by simp[namesL,ce]
   rcases hs with⟨rfl,hl0⟩|⟨q,rfl,hq1,hq2,hq3⟩
   ·simp(disch:=omega)only[go_sem,hlt,ce]
    refine ih _ (.nilsl,h1) hlt ?_ ⟨hr,by rw[en];exact .inl ⟨rfl,hl0⟩⟩
    simp only[go_sem]
   ·simp(disch:=omega)only[go_sem,hlt,ce]
    refine ih _ (.sl (.obj q) 0 (namesL a d.toNat k).length,h1) hlt ?_ ⟨hr,by rw[en];exact .inr ⟨q,rfl,hq1,hq2,hq3⟩⟩
    simp only[go_sem]
  ·have en:namesL a d.toNat (k+1)=namesL a d.toNat k++[(a.ent d.toNat k).name]:=by simp[namesL,ce]
   rcases hs with⟨rfl,hl0⟩|⟨q,rfl,hq1,hq2,hq3⟩
   ·simp(disch:=omega)only[go_sem,hlt,ce]
    refine ih _ (.sl (.obj h1.next) 0 1,h1.nw (.arr 1 tS) (encS [(a.ent d.toNat k).name])) hlt ?_ ⟨hr.trans Fr.nw,?_⟩
    ·simp only[go_sem]
    ·rw[en,hl0]
     exact .inr ⟨h1.next,rfl,hr.next,Nat.lt_succ_self _,d7⟩
   ·simp(disch:=omega)only[go_sem,hlt,ce]
    rw[rO (hl q) hq3 (by omega)]
    simp(disch:=omega)only[go_sem]
    refine ih _ (.sl (.obj h1.next) 0 (namesL a d.toNat k++[(a.ent d.toNat k).name]).length,(h1.dl q).nw (.arr (namesL a d.toNat k++[(a.ent d.toNat k).name]).length tS) (encS (namesL a d.toNat k++[(a.ent d.toNat k).name]))) hlt ?_ ⟨(hr.dl hq1).trans Fr.nw,?_⟩
    ·simp only[go_sem]
    ·rw[en]
     exact .inr ⟨h1.next,rfl,hr.next,Nat.lt_succ_self _,d7 (h:=h1.dl q)⟩
 ·obtain rfl:k=4:=by omega
  rcases hs with⟨rfl,hl0⟩|⟨q,rfl,hq1,hq2,hq3⟩
  ·simp(disch:=omega)only[go_sem]
   refine am rfl ⟨rfl,rfl⟩ (by simp only[go_sem];exact yc) ?_
   simp(disch:=omega)only[go_sem]
   refine⟨hr,.inl ⟨rfl,?_⟩⟩
   rw[eL,hl0];simp[iE]
  ·have ls:(iE (namesL a d.toNat 4)).length=(namesL a d.toNat 4).length:=(ka _).length_eq
   simp(disch:=omega)only[go_sem]
   refine bK (v:=.tup .unit) (h1.ob q (.arr (namesL a d.toNat 4).length tS) (encS (iE (namesL a d.toNat 4)))) rfl ⟨rfl,rfl⟩ rfl (by simp only[go_sem];exact El (by exact hl) Bx (by omega) (by simp only[go_sem,hq3])) ?_
   simp(disch:=omega)only[go_sem]
   refine⟨⟨hr.stk,hr.arg,hr.next,fun n hn hs=>by rw[n9 (by omega)];exact hr.same n hn hs⟩,.inr ⟨q,?_,hq1,hq2,?_⟩⟩
   ·rw[eL,ls]
   ·rw[eL,ls];exact gm
end
structure SStep.ok(x:SStep):Prop where
 name:x.name.size<=9223372036854775807
 to:x.to.size<=9223372036854775807
 text:x.text.size<=9223372036854775807
@[go_sem] theorem Gr(k:Int):fill aD aD.zero [(0,.int .i64 k)]=some (SStep.enc ⟨k,0,0,0,⟨#[]⟩,⟨#[]⟩,⟨#[]⟩⟩):=rfl
@[go_sem] theorem Gq(k:Int)(s:Str):fill aD aD.zero [(0,.int .i64 k),(4,.str s)]=some (SStep.enc ⟨k,0,0,0,s,⟨#[]⟩,⟨#[]⟩⟩):=rfl
@[go_sem] theorem Gp(k p:Int):fill aD aD.zero [(0,.int .i64 k),(3,.int .i64 p)]=some (SStep.enc ⟨k,0,0,p,⟨#[]⟩,⟨#[]⟩,⟨#[]⟩⟩):=rfl
@[go_sem] theorem Gw(a:Int):fill cS (cc 0 0 0) [(0,.int .i64 a)]=some (cc a 0 0):=rfl
theorem DR:Inv0 Lf.new.fl:=⟨wH (by decide+kernel),vg (by decide+kernel),vg (by decide+kernel)⟩
noncomputable def EG:List (Option MFun):=jG EH (List.replicate 200 none++Jz)
noncomputable def lc(f:Nat):Option MFun:=EG.getD f none
theorem Ju(i:Nat)(fn:MFun)(h:dH i=some fn):lc i=some fn:=fu _ _ _ _ h
variable{cx:Cx}
theorem upT{e:St}(h:Ok dH cx fn e R):Ok lc cx fn e R:=by
 obtain⟨n,s',v,hr,hv,hR⟩:=h
 exact⟨n,s',v,m9 Ju hr,hv,hR⟩
section
variable{T:MTb}{cx:Cx}{k:List Item}{kill:List Nat}{r:List MOp}{sl:Slots}{own:Own}{h:HP}{Q:St->Prop}
def nT(x:AV)(lo:Option Int)(hi:Nat->Option Int):Option AV:=match x with
 | .str b=>f7 b lo (hi b.size)
 |_=>none
@[go_sem] theorem FL(b:ByteArray)(lo:Option Int)(hi:Nat->Option Int):nT (.str b) lo hi=f7 b lo (hi b.size):=rfl
theorem uA{d:Option Nat}{lo hi:Option Opd}{s:St}:W T cx (.ops (⟨d,.strsl x lo hi,none⟩::r) kill::k) s Q=W1 T cx (nT (s.opd x) (ixOr s.opd lo 0) (fun n=>ixOr s.opd hi n)) d r kill k s Q:=
 gg rfl (by simp only[evK,nT];cases s.opd x<;>rfl)
@[go_sem] theorem Ly{d:Option Nat}{a b:Opd}{s:St}:W T cx (.ops (⟨d,.strsl x (some a) (some b),none⟩::r) kill::k) s Q=W1 T cx (nT (s.opd x) (toIx (s.opd a)) (fun _=>toIx (s.opd b))) d r kill k s Q:=uA
@[go_sem] theorem Lz{d:Option Nat}{a:Opd}{s:St}:W T cx (.ops (⟨d,.strsl x (some a) none,none⟩::r) kill::k) s Q=W1 T cx (nT (s.opd x) (toIx (s.opd a)) (fun n=>some (n:Int))) d r kill k s Q:=uA
@[go_sem] theorem LA{d:Option Nat}{b:Opd}{s:St}:W T cx (.ops (⟨d,.strsl x none (some b),none⟩::r) kill::k) s Q=W1 T cx (nT (s.opd x) (some 0) (fun _=>toIx (s.opd b))) d r kill k s Q:=uA
@[go_sem] theorem Hv(kk:IntKind)(n:Int):toIx (.int kk n)=some n:=rfl
@[go_sem] theorem jf{b:ByteArray}{a c:Int}(h0:0<=a)(h1:a<=c)(h2:c<=(b.size:Int)):f7 b (some a) (some c)=some (.str (b.extract a.toNat c.toNat)):=by
 simp only[f7];rw[if_pos ⟨h0,h1,h2⟩]
def k7(o:Option (List AV)):Option AV:=match o with
 |some l=>(bytesOf l).map fun b=>.str ⟨b.toArray⟩
 |none=>none
@[go_sem] theorem Nn{d:Option Nat}{s:St}:W T cx (.ops (⟨d,.tostr x,none⟩::r) kill::k) s Q=W1 T cx (k7 (elems (s.look cx) (.leaf (.int .u8)) (s.opd x))) d r kill k s Q:=
 gg rfl (by
  simp only[evK,k7]
  cases elems (s.look cx) (.leaf (.int .u8)) (s.opd x)with
  |none=>rfl
  |some l=>simp only;cases bytesOf l<;>rfl)
def yD(neg:Bool)(x y:AV):Option AV:=match x,y with
 | .iface b,.iface false=>some (.bool (if neg then b else !b))
 |_,_=>none
@[go_sem] theorem K3(b:Bool):yD true (.iface b) (.iface false)=some (.bool b):=rfl
@[go_sem] theorem K4(b:Bool):yD false (.iface b) (.iface false)=some (.bool !b):=rfl
@[go_sem] theorem OT{d:Option Nat}{neg:Bool}{s:St}:W T cx (.ops (⟨d,.eqif neg x y,none⟩::r) kill::k) s Q=W1 T cx (yD neg (s.opd x) (s.opd y)) d r kill k s Q:=
 gg rfl (by
  simp only[evK,yD]
  cases s.opd x<;>try rfl
  cases s.opd y<;>try rfl
  rename_i b c
  cases c<;>rfl)
def jL(o:Option AV):Option AV:=match o with
 |some v=>if v.safe=true then some v else none
 |none=>none
@[go_sem] theorem HD(b:ByteArray):jL (some (.str b))=some (.str b):=rfl
@[go_sem] theorem HE(kk:IntKind)(n:Int):jL (some (.int kk n))=some (.int kk n):=rfl
@[go_sem] theorem EL(b:Bool):jL (some (.iface b))=some (.iface b):=rfl
@[go_sem] theorem OO{d:Option Nat}{f:List AV->Option AV}{xs:List Opd}{s:St}:W T cx (.ops (⟨d,.prim f xs,none⟩::r) kill::k) s Q=W1 T cx (jL (f (xs.map s.opd))) d r kill k s Q:=
 gg rfl (by
  simp only[evK,jL]
  cases f (xs.map s.opd)with
  |none=>rfl
  |some v=>simp only;split<;>rfl)
end
def bsL(l:List UInt8):Str:=⟨l.toArray⟩
theorem xT(a b:List UInt8):bsL a++bsL b=bsL (a++b):=by
 apply ByteArray.ext
 simp[bsL]
theorem dm(a:List UInt8):(bsL a).size=a.length:=by simp[bsL,ByteArray.size]
theorem xS(s:Str):bsL s.data.toList=s:=by cases s;rfl
def DT:Str:=⟨#[48,49,50,51,52,53,54,55,56,57,97,98,99,100,101,102]⟩
variable{c:UInt8}
section
variable{cx:Cx}{h:HP}
theorem jY(hj:j<s.data.toList.length):byteAt s j=(s.data.toList[j]).toNat:=by
 simp only[byteAt]
 rw[Array.getD_eq_getD_getElem?]
 simp at hj
 simp[hj]
theorem pZ(hj:j<s.data.toList.length):s.extract j (j+1)=bsL [s.data.toList[j]]:=by
 apply ByteArray.ext
 apply Array.ext
 ·simp at hj;simp[bsL];omega
 ·intro i h1 h2
  simp[bsL]at h2
  subst h2
  simp[bsL]
theorem DS(hn:n<16):DT.extract n (n+1)=bsL [jt n]:=by
 match n,hn with
 |0,_|1,_|2,_|3,_|4,_|5,_|6,_|7,_|8,_|9,_|10,_|11,_|12,_|13,_|14,_|15,_=>rfl
 |n+16,h=>exact absurd h (by omega)
theorem oW(s:Str)(j:Nat):byteAt s j<256:=(s.data.getD j 0).toNat_lt
theorem kc{l:List UInt8}(hj:j<l.length):bS (l.take (j+1))=bS (l.take j)++show1 l[j]:=by
 rw[List.take_add_one,List.getElem?_eq_getElem hj]
 simp only[bS,List.flatMap_append,List.cons_append,Option.toList_some,List.flatMap_cons,List.flatMap_nil,List.append_nil]
theorem kf(l:List UInt8):(bS l).length<=3*l.length+1:=by
 induction l with
 |nil=>simp[bS]
 |cons c l ih=>
  simp only[bS,List.length_cons,List.flatMap_cons,List.length_append]at ih⊢
  have:(show1 c).length<=3:=by unfold show1;split<;>simp
  omega
@[go_sem] theorem Fp{x:Int}(h0:0<=x)(h1:x<256):evInt .quo .i64 x 16=some (.int .i64 (x/16)):=by
 simp only[evInt]
 rw[if_neg (by decide),Int.tdiv_eq_ediv_of_nonneg h0]
 rw[wrap64 (by omega) (by omega)]
@[go_sem] theorem Fo{x:Int}(h0:0<=x)(h1:x<256):evInt .rem .i64 x 16=some (.int .i64 (x%16)):=by
 simp only[evInt]
 rw[if_neg (by decide),Int.tmod_eq_emod_of_nonneg h0]
theorem zf(hj:j<s.data.toList.length):f7 s (some (j:Int)) (some ((j:Int)+1))=some (.str (bsL [s.data.toList[j]])):=by
 have hs:j<s.size:=by simpa using hj
 rw[jf (by omega) (by omega) (by omega),Int.toNat_natCast,show((j:Int)+1).toNat=j+1 by omega,pZ hj]
@[go_sem] theorem Hw{x:Int}(h0:0<=x)(h1:x<16):f7 DT (some x) (some (x+1))=some (.str (bsL [jt x.toNat])):=by
 have hs:DT.size=16:=rfl
 rw[jf h0 (by omega) (by omega),show(x+1).toNat=x.toNat+1 by omega,DS (by omega)]
theorem cD{a b:List UInt8}(h:a.length+b.length<=1000000000):evStr .add (bsL a) (bsL b)=some (.str (bsL (a++b))):=by
 have hm:IntKind.i64.max=9223372036854775807:=by decide
 simp only[evStr]
 rw[if_neg (by rw[dm,dm,hm];omega),xT]
@[go_sem] theorem Ci{a:List UInt8}(h:a.length<=1000000):evStr .add (bsL a) (bsL [c])=some (.str (bsL (a++[c]))):=cD (by simp;omega)
@[go_sem] theorem Lw{a:List UInt8}{x y z:UInt8}(h:a.length<=1000000):evStr .add (bsL a) (bsL [x,y,z])=some (.str (bsL (a++[x,y,z]))):=cD (by simp;omega)
@[go_sem] theorem Lx:evStr .add ⟨#[92]⟩ (bsL [c])=some (.str (bsL [92,c])):=cD (a:=[92]) (by simp)
@[go_sem] theorem Jf{b:UInt8}:evStr .add (bsL [92,b]) (bsL [c])=some (.str (bsL [92,b,c])):=cD (by simp)
theorem rQ(hs:s.size<=100000):Ok lc cx Fn.dg (St.enter [.str s] h) fun v h'=>v=.str (bsL (bS s.data.toList))/\h'=h:=by
 rw[aE]
 simp(disch:=omega)only[go_sem]
 refine cm s.size (fun j=>⟨[(0,.str s),(3,.str DT),(4,.str (bsL (bS (s.data.toList.take j)))),(5,.int .i64 j)],[],h⟩) (fun _=>True) (by simp only[go_sem]<;>rfl) trivial fun j hj _ ih=>?_
 by_cases hlt:j<s.size
 ·have hl:j<s.data.toList.length:=by simpa using hlt
  have hb:=oW s j
  have hbe:=jY hl
  have hsz:(bS (s.data.toList.take j)).length<=300001:=by
   have:=kf (s.data.toList.take j)
   simp only[List.length_take]at this
   omega
  have fin1:(33<=byteAt s j/\byteAt s j<=126/\byteAt s j≠92)->bS (s.data.toList.take (j+1))=bS (s.data.toList.take j)++[s.data.toList[j]]:=by
   intro hc
   rw[kc hl,show1,←hbe,if_pos hc]
  have fin2:¬(33<=byteAt s j/\byteAt s j<=126/\byteAt s j≠92)->bS (s.data.toList.take (j+1))=bS (s.data.toList.take j)++[92,jt ((byteAt s j:Int)/16).toNat,jt ((byteAt s j:Int)%16).toNat]:=by
   intro hc
   rw[kc hl,show1,←hbe,if_neg hc,show((byteAt s j:Int)/16).toNat=byteAt s j/16 by omega,show((byteAt s j:Int)%16).toNat=byteAt s j%16 by omega]
  by_cases h1:33<=byteAt s j
  ·by_cases h2:byteAt s j<=126
   ·by_cases h3:byteAt s j=92
    ·have f:=fin2 (by omega)
     simp(disch:=omega)only[go_sem,hlt,h1,h2,h3]
     refine ih _ hlt trivial ?_
     simp only[go_sem,f,h3]
    ·have f:=fin1 (by omega)
     simp(disch:=omega)only[go_sem,hlt,h1,h2,h3,zf hl]
     refine ih _ hlt trivial ?_
     simp only[go_sem,f]
   ·have f:=fin2 (by omega)
    simp(disch:=omega)only[go_sem,hlt,h1,h2]
    refine ih _ hlt trivial ?_
    simp only[go_sem,f]
  ·have f:=fin2 (by omega)
   simp(disch:=omega)only[go_sem,hlt,h1]
   refine ih _ hlt trivial ?_
   simp only[go_sem,f]
 ·obtain rfl:j=s.size:=by omega
  simp(disch:=omega)only[go_sem]
  rw[List.take_of_length_le (by simp)]
end
def encU(l:List Int):AV:=.ofList (l.map (AV.int .u8))
theorem jz(l:List Int):(encU l).toList=some (l.map (AV.int .u8)):=by
 simp only[encU,AV.ofList,AV.toList]
 congr 1
 exact List.ext_getElem (by simp) (by simp)
theorem jX(l:List Int)(h:n=l.length):(Ty.arr n tU8).fits (encU l)=true:=by
 subst h
 simp[encU,AV.ofList,Ty.fits,tU8,LK.fits,AV.safe]
theorem qb(l:List Int):bytesOf (l.map (AV.int .u8))=some (l.map fun n=>UInt8.ofNat n.toNat):=by
 induction l with
 |nil=>rfl
 |cons n l ih=>simp[bytesOf,ih]
def ints(l:List UInt8):List Int:=l.map fun c=>(c.toNat:Int)
theorem sS(l:List UInt8):(ints l).map (fun n=>UInt8.ofNat n.toNat)=l:=by
 induction l with
 |nil=>rfl
 |cons c l ih=>simp only[ints,List.map_cons,Int.toNat_natCast,UInt8.ofNat_toNat]at ih⊢;rw[ih]
variable{add:List Int}
section
variable{T:MTb}{cx:Cx}{k:List Item}{kill:List Nat}{r:List MOp}{sl:Slots}{own:Own}{h:HP}{Q:St->Prop}
def WBU(T:MTb)(cx:Cx)(o:Option AV)(n d:Nat)(r:List MOp)(kill:List Nat)(k:List Item)(sl:Slots)(own:Own)(h:HP)(Q:St->Prop):Prop:=
 onO o fun w=>W T cx (.ops r kill::k) ⟨(Slots.forget sl (.stk cx.lvl d)).set d (.sl (.stk cx.lvl d) 0 n),own.set d ⟨.arr n tU8,w⟩,h⟩ Q
@[go_sem] theorem LN:WBU T cx (some v) n d r kill k sl own h Q=W T cx (.ops r kill::k) ⟨(Slots.forget sl (.stk cx.lvl d)).set d (.sl (.stk cx.lvl d) 0 n),own.set d ⟨.arr n tU8,v⟩,h⟩ Q:=rfl
@[go_sem] theorem Jh{ps:List (Nat×Opd)}:W T cx (.ops (⟨some d,.bslice false tU8 n ps,none⟩::r) kill::k) ⟨sl,own,h⟩ Q=
  WBU T cx (fill (.arr n tU8) (Ty.arr n tU8).zero (ps.map fun p=>(p.1,St.opd ⟨sl,own,h⟩ p.2))) n d r kill k sl own h Q:=by
 rw[gW rfl,evOp]
 simp only[evK,WBU]
 cases fill (.arr n tU8) (Ty.arr n tU8).zero (ps.map fun p=>(p.1,St.opd ⟨sl,own,h⟩ p.2))<;>rfl
theorem wd(n:Int):tU8.fits (.int .u8 n)=true:=by simp[Ty.fits,tU8,LK.fits,AV.safe]
@[go_sem] theorem N5(n:Int):fill (.arr 1 tU8) (Ty.arr 1 tU8).zero [(0,.int .u8 n)]=some (encU [n]):=by
 simp only[fill,Ty.part,Nat.lt_one_iff,if_true,wd,Ty.zero,AV.put,Nat.zero_lt_one,dite_true,gl,Option.map_some,encU,AV.ofList]
 congr 2
 funext j
 match j with
 |⟨0,_⟩=>rfl
@[go_sem] theorem N4(a b c:Int):fill (.arr 3 tU8) (Ty.arr 3 tU8).zero [(0,.int .u8 a),(1,.int .u8 b),(2,.int .u8 c)]=some (encU [a,b,c]):=by
 simp[fill,Ty.part,wd,Ty.zero,AV.put,gl,encU,AV.ofList]
 funext j
 match j with
 |⟨0,_⟩=>rfl
 |⟨1,_⟩=>rfl
 |⟨2,_⟩=>rfl
def lE(b:Option Blk)(len:Nat):Option (List AV):=match b with
 |some ⟨.arr _ t',v⟩=>match v.toList with
   |some l=>if tU8=t'/\len<=l.length then some (l.take len)else none
   |none=>none
 |_=>none
@[go_sem] theorem Aa(L:Id->Option Blk)(j:Id)(len:Nat):elems L tU8 (.sl j 0 len)=lE (L j) len:=by
 simp only[elems,lE,Nat.zero_add,List.drop_zero]
 cases L j with
 |none=>rfl
 |some b=>obtain⟨bt,bv⟩:=b;cases bt<;>rfl
@[go_sem] theorem GQ(L:Id->Option Blk)(j:Id)(len:Nat):elems L (.leaf (.int .u8)) (.sl j 0 len)=lE (L j) len:=Aa L j len
@[go_sem] theorem Fq(L:Id->Option Blk):elems L (.leaf (.int .u8)) .nilsl=some []:=rfl
@[go_sem] theorem GR(L:Id->Option Blk):elems L tU8 .nilsl=some []:=rfl
theorem jk{l:List Int}(h:n=l.length):lE (some ⟨.arr n tU8,encU l⟩) n=some (l.map (AV.int .u8)):=by
 subst h
 simp only[lE,jz,List.length_map,Nat.le_refl,and_self,if_true]
 rw[List.take_of_length_le (by simp)]
@[go_sem] theorem Lb(a:Int):lE (some ⟨.arr 1 tU8,encU [a]⟩) 1=some ([a].map (AV.int .u8)):=jk rfl
@[go_sem] theorem La(a b c:Int):lE (some ⟨.arr 3 tU8,encU [a,b,c]⟩) 3=some ([a,b,c].map (AV.int .u8)):=jk rfl
def WAU(T:MTb)(cx:Cx)(x:AV)(add:Option (List AV))(d:Nat)(r:List MOp)(kill:List Nat)(k:List Item)(sl:Slots)(own:Own)(h:HP)(Q:St->Prop):Prop:=
 onO add fun add=>onO (evAppend (St.look cx ⟨sl,own,h⟩) tU8 x add) fun e=>onO (ax cx (some d) false ⟨sl,own,h⟩ e) fun p=>W T cx (.ops r kill::k) (p.2.setd (some d) p.1) Q
@[go_sem] theorem Jl:W T cx (.ops (⟨some d,.append false [] tU8 x y,none⟩::r) kill::k) ⟨sl,own,h⟩ Q=WAU T cx (St.opd ⟨sl,own,h⟩ x) (elems (St.look cx ⟨sl,own,h⟩) tU8 (St.opd ⟨sl,own,h⟩ y)) d r kill k sl own h Q:=by
 rw[gW rfl,evOp]
 simp only[evK,WAU]
 cases elems (St.look cx ⟨sl,own,h⟩) tU8 (St.opd ⟨sl,own,h⟩ y)with
 |none=>rfl
 |some add=>
  simp only[cE]
  cases evAppend (St.look cx ⟨sl,own,h⟩) tU8 (St.opd ⟨sl,own,h⟩ x) add<;>rfl
theorem Cv{t len:Nat}{l:List Int}(hb:own.get t=some ⟨.arr len tU8,encU l⟩)(hl:l.length=len)(ha:0<add.length)(hm:len+add.length<=1048576):WAU T cx (.sl (.stk cx.lvl t) 0 len) (some (add.map (AV.int .u8))) d r kill k sl own h Q=
  W T cx (.ops r kill::k) ⟨(Slots.forget sl (.stk cx.lvl d)).set d (.sl (.stk cx.lvl d) 0 (len+add.length)),(own.rid t).set d ⟨.arr (len+add.length) tU8,encU (l++add)⟩,h⟩ Q:=by
 have hf:=jX (l++add) (n:=len+add.length) (by simp[hl])
 have e:List.map (AV.int .u8) (l++add)=(List.map (AV.int .u8) l).take len++add.map (AV.int .u8):=by
  rw[List.map_append,List.take_of_length_le (by simp[hl])]
 simp only[encU,e]at hf⊢
 simp only[WAU,cE,evAppend,vP,hb,jz,List.length_map,Nat.zero_add,List.drop_zero,if_true]
 rw[if_neg (by omega),if_pos (by omega),if_pos ⟨hf,hm⟩]
 simp only[cE,ax,St.drop,Id.own,if_true,Option.map_some]
 rfl
theorem Eg(ha:0<add.length)(hm:add.length<=1048576):WAU T cx .nilsl (some (add.map (AV.int .u8))) d r kill k sl own h Q=
  W T cx (.ops r kill::k) ⟨(Slots.forget sl (.stk cx.lvl d)).set d (.sl (.stk cx.lvl d) 0 add.length),own.set d ⟨.arr add.length tU8,encU add⟩,h⟩ Q:=by
 have hf:=jX add (n:=add.length) rfl
 simp only[WAU,cE,evAppend,List.length_map]
 rw[if_neg (by omega),if_pos ⟨hf,hm⟩]
 rfl
end
variable{T:MTb}
section
variable{cx:Cx}{h:HP}
@[go_sem] theorem NP{x:Int}(h0:0<=x)(h1:x<256):lz .shr (.int .u8 x) (.int .u64 4)=some (.int .u8 (x/16)):=by
 simp only[lz,jy]
 rw[if_neg (by decide),if_neg (by decide),Int.fdiv_eq_ediv_of_nonneg _ (by decide)]
 rfl
@[go_sem] theorem OJ{x:Int}(h0:0<=x)(h1:x<256):evInt .and .u8 x 15=some (.int .u8 (x%16)):=by
 obtain⟨n,rfl⟩:=Int.eq_ofNat_of_zero_le h0
 have hn:n<256:=by omega
 have:∀n:Fin 256,IntKind.u8.wrap (BitVec.ofInt IntKind.u8.bits (n.val:Int)&&&BitVec.ofInt IntKind.u8.bits 15).toNat=(n.val:Int)%16:=by decide
 simp only[evInt]
 rw[this ⟨n,hn⟩]
@[go_sem] theorem FM{x:Int}(h0:0<=x)(h1:x<16):ia (.str ⟨#[48,49,50,51,52,53,54,55,56,57,97,98,99,100,101,102]⟩) (.int kk x)=some (.int .u8 ((jt x.toNat).toNat:Nat)):=by
 obtain⟨n,rfl⟩:=Int.eq_ofNat_of_zero_le h0
 have hn:n<16:=by omega
 have:∀n:Fin 16,ia (.str ⟨#[48,49,50,51,52,53,54,55,56,57,97,98,99,100,101,102]⟩) (.int kk (n.val:Int))=some (.int .u8 ((jt n.val).toNat:Nat)):=by
  intro n
  match n with
  |⟨n+16,h⟩=>exact absurd h (by omega)
  |⟨0,_⟩|⟨1,_⟩|⟨2,_⟩|⟨3,_⟩|⟨4,_⟩|⟨5,_⟩|⟨6,_⟩|⟨7,_⟩|⟨8,_⟩|⟨9,_⟩|⟨10,_⟩|⟨11,_⟩|⟨12,_⟩|⟨13,_⟩|⟨14,_⟩|⟨15,_⟩=>rfl
 exact this ⟨n,hn⟩
theorem d4(l:List UInt8):(ints l).length=l.length:=by simp[ints]
section
variable{T:MTb}{k:List Item}{kill:List Nat}{r:List MOp}{sl:Slots}{own:Own}{Q:St->Prop}
def WBUo(T:MTb)(cx:Cx)(o:Option AV)(n d:Nat)(r:List MOp)(kill:List Nat)(k:List Item)(sl:Slots)(own:Own)(h:HP)(Q:St->Prop):Prop:=
 onO o fun w=>W T cx (.ops r kill::k) ⟨sl.set d (.sl (.obj h.next) 0 n),own,h.nw (.arr n tU8) w⟩ Q
@[go_sem] theorem Jp:WBUo T cx (some v) n d r kill k sl own h Q=W T cx (.ops r kill::k) ⟨sl.set d (.sl (.obj h.next) 0 n),own,h.nw (.arr n tU8) v⟩ Q:=rfl
@[go_sem] theorem G5{ps:List (Nat×Opd)}:W T cx (.ops (⟨some d,.bslice true tU8 n ps,none⟩::r) kill::k) ⟨sl,own,h⟩ Q=
  WBUo T cx (fill (.arr n tU8) (Ty.arr n tU8).zero (ps.map fun p=>(p.1,St.opd ⟨sl,own,h⟩ p.2))) n d r kill k sl own h Q:=by
 rw[gW rfl,evOp]
 simp only[evK,WBUo]
 cases fill (.arr n tU8) (Ty.arr n tU8).zero (ps.map fun p=>(p.1,St.opd ⟨sl,own,h⟩ p.2))<;>rfl
def WAUo(T:MTb)(cx:Cx)(x:AV)(add:Option (List AV))(d:Nat)(r:List MOp)(kill:List Nat)(k:List Item)(sl:Slots)(own:Own)(h:HP)(Q:St->Prop):Prop:=
 onO add fun add=>onO (evAppend (St.look cx ⟨sl,own,h⟩) tU8 x add) fun e=>onO (ax cx (some d) true ⟨sl,own,h⟩ e) fun p=>W T cx (.ops r kill::k) (p.2.setd (some d) p.1) Q
@[go_sem] theorem Hb:W T cx (.ops (⟨some d,.append true [] tU8 x y,none⟩::r) kill::k) ⟨sl,own,h⟩ Q=WAUo T cx (St.opd ⟨sl,own,h⟩ x) (elems (St.look cx ⟨sl,own,h⟩) tU8 (St.opd ⟨sl,own,h⟩ y)) d r kill k sl own h Q:=by
 rw[gW rfl,evOp]
 simp only[evK,WAUo]
 cases elems (St.look cx ⟨sl,own,h⟩) tU8 (St.opd ⟨sl,own,h⟩ y)with
 |none=>rfl
 |some add=>
  simp only[cE]
  cases evAppend (St.look cx ⟨sl,own,h⟩) tU8 (St.opd ⟨sl,own,h⟩ x) add<;>rfl
theorem o7{len:Nat}{l:List Int}(hl:cx.prot.lets (.obj q)=true)(hq:h.look (.obj q)=some ⟨.arr len tU8,encU l⟩)(hlen:l.length=len)(ha:0<add.length)(hm:len+add.length<=1048576):WAUo T cx (.sl (.obj q) 0 len) (some (add.map (AV.int .u8))) d r kill k sl own h Q=
  W T cx (.ops r kill::k) ⟨sl.set d (.sl (.obj h.next) 0 (len+add.length)),own,(h.dl q).nw (.arr (len+add.length) tU8) (encU (l++add))⟩ Q:=by
 have hf:=jX (l++add) (n:=len+add.length) (by simp[hlen])
 have e:List.map (AV.int .u8) (l++add)=(List.map (AV.int .u8) l).take len++add.map (AV.int .u8):=by
  rw[List.map_append,List.take_of_length_le (by simp[hlen])]
 simp only[encU,e]at hf⊢
 simp only[WAUo,cE,evAppend,no,hq,jz,List.length_map,Nat.zero_add,List.drop_zero,if_true]
 rw[if_neg (by omega),if_pos (by omega),if_pos ⟨hf,hm⟩]
 simp only[cE,ax,St.drop,Id.own,hl,if_true,Option.map_some]
 rfl
theorem Hd{len:Nat}{l:List Int}{a:Int}(hl:cx.prot.lets (.obj q)=true)(hq:h.look (.obj q)=some ⟨.arr len tU8,encU l⟩)(hlen:l.length=len)(hm:len<=1000000):WAUo T cx (.sl (.obj q) 0 len) (some [.int .u8 a]) d r kill k sl own h Q=
  W T cx (.ops r kill::k) ⟨sl.set d (.sl (.obj h.next) 0 (len+1)),own,(h.dl q).nw (.arr (len+1) tU8) (encU (l++[a]))⟩ Q:=
 o7 (add:=[a]) hl hq hlen (by simp) (by simp;omega)
theorem x9{len:Nat}{l:List Int}{a b c:Int}(hl:cx.prot.lets (.obj q)=true)(hq:h.look (.obj q)=some ⟨.arr len tU8,encU l⟩)(hlen:l.length=len)(hm:len<=1000000):WAUo T cx (.sl (.obj q) 0 len) (some [.int .u8 a,.int .u8 b,.int .u8 c]) d r kill k sl own h Q=
  W T cx (.ops r kill::k) ⟨sl.set d (.sl (.obj h.next) 0 (len+3)),own,(h.dl q).nw (.arr (len+3) tU8) (encU (l++[a,b,c]))⟩ Q:=
 o7 (add:=[a,b,c]) hl hq hlen (by simp) (by simp;omega)
end
def shB(s:Str)(j:Nat):List UInt8:=bS (s.data.toList.take j)
def zn(s:Str)(j:Nat)(a:Nat×HP):St:=⟨[(0,.str s),(3,.sl (.obj a.1) 0 (shB s j).length),(8,.int .i64 s.size),(9,.int .i64 j)],[],a.2⟩
def ShP(h:HP)(s:Str)(j:Nat)(a:Nat×HP):Prop:=Fr h a.2 []/\h.next<=a.1/\a.2.look (.obj a.1)=some ⟨.arr (shB s j).length tU8,encU (ints (shB s j))⟩
theorem ShP.next{h:HP}{add:List UInt8}(a:ShP h s j (q,h1))(f:shB s (j+1)=shB s j++add)(hn:n=(shB s j).length+add.length)(hv:v=encU (ints (shB s j)++ints add)):ShP h s (j+1) (h1.next,(h1.dl q).nw (.arr n tU8) v):=by
 obtain⟨a1,a2,a3⟩:=a
 refine⟨(a1.dl a2).trans Fr.nw,a1.next,?_⟩
 have:(HP.nw (h1.dl q) (.arr n tU8) v).look (.obj h1.next)=some ⟨.arr n tU8,v⟩:=d7 (h:=h1.dl q)
 rw[this,f,hn,hv]
 simp only[List.length_append,ints,List.map_append]
theorem uE(hl:∀n,h.next<=n->cx.prot.lets (.obj n)=true)(hs:s.size<=100000):Ok T cx Fn.bX (St.enter [.str s] h) fun v h'=>v=.str (bsL (bS s.data.toList))/\Fr h h' []:=by
 rw[aE]
 simp(disch:=omega)only[go_sem]
 refine gv s.size (zn s) (ShP h s) (h.next,h.nw (.arr 1 tU8) (encU [61])) (by simp only[go_sem]<;>rfl) ⟨Fr.nw,Nat.le_refl _,d7⟩ fun j a hj hp ih=>?_
 obtain⟨q,h1⟩:=a
 have hq:=hl q hp.2.1
 have hlk:h1.look (.obj q)=some ⟨.arr (shB s j).length tU8,encU (ints (shB s j))⟩:=hp.2.2
 simp only[zn]
 by_cases hlt:j<s.size
 ·have hl:j<s.data.toList.length:=by simpa using hlt
  have hb:=oW s j
  have hbe:=jY hl
  have hsz:(shB s j).length<=300001:=by
   have:=kf (s.data.toList.take j)
   simp only[List.length_take]at this
   unfold shB
   omega
  have fin1:(33<=byteAt s j/\byteAt s j<=126/\byteAt s j≠92)->shB s (j+1)=shB s j++[s.data.toList[j]]:=by
   intro hc
   rw[shB,kc hl,show1,←hbe,if_pos hc];rfl
  have fin2:¬(33<=byteAt s j/\byteAt s j<=126/\byteAt s j≠92)->shB s (j+1)=shB s j++[92,jt ((byteAt s j:Int)/16).toNat,jt ((byteAt s j:Int)%16).toNat]:=by
   intro hc
   rw[shB,kc hl,show1,←hbe,if_neg hc,show((byteAt s j:Int)/16).toNat=byteAt s j/16 by omega,show((byteAt s j:Int)%16).toNat=byteAt s j%16 by omega];rfl
  by_cases h1':32<(byteAt s j:Int)
  ·by_cases h2:(byteAt s j:Int)<127
   ·by_cases h3:(byteAt s j:Int)=92
    ·have f:=fin2 (by omega)
     simp(disch:=omega)only[go_sem,hlt,h1',h2,h3]
     rw[x9 hq hlk (d4 _) (by omega)]
     simp(disch:=omega)only[go_sem,hlt]
     refine ih _ (h1.next,(h1.dl q).nw (.arr ((shB s j).length+3) tU8) (encU (ints (shB s j)++ints [92,jt ((byteAt s j:Int)/16).toNat,jt ((byteAt s j:Int)%16).toNat]))) hlt ?_ (hp.next f rfl rfl)
     simp only[go_sem,zn,f,ints,List.length_append,List.length_cons,List.length_nil,List.map_cons,List.map_nil,h3]<;>rfl
    ·have f:=fin1 (by omega)
     simp(disch:=omega)only[go_sem,hlt,h1',h2,h3]
     rw[Hd hq hlk (d4 _) (by omega)]
     simp(disch:=omega)only[go_sem,hlt]
     refine ih _ (h1.next,(h1.dl q).nw (.arr ((shB s j).length+1) tU8) (encU (ints (shB s j)++ints [s.data.toList[j]]))) hlt ?_ (hp.next f rfl rfl)
     simp only[go_sem,zn,f,ints,List.length_append,List.length_cons,List.length_nil,List.map_cons,List.map_nil,←hbe]<;>rfl
   ·have f:=fin2 (by omega)
    simp(disch:=omega)only[go_sem,hlt,h1',h2]
    rw[x9 hq hlk (d4 _) (by omega)]
    simp(disch:=omega)only[go_sem,hlt]
    refine ih _ (h1.next,(h1.dl q).nw (.arr ((shB s j).length+3) tU8) (encU (ints (shB s j)++ints [92,jt ((byteAt s j:Int)/16).toNat,jt ((byteAt s j:Int)%16).toNat]))) hlt ?_ (hp.next f rfl rfl)
    simp only[go_sem,zn,f,ints,List.length_append,List.length_cons,List.length_nil,List.map_cons,List.map_nil]<;>rfl
  ·have f:=fin2 (by omega)
   simp(disch:=omega)only[go_sem,hlt,h1']
   rw[x9 hq hlk (d4 _) (by omega)]
   simp(disch:=omega)only[go_sem,hlt]
   refine ih _ (h1.next,(h1.dl q).nw (.arr ((shB s j).length+3) tU8) (encU (ints (shB s j)++ints [92,jt ((byteAt s j:Int)/16).toNat,jt ((byteAt s j:Int)%16).toNat]))) hlt ?_ (hp.next f rfl rfl)
   simp only[go_sem,zn,f,ints,List.length_append,List.length_cons,List.length_nil,List.map_cons,List.map_nil]<;>rfl
 ·obtain rfl:j=s.size:=by omega
  have e:shB s s.size=bS s.data.toList:=by rw[shB,List.take_of_length_le (by simp)]
  rw[e]at hlk⊢
  have fin:k7 (lE (some ⟨.arr (bS s.data.toList).length tU8,encU (ints (bS s.data.toList))⟩) (bS s.data.toList).length)=some (.str (bsL (bS s.data.toList))):=by
   rw[jk (by rw[d4])]
   simp only[k7,qb,sS,Option.map_some]
   rfl
  simp(disch:=omega)only[go_sem,hlk,fin]
  exact hp.1
end
section
variable{cx:Cx}{h:HP}
theorem kK{a b:List UInt8}:bsL a=bsL b↔a=b:=by
 constructor
 ·intro e
  have:=congrArg (fun s:Str=>s.data.toList) e
  simpa[bsL]using this
 ·rintro rfl;rfl
theorem bs61:(⟨#[61]⟩:Str)=bsL [61]:=rfl
theorem w6{l:List UInt8}(hn:n<=l.length):f7 (bsL l) (some (n:Int)) (some (((bsL l).size:Nat):Int))=some (.str (bsL (l.drop n))):=by
 rw[jf (by omega) (by rw[dm];omega) (by omega),Int.toNat_natCast,Int.toNat_natCast]
 congr 2
 apply ByteArray.ext
 simp only[bsL,ByteArray.size,ByteArray.data_extract,List.size_toArray]
 apply Array.toList_inj.1
 simp
 rw[List.take_of_length_le (by simp)]
theorem wk{l:List UInt8}:(bsL l).extract 0 n=bsL (l.take n):=by
 apply ByteArray.ext
 simp only[bsL,ByteArray.data_extract]
 apply Array.toList_inj.1
 simp
theorem wl{l:List UInt8}:(bsL l).extract n (bsL l).size=bsL (l.drop n):=by
 apply ByteArray.ext
 simp only[bsL,ByteArray.size,ByteArray.data_extract,List.size_toArray]
 apply Array.toList_inj.1
 simp
 rw[List.take_of_length_le (by simp)]
theorem w5{l:List UInt8}(hn:n<=l.length):f7 (bsL l) (some 0) (some (n:Int))=some (.str (bsL (l.take n))):=by
 rw[jf (by omega) (by omega) (by rw[dm];omega),Int.toNat_natCast]
 congr 2
 apply ByteArray.ext
 simp only[bsL,ByteArray.data_extract]
 apply Array.toList_inj.1
 simp
theorem uG{l:List UInt8}(hs:l.length<=100000):Ok lc cx Fn.bO (St.enter [.str (bsL l),.str ⟨#[61]⟩] h) fun v h'=>v=.bool (decide (l.head?=some 61))/\h'=h:=by
 have h1:(⟨#[61]⟩:Str).size=1:=rfl
 rw[aE]
 cases l with
 |nil=>
  have h0:(bsL []).size=0:=rfl
  simp(disch:=omega)only[go_sem,h0,h1]
  simp
 |cons c r=>
  have h0:(bsL (c::r)).size=r.length+1:=dm _
  have e:=w5 (l:=c::r) (n:=1) (by simp)
  simp(disch:=omega)only[go_sem,h0,h1]
  rw[wk,bs61]
  simp[kK]
theorem Dw{l:List UInt8}(hs:l.length<=100000):Ok lc cx Fn.aQ (St.enter [.str (bsL l),.str ⟨#[61]⟩] h) fun v h'=>
  v=.tup (.cons (.str (bsL (if l.head?=some 61 then l.tail else l))) (.cons (.bool (decide (l.head?=some 61))) .unit))/\h'=h:=by
 have h1:(⟨#[61]⟩:Str).size=1:=rfl
 rw[aE]
 simp(disch:=omega)only[go_sem]
 refine am rfl ⟨rfl,rfl⟩ (by simp only[go_sem];exact uG hs) ?_
 by_cases c:l.head?=some 61
 ·obtain⟨r,rfl⟩:∃r,l=61::r:=by
   cases l with
   |nil=>simp at c
   |cons x r=>simp at c;exact⟨r,by rw[c]⟩
  have h0:(bsL (61::r)).size=r.length+1:=dm _
  simp(disch:=omega)only[go_sem,c,h0,h1]
  have:=wl (l:=61::r) (n:=1)
  rw[h0]at this
  rw[this]
  rfl
 ·simp(disch:=omega)only[go_sem,c,h1]
theorem Hq{l:List UInt8}(hs:l.length<=100000):Ok lc cx Fn.dt (St.enter [.str (bsL l),.str ⟨#[61]⟩] h) fun v h'=>
  v=.tup (.cons (.str (bsL (if l.head?=some 61 then l.tail else l))) (.cons (.bool (decide (l.head?=some 61))) .unit))/\h'=h:=by
 rw[aE]
 simp(disch:=omega)only[go_sem]
 refine am rfl ⟨rfl,rfl⟩ (by simp only[go_sem];exact Dw hs) ?_
 simp(disch:=omega)only[go_sem]
theorem Fz(hb:b.size=2):Ok lc cx Fn.cu (St.enter [.str b,.int .i64 16,.int .i64 8] h) fun v h'=>
  v=.tup (.cons (.int .u64 ((hex2 b).getD 0:Nat)) (.cons (.iface (hex2 b).isNone) .unit))/\h'=h:=by
 have e1:pPu [.str b,.int .i64 16,.int .i64 8]=some (.int .u64 ((hex2 b).getD 0:Nat)):=by simp only[pPu];rw[if_pos hb]
 have e2:pPe [.str b,.int .i64 16,.int .i64 8]=some (.iface (hex2 b).isNone):=by simp only[pPe];rw[if_pos hb]
 rw[aE]
 simp(disch:=omega)only[go_sem,List.map_cons,List.map_nil,e1,e2]
 rfl
end
def si(x y:UInt8):Option UInt8:=match hexV x,hexV y with
 |some p,some q=>some (UInt8.ofNat (16*p+q))
 |_,_=>none
def unsh:List UInt8->Option (List UInt8)
 | []=>some []
 | [c]=>if c.toNat=92 then none else some [c]
 | [c,x]=>if c.toNat=92 then none else(unsh [x]).map (c::·)
 |c::x::y::r=>if c.toNat=92 then(match si x y with
   |some v=>(unsh r).map (v::·)
   |none=>none)else(unsh (x::y::r)).map (c::·)
theorem AS:unsh []=some []:=rfl
theorem qr{r:List UInt8}(hc:¬c.toNat=92):unsh (c::r)=(unsh r).map (c::·):=by
 match r with
 | []=>simp only[unsh,hc,if_false,Option.map_some]
 | [x]=>simp only[unsh,hc,if_false]
 |x::y::r=>rw[unsh,if_neg hc]
theorem qq{r:List UInt8}(hc:c.toNat=92)(hr:r.length<2):unsh (c::r)=none:=by
 match r,hr with
 | [],_=>rw[unsh,if_pos hc]
 | [x],_=>rw[unsh,if_pos hc]
 |x::y::r,h=>simp only[List.length_cons]at h;omega
theorem kY{x y:UInt8}{r:List UInt8}(hc:c.toNat=92):unsh (c::x::y::r)=match si x y with
  |some v=>(unsh r).map (v::·)
  |none=>none:=by
 rw[unsh,if_pos hc]
theorem v6{x y:UInt8}:hex2 (bsL [x,y])=match hexV x,hexV y with
  |some p,some q=>some (16*p+q)
  |_,_=>none:=rfl
theorem yA(h:hexV c=some n):n<16:=by
 unfold hexV at h
 split at h
 ·simp at h;omega
 ·split at h
  ·simp only[Option.some.injEq]at h;omega
  ·simp at h
theorem vZ{x y:UInt8}(e:hex2 (bsL [x,y])=none):si x y=none:=by
 rw[v6]at e
 unfold si
 cases hp:hexV x with
 |none=>rfl
 |some p=>cases hq:hexV y with
  |none=>rfl
  |some q=>rw[hp,hq]at e;simp at e
theorem vY{x y:UInt8}(e:hex2 (bsL [x,y])=some n):n<256/\si x y=some (UInt8.ofNat n):=by
 rw[v6]at e
 unfold si
 cases hp:hexV x with
 |none=>rw[hp]at e;simp at e
 |some p=>cases hq:hexV y with
  |none=>rw[hp,hq]at e;simp at e
  |some q=>
   rw[hp,hq]at e
   have h1:=yA hp
   have h2:=yA hq
   simp only[Option.some.injEq]at e
   subst e
   exact⟨by omega,rfl⟩
def cL(l:List UInt8):Option (List UInt8):=
 if l.head?=some 61 then match unsh l.tail with
  |some o=>if bS o=l then some o else none
  |none=>none
 else none
section
variable{cx:Cx}{h:HP}
@[go_sem] theorem EI{r:List UInt8}:ia (.str (bsL (c::r))) (.int kk 0)=some (.int .u8 (c.toNat:Nat)):=by
 have:(bsL (c::r))[(0:Int).toNat]?=some c:=by
  show(bsL (c::r))[0]?=some c
  rw[getElem?_pos (bsL (c::r)) 0 (by rw[dm];simp)]
  rfl
 simp only[ia,toIx]
 rw[if_pos (by omega),this]
 rfl
@[go_sem] theorem FK{r:List UInt8}:f7 (bsL (c::r)) (some 1) (some (((bsL (c::r)).size:Nat):Int))=some (.str (bsL r)):=
 w6 (l:=c::r) (n:=1) (by simp)
theorem o0{r:List UInt8}:¬bsL (c::r)=⟨#[]⟩:=fun e=>by
 have:=kK.1 (show bsL (c::r)=bsL []from e)
 simp at this
theorem nL:(bsL []=⟨#[]⟩)=True:=by simp only[eq_iff_iff,iff_true];rfl
section
variable{T:MTb}{k:List Item}{kill:List Nat}{r:List MOp}{sl:Slots}{own:Own}{Q:St->Prop}
theorem wI{a:Int}:WAU T cx .nilsl (some [.int .u8 a]) d r kill k sl own h Q=
  W T cx (.ops r kill::k) ⟨(Slots.forget sl (.stk cx.lvl d)).set d (.sl (.stk cx.lvl d) 0 1),own.set d ⟨.arr 1 tU8,encU [a]⟩,h⟩ Q:=
 Eg (add:=[a]) (by simp) (by simp)
theorem tM{t len:Nat}{l:List Int}{a:Int}(hb:own.get t=some ⟨.arr len tU8,encU l⟩)(hl:l.length=len)(hm:len<=1000000):WAU T cx (.sl (.stk cx.lvl t) 0 len) (some [.int .u8 a]) d r kill k sl own h Q=
  W T cx (.ops r kill::k) ⟨(Slots.forget sl (.stk cx.lvl d)).set d (.sl (.stk cx.lvl d) 0 (len+1)),(own.rid t).set d ⟨.arr (len+1) tU8,encU (l++[a])⟩,h⟩ Q:=
 Cv (add:=[a]) hb hl (by simp) (by simp;omega)
end
@[go_sem] theorem uS(l:List UInt8):k7 (some ((ints l).map (AV.int .u8)))=some (.str (bsL l)):=by
 simp only[k7,qb,sS,Option.map_some]
 rfl
@[go_sem] theorem FC:k7 (some [])=some (.str (bsL [])):=rfl
theorem wK{l:List UInt8}(hl:∀n,h.next<=n->cx.prot.lets (.obj n)=true)(hs:l.length<=100000):Ok lc cx Fn.bX (St.enter [.str (bsL l)] h) fun v h'=>Fr h h' []/\v=.str (bsL (bS l)):=
 (uE (s:=bsL l) hl (by rw[dm];exact hs)).mono fun v h' e=>⟨e.2,e.1⟩
@[go_sem] theorem FO(b:Bool):(AV.iface b).safe=true:=rfl
@[go_sem] theorem wrap8{n:Int}(h0:0<=n)(h1:n<256):IntKind.u8.wrap n=n:=by
 obtain⟨m,rfl⟩:=Int.eq_ofNat_of_zero_le h0
 have hm:m<256:=by omega
 have:∀m:Fin 256,IntKind.u8.wrap (m.val:Int)=(m.val:Int):=by decide
 exact this ⟨m,hm⟩
def meV(cx:Cx)(o:List UInt8):AV:=match o with
 | []=>.nilsl
 |_=>.sl (.stk cx.lvl 43) 0 o.length
def meO(o:List UInt8):Own:=match o with
 | []=>[]
 |_=>[(43,⟨.arr o.length tU8,encU (ints o)⟩)]
def zO(cx:Cx)(h:HP)(l:List UInt8)(a:List UInt8×List UInt8):St:=⟨[(0,.str (bsL l)),(4,.str (bsL a.1)),(6,meV cx a.2)],meO a.2,h⟩
theorem Eu{l:List UInt8}(hl:∀n,h.next<=n->cx.prot.lets (.obj n)=true)(hs:l.length<=10000):Ok lc cx Fn.bu (St.enter [.str (bsL l)] h) fun v h'=>
  v=.tup (.cons (.str (bsL ((cL l).getD []))) (.cons (.bool (cL l).isSome) .unit))/\Fr h h' []:=by
 rw[aE]
 simp(disch:=omega)only[go_sem]
 refine am rfl ⟨rfl,rfl⟩ (by simp only[go_sem];exact Hq (by omega)) ?_
 by_cases c0:l.head?=some 61
 ·simp(disch:=omega)only[go_sem,c0]
  refine gv l.length (fun _=>zO cx h l) (fun j a=>j+a.1.length<=l.length/\a.2.length<=j/\unsh l.tail=(unsh a.1).map (a.2++·)) (l.tail,[]) (by simp only[go_sem]<;>rfl) ⟨by simp,by simp,by simp⟩ fun j a hj hp ih=>?_
  obtain⟨rest,o⟩:=a
  obtain⟨p1,p2,p3⟩:=hp
  simp only at p1 p2 p3
  simp only[zO]
  cases rest with
  |nil=>
   have q3:unsh l.tail=some o:=by rw[p3,AS];simp
   cases o with
   |nil=>
    simp only[meV,meO]
    simp(disch:=omega)only[go_sem,nL]
    refine eY (S:=[]) (R:=fun v h'=>v=.str (bsL (bS ([])))) rfl ⟨rfl,rfl⟩ (by simp only[go_sem];exact wK (l:=[]) (fun n hn=>hl n hn) (by simp only[List.length_cons,List.length_nil]at p1 p2⊢;omega)) (fun v h1 e=>e) fun v h1 hF hv=>?_
    subst hv
    by_cases c5:bS ([])=l
    ·have f:cL l=some ([]):=by rw[cL,if_pos c0,q3];exact if_pos c5
     simp(disch:=omega)only[go_sem,kK,c5,f]
     exact⟨rfl,hF⟩
    ·have f:cL l=none:=by rw[cL,if_pos c0,q3];exact if_neg c5
     simp(disch:=omega)only[go_sem,kK,c5,f]
     exact⟨rfl,hF⟩
   |cons b o=>
    have e:=jk (n:=(b::o).length) (l:=ints (b::o)) (d4 _).symm
    simp only[meV,meO]
    simp(disch:=omega)only[go_sem,nL,e]
    refine eY (S:=[]) (R:=fun v h'=>v=.str (bsL (bS (b::o)))) rfl ⟨rfl,rfl⟩ (by simp only[go_sem];exact wK (l:=b::o) (fun n hn=>hl n hn) (by simp only[List.length_cons,List.length_nil]at p1 p2⊢;omega)) (fun v h1 e=>e) fun v h1 hF hv=>?_
    subst hv
    by_cases c5:bS (b::o)=l
    ·have f:cL l=some (b::o):=by rw[cL,if_pos c0,q3];exact if_pos c5
     simp(disch:=omega)only[go_sem,kK,c5,f,e]
     exact⟨rfl,hF⟩
    ·have f:cL l=none:=by rw[cL,if_pos c0,q3];exact if_neg c5
     simp(disch:=omega)only[go_sem,kK,c5,f,e]
     exact⟨rfl,hF⟩
  |cons c r=>
   by_cases c1:(c.toNat:Int)=92
   ·have c2:c.toNat=92:=by omega
    match r,p1,p3 with
    | [],p1,p3=>
     have f:cL l=none:=by rw[cL,if_pos c0,p3,qq c2 (by simp)];rfl
     have h0:(bsL []).size=0:=rfl
     cases o<;>simp only[meV,meO]<;>simp(disch:=omega)only[go_sem,o0,c1,h0,f]
     all_goals exact⟨rfl,Fr.refl _ _⟩
    | [x],p1,p3=>
     have f:cL l=none:=by rw[cL,if_pos c0,p3,qq c2 (by simp)];rfl
     have h0:(bsL [x]).size=1:=dm _
     cases o<;>simp only[meV,meO]<;>simp(disch:=omega)only[go_sem,o0,c1,h0,f]
     all_goals exact⟨rfl,Fr.refl _ _⟩
    |x::y::r,p1,p3=>
     have h0:(bsL (x::y::r)).size=r.length+2:=dm _
     have h2:(bsL [x,y]).size=2:=rfl
     have x2:(bsL (x::y::r)).extract 0 2=bsL [x,y]:=wk
     have x3:(bsL (x::y::r)).extract 2 (bsL (x::y::r)).size=bsL r:=wl
     cases o with
     |nil=>
      simp only[meV,meO]
      simp(disch:=omega)only[go_sem,o0,c1,h0,x2]
      refine am rfl ⟨rfl,rfl⟩ (by simp only[go_sem];exact Fz h2) ?_
      cases e:hex2 (bsL [x,y])with
      |none=>
       have f:cL l=none:=by
        rw[cL,if_pos c0,p3,kY c2,vZ e];rfl
       simp(disch:=omega)only[go_sem,e,f,Option.isNone_none]
       exact⟨rfl,Fr.refl _ _⟩
      |some n=>
       obtain⟨n1,n2⟩:=vY e
       have n3:(UInt8.ofNat n).toNat=n:=by simp[Nat.mod_eq_of_lt n1]
       simp(disch:=omega)only[go_sem,e,Option.isNone_some,Option.getD_some,x3]
       rw[wI]
       simp(disch:=omega)only[go_sem]
       refine ih _ (r,[UInt8.ofNat n]) (by simp only[List.length_cons]at p1;omega) ?_ ⟨by simp only[List.length_cons]at p1⊢;omega,by simp only[List.length_append,List.length_cons,List.length_nil]at p2⊢;omega,?_⟩
       ·simp only[go_sem,zO,meV,meO,ints,n3,List.map_cons,List.map_nil,List.cons_append,List.map_append,List.length_append,List.length_cons,List.length_nil]<;>rfl
       ·rw[p3,kY c2,n2];cases unsh r<;>simp
     |cons b o=>
      simp only[meV,meO]
      simp(disch:=omega)only[go_sem,o0,c1,h0,x2]
      refine am rfl ⟨rfl,rfl⟩ (by simp only[go_sem];exact Fz h2) ?_
      cases e:hex2 (bsL [x,y])with
      |none=>
       have f:cL l=none:=by
        rw[cL,if_pos c0,p3,kY c2,vZ e];rfl
       simp(disch:=omega)only[go_sem,e,f,Option.isNone_none]
       exact⟨rfl,Fr.refl _ _⟩
      |some n=>
       obtain⟨n1,n2⟩:=vY e
       have n3:(UInt8.ofNat n).toNat=n:=by simp[Nat.mod_eq_of_lt n1]
       simp(disch:=omega)only[go_sem,e,Option.isNone_some,Option.getD_some,x3]
       rw[tM (l:=ints (b::o))]
       ·simp(disch:=omega)only[go_sem]
        refine ih _ (r,b::o++[UInt8.ofNat n]) (by simp only[List.length_cons]at p1;omega) ?_ ⟨by simp only[List.length_cons]at p1⊢;omega,by simp only[List.length_append,List.length_cons,List.length_nil]at p2⊢;omega,?_⟩
        ·simp only[go_sem,zO,meV,meO,ints,n3,List.map_cons,List.map_nil,List.cons_append,List.map_append,List.length_append,List.length_cons,List.length_nil]<;>rfl
        ·rw[p3,kY c2,n2];cases unsh r<;>simp
       ·rfl
       ·exact d4 _
       ·simp only[List.length_cons]at p1 p2⊢;omega
   ·have f:unsh (c::r)=(unsh r).map (c::·):=qr (by omega)
    cases o with
    |nil=>
     simp only[meV,meO]
     simp(disch:=omega)only[go_sem,o0,c1]
     rw[wI]
     simp(disch:=omega)only[go_sem]
     refine ih _ (r,[c]) (by simp only[List.length_cons]at p1;omega) ?_ ⟨by simp only[List.length_cons]at p1⊢;omega,by simp,?_⟩
     ·simp only[go_sem,zO,meV,meO,ints,List.map_cons,List.map_nil,List.length_cons,List.length_nil]<;>rfl
     ·rw[p3,f];cases unsh r<;>simp
    |cons b o=>
     simp only[meV,meO]
     simp(disch:=omega)only[go_sem,o0,c1]
     rw[tM (l:=ints (b::o))]
     ·simp(disch:=omega)only[go_sem]
      refine ih _ (r,b::o++[c]) (by simp only[List.length_cons]at p1;omega) ?_ ⟨by simp only[List.length_cons]at p1⊢;omega,by simp only[List.length_append,List.length_cons,List.length_nil]at p2⊢;omega,?_⟩
      ·simp only[go_sem,zO,meV,meO,ints,List.map_cons,List.map_nil,List.cons_append,List.map_append,List.length_append,List.length_cons,List.length_nil]<;>rfl
      ·rw[p3,f];cases unsh r<;>simp
     ·rfl
     ·exact d4 _
     ·simp only[List.length_cons]at p1 p2⊢;omega
 ·have f:cL l=none:=by rw[cL,if_neg c0]
  simp(disch:=omega)only[go_sem,c0,f]
  exact⟨rfl,Fr.refl _ _⟩
end
section
variable{cx:Cx}{h:HP}
theorem yW{n:Int}(hn:i64 n):Ok lc cx Fn.db (St.enter [.int .i64 n] h) fun v h'=>v=.str (bsL (bz n))/\h'=h:=by
 have e:vA [.int .i64 n]=some (.str (bsL (bz n))):=by simp only[vA];rw[if_pos hn];rfl
 rw[aE]
 simp(disch:=omega)only[go_sem,List.map_cons,List.map_nil,e]
theorem gu{n:Int}(hn:i64 n):Ok lc cx Fn.nf (St.enter [.int .i64 n] h) fun v h'=>v=.str (bsL (bz n))/\h'=h:=by
 rw[aE]
 simp(disch:=omega)only[go_sem]
 refine am rfl ⟨rfl,rfl⟩ (by simp only[go_sem];exact yW hn) ?_
 simp(disch:=omega)only[go_sem]
theorem Ent.enc_inj{a b:Ent}(e:a.enc=b.enc):a=b:=by
 cases a;cases b
 simp only[Ent.enc,AV.cons.injEq,AV.str.injEq,AV.int.injEq,true_and,and_true]at e
 obtain⟨rfl,rfl,rfl⟩:=e
 rfl
theorem Dat.enc_inj{a b:Dat}(e:a.enc=b.enc):a=b:=by
 cases a;cases b
 simp only[Dat.enc,AV.cons.injEq,AV.str.injEq,AV.int.injEq,true_and,and_true]at e
 obtain⟨rfl,rfl⟩:=e
 rfl
theorem lD{α:Type}{f:α->AV}(hf:∀a b,f a=f b->a=b){v w:Vector α n}(e:bF f v=bF f w):v=w:=by
 simp only[bF,AV.arr.injEq,heq_eq_eq,true_and]at e
 apply Vector.ext
 intro i hi
 exact hf _ _ (congrFun e ⟨i,hi⟩)
theorem Ino.enc_inj{a b:Ino}(e:a.enc=b.enc):a=b:=by
 cases a;cases b
 simp only[Ino.enc,AV.cons.injEq,AV.bool.injEq,AV.int.injEq,true_and,and_true]at e
 obtain⟨rfl,rfl,rfl,e⟩:=e
 rw[lD (fun a b h=>by simpa using h) e]
theorem Img.enc_inj{a b:Img}(e:a.enc=b.enc):a=b:=by
 cases a;cases b
 simp only[Img.enc,AV.cons.injEq,and_true]at e
 obtain⟨e1,e2,e3⟩:=e
 rw[lD (fun _ _=>Ino.enc_inj) e1,lD (fun _ _ h=>lD (fun _ _=>Ent.enc_inj) h) e2,lD (fun _ _=>Dat.enc_inj) e3]
theorem xl(hm:m.slim):mI [m.enc]=some (.str (bsL (textL m))):=by
 have h:∃m':Img,m.enc=m'.enc/\m'.slim:=⟨m,rfl,hm⟩
 have e:h.choose=m:=(Img.enc_inj h.choose_spec.1).symm
 simp only[mI]
 rw[dif_pos h,e]
 rfl
variable{p:Id}{q:List Nat}
theorem CH(hb:p.below cx.lvl)(hm:h.rd p q=some m.enc)(hsl:m.slim):Ok lc cx Fn.ep (St.enter [.ptr p q ac] h) fun v h'=>v=.str (bsL (textL m))/\h'=h:=by
 have e:=xl hsl
 rw[aE]
 have e2:uq ac (h.rd p q)=some m.enc:=by rw[hm];exact zY (fa m)
 simp(disch:=omega)only[go_sem,aw hb,e2,List.map_cons,List.map_nil,e]
end
theorem uo(hn:n<16):hexV (jt n)=some n:=by
 have:∀n:Fin 16,hexV (jt n.val)=some n.val:=by decide
 exact this ⟨n,hn⟩
theorem qp{r:List UInt8}:unsh (show1 c++r)=(unsh r).map (c::·):=by
 unfold show1
 split
 ·rename_i hc
  exact qr hc.2.2
 ·have hc:=c.toNat_lt
  show unsh (92::jt (c.toNat/16)::jt (c.toNat%16)::r)=_
  rw[kY rfl]
  have:si (jt (c.toNat/16)) (jt (c.toNat%16))=some c:=by
   unfold si
   rw[uo (by omega),uo (by omega)]
   simp only
   rw[show 16*(c.toNat/16)+c.toNat%16=c.toNat by omega,UInt8.ofNat_toNat]
  rw[this]
theorem y8(l:List UInt8):unsh (l.flatMap show1)=some l:=by
 induction l with
 |nil=>rfl
 |cons c l ih=>rw[List.flatMap_cons,qp,ih];rfl
theorem xr(l:List UInt8):cL (bS l)=some l:=by
 have h1:(bS l).head?=some 61:=rfl
 have h2:(bS l).tail=l.flatMap show1:=rfl
 rw[cL,if_pos h1,h2,y8]
 exact if_pos rfl
theorem xt{l o:List UInt8}(h:cL l=some o):bS o=l:=by
 unfold cL at h
 split at h<;>try(simp at h;done)
 split at h<;>try(simp at h;done)
 split at h<;>try(simp at h;done)
 rename_i e
 simp only[Option.some.injEq]at h
 rw[←h];exact e
section
variable{cx:Cx}{h:HP}
def qY(l:List UInt8):AV:=.tup (.cons (.str (bsL ((cL l).getD []))) (.cons (.bool (cL l).isSome) .unit))
end
theorem vj(l:List UInt8):l.length<=(bS l).length:=by
 induction l with
 |nil=>simp
 |cons c l ih=>
  simp only[bS,List.length_cons,List.flatMap_cons,List.length_append]at ih⊢
  have:1<=(show1 c).length:=by unfold show1;split<;>simp
  omega
abbrev tBld:Ty:=.cons tP (.cons tSl .unit)
abbrev tDesk:Ty:=.cons tBld (.cons tP .unit)
def strsOf:List AV->Option (List Str)
 | []=>some []
 | .str s::r=>(strsOf r).map (s::·)
 |_=>none
def fk(ws:List Str)(sep:Str):List UInt8:=Lib.join (ws.map (·.data.toList)) sep.data.toList
def vz(l:List AV)(sep:ByteArray):Option AV:=match strsOf l with
 |some ws=>if ws.length<=1000000/\(fk ws sep).length<=100000000 then some (.str ⟨(fk ws sep).toArray⟩)else none
 |none=>none
def hasB(s:Str)(c:UInt8):Bool:=decide (0<=Lib.indexByte s.data.toList c)
def jQ:List AV->Option AV
 | [.str s,.str b]=>match b.data.toList with
  | [c]=>some (.bool (hasB s c))
  |_=>none
 |_=>none
def cutB(s:Str)(c:UInt8):List Str:=Lib.splitB ⟨#[c]⟩ 0 (Lib.countB s ⟨#[c]⟩) s
def n5:List AV->Option (List AV)
 | [.str s,.str b]=>match b.data.toList with
  | [c]=>if s.size<=1000000 then some ((cutB s c).map .str)else none
  |_=>none
 |_=>none
def gV(s:Str):Int:=match Lib.atoiAll s.data.toList with
 | .ok v=>v
 | .range=>Lib.atoiSat s.data.toList
 |_=>0
def kW(s:Str):Bool:=match Lib.atoiAll s.data.toList with
 | .ok _=>false
 |_=>true
def sH:List AV->Option AV
 | [.str s]=>if s.size<=1000000 then some (.int .i64 (gV s))else none
 |_=>none
def n6:List AV->Option AV
 | [.str s]=>if s.size<=1000000 then some (.iface (kW s))else none
 |_=>none
def vw:List AV->Option AV
 | [.nilp,.ptr (.obj _) [0] t]=>if t=tBld then some (.bool true)else none
 | [.ptr (.obj i) [0] t,.ptr (.obj j) [0] u]=>if i=j/\t=tBld/\u=tBld then some (.bool true)else none
 |_=>none
def pUp:List AV->Option AV
 | [.ptr (.obj j) [0] t]=>if t=tBld then some (.ptr (.obj j) [] tDesk)else none
 |_=>none
def zI:List AV->Option AV
 | [.nilsl]=>some (.bool true)
 | [.sl (.obj _) 0 n]=>if n<=1048576 then some (.bool true)else none
 |_=>none
namespace Fn
abbrev iv.r0:=[pC 0 (.c .nilp)]
abbrev iv.r1:=[oA 1 285 [],oN 2 (.build (.cons (.cons tP (.cons tSl .unit)) (.cons tP .unit)) [(1,(.s 1))]),oN 3 (.box true (.cons (.cons tP (.cons tSl .unit)) (.cons tP .unit)) (.s 2)),oM 0 3]
abbrev iv.body:=gS (gR iv.r0 [0]) (gS (gR iv.r1 [1,2,3]) .ret)
abbrev iv:=gF 0 [.tmp 0] iv.body
abbrev aA.r0:=[pC 4 (qS #[]),pN 5 (.cons tI (.cons tI .unit))]
abbrev aA.r1:=[oM 13 1,oY 14 13,oI 15 .gtr 14 150]
abbrev aA.r2:=[oN 16 (.build (.cons tI (.cons tI .unit)) [(0,(qI 14)),(1,(qI (-1)))]),pC 4 (qS #[]),oS (.cons tI (.cons tI .unit)) 5 16]
abbrev aA.r3:=[oM 17 1,oY 18 17,oC 19 0]
abbrev aA.r4:=[oB 20 .lss 19 18]
abbrev aA.r5:=[oM 21 19,oX 22 tS 17 19,oL 23 tS 22,oM 6 21,oM 7 23]
abbrev aA.r6:=[oM 24 7,oN 25 (.call false [] 413 [(.s 24),(qS #[10])])]
abbrev aA.r7:=[oM 26 6,oN 27 (.build (.cons tI (.cons tI .unit)) [(0,(qI 15)),(1,(.s 26))]),pC 4 (qS #[]),oS (.cons tI (.cons tI .unit)) 5 27]
abbrev aA.r8:=[oI 28 .add 19 1,oM 19 28]
abbrev aA.r9:=[oM 29 0,oK 30 29,oE 31 (.cons (.cons tP (.cons tSl .unit)) (.cons tP .unit)) 0 (.cons tP (.cons tSl .unit)) 30,oA 32 412 [(.s 31)]]
abbrev aA.r10:=[oM 33 1,oY 34 33,oC 35 0]
abbrev aA.r11:=[oB 36 .lss 35 34]
abbrev aA.r12:=[oX 37 tS 33 35,oL 38 tS 37,oM 9 38]
abbrev aA.r13:=[oM 39 9,oN 40 (.call false [] 409 [(.s 39),(qS #[32])]),oA 41 410 [(.s 40),(.f 411)],oM 10 41]
abbrev aA.r14:=[oM 42 10,oY 43 42,oI 44 .eql 43 0]
abbrev aA.r15:=[oM 46 10,oA 47 408 [(.s 46)],oM 45 47,oZ 48 45 0,oZ 49 45 1,pN 11 aD,oS aD 11 48,oM 12 49]
abbrev aA.r16:=[oM 50 12]
abbrev aA.r17:=[oM 51 0,oL 52 aD 11,oA 53 405 [(.s 51),(.s 52)]]
abbrev aA.r18:=[oM 54 0,oM 55 10,oA 56 407 [(.s 54),(.s 55)],pU 57 56]
abbrev aA.r19:=[oM 58 0,oN 59 (.bslice false tS 1 [(0,(qS #[119,104,97,116]))]),oA 60 406 [(.s 58),(.s 59)]]
abbrev aA.r20:=[oI 61 .add 35 1,oM 35 61]
abbrev aA.r21:=[oM 62 0,oK 63 62,oE 64 (.cons (.cons tP (.cons tSl .unit)) (.cons tP .unit)) 0 (.cons tP (.cons tSl .unit)) 63,oA 65 404 [(.s 64)],oN 66 (.build (.cons tI (.cons tI .unit)) []),oM 4 65,oS (.cons tI (.cons tI .unit)) 5 66]
abbrev aA.body:=gS (gR aA.r0 [4]) (gS (gS (gR aA.r1 [13,14]) (gC 15 (gS (gR aA.r2 [16]) .ret) .skip)) (gS (gS (gR aA.r3 []) (.block 0 (.loop [0,1,5,17,18,19] [5,18] (gS (gR aA.r4 []) (gS (gC 20 .skip (.exit 0)) (gS (.block 1 (gS (gR aA.r5 [21,22,23]) (gS (gR aA.r6 [7,24]) (gC 25 (gS (gR aA.r7 [6,26,27]) .ret) .skip)))) (gR aA.r8 [28]))))))) (gS (gR aA.r9 [29,30,31,32]) (gS (gS (gR aA.r10 [1]) (.block 2 (.loop [0,5,33,34,35] [5,34] (gS (gR aA.r11 []) (gS (gC 36 .skip (.exit 2)) (gS (.block 3 (gS (gR aA.r12 [37,38]) (gS (gR aA.r13 [9,39,40,41]) (gS (gS (gR aA.r14 [42,43]) (gC 44 (.exit 3) .skip)) (gS (gR aA.r15 [45,46,47,48,49]) (gS (gR aA.r16 [12]) (gC 50 (gR aA.r17 [11,51,52,53]) (gS (gR aA.r18 [10,54,55,56]) (gC 57 (gR aA.r19 [58,59,60]) .skip))))))))) (gR aA.r20 [61]))))))) (gS (gR aA.r21 [0,62,63,64,65,66]) .ret)))))
abbrev aA:=gF 2 [.tmp 4,.cell 5 (.cons tI (.cons tI .unit))] aA.body
abbrev eM.r0:=[pC 2 qF]
abbrev eM.r1:=[oC 3 0]
abbrev eM.r2:=[oC 4 0]
abbrev eM.r3:=[oM 5 4,oM 6 0,oY 7 6,oB 8 .lss 5 7]
abbrev eM.r4:=[oM 9 4,oI 10 .add 9 1,oM 4 10]
abbrev eM.r5:=[oM 11 3,oM 12 0,oM 13 4,oX 14 tS 12 13,oL 15 tS 14,oN 16 (.len true (.s 15)),oB 17 .add 11 16,oM 3 17]
abbrev eM.r6:=[oM 18 3,oI 19 .gtr 18 9000]
abbrev eM.r7:=[pC 2 qT]
abbrev eM.r8:=[pC 2 qF]
abbrev eM.body:=gS (gR eM.r0 [2]) (gS (gR eM.r1 []) (gS (gS (gR eM.r2 []) (.block 0 (.loop [0,3,4] [] (gS (gS (gR eM.r3 [5,6,7]) (gC 8 .skip (.exit 0))) (gS (.block 1 (gS (gR eM.r5 [11,12,13,14,15,16,17]) (gS (gR eM.r6 [18]) (gC 19 (gS (gR eM.r7 []) .ret) .skip)))) (gR eM.r4 [9,10])))))) (gS (gR eM.r8 []) .ret)))
abbrev eM:=gF 1 [.tmp 2] eM.body
abbrev ei.r0:=[pC 0 qF]
abbrev ei.r1:=[oA 4 400 [],oN 5 (.bslice false tS 14 [(0,(qS #[109,97,107,101,32,48,32,97])),(1,(qS #[112,117,116,32,48,32,97,32,49,32,61,120])),(2,(qS #[114,101,97,100,32,48,32,97,32,49])),(3,(qS #[119,114,105,116,101,32,48])),(4,(qS #[100,105,115,107])),(5,(qS #[100,105,114,116,121])),(6,(qS #[115,121,110,99])),(7,(qS #[115,117,114,101,32,48,32,97])),(8,(qS #[108,105,110,107,32,48,32,97,32,50,32,98])),(9,(qS #[115,97,109,101,32,48,32,97,32,50,32,98])),(10,(qS #[99,114,97,115,104])),(11,(qS #[108,105,115,116,32,50])),(12,(qS #[108,111,115,116])),(13,(qS #[120]))]),oA 6 401 [(.s 4),(.s 5)],oM 3 6,oZ 7 3 0,oZ 8 3 1,pN 2 (.cons tI (.cons tI .unit)),oM 1 7,oS (.cons tI (.cons tI .unit)) 2 8]
abbrev ei.r2:=[oE 9 (.cons tI (.cons tI .unit)) 0 tI 2,oL 10 tI 9,oI 11 .eql 10 0,oM 12 11,oT 13 1 12,oG 14 (.bin .eql (.s 13) (qS #[111,107,10,111,107,10,61,120,10,111,107,10,105,110,111,100,101,32,48,32,49,32,49,32,45,49,32,45,49,10,101,110,100,10,100,105,114,116,121,32,48,32,50,32,53,10,111,107,10,116,114,117,101,10,111,107,10,116,114,117,101,10,111,107,10,110,97,109,101,115,10,108,111,115,116,32,49,32,48,32,48,32,48,10,119,104,97,116,10])) 12,oQ 15 12 14,oM 0 15]
abbrev ei.body:=gS (gR ei.r0 [0]) (gS (gR ei.r1 [3,4,5,6,7,8]) (gS (gR ei.r2 [1,2,9,10,11,12,13,14,15]) .ret))
abbrev ei:=gF 0 [.tmp 0] ei.body
noncomputable abbrev bN.r0:=[oE 1 tBld 1 tSl 0,oL 2 tSl 1,oN 5 (.prim pUp [(.s 0)]),oL 6 tDesk 5,oN 4 (.prim zI [(.s 2)]),oN 3 (.tostr (.s 2)),oU (.drop (.s 2))]
noncomputable abbrev bN.body:=gS (gR bN.r0 []) .ret
noncomputable abbrev bN:=gF 1 [.tmp 3] bN.body
abbrev cA.r0:=[oN 3 (.box false aD (.s 1))]
abbrev cA.r1:=[oM 5 0,oK 6 5,oE 7 (.cons (.cons tP (.cons tSl .unit)) (.cons tP .unit)) 1 tP 6,oL 8 tP 7,oL 9 aD 3,oA 10 281 [(.s 8),(.s 9)],oM 4 10]
abbrev cA.r2:=[oM 11 4,oI 12 .neq 11 0]
abbrev cA.r3:=[oM 13 0,oM 14 4,oA 15 414 [(.s 14)],oN 16 (.bslice false tS 2 [(0,(qS #[110,111])),(1,(.s 15))]),oA 17 406 [(.s 13),(.s 16)]]
abbrev cA.r4:=[oM 18 0,oN 19 (.bslice false tS 1 [(0,(qS #[111,107]))]),oA 20 406 [(.s 18),(.s 19)]]
abbrev cA.body:=gS (gR cA.r0 [1]) (gS (gS (gT cA.r1 [3,5,6,7,8,9,10]) (gS (gR cA.r2 [11]) (gC 12 (gS (gR cA.r3 [0,4,13,14,15,16,17]) .ret) .skip))) (gR cA.r4 [0,18,19,20]))
abbrev cA:=gF 2 [] cA.body
abbrev fG.r0:=[oM 4 0,oK 5 4,oE 6 (.cons (.cons tP (.cons tSl .unit)) (.cons tP .unit)) 0 (.cons tP (.cons tSl .unit)) 5,oM 7 1,oN 8 (.call false [] 416 [(.s 7),(qS #[32])]),pV 9 .add 8 (qS #[10]),oA 10 417 [(.s 6),(.s 9)]]
abbrev fG.body:=gT fG.r0 [0,1,4,5,6,7,8,9,10]
abbrev fG:=gF 2 [] fG.body
abbrev ay.r0:=[pC 4 qF]
abbrev ay.r1:=[pC 4 qF]
abbrev ay.r2:=[oM 10 1,pX 11 tS 10 0,oL 12 tS 11,pV 13 .eql 12 (qS #[114,101,97,100]),oM 14 13,oT 15 1 14,oG 16 (.len false (.s 15)) 14,oG 17 (.bin .eql (.s 16) (qI 4)) 14,oQ 18 14 17,oM 9 18]
abbrev ay.r3:=[oM 19 0,oM 20 1,oN 21 (.slice none tS (.s 20) (some (qI 1)) none none),oA 22 421 [(.s 19),(.s 21)]]
abbrev ay.r4:=[oM 24 1,pX 25 tS 24 0,oL 26 tS 25,pV 27 .eql 26 (qS #[108,105,115,116]),oM 28 27,oT 29 1 28,oG 30 (.len false (.s 29)) 28,oG 31 (.bin .eql (.s 30) (qI 2)) 28,oQ 32 28 31,oM 23 32]
abbrev ay.r5:=[oM 33 0,oN 34 (.bslice false tS 1 [(0,(qS #[110,97,109,101,115]))]),oM 35 0,oK 36 35,oE 37 (.cons (.cons tP (.cons tSl .unit)) (.cons tP .unit)) 1 tP 36,oL 38 tP 37,oK 39 38,oE 40 tLife 0 tP 39,oL 41 tP 40,oM 42 1,pX 43 tS 42 1,oL 44 tS 43,oN 45 (.call true [34,47] 418 [(.s 44)]),oN 46 (.call false [34,47] 272 [(.s 41),(.s 45)]),oN 47 (.append false [] tS (.s 34) (.s 46)),oA 48 406 [(.s 33),(.s 47)]]
abbrev ay.r6:=[oM 50 1,pX 51 tS 50 0,oL 52 tS 51,pV 53 .eql 52 (qS #[115,97,109,101]),oM 54 53,oT 55 1 54,oG 56 (.len false (.s 55)) 54,oG 57 (.bin .eql (.s 56) (qI 5)) 54,oQ 58 54 57,oM 49 58]
abbrev ay.r7:=[oM 59 0,oM 60 0,oK 61 60,oE 62 (.cons (.cons tP (.cons tSl .unit)) (.cons tP .unit)) 1 tP 61,oL 63 tP 62,oK 64 63,oE 65 tLife 0 tP 64,oL 66 tP 65,oM 67 1,pX 68 tS 67 1,oL 69 tS 68,oN 70 (.call true [83] 418 [(.s 69)]),oM 71 1,pX 72 tS 71 2,oL 73 tS 72,oM 74 1,pX 75 tS 74 3,oL 76 tS 75,oN 77 (.call true [83] 418 [(.s 76)]),oM 78 1,pX 79 tS 78 4,oL 80 tS 79,oN 81 (.call false [83] 266 [(.s 66),(.s 70),(.s 73),(.s 77),(.s 80)]),oN 82 (.call false [83] 422 [(.s 81)]),oN 83 (.bslice false tS 1 [(0,(.s 82))]),oA 84 406 [(.s 59),(.s 83)]]
abbrev ay.r8:=[oM 86 1,pX 87 tS 86 0,oL 88 tS 87,pV 89 .eql 88 (qS #[115,117,114,101]),oM 90 89,oT 91 1 90,oG 92 (.len false (.s 91)) 90,oG 93 (.bin .eql (.s 92) (qI 3)) 90,oQ 94 90 93,oM 85 94]
abbrev ay.r9:=[oM 95 0,oM 96 0,oK 97 96,oE 98 (.cons (.cons tP (.cons tSl .unit)) (.cons tP .unit)) 1 tP 97,oL 99 tP 98,oK 100 99,oE 101 tLife 0 tP 100,oL 102 tP 101,oM 103 1,pX 104 tS 103 1,oL 105 tS 104,oN 106 (.call true [112] 418 [(.s 105)]),oM 107 1,pX 108 tS 107 2,oL 109 tS 108,oN 110 (.call false [112] 268 [(.s 102),(.s 106),(.s 109)]),oN 111 (.call false [112] 422 [(.s 110)]),oN 112 (.bslice false tS 1 [(0,(.s 111))]),oA 113 406 [(.s 95),(.s 112)]]
abbrev ay.r10:=[oM 115 1,pX 116 tS 115 0,oL 117 tS 116,pV 118 .eql 117 (qS #[100,105,115,107]),oM 119 118,oT 120 1 119,oG 121 (.len false (.s 120)) 119,oG 122 (.bin .eql (.s 121) (qI 1)) 119,oQ 123 119 122,oM 114 123]
abbrev ay.r11:=[oM 124 0,oK 125 124,oE 126 (.cons (.cons tP (.cons tSl .unit)) (.cons tP .unit)) 1 tP 125,oL 127 tP 126,oK 128 127,oE 129 tLife 0 tP 128,oL 130 tP 129,oK 131 130,oE 132 tFiles 0 tP 131,oL 133 tP 132,oA 134 203 [(.s 133)],pN 5 ac,oS ac 5 134]
abbrev ay.r12:=[oM 135 0,oK 136 135,oE 137 (.cons (.cons tP (.cons tSl .unit)) (.cons tP .unit)) 0 (.cons tP (.cons tSl .unit)) 136,oA 138 340 [(.s 5)],oA 139 417 [(.s 137),(.s 138)]]
abbrev ay.r13:=[oM 140 0,oN 141 (.bslice false tS 1 [(0,(qS #[101,110,100]))]),oA 142 406 [(.s 140),(.s 141)]]
abbrev ay.r14:=[oM 144 1,pX 145 tS 144 0,oL 146 tS 145,pV 147 .eql 146 (qS #[100,105,114,116,121]),oM 148 147,oT 149 1 148,oG 150 (.len false (.s 149)) 148,oG 151 (.bin .eql (.s 150) (qI 1)) 148,oQ 152 148 151,oM 143 152]
abbrev ay.r15:=[pC 6 (qS #[100,105,114,116,121])]
abbrev ay.r16:=[oC 153 0]
abbrev ay.r17:=[oI 154 .lss 153 14]
abbrev ay.r18:=[oM 155 153,oM 7 155]
abbrev ay.r19:=[oM 156 0,oK 157 156,oE 158 (.cons (.cons tP (.cons tSl .unit)) (.cons tP .unit)) 1 tP 157,oL 159 tP 158,oK 160 159,oE 161 tLife 0 tP 160,oL 162 tP 161,oK 163 162,oE 164 tFiles 0 tP 163,oL 165 tP 164,oM 166 7,oA 167 204 [(.s 165),(.s 166)]]
abbrev ay.r20:=[oM 168 6,oM 169 7,oA 170 414 [(.s 169)],oN 171 (.bin .add (qS #[32]) (.s 170)),oB 172 .add 168 171,oM 6 172]
abbrev ay.r21:=[oI 173 .add 153 1,oM 153 173]
abbrev ay.r22:=[oM 174 0,oM 175 6,oN 176 (.bslice false tS 1 [(0,(.s 175))]),oA 177 406 [(.s 174),(.s 176)]]
abbrev ay.r23:=[oM 179 1,pX 180 tS 179 0,oL 181 tS 180,pV 182 .eql 181 (qS #[108,111,115,116]),oM 183 182,oT 184 1 183,oG 185 (.len false (.s 184)) 183,oG 186 (.bin .eql (.s 185) (qI 1)) 183,oQ 187 183 186,oM 178 187]
abbrev ay.r24:=[oM 188 0,oK 189 188,oE 190 (.cons (.cons tP (.cons tSl .unit)) (.cons tP .unit)) 1 tP 189,oL 191 tP 190,oA 192 284 [(.s 191)],pN 8 cS,oS cS 8 192]
abbrev ay.r25:=[oM 193 0,oM 194 0,oK 195 194,oE 196 (.cons (.cons tP (.cons tSl .unit)) (.cons tP .unit)) 1 tP 195,oL 197 tP 196,oN 198 (.call true [209] 283 [(.s 197)]),oN 199 (.call true [209] 414 [(.s 198)]),oE 200 cS 0 tI 8,oL 201 tI 200,oN 202 (.call true [209] 414 [(.s 201)]),oE 203 cS 1 tI 8,oL 204 tI 203,oN 205 (.call true [209] 414 [(.s 204)]),oE 206 cS 2 tI 8,oL 207 tI 206,oN 208 (.call false [209] 414 [(.s 207)]),oN 209 (.bslice false tS 5 [(0,(qS #[108,111,115,116])),(1,(.s 199)),(2,(.s 202)),(3,(.s 205)),(4,(.s 208))]),oA 210 406 [(.s 193),(.s 209)]]
abbrev ay.r26:=[pC 4 qT]
abbrev ay.body:=gS (gR ay.r0 [4]) (gS (.block 0 (gS (gR ay.r2 [10,11,12,13,14,15,16,17,18]) (gC 9 (gR ay.r3 [0,1,19,20,21,22]) (gS (gR ay.r4 [24,25,26,27,28,29,30,31,32]) (gC 23 (gT ay.r5 [0,1,33,34,35,36,37,38,39,40,41,42,43,44,45,46,47,48]) (gS (gR ay.r6 [50,51,52,53,54,55,56,57,58]) (gC 49 (gT ay.r7 [0,1,59,60,61,62,63,64,65,66,67,68,69,70,71,72,73,74,75,76,77,78,79,80,81,82,83,84]) (gS (gR ay.r8 [86,87,88,89,90,91,92,93,94]) (gC 85 (gT ay.r9 [0,1,95,96,97,98,99,100,101,102,103,104,105,106,107,108,109,110,111,112,113]) (gS (gR ay.r10 [115,116,117,118,119,120,121,122,123]) (gC 114 (gS (gR ay.r11 [124,125,126,127,128,129,130,131,132,133,134]) (gS (gT ay.r12 [5,135,136,137,138,139]) (gR ay.r13 [0,140,141,142]))) (gS (gR ay.r14 [144,145,146,147,148,149,150,151,152]) (gC 143 (gS (gR ay.r15 []) (gS (gS (gR ay.r16 []) (.block 1 (.loop [0,6,153] [] (gS (gR ay.r17 []) (gS (gC 154 .skip (.exit 1)) (gS (.block 2 (gS (gR ay.r18 [155]) (gS (gR ay.r19 [156,157,158,159,160,161,162,163,164,165,166]) (gC 167 (gR ay.r20 [7,168,169,170,171,172]) .skip)))) (gR ay.r21 [173]))))))) (gR ay.r22 [0,6,174,175,176,177]))) (gS (gR ay.r23 [1,179,180,181,182,183,184,185,186,187]) (gC 178 (gS (gR ay.r24 [188,189,190,191,192]) (gT ay.r25 [0,8,193,194,195,196,197,198,199,200,201,202,203,204,205,206,207,208,209,210])) (gS (gR ay.r1 []) .ret)))))))))))))))) (gS (gR ay.r26 []) .ret))
abbrev ay:=gF 2 [.tmp 4] ay.body
abbrev aL.r0:=[pN 2 aD,pC 3 qF]
abbrev aL.r1:=[oN 9 (.bslice false tS 10 [(0,(qS #[])),(1,(qS #[109,97,107,101])),(2,(qS #[108,105,110,107])),(3,(qS #[117,110,108,105,110,107])),(4,(qS #[114,101,110,97,109,101])),(5,(qS #[112,117,116])),(6,(qS #[99,117,116])),(7,(qS #[119,114,105,116,101])),(8,(qS #[115,121,110,99])),(9,(qS #[99,114,97,115,104]))]),oM 4 9]
abbrev aL.r2:=[oN 10 (.bslice false tI 10 [(0,(qI 0)),(1,(qI 3)),(2,(qI 5)),(3,(qI 3)),(4,(qI 5)),(5,(qI 5)),(6,(qI 4)),(7,(qI 2)),(8,(qI 1)),(9,(qI 1))]),oM 5 10]
abbrev aL.r3:=[oM 11 4,oM 12 0,pX 13 tS 12 0,oL 14 tS 13,oA 15 420 [(.s 11),(.s 14)],oM 6 15]
abbrev aL.r4:=[oM 16 6,oI 17 .lss 16 1,oM 18 17,oF 19 0 18,oH 20 (.len false (.s 19)) 18,oF 21 5 18,oF 22 6 18,oH 23 (.sidx false tI (.s 21) (.s 22)) 18,zL 24 tI 23 18,oH 25 (.bin .neq (.s 20) (.s 24)) 18,oO 26 18 25]
abbrev aL.r5:=[oN 27 (.build aD []),oS aD 2 27,pC 3 qF]
abbrev aL.r6:=[oN 28 (.build aD []),pN 7 aD,oS aD 7 28]
abbrev aL.r7:=[oM 29 0,oY 30 29,oI 31 .gtr 30 2]
abbrev aL.r8:=[oM 32 0,pX 33 tS 32 1,oL 34 tS 33,oM 35 0,pX 36 tS 35 2,oL 37 tS 36,oA 38 419 [(.s 34),(.s 37)],oS aD 7 38]
abbrev aL.r9:=[oM 39 6,oE 40 aD 0 tI 7,oS tI 40 39]
abbrev aL.r10:=[pC 8 qT]
abbrev aL.r11:=[oM 41 6]
abbrev aL.r12:=[oI 43 .eql 41 2,oM 42 43]
abbrev aL.r13:=[oI 44 .eql 41 4,oM 42 44]
abbrev aL.r14:=[oM 45 0,pX 46 tS 45 3,oL 47 tS 46,pQ 48 418 47,oM 49 0,pX 50 tS 49 4,oN 51 (.load false (some 0) tS (.s 50)),oE 52 aD 2 tI 7,oU (.store tI [0] (.s 52) (.s 48)),oE 53 aD 5 tS 7,oS tS 53 51]
abbrev aL.r15:=[oI 55 .eql 41 5,oM 54 55]
abbrev aL.r16:=[oM 56 0,pX 57 tS 56 3,oL 58 tS 57,oA 59 418 [(.s 58)],oE 60 aD 3 tI 7,oS tI 60 59]
abbrev aL.r17:=[oM 62 0,pX 63 tS 62 4,oL 64 tS 63,oA 65 345 [(.s 64)],oM 61 65,oZ 66 61 0,oZ 67 61 1,oE 68 aD 6 tS 7,oS tS 68 66,oM 8 67]
abbrev aL.r18:=[oI 70 .eql 41 6,oM 69 70]
abbrev aL.r19:=[oM 71 0,pX 72 tS 71 3,oL 73 tS 72,oA 74 418 [(.s 73)],oE 75 aD 3 tI 7,oS tI 75 74]
abbrev aL.r20:=[oI 77 .eql 41 7,oM 76 77]
abbrev aL.r21:=[oM 78 0,pX 79 tS 78 1,oL 80 tS 79,oA 81 418 [(.s 80)],oE 82 aD 3 tI 7,oS tI 82 81]
abbrev aL.r22:=[oL 83 aD 7,oM 84 8,oS aD 2 83,oM 3 84]
abbrev aL.body:=gS (gR aL.r0 [3]) (gS (gR aL.r1 [9]) (gS (gR aL.r2 [10]) (gS (gR aL.r3 [4,11,12,13,14,15]) (gS (gS (gR aL.r4 [5,16,17,18,19,20,21,22,23,24,25]) (gC 26 (gS (gR aL.r5 [27]) .ret) .skip)) (gS (gR aL.r6 [28]) (gS (gS (gR aL.r7 [29,30]) (gC 31 (gT aL.r8 [32,33,34,35,36,37,38]) .skip)) (gS (gR aL.r9 [39,40]) (gS (gR aL.r10 []) (gS (gS (gR aL.r11 [6]) (.block 0 (gS (gS (gR aL.r12 [43]) (gC 42 .skip (gR aL.r13 [44]))) (gC 42 (gT aL.r14 [0,45,46,47,48,49,50,51,52,53]) (gS (gR aL.r15 [55]) (gC 54 (gS (gR aL.r16 [56,57,58,59,60]) (gR aL.r17 [0,61,62,63,64,65,66,67,68])) (gS (gR aL.r18 [70]) (gC 69 (gR aL.r19 [0,71,72,73,74,75]) (gS (gR aL.r20 [41,77]) (gC 76 (gR aL.r21 [0,78,79,80,81,82]) .skip)))))))))) (gS (gR aL.r22 [7,8,83,84]) .ret))))))))))
abbrev aL:=gF 1 [.cell 2 aD,.tmp 3] aL.body
noncomputable abbrev cY.r0:=[oN 2 (.primN n5 tS [(.s 0),(.s 1)])]
noncomputable abbrev cY.body:=gS (gR cY.r0 []) .ret
noncomputable abbrev cY:=gF 2 [.tmp 2] cY.body
abbrev aF.r0:=[pC 4 (.c .nilsl)]
abbrev aF.r1:=[oM 8 0,oM 9 1,oA 10 415 [(.s 8),(.s 9)],oM 5 10]
abbrev aF.r2:=[oM 11 5,oI 12 .eql 11 (-1)]
abbrev aF.r3:=[oM 13 0,oM 4 13]
abbrev aF.r4:=[oM 14 5,oI 15 .add 14 1,oM 6 15]
abbrev aF.r5:=[oM 16 6,oM 17 0,oY 18 17,oB 19 .lss 16 18]
abbrev aF.r6:=[oM 20 6,oI 21 .add 20 1,oM 6 21]
abbrev aF.r7:=[oM 22 0,oM 23 6,oX 24 tS 22 23,oL 25 tS 24,oM 7 25]
abbrev aF.r8:=[oM 26 1,oM 27 7,oN 28 (.callv false [] (.s 26) [(.s 27)]),pU 29 28]
abbrev aF.r9:=[oM 30 0,oM 31 5,oM 32 7,oX 33 tS 30 31,oS tS 33 32]
abbrev aF.r10:=[oM 34 5,oI 35 .add 34 1,oM 5 35]
abbrev aF.r11:=[oM 36 0,oM 37 5,oN 38 (.slice none tS (.s 36) (some (.s 37)) none none),oU (.clear tS (.s 38))]
abbrev aF.r12:=[oM 39 0,oM 40 5,oN 41 (.slice none tS (.s 39) none (some (.s 40)) none),oM 4 41]
abbrev aF.body:=gS (gR aF.r0 [4]) (gS (gR aF.r1 [8,9,10]) (gS (gS (gR aF.r2 [11]) (gC 12 (gS (gR aF.r3 [0,13]) .ret) .skip)) (gS (gS (gR aF.r4 [14,15]) (.block 0 (.loop [0,1,5,6] [] (gS (gS (gR aF.r5 [16,17,18]) (gC 19 .skip (.exit 0))) (gS (.block 1 (gS (gR aF.r7 [22,23,24,25]) (gS (gR aF.r8 [26,27,28]) (gC 29 (gS (gR aF.r9 [7,30,31,32,33]) (gR aF.r10 [34,35])) .skip)))) (gR aF.r6 [20,21])))))) (gS (gR aF.r11 [36,37,38]) (gS (gR aF.r12 [0,5,39,40,41]) .ret)))))
abbrev aF:=gF 2 [.tmp 4] aF.body
abbrev d5.r0:=[pC 2 qF]
abbrev d5.r1:=[oM 3 0,pV 4 .eql 3 (qS #[]),oM 2 4]
abbrev d5.body:=gS (gR d5.r0 [2]) (gS (gR d5.r1 [0,3,4]) .ret)
abbrev d5:=gF 1 [.tmp 2] d5.body
abbrev cF.r0:=[oM 2 0,oK 3 2,oE 4 (.cons tP (.cons tSl .unit)) 0 tP 3,oU (.store tP [] (.s 4) (.c .nilp))]
abbrev cF.r1:=[oM 5 0,oK 6 5,oE 7 (.cons tP (.cons tSl .unit)) 1 tSl 6,oU (.store tSl [] (.s 7) (.c .nilsl))]
abbrev cF.body:=gS (gR cF.r0 [2,3,4]) (gR cF.r1 [0,5,6,7])
abbrev cF:=gF 1 [] cF.body
noncomputable abbrev cJ.r0:=[oN 2 (.prim jQ [(.s 0),(.s 1)])]
noncomputable abbrev cJ.body:=gS (gR cJ.r0 []) .ret
noncomputable abbrev cJ:=gF 2 [.tmp 2] cJ.body
abbrev iu.r0:=[pC 2 (qS #[])]
abbrev iu.r1:=[oM 3 0,oA 4 350 [(.s 3)],oM 2 4]
abbrev iu.body:=gS (gR iu.r0 [2]) (gS (gR iu.r1 [0,3,4]) .ret)
abbrev iu:=gF 1 [.tmp 2] iu.body
abbrev bp.r0:=[oC 4 0]
abbrev bp.r1:=[oM 6 0,oY 7 6,oC 8 0]
abbrev bp.r2:=[oB 9 .lss 8 7]
abbrev bp.r3:=[oM 10 8,oM 5 10]
abbrev bp.r4:=[oM 11 1,oM 12 0,oM 13 5,oX 14 tS 12 13,oL 15 tS 14,oN 16 (.callv false [] (.s 11) [(.s 15)])]
abbrev bp.r5:=[oM 17 5,oM 4 17]
abbrev bp.r6:=[oI 18 .add 8 1,oM 8 18]
abbrev bp.r7:=[pC 4 (qI (-1))]
abbrev bp.body:=gS (gR bp.r0 [4]) (gS (gS (gR bp.r1 [6]) (.block 0 (.loop [0,1,7,8] [7] (gS (gR bp.r2 []) (gS (gC 9 .skip (.exit 0)) (gS (.block 1 (gS (gR bp.r3 [10]) (gS (gR bp.r4 [11,12,13,14,15]) (gC 16 (gS (gR bp.r5 [5,17]) .ret) .skip)))) (gR bp.r6 [18]))))))) (gS (gR bp.r7 []) .ret))
abbrev bp:=gF 2 [.tmp 4] bp.body
noncomputable abbrev da.r0:=[oN 2 (.primS vz tS (.s 0) (.s 1))]
noncomputable abbrev da.body:=gS (gR da.r0 []) .ret
noncomputable abbrev da:=gF 2 [.tmp 2] da.body
abbrev aX.r0:=[oC 4 0,oN 5 (.mov (.c (.iface false)))]
abbrev aX.r1:=[oM 6 0,oA 7 423 [(.s 6)]]
abbrev aX.r2:=[oM 8 0,oM 9 0,oK 10 9,oE 11 (.cons tP (.cons tSl .unit)) 1 tSl 10,oL 12 tSl 11,oM 13 1,oN 14 (.appstr (.s 12) (.s 13)),oK 15 8,oE 16 (.cons tP (.cons tSl .unit)) 1 tSl 15,oS tSl 16 14]
abbrev aX.r3:=[oM 17 1,oN 18 (.len true (.s 17)),oM 4 18,oN 5 (.mov (.c (.iface false)))]
abbrev aX.body:=gS (gR aX.r0 [4,5]) (gS (gR aX.r1 [6,7]) (gS (gR aX.r2 [0,8,9,10,11,12,13,14,15,16]) (gS (gR aX.r3 [1,17,18]) .ret)))
abbrev aX:=gF 2 [.tmp 4,.tmp 5] aX.body
abbrev dz.r0:=[oC 2 0]
abbrev dz.r1:=[oM 6 0,oA 7 424 [(.s 6)],oM 5 7,oZ 8 5 0,oZ 9 5 1,oM 3 8,oM 4 9]
abbrev dz.r2:=[oM 10 4,oN 11 (.eqif true (.s 10) (.c (.iface false))),oM 12 11,oF 13 3 12,oH 14 (.call false [] 414 [(.s 13)]) 12,oF 15 0 12,oH 16 (.bin .neq (.s 14) (.s 15)) 12,oO 17 12 16,oM 18 17,oF 19 3 18,zB 20 .lss 19 0 18,oO 21 18 20]
abbrev dz.r3:=[pC 2 (qI (-1))]
abbrev dz.r4:=[oM 22 3,oM 2 22]
abbrev dz.body:=gS (gR dz.r0 [2]) (gS (gR dz.r1 [5,6,7,8,9]) (gS (gS (gR dz.r2 [0,4,10,11,12,13,14,15,16,17,18,19,20]) (gC 21 (gS (gR dz.r3 []) .ret) .skip)) (gS (gR dz.r4 [3,22]) .ret)))
abbrev dz:=gF 1 [.tmp 2] dz.body
abbrev gE.r0:=[pN 4 aD]
abbrev gE.r1:=[oM 5 0,oA 6 418 [(.s 5)],oM 7 1,oN 8 (.build aD [(1,(.s 6)),(4,(.s 7))]),oS aD 4 8]
abbrev gE.body:=gS (gR gE.r0 []) (gS (gR gE.r1 [0,1,5,6,7,8]) .ret)
abbrev gE:=gF 2 [.cell 4 aD] gE.body
abbrev bT.r0:=[oC 4 0]
abbrev bT.r1:=[oM 6 0,oY 7 6,oC 8 0]
abbrev bT.r2:=[oB 9 .lss 8 7]
abbrev bT.r3:=[oM 10 8,oM 5 10]
abbrev bT.r4:=[oM 11 1,oM 12 0,oM 13 5,oX 14 tS 12 13,oL 15 tS 14,oB 16 .eql 11 15]
abbrev bT.r5:=[oM 17 5,oM 4 17]
abbrev bT.r6:=[oI 18 .add 8 1,oM 8 18]
abbrev bT.r7:=[pC 4 (qI (-1))]
abbrev bT.body:=gS (gR bT.r0 [4]) (gS (gS (gR bT.r1 [6]) (.block 0 (.loop [0,1,7,8] [7] (gS (gR bT.r2 []) (gS (gC 9 .skip (.exit 0)) (gS (.block 1 (gS (gR bT.r3 [10]) (gS (gR bT.r4 [11,12,13,14,15]) (gC 16 (gS (gR bT.r5 [5,17]) .ret) .skip)))) (gR bT.r6 [18]))))))) (gS (gR bT.r7 []) .ret))
abbrev bT:=gF 2 [.tmp 4] bT.body
abbrev cg.r0:=[oM 8 0,oK 9 8,oE 10 (.cons (.cons tP (.cons tSl .unit)) (.cons tP .unit)) 1 tP 9,oL 11 tP 10,oK 12 11,oE 13 tLife 0 tP 12,oL 14 tP 13,oM 15 1,pX 16 tS 15 0,oL 17 tS 16,pQ 18 418 17,oM 19 1,pX 20 tS 19 1,oL 21 tS 20,oM 22 1,pX 23 tS 22 2,oL 24 tS 23,pQ 25 418 24,oA 26 271 [(.s 14),(.s 18),(.s 21),(.s 25)],oM 7 26,oZ 27 7 0,oZ 28 7 1,oZ 29 7 2,oM 4 27,oM 5 28,oM 6 29]
abbrev cg.r1:=[oM 30 0,oM 31 4,oA 32 342 [(.s 31)],oN 33 (.bslice false tS 1 [(0,(.s 32))]),oA 34 406 [(.s 30),(.s 33)]]
abbrev cg.r2:=[oM 36 6,oI 37 .neq 36 0,oM 35 37]
abbrev cg.r3:=[oM 38 0,oM 39 6,oA 40 414 [(.s 39)],oN 41 (.bslice false tS 2 [(0,(qS #[110,111])),(1,(.s 40))]),oA 42 406 [(.s 38),(.s 41)]]
abbrev cg.r4:=[oM 44 5,pU 45 44,oM 43 45]
abbrev cg.r5:=[oM 46 0,oN 47 (.bslice false tS 1 [(0,(qS #[110,111,110,101]))]),oA 48 406 [(.s 46),(.s 47)]]
abbrev cg.body:=gS (gT cg.r0 [1,7,8,9,10,11,12,13,14,15,16,17,18,19,20,21,22,23,24,25,26,27,28,29]) (.block 0 (gS (gR cg.r2 [36,37]) (gC 35 (gR cg.r3 [0,6,38,39,40,41,42]) (gS (gR cg.r4 [5,44,45]) (gC 43 (gR cg.r5 [0,46,47,48]) (gR cg.r1 [0,4,30,31,32,33,34]))))))
abbrev cg:=gF 2 [] cg.body
abbrev cM.r0:=[pC 2 (qS #[])]
abbrev cM.r1:=[oM 3 0,oA 4 425 [(.s 3)],oM 2 4]
abbrev cM.body:=gS (gR cM.r0 [2]) (gS (gR cM.r1 [0,3,4]) .ret)
abbrev cM:=gF 1 [.tmp 2] cM.body
noncomputable abbrev bA.r0:=[oE 1 tBld 0 tP 0,oL 2 tP 1,oN 3 (.prim vw [(.s 2),(.s 0)]),oN 4 (.prim pUp [(.s 0)]),oL 5 tDesk 4,oS tP 1 0]
noncomputable abbrev bA.body:=gS (gR bA.r0 []) .ret
noncomputable abbrev bA:=gF 1 [] bA.body
noncomputable abbrev dM.r0:=[oN 1 (.prim sH [(.s 0)]),oN 2 (.prim n6 [(.s 0)])]
noncomputable abbrev dM.body:=gS (gR dM.r0 []) .ret
noncomputable abbrev dM:=gF 1 [.tmp 1,.tmp 2] dM.body
abbrev bm.r0:=[pC 2 (qS #[])]
abbrev bm.r1:=[oM 3 0]
abbrev bm.r2:=[pC 2 (qS #[116,114,117,101])]
abbrev bm.r3:=[pC 2 (qS #[102,97,108,115,101])]
abbrev bm.body:=gS (gR bm.r0 [2]) (gS (gS (gR bm.r1 [0]) (gC 3 (gS (gR bm.r2 []) .ret) .skip)) (gS (gR bm.r3 []) .ret))
abbrev bm:=gF 1 [.tmp 2] bm.body
end Fn
noncomputable def Jy:List (Option MFun):=[none,none,none,none,none,none,none,none,none,none,none,none,none,none,none,none,none,none,none,none,none,none,none,none,none,none,none,none,none,none,none,none,none,none,none,none,none,none,none,none,none,none,none,none,none,none,none,none,none,none,none,none,none,none,none,none,none,none,none,none,none,none,none,none,none,none,none,none,none,none,none,none,none,none,none,none,none,none,none,none,none,none,none,none,none,none,none,none,none,none,none,none,none,none,none,none,none,none,none,none,none,none,none,none,none,none,none,none,none,none,none,none,none,none,none,none,none,none,none,none,none,none,none,none,none,none,none,none,none,none,none,none,none,none,none,none,none,none,none,none,none,none,none,none,none,none,none,none,none,none,none,none,none,none,none,none,none,none,none,none,none,none,none,none,none,none,none,none,none,none,none,none,none,none,none,none,none,none,none,none,none,none,none,none,none,none,none,none,none,none,none,none,none,none,none,none,none,none,none,none,some Fn.iv,some Fn.aA,some Fn.eM,some Fn.ei,some Fn.bN,some Fn.cA,some Fn.fG,some Fn.ay,some Fn.aL,some Fn.cY,some Fn.aF,some Fn.d5,some Fn.cF,some Fn.cJ,some Fn.iu,some Fn.bp,some Fn.da,some Fn.aX,some Fn.dz,some Fn.gE,some Fn.bT,some Fn.cg,some Fn.cM,some Fn.bA,some Fn.dM,some Fn.bm,none]
noncomputable def EF:List (Option MFun):=jG EG (List.replicate 200 none++Jy)
noncomputable def ff(f:Nat):Option MFun:=EF.getD f none
theorem Jt(i:Nat)(fn:MFun)(h:lc i=some fn):ff i=some fn:=fu _ _ _ _ h
theorem upV{e:St}(h:Ok lc cx fn e R):Ok ff cx fn e R:=by
 obtain⟨n,s',v,hr,hv,hR⟩:=h
 exact⟨n,s',v,m9 Jt hr,hv,hR⟩
section
variable{T:MTb}{cx:Cx}{k:List Item}{kill:List Nat}{r:List MOp}{sl:Slots}{own:Own}{h:HP}{Q:St->Prop}
@[go_sem] theorem Gi:(tP.fits .nilp=true)=True:=eq_true rfl
@[go_sem] theorem Iu(d:Nat)(q:List Nat)(t:Ty):(tP.fits (.ptr (.obj d) q t)=true)=True:=eq_true rfl
@[go_sem] theorem E6:(tSl.fits .nilsl=true)=True:=eq_true rfl
@[go_sem] theorem Gh(d o n:Nat):(tSl.fits (.sl (.obj d) o n)=true)=True:=eq_true rfl
def WPN(T:MTb)(cx:Cx)(o:Option (List AV))(t:Ty)(d:Nat)(r:List MOp)(kill:List Nat)(k:List Item)(sl:Slots)(own:Own)(h:HP)(Q:St->Prop):Prop:=
 onO o fun l=>(l.all fun v=>t.fits v)=true/\W T cx (.ops r kill::k) ⟨sl.set d (.sl (.obj h.next) 0 l.length),own,h.nw (.arr l.length t) (.ofList l)⟩ Q
@[go_sem] theorem Nq{f:List AV->Option (List AV)}{xs:List Opd}:W T cx (.ops (⟨some d,.primN f t xs,none⟩::r) kill::k) ⟨sl,own,h⟩ Q=WPN T cx (f (xs.map (St.opd ⟨sl,own,h⟩))) t d r kill k sl own h Q:=by
 rw[gW rfl,evOp]
 simp only[evK,WPN]
 cases f (xs.map (St.opd ⟨sl,own,h⟩))with
 |none=>rfl
 |some l=>
  simp only[cE]
  by_cases hl:(l.all fun v=>t.fits v)=true
  ·simp only[hl,if_true,true_and];rfl
  ·rw[if_neg hl];exact propext ⟨fun e=>e.elim,fun e=>absurd e.1 hl⟩
def xj(f:List AV->ByteArray->Option AV)(o:Option (List AV))(y:AV):Option AV:=match o,y with
 |some l,.str b=>jL (f l b)
 |_,_=>none
@[go_sem] theorem FX(f:List AV->ByteArray->Option AV)(l:List AV)(b:ByteArray):xj f (some l) (.str b)=jL (f l b):=rfl
@[go_sem] theorem Np{d:Option Nat}{f:List AV->ByteArray->Option AV}{s:St}:W T cx (.ops (⟨d,.primS f t x y,none⟩::r) kill::k) s Q=W1 T cx (xj f (elems (s.look cx) t (s.opd x)) (s.opd y)) d r kill k s Q:=
 gg rfl (by
  simp only[evK,xj]
  cases elems (s.look cx) t (s.opd x)with
  |none=>rfl
  |some l=>
   cases s.opd y<;>try rfl
   rename_i b
   simp only[jL]
   cases f l b with
   |none=>rfl
   |some v=>simp only;split<;>rfl)
def qx(v:AV):Option (List AV):=match v with
 | .str b=>some (b.data.toList.map fun c=>.int .u8 c.toNat)
 |_=>none
@[go_sem] theorem Dr(b:ByteArray):qx (.str b)=some (b.data.toList.map fun c=>.int .u8 (c.toNat:Nat)):=rfl
@[go_sem] theorem LF:W T cx (.ops (⟨some d,.appstr x y,none⟩::r) kill::k) ⟨sl,own,h⟩ Q=WAUo T cx (St.opd ⟨sl,own,h⟩ x) (qx (St.opd ⟨sl,own,h⟩ y)) d r kill k sl own h Q:=by
 rw[gW rfl,evOp]
 simp only[evK,WAUo]
 cases St.opd ⟨sl,own,h⟩ y<;>try rfl
 rename_i b
 simp only[qx,cE,tU8]
 cases evAppend (St.look cx ⟨sl,own,h⟩) (.leaf (.int .u8)) (St.opd ⟨sl,own,h⟩ x) (b.data.toList.map fun c=>.int .u8 c.toNat)<;>rfl
def WDr(T:MTb)(cx:Cx)(v:AV)(r:List MOp)(kill:List Nat)(k:List Item)(sl:Slots)(own:Own)(h:HP)(Q:St->Prop):Prop:=match v with
 | .sl (.obj g) _ _=>cx.prot.lets (.obj g)=true/\W T cx (.ops r kill::k) ⟨sl,own,h.dl g⟩ Q
 | .nilsl=>W T cx (.ops r kill::k) ⟨sl,own,h⟩ Q
 |_=>False
theorem Cn(hn:WDr T cx (St.opd ⟨sl,own,h⟩ x) r kill k sl own h Q):W T cx (.ops (⟨none,.drop x,none⟩::r) kill::k) ⟨sl,own,h⟩ Q:=by
 rw[gW rfl,evOp]
 simp only[evK]
 unfold WDr at hn
 split at hn
 ·rename_i g o n he
  simp only[he,cE,ax,St.drop,Id.own]
  rw[if_pos hn.1]
  exact hn.2
 ·rename_i he
  simp only[he]
  exact hn
 ·exact hn.elim
theorem Cl{lo hi:Option Opd}{i:Id}{o N:Nat}{a b:Nat}(hx:St.opd ⟨sl,own,h⟩ x=.sl i o n)(hk:St.look cx ⟨sl,own,h⟩ i=some ⟨.arr N tS,w⟩)
  (h1:(lo=none/\a=0)\/∃y,lo=some y/\toIx (St.opd ⟨sl,own,h⟩ y)=some (a:Int)) (h2:(hi=none/\b=n)\/∃y,hi=some y/\toIx (St.opd ⟨sl,own,h⟩ y)=some (b:Int))
  (hab:a<=b) (hb:o+b<=N) (hc:o+a<N\/a=0)
  (hQ:W T cx (.ops r kill::k) ⟨sl.set d (.sl i (o+a) (b-a)),own,h⟩ Q):W T cx (.ops (⟨some d,.slice none tS x lo hi none,none⟩::r) kill::k) ⟨sl,own,h⟩ Q:=by
 have e1:ixOr (St.opd ⟨sl,own,h⟩) lo 0=some (a:Int):=by
  rcases h1 with⟨rfl,rfl⟩|⟨y,rfl,e⟩
  ·rfl
  ·exact e
 have e2:ixOr (St.opd ⟨sl,own,h⟩) hi (n:Int)=some (b:Int):=by
  rcases h2 with⟨rfl,rfl⟩|⟨y,rfl,e⟩
  ·rfl
  ·exact e
 rw[gW rfl,evOp]
 have ek:evK (St.opd ⟨sl,own,h⟩) (St.look cx ⟨sl,own,h⟩) (.slice none tS x lo hi none)=some (.val (.sl i (o+a) (b-a))):=by
  simp only[evK,hx,e1,e2,rooted,if_true,f8,hk,Option.map_none,true_and]
  rw[if_pos ⟨by omega,by omega,by omega⟩,if_pos (by omega)]
  congr 3<;>omega
 rw[ek]
 exact hQ
theorem Co{o N:Nat}(hx:St.opd ⟨sl,own,h⟩ x=.sl (.obj q) o n)(hl:cx.prot.lets (.obj q)=true)(hq:h.look (.obj q)=some ⟨.arr N tS,encS l⟩)(hN:l.length=N)(hn:o+n<=N)
  (hQ:W T cx (.ops r kill::k) ⟨sl,own,h.ob q (.arr N tS) (encS (l.take o++List.replicate n ⟨#[]⟩++l.drop (o+n)))⟩ Q):W T cx (.ops (⟨none,.clear tS x,none⟩::r) kill::k) ⟨sl,own,h⟩ Q:=by
 have hf:=iW (l.take o++List.replicate n ⟨#[]⟩++l.drop (o+n)) (n:=N) (by simp;omega)
 have e:List.take o (List.map AV.str l)++List.replicate n tS.zero++List.drop (o+n) (List.map AV.str l)=List.map AV.str (l.take o++List.replicate n ⟨#[]⟩++l.drop (o+n)):=by
  simp only[List.map_append,List.map_take,List.map_drop,List.map_replicate];rfl
 rw[gW rfl,evOp]
 simp only[evK,hx,iK,no,hq,fm,List.length_map,hN,true_and,e]
 rw[if_pos hn]
 change onO (match(if(Ty.arr N tS).fits (encS (l.take o++List.replicate n ⟨#[]⟩++l.drop (o+n)))=true then some (Eff.wr (.obj q) ⟨.arr N tS,encS (l.take o++List.replicate n ⟨#[]⟩++l.drop (o+n))⟩ .bot)else none)with|some e=>ax cx none _ _ e|none=>none) _
 rw[if_pos hf]
 simp only[cE,ax,St.write,Id.own,hl,if_true,Option.map_some]
 exact hQ
end
def Txs(h:HP)(l:Nat)(v:AV)(ws:List Str):Prop:=((v=.nilsl\/v=.slz)/\ws=[])\/∃i o w,v=.sl i o ws.length/\i.below l/\h.look i=some ⟨.arr w.length tS,encS w⟩/\o+ws.length<=w.length/\(w.drop o).take ws.length=ws
theorem Txs.elems{l:Nat}(a:Txs h l v ws){L:Id->Option Blk}(hL:∀i:Id,i.below l->L i=h.look i):elems L tS v=some (ws.map AV.str):=by
 rcases a with⟨rfl|rfl,rfl⟩|⟨i,o,w,rfl,hb,hk,hle,ht⟩
 ·rfl
 ·rfl
 ·simp only[Go.Mini.elems,hL i hb,hk,fm]
  rw[if_pos (by simpa using hle),←List.map_drop,←List.map_take,ht]
theorem Txs.len{l:Nat}(a:Txs h l v ws):uj false v=some (.int .i64 ws.length):=by
 rcases a with⟨rfl|rfl,rfl⟩|⟨i,o,w,rfl,_⟩<;>rfl
theorem Txs.fg{l t:Nat}(a:Txs h l v ws):fg v (.stk l t)=v:=by
 rcases a with⟨rfl|rfl,rfl⟩|⟨i,o,w,rfl,hb,_⟩
 ·rfl
 ·rfl
 ·exact BJ hb _ _
theorem Txs.ld{l t:Nat}(a:Txs h l v ws):v.leads (.stk l t)=false:=by
 rcases a with⟨rfl|rfl,rfl⟩|⟨i,o,w,rfl,hb,_⟩
 ·rfl
 ·rfl
 ·have:(Id.stk l t==i)=false:=by simpa using fun e=>hb.ne e.symm
  simp[AV.leads,AV.isAgg,AV.names,this]
theorem Txs.push{l:Nat}(a:Txs h l v ws):Txs (h.push l o) (l+1) v ws:=by
 rcases a with a|⟨i,o',w,rfl,hb,hk,hr⟩
 ·exact .inl a
 ·refine .inr ⟨i,o',w,rfl,hb.succ,?_,hr⟩
  cases i<;>simp only[HP.look,HP.push]at hk⊢
  ·simp only[Id.below]at hb
   rw[if_neg (by omega)];exact hk
  ·exact hk
  ·exact hk
theorem SlF.txs{m:List Str}{l:Nat}(a:SlF h h1 v m):Txs h1 l v m:=by
 rcases a with⟨rfl,rfl⟩|⟨q,rfl,_,_,h2⟩
 ·exact .inl ⟨.inl rfl,rfl⟩
 ·exact .inr ⟨.obj q,0,m,rfl,ar _ _,h2,by omega,by simp⟩
section
variable{T:MTb}{cx:Cx}{k:List Item}{kill:List Nat}{r:List MOp}{sl:Slots}{own:Own}{h:HP}{Q:St->Prop}
theorem kw{i:Id}(hb:i.below cx.lvl):St.look cx ⟨sl,own,h⟩ i=h.look i:=by
 simp[St.look,o1 hb]
def ixP(v:AV)(z:Int):AV:=match v with
 | .sl i o _=>.ptr i [o+z.toNat] tS
 |_=>.bot
theorem Txs.ix(hv:Txs h cx.lvl v ws)(sl:Slots)(own:Own)(h0:0<=z)(hz:z<ws.length):qB tS v (.int kk z) (St.look cx ⟨sl,own,h⟩)=some (ixP v z):=by
 rcases hv with⟨_,rfl⟩|⟨i,o,w,rfl,hb,hk,hle,ht⟩
 ·simp at hz;omega
 ·rw[zj h0 hz,kw hb,hk,xc];rfl
theorem iA(hn:n<ws.length):txt ws n=ws[n]:=by
 simp only[txt,List.getD_eq_getElem?_getD,List.getElem?_eq_getElem hn,Option.getD_some]
theorem Txs.lv(hv:Txs h cx.lvl v ws)(sl:Slots)(own:Own)(h0:0<=z)(hz:z<ws.length):ldV tS (ixP v z) (St.rd cx ⟨sl,own,h⟩)=some (.str (txt ws z.toNat)):=by
 rcases hv with⟨_,rfl⟩|⟨i,o,w,rfl,hb,hk,hle,ht⟩
 ·simp at hz;omega
 have hlt:o+z.toNat<w.length:=by omega
 have hz':z.toNat<ws.length:=by omega
 have e:w[o+z.toNat]=ws[z.toNat]:=by
  have:=congrArg (·[z.toNat]?) ht
  simp only[List.getElem?_take,List.getElem?_drop,if_pos hz',List.getElem?_eq_getElem hz',List.getElem?_eq_getElem hlt,Option.some.injEq]at this
  exact this
 have e2:h.rd i [o+z.toNat]=some (.str (txt ws z.toNat)):=by
  simp only[HP.rd,hk,Option.bind,encS,AV.ofList,AV.at]
  rw[dif_pos (by simpa using hlt)]
  simp only[List.get_eq_getElem,List.getElem_map,iA hz']
  rw[e]
 simp only[ixP,ldV,if_true,aw hb,e2]
 rfl
theorem Txs.fgx{l t:Nat}(hv:Txs h l v ws)(z:Int):_root_.Go.Mini.fg (ixP v z) (.stk l t)=ixP v z:=by
 rcases hv with⟨rfl|rfl,rfl⟩|⟨i,o,w,rfl,hb,_⟩
 ·rfl
 ·rfl
 ·exact au hb _ _
theorem Txs.ldx{l t:Nat}(hv:Txs h l v ws)(z:Int):(ixP v z).leads (.stk l t)=false:=by
 rcases hv with⟨rfl|rfl,rfl⟩|⟨i,o,w,rfl,hb,_⟩
 ·rfl
 ·rfl
 ·exact af hb _ _
theorem Ey(hv:Txs h cx.lvl v ws)(h1:ws.length<=1000000)(h2:(fk ws s).length<=100000000):Ok ff cx Fn.da (St.enter [v,.str s] h) fun v h'=>v=.str (bsL (fk ws s))/\h'=h:=by
 have e:vz (ws.map AV.str) s=some (.str (bsL (fk ws s))):=by
  have:∀ws:List Str,strsOf (ws.map AV.str)=some ws:=by
   intro ws
   induction ws with
   |nil=>rfl
   |cons a r ih=>simp[strsOf,ih]
  simp only[vz,this]
  rw[if_pos ⟨h1,h2⟩];rfl
 rw[aE]
 simp(disch:=omega)only[go_sem,hv.elems (L:=St.look cx ⟨[(0,v),(1,.str s)],[],h⟩) (fun i hb=>kw hb),e]
theorem kP:Ok ff cx Fn.cJ (St.enter [.str s,.str ⟨#[c]⟩] h) fun v h'=>v=.bool (hasB s c)/\h'=h:=by
 have e:jQ [.str s,.str ⟨#[c]⟩]=some (.bool (hasB s c)):=rfl
 rw[aE]
 simp(disch:=omega)only[go_sem,List.map_cons,List.map_nil,e,jL,zr]
theorem y2(hs:s.size<=1000000):Ok ff cx Fn.dM (St.enter [.str s] h) fun v h'=>v=.tup (.cons (.int .i64 (gV s)) (.cons (.iface (kW s)) .unit))/\h'=h:=by
 have e1:sH [.str s]=some (.int .i64 (gV s)):=by simp only[sH];rw[if_pos hs]
 have e2:n6 [.str s]=some (.iface (kW s)):=by simp only[n6];rw[if_pos hs]
 rw[aE]
 simp(disch:=omega)only[go_sem,List.map_cons,List.map_nil,e1,e2]
theorem CB(hs:s.size<=1000000):Ok ff cx Fn.cY (St.enter [.str s,.str ⟨#[c]⟩] h) fun v h'=>v=.sl (.obj h.next) 0 (cutB s c).length/\h'=h.nw (.arr (cutB s c).length tS) (encS (cutB s c)):=by
 have e1:n5 [.str s,.str ⟨#[c]⟩]=some ((cutB s c).map .str):=by simp only[n5];rw[if_pos hs]
 have e2:(((cutB s c).map AV.str).all fun v=>tS.fits v)=true:=by simp[tS,Ty.fits,LK.fits,AV.safe]
 rw[aE]
 simp(disch:=omega)only[go_sem,List.map_cons,List.map_nil,e1,WPN,cE,e2,List.length_map]
 rw[if_pos (show(AV.sl (Id.obj h.next) 0 (cutB s c).length).safe=true from rfl)];exact⟨rfl,rfl⟩
end
def encDk(a b:AV)(p:Nat):AV:=.cons (.cons a (.cons b .unit)) (.cons (.ptr (.obj p) [] tLife) .unit)
def selfP(d:Nat):AV:=.ptr (.obj d) [0] tBld
@[go_sem] theorem Nm(a b:AV)(p:Nat):(encDk a b p).at [0,0]=some a:=by simp[encDk,AV.at]
@[go_sem] theorem Nl(a b:AV)(p:Nat):(encDk a b p).at [0,1]=some b:=by simp[encDk,AV.at]
@[go_sem] theorem OI(a b:AV)(p:Nat):(encDk a b p).at [1]=some (.ptr (.obj p) [] tLife):=by simp[encDk,AV.at]
@[go_sem] theorem Kg(a b x:AV)(p:Nat):(encDk a b p).put [0,0] x=some (encDk x b p):=by simp[encDk,AV.put]
@[go_sem] theorem Kf(a b x:AV)(p:Nat):(encDk a b p).put [0,1] x=some (encDk a x p):=by simp[encDk,AV.put]
@[go_sem] theorem IQ:Ty.field (.cons (.cons tP (.cons tSl .unit)) (.cons tP .unit)) 0=some (.cons tP (.cons tSl .unit)):=rfl
@[go_sem] theorem IP:Ty.field (.cons (.cons tP (.cons tSl .unit)) (.cons tP .unit)) 1=some tP:=rfl
@[go_sem] theorem IT:Ty.field (.cons tP (.cons tSl .unit)) 0=some tP:=rfl
@[go_sem] theorem IR:Ty.field (.cons tP (.cons tSl .unit)) 1=some tSl:=rfl
def Bu(h0 h:HP)(b:AV)(bs:List UInt8):Prop:=(b=.nilsl/\bs=[])\/∃g,b=.sl (.obj g) 0 bs.length/\h0.next<=g/\g<h.next/\h.look (.obj g)=some ⟨.arr bs.length tU8,encU (ints bs)⟩
def blkOf:AV->List Nat
 | .sl (.obj g) _ _=>[g]
 |_=>[]
theorem Fr.dlS(a:Fr h h1 S)(hq:q∈S):Fr h (h1.dl q) S:=
 ⟨a.stk,a.arg,a.next,fun n hn hs=>by
  show(if n=q then none else h1.obj n)=_
  rw[if_neg (fun e:n=q=>hs (e▸hq))];exact a.same n hn hs⟩
section
variable{cx:Cx}{h h0:HP}{d p:Nat}{a b:AV}{bs:List UInt8}
theorem uv(hl:HL cx)(hd:h.look (.obj d)=some ⟨tDesk,encDk a b p⟩)(ha:a=.nilp\/a=selfP d)(hbf:tSl.fits b=true):
  Ok ff cx Fn.bA (St.enter [selfP d] h) fun v h'=>v=.tup .unit/\h'=h.ob d tDesk (encDk (selfP d) b p):=by
 rw[aE]
 have eU:pUp [.ptr (.obj d) [0] tBld]=some (.ptr (.obj d) [] tDesk):=by simp[pUp]
 have eF:tDesk.fits (encDk a b p)=true:=by
  rcases ha with rfl|rfl<;>simp only[encDk,selfP,Ty.fits,hbf,Bool.and_true,Bool.true_and]<;>rfl
 rcases ha with rfl|rfl
 ·have e:vw [.nilp,.ptr (.obj d) [0] tBld]=some (.bool true):=by simp[vw]
  (try simp only[selfP]at eF);simp(disch:=omega)only[go_sem,selfP,hd,List.map_cons,List.map_nil,e,eU,eF,jL,cN (hl d)]
 ·have e:vw [.ptr (.obj d) [0] tBld,.ptr (.obj d) [0] tBld]=some (.bool true):=by simp[vw]
  (try simp only[selfP]at eF);simp(disch:=omega)only[go_sem,selfP,hd,List.map_cons,List.map_nil,e,eU,eF,jL,cN (hl d)]
theorem CD(hl:HL cx)(hd:h.look (.obj d)=some ⟨tDesk,encDk a b p⟩):
  Ok ff cx Fn.cF (St.enter [selfP d] h) fun v h'=>v=.tup .unit/\h'=h.ob d tDesk (encDk .nilp .nilsl p):=by
 rw[aE]
 simp(disch:=omega)only[go_sem,selfP,hd,cN (hl d)]
theorem yl(hl:HL cx)(hd:h.look (.obj d)=some ⟨tDesk,encDk a b p⟩)(ha:a=.nilp\/a=selfP d)(hb:Bu h0 h b bs)(hn:bs.length<=1048576):
  Ok ff cx Fn.bN (St.enter [selfP d] h) fun v h'=>v=.str (bsL bs)/\Fr h h' (blkOf b):=by
 rw[aE]
 have eU:pUp [.ptr (.obj d) [0] tBld]=some (.ptr (.obj d) [] tDesk):=by simp[pUp]
 have eF:tDesk.fits (encDk a b p)=true:=by
  rcases ha with rfl|rfl<;>rcases hb with⟨rfl,_⟩|⟨g,rfl,_⟩<;>rfl
 rcases hb with⟨rfl,rfl⟩|⟨g,rfl,h1,h2,h3⟩
 ·simp(disch:=omega)only[go_sem,selfP,hd,eU,eF,List.map_cons,List.map_nil,jL,show zI [.nilsl]=some (.bool true)from rfl]
  refine Cn ?_
  simp(disch:=omega)only[go_sem,WDr]
  exact Fr.refl _ _
 ·simp(disch:=omega)only[go_sem,selfP,hd,h3,eU,eF,List.map_cons,List.map_nil,jL,show zI [.sl (.obj g) 0 bs.length]=some (.bool true)from if_pos hn]
  rw[jk (by rw[d4])]
  simp(disch:=omega)only[go_sem]
  refine Cn ?_
  simp(disch:=omega)only[go_sem,WDr,hl g]
  exact(Fr.refl _ _).dlS (by simp[blkOf])
theorem G2{k:List Item}{kill:List Nat}{r:List MOp}{sl:Slots}{own:Own}{Q:St->Prop}{dd:Nat}(hl:HL cx)
  (hb:Bu h0 h b bs) (h0n:h0.next<=h.next) (hm:bs.length+s.size<=1048576)
  (hQ:∀b' h',Bu h0 h' b' (bs++s.data.toList)->Fr h h' (blkOf b)->(∃q n,b'=.sl (.obj q) 0 n)\/b'=.nilsl->W T cx (.ops r kill::k) ⟨sl.set dd b',own,h'⟩ Q):
  WAUo T cx b (some (s.data.toList.map fun c=>.int .u8 (c.toNat:Nat))) dd r kill k sl own h Q:=by
 have hsz:s.data.toList.length=s.size:=Array.length_toList
 have emap:∀l:List UInt8,(l.map fun c=>AV.int .u8 (c.toNat:Nat))=(ints l).map (AV.int .u8):=fun l=>by simp[ints]
 rcases hb with⟨rfl,rfl⟩|⟨g,rfl,g1,g2,g3⟩
 ·by_cases h0:s.data.toList=[]
  ·rw[h0]
   simp only[WAUo,cE,evAppend,List.map_nil,List.length_nil,if_true]
   refine hQ .nilsl h (.inl ⟨rfl,by simp[h0]⟩) (Fr.refl _ _) (.inr rfl)
  ·have hpos:0<s.data.toList.length:=List.length_pos_iff.2 h0
   have hf:=jX (ints s.data.toList) (n:=s.data.toList.length) (by simp[ints])
   simp only[encU,←emap]at hf
   simp only[WAUo,cE,evAppend,List.length_map]
   rw[if_neg (by omega),if_pos ⟨hf,by simp at hm;omega⟩]
   have:=hQ (.sl (.obj h.next) 0 s.data.toList.length) (h.nw (.arr s.data.toList.length tU8) (encU (ints s.data.toList))) (.inr ⟨h.next,by simp,h0n,Nat.lt_succ_self _,by simp only[List.nil_append];exact d7⟩) Fr.nw (.inl ⟨_,_,rfl⟩)
   simp only[encU,←emap]at this
   exact this
 ·by_cases h0:s.data.toList=[]
  ·have hf:=jX (ints bs) (n:=bs.length) (by rw[d4])
   have e1:List.take (0+bs.length) (List.map (AV.int .u8) (ints bs))++[]++List.drop (0+bs.length+0) (List.map (AV.int .u8) (ints bs))=List.map (AV.int .u8) (ints bs):=by
    rw[List.take_of_length_le (by simp[d4]),List.drop_of_length_le (by simp[d4])];simp
   rw[h0]
   simp only[WAUo,cE,evAppend,no,g3,jz,List.map_nil,List.length_nil,List.length_map,d4,if_true,e1]
   rw[if_pos (by omega),if_pos (show(Ty.arr bs.length tU8).fits (.ofList (List.map (AV.int .u8) (ints bs)))=true from hf)]
   simp only[cE,ax,St.write,Id.own,hl,if_true,Option.map_some,Nat.add_zero]
   have e2:h.set (.obj g) ⟨.arr bs.length tU8,.ofList (List.map (AV.int .u8) (ints bs))⟩=h:=eJ (t:=.arr bs.length tU8) (v:=encU (ints bs)) g3
   rw[e2]
   exact hQ (.sl (.obj g) 0 bs.length) h (.inr ⟨g,by simp[h0],g1,g2,by simp only[h0,List.append_nil];exact g3⟩) (Fr.refl _ _) (.inl ⟨_,_,rfl⟩)
  ·have hpos:0<s.data.toList.length:=List.length_pos_iff.2 h0
   rw[emap,o7 (hl g) g3 (d4 _) (by rw[d4];exact hpos) (by rw[d4];omega)]
   rw[d4]
   refine hQ (.sl (.obj h.next) 0 (bs.length+s.data.toList.length)) ((h.dl g).nw (.arr (bs.length+s.data.toList.length) tU8) (encU (ints bs++ints s.data.toList))) (.inr ⟨h.next,by simp,h0n,Nat.lt_succ_self _,?_⟩) ?_ (.inl ⟨_,_,rfl⟩)
   ·have:(HP.nw (h.dl g) (.arr (bs.length+s.data.toList.length) tU8) (encU (ints bs++ints s.data.toList))).look (.obj h.next)=_:=d7 (h:=h.dl g)
    rw[this]
    simp[ints]
   ·exact((Fr.refl _ _).dlS (by simp[blkOf])).trans Fr.nw
theorem Al(hl:HL cx)(hd:h.look (.obj d)=some ⟨tDesk,encDk a b p⟩)(ha:a=.nilp\/a=selfP d)(hb:Bu h0 h b bs)(h0n:h0.next<=h.next)(hdn:d<h0.next)(hm:bs.length+s.size<=1048576):
  Ok ff cx Fn.aX (St.enter [selfP d,.str s] h) fun v h'=>Fr h h' (d::blkOf b)/\∃b',h'.look (.obj d)=some ⟨tDesk,encDk (selfP d) b' p⟩/\Bu h0 h' b' (bs++s.data.toList):=by
 have hbf:(tSl.fits b=true):=by
  rcases hb with⟨rfl,_⟩|⟨g,rfl,_⟩<;>rfl
 rw[aE]
 simp(disch:=omega)only[go_sem,selfP]
 refine bK (v:=.tup .unit) (h.ob d tDesk (encDk (selfP d) b p)) rfl ⟨rfl,rfl⟩ rfl (by simp only[go_sem];exact uv (by exact hl) (by simp only[go_sem,hd]) ha hbf) ?_
 have hb1:Bu h0 (h.ob d tDesk (encDk (selfP d) b p)) b bs:=by
  rcases hb with e|⟨g,e,g1,g2,g3⟩
  ·exact .inl e
  ·exact .inr ⟨g,e,g1,g2,by rw[b0 (by omega)];exact g3⟩
 simp(disch:=omega)only[go_sem,selfP,hbf]
 refine G2 (b:=b) (bs:=bs) (s:=s) (h0:=h0) (by exact hl) hb1 h0n hm ?_
 rintro b' h' hb' hF hs
 have hbl:d∉blkOf b:=by
  rcases hb with⟨rfl,_⟩|⟨g,rfl,g1,_⟩
  ·simp[blkOf]
  ·simp[blkOf];omega
 have hd':h'.look (.obj d)=some ⟨tDesk,encDk (selfP d) b p⟩:=hF.look (by show d<h.next;omega) hbl gm
 have hbf':(tSl.fits b'=true):=by rcases hs with⟨q,n,rfl⟩|rfl<;>rfl
 have hdl:=hb'
 simp(disch:=omega)only[go_sem,cN (hl d),hd',hbf']
 refine⟨((Fr.ob (S:=d::blkOf b) (by simp)).trans (hF.mono fun n hn _=>by simp[hn])).trans (Fr.ob (by simp)),b',rfl,?_⟩
 rcases hdl with e|⟨g,e,g1,g2,g3⟩
 ·exact .inl e
 ·exact .inr ⟨g,e,g1,g2,by rw[b0 (by omega)];exact g3⟩
end
structure Desk0(h0:HP)(d p f c:Nat):Prop where
 dn:d<h0.next
 pn:p<h0.next
 fn:f<h0.next
 cn:c<h0.next
 dp:¬d=p
 df:¬d=f
 dc:¬d=c
structure DK(h0 h:HP)(d p f0 c0:Nat)(L:Lf)(bs:List UInt8):Prop where
 st:Desk0 h0 d p f0 c0
 fr:Fr h0 h [d,p,f0,c0]
 ex:∃a b f c,h.look (.obj d)=some ⟨tDesk,encDk a b p⟩/\(a=.nilp\/a=selfP d)/\Bu h0 h b bs/\LifeAt h p f c L/\((f=f0/\c=c0)\/(h0.next<=f/\h0.next<=c))
section
variable{h0 h h1:HP}{d p f0 c0 l:Nat}{o:Own}{L L':Lf}{bs bs':List UInt8}
theorem DK.push(a:DK h0 h d p f0 c0 L bs):DK (h0.push l o) (h.push l o) d p f0 c0 L bs:=by
 obtain⟨⟨s1,s2,s3,s4,s5,s6,s7⟩,fr,a,b,f,c,e1,e2,e3,e4,e5⟩:=a
 exact⟨⟨s1,s2,s3,s4,s5,s6,s7⟩,⟨by simp only[HP.push,fr.stk],fr.arg,fr.next,fr.same⟩,a,b,f,c,e1,e2,e3,e4.push,e5⟩
theorem DK.pop(a:DK (h0.push l o) (h.push l o) d p f0 c0 L bs)(hs:h.stk=h0.stk):DK h0 h d p f0 c0 L bs:=by
 obtain⟨⟨s1,s2,s3,s4,s5,s6,s7⟩,fr,a,b,f,c,e1,e2,e3,e4,e5⟩:=a
 exact⟨⟨s1,s2,s3,s4,s5,s6,s7⟩,⟨hs,fr.arg,fr.next,fr.same⟩,a,b,f,c,e1,e2,e3,e4.pop,e5⟩
theorem DK.stk(a:DK h0 h d p f0 c0 L bs):h.stk=h0.stk:=a.fr.stk
theorem Bu.fr{b:AV}(a:Bu h0 h b bs)(hF:Fr h h1 S)(hS:∀g∈S,∀n v,h.look (.obj g)≠some ⟨.arr n tU8,v⟩):Bu h0 h1 b bs:=by
 rcases a with e|⟨g,e,g1,g2,g3⟩
 ·exact .inl e
 ·exact .inr ⟨g,e,g1,Nat.lt_of_lt_of_le g2 hF.next,hF.look g2 (fun hg=>hS g hg _ _ g3) g3⟩
theorem Bu.not{b:AV}(a:Bu h0 h b bs)(hn:h.look (.obj n)=some ⟨t,v⟩)(ht:∀m,t≠ .arr m tU8):n∉blkOf b:=by
 rcases a with⟨rfl,_⟩|⟨g,rfl,_,_,g3⟩
 ·simp[blkOf]
 ·simp only[blkOf,List.mem_singleton]
  rintro rfl
  rw[hn]at g3
  simp only[Option.some.injEq,Blk.mk.injEq]at g3
  exact ht _ g3.1
theorem LifeAt.fr{c:Nat}(a:LifeAt h p f c L)(hF:Fr h h1 S)(hp:p∉S)(h2:f∉S)(h3:c∉S):LifeAt h1 p f c L:=
 ⟨hF.look a.pn hp a.li,hF.look a.fn h2 a.fi,hF.look a.cn h3 a.ca,a.pf,a.fc,a.pc,Nat.lt_of_lt_of_le a.pn hF.next,Nat.lt_of_lt_of_le a.fn hF.next,Nat.lt_of_lt_of_le a.cn hF.next⟩
theorem DK.same(a:DK h0 h d p f0 c0 L bs)(hF:Fr h h1 []):DK h0 h1 d p f0 c0 L bs:=by
 obtain⟨st,fr,a,b,f,c,e1,e2,e3,e4,e5⟩:=a
 have:=fr.next
 have:=st.dn
 exact⟨st,fr.trans (hF.mono (by simp)),a,b,f,c,hF.look (by omega) (by simp) e1,e2,e3.fr hF (by simp),e4.fr hF (by simp) (by simp) (by simp),e5⟩
theorem DK.step{c:Nat}(a:DK h0 h d p f0 c0 L bs)(hf:∀f' c',LifeAt h p f' c' L->f'=f/\c'=c)(hF:Fr h h1 [p,f,c])(hT:js h h1 p f c L'):DK h0 h1 d p f0 c0 L' bs:=by
 obtain⟨st,fr,a,b,f',c',e1,e2,e3,e4,e5⟩:=a
 obtain⟨rfl,rfl⟩:=hf _ _ e4
 have:=fr.next
 obtain⟨s1,s2,s3,s4,s5,s6,s7⟩:=id st
 have hdn:d∉[p,f',c']:=by simp;omega
 obtain⟨f2,c2,hA,hx⟩:=hT
 refine⟨st,⟨hF.stk.trans fr.stk,hF.arg.trans fr.arg,Nat.le_trans fr.next hF.next,fun n hn hs=>(hF.same n (by omega) ?_).trans (fr.same n hn hs)⟩,a,b,f2,c2,hF.look (by omega) hdn e1,e2,e3.fr hF ?_,hA,?_⟩
 ·simp only[List.mem_cons,List.not_mem_nil,or_false,not_or]at hs⊢
  omega
 ·intro g hg n v e
  simp only[List.mem_cons,List.not_mem_nil,or_false]at hg
  rcases hg with rfl|rfl|rfl
  ·rw[e4.li]at e;simp[tLife]at e
  ·rw[e4.fi]at e;simp[tFiles]at e
  ·rw[e4.ca]at e;simp[tCache]at e
 ·rcases hx with⟨rfl,rfl⟩|⟨x1,x2⟩
  ·exact e5
  ·exact .inr ⟨by omega,by omega⟩
theorem DK.write{a b b':AV}{c:Nat}(st:Desk0 h0 d p f0 c0)(fr:Fr h0 h [d,p,f0,c0])(e1:h.look (.obj d)=some ⟨tDesk,encDk a b p⟩)(e3:Bu h0 h b bs)(e4:LifeAt h p f c L)(e5:(f=f0/\c=c0)\/(h0.next<=f/\h0.next<=c))
  (hF:Fr h h1 (d::blkOf b)) (e6:h1.look (.obj d)=some ⟨tDesk,encDk (selfP d) b' p⟩) (e7:Bu h0 h1 b' bs'):DK h0 h1 d p f0 c0 L bs':=by
 have:=fr.next
 obtain⟨s1,s2,s3,s4,s5,s6,s7⟩:=id st
 have hb:∀n∈blkOf b,h0.next<=n:=by
  rcases e3 with⟨rfl,_⟩|⟨g,rfl,g1,_⟩<;>simp[blkOf]
  exact g1
 refine⟨st,⟨hF.stk.trans fr.stk,hF.arg.trans fr.arg,Nat.le_trans fr.next hF.next,fun n hn hs=>(hF.same n (by omega) ?_).trans (fr.same n hn hs)⟩,selfP d,b',f,c,e6,.inr rfl,e7,e4.fr hF ?_ ?_ ?_,e5⟩
 ·simp only[List.mem_cons,List.not_mem_nil,or_false,not_or]at hs⊢
  exact⟨hs.1,fun hm=>by have:=hb n hm;omega⟩
 ·simp only[List.mem_cons,not_or]
  exact⟨by omega,e3.not e4.li (by simp[tLife])⟩
 ·simp only[List.mem_cons,not_or]
  exact⟨by omega,e3.not e4.fi (by simp[tFiles])⟩
 ·simp only[List.mem_cons,not_or]
  exact⟨by omega,e3.not e4.ca (by simp[tCache])⟩
end
theorem eh{k:List Item}{kill:List Nat}{r:List MOp}{sl:Slots}{own:Own}{h0:HP}{Q:St->Prop}{R:AV->Prop}{L':Lf}{bs':List UInt8}{f0 c0:Nat}
 {args:List Opd} {dd:Option Nat} (hf:T f=some fn) (hp:fn.params=args.length/\fn.nfree=0) (hs:h.stk=h0.stk)
  (hc:Ok T (St.callCx ⟨sl,own,h⟩ cx prot) fn (St.enter (args.map (St.opd ⟨sl,own,h⟩)) (h.push cx.lvl own)) fun v' h'=>R v'/\DK (h0.push cx.lvl own) h' d p f0 c0 L' bs')
  (hq:∀v h1,R v->DK h0 h1 d p f0 c0 L' bs'->W T cx (.ops r kill::k) (St.setd ⟨sl,own,h1⟩ dd v) Q):
  W T cx (.ops (⟨dd,.call prot [] f args,none⟩::r) kill::k) ⟨sl,own,h⟩ Q:=by
 refine nN (R:=fun v h1=>R v/\DK h0 h1 d p f0 c0 L' bs') hf hp (hc.mono fun v h' e=>?_) fun v h1 e=>hq v h1 e.1 e.2
 obtain⟨e1,e2⟩:=e
 have hF:=e2.fr
 have hh:h'=HP.push ⟨h0.stk,h'.obj,h'.next,h'.arg⟩ cx.lvl own:=by
  have:=hF.stk
  cases h'
  simp only at this
  subst this
  rfl
 refine⟨⟨h0.stk,h'.obj,h'.next,h'.arg⟩,hh,hs.symm,e1,?_⟩
 exact DK.pop (by rw[←hh];exact e2) rfl
def sayL(ws:List Str):List UInt8:=fk ws ⟨#[32]⟩++[10]
section
variable{cx:Cx}{h0 h:HP}{d p f0 c0:Nat}{L:Lf}{bs:List UInt8}
theorem tW{t:List UInt8}(hl:HL cx)(hD:DK h0 h d p f0 c0 L bs)(hm:bs.length+t.length<=1048576):
  Ok ff cx Fn.aX (St.enter [selfP d,.str (bsL t)] h) fun v h'=>DK h0 h' d p f0 c0 L (bs++t):=by
 have el:(bsL t).data.toList=t:=by simp[bsL]
 obtain⟨st,fr,a,b,f,c,e1,e2,e3,e4,e5⟩:=hD
 refine(Al hl e1 e2 e3 fr.next st.dn (by rw[dm];exact hm)).mono fun v h' e=>?_
 obtain⟨hF,b',e6,e7⟩:=e
 rw[el]at e7
 exact DK.write st fr e1 e3 e4 e5 hF e6 e7
theorem hY(hl:HL cx)(hD:DK h0 h d p f0 c0 L bs)(hv:Txs h cx.lvl v ws)(hw:ws.length<=1000)(hm:bs.length+(sayL ws).length<=1048576):
  Ok ff cx Fn.fG (St.enter [.ptr (.obj d) [] tDesk,v] h) fun v h'=>v=.tup .unit/\DK h0 h' d p f0 c0 L (bs++sayL ws):=by
 have h2:(sayL ws).length=(fk ws ⟨#[32]⟩).length+1:=by simp[sayL]
 rw[aE]
 simp(disch:=omega)only[go_sem]
 refine am rfl ⟨rfl,rfl⟩ (by simp only[go_sem];exact Ey (ws:=ws) (s:=⟨#[32]⟩) hv.push (by omega) (by omega)) ?_
 simp(disch:=omega)only[go_sem]
 have ea:evStr .add (bsL (fk ws ⟨#[32]⟩)) ⟨#[10]⟩=some (.str (bsL (sayL ws))):=cD (b:=[10]) (by simp;omega)
 simp(disch:=omega)only[go_sem,ea]
 refine eh (h0:=h0) (R:=fun _=>True) (L':=L) (bs':=bs++sayL ws) (d:=d) (p:=p) (f0:=f0) (c0:=c0) rfl ⟨rfl,rfl⟩ hD.stk (by simp only[go_sem];exact tW (by exact hl) hD.push hm) ?_
 intro v' h1 _ h2
 simp(disch:=omega)only[go_sem]
 exact h2
end
end Go.Mini
