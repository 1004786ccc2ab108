/- A part of the proof: what Dd computes, step by step. -/
import Derived.Test.YtpkndgkaecamlaaGreatDoorDdPf
import Derived.Lib.AtoiAllCases
import Derived.Lib.ItoaLen

set_option linter.unusedSimpArgs false
set_option linter.unusedVariables false
set_option maxHeartbeats 8000000
set_option maxRecDepth 100000
set_option linter.unusedSectionVars false
set_option linter.unnecessarySimpa false
namespace Go.Mini
variable{l ls ws:List Str}{s:Str}{v:AV}
section
variable{cx:Cx}{h:HP}
theorem wO:Ok ff cx Fn.d5 (St.enter [.str s] h) fun v h'=>v=.bool (decide (s=⟨#[]⟩))/\h'=h:=by
 rw[aE]
 simp(disch:=omega)only[go_sem]
theorem AB(hv:Txs h cx.lvl v ws)(hn:ws.length<=1000000000):Ok ff cx Fn.bp (St.enter [v,.func 411 .unit] h) fun v' h'=>v'=.int .i64 (findN ws.length fun j=>decide (txt ws j=⟨#[]⟩))/\h'=h:=by
 have hix:=fun z sl own=>hv.ix (cx:=cx) (kk:=.i64) (z:=z) sl own
 have hlv:=fun z sl own=>hv.lv (cx:=cx) (z:=z) sl own
 rw[aE]
 simp(disch:=omega)only[go_sem,hv.len]
 refine cm ws.length (fun j=>⟨[(0,v),(1,.func 411 .unit),(7,.int .i64 ws.length),(8,.int .i64 j)],[],h⟩) (fun j=>∀i,i<j->decide (txt ws i=⟨#[]⟩)=false) (by simp only[go_sem]<;>rfl) (fun i hi=>by omega) fun j hj hp ih=>?_
 by_cases hlt:j<ws.length
 ·simp(disch:=omega)only[go_sem,hlt,hix,hlv]
  refine rK (v:=.bool (decide (txt ws j=⟨#[]⟩))) (by simp only[go_sem]<;>rfl) rfl ⟨rfl,rfl⟩ (by simp only[go_sem];exact wO) ?_
  by_cases c:txt ws j=⟨#[]⟩
  ·simp(disch:=omega)only[go_sem,c]
   rw[dV (j:=j) hp (by simp[c]) hlt]
  ·simp(disch:=omega)only[go_sem,c]
   refine ih _ hlt (aJ hp (by simp[c])) ?_
   simp only[go_sem]
 ·simp(disch:=omega)only[go_sem,hlt]
  obtain rfl:j=ws.length:=by omega
  rw[findN_none hp]
theorem AA(hv:Txs h cx.lvl v ws)(hn:ws.length<=1000000000):Ok ff cx Fn.bT (St.enter [v,.str s] h) fun v' h'=>v'=.int .i64 (findN ws.length fun j=>decide (s=txt ws j))/\h'=h:=by
 have hix:=fun z sl own=>hv.ix (cx:=cx) (kk:=.i64) (z:=z) sl own
 have hlv:=fun z sl own=>hv.lv (cx:=cx) (z:=z) sl own
 rw[aE]
 simp(disch:=omega)only[go_sem,hv.len]
 refine cm ws.length (fun j=>⟨[(0,v),(1,.str s),(7,.int .i64 ws.length),(8,.int .i64 j)],[],h⟩) (fun j=>∀i,i<j->decide (s=txt ws i)=false) (by simp only[go_sem]<;>rfl) (fun i hi=>by omega) fun j hj hp ih=>?_
 by_cases hlt:j<ws.length
 ·by_cases c:s=txt ws j
  ·simp(disch:=omega)only[go_sem,hlt,hix,hlv,c]
   rw[dV (j:=j) (fun i hi=>by rw[←c];exact hp i hi) (by simp) hlt]
  ·simp(disch:=omega)only[go_sem,hlt,hix,hlv,c]
   refine ih _ hlt (aJ hp (by simp[c])) ?_
   simp only[go_sem]
 ·simp(disch:=omega)only[go_sem,hlt]
  obtain rfl:j=ws.length:=by omega
  rw[findN_none hp]
def numC(s:Str):Int:=if kW s=true\/¬bsL (bz (gV s))=s\/gV s<0 then -1 else gV s
theorem tF(s:Str):i64 (gV s):=by
 unfold gV
 split
 ·rename_i v hv
  have:=Lib.atoiAll_bounds hv
  exact⟨by omega,by omega⟩
 ·have:=Lib.atoiSat_bounds s.data.toList
  exact⟨by omega,by omega⟩
 ·exact⟨by decide,by decide⟩
theorem jD{n:Int}(hn:i64 n):Ok ff cx Fn.iu (St.enter [.int .i64 n] h) fun v h'=>v=.str (bsL (bz n))/\h'=h:=by
 rw[aE]
 simp(disch:=omega)only[go_sem]
 refine am rfl ⟨rfl,rfl⟩ (by simp only[go_sem];exact upV (yW hn)) ?_
 simp(disch:=omega)only[go_sem]
theorem eP(hs:s.size<=1000000):Ok ff cx Fn.dz (St.enter [.str s] h) fun v h'=>v=.int .i64 (numC s)/\h'=h:=by
 rw[aE]
 simp(disch:=omega)only[go_sem]
 refine am rfl ⟨rfl,rfl⟩ (by simp only[go_sem];exact y2 hs) ?_
 simp(disch:=omega)only[go_sem]
 cases he:kW s with
 |true=>
  simp(disch:=omega)only[go_sem,he]
  simp[numC,he]
 |false=>
  simp(disch:=omega)only[go_sem,he]
  refine am rfl ⟨rfl,rfl⟩ (by simp only[go_sem];exact jD (tF s)) ?_
  simp(disch:=omega)only[go_sem]
  by_cases c1:bsL (bz (gV s))=s
  ·by_cases c2:gV s<0
   ·simp(disch:=omega)only[go_sem,c1,c2]
    simp[numC,he,c2]
   ·simp(disch:=omega)only[go_sem,c1,c2]
    simp[numC,he,c1,c2]
  ·simp(disch:=omega)only[go_sem,c1]
   simp[numC,he,c1]
theorem yf{b:Bool}:Ok ff cx Fn.cM (St.enter [.bool b] h) fun v h'=>v=.str (if b=true then⟨#[116,114,117,101]⟩else⟨#[102,97,108,115,101]⟩)/\h'=h:=by
 have:∀{cx:Cx} {h:HP},Ok ff cx Fn.bm (St.enter [.bool b] h) fun v h'=>v=.str (if b=true then⟨#[116,114,117,101]⟩else⟨#[102,97,108,115,101]⟩)/\h'=h:=by
  intro cx h
  rw[aE]
  cases b
  ·simp(disch:=omega)only[go_sem]
  ·simp(disch:=omega)only[go_sem]
 rw[aE]
 simp(disch:=omega)only[go_sem]
 refine am rfl ⟨rfl,rfl⟩ (by simp only[go_sem];exact this) ?_
 simp(disch:=omega)only[go_sem]
theorem least{p:Nat->Bool}:∀n,(∃i,i<n/\p i=true)->∃j,j<n/\p j=true/\∀i,i<j->p i=false
 |0,⟨i,h,_⟩=>by omega
 |n+1,⟨i,h,hp⟩=>by
  by_cases e:∃i,i<n/\p i=true
  ·obtain⟨j,h1,h2,h3⟩:=least n e
   exact⟨j,by omega,h2,h3⟩
  ·have hn:∀i,i<n->p i=false:=fun i hi=>by
    cases hx:p i with
    |false=>rfl
    |true=>exact absurd ⟨i,hi,hx⟩ e
   have:i=n:=by
    rcases Nat.lt_or_ge i n with h'|h'
    ·exact absurd ⟨i,h',hp⟩ e
    ·omega
   subst this
   exact⟨i,by omega,hp,hn⟩
def full(l:List Str):List Str:=l.filter fun s=>!decide (s=⟨#[]⟩)
theorem AE{q:Nat}(hl:HL cx)(hq:h.look (.obj q)=some ⟨.arr l.length tS,encS l⟩)(hn:l.length<=1000000000):
  Ok ff cx Fn.aF (St.enter [.sl (.obj q) 0 l.length,.func 411 .unit] h) fun v h'=>v=.sl (.obj q) 0 (full l).length/\∃w:List Str,w.length=l.length/\w.take (full l).length=full l/\h'=h.ob q (.arr l.length tS) (encS w):=by
 have hv:Txs h cx.lvl (.sl (.obj q) 0 l.length) l:=.inr ⟨.obj q,0,l,rfl,ar _ _,hq,by omega,by simp⟩
 have hself:h.ob q (.arr l.length tS) (encS l)=h:=eJ hq
 rw[aE]
 simp(disch:=omega)only[go_sem]
 refine am rfl ⟨rfl,rfl⟩ (by simp only[go_sem];exact AB hv.push hn) ?_
 by_cases hall:∀i,i<l.length->decide (txt l i=⟨#[]⟩)=false
 ·rw[findN_none hall]
  simp(disch:=omega)only[go_sem]
  have e:full l=l:=by
   refine List.filter_eq_self.2 fun a ha=>?_
   obtain⟨i,hi,rfl⟩:=List.getElem_of_mem ha
   have:=hall i hi
   rw[iA hi]at this
   simp at this
   simp[this]
  exact⟨by rw[e],l,rfl,by rw[e];simp,hself.symm⟩
 ·obtain⟨i0,hi0,hp0,hb0⟩:=least (p:=fun i=>decide (txt l i=⟨#[]⟩)) l.length (by
   rcases Classical.not_forall.1 hall with⟨i,hi⟩
   refine⟨i,?_⟩
   rcases Nat.lt_or_ge i l.length with h'|h'
   ·refine⟨h',?_⟩
    cases hx:decide (txt l i=⟨#[]⟩)with
    |true=>rfl
    |false=>exact absurd (fun _=>hx) hi
   ·exact absurd (fun h''=>by omega) hi)
  rw[dV hb0 hp0 hi0]
  have f0:full (l.take (i0+1))=l.take i0:=by
   have e1:l.take (i0+1)=l.take i0++[l[i0]]:=by rw[List.take_add_one,List.getElem?_eq_getElem hi0];rfl
   have e2:l[i0]=⟨#[]⟩:=by have:=hp0;rw[iA hi0]at this;simpa using this
   have e3:full (l.take i0)=l.take i0:=by
    refine List.filter_eq_self.2 fun a ha=>?_
    obtain⟨i,hi,rfl⟩:=List.getElem_of_mem ha
    have hi':i<i0:=by simp at hi;omega
    have:=hb0 i hi'
    rw[iA (by omega)]at this
    simp at this
    simp[this]
   rw[e1]
   simp only[full,List.filter_append]at e3⊢
   rw[e3,e2]
   simp
  simp(disch:=omega)only[go_sem]
  refine gv (α:=List Str) (l.length-(i0+1)) (fun k m=>⟨[(0,.sl (.obj q) 0 l.length),(1,.func 411 .unit),(5,.int .i64 ((full (l.take (i0+1+k))).length:Nat)),(6,.int .i64 ((i0+1+k:Nat):Int))],[],h.ob q (.arr l.length tS) (encS m)⟩)
   (fun k m=>m.length=l.length/\m.take (full (l.take (i0+1+k))).length=full (l.take (i0+1+k))/\m.drop (i0+1+k)=l.drop (i0+1+k)/\(full (l.take (i0+1+k))).length<=i0+k) l ?_ ?_ fun k m hk hp ih=>?_
  ·have e:(full (l.take (i0+1+0))).length=i0:=by rw[Nat.add_zero,f0,List.length_take];omega
   simp only[go_sem,hself,e,Nat.add_zero]<;>rfl
  ·simp only[Nat.add_zero,f0,List.length_take,true_and,and_true]
   refine⟨?_,by omega⟩
   rw[Nat.min_eq_left (by omega)]
  obtain⟨m1,m2,m3,m4⟩:=hp
  have et:((i0:Int)+1+(k:Int)).toNat=i0+1+k:=by omega
  have hqm:(h.ob q (.arr l.length tS) (encS m)).look (.obj q)=some ⟨.arr l.length tS,encS m⟩:=gm
  by_cases hlt:i0+1+k<l.length
  ·have hx:txt m (i0+1+k)=l[i0+1+k]:=by
    rw[iA (by omega)]
    have:=congrArg (·[0]?) m3
    simpa[List.getElem?_drop,List.getElem?_eq_getElem hlt,List.getElem?_eq_getElem (show i0+1+k<m.length by omega)]using this
   have et1:l.take (i0+1+(k+1))=l.take (i0+1+k)++[l[i0+1+k]]:=by
    rw[show i0+1+(k+1)=(i0+1+k)+1 by omega,List.take_add_one,List.getElem?_eq_getElem hlt];rfl
   have ef:full (l.take (i0+1+(k+1)))=full (l.take (i0+1+k))++(if l[i0+1+k]=⟨#[]⟩then[]else[l[i0+1+k]]):=by
    rw[et1]
    simp only[full,List.filter_append]
    congr 1
    by_cases c:l[i0+1+k]=⟨#[]⟩<;>simp[c]
   have ed:l.drop (i0+1+(k+1))=(l.drop (i0+1+k)).drop 1:=by rw[List.drop_drop];congr 1
   simp(disch:=omega)only[go_sem,hlt,et,hx]
   refine rK (v:=.bool (decide (l[i0+1+k]=⟨#[]⟩))) (by simp only[go_sem]<;>rfl) rfl ⟨rfl,rfl⟩ (by simp only[go_sem];exact wO) ?_
   by_cases c:l[i0+1+k]=⟨#[]⟩
   ·simp(disch:=omega)only[go_sem,c]
    rw[if_pos c,List.append_nil]at ef
    refine ih _ m (by omega) ?_ ⟨m1,by rw[ef];exact m2,by rw[ed,←m3,List.drop_drop];congr 1,by rw[ef];omega⟩
    simp only[go_sem,ef,Int.add_assoc]
   ·simp(disch:=omega)only[go_sem,c,cN (hl q)]
    rw[if_neg c]at ef
    have el:(full (l.take (i0+1+(k+1)))).length=(full (l.take (i0+1+k))).length+1:=by rw[ef];simp
    refine ih _ (m.set (full (l.take (i0+1+k))).length l[i0+1+k]) (by omega) ?_ ⟨by simp[m1],?_,?_,by omega⟩
    ·simp only[go_sem,el,Int.add_assoc]<;>rfl
    ·rw[ef,List.length_append,List.length_singleton,List.take_add_one,List.take_set_of_le (Nat.le_refl _),m2,List.getElem?_set_self (by omega)]
     rfl
    ·rw[List.drop_set_of_lt (by omega),ed,←m3,List.drop_drop];congr 1
  ·have hkk:l.length=i0+1+k:=by omega
   have ef:full (l.take (i0+1+k))=full l:=by rw[List.take_of_length_le (by omega)]
   rw[ef]at m2 m4⊢
   simp(disch:=omega)only[go_sem,hlt]
   refine Cl (i:=.obj q) (o:=0) (n:=l.length) (N:=l.length) (w:=encS m) (a:=(full l).length) (b:=l.length) (by simp only[go_sem]) (by simp only[go_sem]) (.inr ⟨_,rfl,by simp only[go_sem]⟩) (.inl ⟨rfl,rfl⟩) (by omega) (by omega) (.inl (by omega)) ?_
   simp(disch:=omega)only[go_sem]
   refine Co (q:=q) (o:=(full l).length) (n:=l.length-(full l).length) (l:=m) (by simp only[go_sem]<;>rfl) (hl q) hqm m1 (by omega) ?_
   simp(disch:=omega)only[go_sem]
   refine Cl (i:=.obj q) (o:=0) (n:=l.length) (N:=l.length) (w:=encS (m.take (full l).length++List.replicate (l.length-(full l).length) ⟨#[]⟩++m.drop ((full l).length+(l.length-(full l).length)))) (a:=0) (b:=(full l).length) (by simp only[go_sem]) (by simp only[go_sem]) (.inl ⟨rfl,rfl⟩) (.inr ⟨_,rfl,by simp only[go_sem]⟩) (by omega) (by omega) (.inr rfl) ?_
   simp(disch:=omega)only[go_sem]
   rw[if_pos (show(AV.sl (Id.obj q) 0 ((full l).length-0)).safe=true from rfl)]
   refine⟨rfl,_,?_,?_,rfl⟩
   ·simp;omega
   ·rw[List.take_append_of_le_length (by simp;omega),m2];simp
end
def um(k:Nat):List AV->List (Nat×AV)
 | []=>[]
 |x::r=>(k,x)::um (k+1) r
theorem th{n:Nat}{t:Ty}:∀(xs:List AV) (k:Nat) (f:Fin n->AV),k+xs.length<=n->(∀x∈xs,t.fits x=true)->
  fill (.arr n t) (.arr n f) (um k xs)=some (.arr n fun j=>if h:k<=j.val/\j.val<k+xs.length then xs[j.val-k]else f j)
 | [],k,f,_,_=>by
  simp only[um,fill]
  congr 2
  funext j
  rw[dif_neg (by simp)]
 |x::r,k,f,hn,hf=>by
  simp only[List.length_cons]at hn
  have hx:=hf x (List.mem_cons_self ..)
  simp only[um,fill,Ty.part]
  rw[if_pos (by omega)]
  simp only[hx,if_true,AV.put,show k<n by omega,dite_true,gl,Option.map_some]
  rw[th r (k+1) _ (by omega) (fun y hy=>hf y (List.mem_cons_of_mem _ hy))]
  congr 2
  funext j
  by_cases c1:j.val=k
  ·rw[dif_neg (by omega),if_pos c1,dif_pos (by simp;omega)]
   simp[c1]
  ·by_cases c2:k+1<=j.val/\j.val<k+1+r.length
   ·rw[dif_pos c2,dif_pos (by simp;omega)]
    have:j.val-k=(j.val-(k+1))+1:=by omega
    simp only[this,List.getElem_cons_succ]
   ·rw[dif_neg c2,if_neg c1,dif_neg (by simp;omega)]
variable{B c d f k n p:Nat}{t:Ty}
theorem wi(xs:List AV)(hn:n=xs.length)(hf:∀x∈xs,t.fits x=true):fill (.arr n t) (Ty.arr n t).zero (um 0 xs)=some (.ofList xs):=by
 subst hn
 rw[show(Ty.arr xs.length t).zero=.arr xs.length fun _=>t.zero from by simp[Ty.zero],th xs 0 _ (by omega) hf]
 simp only[AV.ofList]
 congr 2
 funext j
 rw[dif_pos (by omega)]
 simp
theorem jU(l:List Str)(hn:n=l.length):fill (.arr n tS) (Ty.arr n tS).zero (um 0 (l.map AV.str))=some (encS l):=
 wi _ (by simpa using hn) (by simp[tS,Ty.fits,LK.fits,AV.safe])
theorem zZ(l:List Int)(hn:n=l.length):fill (.arr n tI) (Ty.arr n tI).zero (um 0 (l.map (AV.int .i64)))=some (encL l):=
 wi _ (by simpa using hn) (by simp[tI,Ty.fits,LK.fits,AV.safe])
@[go_sem] theorem N8(a:Str):fill (.arr 1 tS) (Ty.arr 1 tS).zero [(0,.str a)]=some (encS [a]):=jU [a] rfl
@[go_sem] theorem N7(a b:Str):fill (.arr 2 tS) (Ty.arr 2 tS).zero [(0,.str a),(1,.str b)]=some (encS [a,b]):=jU [a,b] rfl
@[go_sem] theorem N6(a b c d e:Str):fill (.arr 5 tS) (Ty.arr 5 tS).zero [(0,.str a),(1,.str b),(2,.str c),(3,.str d),(4,.str e)]=some (encS [a,b,c,d,e]):=jU [a,b,c,d,e] rfl
@[go_sem] theorem MO(a b c d e f g h i j:Str):fill (.arr 10 tS) (Ty.arr 10 tS).zero [(0,.str a),(1,.str b),(2,.str c),(3,.str d),(4,.str e),(5,.str f),(6,.str g),(7,.str h),(8,.str i),(9,.str j)]=some (encS [a,b,c,d,e,f,g,h,i,j]):=jU [a,b,c,d,e,f,g,h,i,j] rfl
@[go_sem] theorem MP(a b c d e f g h i j:Int):fill (.arr 10 tI) (Ty.arr 10 tI).zero [(0,.int .i64 a),(1,.int .i64 b),(2,.int .i64 c),(3,.int .i64 d),(4,.int .i64 e),(5,.int .i64 f),(6,.int .i64 g),(7,.int .i64 h),(8,.int .i64 i),(9,.int .i64 j)]=some (encL [a,b,c,d,e,f,g,h,i,j]):=zZ [a,b,c,d,e,f,g,h,i,j] rfl
section
variable{T:MTb}{cx:Cx}{k:List Item}{kill:List Nat}{r:List MOp}{sl:Slots}{own:Own}{h:HP}{Q:St->Prop}
def WBX1(T:MTb)(cx:Cx)(o:Option AV)(t:Ty)(n:Nat)(d:Nat)(r:List MOp)(kill:List Nat)(k:List Item)(sl:Slots)(own:Own)(h:HP)(Q:St->Prop):Prop:=
 onO o fun w=>W T cx (.ops r kill::k) ⟨(Slots.forget sl (.stk cx.lvl d)).set d (.sl (.stk cx.lvl d) 0 n),own.set d ⟨.arr n t,w⟩,h⟩ Q
@[go_sem] theorem Jo{w:AV}:WBX1 T cx (some w) t n d r kill k sl own h Q=W T cx (.ops r kill::k) ⟨(Slots.forget sl (.stk cx.lvl d)).set d (.sl (.stk cx.lvl d) 0 n),own.set d ⟨.arr n t,w⟩,h⟩ Q:=rfl
@[go_sem] theorem G6{ps:List (Nat×Opd)}:W T cx (.ops (⟨some d,.bslice false tS n ps,none⟩::r) kill::k) ⟨sl,own,h⟩ Q=
  WBX1 T cx (fill (.arr n tS) (Ty.arr n tS).zero (ps.map fun p=>(p.1,St.opd ⟨sl,own,h⟩ p.2))) tS n d r kill k sl own h Q:=by
 rw[gW rfl,evOp]
 simp only[evK,WBX1]
 cases fill (.arr n tS) (Ty.arr n tS).zero (ps.map fun p=>(p.1,St.opd ⟨sl,own,h⟩ p.2))<;>rfl
@[go_sem] theorem G7{ps:List (Nat×Opd)}:W T cx (.ops (⟨some d,.bslice false tI n ps,none⟩::r) kill::k) ⟨sl,own,h⟩ Q=
  WBX1 T cx (fill (.arr n tI) (Ty.arr n tI).zero (ps.map fun p=>(p.1,St.opd ⟨sl,own,h⟩ p.2))) tI n d r kill k sl own h Q:=by
 rw[gW rfl,evOp]
 simp only[evK,WBX1]
 cases fill (.arr n tI) (Ty.arr n tI).zero (ps.map fun p=>(p.1,St.opd ⟨sl,own,h⟩ p.2))<;>rfl
@[go_sem] theorem J2(x:SStep)(n:Int):x.enc.put [0] (.int .i64 n)=some ({x with kind:=n}:SStep).enc:=rfl
@[go_sem] theorem J1(x:SStep)(n:Int):x.enc.put [2] (.int .i64 n)=some ({x with toDir:=n}:SStep).enc:=rfl
@[go_sem] theorem J0(x:SStep)(n:Int):x.enc.put [3] (.int .i64 n)=some ({x with p:=n}:SStep).enc:=rfl
@[go_sem] theorem JZ(x:SStep)(s:Str):x.enc.put [5] (.str s)=some ({x with to:=s}:SStep).enc:=rfl
@[go_sem] theorem JY(x:SStep)(s:Str):x.enc.put [6] (.str s)=some ({x with text:=s}:SStep).enc:=rfl
def step0:SStep:=⟨0,0,0,0,⟨#[]⟩,⟨#[]⟩,⟨#[]⟩⟩
def gy(d:Int)(s:Str):SStep:=⟨0,d,0,0,s,⟨#[]⟩,⟨#[]⟩⟩
@[go_sem] theorem IC:fill aD aD.zero []=some step0.enc:=rfl
@[go_sem] theorem IB(d:Int)(s:Str):fill aD aD.zero [(1,.int .i64 d),(4,.str s)]=some (gy d s).enc:=rfl
theorem Txs.into{l:Nat}(hv:Txs h l v ws){z:Int}(h0:0<=z)(hz:z<ws.length):vW (ixP v z) v=true:=by
 rcases hv with⟨_,rfl⟩|⟨i,o,w,rfl,hb,hk,hle,ht⟩
 ·simp at hz;omega
 ·simp[ixP,vW,AV.into]
theorem Txs.apart{l t:Nat}(hv:Txs h l v ws)(h0:0<ws.length)(p:List Nat)(u:Ty):rI (.ptr (.stk l t) p u) v=true:=by
 rcases hv with⟨_,rfl⟩|⟨i,o,w,rfl,hb,_⟩
 ·simp at h0
 ·simp only[rI,AV.apart,Bool.not_eq_true',beq_eq_false_iff_ne,ne_eq]
  exact hb.ne
end
def kindsL:List Str:=[⟨#[]⟩,⟨#[109,97,107,101]⟩,⟨#[108,105,110,107]⟩,⟨#[117,110,108,105,110,107]⟩,⟨#[114,101,110,97,109,101]⟩,⟨#[112,117,116]⟩,⟨#[99,117,116]⟩,⟨#[119,114,105,116,101]⟩,⟨#[115,121,110,99]⟩,⟨#[99,114,97,115,104]⟩]
def manyL:List Int:=[0,3,5,3,5,5,4,2,1,1]
def kindC(l:List Str):Int:=findN kindsL.length fun j=>decide (txt l 0=txt kindsL j)
def stepC(l:List Str)(k:Nat):SStep×Bool:=
 let x:SStep:=if 2<l.length then⟨k,numC (txt l 1),0,0,txt l 2,⟨#[]⟩,⟨#[]⟩⟩else⟨k,0,0,0,⟨#[]⟩,⟨#[]⟩,⟨#[]⟩⟩
 if k=2\/k=4 then({x with toDir:=numC (txt l 3),to:=txt l 4},true)else
 if k=5 then({x with p:=numC (txt l 3),text:=bsL ((cL (txt l 4).data.toList).getD [])},(cL (txt l 4).data.toList).isSome)else
 if k=6 then({x with p:=numC (txt l 3)},true)else
 if k=7 then({x with p:=numC (txt l 1)},true)else(x,true)
def wordsC(l:List Str):SStep×Bool:=if kindC l<1\/¬(l.length:Int)=manyL.getD (kindC l).toNat 0 then(step0,false)else stepC l (kindC l).toNat
section
variable{cx:Cx}{h:HP}
theorem mg{t:Str}(hs:s.size<=1000000):Ok ff cx Fn.gE (St.enter [.str s,.str t] h) fun v h'=>v=(gy (numC s) t).enc/\h'=h:=by
 rw[aE]
 simp(disch:=omega)only[go_sem]
 refine am rfl ⟨rfl,rfl⟩ (by simp only[go_sem];exact eP hs) ?_
 simp(disch:=omega)only[go_sem]
theorem CL(hl:HL cx)(hs:s.size<=10000):Ok ff cx Fn.bu (St.enter [.str s] h) fun v h'=>Fr h h' []/\v=.tup (.cons (.str (bsL ((cL s.data.toList).getD []))) (.cons (.bool (cL s.data.toList).isSome) .unit)):=by
 have:=upV (Eu (cx:=cx) (h:=h) (l:=s.data.toList) (fun n _=>hl n) (by simpa using hs))
 rw[xS]at this
 exact this.mono fun v h' e=>⟨e.2,e.1⟩
theorem pO(l:List Str):kindC l= -1\/∃j,j<10/\kindC l=(j:Nat):=by
 by_cases e:∀i,i<kindsL.length->decide (txt l 0=txt kindsL i)=false
 ·exact .inl (findN_none e)
 ·obtain⟨j,h1,h2,h3⟩:=least (p:=fun i=>decide (txt l 0=txt kindsL i)) kindsL.length (by
   rcases Classical.not_forall.1 e with⟨i,hi⟩
   refine⟨i,?_⟩
   rcases Nat.lt_or_ge i kindsL.length with h'|h'
   ·refine⟨h',?_⟩
    cases hx:decide (txt l 0=txt kindsL i)with
    |true=>rfl
    |false=>exact absurd (fun _=>hx) hi
   ·exact absurd (fun h''=>by omega) hi)
  exact .inr ⟨j,h1,dV h3 h2 h1⟩
theorem Ck(hl:HL cx)(hv:Txs h cx.lvl v l)(h0:0<l.length)(hn:l.length<=1000000)(hs:∀i,(txt l i).size<=10000):
  Ok ff cx Fn.aL (St.enter [v] h) fun v' h'=>Fr h h' []/\v'=.tup (.cons (wordsC l).1.enc (.cons (.bool (wordsC l).2) .unit)):=by
 have hix:=fun z sl own=>hv.ix (cx:=cx) (kk:=.i64) (z:=z) sl own
 have hlv:=fun z sl own=>hv.lv (cx:=cx) (z:=z) sl own
 have hfg:=fun t=>hv.fg (t:=t)
 have hld:=fun t=>hv.ld (t:=t)
 have hfx:=fun z t=>hv.fgx (t:=t) z
 have hlx:=fun z t=>hv.ldx (t:=t) z
 have hin:=fun z=>hv.into (z:=z)
 have hap:=fun t p u=>hv.apart (t:=t) h0 p u
 have hz:aD.zero=step0.enc:=rfl
 have hln:=hv.len
 rw[aE]
 simp(disch:=omega)only[go_sem,hix,hlv,hfg,hld]
 refine am rfl ⟨rfl,rfl⟩ (by simp only[go_sem];exact AA (ws:=kindsL) (s:=txt l (0:Int).toNat) (.inr ⟨.stk cx.lvl 9,0,kindsL,rfl,cV _ _,by simp only[HP.push_look_own,go_sem];rfl,by decide,by decide⟩) (by decide)) ?_
 change W _ _ _ (St.setd _ _ (.int .i64 (kindC l))) _
 have hk1:∀k:Int,kindC l=k->(k<1\/¬(l.length:Int)=manyL.getD k.toNat 0)->wordsC l=(step0,false):=by
  rintro k rfl h;simp only[wordsC];rw[if_pos h]
 have hk2:∀k:Nat,kindC l=(k:Int)->1<=k->(l.length:Int)=manyL.getD k 0->wordsC l=stepC l k:=by
  intro k hk h1 h2;simp only[wordsC,hk,Int.toNat_natCast];rw[if_neg (by rintro(h|h);omega;exact h h2)]
 have hat:∀i (hi:i<10),(encL [0,3,5,3,5,5,4,2,1,1]).at [i]=some (.int .i64 (manyL.getD i 0)):=by
  intro i hi
  rw[yG _ (by exact hi)]
  simp[manyL,List.getD_eq_getElem?_getD,hi]
 rcases pO l with hk|⟨k,hk10,hk⟩
 ·simp(disch:=omega)only[go_sem,hk,hz,hfg]
  rw[hk1 _ hk (.inl (by omega))]
  exact⟨Fr.refl _ _,rfl⟩
 ·have:k=0\/k=1\/k=2\/k=3\/k=4\/k=5\/k=6\/k=7\/k=8\/k=9:=by omega
  rcases this with rfl|rfl|rfl|rfl|rfl|rfl|rfl|rfl|rfl|rfl
  ·simp(disch:=omega)only[go_sem,hk,hz,hfg]
   rw[hk1 _ hk (.inl (by omega))]
   exact⟨Fr.refl _ _,rfl⟩
  ·have hm:manyL.getD 1 0=3:=rfl
   by_cases hL:(l.length:Int)=3
   ·have hL2:l.length=3:=by omega
    rw[hk2 1 hk (by decide) hL]
    simp(disch:=omega)only[go_sem,hk,hat,hln,hz,hfg,hm,hL,hix,hlv,hld,hfx,hlx,hin,hap]
    refine am rfl ⟨rfl,rfl⟩ (by simp only[go_sem];exact mg (hs:=by have:=hs 1;exact Nat.le_trans this (by decide))) ?_
    simp(disch:=omega)only[go_sem,hk,hat,hln,hz,hfg,hm,hL,hix,hlv,hld,hfx,hlx,hin,hap]
    first|(refine⟨Fr.refl _ _,?_⟩;simp[stepC,gy,step0,hL2];done)|(refine⟨hF,?_⟩;simp[stepC,gy,step0,hL2];done)
   ·simp(disch:=omega)only[go_sem,hk,hat,hln,hz,hfg,hm,hL]
    rw[hk1 _ hk (.inr hL)]
    exact⟨Fr.refl _ _,rfl⟩
  ·have hm:manyL.getD 2 0=5:=rfl
   by_cases hL:(l.length:Int)=5
   ·have hL2:l.length=5:=by omega
    rw[hk2 2 hk (by decide) hL]
    simp(disch:=omega)only[go_sem,hk,hat,hln,hz,hfg,hm,hL,hix,hlv,hld,hfx,hlx,hin,hap]
    refine am rfl ⟨rfl,rfl⟩ (by simp only[go_sem];exact mg (hs:=by have:=hs 1;exact Nat.le_trans this (by decide))) ?_
    simp(disch:=omega)only[go_sem,hk,hat,hln,hz,hfg,hm,hL,hix,hlv,hld,hfx,hlx,hin,hap]
    refine am rfl ⟨rfl,rfl⟩ (by simp only[go_sem];exact eP (hs:=by have:=hs 3;exact Nat.le_trans this (by decide))) ?_
    simp(disch:=omega)only[go_sem,hk,hat,hln,hz,hfg,hm,hL,hix,hlv,hld,hfx,hlx,hin,hap]
    first|(refine⟨Fr.refl _ _,?_⟩;simp[stepC,gy,step0,hL2];done)|(refine⟨hF,?_⟩;simp[stepC,gy,step0,hL2];done)
   ·simp(disch:=omega)only[go_sem,hk,hat,hln,hz,hfg,hm,hL]
    rw[hk1 _ hk (.inr hL)]
    exact⟨Fr.refl _ _,rfl⟩
  ·have hm:manyL.getD 3 0=3:=rfl
   by_cases hL:(l.length:Int)=3
   ·have hL2:l.length=3:=by omega
    rw[hk2 3 hk (by decide) hL]
    simp(disch:=omega)only[go_sem,hk,hat,hln,hz,hfg,hm,hL,hix,hlv,hld,hfx,hlx,hin,hap]
    refine am rfl ⟨rfl,rfl⟩ (by simp only[go_sem];exact mg (hs:=by have:=hs 1;exact Nat.le_trans this (by decide))) ?_
    simp(disch:=omega)only[go_sem,hk,hat,hln,hz,hfg,hm,hL,hix,hlv,hld,hfx,hlx,hin,hap]
    first|(refine⟨Fr.refl _ _,?_⟩;simp[stepC,gy,step0,hL2];done)|(refine⟨hF,?_⟩;simp[stepC,gy,step0,hL2];done)
   ·simp(disch:=omega)only[go_sem,hk,hat,hln,hz,hfg,hm,hL]
    rw[hk1 _ hk (.inr hL)]
    exact⟨Fr.refl _ _,rfl⟩
  ·have hm:manyL.getD 4 0=5:=rfl
   by_cases hL:(l.length:Int)=5
   ·have hL2:l.length=5:=by omega
    rw[hk2 4 hk (by decide) hL]
    simp(disch:=omega)only[go_sem,hk,hat,hln,hz,hfg,hm,hL,hix,hlv,hld,hfx,hlx,hin,hap]
    refine am rfl ⟨rfl,rfl⟩ (by simp only[go_sem];exact mg (hs:=by have:=hs 1;exact Nat.le_trans this (by decide))) ?_
    simp(disch:=omega)only[go_sem,hk,hat,hln,hz,hfg,hm,hL,hix,hlv,hld,hfx,hlx,hin,hap]
    refine am rfl ⟨rfl,rfl⟩ (by simp only[go_sem];exact eP (hs:=by have:=hs 3;exact Nat.le_trans this (by decide))) ?_
    simp(disch:=omega)only[go_sem,hk,hat,hln,hz,hfg,hm,hL,hix,hlv,hld,hfx,hlx,hin,hap]
    first|(refine⟨Fr.refl _ _,?_⟩;simp[stepC,gy,step0,hL2];done)|(refine⟨hF,?_⟩;simp[stepC,gy,step0,hL2];done)
   ·simp(disch:=omega)only[go_sem,hk,hat,hln,hz,hfg,hm,hL]
    rw[hk1 _ hk (.inr hL)]
    exact⟨Fr.refl _ _,rfl⟩
  ·have hm:manyL.getD 5 0=5:=rfl
   by_cases hL:(l.length:Int)=5
   ·have hL2:l.length=5:=by omega
    rw[hk2 5 hk (by decide) hL]
    simp(disch:=omega)only[go_sem,hk,hat,hln,hz,hfg,hm,hL,hix,hlv,hld,hfx,hlx,hin,hap]
    refine am rfl ⟨rfl,rfl⟩ (by simp only[go_sem];exact mg (hs:=by have:=hs 1;exact Nat.le_trans this (by decide))) ?_
    simp(disch:=omega)only[go_sem,hk,hat,hln,hz,hfg,hm,hL,hix,hlv,hld,hfx,hlx,hin,hap]
    refine am rfl ⟨rfl,rfl⟩ (by simp only[go_sem];exact eP (hs:=by have:=hs 3;exact Nat.le_trans this (by decide))) ?_
    simp(disch:=omega)only[go_sem,hk,hat,hln,hz,hfg,hm,hL,hix,hlv,hld,hfx,hlx,hin,hap]
    refine eY (S:=[]) (R:=fun v h'=>v=.tup (.cons (.str (bsL ((cL (txt l 4).data.toList).getD []))) (.cons (.bool (cL (txt l 4).data.toList).isSome) .unit))) rfl ⟨rfl,rfl⟩ (by simp only[go_sem];exact CL (by exact hl) (hs 4)) (fun _ _ e=>e) ?_
    rintro _ h1 hF rfl
    simp(disch:=omega)only[go_sem,hk,hat,hln,hz,hfg,hm,hL,hix,hlv,hld,hfx,hlx,hin,hap]
    first|(refine⟨Fr.refl _ _,?_⟩;simp[stepC,gy,step0,hL2];done)|(refine⟨hF,?_⟩;simp[stepC,gy,step0,hL2];done)
   ·simp(disch:=omega)only[go_sem,hk,hat,hln,hz,hfg,hm,hL]
    rw[hk1 _ hk (.inr hL)]
    exact⟨Fr.refl _ _,rfl⟩
  ·have hm:manyL.getD 6 0=4:=rfl
   by_cases hL:(l.length:Int)=4
   ·have hL2:l.length=4:=by omega
    rw[hk2 6 hk (by decide) hL]
    simp(disch:=omega)only[go_sem,hk,hat,hln,hz,hfg,hm,hL,hix,hlv,hld,hfx,hlx,hin,hap]
    refine am rfl ⟨rfl,rfl⟩ (by simp only[go_sem];exact mg (hs:=by have:=hs 1;exact Nat.le_trans this (by decide))) ?_
    simp(disch:=omega)only[go_sem,hk,hat,hln,hz,hfg,hm,hL,hix,hlv,hld,hfx,hlx,hin,hap]
    refine am rfl ⟨rfl,rfl⟩ (by simp only[go_sem];exact eP (hs:=by have:=hs 3;exact Nat.le_trans this (by decide))) ?_
    simp(disch:=omega)only[go_sem,hk,hat,hln,hz,hfg,hm,hL,hix,hlv,hld,hfx,hlx,hin,hap]
    first|(refine⟨Fr.refl _ _,?_⟩;simp[stepC,gy,step0,hL2];done)|(refine⟨hF,?_⟩;simp[stepC,gy,step0,hL2];done)
   ·simp(disch:=omega)only[go_sem,hk,hat,hln,hz,hfg,hm,hL]
    rw[hk1 _ hk (.inr hL)]
    exact⟨Fr.refl _ _,rfl⟩
  ·have hm:manyL.getD 7 0=2:=rfl
   by_cases hL:(l.length:Int)=2
   ·have hL2:l.length=2:=by omega
    rw[hk2 7 hk (by decide) hL]
    simp(disch:=omega)only[go_sem,hk,hat,hln,hz,hfg,hm,hL,hix,hlv,hld,hfx,hlx,hin,hap]
    refine am rfl ⟨rfl,rfl⟩ (by simp only[go_sem];exact eP (hs:=by have:=hs 1;exact Nat.le_trans this (by decide))) ?_
    simp(disch:=omega)only[go_sem,hk,hat,hln,hz,hfg,hm,hL,hix,hlv,hld,hfx,hlx,hin,hap]
    first|(refine⟨Fr.refl _ _,?_⟩;simp[stepC,gy,step0,hL2];done)|(refine⟨hF,?_⟩;simp[stepC,gy,step0,hL2];done)
   ·simp(disch:=omega)only[go_sem,hk,hat,hln,hz,hfg,hm,hL]
    rw[hk1 _ hk (.inr hL)]
    exact⟨Fr.refl _ _,rfl⟩
  ·have hm:manyL.getD 8 0=1:=rfl
   by_cases hL:(l.length:Int)=1
   ·have hL2:l.length=1:=by omega
    rw[hk2 8 hk (by decide) hL]
    simp(disch:=omega)only[go_sem,hk,hat,hln,hz,hfg,hm,hL,hix,hlv,hld,hfx,hlx,hin,hap]
    first|(refine⟨Fr.refl _ _,?_⟩;simp[stepC,gy,step0,hL2];done)|(refine⟨hF,?_⟩;simp[stepC,gy,step0,hL2];done)
   ·simp(disch:=omega)only[go_sem,hk,hat,hln,hz,hfg,hm,hL]
    rw[hk1 _ hk (.inr hL)]
    exact⟨Fr.refl _ _,rfl⟩
  ·have hm:manyL.getD 9 0=1:=rfl
   by_cases hL:(l.length:Int)=1
   ·have hL2:l.length=1:=by omega
    rw[hk2 9 hk (by decide) hL]
    simp(disch:=omega)only[go_sem,hk,hat,hln,hz,hfg,hm,hL,hix,hlv,hld,hfx,hlx,hin,hap]
    first|(refine⟨Fr.refl _ _,?_⟩;simp[stepC,gy,step0,hL2];done)|(refine⟨hF,?_⟩;simp[stepC,gy,step0,hL2];done)
   ·simp(disch:=omega)only[go_sem,hk,hat,hln,hz,hfg,hm,hL]
    rw[hk1 _ hk (.inr hL)]
    exact⟨Fr.refl _ _,rfl⟩
end
theorem nq(n:Int):i64 (IntKind.i64.wrap n):=by
 have e1:(IntKind.i64).bits=64:=rfl
 have e2:(IntKind.i64).signed=true:=rfl
 have p1:(2:Int)^64=18446744073709551616:=rfl
 have p2:(2:Int)^(64-1)=9223372036854775808:=rfl
 simp only[i64,IntKind.wrap,e1,e2,Bool.true_and,ge_iff_le,decide_eq_true_eq]
 rw[p1,p2]
 split<;>omega
theorem cP{n:Int}(h0: -1<=n)(h1:n<=1000):i64 n:=⟨by omega,by omega⟩
def goodI(i:Ino):Prop:=i64 i.stamp/\i64 i.links/\∀p,i64 (i.prt p)
def goodE(e:Ent):Prop:=i64 e.ino/\i64 e.stamp/\e.name.size<=6
def goodD(y:Dat):Prop:=i64 y.of/\y.text.size<=8
structure Tight(m:Img):Prop where
 ino:∀n,goodI (m.ino n)
 ent:∀d s,goodE (m.ent d s)
 dat:∀x,goodD (m.dat x)
theorem je:goodI .none:=⟨by decide,by decide,fun p=>cP (by have:=lm p;omega) (by have:=lm p;omega)⟩
theorem kz:goodE .zero:=⟨by decide,by decide,by decide⟩
theorem rk:goodD .zero:=⟨by decide,by decide⟩
theorem xF:goodI .zero:=⟨by decide,by decide,fun p=>by
 by_cases hp:p<2
 ·simp[Ino.prt,Ino.zero,hp];decide
 ·simp[Ino.prt,hp];decide⟩
section
variable{m a b:Img}
theorem Tight.setIno(h:Tight m){y:Ino}(hy:goodI y):Tight (m.setIno n y):=⟨fun k=>by
 rw[g8];split
 ·exact hy
 ·exact h.ino k,fun d s=>by rw[ji];exact h.ent d s,fun x=>by show goodD (m.dat x);exact h.dat x⟩
theorem Tight.setEnt(h:Tight m){s:Nat}{y:Ent}(hy:goodE y):Tight (m.setEnt d s y):=⟨fun k=>by rw[rh];exact h.ino k,fun d s=>by
 rw[kG];split
 ·exact hy
 ·exact h.ent d s,fun x=>by rw[xP];exact h.dat x⟩
theorem Tight.setDat(h:Tight m){y:Dat}(hy:goodD y):Tight (m.setDat n y):=⟨fun k=>by rw[mM];exact h.ino k,fun d s=>by rw[mQ];exact h.ent d s,fun x=>by
 rw[kI];split
 ·exact hy
 ·exact h.dat x⟩
theorem sW{i:Ino}(h:goodI i){x:Int}(hx:i64 x):goodI (i.setPrt p x):=⟨h.1,h.2.1,fun q=>by
 rw[mH];split
 ·exact hx
 ·exact h.2.2 q⟩
theorem name6(h:cO s=true):s.size<=6:=by simp[cO]at h;omega
theorem Tight.addName(h:Tight a){s:Nat}{name:Str}(hn:name.size<=6)(h8:n<8):Tight (addName a d s name n):=
 (h.setEnt ⟨cP (n:=(n:Int)) (by omega) (by omega),(h.ino n).1,hn⟩).setIno ⟨(h.ino n).1,nq _,(h.ino n).2.2⟩
theorem Tight.dropName(h:Tight a){s:Nat}:Tight (dropName a d s):=by
 unfold Go.Mini.dropName
 dsimp only
 split
 ·exact(h.setEnt kz).setIno je
 ·exact(h.setEnt kz).setIno ⟨(h.ino _).1,nq _,(h.ino _).2.2⟩
theorem Tight.enterA(h:Tight a){d:Int}(hn:s.size<=6)(h8:n<8):Tight (enterA a b d s n):=by
 unfold Go.Mini.enterA
 split
 ·exact h.addName hn h8
 ·exact h
theorem ly(f:Nat->Bool):∀n,-1<=findN n f/\findN n f<n
 |0=>by simp[findN]
 |n+1=>by
  have:=ly f n
  rw[findN]
  split
  ·omega
  split<;>omega
theorem Tight.doF{F:Fl}(h:Tight F.now)(hw:WF F.now){x:SStep}:Tight (doF F x).now:=by
 unfold Go.Mini.doF
 split
 ·exact h
 rename_i hc
 have c0:co x=0:=by
  by_cases e:co x=0
  ·exact e
  ·exfalso;apply hc;simp only[doC];rw[if_pos e];exact e
 obtain⟨⟨k1,k6⟩,_,hn,hto,_,htx⟩:=e8 c0
 have hino:∀d s,(F.now.ent d s).ino.toNat<8:=fun d s=>by have:=(hw.1 d s).1;have:=(hw.1 d s).2;omega
 split
 ·unfold gB
  split
  ·refine(h.setIno ?_).addName (name6 hn) ?_
   ·exact⟨nq _,⟨by show(_:Int)<=(0:Int);decide,by show(0:Int)<=_;decide⟩,fun p=>je.2.2 p⟩
   ·have:gP F.now F.disk<8:=by
     unfold gP
     exact(ly _ 8).2
    omega
  ·exact h
 dsimp only
 split
 ·rename_i k2;exact h.enterA (name6 (hto (.inl k2)).2) (hino _ _)
 split
 ·rename_i k4;exact(h.enterA (name6 (hto (.inr k4)).2) (hino _ _)).dropName
 split
 ·exact h.dropName
 split
 ·rename_i k5
  have ht:=htx k5
  unfold mG
  split
  ·split
   ·exact h
   ·refine(h.setIno (sW (h.ino _) ?_)).setDat ⟨(h.ino _).1,ht⟩
    have:=ly (fun x=>!held F.now x&& !held F.disk x) 9
    exact cP this.1 (by unfold gp;omega)
  ·exact h.setDat ⟨(h.ino _).1,ht⟩
 ·exact h.setIno (sW (h.ino _) (by decide))
theorem sj(ha:Tight a)(hb:Tight b)(n:Nat):goodI (fY a b n):=by
 have hbo:i64 (both a b n):=cP (by omega) (by have:=Ag a b n;omega)
 unfold fY
 split
 ·refine⟨(ha.ino n).1,hbo,fun p=>?_⟩
  have hp:∀q,i64 (part a b n q):=fun q=>by
   unfold part
   dsimp only
   split
   ·decide
   split
   ·exact(ha.ino n).2.2 q
   split
   ·exact(hb.ino n).2.2 q
   ·decide
  by_cases h2:p<2
  ·have:p=0\/p=1:=by omega
   rcases this with rfl|rfl<;>simp[Ino.prt]<;>exact hp _
  ·simp[Ino.prt,h2];decide
 split
 ·exact⟨(hb.ino n).1,hbo,(hb.ino n).2.2⟩
 ·exact je
theorem Tight.wrInodes(ha:Tight a)(hb:Tight b)(n:Nat):∀k,Tight (wrInodes a b n k)
 |0=>hb
 |k+1=>(Tight.wrInodes ha hb n k).setIno (sj ha hb _)
theorem Tight.wrDir(ha:Tight a)(hb:Tight b)(d:Nat):∀k,Tight (wrDir a b d k)
 |0=>hb
 |k+1=>by
  have ih:=Tight.wrDir ha hb d k
  refine ih.setEnt ?_
  rcases mu a (Go.Mini.wrDir a b d k) d k with e|⟨_,e,_⟩|⟨_,e,_⟩<;>rw[e]
  ·exact ih.ent d k
  ·exact ha.ent d k
  ·exact kz
theorem Tight.writeAs(ha:Tight a)(hb:Tight b)(x:Int):Tight (writeAs a b x).1:=by
 obtain⟨n,hn,e⟩|⟨n,hn,e⟩|⟨n,hn,e⟩|e:=fH x
 ·rw[lM e];exact ha.wrInodes hb n 4
 ·rw[lN e];exact ha.wrDir hb n 4
 ·rw[lO e];exact hb.setDat (ha.dat n)
 ·rw[lL e];exact hb
theorem Tight.wrDown(ha:Tight a)(hb:Tight b):∀k,Tight (wrDown a b k)
 |0=>hb
 |k+1=>ha.writeAs (Tight.wrDown ha hb k) _
theorem Tight.syncD(ha:Tight a)(hb:Tight b):∀k,Tight (syncD a b k)
 |0=>hb
 |k+1=>ha.wrDown (Tight.syncD ha hb k) 14
theorem Tight.mendI(h:Tight m):∀k,Tight (mendI m k)
 |0=>h
 |k+1=>by
  refine(Tight.mendI h k).setIno ?_
  unfold mendIno
  split
  ·exact h.ino k
  split
  ·exact je
  ·exact⟨(h.ino k).1,cP (n:=(refs m k:Int)) (by omega) (by have:=DD m k;omega),(h.ino k).2.2⟩
theorem Tight.mendD(h:Tight m):∀k,Tight (mendD m k)
 |0=>h
 |k+1=>by
  refine(Tight.mendD h k).setDat ?_
  unfold gN
  split
  ·exact rk
  ·exact h.dat k
theorem Tight.mended(h:Tight m):Tight (mended m):=(h.mendI 8).mendD 9
end
structure LTight(L:Lf):Prop where
 inv:Inv0 L.fl
 now:Tight L.fl.now
 disk:Tight L.fl.disk
 cnt:i64 L.a/\i64 L.b/\i64 L.c/\i64 L.n
theorem ux{f:Nat->Bool}(n:Nat)(hn:n<=100):i64 ((sumN n fun k=>b2n (f k):Nat):Int):=by
 have:=fW (fun i=>o3 (f i)) n
 exact cP (by omega) (by omega)
variable{L:Lf}
theorem LTight.lifeF(h:LTight L)(x:SStep):LTight (lifeF L x):=by
 have h0:=h.inv.lifeF x
 unfold Go.Mini.lifeF at h0⊢
 split
 ·rename_i c;rw[if_pos c]at h0;exact⟨h0,h.now,h.now.writeAs h.disk _,h.cnt⟩
 split
 ·rename_i c1 c;rw[if_neg c1,if_pos c]at h0;exact⟨h0,h.now,h.now.syncD h.disk _,h.cnt⟩
 split
 ·rename_i c1 c2 c
  rw[if_neg c1,if_neg c2,if_pos c]at h0
  refine⟨h0,?_,?_,?_⟩<;>unfold g9<;>split
  ·exact h.disk.mended
  ·exact h.now
  ·exact h.disk.mended
  ·exact h.disk
  ·exact⟨ux 8 (by decide),ux 8 (by decide),ux 9 (by decide),nq _⟩
  ·exact h.cnt
 ·rename_i c1 c2 c3
  rw[if_neg c1,if_neg c2,if_neg c3]at h0
  exact⟨h0,h.now.doF h.inv.wf,by show Tight (doF L.fl x).disk;rw[nI];exact h.disk,h.cnt⟩
theorem qd:Tight .blank:=by
 refine⟨fun n=>?_,fun d s=>?_,fun x=>?_⟩
 ·by_cases hn:n<8
  ·have:Img.blank.ino n=Ino.none:=by simp[Img.ino,Img.blank,hn]
   rw[this];exact je
  ·have:Img.blank.ino n=Ino.zero:=by simp[Img.ino,hn]
   rw[this];exact xF
 ·have:Img.blank.ent d s=Ent.zero:=by
   simp only[Img.ent,Img.blank,Img.zero]
   split
   ·simp
   ·rfl
  rw[this];exact kz
 ·have:Img.blank.dat x=Dat.zero:=by
   simp only[Img.dat,Img.blank,Img.zero]
   split
   ·simp
   ·rfl
  rw[this];exact rk
theorem LTight.new:LTight .new:=⟨DR,qd,qd,by decide⟩
theorem lF(d:Int)(s:Str):0<=dirFaultN d s/\dirFaultN d s<=15:=by
 unfold dirFaultN;repeat' split
 all_goals omega
theorem lg(x:SStep):0<=co x/\co x<=15:=by
 have h1:=lF x.dir x.name
 have h2:=lF x.toDir x.to
 unfold co;repeat' split
 all_goals omega
theorem B6(F:Fl)(x:SStep):0<=doC F x/\doC F x<=15:=by
 have h1:=lg x
 unfold doC iG eG qh;repeat' split
 all_goals omega
theorem im{f:Nat->Int}(h:∀i,0<=f i/\f i<=15):∀n,0<=firstI n f/\firstI n f<=15
 |0=>by simp[firstI]
 |n+1=>by
  rw[firstI];split
  ·exact h n
  ·exact im h n
theorem qj(m:Img)(d s:Nat):0<=entryFault m d s/\entryFault m d s<=15:=by
 unfold entryFault;dsimp only;repeat' split
 all_goals omega
theorem qO(m:Img)(i:Ino)(p:Nat):0<=partFault m i p/\partFault m i p<=15:=by
 unfold partFault;repeat' split
 all_goals omega
theorem sh(m:Img)(n:Nat):0<=inoFault m n/\inoFault m n<=15:=by
 have h:=im (fun p=>qO m (m.ino n) p) 2
 unfold inoFault;dsimp only;repeat' split
 all_goals omega
theorem xQ(m:Img):0<=check m/\check m<=15:=by
 have h1:=im (fun d=>im (qj m d) 4) 3
 have h2:=im (sh m) 8
 unfold check;repeat' split
 ·exact h1
 ·exact h2
 ·omega
 ·omega
theorem ez(L:Lf)(x:SStep):i64 (eB L x):=by
 have h1:=B6 L.fl x
 have h2:=xQ L.fl.disk
 unfold eB;repeat' split
 all_goals exact cP (by omega) (by omega)
theorem mE(a:Img)(d:Int)(s:Str)(p:Int):i64 (readC a d s p):=by
 have h1:=lg ⟨6,d,0,p,s,⟨#[]⟩,⟨#[]⟩⟩
 unfold readC;repeat' split
 all_goals exact cP (by omega) (by omega)
theorem cT{n:Int}(h:i64 n):(bz n).length<=21:=Lib.itoa_length_le n h.1 h.2
theorem uk(B:Nat)(sep:List UInt8):∀ws:List (List UInt8),(∀w∈ws,w.length<=B)->(Lib.join ws sep).length<=ws.length*(B+sep.length)
 | [],_=>by simp[Lib.join,List.intercalate]
 | [x],h=>by
  rw[Lib.join_one]
  have:=h x (by simp)
  simp only[List.length_singleton]
  omega
 |x::y::r,h=>by
  have h1:=h x (by simp)
  have h2:=uk B sep (y::r) fun w hw=>h w (List.mem_cons_of_mem _ hw)
  have e1:=Lib.join_length x (y::r) sep
  have e2:=Lib.join_length y r sep
  rw[e2]at h2
  rw[e1]
  simp only[Lib.lens,List.map_cons,List.sum_cons,List.length_cons,Nat.add_mul,Nat.mul_add,Nat.one_mul,Nat.mul_one]at h2⊢
  omega
theorem ra{ws:List (List UInt8)}(h:∀w∈ws,w.length<=B):(fj ws).length<=ws.length*(B+1)+1:=by
 have:=uk B [32] ws h
 simp only[fj,List.length_append,List.length_singleton]at this⊢
 omega
theorem l9{α:Type}{f:α->List UInt8}{B:Nat}(h:∀x,(f x).length<=B):∀l:List α,(l.flatMap f).length<=l.length*B
 | []=>by simp
 |x::l=>by
  have:=h x
  have:=l9 h l
  simp only[List.flatMap_cons,List.length_append,List.length_cons,Nat.add_mul,Nat.one_mul]
  omega
theorem zm(c:UInt8):(show1 c).length<=3:=by unfold show1;split<;>simp
theorem lV(l:List UInt8):(bS l).length<=1+3*l.length:=by
 have:=l9 zm l
 simp only[bS,List.length_cons]
 omega
variable{m:Img}
theorem mD(h:Tight m):m.slim:=by
 refine⟨fun n=>?_,fun d s=>?_,fun x=>?_⟩
 ·have:=h.ino n.val
  rw[show m.ino n.val=m.inode[n]from by simp[Img.ino]]at this
  obtain⟨h1,h2,h3⟩:=this
  have p0:=h3 0
  have p1:=h3 1
  simp only[Ino.prt]at p0 p1
  exact⟨h1,h2,by simpa using p0,by simpa using p1⟩
 ·have:=h.ent d.val s.val
  rw[show m.ent d.val s.val=m.dir[d][s]from by simp[Img.ent]]at this
  exact⟨this.1,this.2.1,by have:=this.2.2;omega⟩
 ·have:=h.dat x.val
  rw[show m.dat x.val=m.data[x]from by simp[Img.dat]]at this
  exact⟨this.1,by have:=this.2;omega⟩
theorem nS(h:Tight m):(textL m).length<=3700:=by
 have hs:=mD h
 have i1:∀n:Fin 8,(inoL n.val m.inode[n]).length<=133:=by
  intro n
  obtain⟨a1,a2,a3,a4⟩:=hs.1 n
  unfold inoL
  split
  ·refine ra (B:=21) ?_
   intro w hw
   simp only[List.mem_cons,List.not_mem_nil,or_false]at hw
   rcases hw with rfl|rfl|rfl|rfl|rfl|rfl
   ·decide
   ·exact cT (cP (by omega) (by omega))
   ·exact cT a1
   ·exact cT a2
   ·exact cT a3
   ·exact cT a4
  ·simp
 have i2:∀d:Fin 3,∀s:Fin 4,(entL d.val s.val m.dir[d][s]).length<=133:=by
  intro d s
  have a0:=h.ent d.val s.val
  rw[show m.ent d.val s.val=m.dir[d][s]from by simp[Img.ent]]at a0
  obtain⟨a1,a2,a3⟩:=a0
  unfold entL
  split
  ·refine ra (B:=21) ?_
   intro w hw
   simp only[List.mem_cons,List.not_mem_nil,or_false]at hw
   rcases hw with rfl|rfl|rfl|rfl|rfl|rfl
   ·decide
   ·exact cT (cP (by omega) (by omega))
   ·exact cT (cP (by omega) (by omega))
   ·have:m.dir[d][s].name.data.toList.length=m.dir[d][s].name.size:=Array.length_toList
    omega
   ·exact cT a1
   ·exact cT a2
  ·simp
 have i3:∀x:Fin 9,(datL x.val m.data[x]).length<=105:=by
  intro x
  have a0:=h.dat x.val
  rw[show m.dat x.val=m.data[x]from by simp[Img.dat]]at a0
  unfold datL
  split
  ·refine ra (B:=25) ?_
   intro w hw
   simp only[List.mem_cons,List.not_mem_nil,or_false]at hw
   rcases hw with rfl|rfl|rfl|rfl
   ·decide
   ·exact Nat.le_trans (cT (cP (by omega) (by omega))) (by decide)
   ·exact Nat.le_trans (cT a0.1) (by decide)
   ·have h1:=lV m.data[x].text.data.toList
    have h2:m.data[x].text.data.toList.length=m.data[x].text.size:=Array.length_toList
    have:=a0.2
    omega
  ·simp
 have j1:=l9 i1 (List.finRange 8)
 have j2:=l9 (fun d=>l9 (i2 d) (List.finRange 4)) (List.finRange 3)
 have j3:=l9 i3 (List.finRange 9)
 simp only[List.length_finRange]at j1 j2 j3
 simp only[textL,List.length_append]
 omega
theorem NQ(h:∀w∈ws,w.size<=B):(Lib.join (ws.map (·.data.toList)) [32]).length<=ws.length*(B+1):=by
 have:=uk B [32] (ws.map (·.data.toList)) (by
  intro w hw
  obtain⟨s,hs,rfl⟩:=List.mem_map.1 hw
  have:s.data.toList.length=s.size:=Array.length_toList
  have:=h s hs
  omega)
 simpa using this
variable{S:List Nat}
section
variable{T:MTb}{cx:Cx}{k:List Item}{kill:List Nat}{r:List MOp}{sl:Slots}{own ov:Own}{h:HP}{Q:St->Prop}
theorem Cq{R:AV->HP->Prop}{prot:Bool}{hide:List Nat}{args:List Opd}{d:Option Nat}{fn:MFun}(hv:own.veil hide=ov)(hu:own.unveil ov hide=own)(hh:has hide 1000000=false)(hf:T f=some fn)(hp:fn.params=args.length/\fn.nfree=0)
  (hc:Ok T (St.callCx ⟨sl,own,h⟩ cx prot) fn (St.enter (args.map (St.opd ⟨sl,own,h⟩)) (h.push cx.lvl ov)) fun v' h'=>Fr (h.push cx.lvl ov) h' S/\R v' h')
  (hR:∀v h1,R v (HP.push h1 cx.lvl ov)->R v h1)
  (hq:∀v h1,Fr h h1 S->R v h1->W T cx (.ops r kill::k) (St.setd ⟨sl,own,h1⟩ d v) Q):
  W T cx (.ops (⟨d,.call prot hide f args,none⟩::r) kill::k) ⟨sl,own,h⟩ Q:=by
 refine kM (R:=fun v h'=>Fr (h.push cx.lvl ov) h' S/\R v h') hf hp (by rw[hv,oV _ _ hh];exact hc) ?_
 rintro v h' ⟨e1,e2⟩
 have hh:h'=HP.push ⟨h.stk,h'.obj,h'.next,h'.arg⟩ cx.lvl ov:=by
  have:=e1.stk
  cases h'
  simp only at this
  subst this
  rfl
 have:St.pop ⟨sl,own,h⟩ cx.lvl hide h'=⟨sl,own,⟨h.stk,h'.obj,h'.next,h'.arg⟩⟩:=by
  rw[hh]
  simp only[St.pop,HP.pop,HP.push,if_true,hu]
  congr 2
  funext l
  by_cases hl:l=cx.lvl<;>simp[hl]
 rw[this]
 exact hq _ _ ⟨rfl,e1.arg,e1.next,e1.same⟩ (hR _ _ (hh▸e2))
theorem fb{prot:Bool}{hide:List Nat}{args:List Opd}{d:Option Nat}{fn:MFun}(hv:own.veil hide=ov)(hu:own.unveil ov hide=own)(hh:has hide 1000000=false)(hf:T f=some fn)(hp:fn.params=args.length/\fn.nfree=0)
  (hc:Ok T (St.callCx ⟨sl,own,h⟩ cx prot) fn (St.enter (args.map (St.opd ⟨sl,own,h⟩)) (h.push cx.lvl ov)) fun v' h'=>v'=v/\h'=h.push cx.lvl ov)
  (hq:W T cx (.ops r kill::k) (St.setd ⟨sl,own,h⟩ d v) Q):
  W T cx (.ops (⟨d,.call prot hide f args,none⟩::r) kill::k) ⟨sl,own,h⟩ Q:=by
 refine kM (R:=fun v' h'=>v'=v/\h'=h.push cx.lvl ov) hf hp (by rw[hv,oV _ _ hh];exact hc) ?_
 rintro v' h' ⟨rfl,rfl⟩
 have:St.pop ⟨sl,own,h⟩ cx.lvl hide (h.push cx.lvl ov)=⟨sl,own,h⟩:=by
  simp only[St.pop,HP.pop,HP.push,if_true,hu]
  congr 1
  cases h
  simp only[HP.mk.injEq,and_true]
  funext l
  by_cases hl:l=cx.lvl<;>simp[hl]
 rw[this];exact hq
end
variable{h h' h0 h1:HP}
theorem fL{l t:Nat}{own:Own}(hb:own.get t=some ⟨.arr n tS,encS ws⟩)(hn:n=ws.length):Txs (h.push l own) (l+1) (.sl (.stk l t) 0 n) ws:=by
 subst hn
 refine .inr ⟨.stk l t,0,ws,rfl,cV _ _,?_,by omega,by simp⟩
 simp only[HP.look,HP.push,if_true]
 exact hb
theorem LifeAt.eq{f' c':Nat}{L':Lf}(a:LifeAt h p f c L)(b:LifeAt h p f' c' L'):f'=f/\c'=c:=by
 have h1:f=f':=by
  have:=a.li.symm.trans b.li
  simp[encLi]at this
  exact this.1
 subst h1
 have h2:=a.fi.symm.trans b.fi
 simp[encF]at h2
 exact⟨rfl,h2.1.symm⟩
theorem m7(h:∀w∈ws,w.size<=B):(sayL ws).length<=ws.length*(B+1)+1:=by
 have:=NQ h
 simp only[sayL,fk,List.length_append,List.length_singleton]at this⊢
 exact Nat.add_le_add_right this 1
def wNo:Str:=⟨#[110,111]⟩
def wOk:Str:=⟨#[111,107]⟩
def pa:Str:=⟨#[110,111,110,101]⟩
def eQ(L:Lf)(x:SStep):List Str:=if eB L x=0 then[wOk]else[wNo,bsL (bz (eB L x))]
def ja(L:Lf)(l:List Str):List Str:=
 let c:=readC L.fl.now (numC (txt l 0)) (txt l 1) (numC (txt l 2))
 if¬c=0 then[wNo,bsL (bz c)]else if readB L.fl.now (numC (txt l 0)) (txt l 1) (numC (txt l 2))=false then[pa]else
 [bsL (bS (readT L.fl.now (numC (txt l 0)) (txt l 1) (numC (txt l 2))).data.toList)]
theorem tZ{a b:Str}(ha:a.size<=60)(hb:b.size<=60)(hm:n+4000<=1048576):n+(sayL [a,b]).length<=1048576:=by
 have:=m7 (B:=60) (ws:=[a,b]) (by simp;exact⟨ha,hb⟩)
 simp only[List.length_cons,List.length_nil]at this
 omega
theorem one_len{a:Str}(ha:a.size<=900)(hm:n+4000<=1048576):n+(sayL [a]).length<=1048576:=by
 have:=m7 (B:=900) (ws:=[a]) (by simpa using ha)
 simp only[List.length_cons,List.length_nil]at this
 omega
theorem fQ{n:Int}(h:i64 n):(bsL (bz n)).size<=21:=by rw[dm];exact cT h
theorem nU{x:SStep}(hm:n+4000<=1048576):n+(sayL (eQ L x)).length<=1048576:=by
 unfold eQ
 split
 ·exact one_len (by decide) hm
 ·exact tZ (by decide) (Nat.le_trans (fQ (ez L x)) (by decide)) hm
section
variable{cx:Cx}{h0 h:HP}{d p f0 c0:Nat}{L:Lf}{bs:List UInt8}
theorem CC(hl:HL cx)(hs:s.size<=100000):Ok ff cx Fn.bX (St.enter [.str s] h) fun v h'=>Fr h h' []/\v=.str (bsL (bS s.data.toList)):=
 (uE (fun n _=>hl n) hs).mono fun v h' e=>⟨e.2,e.1⟩
theorem Ay{x:SStep}(hl:HL cx)(hD:DK h0 h d p f0 c0 L bs)(hi:Inv0 L.fl)(hx:x.ok):
  Ok ff cx Fn.aS (St.enter [.ptr (.obj p) [] tLife,x.enc] h) fun v h'=>v=.int .i64 (eB L x)/\DK h0 h' d p f0 c0 (lifeF L x) bs:=by
 obtain⟨st,fr,a,b,f,c,e1,e2,e3,e4,e5⟩:=id hD
 refine(upV (upT (CP hl e4 hi hx.name hx.to hx.text))).mono fun v h' e=>?_
 obtain⟨g1,rfl,g2⟩:=e
 exact⟨rfl,hD.step (fun f' c' h=>e4.eq h) g1 g2⟩
theorem C1{x:SStep}(hl:HL cx)(hD:DK h0 h d p f0 c0 L bs)(hi:Inv0 L.fl)(hx:x.ok)(hm:bs.length+4000<=1048576):
  Ok ff cx Fn.cA (St.enter [.ptr (.obj d) [] tDesk,x.enc] h) fun v h'=>v=.tup .unit/\DK h0 h' d p f0 c0 (lifeF L x) (bs++sayL (eQ L x)):=by
 obtain⟨st,fr,a,b,f,c,e1,e2,e3,e4,e5⟩:=id hD
 rw[aE]
 simp(disch:=omega)only[go_sem,e1]
 refine eh (h0:=h0) (R:=fun v=>v=.int .i64 (eB L x)) (L':=lifeF L x) (bs':=bs) (d:=d) (p:=p) (f0:=f0) (c0:=c0) rfl ⟨rfl,rfl⟩ hD.stk (by simp only[go_sem];exact Ay (by exact hl) hD.push hi hx) ?_
 rintro _ h1 rfl hD1
 by_cases c1:eB L x=0
 ·have ew:eQ L x=[wOk]:=by simp[eQ,c1]
  have hm:=nU (L:=L) (x:=x) hm
  rw[ew]at hm⊢
  simp(disch:=omega)only[go_sem,c1]
  refine eh (h0:=h0) (R:=fun v=>v=.tup .unit) (L':=lifeF L x) (bs':=bs++sayL ([wOk])) (d:=d) (p:=p) (f0:=f0) (c0:=c0) rfl ⟨rfl,rfl⟩ hD1.stk (by simp only[go_sem];exact hY (ws:=[wOk]) (by exact hl) hD1.push (fL (ws:=[wOk]) rfl rfl) (by simp) hm) ?_
  rintro _ h2 rfl hD2
  simp(disch:=omega)only[go_sem]
  exact hD2
 ·have ew:eQ L x=[wNo,bsL (bz (eB L x))]:=by simp[eQ,c1]
  have hm:=nU (L:=L) (x:=x) hm
  rw[ew]at hm⊢
  simp(disch:=omega)only[go_sem,c1]
  refine am rfl ⟨rfl,rfl⟩ (by simp only[go_sem];exact jD (ez L x)) ?_
  simp(disch:=omega)only[go_sem]
  refine eh (h0:=h0) (R:=fun v=>v=.tup .unit) (L':=lifeF L x) (bs':=bs++sayL ([wNo,bsL (bz (eB L x))])) (d:=d) (p:=p) (f0:=f0) (c0:=c0) rfl ⟨rfl,rfl⟩ hD1.stk (by simp only[go_sem];exact hY (ws:=[wNo,bsL (bz (eB L x))]) (by exact hl) hD1.push (fL (ws:=[wNo,bsL (bz (eB L x))]) rfl rfl) (by simp) hm) ?_
  rintro _ h2 rfl hD2
  simp(disch:=omega)only[go_sem]
  exact hD2
theorem C2(hl:HL cx)(hD:DK h0 h d p f0 c0 L bs)(hi:LTight L)(hv:Txs h cx.lvl v l)(hn:l.length=3)(hs:∀i,(txt l i).size<=10000)(hm:bs.length+4000<=1048576):
  Ok ff cx Fn.cg (St.enter [.ptr (.obj d) [] tDesk,v] h) fun v h'=>v=.tup .unit/\DK h0 h' d p f0 c0 L (bs++sayL (ja L l)):=by
 obtain⟨st,fr,a,b,f,c,e1,e2,e3,e4,e5⟩:=id hD
 have hix:=fun z sl own=>hv.ix (cx:=cx) (kk:=.i64) (z:=z) sl own
 have hlv:=fun z sl own=>hv.lv (cx:=cx) (z:=z) sl own
 have hfg:=fun t=>hv.fg (t:=t)
 have hld:=fun t=>hv.ld (t:=t)
 have hfx:=fun z t=>hv.fgx (t:=t) z
 have hlx:=fun z t=>hv.ldx (t:=t) z
 rw[aE]
 simp(disch:=omega)only[go_sem,e1,e4.li,hix,hlv,hfg,hld,hfx,hlx]
 refine am rfl ⟨rfl,rfl⟩ (by simp only[go_sem];exact eP (hs:=by have:=hs 0;exact Nat.le_trans this (by decide))) ?_
 simp(disch:=omega)only[go_sem,hix,hlv,hfg,hld,hfx,hlx]
 refine am rfl ⟨rfl,rfl⟩ (by simp only[go_sem];exact eP (hs:=by have:=hs 2;exact Nat.le_trans this (by decide))) ?_
 simp(disch:=omega)only[go_sem,hix,hlv,hfg,hld,hfx,hlx]
 refine am rfl ⟨rfl,rfl⟩ (by simp only[go_sem];exact upV (upT (Eo (f:=f) (c:=c) (a:=L.fl.now) (b:=L.fl.disk) (st:=L.fl.stamp) (by simp only[go_sem,e4.fi]) (by simp only[go_sem,e4.ca]) hi.inv.wf (by have:=hs 1;omega)))) ?_
 simp(disch:=omega)only[go_sem,hfg,hld,mR]
 by_cases c1:readC L.fl.now (numC (txt l 0)) (txt l 1) (numC (txt l 2))=0
 ·cases c2:readB L.fl.now (numC (txt l 0)) (txt l 1) (numC (txt l 2))with
  |false=>
   have ew:ja L l=[pa]:=by simp[ja,c1,c2]
   rw[ew]
   simp(disch:=omega)only[go_sem,c1,c2]
   refine eh (h0:=h0) (R:=fun v=>v=.tup .unit) (L':=L) (bs':=bs++sayL ([pa])) (d:=d) (p:=p) (f0:=f0) (c0:=c0) rfl ⟨rfl,rfl⟩ hD.stk (by simp only[go_sem];exact hY (ws:=[pa]) (by exact hl) hD.push (fL (ws:=[pa]) rfl rfl) (by simp) (one_len (by decide) hm)) ?_
   rintro _ h2 rfl hD2
   simp(disch:=omega)only[go_sem]
   exact hD2
  |true=>
   have ew:ja L l=[bsL (bS (readT L.fl.now (numC (txt l 0)) (txt l 1) (numC (txt l 2))).data.toList)]:=by simp[ja,c1,c2]
   have hsz:(readT L.fl.now (numC (txt l 0)) (txt l 1) (numC (txt l 2))).size<=8:=by
    unfold readT
    rw[if_pos c2]
    exact(hi.now.dat _).2
   rw[ew]
   generalize readT L.fl.now (numC (txt l 0)) (txt l 1) (numC (txt l 2))=rt at hsz⊢
   simp(disch:=omega)only[go_sem,c1,c2]
   refine eY (S:=[]) (R:=fun v h'=>v=.str (bsL (bS rt.data.toList))) rfl ⟨rfl,rfl⟩ (by simp only[go_sem];exact CC (by exact hl) (by omega)) (fun _ _ e=>e) ?_
   rintro _ h1 hF rfl
   have hD1:=hD.same hF
   simp(disch:=omega)only[go_sem]
   refine eh (h0:=h0) (R:=fun v=>v=.tup .unit) (L':=L) (bs':=bs++sayL ([bsL (bS rt.data.toList)])) (d:=d) (p:=p) (f0:=f0) (c0:=c0) rfl ⟨rfl,rfl⟩ hD1.stk (by simp only[go_sem];exact hY (ws:=[bsL (bS rt.data.toList)]) (by exact hl) hD1.push (fL (ws:=[bsL (bS rt.data.toList)]) rfl rfl) (by simp) (one_len (by rw[dm];have:=lV rt.data.toList;have h2:rt.data.toList.length=rt.size:=Array.length_toList;omega) hm)) ?_
   rintro _ h2 rfl hD2
   simp(disch:=omega)only[go_sem]
   exact hD2
 ·have ew:ja L l=[wNo,bsL (bz (readC L.fl.now (numC (txt l 0)) (txt l 1) (numC (txt l 2))))]:=by simp[ja,c1]
  have hcc:=mE L.fl.now (numC (txt l 0)) (txt l 1) (numC (txt l 2))
  rw[ew]
  simp(disch:=omega)only[go_sem,c1]
  refine am rfl ⟨rfl,rfl⟩ (by simp only[go_sem];exact jD hcc) ?_
  simp(disch:=omega)only[go_sem]
  refine eh (h0:=h0) (R:=fun v=>v=.tup .unit) (L':=L) (bs':=bs++sayL ([wNo,bsL (bz (readC L.fl.now (numC (txt l 0)) (txt l 1) (numC (txt l 2))))])) (d:=d) (p:=p) (f0:=f0) (c0:=c0) rfl ⟨rfl,rfl⟩ hD.stk (by simp only[go_sem];exact hY (ws:=[wNo,bsL (bz (readC L.fl.now (numC (txt l 0)) (txt l 1) (numC (txt l 2))))]) (by exact hl) hD.push (fL (ws:=[wNo,bsL (bz (readC L.fl.now (numC (txt l 0)) (txt l 1) (numC (txt l 2))))]) rfl rfl) (by simp) (tZ (by decide) (Nat.le_trans (fQ hcc) (by decide)) hm)) ?_
  rintro _ h2 rfl hD2
  simp(disch:=omega)only[go_sem]
  exact hD2
end
def fA:Str:=⟨#[114,101,97,100]⟩
def fB:Str:=⟨#[108,105,115,116]⟩
def fy:Str:=⟨#[115,97,109,101]⟩
def fx:Str:=⟨#[115,117,114,101]⟩
def fC:Str:=⟨#[100,105,115,107]⟩
def d8:Str:=⟨#[100,105,114,116,121]⟩
def dR:Str:=⟨#[108,111,115,116]⟩
def wNames:Str:=⟨#[110,97,109,101,115]⟩
def rY:Str:=⟨#[101,110,100]⟩
def boolS(b:Bool):Str:=if b=true then⟨#[116,114,117,101]⟩else⟨#[102,97,108,115,101]⟩
def dirtyT(L:Lf):Nat->List UInt8
 |0=>[100,105,114,116,121]
 |k+1=>if dirty L.fl.now L.fl.disk k=true then dirtyT L k++([32]++bz k)else dirtyT L k
def dP(L:Lf)(l:List Str):Option (List UInt8):=
 if txt l 0=fA/\l.length=4 then some (sayL (ja L (l.drop 1)))else
 if txt l 0=fB/\l.length=2 then some (sayL (wNames::listOf L.fl.now (numC (txt l 1))))else
 if txt l 0=fy/\l.length=5 then some (sayL [boolS (sameB L.fl.now (numC (txt l 1)) (txt l 2) (numC (txt l 3)) (txt l 4))])else
 if txt l 0=fx/\l.length=3 then some (sayL [boolS (sureB L.fl.now L.fl.disk (numC (txt l 1)) (txt l 2))])else
 if txt l 0=fC/\l.length=1 then some (textL L.fl.disk++sayL [rY])else
 if txt l 0=d8/\l.length=1 then some (sayL [bsL (dirtyT L 14)])else
 if txt l 0=dR/\l.length=1 then some (sayL [dR,bsL (bz L.n),bsL (bz L.a),bsL (bz L.b),bsL (bz L.c)])else none
variable{x:Opd}
section
variable{cx:Cx}{h0 h:HP}{d p f0 c0:Nat}{L:Lf}{bs:List UInt8}
theorem boolS_len(b:Bool):(boolS b).size<=900:=by cases b<;>decide
theorem rU{b:Bool}:Ok ff cx Fn.cM (St.enter [.bool b] h) fun v h'=>v=.str (boolS b)/\h'=h:=yf
def fV(cx:Cx)(h0 h:HP)(d p f0 c0:Nat)(L:Lf)(bs:List UInt8)(v:AV)(l:List Str):Prop:=
 Ok ff cx Fn.ay (St.enter [.ptr (.obj d) [] tDesk,v] h) fun v' h'=>v'=.bool (dP L l).isSome/\DK h0 h' d p f0 c0 L (bs++(dP L l).getD [])
theorem uQ(l:List Str)(n i:Nat):txt (l.drop n) i=txt l (n+i):=by simp[txt,List.getD_eq_getElem?_getD]
theorem mJ(a:Img)(d:Int):(listOf a d).length<=4:=by
 unfold listOf
 split
 ·simp
 ·rw[(ka _).length_eq];exact kp _ _ _
theorem list_len{a:Img}(ha:Tight a)(d:Int)(hm:n+4000<=1048576):n+(sayL (wNames::listOf a d)).length<=1048576:=by
 have h6:∀k,∀w∈namesL a d.toNat k,w.size<=60:=by
  intro k
  induction k with
  |zero=>simp[namesL]
  |succ k ih=>
   unfold namesL
   split
   ·exact ih
   ·intro w hw
    rcases List.mem_append.1 hw with hw|hw
    ·exact ih w hw
    ·simp only[List.mem_singleton]at hw
     subst hw
     exact Nat.le_trans (ha.ent _ _).2.2 (by decide)
 have:=m7 (B:=60) (ws:=wNames::listOf a d) (by
  intro w hw
  rcases List.mem_cons.1 hw with rfl|hw
  ·decide
  ·unfold listOf at hw
   split at hw
   ·simp at hw
   ·exact h6 4 w ((ka _).mem_iff.1 hw))
 have:=mJ a d
 simp only[List.length_cons]at *
 have h2:(1+(listOf a d).length)*61<=305:=by omega
 omega
theorem kH(L:Lf):∀k,k<=14->(dirtyT L k).length<=5+k*22
 |0,_=>by simp[dirtyT]
 |k+1,hk=>by
  have:=kH L k (by omega)
  unfold dirtyT
  split
  ·simp only[List.length_append,List.length_singleton]
   have:=cT (n:=(k:Int)) (cP (by omega) (by omega))
   omega
  ·omega
theorem Cr{T:MTb}{k:List Item}{kill:List Nat}{r:List MOp}{sl:Slots}{own:Own}{Q:St->Prop}{dd u:Nat}{y:Opd}{m:List Str}
  (hx:St.opd ⟨sl,own,h⟩ x=.sl (.stk cx.lvl u) 0 1) (hb:own.get u=some ⟨.arr 1 tS,encS [s]⟩) (hy:elems (St.look cx ⟨sl,own,h⟩) tS (St.opd ⟨sl,own,h⟩ y)=some (m.map AV.str)) (hm:m.length<=1000)
  (hQ1:m=[]->W T cx (.ops r kill::k) ⟨sl.set dd (.sl (.stk cx.lvl u) 0 1),own.set u ⟨.arr 1 tS,encS [s]⟩,h⟩ Q)
  (hQ2:¬m=[]->W T cx (.ops r kill::k) ⟨(Slots.forget sl (.stk cx.lvl dd)).set dd (.sl (.stk cx.lvl dd) 0 (s::m).length),(own.rid u).set dd ⟨.arr (s::m).length tS,encS (s::m)⟩,h⟩ Q):
  W T cx (.ops (⟨some dd,.append false [] tS x y,none⟩::r) kill::k) ⟨sl,own,h⟩ Q:=by
 have hlk:St.look cx ⟨sl,own,h⟩ (.stk cx.lvl u)=some ⟨.arr 1 tS,encS [s]⟩:=by simp[St.look,Id.own,hb]
 rw[gW rfl,evOp]
 have hap:∀e,([]:List Nat).all (apOk (St.opd ⟨sl,own,h⟩) (St.opd ⟨sl,own,h⟩ x) (St.opd ⟨sl,own,h⟩ y) e)=true:=fun _=>rfl
 have ek:evK (St.opd ⟨sl,own,h⟩) (St.look cx ⟨sl,own,h⟩) (.append false [] tS x y)=evAppend (St.look cx ⟨sl,own,h⟩) tS (.sl (.stk cx.lvl u) 0 1) (m.map AV.str):=by
  simp only[evK,hx,hy]
  cases evAppend (St.look cx ⟨sl,own,h⟩) tS (.sl (.stk cx.lvl u) 0 1) (m.map AV.str)<;>rfl
 rw[ek]
 by_cases hn:m=[]
 ·subst hn
  have ea:evAppend (St.look cx ⟨sl,own,h⟩) tS (.sl (.stk cx.lvl u) 0 1) (List.map AV.str [])=some (.wr (.stk cx.lvl u) ⟨.arr 1 tS,encS [s]⟩ (.sl (.stk cx.lvl u) 0 1)):=by
   have hf:=iW [s] (n:=1) rfl
   simp only[encS,List.map_cons,List.map_nil]at hf
   simp only[evAppend,hlk,fm,List.map_nil,List.map_cons,List.length_nil,List.length_cons,if_true]
   rw[if_pos (by omega)]
   change (if(Ty.arr 1 tS).fits (AV.ofList [.str s])=true then _ else _)=_
   rw[if_pos hf]
   rfl
  rw[ea]
  simp only[cE,ax,St.write,Id.own,if_true,Option.map_some]
  exact hQ1 rfl
 ·have hpos:0<m.length:=List.length_pos_iff.2 hn
  have ea:evAppend (St.look cx ⟨sl,own,h⟩) tS (.sl (.stk cx.lvl u) 0 1) (m.map AV.str)=some (.grow (.stk cx.lvl u) ⟨.arr (s::m).length tS,encS (s::m)⟩ (s::m).length):=by
   have hf:=iW (s::m) (n:=1+m.length) (by simp;omega)
   simp only[encS,List.map_cons]at hf
   simp only[evAppend,hlk,fm,List.map_nil,List.map_cons,List.length_nil,List.length_cons,List.length_map,if_true]
   rw[if_neg (by omega),if_pos (by omega)]
   have e2:List.take 1 (List.drop 0 [AV.str s])++List.map AV.str m=AV.str s::m.map AV.str:=rfl
   simp only[e2]
   rw[if_pos ⟨hf,by omega⟩]
   simp only[encS,List.map_cons,Nat.add_comm 1 m.length]
  rw[ea]
  simp only[cE,ax,St.drop,Id.own,if_true,Option.map_some]
  exact hQ2 hn
theorem Am{T:MTb}{k:List Item}{kill:List Nat}{r:List MOp}{sl:Slots}{own:Own}{Q:St->Prop}{dd:Nat}(hv:Txs h cx.lvl v l)(hn:1<l.length)
  (hx:St.opd ⟨sl,own,h⟩ x=v) (hy:True) (hQ:∀v',Txs h cx.lvl v' (l.drop 1)->W T cx (.ops r kill::k) ⟨sl.set dd v',own,h⟩ Q):W T cx (.ops (⟨some dd,.slice none tS x (some (.c (.int .i64 1))) none none,none⟩::r) kill::k) ⟨sl,own,h⟩ Q:=by
 rcases hv with⟨_,rfl⟩|⟨i,o,w,rfl,hb,hk,hle,ht⟩
 ·simp at hn
 refine Cl (i:=i) (o:=o) (n:=l.length) (N:=w.length) (w:=encS w) (a:=1) (b:=l.length) hx (by rw[kw hb];exact hk) (.inr ⟨_,rfl,rfl⟩) (.inl ⟨rfl,rfl⟩) (by omega) (by omega) (.inl (by omega)) ?_
 refine hQ _ (.inr ⟨i,o+1,w,by simp,hb,hk,by simp;omega,?_⟩)
 rw[←List.drop_drop,←ht]
 simp[List.drop_take]
theorem Dg(hl:HL cx)(hD:DK h0 h d p f0 c0 L bs)(hi:LTight L)(hv:Txs h cx.lvl v l)(hpos:0<l.length)(hs:∀i,(txt l i).size<=10000)(hm:bs.length+4000<=1048576)(hk:txt l 0=⟨#[114,101,97,100]⟩):fV cx h0 h d p f0 c0 L bs v l:=by
 obtain⟨st,fr,a,b,f,c,e1,e2,e3,e4,e5⟩:=id hD
 have hix:=fun z sl own=>hv.ix (cx:=cx) (kk:=.i64) (z:=z) sl own
 have hlv:=fun z sl own=>hv.lv (cx:=cx) (z:=z) sl own
 have hfg:=fun t=>hv.fg (t:=t)
 have hld:=fun t=>hv.ld (t:=t)
 have hfx:=fun z t=>hv.fgx (t:=t) z
 have hlx:=fun z t=>hv.ldx (t:=t) z
 have hln:=hv.len
 have q0:decide (txt l 0=⟨#[114,101,97,100]⟩)=true:=by rw[hk];decide
 have q1:decide (txt l 0=⟨#[108,105,115,116]⟩)=false:=by rw[hk];decide
 have q2:decide (txt l 0=⟨#[115,97,109,101]⟩)=false:=by rw[hk];decide
 have q3:decide (txt l 0=⟨#[115,117,114,101]⟩)=false:=by rw[hk];decide
 have q4:decide (txt l 0=⟨#[100,105,115,107]⟩)=false:=by rw[hk];decide
 have q5:decide (txt l 0=⟨#[100,105,114,116,121]⟩)=false:=by rw[hk];decide
 have q6:decide (txt l 0=⟨#[108,111,115,116]⟩)=false:=by rw[hk];decide
 by_cases hL:(l.length:Int)=4
 ·have hL2:l.length=4:=by omega
  have ea:dP L l=some (sayL (ja L (l.drop 1))):=by simp[dP,hk,hL2,fA,fB,fy,fx,fC,d8,dR]
  unfold fV
  rw[ea,aE]
  simp only[Option.isSome_some,Option.getD_some]
  simp(disch:=omega)only[go_sem,q0,q1,q2,q3,q4,q5,q6,e1,e4.li,e4.fi,e4.ca,hix,hlv,hfg,hld,hfx,hlx,hln,hL]
  refine Am hv (by omega) (by simp only[go_sem]) (by simp only[go_sem]) ?_
  intro v' hv'
  simp(disch:=omega)only[go_sem]
  refine eh (h0:=h0) (R:=fun v=>v=.tup .unit) (L':=L) (bs':=bs++sayL (ja L (l.drop 1))) (d:=d) (p:=p) (f0:=f0) (c0:=c0) rfl ⟨rfl,rfl⟩ hD.stk (by simp only[go_sem];exact C2 (by exact hl) hD.push hi hv'.push (by simp;omega) (fun i=>by rw[uQ];exact hs _) hm) ?_
  rintro _ h2 rfl hD2
  simp(disch:=omega)only[go_sem]
  exact hD2
 ·have hL2:¬l.length=4:=by omega
  have ea:dP L l=none:=by simp[dP,hk,hL2,fA,fB,fy,fx,fC,d8,dR]
  unfold fV
  rw[ea,aE]
  simp only[Option.isSome_none,Option.getD_none,List.append_nil]
  simp(disch:=omega)only[go_sem,q0,q1,q2,q3,q4,q5,q6,e1,hix,hlv,hfg,hld,hfx,hlx,hln,hL]
  exact hD
theorem Di(hl:HL cx)(hD:DK h0 h d p f0 c0 L bs)(hi:LTight L)(hv:Txs h cx.lvl v l)(hpos:0<l.length)(hs:∀i,(txt l i).size<=10000)(hm:bs.length+4000<=1048576)(hk:txt l 0=⟨#[108,105,115,116]⟩):fV cx h0 h d p f0 c0 L bs v l:=by
 obtain⟨st,fr,a,b,f,c,e1,e2,e3,e4,e5⟩:=id hD
 have hix:=fun z sl own=>hv.ix (cx:=cx) (kk:=.i64) (z:=z) sl own
 have hlv:=fun z sl own=>hv.lv (cx:=cx) (z:=z) sl own
 have hfg:=fun t=>hv.fg (t:=t)
 have hld:=fun t=>hv.ld (t:=t)
 have hfx:=fun z t=>hv.fgx (t:=t) z
 have hlx:=fun z t=>hv.ldx (t:=t) z
 have hln:=hv.len
 have q0:decide (txt l 0=⟨#[114,101,97,100]⟩)=false:=by rw[hk];decide
 have q1:decide (txt l 0=⟨#[108,105,115,116]⟩)=true:=by rw[hk];decide
 have q2:decide (txt l 0=⟨#[115,97,109,101]⟩)=false:=by rw[hk];decide
 have q3:decide (txt l 0=⟨#[115,117,114,101]⟩)=false:=by rw[hk];decide
 have q4:decide (txt l 0=⟨#[100,105,115,107]⟩)=false:=by rw[hk];decide
 have q5:decide (txt l 0=⟨#[100,105,114,116,121]⟩)=false:=by rw[hk];decide
 have q6:decide (txt l 0=⟨#[108,111,115,116]⟩)=false:=by rw[hk];decide
 by_cases hL:(l.length:Int)=2
 ·have hL2:l.length=2:=by omega
  have ea:dP L l=some (sayL (wNames::listOf L.fl.now (numC (txt l 1)))):=by simp[dP,hk,hL2,fA,fB,fy,fx,fC,d8,dR]
  unfold fV
  rw[ea,aE]
  simp only[Option.isSome_some,Option.getD_some]
  simp(disch:=omega)only[go_sem,q0,q1,q2,q3,q4,q5,q6,e1,e4.li,e4.fi,e4.ca,hix,hlv,hfg,hld,hfx,hlx,hln,hL]
  refine fb (v:=.int .i64 (numC (txt l 1))) (ov:=[]) rfl rfl rfl rfl ⟨rfl,rfl⟩ (by simp only[go_sem];exact eP (hs:=by have:=hs 1;exact Nat.le_trans this (by decide))) ?_
  simp(disch:=omega)only[go_sem,e1,e4.li,e4.fi,e4.ca,hix,hlv,hfg,hld,hfx,hlx,hln,hL]
  refine Cq (S:=[]) (R:=fun v h'=>SlF h h' v (listOf L.fl.now (numC (txt l 1)))) (ov:=[]) rfl rfl rfl rfl ⟨rfl,rfl⟩ (by simp only[go_sem];exact upV (upT (Ew (f:=f) (c:=c) (a:=L.fl.now) (b:=L.fl.disk) (st:=L.fl.stamp) (by exact hl) (by simp only[go_sem,e4.fi]) (by simp only[go_sem,e4.ca])))) (fun v h1 e=>e) ?_
  intro w h1 hF hs1
  have hD1:=hD.same hF
  have hl4:=mJ L.fl.now (numC (txt l 1))
  have hsy:=list_len (n:=bs.length) hi.now (numC (txt l 1)) hm
  generalize hm0:listOf L.fl.now (numC (txt l 1))=ms at hs1 hl4 hsy⊢
  refine Cr (u:=34) (s:=wNames) (m:=ms) (by simp only[go_sem]) rfl (hs1.txs.elems fun i hb=>kw hb) (by omega) ?_ ?_
  ·rintro rfl
   simp(disch:=omega)only[go_sem]
   refine eh (h0:=h0) (R:=fun v=>v=.tup .unit) (L':=L) (bs':=bs++sayL ([wNames])) (d:=d) (p:=p) (f0:=f0) (c0:=c0) rfl ⟨rfl,rfl⟩ hD1.stk (by simp only[go_sem];exact hY (ws:=[wNames]) (by exact hl) hD1.push (fL (ws:=[wNames]) rfl rfl) (by first|(simp;done)|(simp;omega)) hsy) ?_
   rintro _ h2 rfl hD2
   simp(disch:=omega)only[go_sem]
   exact hD2
  ·intro _
   simp(disch:=omega)only[go_sem]
   refine eh (h0:=h0) (R:=fun v=>v=.tup .unit) (L':=L) (bs':=bs++sayL (wNames::ms)) (d:=d) (p:=p) (f0:=f0) (c0:=c0) rfl ⟨rfl,rfl⟩ hD1.stk (by simp only[go_sem];exact hY (ws:=wNames::ms) (by exact hl) hD1.push (fL (ws:=wNames::ms) rfl rfl) (by first|(simp;done)|(simp;omega)) hsy) ?_
   rintro _ h2 rfl hD2
   simp(disch:=omega)only[go_sem]
   exact hD2
 ·have hL2:¬l.length=2:=by omega
  have ea:dP L l=none:=by simp[dP,hk,hL2,fA,fB,fy,fx,fC,d8,dR]
  unfold fV
  rw[ea,aE]
  simp only[Option.isSome_none,Option.getD_none,List.append_nil]
  simp(disch:=omega)only[go_sem,q0,q1,q2,q3,q4,q5,q6,e1,hix,hlv,hfg,hld,hfx,hlx,hln,hL]
  exact hD
theorem Df(hl:HL cx)(hD:DK h0 h d p f0 c0 L bs)(hi:LTight L)(hv:Txs h cx.lvl v l)(hpos:0<l.length)(hs:∀i,(txt l i).size<=10000)(hm:bs.length+4000<=1048576)(hk:txt l 0=⟨#[115,97,109,101]⟩):fV cx h0 h d p f0 c0 L bs v l:=by
 obtain⟨st,fr,a,b,f,c,e1,e2,e3,e4,e5⟩:=id hD
 have hix:=fun z sl own=>hv.ix (cx:=cx) (kk:=.i64) (z:=z) sl own
 have hlv:=fun z sl own=>hv.lv (cx:=cx) (z:=z) sl own
 have hfg:=fun t=>hv.fg (t:=t)
 have hld:=fun t=>hv.ld (t:=t)
 have hfx:=fun z t=>hv.fgx (t:=t) z
 have hlx:=fun z t=>hv.ldx (t:=t) z
 have hln:=hv.len
 have q0:decide (txt l 0=⟨#[114,101,97,100]⟩)=false:=by rw[hk];decide
 have q1:decide (txt l 0=⟨#[108,105,115,116]⟩)=false:=by rw[hk];decide
 have q2:decide (txt l 0=⟨#[115,97,109,101]⟩)=true:=by rw[hk];decide
 have q3:decide (txt l 0=⟨#[115,117,114,101]⟩)=false:=by rw[hk];decide
 have q4:decide (txt l 0=⟨#[100,105,115,107]⟩)=false:=by rw[hk];decide
 have q5:decide (txt l 0=⟨#[100,105,114,116,121]⟩)=false:=by rw[hk];decide
 have q6:decide (txt l 0=⟨#[108,111,115,116]⟩)=false:=by rw[hk];decide
 by_cases hL:(l.length:Int)=5
 ·have hL2:l.length=5:=by omega
  have ea:dP L l=some (sayL [boolS (sameB L.fl.now (numC (txt l 1)) (txt l 2) (numC (txt l 3)) (txt l 4))]):=by simp[dP,hk,hL2,fA,fB,fy,fx,fC,d8,dR]
  unfold fV
  rw[ea,aE]
  simp only[Option.isSome_some,Option.getD_some]
  simp(disch:=omega)only[go_sem,q0,q1,q2,q3,q4,q5,q6,e1,e4.li,e4.fi,e4.ca,hix,hlv,hfg,hld,hfx,hlx,hln,hL]
  refine fb (v:=.int .i64 (numC (txt l 1))) rfl rfl rfl rfl ⟨rfl,rfl⟩ (by simp only[go_sem];exact eP (hs:=by have:=hs 1;exact Nat.le_trans this (by decide))) ?_
  simp(disch:=omega)only[go_sem,e1,e4.li,e4.fi,e4.ca,hix,hlv,hfg,hld,hfx,hlx,hln,hL]
  refine fb (v:=.int .i64 (numC (txt l 3))) rfl rfl rfl rfl ⟨rfl,rfl⟩ (by simp only[go_sem];exact eP (hs:=by have:=hs 3;exact Nat.le_trans this (by decide))) ?_
  simp(disch:=omega)only[go_sem,e1,e4.li,e4.fi,e4.ca,hix,hlv,hfg,hld,hfx,hlx,hln,hL]
  refine fb (v:=.bool (sameB L.fl.now (numC (txt l 1)) (txt l 2) (numC (txt l 3)) (txt l 4))) rfl rfl rfl rfl ⟨rfl,rfl⟩ (by simp only[go_sem];exact upV (upT (Em (f:=f) (c:=c) (a:=L.fl.now) (b:=L.fl.disk) (st:=L.fl.stamp) (by simp only[go_sem,e4.fi]) (by simp only[go_sem,e4.ca])))) ?_
  generalize sameB L.fl.now (numC (txt l 1)) (txt l 2) (numC (txt l 3)) (txt l 4)=bb
  simp(disch:=omega)only[go_sem,e1,e4.li,e4.fi,e4.ca,hix,hlv,hfg,hld,hfx,hlx,hln,hL]
  refine fb (v:=.str (boolS bb)) rfl rfl rfl rfl ⟨rfl,rfl⟩ (by simp only[go_sem];exact rU) ?_
  simp(disch:=omega)only[go_sem,e1,e4.li,e4.fi,e4.ca,hix,hlv,hfg,hld,hfx,hlx,hln,hL]
  refine eh (h0:=h0) (R:=fun v=>v=.tup .unit) (L':=L) (bs':=bs++sayL ([boolS bb])) (d:=d) (p:=p) (f0:=f0) (c0:=c0) rfl ⟨rfl,rfl⟩ hD.stk (by simp only[go_sem];exact hY (ws:=[boolS bb]) (by exact hl) hD.push (fL (ws:=[boolS bb]) rfl rfl) (by first|(simp;done)|(simp;omega)) (one_len (boolS_len bb) hm)) ?_
  rintro _ h2 rfl hD2
  simp(disch:=omega)only[go_sem]
  exact hD2
 ·have hL2:¬l.length=5:=by omega
  have ea:dP L l=none:=by simp[dP,hk,hL2,fA,fB,fy,fx,fC,d8,dR]
  unfold fV
  rw[ea,aE]
  simp only[Option.isSome_none,Option.getD_none,List.append_nil]
  simp(disch:=omega)only[go_sem,q0,q1,q2,q3,q4,q5,q6,e1,hix,hlv,hfg,hld,hfx,hlx,hln,hL]
  exact hD
theorem De(hl:HL cx)(hD:DK h0 h d p f0 c0 L bs)(hi:LTight L)(hv:Txs h cx.lvl v l)(hpos:0<l.length)(hs:∀i,(txt l i).size<=10000)(hm:bs.length+4000<=1048576)(hk:txt l 0=⟨#[115,117,114,101]⟩):fV cx h0 h d p f0 c0 L bs v l:=by
 obtain⟨st,fr,a,b,f,c,e1,e2,e3,e4,e5⟩:=id hD
 have hix:=fun z sl own=>hv.ix (cx:=cx) (kk:=.i64) (z:=z) sl own
 have hlv:=fun z sl own=>hv.lv (cx:=cx) (z:=z) sl own
 have hfg:=fun t=>hv.fg (t:=t)
 have hld:=fun t=>hv.ld (t:=t)
 have hfx:=fun z t=>hv.fgx (t:=t) z
 have hlx:=fun z t=>hv.ldx (t:=t) z
 have hln:=hv.len
 have q0:decide (txt l 0=⟨#[114,101,97,100]⟩)=false:=by rw[hk];decide
 have q1:decide (txt l 0=⟨#[108,105,115,116]⟩)=false:=by rw[hk];decide
 have q2:decide (txt l 0=⟨#[115,97,109,101]⟩)=false:=by rw[hk];decide
 have q3:decide (txt l 0=⟨#[115,117,114,101]⟩)=true:=by rw[hk];decide
 have q4:decide (txt l 0=⟨#[100,105,115,107]⟩)=false:=by rw[hk];decide
 have q5:decide (txt l 0=⟨#[100,105,114,116,121]⟩)=false:=by rw[hk];decide
 have q6:decide (txt l 0=⟨#[108,111,115,116]⟩)=false:=by rw[hk];decide
 by_cases hL:(l.length:Int)=3
 ·have hL2:l.length=3:=by omega
  have ea:dP L l=some (sayL [boolS (sureB L.fl.now L.fl.disk (numC (txt l 1)) (txt l 2))]):=by simp[dP,hk,hL2,fA,fB,fy,fx,fC,d8,dR]
  unfold fV
  rw[ea,aE]
  simp only[Option.isSome_some,Option.getD_some]
  simp(disch:=omega)only[go_sem,q0,q1,q2,q3,q4,q5,q6,e1,e4.li,e4.fi,e4.ca,hix,hlv,hfg,hld,hfx,hlx,hln,hL]
  refine fb (v:=.int .i64 (numC (txt l 1))) rfl rfl rfl rfl ⟨rfl,rfl⟩ (by simp only[go_sem];exact eP (hs:=by have:=hs 1;exact Nat.le_trans this (by decide))) ?_
  simp(disch:=omega)only[go_sem,e1,e4.li,e4.fi,e4.ca,hix,hlv,hfg,hld,hfx,hlx,hln,hL]
  refine fb (v:=.bool (sureB L.fl.now L.fl.disk (numC (txt l 1)) (txt l 2))) rfl rfl rfl rfl ⟨rfl,rfl⟩ (by simp only[go_sem];exact upV (upT (Ei (f:=f) (c:=c) (a:=L.fl.now) (b:=L.fl.disk) (st:=L.fl.stamp) (by simp only[go_sem,e4.fi]) (by simp only[go_sem,e4.ca])))) ?_
  generalize sureB L.fl.now L.fl.disk (numC (txt l 1)) (txt l 2)=bb
  simp(disch:=omega)only[go_sem,e1,e4.li,e4.fi,e4.ca,hix,hlv,hfg,hld,hfx,hlx,hln,hL]
  refine fb (v:=.str (boolS bb)) rfl rfl rfl rfl ⟨rfl,rfl⟩ (by simp only[go_sem];exact rU) ?_
  simp(disch:=omega)only[go_sem,e1,e4.li,e4.fi,e4.ca,hix,hlv,hfg,hld,hfx,hlx,hln,hL]
  refine eh (h0:=h0) (R:=fun v=>v=.tup .unit) (L':=L) (bs':=bs++sayL ([boolS bb])) (d:=d) (p:=p) (f0:=f0) (c0:=c0) rfl ⟨rfl,rfl⟩ hD.stk (by simp only[go_sem];exact hY (ws:=[boolS bb]) (by exact hl) hD.push (fL (ws:=[boolS bb]) rfl rfl) (by first|(simp;done)|(simp;omega)) (one_len (boolS_len bb) hm)) ?_
  rintro _ h2 rfl hD2
  simp(disch:=omega)only[go_sem]
  exact hD2
 ·have hL2:¬l.length=3:=by omega
  have ea:dP L l=none:=by simp[dP,hk,hL2,fA,fB,fy,fx,fC,d8,dR]
  unfold fV
  rw[ea,aE]
  simp only[Option.isSome_none,Option.getD_none,List.append_nil]
  simp(disch:=omega)only[go_sem,q0,q1,q2,q3,q4,q5,q6,e1,hix,hlv,hfg,hld,hfx,hlx,hln,hL]
  exact hD
theorem Dj(hl:HL cx)(hD:DK h0 h d p f0 c0 L bs)(hi:LTight L)(hv:Txs h cx.lvl v l)(hpos:0<l.length)(hs:∀i,(txt l i).size<=10000)(hm:bs.length+4000<=1048576)(hk:txt l 0=⟨#[100,105,115,107]⟩):fV cx h0 h d p f0 c0 L bs v l:=by
 obtain⟨st,fr,a,b,f,c,e1,e2,e3,e4,e5⟩:=id hD
 have hix:=fun z sl own=>hv.ix (cx:=cx) (kk:=.i64) (z:=z) sl own
 have hlv:=fun z sl own=>hv.lv (cx:=cx) (z:=z) sl own
 have hfg:=fun t=>hv.fg (t:=t)
 have hld:=fun t=>hv.ld (t:=t)
 have hfx:=fun z t=>hv.fgx (t:=t) z
 have hlx:=fun z t=>hv.ldx (t:=t) z
 have hln:=hv.len
 have q0:decide (txt l 0=⟨#[114,101,97,100]⟩)=false:=by rw[hk];decide
 have q1:decide (txt l 0=⟨#[108,105,115,116]⟩)=false:=by rw[hk];decide
 have q2:decide (txt l 0=⟨#[115,97,109,101]⟩)=false:=by rw[hk];decide
 have q3:decide (txt l 0=⟨#[115,117,114,101]⟩)=false:=by rw[hk];decide
 have q4:decide (txt l 0=⟨#[100,105,115,107]⟩)=true:=by rw[hk];decide
 have q5:decide (txt l 0=⟨#[100,105,114,116,121]⟩)=false:=by rw[hk];decide
 have q6:decide (txt l 0=⟨#[108,111,115,116]⟩)=false:=by rw[hk];decide
 by_cases hL:(l.length:Int)=1
 ·have hL2:l.length=1:=by omega
  have ea:dP L l=some (textL L.fl.disk++sayL [rY]):=by simp[dP,hk,hL2,fA,fB,fy,fx,fC,d8,dR]
  unfold fV
  rw[ea,aE]
  simp only[Option.isSome_some,Option.getD_some]
  simp(disch:=omega)only[go_sem,q0,q1,q2,q3,q4,q5,q6,e1,e4.li,e4.fi,e4.ca,hix,hlv,hfg,hld,hfx,hlx,hln,hL]
  refine am rfl ⟨rfl,rfl⟩ (by simp only[go_sem];exact upV (upT (yH (c:=c) (a:=L.fl.now) (b:=L.fl.disk) (by simp only[go_sem,e4.ca])))) ?_
  simp(disch:=omega)only[go_sem]
  refine am rfl ⟨rfl,rfl⟩ (by simp only[go_sem];exact upV (CH (m:=L.fl.disk) (p:=.stk cx.lvl 5) (q:=[]) (cV _ _) (by simp only[HP.push_rd_own,go_sem]) (mD hi.disk))) ?_
  have htl:=nS hi.disk
  have hel:(sayL [rY]).length=4:=by decide
  simp(disch:=omega)only[go_sem]
  refine eh (h0:=h0) (R:=fun v=>True) (L':=L) (bs':=bs++textL L.fl.disk) (d:=d) (p:=p) (f0:=f0) (c0:=c0) rfl ⟨rfl,rfl⟩ hD.stk (by simp only[go_sem];exact tW (by exact hl) hD.push (by omega)) ?_
  rintro _ h1 _ hD1
  obtain⟨bt,hbt⟩:∃bt,bt=bs++textL L.fl.disk:=⟨_,rfl⟩
  rw[←hbt]at hD1
  simp(disch:=omega)only[go_sem]
  refine eh (h0:=h0) (R:=fun v=>v=.tup .unit) (L':=L) (bs':=bt++sayL ([rY])) (d:=d) (p:=p) (f0:=f0) (c0:=c0) rfl ⟨rfl,rfl⟩ hD1.stk (by simp only[go_sem];exact hY (ws:=[rY]) (by exact hl) hD1.push (fL (ws:=[rY]) rfl rfl) (by first|(simp;done)|(simp;omega)) (by rw[hbt,List.length_append];omega)) ?_
  rintro _ h2 rfl hD2
  simp(disch:=omega)only[go_sem]
  rw[←List.append_assoc,←hbt]
  exact hD2
 ·have hL2:¬l.length=1:=by omega
  have ea:dP L l=none:=by simp[dP,hk,hL2,fA,fB,fy,fx,fC,d8,dR]
  unfold fV
  rw[ea,aE]
  simp only[Option.isSome_none,Option.getD_none,List.append_nil]
  simp(disch:=omega)only[go_sem,q0,q1,q2,q3,q4,q5,q6,e1,hix,hlv,hfg,hld,hfx,hlx,hln,hL]
  exact hD
theorem AJ(hl:HL cx)(hD:DK h0 h d p f0 c0 L bs)(hi:LTight L)(hv:Txs h cx.lvl v l)(hpos:0<l.length)(hs:∀i,(txt l i).size<=10000)(hm:bs.length+4000<=1048576)(hk:txt l 0=⟨#[100,105,114,116,121]⟩):fV cx h0 h d p f0 c0 L bs v l:=by
 obtain⟨st,fr,a,b,f,c,e1,e2,e3,e4,e5⟩:=id hD
 have hix:=fun z sl own=>hv.ix (cx:=cx) (kk:=.i64) (z:=z) sl own
 have hlv:=fun z sl own=>hv.lv (cx:=cx) (z:=z) sl own
 have hfg:=fun t=>hv.fg (t:=t)
 have hld:=fun t=>hv.ld (t:=t)
 have hfx:=fun z t=>hv.fgx (t:=t) z
 have hlx:=fun z t=>hv.ldx (t:=t) z
 have hln:=hv.len
 have q0:decide (txt l 0=⟨#[114,101,97,100]⟩)=false:=by rw[hk];decide
 have q1:decide (txt l 0=⟨#[108,105,115,116]⟩)=false:=by rw[hk];decide
 have q2:decide (txt l 0=⟨#[115,97,109,101]⟩)=false:=by rw[hk];decide
 have q3:decide (txt l 0=⟨#[115,117,114,101]⟩)=false:=by rw[hk];decide
 have q4:decide (txt l 0=⟨#[100,105,115,107]⟩)=false:=by rw[hk];decide
 have q5:decide (txt l 0=⟨#[100,105,114,116,121]⟩)=true:=by rw[hk];decide
 have q6:decide (txt l 0=⟨#[108,111,115,116]⟩)=false:=by rw[hk];decide
 by_cases hL:(l.length:Int)=1
 ·have hL2:l.length=1:=by omega
  have ea:dP L l=some (sayL [bsL (dirtyT L 14)]):=by simp[dP,hk,hL2,fA,fB,fy,fx,fC,d8,dR]
  unfold fV
  rw[ea,aE]
  simp only[Option.isSome_some,Option.getD_some]
  simp(disch:=omega)only[go_sem,q0,q1,q2,q3,q4,q5,q6,e1,e4.li,e4.fi,e4.ca,hix,hlv,hfg,hld,hfx,hlx,hln,hL]
  refine fo 14 (fun k=>⟨[(0,.ptr (.obj d) [] tDesk),(6,.str (bsL (dirtyT L k))),(153,.int .i64 k)],[],h⟩) (by simp only[go_sem]<;>rfl) fun k hk ih=>?_
  have hdl:=kH L k hk
  by_cases hlt:k<14
  ·simp(disch:=omega)only[go_sem,hlt,e1,e4.li,e4.fi]
   refine am rfl ⟨rfl,rfl⟩ (by simp only[go_sem];exact upV (upT (upE (AH (n:=c) (a:=L.fl.now) (b:=L.fl.disk) (x:=(k:Int)) (jN e4.ca).1 (jN e4.ca).2)))) ?_
   cases cd:dirty L.fl.now L.fl.disk k with
   |true=>
    simp(disch:=omega)only[go_sem,cd]
    refine am rfl ⟨rfl,rfl⟩ (by simp only[go_sem];exact jD (cP (n:=(k:Int)) (by omega) (by omega))) ?_
    have hnl:=cT (cP (n:=(k:Int)) (by omega) (by omega))
    have ea1:evStr .add ⟨#[32]⟩ (bsL (bz k))=some (.str (bsL ([32]++bz k))):=cD (a:=[32]) (by simp;omega)
    have ea2:evStr .add (bsL (dirtyT L k)) (bsL ([32]++bz k))=some (.str (bsL (dirtyT L k++([32]++bz k)))):=cD (by simp;omega)
    simp only[List.cons_append,List.nil_append]at ea1 ea2
    simp(disch:=omega)only[go_sem,ea1,ea2]
    refine ih _ hlt ?_
    simp only[go_sem,dirtyT,cd,if_true]
   |false=>
    simp(disch:=omega)only[go_sem,cd]
    refine ih _ hlt ?_
    simp only[go_sem,dirtyT,cd,Bool.false_eq_true,if_false]
  ·obtain rfl:k=14:=by omega
   simp(disch:=omega)only[go_sem]
   refine eh (h0:=h0) (R:=fun v=>v=.tup .unit) (L':=L) (bs':=bs++sayL ([bsL (dirtyT L 14)])) (d:=d) (p:=p) (f0:=f0) (c0:=c0) rfl ⟨rfl,rfl⟩ hD.stk (by simp only[go_sem];exact hY (ws:=[bsL (dirtyT L 14)]) (by exact hl) hD.push (fL (ws:=[bsL (dirtyT L 14)]) rfl rfl) (by first|(simp;done)|(simp;omega)) (one_len (by rw[dm];omega) hm)) ?_
   rintro _ h2 rfl hD2
   simp(disch:=omega)only[go_sem]
   exact hD2
 ·have hL2:¬l.length=1:=by omega
  have ea:dP L l=none:=by simp[dP,hk,hL2,fA,fB,fy,fx,fC,d8,dR]
  unfold fV
  rw[ea,aE]
  simp only[Option.isSome_none,Option.getD_none,List.append_nil]
  simp(disch:=omega)only[go_sem,q0,q1,q2,q3,q4,q5,q6,e1,hix,hlv,hfg,hld,hfx,hlx,hln,hL]
  exact hD
theorem Dh(hl:HL cx)(hD:DK h0 h d p f0 c0 L bs)(hi:LTight L)(hv:Txs h cx.lvl v l)(hpos:0<l.length)(hs:∀i,(txt l i).size<=10000)(hm:bs.length+4000<=1048576)(hk:txt l 0=⟨#[108,111,115,116]⟩):fV cx h0 h d p f0 c0 L bs v l:=by
 obtain⟨st,fr,a,b,f,c,e1,e2,e3,e4,e5⟩:=id hD
 have hix:=fun z sl own=>hv.ix (cx:=cx) (kk:=.i64) (z:=z) sl own
 have hlv:=fun z sl own=>hv.lv (cx:=cx) (z:=z) sl own
 have hfg:=fun t=>hv.fg (t:=t)
 have hld:=fun t=>hv.ld (t:=t)
 have hfx:=fun z t=>hv.fgx (t:=t) z
 have hlx:=fun z t=>hv.ldx (t:=t) z
 have hln:=hv.len
 have q0:decide (txt l 0=⟨#[114,101,97,100]⟩)=false:=by rw[hk];decide
 have q1:decide (txt l 0=⟨#[108,105,115,116]⟩)=false:=by rw[hk];decide
 have q2:decide (txt l 0=⟨#[115,97,109,101]⟩)=false:=by rw[hk];decide
 have q3:decide (txt l 0=⟨#[115,117,114,101]⟩)=false:=by rw[hk];decide
 have q4:decide (txt l 0=⟨#[100,105,115,107]⟩)=false:=by rw[hk];decide
 have q5:decide (txt l 0=⟨#[100,105,114,116,121]⟩)=false:=by rw[hk];decide
 have q6:decide (txt l 0=⟨#[108,111,115,116]⟩)=true:=by rw[hk];decide
 by_cases hL:(l.length:Int)=1
 ·have hL2:l.length=1:=by omega
  have ea:dP L l=some (sayL [dR,bsL (bz L.n),bsL (bz L.a),bsL (bz L.b),bsL (bz L.c)]):=by simp[dP,hk,hL2,fA,fB,fy,fx,fC,d8,dR]
  unfold fV
  rw[ea,aE]
  simp only[Option.isSome_some,Option.getD_some]
  simp(disch:=omega)only[go_sem,q0,q1,q2,q3,q4,q5,q6,e1,e4.li,e4.fi,e4.ca,hix,hlv,hfg,hld,hfx,hlx,hln,hL]
  refine am rfl ⟨rfl,rfl⟩ (by simp only[go_sem];exact upV (upT (Ev (p:=p) (f:=f) (c:=c) e4.push))) ?_
  simp(disch:=omega)only[go_sem,e1,e4.li,e4.fi,e4.ca,hix,hlv,hfg,hld,hfx,hlx,hln,hL]
  refine fb (v:=.int .i64 L.n) rfl rfl rfl rfl ⟨rfl,rfl⟩ (by simp only[go_sem];exact upV (upT (yh (f:=f) (c:=c) e4.push))) ?_
  simp(disch:=omega)only[go_sem,e1,e4.li,e4.fi,e4.ca,hix,hlv,hfg,hld,hfx,hlx,hln,hL]
  refine fb (v:=.str (bsL (bz L.n))) rfl rfl rfl rfl ⟨rfl,rfl⟩ (by simp only[go_sem];exact jD hi.cnt.2.2.2) ?_
  simp(disch:=omega)only[go_sem,e1,e4.li,e4.fi,e4.ca,hix,hlv,hfg,hld,hfx,hlx,hln,hL]
  refine fb (v:=.str (bsL (bz L.a))) rfl rfl rfl rfl ⟨rfl,rfl⟩ (by simp only[go_sem];exact jD hi.cnt.1) ?_
  simp(disch:=omega)only[go_sem,e1,e4.li,e4.fi,e4.ca,hix,hlv,hfg,hld,hfx,hlx,hln,hL]
  refine fb (v:=.str (bsL (bz L.b))) rfl rfl rfl rfl ⟨rfl,rfl⟩ (by simp only[go_sem];exact jD hi.cnt.2.1) ?_
  simp(disch:=omega)only[go_sem,e1,e4.li,e4.fi,e4.ca,hix,hlv,hfg,hld,hfx,hlx,hln,hL]
  refine fb (v:=.str (bsL (bz L.c))) rfl rfl rfl rfl ⟨rfl,rfl⟩ (by simp only[go_sem];exact jD hi.cnt.2.2.1) ?_
  simp(disch:=omega)only[go_sem,e1,e4.li,e4.fi,e4.ca,hix,hlv,hfg,hld,hfx,hlx,hln,hL]
  have hsz:bs.length+(sayL [dR,bsL (bz L.n),bsL (bz L.a),bsL (bz L.b),bsL (bz L.c)]).length<=1048576:=by
   have:=m7 (B:=60) (ws:=[dR,bsL (bz L.n),bsL (bz L.a),bsL (bz L.b),bsL (bz L.c)]) (by
    have a1:=fQ hi.cnt.1
    have a2:=fQ hi.cnt.2.1
    have a3:=fQ hi.cnt.2.2.1
    have a4:=fQ hi.cnt.2.2.2
    have a0:dR.size=4:=rfl
    intro w hw
    simp only[List.mem_cons,List.not_mem_nil,or_false]at hw
    rcases hw with rfl|rfl|rfl|rfl|rfl<;>omega)
   simp only[List.length_cons,List.length_nil]at this
   omega
  refine eh (h0:=h0) (R:=fun v=>v=.tup .unit) (L':=L) (bs':=bs++sayL ([dR,bsL (bz L.n),bsL (bz L.a),bsL (bz L.b),bsL (bz L.c)])) (d:=d) (p:=p) (f0:=f0) (c0:=c0) rfl ⟨rfl,rfl⟩ hD.stk (by simp only[go_sem];exact hY (ws:=[dR,bsL (bz L.n),bsL (bz L.a),bsL (bz L.b),bsL (bz L.c)]) (by exact hl) hD.push (fL (ws:=[dR,bsL (bz L.n),bsL (bz L.a),bsL (bz L.b),bsL (bz L.c)]) rfl rfl) (by first|(simp;done)|(simp;omega)) hsz) ?_
  rintro _ h2 rfl hD2
  simp(disch:=omega)only[go_sem]
  exact hD2
 ·have hL2:¬l.length=1:=by omega
  have ea:dP L l=none:=by simp[dP,hk,hL2,fA,fB,fy,fx,fC,d8,dR]
  unfold fV
  rw[ea,aE]
  simp only[Option.isSome_none,Option.getD_none,List.append_nil]
  simp(disch:=omega)only[go_sem,q0,q1,q2,q3,q4,q5,q6,e1,hix,hlv,hfg,hld,hfx,hlx,hln,hL]
  exact hD
theorem Hs(hl:HL cx)(hD:DK h0 h d p f0 c0 L bs)(hi:LTight L)(hv:Txs h cx.lvl v l)(hpos:0<l.length)(hs:∀i,(txt l i).size<=10000)(hm:bs.length+4000<=1048576):fV cx h0 h d p f0 c0 L bs v l:=by
 by_cases k0:txt l 0=⟨#[114,101,97,100]⟩
 ·exact Dg hl hD hi hv hpos hs hm k0
 by_cases k1:txt l 0=⟨#[108,105,115,116]⟩
 ·exact Di hl hD hi hv hpos hs hm k1
 by_cases k2:txt l 0=⟨#[115,97,109,101]⟩
 ·exact Df hl hD hi hv hpos hs hm k2
 by_cases k3:txt l 0=⟨#[115,117,114,101]⟩
 ·exact De hl hD hi hv hpos hs hm k3
 by_cases k4:txt l 0=⟨#[100,105,115,107]⟩
 ·exact Dj hl hD hi hv hpos hs hm k4
 by_cases k5:txt l 0=⟨#[100,105,114,116,121]⟩
 ·exact AJ hl hD hi hv hpos hs hm k5
 by_cases k6:txt l 0=⟨#[108,111,115,116]⟩
 ·exact Dh hl hD hi hv hpos hs hm k6
 obtain⟨st,fr,a,b,f,c,e1,e2,e3,e4,e5⟩:=id hD
 have hix:=fun z sl own=>hv.ix (cx:=cx) (kk:=.i64) (z:=z) sl own
 have hlv:=fun z sl own=>hv.lv (cx:=cx) (z:=z) sl own
 have hfg:=fun t=>hv.fg (t:=t)
 have hld:=fun t=>hv.ld (t:=t)
 have hfx:=fun z t=>hv.fgx (t:=t) z
 have hlx:=fun z t=>hv.ldx (t:=t) z
 have hln:=hv.len
 have q0:decide (txt l 0=⟨#[114,101,97,100]⟩)=false:=by simpa using k0
 have q1:decide (txt l 0=⟨#[108,105,115,116]⟩)=false:=by simpa using k1
 have q2:decide (txt l 0=⟨#[115,97,109,101]⟩)=false:=by simpa using k2
 have q3:decide (txt l 0=⟨#[115,117,114,101]⟩)=false:=by simpa using k3
 have q4:decide (txt l 0=⟨#[100,105,115,107]⟩)=false:=by simpa using k4
 have q5:decide (txt l 0=⟨#[100,105,114,116,121]⟩)=false:=by simpa using k5
 have q6:decide (txt l 0=⟨#[108,111,115,116]⟩)=false:=by simpa using k6
 have ea:dP L l=none:=by simp[dP,fA,fB,fy,fx,fC,d8,dR,k0,k1,k2,k3,k4,k5,k6]
 unfold fV
 rw[ea,aE]
 simp only[Option.isSome_none,Option.getD_none,List.append_nil]
 simp(disch:=omega)only[go_sem,q0,q1,q2,q3,q4,q5,q6,e1,hix,hlv,hfg,hld,hfx,hlx,hln]
 exact hD
end
def qn:Str:=⟨#[119,104,97,116]⟩
def lineWs(s:Str):List Str:=full (cutB s 32)
def fN(L:Lf)(l:List Str):List UInt8×Lf:=if(wordsC l).2=true then(sayL (eQ L (wordsC l).1),lifeF L (wordsC l).1)else((dP L l).getD (sayL [qn]),L)
def gf(L:Lf)(s:Str):List UInt8×Lf:=if lineWs s=[]then([],L)else fN L (lineWs s)
def runC(L:Lf):List Str->List UInt8×Lf
 | []=>([],L)
 |s::r=>((gf L s).1++(runC (gf L s).2 r).1,(runC (gf L s).2 r).2)
theorem pu(L:Lf):∀a b:List Str,runC L (a++b)=((runC L a).1++(runC (runC L a).2 b).1,(runC (runC L a).2 b).2)
 | [],b=>by simp[runC]
 |s::a,b=>by simp[runC,pu (gf L s).2 a b]
theorem sD(L:Lf)(a:List Str)(s:Str):runC L (a++[s])=((runC L a).1++(gf (runC L a).2 s).1,(gf (runC L a).2 s).2):=by
 rw[pu];simp[runC]
theorem w4(h:LTight L)(l:List Str):LTight (fN L l).2:=by
 unfold fN
 split
 ·exact h.lifeF _
 ·exact h
theorem qu(h:LTight L)(s:Str):LTight (gf L s).2:=by
 unfold gf
 split
 ·exact h
 ·exact w4 h _
theorem lQ{L:Lf}(h:LTight L):∀l,LTight (runC L l).2
 | []=>h
 |s::r=>lQ (qu h s) r
theorem readW_len(h:LTight L)(l:List Str)(hm:n+4000<=1048576):n+(sayL (ja L l)).length<=1048576:=by
 unfold ja
 dsimp only
 split
 ·exact tZ (by decide) (Nat.le_trans (fQ (mE _ _ _ _)) (by decide)) hm
 split
 ·exact one_len (by decide) hm
 ·refine one_len ?_ hm
  rw[dm]
  have:=lV (readT L.fl.now (numC (txt l 0)) (txt l 1) (numC (txt l 2))).data.toList
  have h2:(readT L.fl.now (numC (txt l 0)) (txt l 1) (numC (txt l 2))).data.toList.length=(readT L.fl.now (numC (txt l 0)) (txt l 1) (numC (txt l 2))).size:=Array.length_toList
  have h3:(readT L.fl.now (numC (txt l 0)) (txt l 1) (numC (txt l 2))).size<=8:=by
   unfold readT
   split
   ·exact(h.now.dat _).2
   ·decide
  omega
theorem Ch(h:LTight L)(l:List Str){t:List UInt8}(ht:dP L l=some t)(hm:n+4000<=1048576):n+t.length<=1048576:=by
 unfold dP at ht
 split at ht
 ·injection ht with ht;subst ht;exact readW_len h _ hm
 split at ht
 ·injection ht with ht;subst ht;exact list_len h.now _ hm
 split at ht
 ·injection ht with ht;subst ht;exact one_len (boolS_len _) hm
 split at ht
 ·injection ht with ht;subst ht;exact one_len (boolS_len _) hm
 split at ht
 ·injection ht with ht;subst ht
  have:=nS h.disk
  have hel:(sayL [rY]).length=4:=by decide
  rw[List.length_append]
  omega
 split at ht
 ·injection ht with ht;subst ht
  refine one_len ?_ hm
  rw[dm]
  have:=kH L 14 (Nat.le_refl _)
  omega
 split at ht
 ·injection ht with ht;subst ht
  have:=m7 (B:=60) (ws:=[dR,bsL (bz L.n),bsL (bz L.a),bsL (bz L.b),bsL (bz L.c)]) (by
   have a1:=fQ h.cnt.1
   have a2:=fQ h.cnt.2.1
   have a3:=fQ h.cnt.2.2.1
   have a4:=fQ h.cnt.2.2.2
   have a0:dR.size=4:=rfl
   intro w hw
   simp only[List.mem_cons,List.not_mem_nil,or_false]at hw
   rcases hw with rfl|rfl|rfl|rfl|rfl<;>omega)
  simp only[List.length_cons,List.length_nil]at this
  omega
 ·exact absurd ht (by simp)
theorem zb(h:LTight L)(l:List Str)(hm:n+4000<=1048576):n+(fN L l).1.length<=1048576:=by
 unfold fN
 split
 ·exact nU hm
 ·cases e:dP L l with
  |none=>exact one_len (by decide) hm
  |some t=>exact Ch h l e hm
theorem zR(h:LTight L)(s:Str):(gf L s).1.length<=4000:=by
 unfold gf
 split
 ·simp
 ·have:=zb h (lineWs s) (n:=1044576) (by decide)
  omega
theorem qG{L:Lf}(h:LTight L):∀l,(runC L l).1.length<=4000*l.length
 | []=>by simp[runC]
 |s::r=>by
  have h1:=zR h s
  have h2:=qG (qu h s) r
  simp only[runC,List.length_append,List.length_cons,Nat.mul_add]
  omega
theorem pm(sep:ByteArray):∀(k:Nat) (s w:ByteArray),w∈Lib.splitB sep 0 k s->w.size<=s.size
 |0,s,w,h=>by
  simp only[Lib.splitB,List.mem_singleton]at h
  subst h;exact Nat.le_refl _
 |k+1,s,w,h=>by
  unfold Lib.splitB at h
  split at h
  ·simp only[List.mem_singleton]at h
   subst h;exact Nat.le_refl _
  ·rcases List.mem_cons.1 h with rfl|h
   ·simp only[ByteArray.size_extract];omega
   ·have:=pm sep k _ w h
    simp only[ByteArray.size_extract]at this
    omega
theorem AQ(w:Str)(hw:w∈lineWs s):w.size<=s.size:=pm _ _ _ _ (List.mem_filter.1 hw).1
theorem tt(s:Str):(cutB s 32).length<=s.size+1:=by
 have h1:=Lib.splitB_all ⟨#[32]⟩ (by decide) 0 _ s rfl
 have h2:=Lib.countB_le ⟨#[32]⟩ (by decide) s.size s (Nat.le_refl _)
 unfold cutB
 omega
theorem uM(s:Str):(lineWs s).length<=s.size+1:=Nat.le_trans (List.length_filter_le _ _) (tt s)
theorem uN(hs:s.size<=10000)(i:Nat):(txt (lineWs s) i).size<=10000:=by
 by_cases h:i<(lineWs s).length
 ·rw[iA h]
  have:=AQ _ (List.getElem_mem h)
  omega
 ·have:txt (lineWs s) i=⟨#[]⟩:=by
   simp only[txt,List.getD_eq_getElem?_getD,List.getElem?_eq_none (Nat.not_lt.1 h),Option.getD_none]
  rw[this];decide
theorem sK{l:List UInt8}:((cL l).getD []).length<=l.length:=by
 cases e:cL l with
 |none=>simp
 |some o=>
  have:bS o=l:=by
   unfold cL at e
   split at e
   ·split at e
    ·split at e
     ·injection e with e;subst e;assumption
     ·simp at e
    ·simp at e
   ·simp at e
  have:=vj o
  simp only[Option.getD_some]
  subst_vars
  exact this
theorem y5(hs:∀i,(txt l i).size<=10000):(wordsC l).1.ok:=by
 have ht:=dm ((cL (txt l 4).data.toList).getD [])
 have hm:=sK (l:=(txt l 4).data.toList)
 have hz:(txt l 4).data.toList.length=(txt l 4).size:=Array.length_toList
 have h2:=hs 2
 have h4:=hs 4
 have he:(⟨#[]⟩:Str).size=0:=rfl
 unfold wordsC stepC
 dsimp only
 constructor<;>(repeat' split)<;>(try dsimp only[step0])<;>omega
abbrev iB:Ty:=.cons tI (.cons tI .unit)
def eH(a b:Int):AV:=.cons (.int .i64 a) (.cons (.int .i64 b) .unit)
@[go_sem] theorem LY:(Ty.cons tI (.cons tI .unit)).zero=eH 0 0:=rfl
@[go_sem] theorem MA(a b:Int):((Ty.cons tI (.cons tI .unit)).fits (eH a b)=true)=True:=eq_true rfl
@[go_sem] theorem MM(a b:Int):fill (.cons tI (.cons tI .unit)) (eH 0 0) [(0,.int .i64 a),(1,.int .i64 b)]=some (eH a b):=rfl
@[go_sem] theorem KO:fill (.cons tI (.cons tI .unit)) (eH 0 0) []=some (eH 0 0):=rfl
@[go_sem] theorem Kv(a b:Int):(eH a b).isAgg=true:=rfl
@[go_sem] theorem O9(a b:Int)(i:Id):fg (eH a b) i=eH a b:=rfl
@[go_sem] theorem Ku(a b:Int)(i:Id):(eH a b).leads i=false:=rfl
@[go_sem] theorem L7(a b:Int):(eH a b).safe=true:=rfl
@[go_sem] theorem IM:Ty.field (.cons tI (.cons tI .unit)) 0=some tI:=rfl
@[go_sem] theorem OH(a b:Int):(eH a b).at [0]=some (.int .i64 a):=rfl
def notObj(v:AV):Prop:=∀q o n,v≠ .sl (.obj q) o n
theorem Txs.fr{l:Nat}(a:Txs h l v ws)(hF:Fr h h1 S)(hn:notObj v):Txs h1 l v ws:=by
 rcases a with a|⟨i,o,w,rfl,hb,hk,hr⟩
 ·exact .inl a
 ·refine .inr ⟨i,o,w,rfl,hb,?_,hr⟩
  cases i with
  |stk x t=>simp only[HP.look]at hk⊢;rw[hF.stk];exact hk
  |arg n=>simp only[HP.look]at hk⊢;rw[hF.arg];exact hk
  |obj q=>exact absurd rfl (hn q o _)
theorem Txs.frq{l q:Nat}(a:Txs h l (.sl (.obj q) 0 n) ws)(hF:Fr h h1 S)(hq:q<h.next)(hS:q∉S):Txs h1 l (.sl (.obj q) 0 n) ws:=by
 rcases a with⟨e|e,_⟩|⟨i,o,w,e,hb,hk,hr⟩
 ·simp at e
 ·simp at e
 ·simp only[AV.sl.injEq]at e
  obtain⟨rfl,rfl,rfl⟩:=e
  exact .inr ⟨.obj q,0,w,rfl,hb,hF.look hq hS hk,hr⟩
structure DQ(h:HP)(d p f c:Nat)(L:Lf):Prop where
 dk:∃a b,h.look (.obj d)=some ⟨tDesk,encDk a b p⟩
 li:LifeAt h p f c L
 dn:d<h.next
 dp:¬d=p
 df:¬d=f
 dc:¬d=c
variable{o:Own}
theorem DQ.push{l:Nat}(a:DQ h d p f c L):DQ (h.push l o) d p f c L:=⟨a.dk,a.li.push,a.dn,a.dp,a.df,a.dc⟩
theorem DQ.pop{l:Nat}(a:DQ (h.push l o) d p f c L):DQ h d p f c L:=⟨a.dk,a.li.pop,a.dn,a.dp,a.df,a.dc⟩
theorem DQ.fr(a:DQ h d p f c L)(hF:Fr h h1 S)(hd:d∉S)(h2:p∉S)(h3:f∉S)(h4:c∉S):DQ h1 d p f c L:=by
 obtain⟨⟨x,y,e⟩,li,dn,dp,df,dc⟩:=a
 exact⟨⟨x,y,hF.look dn hd e⟩,li.fr hF h2 h3 h4,Nat.lt_of_lt_of_le dn hF.next,dp,df,dc⟩
section
variable{cx:Cx}{h:HP}{d p f c:Nat}{L:Lf}
theorem lH:(ls.any fun s=>hasB s 10)=true↔∃i,i<ls.length/\hasB (txt ls i) 10=true:=by
 rw[List.any_eq_true]
 constructor
 ·rintro⟨s,hs,h⟩
  obtain⟨i,hi,rfl⟩:=List.getElem_of_mem hs
  exact⟨i,hi,by rw[iA hi];exact h⟩
 ·rintro⟨i,hi,h⟩
  exact⟨ls[i],List.getElem_mem hi,by rw[←iA hi];exact h⟩
theorem Bu.pushR{h:HP}{l:Nat}{b:AV}{bs:List UInt8}(a:Bu h0 h b bs):Bu h0 (h.push l o) b bs:=a
def o2(ls:List Str):Bool:=ls.any fun s=>hasB s 10
theorem Ho(hv:Txs h cx.lvl v ls)(hn:ls.length<=150)(hb:o2 ls=true):
  Ok ff cx Fn.aA (St.enter [.ptr (.obj d) [] tDesk,v] h) fun v' h'=>∃i:Int,v'=.tup (.cons (.str ⟨#[]⟩) (.cons (eH 15 i) .unit))/\h'=h:=by
 have hix:=fun z sl own=>hv.ix (cx:=cx) (kk:=.i64) (z:=z) sl own
 have hlv:=fun z sl own=>hv.lv (cx:=cx) (z:=z) sl own
 have hfg:=fun t=>hv.fg (t:=t)
 have hld:=fun t=>hv.ld (t:=t)
 have hfx:=fun z t=>hv.fgx (t:=t) z
 have hlx:=fun z t=>hv.ldx (t:=t) z
 have hln:=hv.len
 have hL:¬150<(ls.length:Int):=by omega
 rw[aE]
 simp(disch:=omega)only[go_sem,hln,hfg,hld,hL]
 refine cm ls.length (fun j=>⟨[(0,.ptr (.obj d) [] tDesk),(1,v),(5,.ptr (.stk cx.lvl 5) [] iB),(17,v),(18,.int .i64 ls.length),(19,.int .i64 j)],[(5,⟨iB,eH 0 0⟩)],h⟩) (fun j=>∀i,i<j->hasB (txt ls i) 10=false) (by simp only[go_sem]<;>rfl) (fun i hi=>by omega) fun j hj hp ih=>?_
 by_cases hlt:j<ls.length
 ·simp(disch:=omega)only[go_sem,hlt,hix,hlv,hfg,hld,hfx,hlx]
  refine am rfl ⟨rfl,rfl⟩ (by simp only[go_sem];exact kP) ?_
  cases c:hasB (txt ls j) 10 with
  |true=>
   simp(disch:=omega)only[go_sem,c]
   exact⟨j,rfl⟩
  |false=>
   simp(disch:=omega)only[go_sem,c]
   refine ih _ hlt (aJ hp c) ?_
   simp only[go_sem]
 ·exfalso
  obtain rfl:j=ls.length:=by omega
  obtain⟨i,hi,hx⟩:=lH.1 hb
  rw[hp i hi]at hx
  exact absurd hx (by decide)
theorem yZ(hl:HL cx)(hQ:DQ h d p f c L)(hi:LTight L)(hv:Txs h cx.lvl v ls)(hno:notObj v)(hn:ls.length<=150)(hs:∀i,(txt ls i).size<=10000)(hb:o2 ls=false):
  Ok ff cx Fn.aA (St.enter [.ptr (.obj d) [] tDesk,v] h) fun v' h'=>Fr h h' [d,p,f,c]/\v'=.tup (.cons (.str (bsL (runC L ls).1)) (.cons (eH 0 0) .unit))/\
   ∃f' c',DQ h' d p f' c' (runC L ls).2/\((f'=f/\c'=c)\/(h.next<=f'/\h.next<=c')):=by
 have hix:=fun z sl own=>hv.ix (cx:=cx) (kk:=.i64) (z:=z) sl own
 have hlv:=fun z sl own=>hv.lv (cx:=cx) (z:=z) sl own
 have hfg:=fun t=>hv.fg (t:=t)
 have hld:=fun t=>hv.ld (t:=t)
 have hfx:=fun z t=>hv.fgx (t:=t) z
 have hlx:=fun z t=>hv.ldx (t:=t) z
 have hln:=hv.len
 have hL:¬150<(ls.length:Int):=by omega
 have hbad:∀i,i<ls.length->hasB (txt ls i) 10=false:=by
  intro i hi
  cases e:hasB (txt ls i) 10 with
  |false=>rfl
  |true=>
   have:=lH.2 ⟨i,hi,e⟩
   rw[o2,this]at hb
   exact absurd hb (by decide)
 obtain⟨⟨a,b,e1⟩,li,dn,dp,df,dc⟩:=id hQ
 rw[aE]
 simp(disch:=omega)only[go_sem,hln,hfg,hld,hL]
 refine fo ls.length (fun j=>⟨[(0,.ptr (.obj d) [] tDesk),(1,v),(5,.ptr (.stk cx.lvl 5) [] iB),(17,v),(18,.int .i64 ls.length),(19,.int .i64 j)],[(5,⟨iB,eH 0 0⟩)],h⟩) (by simp only[go_sem]<;>rfl) fun j hj ih=>?_
 by_cases hlt:j<ls.length
 ·simp(disch:=omega)only[go_sem,hlt,hix,hlv,hfg,hld,hfx,hlx]
  refine am rfl ⟨rfl,rfl⟩ (by simp only[go_sem];exact kP) ?_
  simp(disch:=omega)only[go_sem,hbad j hlt]
  refine ih _ hlt ?_
  simp only[go_sem]
 simp(disch:=omega)only[go_sem,hlt]
 refine bK (v:=.tup .unit) (h.ob d tDesk (encDk .nilp .nilsl p)) rfl ⟨rfl,rfl⟩ rfl (by simp only[go_sem];exact CD (a:=a) (b:=b) (by exact hl) (by simp only[go_sem,e1])) ?_
 generalize hh1:h.ob d tDesk (encDk .nilp .nilsl p)=h1
 have hF1:Fr h h1 [d,p,f,c]:=by rw[←hh1];exact Fr.ob (by simp)
 have hD1:DK h1 h1 d p f c L []:=by
  have l1:=li.fr (S:=[d]) (h1:=h1) (by rw[←hh1];exact Fr.ob (by simp)) (by simp;omega) (by simp;omega) (by simp;omega)
  have hnx:=hF1.next
  exact⟨⟨by omega,l1.pn,l1.fn,l1.cn,dp,df,dc⟩,Fr.refl _ _,.nilp,.nilsl,f,c,by rw[←hh1];exact gm,.inl rfl,.inl ⟨rfl,rfl⟩,l1,.inl ⟨rfl,rfl⟩⟩
 have hv1:Txs h1 cx.lvl v ls:=hv.fr hF1 hno
 have h150:=qG hi
 simp(disch:=omega)only[go_sem,hln,hfg,hld]
 refine gv (α:=HP) ls.length (fun j hp=>⟨[(0,.ptr (.obj d) [] tDesk),(5,.ptr (.stk cx.lvl 5) [] iB),(33,v),(34,.int .i64 ls.length),(35,.int .i64 j)],[(5,⟨iB,eH 0 0⟩)],hp⟩)
  (fun j hp=>DK h1 hp d p f c (runC L (ls.take j)).2 (runC L (ls.take j)).1) h1 (by simp only[go_sem]<;>rfl) (by simpa[runC]using hD1) fun j hp hj hDj ih=>?_
 by_cases hlt:j<ls.length
 ·have hvp:Txs hp cx.lvl v ls:=hv1.fr hDj.fr hno
  have hixp:=fun z sl own=>hvp.ix (cx:=cx) (kk:=.i64) (z:=z) sl own
  have hlvp:=fun z sl own=>hvp.lv (cx:=cx) (z:=z) sl own
  have ej:ls.take (j+1)=ls.take j++[txt ls j]:=by rw[iA hlt,List.take_add_one,List.getElem?_eq_getElem hlt];rfl
  have er:=sD L (ls.take j) (txt ls j)
  rw[←ej]at er
  have hLj:=lQ hi (ls.take j)
  have hlen:(runC L (ls.take j)).1.length+4000<=1048576:=by
   have:=h150 (ls.take j)
   simp only[List.length_take]at this
   omega
  have hsj:=hs j
  obtain⟨s,es⟩:∃s,txt ls j=s:=⟨_,rfl⟩
  rw[es]at er hsj
  generalize runC L (ls.take j)=Rj at er hDj hLj hlen
  simp(disch:=omega)only[go_sem,hlt,hixp,hlvp,hfg,hld,hfx,hlx,es]
  refine bK (v:=.sl (.obj hp.next) 0 (cutB s 32).length) (hp.nw (.arr (cutB s 32).length tS) (encS (cutB s 32))) rfl ⟨rfl,rfl⟩ rfl (by simp only[go_sem];exact CB (by omega)) ?_
  obtain⟨q,eq⟩:∃q,hp.next=q:=⟨_,rfl⟩
  have hF2:Fr hp (hp.nw (.arr (cutB s 32).length tS) (encS (cutB s 32))) []:=Fr.nw
  have hq2:(hp.nw (.arr (cutB s 32).length tS) (encS (cutB s 32))).look (.obj q)=some ⟨.arr (cutB s 32).length tS,encS (cutB s 32)⟩:=by rw[←eq];exact d7
  have hqn:q<(hp.nw (.arr (cutB s 32).length tS) (encS (cutB s 32))).next:=by rw[←eq];exact Nat.lt_succ_self _
  have hcc:=tt s
  rw[eq]
  generalize hp.nw (.arr (cutB s 32).length tS) (encS (cutB s 32))=h2 at hF2 hq2 hqn⊢
  simp(disch:=omega)only[go_sem]
  refine eY (S:=[q]) (R:=fun v h'=>v=.sl (.obj q) 0 (lineWs s).length/\∃w:List Str,w.length=(cutB s 32).length/\w.take (lineWs s).length=lineWs s/\h'.look (.obj q)=some ⟨.arr (cutB s 32).length tS,encS w⟩) rfl ⟨rfl,rfl⟩ (by
   simp only[go_sem]
   exact(AE (q:=q) (l:=cutB s 32) (by exact hl) (by simp only[go_sem,hq2]) (by omega)).mono fun v h' e=>by
    obtain⟨e1,w,e2,e3,rfl⟩:=e
    exact⟨Fr.ob (by simp),e1,w,e2,e3,gm⟩) (fun v h1 e=>e) ?_
  rintro _ h3 hF3 ⟨rfl,w,w1,w2,w3⟩
  have hlw:(lineWs s).length<=w.length:=by
   rw[w1];exact List.length_filter_le _ _
  have hT3:Txs h3 cx.lvl (.sl (.obj q) 0 (lineWs s).length) (lineWs s):=.inr ⟨.obj q,0,w,rfl,ar _ _,by rw[w3,w1],by omega,by rw[List.drop_zero];exact w2⟩
  have hF23:Fr hp h3 []:=⟨hF3.stk.trans hF2.stk,hF3.arg.trans hF2.arg,Nat.le_trans hF2.next hF3.next,fun n hn _=>(hF3.same n (Nat.lt_of_lt_of_le hn hF2.next) (by simp;omega)).trans (hF2.same n hn (by simp))⟩
  have hD3:=hDj.same hF23
  have hq3:q<h3.next:=Nat.lt_of_lt_of_le hqn hF3.next
  have hwt:=fun i=>uN hsj i
  simp(disch:=omega)only[go_sem]
  by_cases hw0:((lineWs s).length:Int)=0
  ·simp(disch:=omega)only[go_sem,hw0]
   refine ih _ h3 hlt ?_ ?_
   ·simp only[go_sem]
   ·have:gf Rj.2 s=([],Rj.2):=by
     unfold gf
     rw[if_pos (List.length_eq_zero_iff.1 (by omega))]
    rw[er,this]
    simpa using hD3
  ·have hwn:¬lineWs s=[]:=fun e=>hw0 (by rw[e];rfl)
   have hlc:gf Rj.2 s=fN Rj.2 (lineWs s):=by unfold gf;rw[if_neg hwn]
   rw[hlc]at er
   have hwc:=uM s
   simp(disch:=omega)only[go_sem,hw0]
   refine eY (S:=[]) (R:=fun v h'=>v=.tup (.cons (wordsC (lineWs s)).1.enc (.cons (.bool (wordsC (lineWs s)).2) .unit))) rfl ⟨rfl,rfl⟩ (by simp only[go_sem];exact Ck (by exact hl) hT3.push (by omega) (by omega) hwt) (fun _ _ e=>e) ?_
   rintro _ h4 hF4 rfl
   have hD4:=hD3.same hF4
   have hT4:=hT3.frq hF4 hq3 (by simp)
   have hxo:=y5 hwt
   simp(disch:=omega)only[go_sem]
   cases hw:(wordsC (lineWs s)).2 with
   |true=>
    have ht:fN Rj.2 (lineWs s)=(sayL (eQ Rj.2 (wordsC (lineWs s)).1),lifeF Rj.2 (wordsC (lineWs s)).1):=by unfold fN;rw[if_pos hw]
    rw[ht]at er
    simp(disch:=omega)only[go_sem,hw]
    refine eh (h0:=h1) (R:=fun v=>v=.tup .unit) (L':=lifeF Rj.2 (wordsC (lineWs s)).1) (bs':=Rj.1++sayL (eQ Rj.2 (wordsC (lineWs s)).1)) (d:=d) (p:=p) (f0:=f) (c0:=c) rfl ⟨rfl,rfl⟩ hD4.stk (by simp only[go_sem];exact C1 (by exact hl) hD4.push hLj.inv hxo hlen) ?_
    rintro _ h5 rfl hD5
    simp(disch:=omega)only[go_sem]
    refine ih _ h5 hlt ?_ ?_
    ·simp only[go_sem,hfg]
    ·rw[er];exact hD5
   |false=>
    simp(disch:=omega)only[go_sem,hw]
    refine eh (h0:=h1) (R:=fun v=>v=.bool (dP Rj.2 (lineWs s)).isSome) (L':=Rj.2) (bs':=Rj.1++(dP Rj.2 (lineWs s)).getD []) (d:=d) (p:=p) (f0:=f) (c0:=c) rfl ⟨rfl,rfl⟩ hD4.stk (by simp only[go_sem];exact Hs (by exact hl) hD4.push hLj hT4.push (by omega) hwt hlen) ?_
    rintro _ h5 rfl hD5
    cases ha:dP Rj.2 (lineWs s)with
    |some t=>
     have ht:fN Rj.2 (lineWs s)=(t,Rj.2):=by unfold fN;rw[if_neg (by rw[hw];decide),ha];rfl
     rw[ht]at er
     rw[ha]at hD5
     simp only[Option.getD_some]at hD5
     simp(disch:=omega)only[go_sem,ha,Option.isSome_some]
     refine ih _ h5 hlt ?_ ?_
     ·simp only[go_sem,hfg]
     ·rw[er];exact hD5
    |none=>
     have ht:fN Rj.2 (lineWs s)=(sayL [qn],Rj.2):=by unfold fN;rw[if_neg (by rw[hw];decide),ha];rfl
     rw[ht]at er
     rw[ha]at hD5
     simp only[Option.getD_none,List.append_nil]at hD5
     simp(disch:=omega)only[go_sem,ha,Option.isSome_none]
     refine eh (h0:=h1) (R:=fun v=>v=.tup .unit) (L':=Rj.2) (bs':=Rj.1++sayL [qn]) (d:=d) (p:=p) (f0:=f) (c0:=c) rfl ⟨rfl,rfl⟩ hD5.stk (by simp only[go_sem];exact hY (ws:=[qn]) (by exact hl) hD5.push (fL (ws:=[qn]) rfl rfl) (by simp) (one_len (by decide) hlen)) ?_
     rintro _ h6 rfl hD6
     simp(disch:=omega)only[go_sem]
     refine ih _ h6 hlt ?_ ?_
     ·simp only[go_sem,hfg]
     ·rw[er];exact hD6
 ·obtain rfl:j=ls.length:=by omega
  rw[List.take_length]at hDj
  simp(disch:=omega)only[go_sem,hlt]
  obtain⟨st,fr,a',b',f',c',g1,g2,g3,g4,g5⟩:=id hDj
  have hbn:∀n∈blkOf b',h1.next<=n:=by
   rcases g3 with⟨rfl,_⟩|⟨g,rfl,g6,_⟩<;>simp[blkOf]
   exact g6
  refine eY (S:=blkOf b') (R:=fun v h'=>v=.str (bsL (runC L ls).1)) rfl ⟨rfl,rfl⟩ (by
   simp only[go_sem]
   exact(yl (h0:=h1) (a:=a') (b:=b') (p:=p) (bs:=(runC L ls).1) (by exact hl) (by simp only[go_sem,g1]) g2 g3.pushR (by have:=h150 ls;omega)).mono fun v h' e=>⟨e.2,e.1⟩) (fun _ _ e=>e) ?_
  rintro _ h5 hF5 rfl
  simp(disch:=omega)only[go_sem,hfg]
  have hn1:=hF1.next
  have hn2:=fr.next
  refine⟨⟨hF5.stk.trans (fr.stk.trans hF1.stk),hF5.arg.trans (fr.arg.trans hF1.arg),Nat.le_trans hn1 (Nat.le_trans hn2 hF5.next),fun n hnn hS=>?_⟩,f',c',?_,?_⟩
  ·rw[hF5.same n (by omega) (fun e=>by have:=hbn n e;omega),fr.same n (by omega) hS,hF1.same n hnn hS]
  ·refine⟨⟨a',b',hF5.look (by omega) (fun e=>by have:=hbn d e;omega) g1⟩,g4.fr hF5 (g3.not g4.li (by simp[tLife])) (g3.not g4.fi (by simp[tFiles])) (g3.not g4.ca (by simp[tCache])),by have:=hF5.next;omega,dp,?_,?_⟩
   ·rcases g5 with⟨rfl,rfl⟩|⟨x1,x2⟩
    ·exact df
    ·omega
   ·rcases g5 with⟨rfl,rfl⟩|⟨x1,x2⟩
    ·exact dc
    ·omega
  ·rcases g5 with⟨rfl,rfl⟩|⟨x1,x2⟩
   ·exact .inl ⟨rfl,rfl⟩
   ·exact .inr ⟨by omega,by omega⟩
end
@[go_sem] theorem MN(p:Nat):fill (.cons (.cons tP (.cons tSl .unit)) (.cons tP .unit)) (Ty.zero (.cons (.cons tP (.cons tSl .unit)) (.cons tP .unit))) [(1,.ptr (.obj p) [] tLife)]=some (encDk .nilp .nilsl p):=rfl
@[go_sem] theorem D0(p:Nat):(tDesk.fits (encDk .nilp .nilsl p)=true)=True:=eq_true rfl
section
variable{T:MTb}{cx:Cx}{k:List Item}{kill:List Nat}{r:List MOp}{sl:Slots}{own:Own}{h:HP}{Q:St->Prop}
@[go_sem] theorem LM:WBX T cx (.cons (.cons tP (.cons tSl .unit)) (.cons tP .unit)) (encDk .nilp .nilsl p) d r kill k sl own h Q=W T cx (.ops r kill::k) ⟨sl.set d (.ptr (.obj h.next) [] tDesk),own,h.nw tDesk (encDk .nilp .nilsl p)⟩ Q:=by
 have:(Ty.fits (.cons (.cons tP (.cons tSl .unit)) (.cons tP .unit)) (encDk .nilp .nilsl p)=true)=True:=D0 p
 simp only[WBX,this,true_and]
@[go_sem] theorem Jk:W T cx (.ops (⟨some d,.box true (.cons (.cons tP (.cons tSl .unit)) (.cons tP .unit)) x,none⟩::r) kill::k) ⟨sl,own,h⟩ Q=WBX T cx (.cons (.cons tP (.cons tSl .unit)) (.cons tP .unit)) (St.opd ⟨sl,own,h⟩ x) d r kill k sl own h Q:=o5
end
def doT(L:Lf)(ls:List Str):List UInt8:=if o2 ls=true then[]else(runC L ls).1
def doE(ls:List Str):Int:=if o2 ls=true then 15 else 0
def doL(L:Lf)(ls:List Str):Lf:=if o2 ls=true then L else(runC L ls).2
section
variable{cx:Cx}{h:HP}{d p f c:Nat}{L:Lf}
theorem AD(hl:HL cx)(hQ:DQ h d p f c L)(hi:LTight L)(hv:Txs h cx.lvl v ls)(hno:notObj v)(hn:ls.length<=150)(hs:∀i,(txt ls i).size<=10000):
  Ok ff cx Fn.aA (St.enter [.ptr (.obj d) [] tDesk,v] h) fun v' h'=>Fr h h' [d,p,f,c]/\∃(i:Int) (f' c':Nat),v'=.tup (.cons (.str (bsL (doT L ls))) (.cons (eH (doE ls) i) .unit))/\
   DQ h' d p f' c' (doL L ls)/\((f'=f/\c'=c)\/(h.next<=f'/\h.next<=c')):=by
 cases hb:o2 ls with
 |true=>
  refine(Ho (d:=d) hv hn hb).mono fun v' h' e=>?_
  obtain⟨i,rfl,rfl⟩:=e
  refine⟨Fr.refl _ _,i,f,c,?_,?_,.inl ⟨rfl,rfl⟩⟩
  ·simp only[doT,doE,hb,if_true];rfl
  ·simp only[doL,hb,if_true];exact hQ
 |false=>
  refine(yZ hl hQ hi hv hno hn hs hb).mono fun v' h' e=>?_
  obtain⟨hF,rfl,f',c',e1,e2⟩:=e
  refine⟨hF,0,f',c',?_,?_,e2⟩
  ·simp only[doT,doE,hb,Bool.false_eq_true,if_false]
  ·simp only[doL,hb,Bool.false_eq_true,if_false];exact e1
theorem y0:Ok ff cx Fn.iv (St.enter [] h) fun v h'=>Fr h h' []/\v=.ptr (.obj (h.next+3)) [] tDesk/\DQ h' (h.next+3) (h.next+2) (h.next+1) h.next Lf.new/\h'.next=h.next+4:=by
 rw[aE]
 simp(disch:=omega)only[go_sem]
 refine bK (v:=.ptr (.obj (h.next+2)) [] tLife) (((h.nw tCache (encC .blank .blank)).nw tFiles (encF h.next 0)).nw tLife (encLi (h.next+1) 0 0 0 0)) rfl ⟨rfl,rfl⟩ rfl (by simp only[go_sem];exact upV (upT Ex)) ?_
 simp(disch:=omega)only[go_sem]
 have hF:Fr h ((((h.nw tCache (encC .blank .blank)).nw tFiles (encF h.next 0)).nw tLife (encLi (h.next+1) 0 0 0 0)).nw tDesk (encDk .nilp .nilsl (h.next+2))) []:=((Fr.nw.trans Fr.nw).trans Fr.nw).trans Fr.nw
 refine⟨hF,⟨.nilp,.nilsl,?_⟩,?_,?_,by omega,by omega,by omega⟩
 ·exact d7 (h:=((h.nw tCache (encC .blank .blank)).nw tFiles (encF h.next 0)).nw tLife (encLi (h.next+1) 0 0 0 0))
 ·constructor<;>try dsimp only
  ·rw[fv (by show¬h.next+2=h.next+1+1+1;omega)]
   exact d7 (h:=(h.nw tCache (encC .blank .blank)).nw tFiles (encF h.next 0))
  ·rw[fv (by show¬h.next+1=h.next+1+1+1;omega),fv (by show¬h.next+1=h.next+1+1;omega)];exact qZ
  ·rw[fv (by show¬h.next=h.next+1+1+1;omega),fv (by show¬h.next=h.next+1+1;omega)];exact vQ
  ·omega
  ·omega
  ·omega
  ·show h.next+2<h.next+1+1+1+1;omega
  ·show h.next+1<h.next+1+1+1+1;omega
  ·show h.next<h.next+1+1+1+1;omega
 ·show h.next+3<h.next+1+1+1+1;omega
theorem Slow_ok(hv:Txs h cx.lvl v ls)(hn:ls.length<=1000)(hs:∀i,(txt ls i).size<=4611686018427387904):
  Ok ff cx Fn.eM (St.enter [v] h) fun v' h'=>(∃b,v'=.bool b/\(b=false->∀i,(txt ls i).size<=10000))/\h'=h:=by
 have hix:=fun z sl own=>hv.ix (cx:=cx) (kk:=.i64) (z:=z) sl own
 have hlv:=fun z sl own=>hv.lv (cx:=cx) (z:=z) sl own
 have hfg:=fun t=>hv.fg (t:=t)
 have hld:=fun t=>hv.ld (t:=t)
 have hfx:=fun z t=>hv.fgx (t:=t) z
 have hlx:=fun z t=>hv.ldx (t:=t) z
 have hln:=hv.len
 rw[aE]
 simp(disch:=omega)only[go_sem]
 refine gv (α:=Nat) ls.length (fun j n=>⟨[(0,v),(3,.int .i64 n),(4,.int .i64 j)],[],h⟩) (fun j n=>n<=9000/\∀i,i<j->(txt ls i).size<=n) 0 (by simp only[go_sem]<;>rfl) ⟨by omega,fun i hi=>by omega⟩ fun j n hj hp ih=>?_
 obtain⟨p1,p2⟩:=hp
 by_cases hlt:j<ls.length
 ·have hsj:=hs j
  simp(disch:=omega)only[go_sem,hln,hlt,hix,hlv,hfg,hld,hfx,hlx]
  by_cases c9:9000<((n:Int)+((txt ls j).size:Nat))
  ·simp(disch:=omega)only[go_sem,c9]
   exact⟨true,rfl,by simp⟩
  ·simp(disch:=omega)only[go_sem,c9]
   refine ih _ (n+(txt ls j).size) hlt ?_ ⟨by omega,fun i hi=>?_⟩
   ·simp only[go_sem]
   ·by_cases e:i=j
    ·subst e;omega
    ·have:=p2 i (by omega);omega
 ·obtain rfl:j=ls.length:=by omega
  simp(disch:=omega)only[go_sem,hln]
  refine⟨false,rfl,fun _ i=>?_⟩
  by_cases hi:i<ls.length
  ·have:=p2 i hi;omega
  ·have:txt ls i=⟨#[]⟩:=by
    simp only[txt,List.getD_eq_getElem?_getD,List.getElem?_eq_none (Nat.not_lt.1 hi),Option.getD_none]
   rw[this];decide
end
theorem Fr.trans'{h2:HP}(a:Fr h h1 [])(b:Fr h1 h2 S)(hS:∀n∈S,h.next<=n):Fr h h2 []:=
 ⟨b.stk.trans a.stk,b.arg.trans a.arg,Nat.le_trans a.next b.next,fun n hn _=>(b.same n (Nat.lt_of_lt_of_le hn a.next) fun e=>absurd (hS n e) (Nat.not_le.2 hn)).trans (a.same n hn (by simp))⟩
def begL:List Str:=[⟨#[109,97,107,101,32,48,32,97]⟩,⟨#[112,117,116,32,48,32,97,32,49,32,61,120]⟩,⟨#[114,101,97,100,32,48,32,97,32,49]⟩,⟨#[119,114,105,116,101,32,48]⟩,⟨#[100,105,115,107]⟩,⟨#[100,105,114,116,121]⟩,⟨#[115,121,110,99]⟩,⟨#[115,117,114,101,32,48,32,97]⟩,⟨#[108,105,110,107,32,48,32,97,32,50,32,98]⟩,⟨#[115,97,109,101,32,48,32,97,32,50,32,98]⟩,⟨#[99,114,97,115,104]⟩,⟨#[108,105,115,116,32,50]⟩,⟨#[108,111,115,116]⟩,⟨#[120]⟩]
def GX:List UInt8:=[111,107,10,111,107,10,61,120,10,111,107,10,105,110,111,100,101,32,48,32,49,32,49,32,45,49,32,45,49,10,101,110,100,10,100,105,114,116,121,32,48,32,50,32,53,10,111,107,10,116,114,117,101,10,111,107,10,116,114,117,101,10,111,107,10,110,97,109,101,115,10,108,111,115,116,32,49,32,48,32,48,32,48,10,119,104,97,116,10]
theorem Oz:doE begL=0:=by decide+kernel
theorem OA:doT .new begL=GX:=by decide+kernel
theorem Oy:∀i,(txt begL i).size<=10000:=by
 intro i
 by_cases h:i<14
 ·have:∀i:Fin 14,(txt begL i.val).size<=10000:=by decide+kernel
  exact this ⟨i,h⟩
 ·have:txt begL i=⟨#[]⟩:=by
   simp only[txt,List.getD_eq_getElem?_getD,List.getElem?_eq_none (show begL.length<=i from Nat.not_lt.1 h),Option.getD_none]
  rw[this];decide
theorem D2:fill (.arr 14 tS) (Ty.arr 14 tS).zero (um 0 (begL.map AV.str))=some (encS begL):=jU begL rfl
section
variable{cx:Cx}{h:HP}
theorem uu(hl:HL cx):Ok ff cx Fn.ei (St.enter [] h) fun v h'=>Fr h h' []/\v=.bool true:=by
 rw[aE]
 simp(disch:=omega)only[go_sem]
 refine eY (S:=[]) (R:=fun v h'=>v=.ptr (.obj (h.next+3)) [] tDesk/\DQ h' (h.next+3) (h.next+2) (h.next+1) h.next Lf.new/\h'.next=h.next+4) rfl ⟨rfl,rfl⟩ (by simp only[go_sem];exact y0) (fun v h1 e=>⟨e.1,e.2.1.pop,e.2.2⟩) ?_
 rintro _ h1 hF1 ⟨rfl,hQ1,hn1⟩
 have hfill:=D2
 simp only[begL,List.map_cons,List.map_nil,um]at hfill
 simp(disch:=omega)only[go_sem,hfill]
 refine eY (S:=[h.next+3,h.next+2,h.next+1,h.next]) (R:=fun v h'=>∃i:Int,v=.tup (.cons (.str (bsL GX)) (.cons (eH 0 i) .unit))) rfl ⟨rfl,rfl⟩ (by
  simp only[go_sem]
  refine(AD (ls:=begL) (by exact hl) hQ1.push LTight.new (fL (ws:=begL) rfl rfl) (fun q o n e=>by simp at e) (by decide) Oy).mono fun v h' e=>?_
  obtain⟨hF,i,_,_,rfl,_,_⟩:=e
  rw[Oz,OA]
  exact⟨hF,i,rfl⟩) (fun _ _ e=>e) ?_
 rintro _ h2 hF2 ⟨i,rfl⟩
 have hF3:Fr h h2 []:=hF1.trans' hF2 (fun n hn=>by simp at hn;omega)
 have eb:(bsL GX=(⟨#[111,107,10,111,107,10,61,120,10,111,107,10,105,110,111,100,101,32,48,32,49,32,49,32,45,49,32,45,49,10,101,110,100,10,100,105,114,116,121,32,48,32,50,32,53,10,111,107,10,116,114,117,101,10,111,107,10,116,114,117,101,10,111,107,10,110,97,109,101,115,10,108,111,115,116,32,49,32,48,32,48,32,48,10,119,104,97,116,10]⟩:Str)):=rfl
 simp(disch:=omega)only[go_sem,eb]
 exact hF3
end
@[go_sem] theorem Gx:fill cS (cc 0 0 0) []=some (cc 0 0 0):=rfl
section
variable{cx:Cx}{h:HP}{v:AV}{l:List Int}{a b:Img}
theorem DF{B:Bd}(hl:HL cx)(hB:h.look (.obj n)=some ⟨tBed,B.enc⟩):Ok dH cx Fn.bW (St.enter [.ptr (.obj n) [] tBed] h) fun v h'=>v=.int .i64 (qw B.now B.disk)/\h'=h.ob n tBed (Bd.enc {B with disk:=mA B.now B.disk}):=by
 have:=Bf (cx:=cx) (h:=h) (n:=n) (B:=B) hl
 rw[eJ hB]at this
 refine this.mono fun v h' e=>?_
 obtain⟨k,h8,rfl,rfl,hk,hn⟩:=e
 obtain rfl:=uY h8 hk hn
 exact⟨rfl,rfl⟩
end
@[go_sem] theorem Gn(k:Int)(s t:Str):fill aD aD.zero [(0,.int .i64 k),(4,.str s),(6,.str t)]=some (SStep.enc ⟨k,0,0,0,s,⟨#[]⟩,t⟩):=rfl
@[go_sem] theorem Gm(k d:Int)(s t:Str):fill aD aD.zero [(0,.int .i64 k),(4,.str s),(2,.int .i64 d),(5,.str t)]=some (SStep.enc ⟨k,0,d,0,s,t,⟨#[]⟩⟩):=rfl
def SlG(t:Ty)(h0 h:HP)(v:AV)(l:List AV):Prop:=(v=.nilsl/\l=[])\/∃q,v=.sl (.obj q) 0 l.length/\h0.next<=q/\q<h.next/\h.look (.obj q)=some ⟨.arr l.length t,.ofList l⟩/\l≠[]
theorem SlG.len{l:List AV}(a:SlG t h0 h v l):uj false v=some (.int .i64 l.length):=by
 rcases a with⟨rfl,rfl⟩|⟨q,rfl,_⟩<;>rfl
theorem SlG.fg{l:List AV}(a:SlG t h0 h v l)(x y:Nat):fg v (.stk x y)=v:=by
 rcases a with⟨rfl,_⟩|⟨q,rfl,_⟩<;>simp only[go_sem]
theorem SlG.ld{l:List AV}(a:SlG t h0 h v l)(x y:Nat):v.leads (.stk x y)=false:=by
 rcases a with⟨rfl,_⟩|⟨q,rfl,_⟩<;>simp only[go_sem]
structure Off(h h':HP)(v:AV):Prop where
 stk:h'.stk=h.stk
 arg:h'.arg=h.arg
 next:h.next<=h'.next
 same:∀n,n<h.next->v.into (.obj n)=false->h'.obj n=h.obj n
theorem Off.refl(h:HP)(v:AV):Off h h v:=⟨rfl,rfl,Nat.le_refl _,fun _ _ _=>rfl⟩
theorem Off.look(a:Off h h' v){b:Option Blk}(hn:n<h.next)(hv:v.into (.obj n)=false)(e:h.look (.obj n)=b):h'.look (.obj n)=b:=by
 rw[←e];exact a.same n hn hv
theorem Off.fr(f:Fr h0 h [])(a:Off h h' v)(hv:∀n,n<h0.next->v.into (.obj n)=false):Fr h0 h' []:=
 ⟨a.stk.trans f.stk,a.arg.trans f.arg,Nat.le_trans f.next a.next,fun n hn hs=>(a.same n (Nat.lt_of_lt_of_le hn f.next) (hv n hn)).trans (f.same n hn hs)⟩
theorem SlG.into{l:List AV}(a:SlG t h0 h v l)(n:Nat)(hn:n<h0.next):v.into (.obj n)=false:=by
 rcases a with⟨rfl,_⟩|⟨q,rfl,hq,_⟩
 ·rfl
 ·simp[AV.into];omega
theorem SlG.same{w:AV}{l:List AV}(a:SlG t h0 h v l)(b:Off h h' w)(hw:∀n,v.into (.obj n)=true->w.into (.obj n)=false):SlG t h0 h' v l:=by
 rcases a with a|⟨q,rfl,hq,hq2,hq3⟩
 ·exact .inl a
 ·exact .inr ⟨q,rfl,hq,Nat.lt_of_lt_of_le hq2 b.next,b.look hq2 (hw q (by simp[AV.into])) hq3.1,hq3.2⟩
theorem SlG.mono{l:List AV}(a:SlG t h1 h v l)(e:h0.next<=h1.next):SlG t h0 h v l:=by
 rcases a with a|⟨q,rfl,hq,r⟩
 ·exact .inl a
 ·exact .inr ⟨q,rfl,Nat.le_trans e hq,r⟩
theorem hZ(l:List AV):(AV.ofList l).toList=some l:=by
 simp only[AV.ofList,AV.toList]
 congr 1
 exact List.ext_getElem (by simp) (by simp)
theorem kB{l:List AV}(hn:n=l.length)(h:∀a∈l,t.fits a=true):(Ty.arr n t).fits (.ofList l)=true:=by
 subst hn
 simp only[AV.ofList,Ty.fits,beq_self_eq_true,Bool.true_and,List.all_eq_true]
 exact fun i _=>h _ (List.get_mem ..)
section
variable{T:MTb}{cx:Cx}{k:List Item}{kill:List Nat}{r:List MOp}{sl:Slots}{own:Own}{h h0:HP}{Q:St->Prop}{t:Ty}
theorem rM{ap:List Nat}{y:Opd}{l add:List AV}(hx:St.opd ⟨sl,own,h⟩ x=v)(hl:HL cx)(h0n:h0.next<=h.next)(hS:SlG t h0 h v l)
  (hy:elems (St.look cx ⟨sl,own,h⟩) t (St.opd ⟨sl,own,h⟩ y)=some add) (hfl:∀a∈l,t.fits a=true) (hfa:∀a∈add,t.fits a=true) (hn:l.length+add.length<=1048576)
  (hap:∀e,ap.all (apOk (St.opd ⟨sl,own,h⟩) v (St.opd ⟨sl,own,h⟩ y) e)=true)
  (hq:∀v' h',SlG t h0 h' v' (l++add)->Off h h' v->W T cx (.ops r kill::k) ⟨sl.set d v',own,h'⟩ Q):
  W T cx (.ops (⟨some d,.append true ap t x y,none⟩::r) kill::k) ⟨sl,own,h⟩ Q:=by
 rw[gW rfl,evOp]
 have hev:∀e,evAppend (St.look cx ⟨sl,own,h⟩) t v add=some e->evK (St.opd ⟨sl,own,h⟩) (St.look cx ⟨sl,own,h⟩) (.append true ap t x y)=some e:=by
  intro e he
  simp only[evK,hy,hx,he,hap e,if_true]
 rcases hS with⟨rfl,rfl⟩|⟨q,rfl,hq1,hq2,hq3,hne⟩
 ·by_cases ha:add.length=0
  ·have ha':add=[]:=List.eq_nil_of_length_eq_zero ha
   subst ha'
   rw[hev (.val .nilsl) (by simp[evAppend])]
   exact hq _ h (.inl ⟨rfl,rfl⟩) (Off.refl _ _)
  ·rw[hev (.new (some add.length) ⟨.arr add.length t,.ofList add⟩) (by
    simp only[evAppend]
    rw[if_neg ha,if_pos ⟨kB rfl hfa,by simp at hn;omega⟩])]
   refine hq (.sl (.obj h.next) 0 add.length) (h.nw (.arr add.length t) (.ofList add)) (.inr ⟨h.next,by simp,h0n,Nat.lt_succ_self _,by simpa using d7,by simp;exact fun e=>ha (by rw[e];rfl)⟩) ⟨rfl,rfl,Nat.le_succ _,fun n hn _=>?_⟩
   simp[HP.nw,HP.ob,HP.set];omega
 ·have hlk:St.look cx ⟨sl,own,h⟩ (.obj q)=some ⟨.arr l.length t,.ofList l⟩:=hq3
  by_cases ha:add.length=0
  ·have ha':add=[]:=List.eq_nil_of_length_eq_zero ha
   subst ha'
   have e0:l.take l.length++[]++l.drop (l.length+0)=l:=by simp
   rw[hev (.wr (.obj q) ⟨.arr l.length t,.ofList l⟩ (.sl (.obj q) 0 (l.length+0))) (by
    simp only[evAppend,hlk,hZ,if_true,List.length_nil,Nat.zero_add]
    rw[if_pos (by omega),e0,if_pos (kB rfl hfl)])]
   simp only[ax,St.write,Id.own,hl q,if_true,Option.map_some,cE]
   refine hq (.sl (.obj q) 0 (l.length+0)) (h.ob q (.arr l.length t) (.ofList l)) ?_ ⟨rfl,rfl,Nat.le_refl _,fun n hn hv=>n9 fun e=>?_⟩
   ·exact .inr ⟨q,by simp,hq1,hq2,by simpa using gm,by simpa using hne⟩
   ·subst e;simp[AV.into]at hv
  ·rw[hev (.grow (.obj q) ⟨.arr (l.length+add.length) t,.ofList (l++add)⟩ (l.length+add.length)) (by
    simp only[evAppend,hlk,hZ,if_true,Nat.zero_add,List.drop_zero]
    rw[if_neg (by omega),if_pos (by omega),List.take_of_length_le (Nat.le_refl _),if_pos ⟨kB (by simp) (fun a ha=>by
     rcases List.mem_append.1 ha with h|h
     ·exact hfl a h
     ·exact hfa a h),hn⟩])]
   simp only[ax,St.drop,Id.own,hl q,if_true,Option.map_some,cE]
   refine hq (.sl (.obj h.next) 0 (l.length+add.length)) ((h.dl q).nw (.arr (l.length+add.length) t) (.ofList (l++add))) (.inr ⟨h.next,by simp,h0n,Nat.lt_succ_self _,?_,by simp[hne]⟩) ⟨rfl,rfl,Nat.le_succ _,fun n hn hv=>?_⟩
   ·have:=d7 (h:=h.dl q) (t:=.arr (l.length+add.length) t) (v:=.ofList (l++add))
    rw[List.length_append]
    exact this
   ·have hnq:¬n=q:=fun e=>by subst e;simp[AV.into]at hv
    simp[HP.nw,HP.ob,HP.set,HP.dl,hnq];omega
theorem yR{rt:Option Nat}{lo hi:Option Opd}{l:List AV}{a b:Nat}(hx:St.opd ⟨sl,own,h⟩ x=v)(hS:SlG t h0 h v l)
  (hlo:(lo=none/\a=0)\/∃y kk,lo=some y/\St.opd ⟨sl,own,h⟩ y=.int kk a) (hhi:(hi=none/\b=l.length)\/∃y kk,hi=some y/\St.opd ⟨sl,own,h⟩ y=.int kk b) (hab:a<=b) (hbl:b<=l.length)
  (hrt:rt=none\/∃u,rt=some u/\u<1000000/\Slots.get sl u=v)
  (hq:∀v',(∀q,v'.into q=true->v.into q=true)->(∀x y,Go.Mini.fg v' (.stk x y)=v')->(∀sl':Slots,elems (St.look cx ⟨sl',own,h⟩) t v'=some ((l.drop a).take (b-a)))->W T cx (.ops r kill::k) ⟨sl.set d v',own,h⟩ Q):
  W T cx (.ops (⟨some d,.slice rt t x lo hi none,none⟩::r) kill::k) ⟨sl,own,h⟩ Q:=by
 rw[gW rfl,evOp]
 have e1:ixOr (St.opd ⟨sl,own,h⟩) lo 0=some (a:Int):=by
  rcases hlo with⟨rfl,rfl⟩|⟨y,kk,rfl,hy⟩
  ·rfl
  ·simp[ixOr,hy,toIx]
 rcases hS with⟨rfl,rfl⟩|⟨q,rfl,hq1,hq2,hq3,_⟩
 ·obtain rfl:b=0:=by simpa using hbl
  obtain rfl:a=0:=by omega
  have e2:ixOr (St.opd ⟨sl,own,h⟩) hi 0=some (0:Int):=by
   rcases hhi with⟨rfl,_⟩|⟨y,kk,rfl,hy⟩
   ·rfl
   ·simp[ixOr,hy,toIx]
  have e3:iH (St.opd ⟨sl,own,h⟩) rt=true:=by
   rcases hrt with rfl|⟨u,rfl,_,hu⟩
   ·rfl
   ·simp[iH,St.opd,hu]
  have e1':ixOr (St.opd ⟨sl,own,h⟩) lo 0=some (0:Int):=e1
  simp only[evK,hx,e1',e2,e3,if_true,ax]
  exact hq .nilsl (fun _ h=>h) (fun _ _=>rfl) fun _=>rfl
 ·have e2:ixOr (St.opd ⟨sl,own,h⟩) hi (l.length:Int)=some (b:Int):=by
   rcases hhi with⟨rfl,rfl⟩|⟨y,kk,rfl,hy⟩
   ·rfl
   ·simp[ixOr,hy,toIx]
  have e3:rooted (St.opd ⟨sl,own,h⟩) (.obj q) rt=true:=by
   rcases hrt with rfl|⟨u,rfl,hu,hs⟩
   ·rfl
   ·simp only[rooted]
    rw[if_neg (by omega),if_neg (by omega)]
    simp[St.opd,hs,AV.into]
  have hlk:∀sl':Slots,St.look cx ⟨sl',own,h⟩ (.obj q)=some ⟨.arr l.length t,.ofList l⟩:=fun _=>hq3
  simp only[evK,hx,e1,e2,e3,if_true,f8,hlk,Option.map_none,true_and]
  rw[if_pos ⟨by omega,by omega,by omega⟩]
  by_cases hoff:0+(a:Int).toNat<l.length\/(a:Int)=0
  ·rw[if_pos hoff]
   simp only[ax]
   refine hq (.sl (.obj q) (0+(a:Int).toNat) ((b:Int)-a).toNat) (fun p hp=>by simpa[AV.into]using hp) (fun x y=>by simp only[go_sem]) fun sl'=>?_
   have h1:((b:Int)-a).toNat=b-a:=by omega
   simp only[elems,hlk,hZ,h1]
   rw[if_pos ⟨trivial,by simp;omega⟩]
   simp
  ·rw[if_neg hoff]
   simp only[ax]
   refine hq .slz (fun p hp=>by simp[AV.into]at hp) (fun x y=>rfl) fun sl'=>?_
   have:b-a=0:=by omega
   simp[elems,this]
end
abbrev tTag:Ty:=.cons tI (.cons tS (.cons tI .unit))
abbrev gJ:Ty:=.cons tSl (.cons tSl .unit)
structure Tag where
 dir:Int
 name:Str
 file:Nat
 deriving DecidableEq
def Tag.enc(x:Tag):AV:=.cons (.int .i64 x.dir) (.cons (.str x.name) (.cons (.int .i64 x.file) .unit))
@[go_sem] theorem M6(x:Tag):x.enc.at [0]=some (.int .i64 x.dir):=rfl
@[go_sem] theorem M5(x:Tag):x.enc.at [1]=some (.str x.name):=rfl
@[go_sem] theorem M4(x:Tag):x.enc.at [2]=some (.int .i64 x.file):=rfl
@[go_sem] theorem KA(x:Tag):(tTag.fits x.enc=true)=True:=eq_true rfl
theorem zW(l:List Tag):∀a∈l.map Tag.enc,tTag.fits a=true:=fun a ha=>by
 obtain⟨x,_,rfl⟩:=List.mem_map.1 ha;rfl
def tagN(l:List Tag)(k:Nat):Tag:=l.getD k ⟨0,⟨#[]⟩,0⟩
theorem A4{l:List Tag}(h:k<l.length):tagN l k=l[k]:=by simp[tagN,h]
@[go_sem] theorem LZ(l:List Tag)(h:k<l.length)(p:List Nat):(AV.ofList (l.map Tag.enc)).at (k::p)=(tagN l k).enc.at p:=by
 simp[AV.ofList,AV.at,h,tagN]
@[go_sem] theorem Oa(f:Tag)(i:Id):fg f.enc i=f.enc:=rfl
@[go_sem] theorem HZ(f:Tag)(i:Id):f.enc.leads i=false:=rfl
def SlR(t:Ty)(h:HP)(v:AV)(l:List AV):Prop:=(v=.nilsl/\l=[])\/∃q,v=.sl (.obj q) 0 l.length/\h.look (.obj q)=some ⟨.arr l.length t,.ofList l⟩
theorem SlG.r{l:List AV}(a:SlG t h0 h v l):SlR t h v l:=by
 rcases a with a|⟨q,h1,_,_,h2,_⟩
 ·exact .inl a
 ·exact .inr ⟨q,h1,h2⟩
theorem SlR.len{l:List AV}(a:SlR t h v l):uj false v=some (.int .i64 l.length):=by
 rcases a with⟨rfl,rfl⟩|⟨q,rfl,_⟩<;>rfl
theorem SlR.fits{l:List AV}(a:SlR t h v l):(tSl.fits v=true)=True:=by
 rcases a with⟨rfl,rfl⟩|⟨q,rfl,_⟩<;>exact eq_true rfl
theorem SlR.push{l:List AV}{x:Nat}(a:SlR t h v l):SlR t (h.push x o) v l:=a
@[go_sem] theorem IG:gJ.field 0=some tSl:=rfl
@[go_sem] theorem IE:gJ.field 1=some tSl:=rfl
@[go_sem] theorem GB:tTag.field 0=some tI:=rfl
@[go_sem] theorem GA:tTag.field 1=some tS:=rfl
@[go_sem] theorem Gz:tTag.field 2=some tI:=rfl
def qi(s:Str)(l:List Str):Nat:=(l.takeWhile fun x=>sLt x s).length
def np(s:Str)(l:List Str):List Str:=(l.take (qi s l)++[s])++l.drop (qi s l)
def namesT(l:List Tag)(d:Int):Nat->List Str
 |0=>[]
 |k+1=>if(tagN l k).dir=d then namesT l d k++[(tagN l k).name]else namesT l d k
def listD(l:List Tag)(d:Int):Nat->List Str
 |0=>[]
 |k+1=>if(tagN l k).dir=d then np (tagN l k).name (listD l d k)else listD l d k
theorem ul{s:Str}:∀{l:List Str} {k:Nat},k<=l.length->(∀j,j<k->sLt (txt l j) s=true)->(k=l.length\/sLt (txt l k) s=false)->qi s l=k
 | [],k,hk,_,_=>by simp at hk;simp[qi,hk]
 |a::l,0,_,_,h=>by
  have:sLt a s=false:=by
   rcases h with h|h
   ·simp at h
   ·simpa[txt]using h
  simp[qi,this]
 |a::l,k+1,hk,hp,h=>by
  have h0:sLt a s=true:=by simpa[txt]using hp 0 (by omega)
  have ih:=ul (s:=s) (l:=l) (k:=k) (by simpa using hk) (fun j hj=>by simpa[txt]using hp (j+1) (by omega)) (by
   rcases h with h|h
   ·exact .inl (by simpa using h)
   ·exact .inr (by simpa[txt]using h))
  simp only[qi,List.takeWhile_cons,h0,if_true,List.length_cons]
  simp only[qi]at ih
  rw[ih]
theorem sT(s:Str)(l:List Str):(np s l).Perm (s::l):=by
 unfold np
 rw[List.append_assoc]
 refine List.perm_middle.trans ?_
 simp
theorem pR{s:Str}:∀{l:List Str},Sorted l->Sorted (np s l)
 | [],_=>by simp[np,qi,Sorted]
 |a::l,h=>by
  obtain⟨h1,h2⟩:=List.pairwise_cons.1 h
  by_cases c:sLt a s=true
  ·have e:np s (a::l)=a::np s l:=by
    simp[np,qi,List.takeWhile_cons,c]
   rw[e]
   refine List.pairwise_cons.2 ⟨fun b hb=>?_,pR h2⟩
   rcases List.mem_cons.1 ((sT s l).mem_iff.1 hb)with rfl|hb
   ·exact sB c
   ·exact h1 b hb
  ·have e:np s (a::l)=s::a::l:=by
    simp[np,qi,List.takeWhile_cons,c]
   rw[e]
   have hsa:sLe s a=true:=by
    have:sLt a s=false:=by simpa using c
    simp[sLe,this]
   refine List.pairwise_cons.2 ⟨fun b hb=>?_,h⟩
   rcases List.mem_cons.1 hb with rfl|hb
   ·exact hsa
   ·exact nW hsa (h1 b hb)
theorem q8(l:List Tag)(d:Int):∀k,Sorted (listD l d k)/\(listD l d k).Perm (namesT l d k)
 |0=>⟨List.Pairwise.nil,List.Perm.refl _⟩
 |k+1=>by
  obtain⟨h1,h2⟩:=q8 l d k
  unfold listD namesT
  split
  ·refine⟨pR h1,(sT _ _).trans ?_⟩
   exact((h2.cons _).trans (List.perm_append_singleton _ _).symm)
  ·exact⟨h1,h2⟩
theorem xx(l:List Tag)(d:Int)(k:Nat):listD l d k=iE (namesT l d k):=by
 obtain⟨h1,h2⟩:=q8 l d k
 exact vf h2 h1
theorem qR(l:List Tag)(d:Int):∀k,(namesT l d k).length<=k
 |0=>Nat.le_refl _
 |k+1=>by
  have:=qR l d k
  unfold namesT
  split
  ·simp;omega
  ·omega
theorem zQ(l:List Tag)(d:Int)(k:Nat):(listD l d k).length<=k:=by
 rw[(q8 l d k).2.length_eq];exact qR l d k
theorem SlG.safe{l:List AV}(a:SlG t h0 h v l):v.safe=true:=by
 rcases a with⟨rfl,_⟩|⟨q,rfl,_⟩<;>rfl
theorem SlG.slf(a:SlG tS h0 h v (l.map .str)):SlF h0 h v l:=by
 rcases a with⟨rfl,e⟩|⟨q,rfl,h1,h2,h3,_⟩
 ·exact .inl ⟨rfl,by simpa using e⟩
 ·rw[List.length_map]at *
  exact .inr ⟨q,rfl,h1,h2,h3⟩
theorem gD(l:List Str):∀a∈l.map AV.str,tS.fits a=true:=fun a ha=>by
 obtain⟨x,_,rfl⟩:=List.mem_map.1 ha;rfl
section
variable{cx:Cx}{h:HP}{p:Id}{v1 v2:AV}{l:List Tag}
theorem CW{d:Int}(hl:HL cx)(hb:p.below cx.lvl)(hm:h.rd p [0]=some v1)(hpn:∀n,p=.obj n->n<h.next)(hS:SlR tTag h v1 (l.map Tag.enc))(hqn:∀q,v1.into (.obj q)=true->q<h.next)(hn:l.length<=1000000):
  Ok dH cx Fn.ba (St.enter [.ptr p [] gJ,.int .i64 d] h) fun v h'=>Fr h h' []/\SlF h h' v (iE (namesT l d l.length)):=by
 have hlen:=hS.len
 have hfit:=hS.fits
 rw[List.length_map]at hlen
 rw[aE]
 simp(disch:=omega)only[go_sem]
 refine gv (α:=AV×HP) l.length (fun i q=>⟨[(0,.ptr p [] gJ),(1,.int .i64 d),(5,q.1),(6,.int .i64 i)],[],q.2⟩) (fun i q=>Fr h q.2 []/\SlG tS h q.2 q.1 ((listD l d i).map .str)) (.nilsl,h) (by simp only[go_sem]<;>rfl) ⟨Fr.refl _ _,.inl ⟨rfl,rfl⟩⟩ fun i q hi hq ih=>?_
 obtain⟨ov,H⟩:=q
 obtain⟨hF,hO⟩:=hq
 dsimp only at hF hO⊢
 have hmH:H.rd p [0]=some v1:=by
  cases p with
  |stk a b=>simp only[HP.rd,HP.look,hF.stk]at hm⊢;exact hm
  |arg a=>simp only[HP.rd,HP.look,hF.arg]at hm⊢;exact hm
  |obj a=>simp only[HP.rd,HP.look]at hm⊢;rw[hF.same a (hpn a rfl) (by simp)];exact hm
 by_cases hlt:i<l.length
 ·rcases hS with⟨_,e'⟩|⟨q,rfl,hq⟩
  ·have:l=[]:=by simpa using e'
   rw[this]at hlt;simp at hlt
  have hqH:H.look (.obj q)=some ⟨.arr (l.map Tag.enc).length tTag,.ofList (l.map Tag.enc)⟩:=hF.look (hqn q (by simp[AV.into])) (by simp) hq
  rw[List.length_map]at hqH hlen hfit hmH
  have hofg:=hO.fg
  have hold:=hO.ld
  by_cases cd:(tagN l i).dir=d
  rotate_left
  ·simp(disch:=omega)only[go_sem,hlt,hlen,hfit,aw hb,hmH,au hb,af hb,ah hb,hqH,cd,hofg]
   refine ih _ (ov,H) hlt ?_ ⟨hF,?_⟩
   ·simp only[go_sem]
   ·unfold listD;rw[if_neg cd];exact hO
  simp(disch:=omega)only[go_sem,hlt,hlen,hfit,aw hb,hmH,au hb,af hb,ah hb,hqH,cd,hofg]
  have hLn:=zQ l d i
  generalize hL:listD l d i=L at hO hLn
  have hOlen:=hO.len
  rw[List.length_map]at hOlen
  refine cm L.length (fun k=>⟨[(0,.ptr p [] gJ),(1,.int .i64 d),(5,ov),(6,.int .i64 i),(7,.str (tagN l i).name),(8,.nilsl),(9,.int .i64 k)],[],H⟩) (fun k=>∀j,j<k->sLt (txt L j) (tagN l i).name=true) (by simp only[go_sem]<;>rfl) (fun j hj=>by omega) fun k hk hp ih2=>?_
  by_cases hlk:k<L.length
  ·have hO':=hO
   rcases hO' with⟨_,e0⟩|⟨q',rfl,hq1,hq2,hq3,_⟩
   ·have:L=[]:=by simpa using e0
    rw[this]at hlk;simp at hlk
   rw[List.length_map]at hq3 hofg hold hOlen hO
   have hq4:H.look (.obj q')=some ⟨.arr L.length tS,encS L⟩:=hq3
   cases cs:sLt (txt L k) (tagN l i).name with
   |true=>
    simp(disch:=omega)only[go_sem,hlk,hOlen,hq4,cs,List.length_map,af hb,au hb]
    refine ih2 _ hlk (fun j hj=>?_) ?_
    ·by_cases hjk:j=k
     ·subst hjk;exact cs
     ·exact hp j (by omega)
    ·simp only[go_sem,List.length_map]
   |false=>
    simp(disch:=omega)only[go_sem,hlk,hOlen,hq4,cs,List.length_map,af hb,au hb]
    generalize hov:AV.sl (.obj q') 0 L.length=ov at *
    have hik:qi (tagN l i).name L=k:=ul (by omega) hp (.inr cs)
    have hk1:k<=L.length:=by omega
    refine yR (h0:=h) (v:=ov) (l:=L.map .str) (a:=0) (b:=k) (by simp only[go_sem]) hO (.inl ⟨rfl,rfl⟩) (.inr ⟨_,.i64,rfl,by simp only[go_sem]⟩) (by omega) (by simp;omega) (.inl rfl) fun v54 _ hfg54 hel54=>?_
    simp(disch:=omega)only[go_sem]
    refine rM (h0:=H) (v:=.nilsl) (l:=[]) (by simp only[go_sem]) (fun n=>hl n) (Nat.le_refl _) (.inl ⟨rfl,rfl⟩) (add:=((L.take k).map .str)) (by simp only[go_sem];rw[hel54];simp[List.map_take]) (fun _ h=>by simp at h) (gD _) (by simp;omega) (fun e=>by simp[apOk,AV.isNilsl]) fun v55 H1 hS1 hof1=>?_
    have hfg55:=hS1.fg
    have hO1:SlG tS h H1 ov (L.map .str):=hO.same hof1 (fun n _=>rfl)
    have hne1:∀n,ov.into (.obj n)=true->v55.into (.obj n)=false:=fun n hn=>by
     refine hS1.into n ?_
     rcases hO with⟨rfl,_⟩|⟨q,rfl,_,hq2,_⟩
     ·simp[AV.into]at hn
     ·simp[AV.into]at hn;omega
    simp(disch:=omega)only[go_sem,hfg54,hfg55,hofg,af hb,au hb]
    refine rM (h0:=H) (v:=v55) (l:=[]++(L.take k).map .str) (by simp only[go_sem]) (fun n=>hl n) hof1.next hS1 (add:=[.str (tagN l i).name]) (by simp only[go_sem]) (fun a h=>by rw[List.nil_append]at h;exact gD _ a h) (fun a h=>by simp at h;subst h;rfl) (by simp;omega) (fun e=>?_) fun v58 H2 hS2 hof2=>?_
    ·simp only[List.all_cons,List.all_nil,Bool.and_true,apOk,go_sem]
     rcases hO1 with⟨rfl,e0⟩|⟨q,rfl,_,_,_,_⟩
     ·have:L=[]:=by simpa using e0
      have hk0:k=0:=by rw[this]at hk1;simpa using hk1
      rw[hk0]at hS1
      rcases hS1 with⟨rfl,_⟩|⟨q,rfl,_,_,_,hne⟩
      ·rfl
      ·simp at hne
     ·rcases hS1 with⟨rfl,_⟩|⟨q',rfl,_,_,_,_⟩
      ·rfl
      ·have:=hne1 q (by simp[AV.into])
       simp[AV.into]at this
       simp[AV.apart]
       exact fun e=>this e.symm
    have hfg58:=hS2.fg
    have hO2:SlG tS h H2 ov (L.map .str):=hO1.same hof2 hne1
    simp(disch:=omega)only[go_sem,hfg54,hfg55,hfg58,hofg,af hb,au hb]
    refine yR (h0:=h) (v:=ov) (l:=L.map .str) (a:=k) (b:=L.length) (by simp only[go_sem]) hO2 (.inr ⟨_,.i64,rfl,by simp only[go_sem]⟩) (.inl ⟨rfl,by simp⟩) (by omega) (by simp) (.inr ⟨5,rfl,by omega,by simp only[go_sem]⟩) fun v61 _ hfg61 hel61=>?_
    refine rM (h0:=H) (v:=v58) (l:=([]++(L.take k).map .str)++[.str (tagN l i).name]) (by simp only[go_sem]) (fun n=>hl n) (Nat.le_trans hof1.next hof2.next) hS2 (add:=(L.drop k).map .str) (by simp only[go_sem];rw[hel61];simp[List.map_drop,List.take_of_length_le]) (fun a h=>gD (L.take k++[(tagN l i).name]) a (by simpa using h)) (gD _) (by simp;omega) (fun e=>by rfl) fun v62 H3 hS3 hof3=>?_
    have hfg62:=hS3.fg
    simp(disch:=omega)only[go_sem,hfg62]
    refine ih _ (v62,H3) hlt ?_ ⟨?_,?_⟩
    ·simp only[go_sem]
    ·have f1:=Off.fr hF hof1 (fun n _=>rfl)
     have f2:=Off.fr f1 hof2 (fun n hn=>hS1.into n (Nat.lt_of_lt_of_le hn hF.next))
     exact Off.fr f2 hof3 (fun n hn=>hS2.into n (Nat.lt_of_lt_of_le hn hF.next))
    ·have e1:(listD l d (i+1)).map AV.str=(([]++(L.take k).map .str)++[.str (tagN l i).name])++(L.drop k).map .str:=by
      rw[show listD l d (i+1)=np (tagN l i).name L by rw[←hL];exact if_pos cd]
      simp only[np,hik,List.map_append,List.nil_append,List.map_cons,List.map_nil]
     rw[e1]
     exact hS3.mono hF.next
  ·obtain rfl:k=L.length:=by omega
   simp(disch:=omega)only[go_sem,hOlen,hofg,hold,af hb,au hb]
   generalize hkk:L.length=k at hp hlk
   have hik:qi (tagN l i).name L=k:=ul (by omega) hp (.inl hkk.symm)
   have hk1:k<=L.length:=by omega
   refine yR (h0:=h) (v:=ov) (l:=L.map .str) (a:=0) (b:=k) (by simp only[go_sem]) hO (.inl ⟨rfl,rfl⟩) (.inr ⟨_,.i64,rfl,by simp only[go_sem]⟩) (by omega) (by simp;omega) (.inl rfl) fun v54 _ hfg54 hel54=>?_
   simp(disch:=omega)only[go_sem]
   refine rM (h0:=H) (v:=.nilsl) (l:=[]) (by simp only[go_sem]) (fun n=>hl n) (Nat.le_refl _) (.inl ⟨rfl,rfl⟩) (add:=((L.take k).map .str)) (by simp only[go_sem];rw[hel54];simp[List.map_take]) (fun _ h=>by simp at h) (gD _) (by simp;omega) (fun e=>by simp[apOk,AV.isNilsl]) fun v55 H1 hS1 hof1=>?_
   have hfg55:=hS1.fg
   have hO1:SlG tS h H1 ov (L.map .str):=hO.same hof1 (fun n _=>rfl)
   have hne1:∀n,ov.into (.obj n)=true->v55.into (.obj n)=false:=fun n hn=>by
    refine hS1.into n ?_
    rcases hO with⟨rfl,_⟩|⟨q,rfl,_,hq2,_⟩
    ·simp[AV.into]at hn
    ·simp[AV.into]at hn;omega
   simp(disch:=omega)only[go_sem,hfg54,hfg55,hofg,af hb,au hb]
   refine rM (h0:=H) (v:=v55) (l:=[]++(L.take k).map .str) (by simp only[go_sem]) (fun n=>hl n) hof1.next hS1 (add:=[.str (tagN l i).name]) (by simp only[go_sem]) (fun a h=>by rw[List.nil_append]at h;exact gD _ a h) (fun a h=>by simp at h;subst h;rfl) (by simp;omega) (fun e=>?_) fun v58 H2 hS2 hof2=>?_
   ·simp only[List.all_cons,List.all_nil,Bool.and_true,apOk,go_sem]
    rcases hO1 with⟨rfl,e0⟩|⟨q,rfl,_,_,_,_⟩
    ·have:L=[]:=by simpa using e0
     have hk0:k=0:=by rw[this]at hk1;simpa using hk1
     rw[hk0]at hS1
     rcases hS1 with⟨rfl,_⟩|⟨q,rfl,_,_,_,hne⟩
     ·rfl
     ·simp at hne
    ·rcases hS1 with⟨rfl,_⟩|⟨q',rfl,_,_,_,_⟩
     ·rfl
     ·have:=hne1 q (by simp[AV.into])
      simp[AV.into]at this
      simp[AV.apart]
      exact fun e=>this e.symm
   have hfg58:=hS2.fg
   have hO2:SlG tS h H2 ov (L.map .str):=hO1.same hof2 hne1
   simp(disch:=omega)only[go_sem,hfg54,hfg55,hfg58,hofg,af hb,au hb]
   refine yR (h0:=h) (v:=ov) (l:=L.map .str) (a:=k) (b:=L.length) (by simp only[go_sem]) hO2 (.inr ⟨_,.i64,rfl,by simp only[go_sem]⟩) (.inl ⟨rfl,by simp⟩) (by omega) (by simp) (.inr ⟨5,rfl,by omega,by simp only[go_sem]⟩) fun v61 _ hfg61 hel61=>?_
   refine rM (h0:=H) (v:=v58) (l:=([]++(L.take k).map .str)++[.str (tagN l i).name]) (by simp only[go_sem]) (fun n=>hl n) (Nat.le_trans hof1.next hof2.next) hS2 (add:=(L.drop k).map .str) (by simp only[go_sem];rw[hel61];simp[List.map_drop,List.take_of_length_le]) (fun a h=>gD (L.take k++[(tagN l i).name]) a (by simpa using h)) (gD _) (by simp;omega) (fun e=>by rfl) fun v62 H3 hS3 hof3=>?_
   have hfg62:=hS3.fg
   simp(disch:=omega)only[go_sem,hfg62]
   refine ih _ (v62,H3) hlt ?_ ⟨?_,?_⟩
   ·simp only[go_sem]
   ·have f1:=Off.fr hF hof1 (fun n _=>rfl)
    have f2:=Off.fr f1 hof2 (fun n hn=>hS1.into n (Nat.lt_of_lt_of_le hn hF.next))
    exact Off.fr f2 hof3 (fun n hn=>hS2.into n (Nat.lt_of_lt_of_le hn hF.next))
   ·have e1:(listD l d (i+1)).map AV.str=(([]++(L.take k).map .str)++[.str (tagN l i).name])++(L.drop k).map .str:=by
     rw[show listD l d (i+1)=np (tagN l i).name L by rw[←hL];exact if_pos cd]
     simp only[np,hik,List.map_append,List.nil_append,List.map_cons,List.map_nil]
    rw[e1]
    exact hS3.mono hF.next
 ·obtain rfl:i=l.length:=by omega
  simp(disch:=omega)only[go_sem,hlen,hfit,aw hb,hmH,au hb,af hb,ah hb,hO.fg,hO.safe]
  exact⟨hF,by rw[←xx];exact hO.slf⟩
end
theorem qU{l:List Tag}{d:Int}(h:∀t∈l,t.dir=d):∀k,k<=l.length->namesT l d k=(l.take k).map (·.name)
 |0,_=>by simp[namesT]
 |k+1,hk=>by
  have ih:=qU h k (by omega)
  have e:tagN l k=l[k]'(by omega):=A4 (by omega)
  have hd:(tagN l k).dir=d:=by rw[e];exact h _ (List.getElem_mem _)
  unfold namesT
  rw[if_pos hd,ih,e,List.take_succ_eq_append_getElem (by omega),List.map_append]
  rfl
section
variable{T:MTb}{cx:Cx}{k:List Item}{kill:List Nat}{r:List MOp}{sl:Slots}{own:Own}{h h0:HP}{Q:St->Prop}{t:Ty}
theorem fill1G(hf:t.fits v=true):fill (.arr 1 t) (Ty.arr 1 t).zero [(0,v)]=some (.ofList [v]):=by
 simp only[fill,Ty.part,Nat.lt_one_iff,if_true,hf,Ty.zero,AV.put,Nat.zero_lt_one,dite_true,gl,Option.map_some,AV.ofList]
 congr 2
 funext j
 match j with
 |⟨0,_⟩=>rfl
theorem An(hx:St.opd ⟨sl,own,h⟩ x=v)(hf:t.fits v=true)(hq:W T cx (.ops r kill::k) ⟨(Slots.forget sl (.stk cx.lvl d)).set d (.sl (.stk cx.lvl d) 0 1),own.set d ⟨.arr 1 t,.ofList [v]⟩,h⟩ Q):
  W T cx (.ops (⟨some d,.bslice false t 1 [(0,x)],none⟩::r) kill::k) ⟨sl,own,h⟩ Q:=by
 rw[gW rfl,evOp]
 simp only[evK,List.map_cons,List.map_nil,hx,fill1G hf,Option.map_some,ax]
 exact hq
theorem Ab{L:Id->Option Blk}{j:Id}(hl:L j=some ⟨.arr 1 t,.ofList [v]⟩):elems L t (.sl j 0 1)=some [v]:=by
 simp[elems,hl,hZ]
end
def nF(a b:AV):AV:=.cons a (.cons b .unit)
@[go_sem] theorem OB(a b:AV):(nF a b).at [0]=some a:=by simp[nF,AV.at]
@[go_sem] theorem Mb(a b x:AV):(nF a b).put [0] x=some (nF x b):=by simp[nF,AV.put]
@[go_sem] theorem LW:gJ.zero=nF .nilsl .nilsl:=rfl
@[go_sem] theorem KF:(gJ.fits (nF .nilsl .nilsl)=true)=True:=eq_true rfl
@[go_sem] theorem JQ:(AV.nilsl.safe=true)=True:=eq_true rfl
@[go_sem] theorem KJ(d:Int)(s:Str)(n:Nat):fill tTag tTag.zero [(0,.int .i64 d),(1,.str s),(2,.int .i64 (n:Int))]=some (Tag.enc ⟨d,s,n⟩):=rfl
@[go_sem] theorem IA(d:Int)(s:Str):fill tTag tTag.zero [(0,.int .i64 d),(1,.str s),(2,.int .i64 0)]=some (Tag.enc ⟨d,s,0⟩):=rfl
@[go_sem] theorem MI:fill gJ gJ.zero []=some (nF .nilsl .nilsl):=rfl
section
variable{cx:Cx}{h:HP}{n:Nat}{B:Bd}
theorem Db{d:Int}(hl:HL cx)(hB:h.look (.obj n)=some ⟨tBed,B.enc⟩)(hn:n<h.next):
  Ok dH cx Fn.ch (St.enter [.ptr (.obj n) [] tBed,.int .i64 d] h) fun v h'=>Fr h h' []/\SlF h h' v (listOf B.now d):=by
 rw[aE]
 simp(disch:=omega)only[go_sem,hB]
 by_cases c0:d<0
 ·simp(disch:=omega)only[go_sem,c0]
  exact⟨Fr.refl _ _,.inl ⟨rfl,by simp[listOf,c0]⟩⟩
 by_cases c3:3<=d
 ·simp(disch:=omega)only[go_sem,c0,c3]
  exact⟨Fr.refl _ _,.inl ⟨rfl,by simp[listOf,c3]⟩⟩
 simp(disch:=omega)only[go_sem,c0,c3,hB]
 refine gv (α:=AV×HP) 4 (fun i q=>⟨[(0,.ptr (.obj n) [] tBed),(1,.int .i64 d),(5,.ptr (.stk cx.lvl 8) [] gJ),(6,.int .i64 i)],[(8,⟨gJ,nF q.1 .nilsl⟩)],q.2⟩) (fun i q=>Fr h q.2 []/\SlG tTag h q.2 q.1 (((namesL B.now d.toNat i).map fun s=>(⟨d,s,0⟩:Tag)).map Tag.enc)) (.nilsl,h) (by simp only[go_sem]<;>rfl) ⟨Fr.refl _ _,.inl ⟨rfl,rfl⟩⟩ fun i q hi hq ih=>?_
 obtain⟨tv,H⟩:=q
 obtain⟨hF,hO⟩:=hq
 dsimp only at hF hO⊢
 have hBH:=hF.look hn (by simp) hB
 have hlen:=kp B.now d.toNat i
 have hfg:=hO.fg
 have hfit:=hO.r.fits
 by_cases hlt:i<4
 ·by_cases ce:(B.now.ent d.toNat i).name=⟨#[]⟩
  ·simp(disch:=omega)only[go_sem,hlt,c0,c3,hBH,ce]
   refine ih _ (tv,H) hlt ?_ ⟨hF,?_⟩
   ·simp only[go_sem]
   ·simp only[namesL,ce,if_true];exact hO
  ·have hN:(namesL B.now d.toNat (i+1))=namesL B.now d.toNat i++[(B.now.ent d.toNat i).name]:=by simp[namesL,ce]
   simp(disch:=omega)only[go_sem,hlt,c0,c3,hBH,ce,hfit]
   refine An (t:=tTag) (v:=Tag.enc ⟨d,(B.now.ent d.toNat i).name,0⟩) (by simp only[go_sem]) rfl ?_
   simp(disch:=omega)only[go_sem,hfg]
   refine rM (h0:=h) (v:=tv) (l:=((namesL B.now d.toNat i).map fun s=>(⟨d,s,0⟩:Tag)).map Tag.enc) (add:=[Tag.enc ⟨d,(B.now.ent d.toNat i).name,0⟩]) (by simp only[go_sem]) (fun n=>hl n) hF.next hO (Ab (by simp only[go_sem])) (zW _) (fun a h=>by simp at h;subst h;rfl) (by simp;omega) (fun e=>by rfl) fun tv' H' hS' hof=>?_
   have hfg':=hS'.fg
   have hfit':=hS'.r.fits
   simp(disch:=omega)only[go_sem,hfg',hfit']
   refine ih _ (tv',H') hlt ?_ ⟨Off.fr hF hof (fun n hn=>hO.into n hn),?_⟩
   ·simp only[go_sem]
   ·rw[hN];simpa using hS'
 ·obtain rfl:i=4:=by omega
  simp(disch:=omega)only[go_sem]
  have hS:=hO.r
  have hd:∀t∈(namesL B.now d.toNat 4).map fun s=>(⟨d,s,0⟩:Tag),t.dir=d:=fun t ht=>by
   obtain⟨s,_,rfl⟩:=List.mem_map.1 ht;rfl
  refine eY (S:=[]) (R:=fun v h'=>SlF H h' v (iE (namesT ((namesL B.now d.toNat 4).map fun s=>(⟨d,s,0⟩:Tag)) d ((namesL B.now d.toNat 4).map fun s=>(⟨d,s,0⟩:Tag)).length))) rfl ⟨rfl,rfl⟩ (by
   simp only[go_sem]
   exact CW (v1:=tv) (l:=(namesL B.now d.toNat 4).map fun s=>(⟨d,s,0⟩:Tag)) (by exact hl) (cV _ _) (by simp only[go_sem,HP.push_rd_own]) (fun n h=>by simp at h) hS.push (fun q hq=>by
    show q<H.next
    rcases hO with⟨rfl,_⟩|⟨q',rfl,_,h2,_⟩
    ·simp[AV.into]at hq
    ·simp[AV.into]at hq;omega) (by simp;omega)) (fun v h1 e=>e) ?_
  rintro v H' hF' hv
  rw[qU hd _ (Nat.le_refl _),List.take_of_length_le (Nat.le_refl _),List.map_map]at hv
  have e1:((fun t:Tag=>t.name)∘fun s=>(⟨d,s,0⟩:Tag))=id:=rfl
  rw[e1,List.map_id]at hv
  have e2:listOf B.now d=iE (namesL B.now d.toNat 4):=by unfold listOf;rw[if_neg (by omega)]
  have hsafe:v.safe=true:=by rcases hv with⟨rfl,_⟩|⟨q,rfl,_⟩<;>rfl
  simp(disch:=omega)only[go_sem,hsafe]
  refine⟨hF.trans hF',?_⟩
  rw[e2]
  rcases hv with hv|⟨q,hv1,hv2,hv3,hv4⟩
  ·exact .inl hv
  ·exact .inr ⟨q,hv1,Nat.le_trans hF.next hv2,hv3,hv4⟩
end
@[go_sem] theorem Gt(a b c:Int):fill cS (cc 0 0 0) [(0,.int .i64 a),(1,.int .i64 b),(2,.int .i64 c)]=some (cc a b c):=rfl
def bdOf(L:Lf):Bd:=⟨L.fl.now,L.fl.disk,L.fl.stamp,L.n,L.a,L.b,L.c⟩
section
variable{cx:Cx}{h:HP}{n:Nat}{L:Lf}
theorem C8{x:SStep}(hl:HL cx)(hB:h.look (.obj n)=some ⟨tBed,(bdOf L).enc⟩)(hi:Inv0 L.fl)(hx:x.ok):
  Ok dH cx Fn.aH (St.enter [.ptr (.obj n) [] tBed,x.enc] h) fun v h'=>v=.int .i64 (eB L x)/\h'=h.ob n tBed (bdOf (lifeF L x)).enc:=by
 rw[aE]
 simp(disch:=omega)only[go_sem]
 by_cases c7:x.kind=7
 ·have eF:bdOf (lifeF L x)={bdOf L with disk:=(writeAs L.fl.now L.fl.disk x.p).1}:=by simp[lifeF,c7,bdOf]
  simp(disch:=omega)only[go_sem,c7]
  refine bK (v:=.bool (writeAs L.fl.now L.fl.disk x.p).2) (h.ob n tBed (Bd.enc {bdOf L with disk:=(writeAs L.fl.now L.fl.disk x.p).1})) rfl ⟨rfl,rfl⟩ rfl (by simp only[go_sem];exact sF (B:=bdOf L) (by exact hl) (by simp only[go_sem,hB])) ?_
  simp(disch:=omega)only[go_sem]
  cases cw:(writeAs L.fl.now L.fl.disk x.p).2 with
  |true=>
   simp(disch:=omega)only[go_sem,cw]
   rw[eF]
   exact⟨by simp[eB,c7,cw],rfl⟩
  |false=>
   simp(disch:=omega)only[go_sem,cw]
   rw[eF]
   exact⟨by simp[eB,c7,cw],rfl⟩
 by_cases c8:x.kind=8
 ·have eF:bdOf (lifeF L x)={bdOf L with disk:=mA L.fl.now L.fl.disk}:=by simp[lifeF,c8,bdOf]
  simp(disch:=omega)only[go_sem,c7,c8]
  refine bK (v:=.int .i64 (qw L.fl.now L.fl.disk)) (h.ob n tBed (Bd.enc {bdOf L with disk:=mA L.fl.now L.fl.disk})) rfl ⟨rfl,rfl⟩ rfl (by simp only[go_sem];exact DF (B:=bdOf L) (by exact hl) (by simp only[go_sem,hB])) ?_
  simp(disch:=omega)only[go_sem]
  rw[eF]
  exact⟨by simp[eB,c7,c8],rfl⟩
 by_cases c9:x.kind=9
 ·have eC:eB L x=check L.fl.disk:=by simp[eB,c7,c8,c9]
  have eD:(bdOf L).disk=L.fl.disk:=rfl
  simp(disch:=omega)only[go_sem,c7,c8,c9,hB,eD]
  refine am rfl ⟨rfl,rfl⟩ (by simp only[go_sem];exact upE (up (Ax (m:=L.fl.disk) hi.sd))) ?_
  simp(disch:=omega)only[go_sem]
  by_cases e:check L.fl.disk=0
  rotate_left
  ·simp(disch:=omega)only[go_sem,e]
   have:lifeF L x=L:=by simp[lifeF,c7,c8,c9,g9,e]
   rw[this,eC]
   exact⟨rfl,(eJ hB).symm⟩
  rw[vH e,vK e,vJ e,vI e]
  simp(disch:=omega)only[go_sem,e,hB,cN (hl _)]
  have eF:bdOf (lifeF L x)=⟨mended L.fl.disk,mended L.fl.disk,jS (mended L.fl.disk) 8,IntKind.i64.wrap ((bdOf L).crashes+1),lostF L.fl.disk 8,lostC L.fl.disk 8,lostD (mendI L.fl.disk 8) 9⟩:=by
   have:lifeF L x=g9 L:=by simp[lifeF,c7,c8,c9]
   rw[this]
   simp[g9,e,bdOf]
  rw[eF,eC,e]
  generalize mended L.fl.disk=M
  generalize IntKind.i64.wrap ((bdOf L).crashes+1)=N
  generalize((lostF L.fl.disk 8:Nat):Int)=A
  generalize((lostC L.fl.disk 8:Nat):Int)=B
  generalize((lostD (mendI L.fl.disk 8) 9:Nat):Int)=C
  refine fo 8 (fun k=>⟨[(0,.ptr (.obj n) [] tBed),(5,.ptr (.stk cx.lvl 5) [] ac),(8,.int .i64 k)],[(5,⟨ac,M.enc⟩)],h.ob n tBed (Bd.enc ⟨M,M,jS M k,N,A,B,C⟩)⟩) (by simp only[go_sem]<;>rfl) fun k hk ih=>?_
  by_cases hlt:k<8
  ·by_cases hm:jS M k<(M.ino k).stamp
   ·simp(disch:=omega)only[go_sem,hlt,hm,cN (hl _)]
    refine ih _ hlt ?_
    simp only[go_sem,jS,hm,if_true]
   ·simp(disch:=omega)only[go_sem,hlt,hm,cN (hl _)]
    refine ih _ hlt ?_
    simp only[go_sem,jS,hm,if_false]
  ·obtain rfl:k=8:=by omega
   simp(disch:=omega)only[go_sem]
 simp(disch:=omega)only[go_sem,c7,c8,c9]
 have eF:bdOf (lifeF L x)={bdOf L with now:=(doF L.fl x).now,stamp:=(doF L.fl x).stamp}:=by
  have:lifeF L x={L with fl:=doF L.fl x}:=by simp[lifeF,c7,c8,c9]
  rw[this]
  simp only[bdOf,nI]
 refine bK (v:=.int .i64 (doC L.fl x)) (h.ob n tBed (Bd.enc {bdOf L with now:=(doF L.fl x).now,stamp:=(doF L.fl x).stamp})) rfl ⟨rfl,rfl⟩ rfl (by simp only[go_sem];exact AC (B:=bdOf L) (by exact hl) (by simp only[go_sem,hB]) hi.wf hx.name hx.to hx.text) ?_
 simp(disch:=omega)only[go_sem]
 rw[eF]
 exact⟨by simp[eB,c7,c8,c9],rfl⟩
end
section
variable{cx:Cx}{h:HP}{n:Nat}{B:Bd}
theorem Da{d p:Int}(hB:h.look (.obj n)=some ⟨tBed,B.enc⟩)(hw:WF B.now)(hs:s.size<=9223372036854775807):
  Ok dH cx Fn.bZ (St.enter [.ptr (.obj n) [] tBed,.int .i64 d,.str s,.int .i64 p] h) fun v h'=>v=mR (readT B.now d s p) (readB B.now d s p) (readC B.now d s p)/\h'=h:=by
 rw[aE]
 simp(disch:=omega)only[go_sem]
 refine am rfl ⟨rfl,rfl⟩ (by simp only[go_sem];exact nO (x:=⟨6,d,0,p,s,⟨#[]⟩,⟨#[]⟩⟩) hs (Nat.zero_le _) (Nat.zero_le _)) ?_
 simp(disch:=omega)only[go_sem]
 by_cases c0:co ⟨6,d,0,p,s,⟨#[]⟩,⟨#[]⟩⟩=0
 rotate_left
 ·simp(disch:=omega)only[go_sem,c0]
  simp[readC,readB,readT,c0,mR]
 obtain⟨_,⟨d0,d3⟩,_,_,hp,_⟩:=e8 c0
 obtain⟨p0,p2⟩:=hp (.inr rfl)
 simp only at d0 d3 p0 p2
 simp(disch:=omega)only[go_sem,c0,hB]
 refine am rfl ⟨rfl,rfl⟩ (by simp only[go_sem];exact upE (up (gc (m:=B.now) (p:=.obj n) (q:=[0]) (ar _ _) (by rw[HP.push_rd_ext (ar _ _)];exact uf hB)))) ?_
 simp(disch:=omega)only[go_sem]
 rcases dW B.now d s with e|⟨k,k4,e,_⟩
 ·simp(disch:=omega)only[go_sem,e]
  simp[readC,readB,readT,c0,e,mR]
 have k0:¬(k:Int)<0:=by omega
 have i0:=(hw.1 d.toNat k).1
 have i8:=(hw.1 d.toNat k).2
 have q9:=(hw.2 (B.now.ent d.toNat k).ino.toNat p.toNat).2
 simp(disch:=omega)only[go_sem,e,k0,hB]
 by_cases c1:(B.now.ino (B.now.ent d.toNat k).ino.toNat).prt p.toNat<0
 ·simp(disch:=omega)only[go_sem,c1]
  simp[readC,readB,readT,sE,c0,e,k0,c1,mR]
 ·simp(disch:=omega)only[go_sem,c1,hB]
  simp[readC,readB,readT,sE,c0,e,k0,c1,mR]
theorem C9{d e:Int}{t:Str}(hB:h.look (.obj n)=some ⟨tBed,B.enc⟩):
  Ok dH cx Fn.eW (St.enter [.ptr (.obj n) [] tBed,.int .i64 d,.str s,.int .i64 e,.str t] h) fun v h'=>v=.bool (sameB B.now d s e t)/\h'=h:=by
 rw[aE]
 simp(disch:=omega)only[go_sem,hB]
 refine am rfl ⟨rfl,rfl⟩ (by simp only[go_sem];exact upE (up (gc (m:=B.now) (p:=.obj n) (q:=[0]) (ar _ _) (by rw[HP.push_rd_ext (ar _ _)];exact uf hB)))) ?_
 simp(disch:=omega)only[go_sem,hB]
 refine am rfl ⟨rfl,rfl⟩ (by simp only[go_sem];exact upE (up (gc (m:=B.now) (p:=.obj n) (q:=[0]) (ar _ _) (by rw[HP.push_rd_ext (ar _ _)];exact uf hB)))) ?_
 simp(disch:=omega)only[go_sem,hB]
 rcases dW B.now d s with e1|⟨k,k4,e1,d0,d3,_⟩
 ·simp(disch:=omega)only[go_sem,e1]
  simp[sameB,e1]
 rcases dW B.now e t with e2|⟨j,j4,e2,e0,e3,_⟩
 ·simp(disch:=omega)only[go_sem,e1,e2]
  simp[sameB,e1,e2]
 simp(disch:=omega)only[go_sem,e1,e2,hB]
 simp[sameB,e1,e2]
theorem C7{d:Int}(hB:h.look (.obj n)=some ⟨tBed,B.enc⟩):
  Ok dH cx Fn.eV (St.enter [.ptr (.obj n) [] tBed,.int .i64 d,.str s] h) fun v h'=>v=.bool (sureB B.now B.disk d s)/\h'=h:=by
 rw[aE]
 simp(disch:=omega)only[go_sem,hB]
 refine am rfl ⟨rfl,rfl⟩ (by simp only[go_sem];exact upE (up (gc (m:=B.now) (p:=.obj n) (q:=[0]) (ar _ _) (by rw[HP.push_rd_ext (ar _ _)];exact uf hB)))) ?_
 simp(disch:=omega)only[go_sem,hB]
 rcases dW B.now d s with e1|⟨k,k4,e1,d0,d3,_⟩
 ·simp(disch:=omega)only[go_sem,e1]
  simp[sureB,e1]
 simp(disch:=omega)only[go_sem,e1,hB]
 simp[sureB,e1]
 exact eq_comm
end
theorem zk{a b:UInt8}{r s:List UInt8}(e:show1 a++r=show1 b++s):a=b/\r=s:=by
 have h1:=qp (c:=a) (r:=r)
 have hl:∀c:UInt8,(show1 c).length=1/\show1 c=[c]/\c.toNat≠92\/(show1 c).length=3/\∃x y,show1 c=[92,x,y]/\si x y=some c:=by
  intro c
  unfold show1
  split
  ·rename_i hc;exact .inl ⟨rfl,rfl,hc.2.2⟩
  ·have hc:=c.toNat_lt
   refine .inr ⟨rfl,_,_,rfl,?_⟩
   unfold si
   rw[uo (by omega),uo (by omega)]
   simp only
   rw[show 16*(c.toNat/16)+c.toNat%16=c.toNat by omega,UInt8.ofNat_toNat]
 rcases hl a with⟨_,ea,na⟩|⟨_,x,y,ea,ha⟩<;>rcases hl b with⟨_,eb,nb⟩|⟨_,x',y',eb,hb⟩<;>rw[ea,eb]at e<;>simp only[List.cons_append,List.nil_append,List.cons.injEq]at e
 ·exact⟨e.1,e.2⟩
 ·exact absurd (by rw[e.1];rfl) na
 ·exact absurd (by rw[←e.1];rfl) nb
 ·obtain⟨_,rfl,rfl,e⟩:=e
  rw[ha]at hb
  exact⟨Option.some.inj hb,e⟩
theorem vh{y o:List UInt8}{rest:List UInt8}(e:y.flatMap show1=o.flatMap show1++rest):∃z,y=o++z/\z.flatMap show1=rest:=by
 induction o generalizing y with
 |nil=>exact⟨y,rfl,e⟩
 |cons c o ih=>
  cases y with
  |nil=>
   have:=congrArg List.length e
   have h1:1<=(show1 c).length:=by unfold show1;split<;>simp
   simp only[List.flatMap_nil,List.flatMap_cons,List.length_nil,List.length_append]at this
   omega
  |cons d y=>
   simp only[List.flatMap_cons,List.append_assoc]at e
   obtain⟨rfl,e2⟩:=zk e
   obtain⟨z,rfl,hz⟩:=ih e2
   exact⟨z,rfl,hz⟩
theorem xp{l o rest:List UInt8}(e:l=bS o++rest)(hr:rest≠[])(hn:∀c:UInt8,¬show1 c<+:rest):cL l=none:=by
 cases h:cL l with
 |none=>rfl
 |some y=>
  exfalso
  have hb:=xt h
  rw[e]at hb
  simp only[bS,List.cons_append,List.cons.injEq,true_and]at hb
  obtain⟨z,rfl,hz⟩:=vh hb
  cases z with
  |nil=>exact hr hz.symm
  |cons c z=>exact hn c ⟨z.flatMap show1,by rw[←hz];rfl⟩
theorem xq{l:List UInt8}(h:¬l.head?=some 61):cL l=none:=by rw[cL,if_neg h]
theorem xo{l o:List UInt8}(e:l=bS o):cL l=some o:=by rw[e,xr]
section
variable{cx:Cx}{h:HP}
theorem Aq{c:UInt8}:Ok lc cx Fn.dg (St.enter [.str (bsL [c])] h) fun v h'=>v=.str (bsL (61::show1 c))/\h'=h:=by
 have e:=rQ (cx:=cx) (h:=h) (s:=bsL [c]) (by rw[dm];simp)
 have:bS (bsL [c]).data.toList=61::show1 c:=by simp[bsL,bS]
 rw[this]at e
 exact e
theorem za{j:Nat}(hj:j<256):k7 (some [.int .u8 (j:Nat)])=some (.str (bsL [UInt8.ofNat j])):=by
 have e:=uS [UInt8.ofNat j]
 have:(ints [UInt8.ofNat j]).map (AV.int .u8)=[.int .u8 (j:Nat)]:=by simp[ints,Nat.mod_eq_of_lt hj]
 rw[this]at e
 exact e
theorem zg{l:List UInt8}{i:Nat}(hk:i+k<=l.length):f7 (bsL l) (some (i:Int)) (some ((i:Int)+(k:Int)))=some (.str (bsL ((l.drop i).take k))):=by
 rw[jf (by omega) (by omega) (by rw[dm];omega),Int.toNat_natCast,show((i:Int)+(k:Int)).toNat=i+k by omega]
 congr 2
 apply ByteArray.ext
 apply Array.ext
 ·simp[bsL]
 ·intro n h1 h2
  simp[bsL]
def zM(l:List UInt8)(h:HP)(o:List UInt8)(j:Nat)(a:Option UInt8):St:=match a with
 |none=>⟨[(0,.str (bsL l)),(4,.str (bsL o)),(5,.int .i64 ((bS o).length:Nat)),(6,.bool false),(7,.int .i64 (j:Nat))],[],h⟩
 |some u=>⟨[(0,.str (bsL l)),(4,.str (bsL (o++[u]))),(5,.int .i64 ((bS (o++[u])).length:Nat)),(6,.bool true),(7,.int .i64 (j:Nat))],[],h⟩
def mtP(rest:List UInt8)(j:Nat)(a:Option UInt8):Prop:=match a with
 |none=>∀c:UInt8,c.toNat<j->¬show1 c<+:rest
 |some u=>show1 u<+:rest
def F2(l:List UInt8)(h:HP)(o:List UInt8)(at_:Nat):St:=⟨[(0,.str (bsL l)),(4,.str (bsL o)),(5,.int .i64 (at_:Nat))],[],h⟩
theorem CK{l:List UInt8}(hs:l.length<=10000):Ok lc cx Fn.b9 (St.enter [.str (bsL l)] h) fun v h'=>v=qY l/\h'=h:=by
 have zl:=dm l
 rw[aE]
 cases l with
 |nil=>
  have f:cL []=none:=by decide
  have z0:(bsL []).size=0:=rfl
  simp(disch:=omega)only[go_sem,qY,f,z0,nL]
  rfl
 |cons c0 l=>
  have n0:¬(((c0::l).length:Nat):Int)=0:=by simp only[List.length_cons];omega
  by_cases c1:c0.toNat=61
  ·have c1':(c0.toNat:Int)=61:=by omega
   simp(disch:=omega)only[go_sem,zl,n0,c1']
   obtain rfl:c0=61:=UInt8.toNat_inj.1 c1
   refine gv ((61::l).length) (fun _ a=>F2 (61::l) h a ((bS a).length)) (fun j a=>j<=(bS a).length/\∃r,61::l=bS a++r) [] (by simp only[go_sem]<;>rfl) ⟨by simp,l,rfl⟩ fun j o hj hp ih=>?_
   obtain⟨p1,rest,p2⟩:=hp
   have pl:(61::l).length=(bS o).length+rest.length:=by rw[p2,List.length_append]
   have pz:=vj o
   simp only[F2]
   cases rest with
   |nil=>
    have f:cL (61::l)=some o:=xo (by rw[p2,List.append_nil])
    have q:¬(bS o).length<(61::l).length:=by simp only[List.length_nil]at pl;omega
    simp(disch:=omega)only[go_sem,zl,q,qY,f]
    rfl
   |cons c1 r=>
    have q:(bS o).length<(61::l).length:=by simp only[List.length_cons]at pl⊢;omega
    simp(disch:=omega)only[go_sem,zl,q]
    refine gv 256 (fun i a=>zM (61::l) h o i a) (fun i a=>mtP (c1::r) i a) none (by simp only[go_sem]<;>rfl) (fun c hc=>by omega) fun i a hi hpi ihi=>?_
    cases a with
    |some u=>
     simp only[mtP]at hpi
     obtain⟨r',hr'⟩:=hpi
     simp only[zM]
     have hx2:bS (o++[u])=bS o++show1 u:=by simp only[bS,List.flatMap_append,List.flatMap_cons,List.flatMap_nil,List.append_nil,List.cons_append]
     have hx:(bS (o++[u])).length=(bS o).length+(show1 u).length:=by rw[hx2,List.length_append]
     have hx1:1<=(show1 u).length:=by unfold show1;split<;>simp
     by_cases hi2:i<256
     all_goals (
      simp(disch:=omega)only[go_sem,hi2]
      refine ih _ (o++[u]) (by omega) ?_ ⟨?_,r',?_⟩
      ·simp only[go_sem,F2]
      ·rw[hx];omega
      ·rw[hx2,List.append_assoc,hr',p2])
    |none=>
     simp only[mtP]at hpi
     simp only[zM]
     by_cases hi2:i<256
     ·have ht:=za hi2
      generalize hu:UInt8.ofNat i=u at ht
      have hui:u.toNat=i:=by rw[←hu];simp[Nat.mod_eq_of_lt hi2]
      have hx2:bS (o++[u])=bS o++show1 u:=by simp only[bS,List.flatMap_append,List.flatMap_cons,List.flatMap_nil,List.append_nil,List.cons_append]
      have hx:(bS (o++[u])).length=(bS o).length+(show1 u).length:=by rw[hx2,List.length_append]
      have hx3:(show1 u).length<=3:=by unfold show1;split<;>simp
      have zu:=dm (show1 u)
      simp(disch:=omega)only[go_sem,hi2,ht]
      refine am rfl ⟨rfl,rfl⟩ (by simp only[go_sem];exact Aq) ?_
      simp(disch:=omega)only[go_sem]
      by_cases hfit:(bS o).length+(show1 u).length<=(61::l).length
      ·have hm:=zg (l:=61::l) hfit
       have hd:(61::l).drop (bS o).length=c1::r:=by rw[p2,List.drop_left]
       rw[hd]at hm
       have hfi:((bS o).length:Int)+((show1 u).length:Int)<=(((61::l).length:Nat):Int):=by omega
       by_cases hq:(c1::r).take (show1 u).length=show1 u
       ·rw[hq]at hm
        have hadd:=Ci (a:=o) (c:=u) (by omega)
        simp(disch:=omega)only[go_sem,zl,zu,hfi,hm,ht,hadd]
        refine ihi _ (some u) hi2 ?_ (List.prefix_iff_eq_take.2 hq.symm)
        simp only[go_sem,zM,hx,Int.natCast_add]
       ·have hqb:(bsL ((c1::r).take (show1 u).length)=bsL (show1 u))=False:=by rw[kK];exact eq_false hq
        simp(disch:=omega)only[go_sem,zl,zu,hfi,hm,hqb]
        refine ihi _ none hi2 ?_ (fun c hc hcp=>?_)
        ·simp only[go_sem,zM]
        ·by_cases hce:c.toNat=i
         ·obtain rfl:c=u:=UInt8.toNat_inj.1 (by omega)
          exact hq (List.prefix_iff_eq_take.1 hcp).symm
         ·exact hpi c (by omega) hcp
      ·have hfi:¬((bS o).length:Int)+((show1 u).length:Int)<=(((61::l).length:Nat):Int):=by omega
       simp(disch:=omega)only[go_sem,zl,zu,hfi]
       refine ihi _ none hi2 ?_ (fun c hc hcp=>?_)
       ·simp only[go_sem,zM]
       ·by_cases hce:c.toNat=i
        ·obtain rfl:c=u:=UInt8.toNat_inj.1 (by omega)
         have:=hcp.length_le
         omega
        ·exact hpi c (by omega) hcp
     ·have f:cL (61::l)=none:=xp p2 (by simp) (fun c=>hpi c (by have:=c.toNat_lt;omega))
      simp(disch:=omega)only[go_sem,hi2,qY,f,nL]
      rfl
  ·have f:cL (c0::l)=none:=xq (by simp only[List.head?_cons,Option.some.injEq];rintro rfl;exact c1 rfl)
   have c1':¬(c0.toNat:Int)=61:=by omega
   simp(disch:=omega)only[go_sem,zl,n0,c1',qY,f,nL]
   rfl
end
def mi(k:Nat)(f:Nat->List UInt8):List UInt8:=(List.range k).flatMap f
theorem f9(k:Nat)(f:Nat->List UInt8):mi (k+1) f=mi k f++f k:=by
 simp only[mi,List.range_succ,List.flatMap_append,List.flatMap_cons,List.flatMap_nil,List.append_nil]
theorem Af(f:Nat->List UInt8):mi 0 f=[]:=rfl
theorem fin_catN{g:Fin n->List UInt8}{f:Nat->List UInt8}(h:∀i:Fin n,g i=f i.val):(List.finRange n).flatMap g=mi n f:=by
 have:g=fun i=>f i.val:=funext h
 have e:(List.finRange n).map Fin.val=List.range n:=List.ext_getElem (by simp) fun i h1 h2=>by simp
 rw[this,mi,←e,List.flatMap_map]
theorem uU(m:Img):textL m=mi 8 (fun n=>inoL n (m.ino n))++mi 3 (fun d=>mi 4 fun s=>entL d s (m.ent d s))++mi 9 (fun x=>datL x (m.dat x)):=by
 unfold textL
 rw[fin_catN (f:=fun n=>inoL n (m.ino n)),fin_catN (f:=fun d=>mi 4 fun s=>entL d s (m.ent d s)),fin_catN (f:=fun x=>datL x (m.dat x))]
 ·intro i;show datL i.val m.data[i.val]=_;rw[B9]
 ·intro d;exact fin_catN fun s=>by show entL d.val s.val (m.dir[d.val])[s.val]=_;rw[B3]
 ·intro i;show inoL i.val m.inode[i.val]=_;rw[BA]
theorem dU{n:Int}(h:i64 n):(bz n).length<=21:=by
 obtain⟨h0,h1⟩:=h
 unfold bz Lib.itoa
 split
 ·have h3:=Lib.nDigits_le20 n.natAbs (by omega)
  simp only[List.length_cons,Lib.decDigits_length]
  have:(-n).toNat=n.natAbs:=by omega
  rw[←this]at h3
  first|omega|(simp only[this]at *;omega)
 ·rw[Lib.decDigits_length];exact Nat.le_trans (Lib.nDigits_le20 _ (by omega)) (by omega)
theorem oo(x:List UInt8):fj [x]=x++[10]:=by rw[fj,Lib.join_one]
theorem mL(x y:List UInt8)(r:List (List UInt8)):fj (x::y::r)=x++32::fj (y::r):=by
 simp only[fj,Lib.join_cons,Lib.joinTail,List.map_cons,List.flatten_cons,List.append_assoc,List.cons_append,List.nil_append]
theorem gn(h:n<100):i64 (n:Int):=⟨by omega,by omega⟩
theorem qy(h:m.slim)(n:Nat):i64 (m.ino n).stamp/\i64 (m.ino n).links/\i64 ((m.ino n).prt 0)/\i64 ((m.ino n).prt 1):=by
 unfold Img.ino
 split
 ·rename_i hn;exact h.1 ⟨n,hn⟩
 ·decide
theorem mZ(h:m.slim)(d s:Nat):i64 (m.ent d s).ino/\i64 (m.ent d s).stamp/\(m.ent d s).name.size<=10000:=by
 unfold Img.ent
 split
 ·rename_i hn;exact h.2.1 ⟨d,hn.1⟩ ⟨s,hn.2⟩
 ·decide
theorem qz(h:m.slim)(x:Nat):i64 (m.dat x).of/\(m.dat x).text.size<=10000:=by
 unfold Img.dat
 split
 ·rename_i hn;exact h.2.2 ⟨x,hn⟩
 ·decide
theorem yy(n:Nat)(i:Ino):inoL n i=if i.live then[105,110,111,100,101]++32::(bz n++32::(bz i.stamp++32::(bz i.links++32::(bz (i.prt 0)++32::(bz (i.prt 1)++[10])))))else[]:=by
 unfold inoL
 rw[show "inode".toUTF8.data.toList=[105,110,111,100,101]from rfl]
 simp only[mL,oo]
 rfl
theorem yF(d s:Nat)(e:Ent):entL d s e=if e.name.size≠0 then[101,110,116,114,121]++32::(bz d++32::(bz s++32::(e.name.data.toList++32::(bz e.ino++32::(bz e.stamp++[10])))))else[]:=by
 unfold entL
 rw[show "entry".toUTF8.data.toList=[101,110,116,114,121]from rfl]
 simp only[mL,oo]
theorem yK(x:Nat)(y:Dat):datL x y=if y.of≠0 then[100,97,116,97]++32::(bz x++32::(bz y.of++32::(bS y.text.data.toList++[10])))else[]:=by
 unfold datL
 rw[show "data".toUTF8.data.toList=[100,97,116,97]from rfl]
 simp only[mL,oo]
theorem vX(h:m.slim)(n:Nat)(hn:n<100):(inoL n (m.ino n)).length<=200:=by
 obtain⟨h1,h2,h3,h4⟩:=qy h n
 have:=dU h1;have:=dU h2;have:=dU h3;have:=dU h4;have:=dU (gn hn)
 rw[yy]
 split
 ·simp only[List.length_append,List.length_cons,List.length_nil];omega
 ·simp
theorem wt(h:m.slim)(d s:Nat)(hd:d<100)(hs:s<100):(entL d s (m.ent d s)).length<=10200:=by
 obtain⟨h1,h2,h3⟩:=mZ h d s
 have:=dU h1;have:=dU h2;have:=dU (gn hd);have:=dU (gn hs)
 rw[yF]
 split
 ·have:(m.ent d s).name.data.toList.length=(m.ent d s).name.size:=by simp
  simp only[List.length_append,List.length_cons,List.length_nil];omega
 ·simp
theorem ww(h:m.slim)(x:Nat)(hx:x<100):(datL x (m.dat x)).length<=30200:=by
 obtain⟨h1,h2⟩:=qz h x
 have:=dU h1;have:=dU (gn hx)
 rw[yK]
 split
 ·have:=kf (m.dat x).text.data.toList
  have:(m.dat x).text.data.toList.length=(m.dat x).text.size:=by simp
  simp only[List.length_append,List.length_cons,List.length_nil];omega
 ·simp
def mW(m:Img)(n:Nat):List UInt8:=mi n fun n=>inoL n (m.ino n)
def jK(m:Img)(d s:Nat):List UInt8:=mi s fun s=>entL d s (m.ent d s)
def ju(m:Img)(d:Nat):List UInt8:=mi d fun d=>jK m d 4
def kS(m:Img)(x:Nat):List UInt8:=mi x fun x=>datL x (m.dat x)
theorem nJ{f:Nat->List UInt8}(h:∀i,i<k->(f i).length<=c):(mi k f).length<=k*c:=by
 induction k with
 |zero=>simp[Af]
 |succ k ih=>
  rw[f9,List.length_append,Nat.add_mul,Nat.one_mul]
  have:=h k (by omega)
  have:=ih fun i hi=>h i (by omega)
  omega
theorem mV(h:m.slim)(hn:n<=8):(mW m n).length<=1600:=Nat.le_trans (nJ fun i hi=>vX h i (by omega)) (by omega)
theorem qv(h:m.slim){s:Nat}(hd:d<3)(hs:s<=4):(jK m d s).length<=40800:=Nat.le_trans (nJ fun i hi=>wt h d i (by omega) (by omega)) (by omega)
theorem uW(h:m.slim)(hd:d<=3):(ju m d).length<=122400:=Nat.le_trans (nJ fun i hi=>qv h (by omega) (Nat.le_refl _)) (by omega)
theorem uX(h:m.slim){x:Nat}(hx:x<=9):(kS m x).length<=271800:=Nat.le_trans (nJ fun i hi=>ww h i (by omega)) (by omega)
section
variable{cx:Cx}{h:HP}{p:Id}{q:List Nat}{m:Img}
theorem Ao(hb:p.below cx.lvl)(hm:h.rd p q=some m.enc)(hs:m.slim):Ok lc cx Fn.bx (St.enter [.ptr p q ac] h) fun v h'=>v=.str (bsL (textL m))/\h'=h:=by
 have k32:∀{a:List UInt8},a.length<=1000000->evStr .add (bsL a) ⟨#[32]⟩=some (.str (bsL (a++[32]))):=fun h=>cD (b:=[32]) (by simp;omega)
 have k10:∀{a:List UInt8},a.length<=1000000->evStr .add (bsL a) ⟨#[10]⟩=some (.str (bsL (a++[10]))):=fun h=>cD (b:=[10]) (by simp;omega)
 have ki:∀{b:List UInt8},b.length<=1000000->evStr .add ⟨#[105,110,111,100,101,32]⟩ (bsL b)=some (.str (bsL ([105,110,111,100,101,32]++b))):=fun h=>cD (a:=[105,110,111,100,101,32]) (by simp;omega)
 have ke:∀{b:List UInt8},b.length<=1000000->evStr .add ⟨#[101,110,116,114,121,32]⟩ (bsL b)=some (.str (bsL ([101,110,116,114,121,32]++b))):=fun h=>cD (a:=[101,110,116,114,121,32]) (by simp;omega)
 have kd:∀{b:List UInt8},b.length<=1000000->evStr .add ⟨#[100,97,116,97,32]⟩ (bsL b)=some (.str (bsL ([100,97,116,97,32]++b))):=fun h=>cD (a:=[100,97,116,97,32]) (by simp;omega)
 have kk:∀{a b:List UInt8},a.length+b.length<=1000000->evStr .add (bsL a) (bsL b)=some (.str (bsL (a++b))):=fun h=>cD (by omega)
 have z0:bsL []=⟨#[]⟩:=rfl
 rw[aE]
 simp(disch:=omega)only[go_sem]
 refine cm 8 (fun n=>⟨[(0,.ptr p q ac),(3,.str (bsL (mW m n))),(4,.int .i64 n)],[],h⟩) (fun _=>True) (by simp only[go_sem]<;>rfl) trivial fun n hn _ ih=>?_
 by_cases hlt:n<8
 ·have e:mW m (n+1)=mW m n++inoL n (m.ino n):=f9 _ _
  rw[yy]at e
  have L0:=mV hs (n:=n) (by omega)
  obtain⟨h1,h2,h3,h4⟩:=qy hs n
  have l1:=dU h1;have l2:=dU h2;have l3:=dU h3;have l4:=dU h4;have hn1:=gn (n:=n) (by omega);have l5:=dU hn1
  cases hl:(m.ino n).live with
  |false=>
   rw[hl]at e
   simp(disch:=omega)only[go_sem,hlt,aw hb,HP.rd_app hm,au hb,af hb,ah hb,hl]
   refine ih _ hlt trivial ?_
   simp only[go_sem,e,Bool.false_eq_true,if_false,List.append_nil]
  |true=>
   rw[hl]at e
   simp(disch:=omega)only[go_sem,hlt,aw hb,HP.rd_app hm,au hb,af hb,ah hb,hl]
   refine am rfl ⟨rfl,rfl⟩ (by simp only[go_sem];exact gu hn1) ?_
   simp(maxSteps:=999999) (disch:=first|omega|(simp only[List.length_append,List.length_cons,List.length_nil];omega))only[go_sem,aw hb,HP.rd_app hm,au hb,af hb,ah hb,k32,ki,kk]
   refine am rfl ⟨rfl,rfl⟩ (by simp only[go_sem];exact gu h1) ?_
   simp(maxSteps:=999999) (disch:=first|omega|(simp only[List.length_append,List.length_cons,List.length_nil];omega))only[go_sem,aw hb,HP.rd_app hm,au hb,af hb,ah hb,k32,ki,kk]
   refine am rfl ⟨rfl,rfl⟩ (by simp only[go_sem];exact gu h2) ?_
   simp(maxSteps:=999999) (disch:=first|omega|(simp only[List.length_append,List.length_cons,List.length_nil];omega))only[go_sem,aw hb,HP.rd_app hm,au hb,af hb,ah hb,k32,ki,kk]
   refine am rfl ⟨rfl,rfl⟩ (by simp only[go_sem];exact gu h3) ?_
   simp(maxSteps:=999999) (disch:=first|omega|(simp only[List.length_append,List.length_cons,List.length_nil];omega))only[go_sem,aw hb,HP.rd_app hm,au hb,af hb,ah hb,k32,ki,kk]
   refine am rfl ⟨rfl,rfl⟩ (by simp only[go_sem];exact gu h4) ?_
   simp(maxSteps:=999999) (disch:=first|omega|(simp only[List.length_append,List.length_cons,List.length_nil];omega))only[go_sem,aw hb,HP.rd_app hm,au hb,af hb,ah hb,k32,k10,ki,kk]
   refine ih _ hlt trivial ?_
   simp only[go_sem,e,if_true,List.append_assoc,List.cons_append,List.nil_append]
 ·obtain rfl:n=8:=by omega
  have L8:=mV hs (n:=8) (by omega)
  generalize hA:mW m 8=A at L8
  have kn:∀{a:List UInt8} {d s:Nat},a.length<=400000->evStr .add (bsL a) (m.ent d s).name=some (.str (bsL (a++(m.ent d s).name.data.toList))):=fun{a d s} h=>by
   have:=(mZ hs d s).2.2
   have e:(m.ent d s).name=bsL (m.ent d s).name.data.toList:=rfl
   have e2:(m.ent d s).name.data.toList.length=(m.ent d s).name.size:=by simp
   rw[e]
   exact cD (by rw[e2];omega)
  simp(disch:=omega)only[go_sem]
  refine cm 3 (fun d=>⟨[(0,.ptr p q ac),(3,.str (bsL (A++ju m d))),(6,.int .i64 d)],[],h⟩) (fun _=>True) (by rw[show ju m 0=[]from rfl,List.append_nil];simp only[go_sem]<;>rfl) trivial fun d hd _ ih=>?_
  have L1:=uW hs (d:=d) (by omega)
  by_cases hlt:d<3
  ·simp(disch:=omega)only[go_sem,hlt]
   refine cm 4 (fun s=>⟨[(0,.ptr p q ac),(3,.str (bsL (A++ju m d++jK m d s))),(6,.int .i64 d),(7,.int .i64 s)],[],h⟩) (fun _=>True) (by rw[show jK m d 0=[]from rfl,List.append_nil];simp only[go_sem]<;>rfl) trivial fun s hs4 _ ih'=>?_
   have L2:=qv hs (d:=d) (s:=s) hlt (by omega)
   by_cases hlt':s<4
   ·have e:jK m d (s+1)=jK m d s++entL d s (m.ent d s):=f9 _ _
    rw[yF]at e
    obtain⟨h1,h2,h3⟩:=mZ hs d s
    have l1:=dU h1;have l2:=dU h2;have hn1:=gn (n:=d) (by omega);have l3:=dU hn1;have hn2:=gn (n:=s) (by omega);have l4:=dU hn2
    have l5:(m.ent d s).name.data.toList.length=(m.ent d s).name.size:=by simp
    by_cases hl:(m.ent d s).name=⟨#[]⟩
    ·rw[if_neg (by rw[hl];decide)]at e
     simp(disch:=omega)only[go_sem,hlt,hlt',aw hb,HP.rd_app hm,au hb,af hb,ah hb,hl]
     refine ih' _ hlt' trivial ?_
     simp only[go_sem,e,List.append_nil]
    ·rw[if_pos (fun h=>hl (by apply ByteArray.ext;exact Array.eq_empty_of_size_eq_zero h))]at e
     simp(disch:=omega)only[go_sem,hlt,hlt',aw hb,HP.rd_app hm,au hb,af hb,ah hb,hl]
     refine am rfl ⟨rfl,rfl⟩ (by simp only[go_sem];exact gu hn1) ?_
     simp(maxSteps:=999999) (disch:=first|omega|(simp only[List.length_append,List.length_cons,List.length_nil];omega))only[go_sem,aw hb,HP.rd_app hm,au hb,af hb,ah hb,k32,ke,kk,kn]
     refine am rfl ⟨rfl,rfl⟩ (by simp only[go_sem];exact gu hn2) ?_
     simp(maxSteps:=999999) (disch:=first|omega|(simp only[List.length_append,List.length_cons,List.length_nil];omega))only[go_sem,aw hb,HP.rd_app hm,au hb,af hb,ah hb,k32,ke,kk,kn]
     refine am rfl ⟨rfl,rfl⟩ (by simp only[go_sem];exact gu h1) ?_
     simp(maxSteps:=999999) (disch:=first|omega|(simp only[List.length_append,List.length_cons,List.length_nil];omega))only[go_sem,aw hb,HP.rd_app hm,au hb,af hb,ah hb,k32,ke,kk,kn]
     refine am rfl ⟨rfl,rfl⟩ (by simp only[go_sem];exact gu h2) ?_
     simp(maxSteps:=999999) (disch:=first|omega|(simp only[List.length_append,List.length_cons,List.length_nil];omega))only[go_sem,aw hb,HP.rd_app hm,au hb,af hb,ah hb,k32,k10,ke,kk,kn]
     refine ih' _ hlt' trivial ?_
     simp only[go_sem,e,if_true,List.append_assoc,List.cons_append,List.nil_append]
   ·obtain rfl:s=4:=by omega
    simp(disch:=omega)only[go_sem]
    refine ih _ hlt trivial ?_
    have e:ju m (d+1)=ju m d++jK m d 4:=f9 _ _
    simp only[go_sem,e,List.append_assoc]
  ·obtain rfl:d=3:=by omega
   simp(disch:=omega)only[go_sem]
   generalize hB:ju m 3=B at L1
   refine cm 9 (fun x=>⟨[(0,.ptr p q ac),(3,.str (bsL (A++B++kS m x))),(9,.int .i64 x)],[],h⟩) (fun _=>True) (by rw[show kS m 0=[]from rfl,List.append_nil];simp only[go_sem]<;>rfl) trivial fun x hx _ ih=>?_
   have L3:=uX hs (x:=x) (by omega)
   by_cases hlt:x<9
   ·have e:kS m (x+1)=kS m x++datL x (m.dat x):=f9 _ _
    rw[yK]at e
    obtain⟨h1,h2⟩:=qz hs x
    have l1:=dU h1;have hn1:=gn (n:=x) (by omega);have l3:=dU hn1
    have l4:=kf (m.dat x).text.data.toList
    have l5:(m.dat x).text.data.toList.length=(m.dat x).text.size:=by simp
    by_cases hl:(m.dat x).of=0
    ·rw[if_neg (fun h=>h hl)]at e
     simp(disch:=omega)only[go_sem,hlt,aw hb,HP.rd_app hm,au hb,af hb,ah hb,hl]
     refine ih _ hlt trivial ?_
     simp only[go_sem,e,List.append_nil]
    ·rw[if_pos hl]at e
     simp(disch:=omega)only[go_sem,hlt,aw hb,HP.rd_app hm,au hb,af hb,ah hb,hl]
     refine am rfl ⟨rfl,rfl⟩ (by simp only[go_sem];exact gu hn1) ?_
     simp(maxSteps:=999999) (disch:=first|omega|(simp only[List.length_append,List.length_cons,List.length_nil];omega))only[go_sem,aw hb,HP.rd_app hm,au hb,af hb,ah hb,k32,kd,kk]
     refine am rfl ⟨rfl,rfl⟩ (by simp only[go_sem];exact gu h1) ?_
     simp(maxSteps:=999999) (disch:=first|omega|(simp only[List.length_append,List.length_cons,List.length_nil];omega))only[go_sem,aw hb,HP.rd_app hm,au hb,af hb,ah hb,k32,kd,kk]
     refine am rfl ⟨rfl,rfl⟩ (by simp only[go_sem];exact rQ (by omega)) ?_
     simp(maxSteps:=999999) (disch:=first|omega|(simp only[List.length_append,List.length_cons,List.length_nil];omega))only[go_sem,aw hb,HP.rd_app hm,au hb,af hb,ah hb,k32,k10,kd,kk]
     refine ih _ hlt trivial ?_
     simp only[go_sem,e,List.append_assoc,List.cons_append,List.nil_append]
   ·obtain rfl:x=9:=by omega
    simp(disch:=omega)only[go_sem]
    rw[uU,←hA,←hB,List.append_assoc]
    rfl
end
end Go.Mini
