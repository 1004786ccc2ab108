/- A part of the proof: what Dj computes, step by step. -/
import Derived.Test.YtpkndgkaecamlabGreatDoorDjPe
import Derived.ChangeSame
import Derived.Carry
import Derived.OpenShut
import Derived.ProofKit
import Derived.WalkKit
import Derived.Deep.Slices
import Derived.Deep.Fields1
import Derived.Lib.ItoaLen
import Derived.Lib.AtoiAll
import Derived.Lib.SplitLaws
import Derived.Lib.Bytealg
import Derived.Lib.AtoiAllCases

set_option linter.unusedVariables false
set_option linter.unusedSimpArgs false
set_option maxHeartbeats 8000000
set_option maxRecDepth 100000
set_option linter.unusedSectionVars false
set_option linter.unnecessarySimpa false
namespace Go.Mini
open Go.RowKit Go.ChangeShapes
section
variable {H : Type} {enc : TypeId × Value → H} {P : Program}
theorem trodAll_stays (hl : laidOutB P = true) {W W' : World} {sp : Nat → Bool} (hB : Below W.heap.size W W') : ∀ {ts : List TypeId} {vs : List Value} {ds : List (DataW H)} {ps : List MemPlace},
  (∀ t ∈ ts,P.readableRec t = true ∧ t < P.types.size) → DataW.TrodAll enc P W 0 (fun _=>true) true ts vs ds ps → (∀ p ∈ ps,p.block < W.heap.size) → (∀ p ∈ ps,sp p.block = true) →
  DataW.TrodAll enc P W' 0 sp true ts vs ds ps
 | [],vs,ds,ps,_,h,_,_=>by
  obtain ⟨rfl,rfl,rfl⟩:=trodAll_nil h
  exact trodAll_mk0
 | t :: ts,vs,ds,ps,ht,h,h1,h2=>by
  obtain ⟨v,vs',d,ds',p,q,rfl,rfl,rfl,h3,h4⟩:=trodAll_cons h
  exact ⟨p,q,WideElems.Trod_stays hl (ht t List.mem_cons_self).1 (ht t List.mem_cons_self).2 h3 (fun x hx=>hB.same (h1 x (List.mem_append_left _ hx))) (fun x hx=>h2 x (List.mem_append_left _ hx)),
   trodAll_stays hl hB (fun t' ht'=>ht t' (List.mem_cons_of_mem _ ht')) h4 (fun x hx=>h1 x (List.mem_append_right _ hx)) (fun x hx=>h2 x (List.mem_append_right _ hx)),rfl⟩
theorem law_post {f : Func} {s : ChangeSpec} {tb : TypeId} {W W' : World} {args : Array Value} {ds gs : List (DataW H)} {before : List MemPlace} (hl : laidOutB P = true) (hts : ∀ t ∈ f.params.toList,P.readableRec t = true ∧ t < P.types.size)
  (hv : s.vars = []) (hr : f.resultTypes = #[tb]) (hb : P.underlying tb = some .bool)
  (hW : DataW.Whole enc P f.params.toList s.vars false W args.toList ds gs before) (hs : s.fn H ds = { results:=[.lit (.bool true)],args:=ds }) (hB : Below W.heap.size W W') :
  s.post enc P f false true false false W args (.bool true) W':=by
 have hlt:=hW.lt
 obtain ⟨p,q,hA,hV,rfl,hfz,hnd⟩:=id hW
 rw [hv] at hV
 obtain ⟨rfl,rfl⟩:=trodVars_none hV
 refine ⟨ds,[],p ++ [],[],p,[],hW,?_,?_,?_,hB.frame _,fun h=>by cases h⟩
 ·rw [hr,List.append_nil,hs]
  exact trodAll_cons_mk (shut_bool hb _) trodAll_mk0
 ·rw [List.append_nil,hs]
  exact trodAll_stays hl hB hts hA (fun x hx=>hlt x (by simpa using hx)) (fun x hx=>by simpa using hlt x (by simpa using hx))
 ·rw [hv,List.append_nil,hs]
  rfl
end
theorem dec_int {v : AV} (h : tI.fits v = true) : ∃ n,v = .int .i64 n:=by
 cases v <;> simp [tI,Ty.fits,LK.fits,AV.safe] at h
 subst h; exact ⟨_,rfl⟩
theorem dec_str {v : AV} (h : tS.fits v = true) : ∃ n,v = .str n:=by
 cases v <;> simp [tS,Ty.fits,LK.fits,AV.safe] at h
 exact ⟨_,rfl⟩
open Go.RowKit Go.ChangeShapes
def HP.args (f : Nat → Option Blk) : HP:=⟨fun _=>[],fun _=>none,0,f⟩
def betaA (g : Nat → Option Place) : Beta
 | .arg n=>g n
 | _=>none
def elemOk (P : Program) (ks : List LK) (e : TypeId) : Bool :=
 match P.underlying e with
 | some (.struct fs)=>Go.Deep.oneCellFields P fs && (P.cellsOf e == fs.size) && (fs.toList.map (fun f=>kindOf (P.underlying f.type)) == ks.map some)
 | d=>(P.cellsOf e == 1) && (match kindOf d with | some k=>ks == [k] | none=>false)
section
variable {H : Type} {enc : TypeId × Value → H} {P : Program} {w : World} {base : Nat} {spare : Nat → Bool} {held : Bool} {φ : Nat → Option FuncId} {β : Beta}
theorem wf_has {k : IntKind} {n : Int} (h : (Lit.int k n).wf = true) : k.has n:=by
 simp only [Lit.wf,Bool.and_eq_true,decide_eq_true_eq] at h
 exact h
theorem maxLen_le {n : Nat} (h : n ≤ maxLen) : (n : Int) ≤ IntKind.i64.max:=by
 have : IntKind.i64.max = 2 ^ 63 - 1:=by decide
 rw [this]
 unfold maxLen at h
 omega
theorem leaf_trod {u : TypeId} {k : LK} {n : Nat} {cs : List Value} {y : DataW H × List MemPlace} (hk : kindOf (P.underlying u) = some k) (h : DataW.trod enc P w base spare held n u cs = some y) : ∃ x,cs = [x] ∧ okCell k x:=by
 unfold kindOf at hk
 split at hk <;> simp at hk <;> subst hk <;> rename_i hu
 ·cases n with
  | zero=>simp [DataW.trod] at h
  | succ n =>
   unfold DataW.trod at h
   rw [hu] at h
   match cs,h with
   | [.bool b],_=>exact ⟨_,rfl,b,rfl⟩
 ·obtain ⟨s,rfl,_,hs⟩:=DataW.trod_string hu h
  exact ⟨_,rfl,s,rfl,maxLen_le hs⟩
 ·obtain ⟨m,rfl,_,hs⟩:=DataW.trod_int hu h
  exact ⟨_,rfl,m,rfl,wf_has hs⟩
theorem elem_trod {e : TypeId} {ks : List LK} {n : Nat} {cs : List Value} {y : DataW H × List MemPlace} (hk : elemOk P ks e = true) (h : DataW.trod enc P w base spare held n e cs = some y) : All2 okCell ks cs:=by
 unfold elemOk at hk
 split at hk
 ·rename_i fs hu
  simp only [Bool.and_eq_true,beq_iff_eq] at hk
  obtain ⟨⟨h1,h2⟩,h3⟩:=hk
  obtain ⟨xs,m,rfl,rfl,hl,hxl,hf⟩:=DataW.trod_struct hu h
  have hone:=Go.Deep.hone_of h1
  have hkl : ks.length = fs.size:=by simpa using (congrArg List.length h3).symm
  refine ⟨by omega,fun i k x hi hx=>?_⟩
  have hi' : i < fs.size:=by
   rcases Nat.lt_or_ge i ks.length with h | h
   ·omega
   ·rw [List.getElem?_eq_none h] at hi; simp at hi
  have hfi : fs[i]? = some fs[i]:=Array.getElem?_eq_getElem hi'
  obtain ⟨ho,hc1⟩:=hone i _ hfi
  have g:=hf i _ hfi
  rw [ho,hc1,Go.Deep.take1_drop cs i undef (by omega),List.getElem?_eq_getElem (by omega)] at g
  have hki : kindOf (P.underlying fs[i].type) = some k:=by
   have:=congrArg (fun l=>l[i]?) h3
   simp only [List.getElem?_map,hi,Array.getElem?_toList,hfi,Option.map_some] at this
   simpa using this
  obtain ⟨x',e1,e2⟩:=leaf_trod hki g
  have : cs.getD i undef = x:=by simp [List.getD,hx]
  rw [this] at e1
  simp at e1
  subst e1; exact e2
 ·simp only [Bool.and_eq_true,beq_iff_eq] at hk
  obtain ⟨_,hk⟩:=hk
  cases hq : kindOf (P.underlying e) with
  | none=>rw [hq] at hk; simp at hk
  | some k =>
   rw [hq] at hk
   simp at hk
   subst hk
   obtain ⟨x,rfl,hx⟩:=leaf_trod hq h
   exact All2.cons hx All2.nil
variable [Tk]
structure SliceAt [Tk] (φ : Nat → Option FuncId) (W : World) (t : Ty) (l : List AV) (x : Value) (pl : Place) : Prop where
 ty : pl.ty = .arr l.length t
 val : ∀ (g : Nat → Option Place) n,g n = some pl → VR φ (betaA g) (.sl (.arg n) 0 l.length) x
 blk : ∀ (g : Nat → Option Place) (O : Nat → Prop) n,g n = some pl → ∃ cs T fr,BR φ (betaA g) O (.arg n) ⟨.arr l.length t,.ofList l⟩ W pl cs T fr
theorem fits_ofList {t : Ty} {l : List AV} (h : ∀ v ∈ l,t.fits v = true) : (Ty.arr l.length t).fits (.ofList l) = true:=by
 simp only [AV.ofList,Ty.fits,beq_self_eq_true,Bool.true_and,List.all_eq_true]
 exact fun i _=>h _ (List.get_mem ..)
theorem given_slice {t : Ty} {U e : TypeId} {r : Reach} {b : Nat} {x : Value} {d : DataW H} {ps : List MemPlace} (hu : P.underlying U = some (.slice e)) (hk : elemOk P t.kinds e = true) (hs : P.cellsOf e = t.size) (hp : 0 < t.size)
  (hok : Value.okWide P w r b U x) (h : DataW.Trod enc P w 0 (fun _=>true) true U x d ps) :
  ∃ l : List AV,(∀ v ∈ l,t.fits v = true ∧ v.ranged) ∧ ((l = [] ∧ (x = .slice none 0 0 ∨ ∃ a cap,x = .slice (some a) 0 cap)) ∨ ∃ pl,SliceAt φ w t l x pl):=by
 obtain ⟨fuel,h⟩:=h
 have hx : Cell.okWide P w r b U x:=by unfold Value.okWide at hok; rw [hu] at hok; exact hok
 have hx' : Cell.ok P w r b U x:=by
  unfold Cell.okWide at hx
  rw [hu] at hx
  cases x <;> exact hx
 have hx'' : x = .slice none 0 0 ∨ ∃ a len cap,x = .slice (some a) len cap ∧ len ≤ cap ∧ a.spot = none:=by
  unfold Cell.ok at hx'
  rw [hu] at hx'
  cases x with
  | slice a len cap =>
   cases a with
   | none =>
    cases len <;> cases cap <;> simp at hx'
    exact .inl rfl
   | some a=>exact .inr ⟨a,len,cap,rfl,hx'.1,hx'.2.2.2.1⟩
  | _=>simp at hx'
 rcases hx'' with rfl | ⟨a,len,cap,rfl,hlc,hspot⟩
 ·exact ⟨[],by simp,.inl ⟨rfl,.inl rfl⟩⟩
 by_cases h0 : len = 0
 ·subst h0
  exact ⟨[],by simp,.inl ⟨rfl,.inr ⟨a,cap,rfl⟩⟩⟩
 rcases Go.Deep.open_slice hu h with ⟨h1,_⟩ | ⟨a',len',cap',m,n,D,Pl,h1,_,_,hcm,hm,_,hel⟩
 ·simp [Value.cells] at h1
 simp [Value.cells] at h1
 obtain ⟨rfl,rfl,rfl⟩:=h1
 simp only [if_true] at hm
 subst hm
 rw [hs] at hel
 obtain ⟨br,off,spot⟩:=a
 simp only at hspot
 subst hspot

 obtain ⟨cs0,hc0,_⟩:=hel 0 (by omega)
 obtain ⟨_,hl0,hcell0⟩:=World.cells?_some hc0
 have hb0:=hcell0 0 hp
 rw [List.getElem?_eq_getElem (by omega)] at hb0
 obtain ⟨cs,T,fr,hheap⟩ : ∃ cs T fr,w.heap[br]? = some (.cells cs T fr):=by
  have hblk : ((Addr.mk br off none).add (0 * t.size)).add 0 = ⟨br,off,none⟩:=by simp [Addr.add]
  rw [hblk] at hb0
  unfold World.cell? at hb0
  split at hb0
  ·exact ⟨_,_,_,by assumption⟩
  ·simp at hb0
 have hcell : ∀ i,i < m → ∀ k,k < t.size → ∀ ci,w.cells? 0 ((Addr.mk br off none).add (i * t.size)) t.size = some ci → cs[off + i * t.size + k]? = ci[k]?:=by
  intro i hi k hkt ci hci
  obtain ⟨_,hl,hcell⟩:=World.cells?_some hci
  rw [← hcell k hkt]
  have : ((Addr.mk br off none).add (i * t.size)).add k = ⟨br,off + i * t.size + k,none⟩:=by
   unfold Addr.add
   by_cases e1 : i * t.size = 0 <;> by_cases e2 : k = 0 <;> simp [e1,e2]
  rw [this]
  simp [World.cell?,hheap]
 obtain ⟨V,hV⟩:=Go.Deep.choose_lt (α:=AV) (n:=len) (p:=fun i v=>t.fits v = true ∧ v.ranged ∧ ∀ (β : Beta) k c,v.flat[k]? = some c → ∃ x,cs[off + i * t.size + k]? = some x ∧ LR φ β c x) (fun i hi=>by
  obtain ⟨ci,hci,hti⟩:=hel i (by omega)
  obtain ⟨_,hlci,_⟩:=World.cells?_some hci
  obtain ⟨v,hf,hl,hr⟩:=build (φ:=φ) (β:=fun _=>none) t ci (elem_trod hk hti)
  refine ⟨v,hf,hr,fun β k c hc=>?_⟩
  have hkt : k < t.size:=by
   rcases Nat.lt_or_ge k v.flat.length with h | h
   ·rw [Ty.fits_length hf] at h; exact h
   ·rw [List.getElem?_eq_none h] at hc; simp at hc
  refine ⟨ci[k]'(by omega),?_,?_⟩
  ·rw [hcell i (by omega) k hkt ci hci,List.getElem?_eq_getElem (by omega)]
  ·have:=hl.2 k c _ hc (List.getElem?_eq_getElem (by omega))
   exact LR_congr (fun i pl _ h=>by simp at h) this)
 refine ⟨(List.range len).map V,fun v hv=>?_,.inr ⟨⟨br,off,.arr len t,m * t.size⟩,by simp,fun g n hg=>?_,fun g O n hg=>⟨cs,T,fr,?_⟩⟩⟩
 ·obtain ⟨i,hi,rfl⟩:=List.mem_map.1 hv
  obtain ⟨h1,h2,_⟩:=hV i (List.mem_range.1 hi)
  exact ⟨h1,h2⟩
 ·refine VR_of_VR1 ?_
  simp only [VR1,AV.isAgg,Bool.false_eq_true,if_false,LR,AV.rel,List.length_map,List.length_range]
  exact ⟨_,len,t,m,hg,rfl,by omega,by omega,by simp,by simp⟩
 ·have hfits : (Ty.arr ((List.range len).map V).length t).fits (.ofList ((List.range len).map V)) = true:=fits_ofList fun v hv=>by
   obtain ⟨i,hi,rfl⟩:=List.mem_map.1 hv
   exact (hV i (List.mem_range.1 hi)).1
  refine ⟨hg,by simp,hfits,hheap,?_,?_,?_,fun h=>by simp [Id.isArg] at h,fun h=>by simp [Id.isArg] at h⟩
  ·
   obtain ⟨ci,hci,_⟩:=hel (m - 1) (by omega)
   obtain ⟨_,hlci,_⟩:=World.cells?_some hci
   have:=hcell (m - 1) (by omega) (t.size - 1) (by omega) ci hci
   rw [List.getElem?_eq_getElem (by omega)] at this
   obtain ⟨hlt,_⟩:=Array.getElem?_eq_some_iff.1 this
   show off + m * t.size ≤ cs.size
   have e : m * t.size = (m - 1) * t.size + t.size:=by
    have : m = (m - 1) + 1:=by omega
    calc m * t.size = ((m - 1) + 1) * t.size:=by rw [← this]
     _ = _:=by rw [Nat.add_mul,Nat.one_mul]
   omega
  ·simp only [Ty.size,List.length_map,List.length_range]
   exact Nat.mul_le_mul_right _ hlc
  ·intro k c hc
   have hflat : (AV.ofList ((List.range len).map V)).flat = (List.range len).flatMap fun i=>(V i).flat:=by
    rw [arr_flat,List.flatMap_map]
   rw [hflat] at hc
   have hlen : ∀ i ∈ List.range len,((V i).flat).length = t.size:=fun i hi=>Ty.fits_length (hV i (List.mem_range.1 hi)).1
   have hk : k / t.size < len:=by
    have hkl : k < ((List.range len).flatMap fun i=>(V i).flat).length:=by
     rcases Nat.lt_or_ge k ((List.range len).flatMap fun i=>(V i).flat).length with h | h
     ·exact h
     ·rw [List.getElem?_eq_none h] at hc; simp at hc
    have hll : ((List.range len).flatMap fun i=>(V i).flat).length = len * t.size:=by
     rw [List.length_flatMap,List.map_congr_left hlen,List.map_const',List.sum_replicate_nat,List.length_range]
    rw [hll] at hkl
    exact (Nat.div_lt_iff_lt_mul hp).2 hkl
   have e:=getElem?_flatMap_const (List.range len) (fun i=>(V i).flat) t.size hlen (k / t.size) (by simpa using hk) (k % t.size) (Nat.mod_lt _ hp)
   have ek : k / t.size * t.size + k % t.size = k:=by rw [Nat.mul_comm]; exact Nat.div_add_mod k t.size
   rw [ek] at e
   rw [e] at hc
   simp only [List.getElem_range] at hc
   obtain ⟨y,hy,hyl⟩:=(hV (k / t.size) hk).2.2 (betaA g) (k % t.size) c hc
   refine ⟨y,?_,hyl⟩
   show cs[off + k]? = some y
   rw [← hy]
   congr 1
   omega
end
section
variable {P : Program} {T : Nat → Option MFun}
theorem law_runA {φ : Nat → Option FuncId} {fuel F f : Nat} {fn : MFun} {args : List AV} {rargs : List Value} {v : AV} {hp : HP} {bf : Nat → Option Blk} {g : Nat → Option Place} {Cond : World → Prop} (hT : ∀ W,Cond W → @TblOk (fixAt P W) P T φ drawOk) (hmo : P.follows .mixedOrders = true) (hf : T f = some fn) (hF : φ f = some F) (hfree : fn.nfree = 0)
  (hrun : runFn T fuel f args (HP.args bf) = some (v,hp)) (hlen : args.length = fn.params) (ha : All2 (VR φ (betaA g)) args rargs) (W : World) (hC : Cond W)
  (hB : ∀ n b,bf n = some b → ∃ pl cs T fr,@BR (fixAt P W).toTk φ (betaA g) (fun r=>W.heap.size ≤ r) (.arg n) b W pl cs T fr) :
  Calls P F rargs.toArray W fun e W'=>(∃ x β',e = .returned x ∧ VR φ β' v x) ∧ Below W.heap.size W W':=by
 unfold runFn at hrun
 rw [hf] at hrun
 simp only at hrun
 cases hr : run T fuel ⟨0,⟨0,0⟩⟩ [.code fn.body] (St.enter args (HP.args bf)) with
 | none=>simp [hr] at hrun
 | some s2 =>
  simp only [hr,Option.map_eq_some_iff] at hrun
  obtain ⟨v',hv,he⟩:=hrun
  simp at he
  obtain ⟨rfl,_⟩:=he
  have hst : ∀ i b,(HP.args bf).look i = some b → ∃ n,i = .arg n ∧ bf n = some b:=by
   intro i b hb
   cases i with
   | stk l t=>simp [HP.args,HP.look,Own.get] at hb
   | obj n=>simp [HP.args,HP.look] at hb
   | arg n=>exact ⟨n,rfl,hb⟩
  letI : Fix:=fixAt P W
  have:=callSim (hT W hC) (drawSound (hT W hC) hmo) fuel fn F (hT W hC f fn F hf hF) ⟨0,⟨0,0⟩⟩ args (HP.args bf) s2 v' (betaA g) (fun r=>W.heap.size ≤ r) rargs W hr hv (by simp [hlen,hfree]) ha
   ⟨fun i b hb=>by obtain ⟨n,rfl,h⟩:=hst i b hb; exact hB n b h,fun i j bi bj pi pj hi hj _ _ _ _=>by
    obtain ⟨n,rfl,_⟩:=hst i bi hi
    obtain ⟨m,rfl,_⟩:=hst j bj hj
    exact ⟨rfl,rfl⟩⟩ (fun i pl h=>by cases i <;> simp [betaA] at h <;> trivial) (fun _ _=>rfl) (fun r h=>h) (fixAt_I P W)
  refine this.mono fun e W' h=>?_
  obtain ⟨x,β',rfl,hvx,_,hA⟩:=h
  exact ⟨⟨x,β',rfl,hvx⟩,hA.same.os,hA.same.tape,hA.same.output,hA.same.size,fun k hk=>hA.same.block k hk (by omega)⟩
theorem law_callsS {φ : Nat → Option FuncId} {F f : Nat} {fn : MFun} {bf : Nat → Option Blk} {g : Nat → Option Place} {Cond : World → Prop} (hT : ∀ W,Cond W → @TblOk (fixAt P W) P T φ drawOk) (hmo : P.follows .mixedOrders = true) (hf : T f = some fn) (hF : φ f = some F) (hfree : fn.nfree = 0)
  {args : Array Value} {avs : List AV} (W : World) (hC : Cond W) (ha : All2 (VR φ (betaA g)) avs args.toList) (hlen : avs.length = fn.params) (hB : ∀ n b,bf n = some b → ∃ pl cs T fr,@BR (fixAt P W).toTk φ (betaA g) (fun r=>W.heap.size ≤ r) (.arg n) b W pl cs T fr)
  (h : Ok T ⟨0,⟨0,0⟩⟩ fn (St.enter avs (HP.args bf)) fun v _=>v = .bool true) :
  Calls P F args W fun e W'=>e = .returned (.bool true) ∧ Below W.heap.size W W':=by
 obtain ⟨n,s',v,hr,hv,rfl⟩:=h
 have hr' : runFn T n f avs (HP.args bf) = some (.bool true,s'.hp):=by simp only [runFn,hf,hr,hv]; rfl
 have:=law_runA hT hmo hf hF hfree hr' hlen ha W hC hB
 rw [Array.toArray_toList] at this
 refine this.mono fun e W' h=>⟨?_,h.2⟩
 obtain ⟨⟨x,β',rfl,hv⟩,_⟩:=h
 simp [VR,VR1,AV.isAgg,LR,AV.rel] at hv
 rw [hv]
end
open Go.RowKit Go.ChangeShapes
theorem dec_list {α : Type} {t : Ty} {f : α → AV} (hd : ∀ v,t.fits v = true → ∃ a,v = f a) : ∀ l : List AV,(∀ v ∈ l,t.fits v = true) → ∃ L : List α,l = L.map f
 | [],_=>⟨[],rfl⟩
 | v :: l,h=>by
  obtain ⟨a,rfl⟩:=hd v (h v List.mem_cons_self)
  obtain ⟨L,rfl⟩:=dec_list hd l fun w hw=>h w (List.mem_cons_of_mem _ hw)
  exact ⟨a :: L,rfl⟩
section
variable {P : Program} {φ : Nat → Option FuncId} {β : Beta} {W : World} {r : Reach} {b : Nat} {x : Value} {U : TypeId}
theorem given_intB (hk : kindOf (P.underlying U) = some (.int .i64)) (h : Value.okWide P W r b U x) : ∃ n,VR φ β (.int .i64 n) x:=by
 obtain ⟨v,h1,_,h3⟩:=given_leaf (φ:=φ) (β:=β) hk h
 obtain ⟨n,rfl⟩:=dec_int h1
 exact ⟨n,h3⟩
end
theorem lets_top' : ∀ n,(⟨0,⟨0,0⟩⟩ : Cx).prot.lets (.obj n) = true:=fun n=>decide_eq_true (Nat.zero_le n)
def one1 {α : Type} (a : Option α) : Nat → Option α:=fun n=>if n = 0 then a else none
noncomputable def tblTL : List (Option MFun):=mergeT tblEL (List.replicate 200 none ++ tblT0)
noncomputable def tblT (f : Nat) : Option MFun:=tblTL.getD f none
theorem tbl_T (i : Nat) (fn : MFun) (h : tblE i = some fn) : tblT i = some fn:=mergeT_ext _ _ _ _ h
theorem upT {cx : Cx} {fn : MFun} {e : St} {R : AV → HP → Prop} (h : Ok tblE cx fn e R) : Ok tblT cx fn e R:=by
 obtain ⟨n,s',v,hr,hv,hR⟩:=h
 exact ⟨n,s',v,run_ext tbl_T hr,hv,hR⟩
section
variable {T : Nat → Option MFun} {cx : Cx} {k : List Item} {kill : List Nat} {r : List MOp} {sl : Slots} {own : Own} {h : HP} {Q : St → Prop}
def strslV (x : AV) (lo : Option Int) (hi : Nat → Option Int) : Option AV:=match x with
 | .str b=>evStrsl b lo (hi b.size)
 | _=>none
@[go_sem] theorem strslV_str (b : ByteArray) (lo : Option Int) (hi : Nat → Option Int) : strslV (.str b) lo hi = evStrsl b lo (hi b.size):=rfl
theorem W_strsl {d : Option Nat} {x : Opd} {lo hi : Option Opd} {s : St} : W T cx (.ops (⟨d,.strsl x lo hi,none⟩ :: r) kill :: k) s Q = W1 T cx (strslV (s.opd x) (ixOr s.opd lo 0) (fun n=>ixOr s.opd hi n)) d r kill k s Q :=
 W_val rfl (by simp only [evK,strslV]; cases s.opd x <;> rfl)
@[go_sem] theorem W_strsl2 {d : Option Nat} {x a b : Opd} {s : St} : W T cx (.ops (⟨d,.strsl x (some a) (some b),none⟩ :: r) kill :: k) s Q = W1 T cx (strslV (s.opd x) (toIx (s.opd a)) (fun _=>toIx (s.opd b))) d r kill k s Q:=W_strsl
@[go_sem] theorem W_strsl1 {d : Option Nat} {x a : Opd} {s : St} : W T cx (.ops (⟨d,.strsl x (some a) none,none⟩ :: r) kill :: k) s Q = W1 T cx (strslV (s.opd x) (toIx (s.opd a)) (fun n=>some (n : Int))) d r kill k s Q:=W_strsl
@[go_sem] theorem W_strsl0 {d : Option Nat} {x b : Opd} {s : St} : W T cx (.ops (⟨d,.strsl x none (some b),none⟩ :: r) kill :: k) s Q = W1 T cx (strslV (s.opd x) (some 0) (fun _=>toIx (s.opd b))) d r kill k s Q:=W_strsl
@[go_sem] theorem toIx_int' (kk : IntKind) (n : Int) : toIx (.int kk n) = some n:=rfl
@[go_sem] theorem evStrsl_ok {b : ByteArray} {a c : Int} (h0 : 0 ≤ a) (h1 : a ≤ c) (h2 : c ≤ (b.size : Int)) : evStrsl b (some a) (some c) = some (.str (b.extract a.toNat c.toNat)):=by
 simp only [evStrsl]; rw [if_pos ⟨h0,h1,h2⟩]
def tostrV (o : Option (List AV)) : Option AV:=match o with
 | some l=>(bytesOf l).map fun b=>.str ⟨b.toArray⟩
 | none=>none
@[go_sem] theorem W_tostr {d : Option Nat} {x : Opd} {s : St} : W T cx (.ops (⟨d,.tostr x,none⟩ :: r) kill :: k) s Q = W1 T cx (tostrV (elems (s.look cx) (.leaf (.int .u8)) (s.opd x))) d r kill k s Q :=
 W_val rfl (by
  simp only [evK,tostrV]
  cases elems (s.look cx) (.leaf (.int .u8)) (s.opd x) with
  | none=>rfl
  | some l=>simp only; cases bytesOf l <;> rfl)
def eqifV (neg : Bool) (x y : AV) : Option AV:=match x,y with
 | .iface b,.iface false=>some (.bool (if neg then b else !b))
 | _,_=>none
@[go_sem] theorem eqifV_ne (b : Bool) : eqifV true (.iface b) (.iface false) = some (.bool b):=rfl
@[go_sem] theorem eqifV_eq (b : Bool) : eqifV false (.iface b) (.iface false) = some (.bool !b):=rfl
@[go_sem] theorem W_eqif {d : Option Nat} {neg : Bool} {x y : Opd} {s : St} : W T cx (.ops (⟨d,.eqif neg x y,none⟩ :: r) kill :: k) s Q = W1 T cx (eqifV neg (s.opd x) (s.opd y)) d r kill k s Q :=
 W_val rfl (by
  simp only [evK,eqifV]
  cases s.opd x <;> try rfl
  cases s.opd y <;> try rfl
  rename_i b c
  cases c <;> rfl)
def safeO (o : Option AV) : Option AV:=match o with
 | some v=>if v.safe = true then some v else none
 | none=>none
@[go_sem] theorem safeO_str (b : ByteArray) : safeO (some (.str b)) = some (.str b):=rfl
@[go_sem] theorem safeO_int (kk : IntKind) (n : Int) : safeO (some (.int kk n)) = some (.int kk n):=rfl
@[go_sem] theorem safeO_iface (b : Bool) : safeO (some (.iface b)) = some (.iface b):=rfl
@[go_sem] theorem W_prim {d : Option Nat} {f : List AV → Option AV} {xs : List Opd} {s : St} : W T cx (.ops (⟨d,.prim f xs,none⟩ :: r) kill :: k) s Q = W1 T cx (safeO (f (xs.map s.opd))) d r kill k s Q :=
 W_val rfl (by
  simp only [evK,safeO]
  cases f (xs.map s.opd) with
  | none=>rfl
  | some v=>simp only; split <;> rfl)
end
def bsL (l : List UInt8) : Str:=⟨l.toArray⟩
theorem bsL_append (a b : List UInt8) : bsL a ++ bsL b = bsL (a ++ b):=by
 apply ByteArray.ext
 simp [bsL]
theorem bsL_size (a : List UInt8) : (bsL a).size = a.length:=by simp [bsL,ByteArray.size]
theorem bsL_of (s : Str) : bsL s.data.toList = s:=by cases s; rfl
def hexS : Str:=⟨#[48,49,50,51,52,53,54,55,56,57,97,98,99,100,101,102]⟩
section
variable {cx : Cx} {h : HP}
theorem byteAt_eq {s : Str} {j : Nat} (hj : j < s.data.toList.length) : byteAt s j = (s.data.toList[j]).toNat:=by
 simp only [byteAt]
 rw [Array.getD_eq_getD_getElem?]
 simp at hj
 simp [hj]
theorem hex_one {n : Nat} (hn : n < 16) : hexS.extract n (n + 1) = bsL [hexD n]:=by
 match n,hn with
 | 0,_ | 1,_ | 2,_ | 3,_ | 4,_ | 5,_ | 6,_ | 7,_ | 8,_ | 9,_ | 10,_ | 11,_ | 12,_ | 13,_ | 14,_ | 15,_=>rfl
 | n + 16,h=>exact absurd h (by omega)
theorem byteAt_lt (s : Str) (j : Nat) : byteAt s j < 256:=(s.data.getD j 0).toNat_lt
theorem showL_take {l : List UInt8} {j : Nat} (hj : j < l.length) : showL (l.take (j + 1)) = showL (l.take j) ++ show1 l[j]:=by
 rw [List.take_add_one,List.getElem?_eq_getElem hj]
 simp only [showL,List.flatMap_append,List.cons_append,Option.toList_some,List.flatMap_cons,List.flatMap_nil,List.append_nil]
theorem showL_size (l : List UInt8) : (showL l).length ≤ 3 * l.length + 1:=by
 induction l with
 | nil=>simp [showL]
 | cons c l ih =>
  simp only [showL,List.length_cons,List.flatMap_cons,List.length_append] at ih ⊢
  have : (show1 c).length ≤ 3:=by unfold show1; split <;> simp
  omega
@[go_sem] theorem evInt_quo16 {x : Int} (h0 : 0 ≤ x) (h1 : x < 256) : evInt .quo .i64 x 16 = some (.int .i64 (x / 16)):=by
 simp only [evInt]
 rw [if_neg (by decide),Int.tdiv_eq_ediv_of_nonneg h0]
 rw [wrap64 (by omega) (by omega)]
@[go_sem] theorem evInt_rem16 {x : Int} (h0 : 0 ≤ x) (h1 : x < 256) : evInt .rem .i64 x 16 = some (.int .i64 (x % 16)):=by
 simp only [evInt]
 rw [if_neg (by decide),Int.tmod_eq_emod_of_nonneg h0]
@[go_sem] theorem strsl_hex {x : Int} (h0 : 0 ≤ x) (h1 : x < 16) : evStrsl hexS (some x) (some (x + 1)) = some (.str (bsL [hexD x.toNat])):=by
 have hs : hexS.size = 16:=rfl
 rw [evStrsl_ok h0 (by omega) (by omega),show (x + 1).toNat = x.toNat + 1 by omega,hex_one (by omega)]
theorem add_bsL {a b : List UInt8} (h : a.length + b.length ≤ 1000000000) : evStr .add (bsL a) (bsL b) = some (.str (bsL (a ++ b))):=by
 have hm : IntKind.i64.max = 9223372036854775807:=by decide
 simp only [evStr]
 rw [if_neg (by rw [bsL_size,bsL_size,hm]; omega),bsL_append]
@[go_sem] theorem add_bsL1 {a : List UInt8} {c : UInt8} (h : a.length ≤ 1000000) : evStr .add (bsL a) (bsL [c]) = some (.str (bsL (a ++ [c]))):=add_bsL (by simp; omega)
@[go_sem] theorem add_bsL3 {a : List UInt8} {x y z : UInt8} (h : a.length ≤ 1000000) : evStr .add (bsL a) (bsL [x,y,z]) = some (.str (bsL (a ++ [x,y,z]))):=add_bsL (by simp; omega)
@[go_sem] theorem add_bs92 {c : UInt8} : evStr .add ⟨#[92]⟩ (bsL [c]) = some (.str (bsL [92,c])):=add_bsL (a:=[92]) (by simp)
@[go_sem] theorem add_bs92' {b c : UInt8} : evStr .add (bsL [92,b]) (bsL [c]) = some (.str (bsL [92,b,c])):=add_bsL (by simp)
end
def encU (l : List Int) : AV:=.ofList (l.map (AV.int .u8))
theorem encU_toList (l : List Int) : (encU l).toList = some (l.map (AV.int .u8)):=by
 simp only [encU,AV.ofList,AV.toList]
 congr 1
 exact List.ext_getElem (by simp) (by simp)
theorem encU_fits (l : List Int) {n : Nat} (h : n = l.length) : (Ty.arr n tU8).fits (encU l) = true:=by
 subst h
 simp [encU,AV.ofList,Ty.fits,tU8,LK.fits,AV.safe]
theorem bytesOf_map (l : List Int) : bytesOf (l.map (AV.int .u8)) = some (l.map fun n=>UInt8.ofNat n.toNat):=by
 induction l with
 | nil=>rfl
 | cons n l ih=>simp [bytesOf,ih]
def ints (l : List UInt8) : List Int:=l.map fun c=>(c.toNat : Int)
theorem ints_back (l : List UInt8) : (ints l).map (fun n=>UInt8.ofNat n.toNat) = l:=by
 induction l with
 | nil=>rfl
 | cons c l ih=>simp only [ints,List.map_cons,Int.toNat_natCast,UInt8.ofNat_toNat] at ih ⊢; rw [ih]
section
variable {T : Nat → Option MFun} {cx : Cx} {k : List Item} {kill : List Nat} {r : List MOp} {sl : Slots} {own : Own} {h : HP} {Q : St → Prop}
def WBU (T : Nat → Option MFun) (cx : Cx) (o : Option AV) (n d : Nat) (r : List MOp) (kill : List Nat) (k : List Item) (sl : Slots) (own : Own) (h : HP) (Q : St → Prop) : Prop :=
 onO o fun w=>W T cx (.ops r kill :: k) ⟨(Slots.forget sl (.stk cx.lvl d)).set d (.sl (.stk cx.lvl d) 0 n),own.set d ⟨.arr n tU8,w⟩,h⟩ Q
@[go_sem] theorem WBU_some {n d : Nat} {v : AV} : WBU T cx (some v) n d r kill k sl own h Q = W T cx (.ops r kill :: k) ⟨(Slots.forget sl (.stk cx.lvl d)).set d (.sl (.stk cx.lvl d) 0 n),own.set d ⟨.arr n tU8,v⟩,h⟩ Q:=rfl
@[go_sem] theorem W_bsliceU {n d : Nat} {ps : List (Nat × Opd)} : W T cx (.ops (⟨some d,.bslice false tU8 n ps,none⟩ :: r) kill :: k) ⟨sl,own,h⟩ Q =
  WBU T cx (fill (.arr n tU8) (Ty.arr n tU8).zero (ps.map fun p=>(p.1,St.opd ⟨sl,own,h⟩ p.2))) n d r kill k sl own h Q:=by
 rw [W_op rfl,evOp]
 simp only [evK,WBU]
 cases fill (.arr n tU8) (Ty.arr n tU8).zero (ps.map fun p=>(p.1,St.opd ⟨sl,own,h⟩ p.2)) <;> rfl
theorem fits_tU8 (n : Int) : tU8.fits (.int .u8 n) = true:=by simp [Ty.fits,tU8,LK.fits,AV.safe]
@[go_sem] theorem fillU1 (n : Int) : fill (.arr 1 tU8) (Ty.arr 1 tU8).zero [(0,.int .u8 n)] = some (encU [n]):=by
 simp only [fill,Ty.part,Nat.lt_one_iff,if_true,fits_tU8,Ty.zero,AV.put,Nat.zero_lt_one,dite_true,put_nil,Option.map_some,encU,AV.ofList]
 congr 2
 funext j
 match j with
 | ⟨0,_⟩=>rfl
@[go_sem] theorem fillU3 (a b c : Int) : fill (.arr 3 tU8) (Ty.arr 3 tU8).zero [(0,.int .u8 a),(1,.int .u8 b),(2,.int .u8 c)] = some (encU [a,b,c]):=by
 simp [fill,Ty.part,fits_tU8,Ty.zero,AV.put,put_nil,encU,AV.ofList]
 funext j
 match j with
 | ⟨0,_⟩=>rfl
 | ⟨1,_⟩=>rfl
 | ⟨2,_⟩=>rfl
def elemsU (b : Option Blk) (len : Nat) : Option (List AV):=match b with
 | some ⟨.arr _ t',v⟩=>match v.toList with
   | some l=>if tU8 = t' ∧ len ≤ l.length then some (l.take len) else none
   | none=>none
 | _=>none
@[go_sem] theorem elems_slU (L : Id → Option Blk) (j : Id) (len : Nat) : elems L tU8 (.sl j 0 len) = elemsU (L j) len:=by
 simp only [elems,elemsU,Nat.zero_add,List.drop_zero]
 cases L j with
 | none=>rfl
 | some b=>obtain ⟨bt,bv⟩:=b; cases bt <;> rfl
@[go_sem] theorem elems_slU8 (L : Id → Option Blk) (j : Id) (len : Nat) : elems L (.leaf (.int .u8)) (.sl j 0 len) = elemsU (L j) len:=elems_slU L j len
@[go_sem] theorem elems_nilU8 (L : Id → Option Blk) : elems L (.leaf (.int .u8)) .nilsl = some []:=rfl
@[go_sem] theorem elems_nilU (L : Id → Option Blk) : elems L tU8 .nilsl = some []:=rfl
theorem elemsU_all {n : Nat} {l : List Int} (h : n = l.length) : elemsU (some ⟨.arr n tU8,encU l⟩) n = some (l.map (AV.int .u8)):=by
 subst h
 simp only [elemsU,encU_toList,List.length_map,Nat.le_refl,and_self,if_true]
 rw [List.take_of_length_le (by simp)]
@[go_sem] theorem elemsU_1 (a : Int) : elemsU (some ⟨.arr 1 tU8,encU [a]⟩) 1 = some ([a].map (AV.int .u8)):=elemsU_all rfl
@[go_sem] theorem elemsU_3 (a b c : Int) : elemsU (some ⟨.arr 3 tU8,encU [a,b,c]⟩) 3 = some ([a,b,c].map (AV.int .u8)):=elemsU_all rfl
def WAU (T : Nat → Option MFun) (cx : Cx) (x : AV) (add : Option (List AV)) (d : Nat) (r : List MOp) (kill : List Nat) (k : List Item) (sl : Slots) (own : Own) (h : HP) (Q : St → Prop) : Prop :=
 onO add fun add=>onO (evAppend (St.look cx ⟨sl,own,h⟩) tU8 x add) fun e=>onO (applyEff cx (some d) false ⟨sl,own,h⟩ e) fun p=>W T cx (.ops r kill :: k) (p.2.setd (some d) p.1) Q
@[go_sem] theorem W_appendU {d : Nat} {x y : Opd} : W T cx (.ops (⟨some d,.append false [] tU8 x y,none⟩ :: r) kill :: k) ⟨sl,own,h⟩ Q = WAU T cx (St.opd ⟨sl,own,h⟩ x) (elems (St.look cx ⟨sl,own,h⟩) tU8 (St.opd ⟨sl,own,h⟩ y)) d r kill k sl own h Q:=by
 rw [W_op rfl,evOp]
 simp only [evK,WAU]
 cases elems (St.look cx ⟨sl,own,h⟩) tU8 (St.opd ⟨sl,own,h⟩ y) with
 | none=>rfl
 | some add =>
  simp only [onO_some]
  cases evAppend (St.look cx ⟨sl,own,h⟩) tU8 (St.opd ⟨sl,own,h⟩ x) add <;> rfl
theorem WAU_grow {d t len : Nat} {l add : List Int} (hb : own.get t = some ⟨.arr len tU8,encU l⟩) (hl : l.length = len) (ha : 0 < add.length) (hm : len + add.length ≤ 1048576) : WAU T cx (.sl (.stk cx.lvl t) 0 len) (some (add.map (AV.int .u8))) d r kill k sl own h Q =
  W T cx (.ops r kill :: k) ⟨(Slots.forget sl (.stk cx.lvl d)).set d (.sl (.stk cx.lvl d) 0 (len + add.length)),(own.rid t).set d ⟨.arr (len + add.length) tU8,encU (l ++ add)⟩,h⟩ Q:=by
 have hf:=encU_fits (l ++ add) (n:=len + add.length) (by simp [hl])
 have e : List.map (AV.int .u8) (l ++ add) = (List.map (AV.int .u8) l).take len ++ add.map (AV.int .u8):=by
  rw [List.map_append,List.take_of_length_le (by simp [hl])]
 simp only [encU,e] at hf ⊢
 simp only [WAU,onO_some,evAppend,look_own,hb,encU_toList,List.length_map,Nat.zero_add,List.drop_zero,if_true]
 rw [if_neg (by omega),if_pos (by omega),if_pos ⟨hf,hm⟩]
 simp only [onO_some,applyEff,St.drop,Id.own,if_true,Option.map_some]
 rfl
theorem WAU_nil {d : Nat} {add : List Int} (ha : 0 < add.length) (hm : add.length ≤ 1048576) : WAU T cx .nilsl (some (add.map (AV.int .u8))) d r kill k sl own h Q =
  W T cx (.ops r kill :: k) ⟨(Slots.forget sl (.stk cx.lvl d)).set d (.sl (.stk cx.lvl d) 0 add.length),own.set d ⟨.arr add.length tU8,encU add⟩,h⟩ Q:=by
 have hf:=encU_fits add (n:=add.length) rfl
 simp only [WAU,onO_some,evAppend,List.length_map]
 rw [if_neg (by omega),if_pos ⟨hf,hm⟩]
 rfl
end
section
variable {cx : Cx} {h : HP}
@[go_sem] theorem shr_u8 {x : Int} (h0 : 0 ≤ x) (h1 : x < 256) : evBin .shr (.int .u8 x) (.int .u64 4) = some (.int .u8 (x / 16)):=by
 simp only [evBin,evShift]
 rw [if_neg (by decide),if_neg (by decide),Int.fdiv_eq_ediv_of_nonneg _ (by decide)]
 rfl
@[go_sem] theorem and_u8 {x : Int} (h0 : 0 ≤ x) (h1 : x < 256) : evInt .and .u8 x 15 = some (.int .u8 (x % 16)):=by
 obtain ⟨n,rfl⟩:=Int.eq_ofNat_of_zero_le h0
 have hn : n < 256:=by omega
 have : ∀ n : Fin 256,IntKind.u8.wrap (BitVec.ofInt IntKind.u8.bits (n.val : Int) &&& BitVec.ofInt IntKind.u8.bits 15).toNat = (n.val : Int) % 16:=by decide
 simp only [evInt]
 rw [this ⟨n,hn⟩]
@[go_sem] theorem stridx_hex {kk : IntKind} {x : Int} (h0 : 0 ≤ x) (h1 : x < 16) : stridxV (.str ⟨#[48,49,50,51,52,53,54,55,56,57,97,98,99,100,101,102]⟩) (.int kk x) = some (.int .u8 ((hexD x.toNat).toNat : Nat)):=by
 obtain ⟨n,rfl⟩:=Int.eq_ofNat_of_zero_le h0
 have hn : n < 16:=by omega
 have : ∀ n : Fin 16,stridxV (.str ⟨#[48,49,50,51,52,53,54,55,56,57,97,98,99,100,101,102]⟩) (.int kk (n.val : Int)) = some (.int .u8 ((hexD n.val).toNat : Nat)):=by
  intro n
  match n with
  | ⟨n + 16,h⟩=>exact absurd h (by omega)
  | ⟨0,_⟩ | ⟨1,_⟩ | ⟨2,_⟩ | ⟨3,_⟩ | ⟨4,_⟩ | ⟨5,_⟩ | ⟨6,_⟩ | ⟨7,_⟩ | ⟨8,_⟩ | ⟨9,_⟩ | ⟨10,_⟩ | ⟨11,_⟩ | ⟨12,_⟩ | ⟨13,_⟩ | ⟨14,_⟩ | ⟨15,_⟩=>rfl
 exact this ⟨n,hn⟩
@[go_sem] theorem leads_slobj (l t q o n : Nat) : (AV.sl (.obj q) o n).leads (.stk l t) = false:=by
 simp [AV.leads,AV.isAgg,AV.names]
theorem ints_len (l : List UInt8) : (ints l).length = l.length:=by simp [ints]
section
variable {T : Nat → Option MFun} {k : List Item} {kill : List Nat} {r : List MOp} {sl : Slots} {own : Own} {Q : St → Prop}
def WBUo (T : Nat → Option MFun) (cx : Cx) (o : Option AV) (n d : Nat) (r : List MOp) (kill : List Nat) (k : List Item) (sl : Slots) (own : Own) (h : HP) (Q : St → Prop) : Prop :=
 onO o fun w=>W T cx (.ops r kill :: k) ⟨sl.set d (.sl (.obj h.next) 0 n),own,h.nw (.arr n tU8) w⟩ Q
@[go_sem] theorem WBUo_some {n d : Nat} {v : AV} : WBUo T cx (some v) n d r kill k sl own h Q = W T cx (.ops r kill :: k) ⟨sl.set d (.sl (.obj h.next) 0 n),own,h.nw (.arr n tU8) v⟩ Q:=rfl
@[go_sem] theorem W_bsliceUo {n d : Nat} {ps : List (Nat × Opd)} : W T cx (.ops (⟨some d,.bslice true tU8 n ps,none⟩ :: r) kill :: k) ⟨sl,own,h⟩ Q =
  WBUo T cx (fill (.arr n tU8) (Ty.arr n tU8).zero (ps.map fun p=>(p.1,St.opd ⟨sl,own,h⟩ p.2))) n d r kill k sl own h Q:=by
 rw [W_op rfl,evOp]
 simp only [evK,WBUo]
 cases fill (.arr n tU8) (Ty.arr n tU8).zero (ps.map fun p=>(p.1,St.opd ⟨sl,own,h⟩ p.2)) <;> rfl
def WAUo (T : Nat → Option MFun) (cx : Cx) (x : AV) (add : Option (List AV)) (d : Nat) (r : List MOp) (kill : List Nat) (k : List Item) (sl : Slots) (own : Own) (h : HP) (Q : St → Prop) : Prop :=
 onO add fun add=>onO (evAppend (St.look cx ⟨sl,own,h⟩) tU8 x add) fun e=>onO (applyEff cx (some d) true ⟨sl,own,h⟩ e) fun p=>W T cx (.ops r kill :: k) (p.2.setd (some d) p.1) Q
@[go_sem] theorem W_appendUo {d : Nat} {x y : Opd} : W T cx (.ops (⟨some d,.append true [] tU8 x y,none⟩ :: r) kill :: k) ⟨sl,own,h⟩ Q = WAUo T cx (St.opd ⟨sl,own,h⟩ x) (elems (St.look cx ⟨sl,own,h⟩) tU8 (St.opd ⟨sl,own,h⟩ y)) d r kill k sl own h Q:=by
 rw [W_op rfl,evOp]
 simp only [evK,WAUo]
 cases elems (St.look cx ⟨sl,own,h⟩) tU8 (St.opd ⟨sl,own,h⟩ y) with
 | none=>rfl
 | some add =>
  simp only [onO_some]
  cases evAppend (St.look cx ⟨sl,own,h⟩) tU8 (St.opd ⟨sl,own,h⟩ x) add <;> rfl
theorem WAUo_grow {d q len : Nat} {l add : List Int} (hl : cx.prot.lets (.obj q) = true) (hq : h.look (.obj q) = some ⟨.arr len tU8,encU l⟩) (hlen : l.length = len) (ha : 0 < add.length) (hm : len + add.length ≤ 1048576) : WAUo T cx (.sl (.obj q) 0 len) (some (add.map (AV.int .u8))) d r kill k sl own h Q =
  W T cx (.ops r kill :: k) ⟨sl.set d (.sl (.obj h.next) 0 (len + add.length)),own,(h.dl q).nw (.arr (len + add.length) tU8) (encU (l ++ add))⟩ Q:=by
 have hf:=encU_fits (l ++ add) (n:=len + add.length) (by simp [hlen])
 have e : List.map (AV.int .u8) (l ++ add) = (List.map (AV.int .u8) l).take len ++ add.map (AV.int .u8):=by
  rw [List.map_append,List.take_of_length_le (by simp [hlen])]
 simp only [encU,e] at hf ⊢
 simp only [WAUo,onO_some,evAppend,look_obj,hq,encU_toList,List.length_map,Nat.zero_add,List.drop_zero,if_true]
 rw [if_neg (by omega),if_pos (by omega),if_pos ⟨hf,hm⟩]
 simp only [onO_some,applyEff,St.drop,Id.own,hl,if_true,Option.map_some]
 rfl
theorem WAUo_1 {d q len : Nat} {l : List Int} {a : Int} (hl : cx.prot.lets (.obj q) = true) (hq : h.look (.obj q) = some ⟨.arr len tU8,encU l⟩) (hlen : l.length = len) (hm : len ≤ 1000000) : WAUo T cx (.sl (.obj q) 0 len) (some [.int .u8 a]) d r kill k sl own h Q =
  W T cx (.ops r kill :: k) ⟨sl.set d (.sl (.obj h.next) 0 (len + 1)),own,(h.dl q).nw (.arr (len + 1) tU8) (encU (l ++ [a]))⟩ Q :=
 WAUo_grow (add:=[a]) hl hq hlen (by simp) (by simp; omega)
theorem WAUo_3 {d q len : Nat} {l : List Int} {a b c : Int} (hl : cx.prot.lets (.obj q) = true) (hq : h.look (.obj q) = some ⟨.arr len tU8,encU l⟩) (hlen : l.length = len) (hm : len ≤ 1000000) : WAUo T cx (.sl (.obj q) 0 len) (some [.int .u8 a,.int .u8 b,.int .u8 c]) d r kill k sl own h Q =
  W T cx (.ops r kill :: k) ⟨sl.set d (.sl (.obj h.next) 0 (len + 3)),own,(h.dl q).nw (.arr (len + 3) tU8) (encU (l ++ [a,b,c]))⟩ Q :=
 WAUo_grow (add:=[a,b,c]) hl hq hlen (by simp) (by simp; omega)
end
def shB (s : Str) (j : Nat) : List UInt8:=showL (s.data.toList.take j)
def shSt (s : Str) (j : Nat) (a : Nat × HP) : St:=⟨[(0,.str s),(3,.sl (.obj a.1) 0 (shB s j).length),(8,.int .i64 s.size),(9,.int .i64 j)],[],a.2⟩
def ShP (h : HP) (s : Str) (j : Nat) (a : Nat × HP) : Prop:=Fr h a.2 [] ∧ h.next ≤ a.1 ∧ a.2.look (.obj a.1) = some ⟨.arr (shB s j).length tU8,encU (ints (shB s j))⟩
theorem ShP.next {h h1 : HP} {s : Str} {j q : Nat} {add : List UInt8} {n : Nat} {v : AV} (a : ShP h s j (q,h1)) (f : shB s (j + 1) = shB s j ++ add) (hn : n = (shB s j).length + add.length) (hv : v = encU (ints (shB s j) ++ ints add)) : ShP h s (j + 1) (h1.next,(h1.dl q).nw (.arr n tU8) v):=by
 obtain ⟨a1,a2,a3⟩:=a
 refine ⟨(a1.dl a2).trans Fr.nw,a1.next,?_⟩
 have : (HP.nw (h1.dl q) (.arr n tU8) v).look (.obj h1.next) = some ⟨.arr n tU8,v⟩:=look_nw (h:=h1.dl q)
 rw [this,f,hn,hv]
 simp only [List.length_append,ints,List.map_append]
theorem Show_ok {T : Nat → Option MFun} {s : Str} (hl : ∀ n,h.next ≤ n → cx.prot.lets (.obj n) = true) (hs : s.size ≤ 100000) : Ok T cx Fn.text_Show (St.enter [.str s] h) fun v h'=>v = .str (bsL (showL s.data.toList)) ∧ Fr h h' []:=by
 rw [Ok_eq]
 simp (maxSteps:=999999) (disch:=omega) only [go_sem]
 refine W_forE s.size (shSt s) (ShP h s) (h.next,h.nw (.arr 1 tU8) (encU [61])) (by simp only [go_sem] <;> rfl) ⟨Fr.nw,Nat.le_refl _,look_nw⟩ fun j a hj hp ih=>?_
 obtain ⟨q,h1⟩:=a
 have hq:=hl q hp.2.1
 have hlk : h1.look (.obj q) = some ⟨.arr (shB s j).length tU8,encU (ints (shB s j))⟩:=hp.2.2
 simp only [shSt]
 by_cases hlt : j < s.size
 ·have hl : j < s.data.toList.length:=by simpa using hlt
  have hb:=byteAt_lt s j
  have hbe:=byteAt_eq hl
  have hsz : (shB s j).length ≤ 300001:=by
   have:=showL_size (s.data.toList.take j)
   simp only [List.length_take] at this
   unfold shB
   omega
  have fin1 : (33 ≤ byteAt s j ∧ byteAt s j ≤ 126 ∧ byteAt s j ≠ 92) → shB s (j + 1) = shB s j ++ [s.data.toList[j]]:=by
   intro hc
   rw [shB,showL_take hl,show1,← hbe,if_pos hc]; rfl
  have fin2 : ¬(33 ≤ byteAt s j ∧ byteAt s j ≤ 126 ∧ byteAt s j ≠ 92) → shB s (j + 1) = shB s j ++ [92,hexD ((byteAt s j : Int) / 16).toNat,hexD ((byteAt s j : Int) % 16).toNat]:=by
   intro hc
   rw [shB,showL_take hl,show1,← hbe,if_neg hc,show ((byteAt s j : Int) / 16).toNat = byteAt s j / 16 by omega,show ((byteAt s j : Int) % 16).toNat = byteAt s j % 16 by omega]; rfl
  by_cases h1' : 32 < (byteAt s j : Int)
  ·by_cases h2 : (byteAt s j : Int) < 127
   ·by_cases h3 : (byteAt s j : Int) = 92
    ·have f:=fin2 (by omega)
     simp (maxSteps:=999999) (disch:=omega) only [go_sem,hlt,h1',h2,h3]
     rw [WAUo_3 hq hlk (ints_len _) (by omega)]
     simp (maxSteps:=999999) (disch:=omega) only [go_sem,hlt]
     refine ih _ (h1.next,(h1.dl q).nw (.arr ((shB s j).length + 3) tU8) (encU (ints (shB s j) ++ ints [92,hexD ((byteAt s j : Int) / 16).toNat,hexD ((byteAt s j : Int) % 16).toNat]))) hlt ?_ (hp.next f rfl rfl)
     simp only [go_sem,shSt,f,ints,List.length_append,List.length_cons,List.length_nil,List.map_cons,List.map_nil,h3] <;> rfl
    ·have f:=fin1 (by omega)
     simp (maxSteps:=999999) (disch:=omega) only [go_sem,hlt,h1',h2,h3]
     rw [WAUo_1 hq hlk (ints_len _) (by omega)]
     simp (maxSteps:=999999) (disch:=omega) only [go_sem,hlt]
     refine ih _ (h1.next,(h1.dl q).nw (.arr ((shB s j).length + 1) tU8) (encU (ints (shB s j) ++ ints [s.data.toList[j]]))) hlt ?_ (hp.next f rfl rfl)
     simp only [go_sem,shSt,f,ints,List.length_append,List.length_cons,List.length_nil,List.map_cons,List.map_nil,← hbe] <;> rfl
   ·have f:=fin2 (by omega)
    simp (maxSteps:=999999) (disch:=omega) only [go_sem,hlt,h1',h2]
    rw [WAUo_3 hq hlk (ints_len _) (by omega)]
    simp (maxSteps:=999999) (disch:=omega) only [go_sem,hlt]
    refine ih _ (h1.next,(h1.dl q).nw (.arr ((shB s j).length + 3) tU8) (encU (ints (shB s j) ++ ints [92,hexD ((byteAt s j : Int) / 16).toNat,hexD ((byteAt s j : Int) % 16).toNat]))) hlt ?_ (hp.next f rfl rfl)
    simp only [go_sem,shSt,f,ints,List.length_append,List.length_cons,List.length_nil,List.map_cons,List.map_nil] <;> rfl
  ·have f:=fin2 (by omega)
   simp (maxSteps:=999999) (disch:=omega) only [go_sem,hlt,h1']
   rw [WAUo_3 hq hlk (ints_len _) (by omega)]
   simp (maxSteps:=999999) (disch:=omega) only [go_sem,hlt]
   refine ih _ (h1.next,(h1.dl q).nw (.arr ((shB s j).length + 3) tU8) (encU (ints (shB s j) ++ ints [92,hexD ((byteAt s j : Int) / 16).toNat,hexD ((byteAt s j : Int) % 16).toNat]))) hlt ?_ (hp.next f rfl rfl)
   simp only [go_sem,shSt,f,ints,List.length_append,List.length_cons,List.length_nil,List.map_cons,List.map_nil] <;> rfl
 ·obtain rfl : j = s.size:=by omega
  have e : shB s s.size = showL s.data.toList:=by rw [shB,List.take_of_length_le (by simp)]
  rw [e] at hlk ⊢
  have fin : tostrV (elemsU (some ⟨.arr (showL s.data.toList).length tU8,encU (ints (showL s.data.toList))⟩) (showL s.data.toList).length) = some (.str (bsL (showL s.data.toList))):=by
   rw [elemsU_all (by rw [ints_len])]
   simp only [tostrV,bytesOf_map,ints_back,Option.map_some]
   rfl
  simp (maxSteps:=999999) (disch:=omega) only [go_sem,hlk,fin]
  exact hp.1
end
section
variable {cx : Cx} {h : HP}
theorem bsL_inj {a b : List UInt8} : bsL a = bsL b ↔ a = b:=by
 constructor
 ·intro e
  have:=congrArg (fun s : Str=>s.data.toList) e
  simpa [bsL] using this
 ·rintro rfl; rfl
theorem bs61 : (⟨#[61]⟩ : Str) = bsL [61]:=rfl
theorem strsl_drop {l : List UInt8} {n : Nat} (hn : n ≤ l.length) : evStrsl (bsL l) (some (n : Int)) (some (((bsL l).size : Nat) : Int)) = some (.str (bsL (l.drop n))):=by
 rw [evStrsl_ok (by omega) (by rw [bsL_size]; omega) (by omega),Int.toNat_natCast,Int.toNat_natCast]
 congr 2
 apply ByteArray.ext
 simp only [bsL,ByteArray.size,ByteArray.data_extract,List.size_toArray]
 apply Array.toList_inj.1
 simp
 rw [List.take_of_length_le (by simp)]
theorem ext_take {l : List UInt8} {n : Nat} : (bsL l).extract 0 n = bsL (l.take n):=by
 apply ByteArray.ext
 simp only [bsL,ByteArray.data_extract]
 apply Array.toList_inj.1
 simp
theorem ext_drop {l : List UInt8} {n : Nat} : (bsL l).extract n (bsL l).size = bsL (l.drop n):=by
 apply ByteArray.ext
 simp only [bsL,ByteArray.size,ByteArray.data_extract,List.size_toArray]
 apply Array.toList_inj.1
 simp
 rw [List.take_of_length_le (by simp)]
theorem strsl_take {l : List UInt8} {n : Nat} (hn : n ≤ l.length) : evStrsl (bsL l) (some 0) (some (n : Int)) = some (.str (bsL (l.take n))):=by
 rw [evStrsl_ok (by omega) (by omega) (by rw [bsL_size]; omega),Int.toNat_natCast]
 congr 2
 apply ByteArray.ext
 simp only [bsL,ByteArray.data_extract]
 apply Array.toList_inj.1
 simp
theorem HasPrefix_ok {l : List UInt8} (hs : l.length ≤ 100000) : Ok tblT cx Fn.internal_stringslite_HasPrefix (St.enter [.str (bsL l),.str ⟨#[61]⟩] h) fun v h'=>v = .bool (decide (l.head? = some 61)) ∧ h' = h:=by
 have h1 : (⟨#[61]⟩ : Str).size = 1:=rfl
 rw [Ok_eq]
 cases l with
 | nil =>
  have h0 : (bsL []).size = 0:=rfl
  simp (maxSteps:=999999) (disch:=omega) only [go_sem,h0,h1]
  simp
 | cons c r =>
  have h0 : (bsL (c :: r)).size = r.length + 1:=bsL_size _
  have e:=strsl_take (l:=c :: r) (n:=1) (by simp)
  simp (maxSteps:=999999) (disch:=omega) only [go_sem,h0,h1]
  rw [ext_take,bs61]
  simp [bsL_inj]
theorem sCut_ok {l : List UInt8} (hs : l.length ≤ 100000) : Ok tblT cx Fn.internal_stringslite_CutPrefix (St.enter [.str (bsL l),.str ⟨#[61]⟩] h) fun v h' =>
  v = .tup (.cons (.str (bsL (if l.head? = some 61 then l.tail else l))) (.cons (.bool (decide (l.head? = some 61))) .unit)) ∧ h' = h:=by
 have h1 : (⟨#[61]⟩ : Str).size = 1:=rfl
 rw [Ok_eq]
 simp (maxSteps:=999999) (disch:=omega) only [go_sem]
 refine W_callp rfl ⟨rfl,rfl⟩ (by simp only [go_sem]; exact HasPrefix_ok hs) ?_
 by_cases c : l.head? = some 61
 ·obtain ⟨r,rfl⟩ : ∃ r,l = 61 :: r:=by
   cases l with
   | nil=>simp at c
   | cons x r=>simp at c; exact ⟨r,by rw [c]⟩
  have h0 : (bsL (61 :: r)).size = r.length + 1:=bsL_size _
  simp (maxSteps:=999999) (disch:=omega) only [go_sem,c,h0,h1]
  have:=ext_drop (l:=61 :: r) (n:=1)
  rw [h0] at this
  rw [this]
  rfl
 ·simp (maxSteps:=999999) (disch:=omega) only [go_sem,c,h1]
theorem Cut_ok {l : List UInt8} (hs : l.length ≤ 100000) : Ok tblT cx Fn.strings_CutPrefix (St.enter [.str (bsL l),.str ⟨#[61]⟩] h) fun v h' =>
  v = .tup (.cons (.str (bsL (if l.head? = some 61 then l.tail else l))) (.cons (.bool (decide (l.head? = some 61))) .unit)) ∧ h' = h:=by
 rw [Ok_eq]
 simp (maxSteps:=999999) (disch:=omega) only [go_sem]
 refine W_callp rfl ⟨rfl,rfl⟩ (by simp only [go_sem]; exact sCut_ok hs) ?_
 simp (maxSteps:=999999) (disch:=omega) only [go_sem]
theorem Pu_ok {b : Str} (hb : b.size = 2) : Ok tblT cx Fn.strconv_ParseUint (St.enter [.str b,.int .i64 16,.int .i64 8] h) fun v h' =>
  v = .tup (.cons (.int .u64 ((hex2 b).getD 0 : Nat)) (.cons (.iface (hex2 b).isNone) .unit)) ∧ h' = h:=by
 have e1 : pPu [.str b,.int .i64 16,.int .i64 8] = some (.int .u64 ((hex2 b).getD 0 : Nat)):=by simp only [pPu]; rw [if_pos hb]
 have e2 : pPe [.str b,.int .i64 16,.int .i64 8] = some (.iface (hex2 b).isNone):=by simp only [pPe]; rw [if_pos hb]
 rw [Ok_eq]
 simp (maxSteps:=999999) (disch:=omega) only [go_sem,List.map_cons,List.map_nil,e1,e2]
 rfl
end
def hexP (x y : UInt8) : Option UInt8:=match hexV x,hexV y with
 | some p,some q=>some (UInt8.ofNat (16 * p + q))
 | _,_=>none
def unsh : List UInt8 → Option (List UInt8)
 | []=>some []
 | [c]=>if c.toNat = 92 then none else some [c]
 | [c,x]=>if c.toNat = 92 then none else (unsh [x]).map (c :: ·)
 | c :: x :: y :: r=>if c.toNat = 92 then (match hexP x y with
   | some v=>(unsh r).map (v :: ·)
   | none=>none) else (unsh (x :: y :: r)).map (c :: ·)
theorem unsh_nil : unsh [] = some []:=rfl
theorem unsh_plain {c : UInt8} {r : List UInt8} (hc : ¬c.toNat = 92) : unsh (c :: r) = (unsh r).map (c :: ·):=by
 match r with
 | []=>simp only [unsh,hc,if_false,Option.map_some]
 | [x]=>simp only [unsh,hc,if_false]
 | x :: y :: r=>rw [unsh,if_neg hc]
theorem unsh_short {c : UInt8} {r : List UInt8} (hc : c.toNat = 92) (hr : r.length < 2) : unsh (c :: r) = none:=by
 match r,hr with
 | [],_=>rw [unsh,if_pos hc]
 | [x],_=>rw [unsh,if_pos hc]
 | x :: y :: r,h=>simp only [List.length_cons] at h; omega
theorem unsh_hex {c x y : UInt8} {r : List UInt8} (hc : c.toNat = 92) : unsh (c :: x :: y :: r) = match hexP x y with
  | some v=>(unsh r).map (v :: ·)
  | none=>none:=by
 rw [unsh,if_pos hc]
theorem hex2_two {x y : UInt8} : hex2 (bsL [x,y]) = match hexV x,hexV y with
  | some p,some q=>some (16 * p + q)
  | _,_=>none:=rfl
theorem hexV_lt {c : UInt8} {n : Nat} (h : hexV c = some n) : n < 16:=by
 unfold hexV at h
 split at h
 ·simp at h; omega
 ·split at h
  ·simp only [Option.some.injEq] at h; omega
  ·simp at h
theorem hex_none {x y : UInt8} (e : hex2 (bsL [x,y]) = none) : hexP x y = none:=by
 rw [hex2_two] at e
 unfold hexP
 cases hp : hexV x with
 | none=>rfl
 | some p=>cases hq : hexV y with
  | none=>rfl
  | some q=>rw [hp,hq] at e; simp at e
theorem hex_some {x y : UInt8} {n : Nat} (e : hex2 (bsL [x,y]) = some n) : n < 256 ∧ hexP x y = some (UInt8.ofNat n):=by
 rw [hex2_two] at e
 unfold hexP
 cases hp : hexV x with
 | none=>rw [hp] at e; simp at e
 | some p=>cases hq : hexV y with
  | none=>rw [hp,hq] at e; simp at e
  | some q =>
   rw [hp,hq] at e
   have h1:=hexV_lt hp
   have h2:=hexV_lt hq
   simp only [Option.some.injEq] at e
   subst e
   exact ⟨by omega,rfl⟩
def meanL (l : List UInt8) : Option (List UInt8) :=
 if l.head? = some 61 then match unsh l.tail with
  | some o=>if showL o = l then some o else none
  | none=>none
 else none
section
variable {cx : Cx} {h : HP}
@[go_sem] theorem stridx_head {kk : IntKind} {c : UInt8} {r : List UInt8} : stridxV (.str (bsL (c :: r))) (.int kk 0) = some (.int .u8 (c.toNat : Nat)):=by
 have : (bsL (c :: r))[(0 : Int).toNat]? = some c:=by
  show (bsL (c :: r))[0]? = some c
  rw [getElem?_pos (bsL (c :: r)) 0 (by rw [bsL_size]; simp)]
  rfl
 simp only [stridxV,toIx]
 rw [if_pos (by omega),this]
 rfl
@[go_sem] theorem strsl_tail {c : UInt8} {r : List UInt8} : evStrsl (bsL (c :: r)) (some 1) (some (((bsL (c :: r)).size : Nat) : Int)) = some (.str (bsL r)) :=
 strsl_drop (l:=c :: r) (n:=1) (by simp)
@[go_sem] theorem strsl_two {x y : UInt8} {r : List UInt8} : evStrsl (bsL (x :: y :: r)) (some 0) (some 2) = some (.str (bsL [x,y])) :=
 strsl_take (l:=x :: y :: r) (n:=2) (by simp)
@[go_sem] theorem strsl_tail2 {x y : UInt8} {r : List UInt8} : evStrsl (bsL (x :: y :: r)) (some 2) (some (((bsL (x :: y :: r)).size : Nat) : Int)) = some (.str (bsL r)) :=
 strsl_drop (l:=x :: y :: r) (n:=2) (by simp)
theorem bsL_ne {c : UInt8} {r : List UInt8} : ¬bsL (c :: r) = ⟨#[]⟩:=fun e=>by
 have:=bsL_inj.1 (show bsL (c :: r) = bsL [] from e)
 simp at this
theorem bsL_nil : (bsL [] = ⟨#[]⟩) = True:=by simp only [eq_iff_iff,iff_true]; rfl
section
variable {T : Nat → Option MFun} {k : List Item} {kill : List Nat} {r : List MOp} {sl : Slots} {own : Own} {Q : St → Prop}
theorem WAU_nil1 {d : Nat} {a : Int} : WAU T cx .nilsl (some [.int .u8 a]) d r kill k sl own h Q =
  W T cx (.ops r kill :: k) ⟨(Slots.forget sl (.stk cx.lvl d)).set d (.sl (.stk cx.lvl d) 0 1),own.set d ⟨.arr 1 tU8,encU [a]⟩,h⟩ Q :=
 WAU_nil (add:=[a]) (by simp) (by simp)
theorem WAU_grow1 {d t len : Nat} {l : List Int} {a : Int} (hb : own.get t = some ⟨.arr len tU8,encU l⟩) (hl : l.length = len) (hm : len ≤ 1000000) : WAU T cx (.sl (.stk cx.lvl t) 0 len) (some [.int .u8 a]) d r kill k sl own h Q =
  W T cx (.ops r kill :: k) ⟨(Slots.forget sl (.stk cx.lvl d)).set d (.sl (.stk cx.lvl d) 0 (len + 1)),(own.rid t).set d ⟨.arr (len + 1) tU8,encU (l ++ [a])⟩,h⟩ Q :=
 WAU_grow (add:=[a]) hb hl (by simp) (by simp; omega)
end
@[go_sem] theorem tostrV_ints (l : List UInt8) : tostrV (some ((ints l).map (AV.int .u8))) = some (.str (bsL l)):=by
 simp only [tostrV,bytesOf_map,ints_back,Option.map_some]
 rfl
@[go_sem] theorem tostrV_nil : tostrV (some []) = some (.str (bsL [])):=rfl
theorem ShowL_ok {l : List UInt8} (hl : ∀ n,h.next ≤ n → cx.prot.lets (.obj n) = true) (hs : l.length ≤ 100000) : Ok tblT cx Fn.text_Show (St.enter [.str (bsL l)] h) fun v h'=>Fr h h' [] ∧ v = .str (bsL (showL l)) :=
 (Show_ok (s:=bsL l) hl (by rw [bsL_size]; exact hs)).mono fun v h' e=>⟨e.2,e.1⟩
@[go_sem] theorem safe_iface (b : Bool) : (AV.iface b).safe = true:=rfl
@[go_sem] theorem wrap8 {n : Int} (h0 : 0 ≤ n) (h1 : n < 256) : IntKind.u8.wrap n = n:=by
 obtain ⟨m,rfl⟩:=Int.eq_ofNat_of_zero_le h0
 have hm : m < 256:=by omega
 have : ∀ m : Fin 256,IntKind.u8.wrap (m.val : Int) = (m.val : Int):=by decide
 exact this ⟨m,hm⟩
def meV (cx : Cx) (o : List UInt8) : AV:=match o with
 | []=>.nilsl
 | _=>.sl (.stk cx.lvl 43) 0 o.length
def meO (o : List UInt8) : Own:=match o with
 | []=>[]
 | _=>[(43,⟨.arr o.length tU8,encU (ints o)⟩)]
def meSt (cx : Cx) (h : HP) (l : List UInt8) (a : List UInt8 × List UInt8) : St:=⟨[(0,.str (bsL l)),(4,.str (bsL a.1)),(6,meV cx a.2)],meO a.2,h⟩
theorem Mean_ok {l : List UInt8} (hl : ∀ n,h.next ≤ n → cx.prot.lets (.obj n) = true) (hs : l.length ≤ 10000) : Ok tblT cx Fn.text_Mean (St.enter [.str (bsL l)] h) fun v h' =>
  v = .tup (.cons (.str (bsL ((meanL l).getD []))) (.cons (.bool (meanL l).isSome) .unit)) ∧ Fr h h' []:=by
 rw [Ok_eq]
 simp (maxSteps:=999999) (disch:=omega) only [go_sem]
 refine W_callp rfl ⟨rfl,rfl⟩ (by simp only [go_sem]; exact Cut_ok (by omega)) ?_
 by_cases c0 : l.head? = some 61
 ·simp (maxSteps:=999999) (disch:=omega) only [go_sem,c0]
  refine W_forE l.length (fun _=>meSt cx h l) (fun j a=>j + a.1.length ≤ l.length ∧ a.2.length ≤ j ∧ unsh l.tail = (unsh a.1).map (a.2 ++ ·)) (l.tail,[]) (by simp only [go_sem] <;> rfl) ⟨by simp,by simp,by simp⟩ fun j a hj hp ih=>?_
  obtain ⟨rest,o⟩:=a
  obtain ⟨p1,p2,p3⟩:=hp
  simp only at p1 p2 p3
  simp only [meSt]
  cases rest with
  | nil =>
   have q3 : unsh l.tail = some o:=by rw [p3,unsh_nil]; simp
   cases o with
   | nil =>
    simp only [meV,meO]
    simp (maxSteps:=999999) (disch:=omega) only [go_sem,bsL_nil]
    refine W_callF (S:=[]) (R:=fun v h'=>v = .str (bsL (showL ([])))) rfl ⟨rfl,rfl⟩ (by simp only [go_sem]; exact ShowL_ok (l:=[]) (fun n hn=>hl n hn) (by simp only [List.length_cons,List.length_nil] at p1 p2 ⊢; omega)) (fun v h1 e=>e) fun v h1 hF hv=>?_
    subst hv
    by_cases c5 : showL ([]) = l
    ·have f : meanL l = some ([]):=by rw [meanL,if_pos c0,q3]; exact if_pos c5
     simp (maxSteps:=999999) (disch:=omega) only [go_sem,bsL_inj,c5,f]
     exact ⟨rfl,hF⟩
    ·have f : meanL l = none:=by rw [meanL,if_pos c0,q3]; exact if_neg c5
     simp (maxSteps:=999999) (disch:=omega) only [go_sem,bsL_inj,c5,f]
     exact ⟨rfl,hF⟩
   | cons b o =>
    have e:=elemsU_all (n:=(b :: o).length) (l:=ints (b :: o)) (ints_len _).symm
    simp only [meV,meO]
    simp (maxSteps:=999999) (disch:=omega) only [go_sem,bsL_nil,e]
    refine W_callF (S:=[]) (R:=fun v h'=>v = .str (bsL (showL (b :: o)))) rfl ⟨rfl,rfl⟩ (by simp only [go_sem]; exact ShowL_ok (l:=b :: o) (fun n hn=>hl n hn) (by simp only [List.length_cons,List.length_nil] at p1 p2 ⊢; omega)) (fun v h1 e=>e) fun v h1 hF hv=>?_
    subst hv
    by_cases c5 : showL (b :: o) = l
    ·have f : meanL l = some (b :: o):=by rw [meanL,if_pos c0,q3]; exact if_pos c5
     simp (maxSteps:=999999) (disch:=omega) only [go_sem,bsL_inj,c5,f,e]
     exact ⟨rfl,hF⟩
    ·have f : meanL l = none:=by rw [meanL,if_pos c0,q3]; exact if_neg c5
     simp (maxSteps:=999999) (disch:=omega) only [go_sem,bsL_inj,c5,f,e]
     exact ⟨rfl,hF⟩
  | cons c r =>
   by_cases c1 : (c.toNat : Int) = 92
   ·have c2 : c.toNat = 92:=by omega
    match r,p1,p3 with
    | [],p1,p3 =>
     have f : meanL l = none:=by rw [meanL,if_pos c0,p3,unsh_short c2 (by simp)]; rfl
     have h0 : (bsL []).size = 0:=rfl
     cases o <;> simp only [meV,meO] <;> simp (maxSteps:=999999) (disch:=omega) only [go_sem,bsL_ne,c1,h0,f]
     all_goals exact ⟨rfl,Fr.refl _ _⟩
    | [x],p1,p3 =>
     have f : meanL l = none:=by rw [meanL,if_pos c0,p3,unsh_short c2 (by simp)]; rfl
     have h0 : (bsL [x]).size = 1:=bsL_size _
     cases o <;> simp only [meV,meO] <;> simp (maxSteps:=999999) (disch:=omega) only [go_sem,bsL_ne,c1,h0,f]
     all_goals exact ⟨rfl,Fr.refl _ _⟩
    | x :: y :: r,p1,p3 =>
     have h0 : (bsL (x :: y :: r)).size = r.length + 2:=bsL_size _
     have h2 : (bsL [x,y]).size = 2:=rfl
     have x2 : (bsL (x :: y :: r)).extract 0 2 = bsL [x,y]:=ext_take
     have x3 : (bsL (x :: y :: r)).extract 2 (bsL (x :: y :: r)).size = bsL r:=ext_drop
     cases o with
     | nil =>
      simp only [meV,meO]
      simp (maxSteps:=999999) (disch:=omega) only [go_sem,bsL_ne,c1,h0,x2]
      refine W_callp rfl ⟨rfl,rfl⟩ (by simp only [go_sem]; exact Pu_ok h2) ?_
      cases e : hex2 (bsL [x,y]) with
      | none =>
       have f : meanL l = none:=by
        rw [meanL,if_pos c0,p3,unsh_hex c2,hex_none e]; rfl
       simp (maxSteps:=999999) (disch:=omega) only [go_sem,e,f,Option.isNone_none]
       exact ⟨rfl,Fr.refl _ _⟩
      | some n =>
       obtain ⟨n1,n2⟩:=hex_some e
       have n3 : (UInt8.ofNat n).toNat = n:=by simp [Nat.mod_eq_of_lt n1]
       simp (maxSteps:=999999) (disch:=omega) only [go_sem,e,Option.isNone_some,Option.getD_some,x3]
       rw [WAU_nil1]
       simp (maxSteps:=999999) (disch:=omega) only [go_sem]
       refine ih _ (r,[UInt8.ofNat n]) (by simp only [List.length_cons] at p1; omega) ?_ ⟨by simp only [List.length_cons] at p1 ⊢; omega,by simp only [List.length_append,List.length_cons,List.length_nil] at p2 ⊢; omega,?_⟩
       ·simp only [go_sem,meSt,meV,meO,ints,n3,List.map_cons,List.map_nil,List.cons_append,List.map_append,List.length_append,List.length_cons,List.length_nil] <;> rfl
       ·rw [p3,unsh_hex c2,n2]; cases unsh r <;> simp
     | cons b o =>
      simp only [meV,meO]
      simp (maxSteps:=999999) (disch:=omega) only [go_sem,bsL_ne,c1,h0,x2]
      refine W_callp rfl ⟨rfl,rfl⟩ (by simp only [go_sem]; exact Pu_ok h2) ?_
      cases e : hex2 (bsL [x,y]) with
      | none =>
       have f : meanL l = none:=by
        rw [meanL,if_pos c0,p3,unsh_hex c2,hex_none e]; rfl
       simp (maxSteps:=999999) (disch:=omega) only [go_sem,e,f,Option.isNone_none]
       exact ⟨rfl,Fr.refl _ _⟩
      | some n =>
       obtain ⟨n1,n2⟩:=hex_some e
       have n3 : (UInt8.ofNat n).toNat = n:=by simp [Nat.mod_eq_of_lt n1]
       simp (maxSteps:=999999) (disch:=omega) only [go_sem,e,Option.isNone_some,Option.getD_some,x3]
       rw [WAU_grow1 (l:=ints (b :: o))]
       ·simp (maxSteps:=999999) (disch:=omega) only [go_sem]
        refine ih _ (r,b :: o ++ [UInt8.ofNat n]) (by simp only [List.length_cons] at p1; omega) ?_ ⟨by simp only [List.length_cons] at p1 ⊢; omega,by simp only [List.length_append,List.length_cons,List.length_nil] at p2 ⊢; omega,?_⟩
        ·simp only [go_sem,meSt,meV,meO,ints,n3,List.map_cons,List.map_nil,List.cons_append,List.map_append,List.length_append,List.length_cons,List.length_nil] <;> rfl
        ·rw [p3,unsh_hex c2,n2]; cases unsh r <;> simp
       ·rfl
       ·exact ints_len _
       ·simp only [List.length_cons] at p1 p2 ⊢; omega
   ·have f : unsh (c :: r) = (unsh r).map (c :: ·):=unsh_plain (by omega)
    cases o with
    | nil =>
     simp only [meV,meO]
     simp (maxSteps:=999999) (disch:=omega) only [go_sem,bsL_ne,c1]
     rw [WAU_nil1]
     simp (maxSteps:=999999) (disch:=omega) only [go_sem]
     refine ih _ (r,[c]) (by simp only [List.length_cons] at p1; omega) ?_ ⟨by simp only [List.length_cons] at p1 ⊢; omega,by simp,?_⟩
     ·simp only [go_sem,meSt,meV,meO,ints,List.map_cons,List.map_nil,List.length_cons,List.length_nil] <;> rfl
     ·rw [p3,f]; cases unsh r <;> simp
    | cons b o =>
     simp only [meV,meO]
     simp (maxSteps:=999999) (disch:=omega) only [go_sem,bsL_ne,c1]
     rw [WAU_grow1 (l:=ints (b :: o))]
     ·simp (maxSteps:=999999) (disch:=omega) only [go_sem]
      refine ih _ (r,b :: o ++ [c]) (by simp only [List.length_cons] at p1; omega) ?_ ⟨by simp only [List.length_cons] at p1 ⊢; omega,by simp only [List.length_append,List.length_cons,List.length_nil] at p2 ⊢; omega,?_⟩
      ·simp only [go_sem,meSt,meV,meO,ints,List.map_cons,List.map_nil,List.cons_append,List.map_append,List.length_append,List.length_cons,List.length_nil] <;> rfl
      ·rw [p3,f]; cases unsh r <;> simp
     ·rfl
     ·exact ints_len _
     ·simp only [List.length_cons] at p1 p2 ⊢; omega
 ·have f : meanL l = none:=by rw [meanL,if_neg c0]
  simp (maxSteps:=999999) (disch:=omega) only [go_sem,c0,f]
  exact ⟨rfl,Fr.refl _ _⟩
end
section
variable {cx : Cx} {h : HP}
theorem Itoa_ok {n : Int} (hn : i64 n) : Ok tblT cx Fn.strconv_Itoa (St.enter [.int .i64 n] h) fun v h'=>v = .str (bsL (numL n)) ∧ h' = h:=by
 have e : pItoa [.int .i64 n] = some (.str (bsL (numL n))):=by simp only [pItoa]; rw [if_pos hn]; rfl
 rw [Ok_eq]
 simp (maxSteps:=999999) (disch:=omega) only [go_sem,List.map_cons,List.map_nil,e]
theorem Ent.enc_inj {a b : Ent} (e : a.enc = b.enc) : a = b:=by
 cases a; cases b
 simp only [Ent.enc,AV.cons.injEq,AV.str.injEq,AV.int.injEq,true_and,and_true] at e
 obtain ⟨rfl,rfl,rfl⟩:=e
 rfl
theorem Dat.enc_inj {a b : Dat} (e : a.enc = b.enc) : a = b:=by
 cases a; cases b
 simp only [Dat.enc,AV.cons.injEq,AV.str.injEq,AV.int.injEq,true_and,and_true] at e
 obtain ⟨rfl,rfl⟩:=e
 rfl
theorem encV_inj {α : Type} {n : Nat} {f : α → AV} (hf : ∀ a b,f a = f b → a = b) {v w : Vector α n} (e : encV f v = encV f w) : v = w:=by
 simp only [encV,AV.arr.injEq,heq_eq_eq,true_and] at e
 apply Vector.ext
 intro i hi
 exact hf _ _ (congrFun e ⟨i,hi⟩)
theorem Ino.enc_inj {a b : Ino} (e : a.enc = b.enc) : a = b:=by
 cases a; cases b
 simp only [Ino.enc,AV.cons.injEq,AV.bool.injEq,AV.int.injEq,true_and,and_true] at e
 obtain ⟨rfl,rfl,rfl,e⟩:=e
 rw [encV_inj (fun a b h=>by simpa using h) e]
theorem Img.enc_inj {a b : Img} (e : a.enc = b.enc) : a = b:=by
 cases a; cases b
 simp only [Img.enc,AV.cons.injEq,and_true] at e
 obtain ⟨e1,e2,e3⟩:=e
 rw [encV_inj (fun _ _=>Ino.enc_inj) e1,encV_inj (fun _ _ h=>encV_inj (fun _ _=>Ent.enc_inj) h) e2,encV_inj (fun _ _=>Dat.enc_inj) e3]
theorem pPrint_enc {m : Img} (hm : m.slim) : pPrint [m.enc] = some (.str (bsL (textL m))):=by
 have h : ∃ m' : Img,m.enc = m'.enc ∧ m'.slim:=⟨m,rfl,hm⟩
 have e : h.choose = m:=(Img.enc_inj h.choose_spec.1).symm
 simp only [pPrint]
 rw [dif_pos h,e]
 rfl
variable {p : Id} {q : List Nat}
theorem Print_ok {m : Img} (hb : p.below cx.lvl) (hm : h.rd p q = some m.enc) (hsl : m.slim) : Ok tblT cx Fn.text_Print (St.enter [.ptr p q tImage] h) fun v h'=>v = .str (bsL (textL m)) ∧ h' = h:=by
 have e:=pPrint_enc hsl
 rw [Ok_eq]
 have e2 : fitO tImage (h.rd p q) = some m.enc:=by rw [hm]; exact fitO_some (fits_img' m)
 simp (maxSteps:=999999) (disch:=omega) only [go_sem,rd_ext hb,e2,List.map_cons,List.map_nil,e]
end
theorem showL_ge (l : List UInt8) : l.length ≤ (showL l).length:=by
 induction l with
 | nil=>simp
 | cons c l ih =>
  simp only [showL,List.length_cons,List.flatMap_cons,List.length_append] at ih ⊢
  have : 1 ≤ (show1 c).length:=by unfold show1; split <;> simp
  omega
def catN (k : Nat) (f : Nat → List UInt8) : List UInt8:=(List.range k).flatMap f
theorem catN_succ (k : Nat) (f : Nat → List UInt8) : catN (k + 1) f = catN k f ++ f k:=by
 simp only [catN,List.range_succ,List.flatMap_append,List.flatMap_cons,List.flatMap_nil,List.append_nil]
theorem catN_zero (f : Nat → List UInt8) : catN 0 f = []:=rfl
theorem fin_catN {n : Nat} {g : Fin n → List UInt8} {f : Nat → List UInt8} (h : ∀ i : Fin n,g i = f i.val) : (List.finRange n).flatMap g = catN n f:=by
 have : g = fun i=>f i.val:=funext h
 have e : (List.finRange n).map Fin.val = List.range n:=List.ext_getElem (by simp) fun i h1 h2=>by simp
 rw [this,catN,← e,List.flatMap_map]
theorem text_cat (m : Img) : textL m = catN 8 (fun n=>inoL n (m.ino n)) ++ catN 3 (fun d=>catN 4 fun s=>entL d s (m.ent d s)) ++ catN 9 (fun x=>datL x (m.dat x)):=by
 unfold textL
 rw [fin_catN (f:=fun n=>inoL n (m.ino n)),fin_catN (f:=fun d=>catN 4 fun s=>entL d s (m.ent d s)),fin_catN (f:=fun x=>datL x (m.dat x))]
 ·intro i; show datL i.val m.data[i.val] = _; rw [dat_eq]
 ·intro d; exact fin_catN fun s=>by show entL d.val s.val (m.dir[d.val])[s.val] = _; rw [ent_eq]
 ·intro i; show inoL i.val m.inode[i.val] = _; rw [ino_eq]
theorem num_len {n : Int} (h : i64 n) : (numL n).length ≤ 21:=by
 obtain ⟨h0,h1⟩:=h
 unfold numL Lib.itoa
 split
 ·have h3:=Lib.nDigits_le20 n.natAbs (by omega)
  simp only [List.length_cons,Lib.decDigits_length]
  have : (-n).toNat = n.natAbs:=by omega
  rw [← this] at h3
  first | omega | (simp only [this] at *; omega)
 ·rw [Lib.decDigits_length]; exact Nat.le_trans (Lib.nDigits_le20 _ (by omega)) (by omega)
theorem lineL_one (x : List UInt8) : lineL [x] = x ++ [10]:=by rw [lineL,Lib.join_one]
theorem lineL_cons (x y : List UInt8) (r : List (List UInt8)) : lineL (x :: y :: r) = x ++ 32 :: lineL (y :: r):=by
 simp only [lineL,Lib.join_cons,Lib.joinTail,List.map_cons,List.flatten_cons,List.append_assoc,List.cons_append,List.nil_append]
theorem i64_nat {n : Nat} (h : n < 100) : i64 (n : Int):=⟨by omega,by omega⟩
theorem slim_ino {m : Img} (h : m.slim) (n : Nat) : i64 (m.ino n).stamp ∧ i64 (m.ino n).links ∧ i64 ((m.ino n).prt 0) ∧ i64 ((m.ino n).prt 1):=by
 unfold Img.ino
 split
 ·rename_i hn; exact h.1 ⟨n,hn⟩
 ·decide
theorem slim_ent {m : Img} (h : m.slim) (d s : Nat) : i64 (m.ent d s).ino ∧ i64 (m.ent d s).stamp ∧ (m.ent d s).name.size ≤ 10000:=by
 unfold Img.ent
 split
 ·rename_i hn; exact h.2.1 ⟨d,hn.1⟩ ⟨s,hn.2⟩
 ·decide
theorem slim_dat {m : Img} (h : m.slim) (x : Nat) : i64 (m.dat x).of ∧ (m.dat x).text.size ≤ 10000:=by
 unfold Img.dat
 split
 ·rename_i hn; exact h.2.2 ⟨x,hn⟩
 ·decide
theorem inoL_eq (n : Nat) (i : Ino) : inoL n i = if i.live then [105,110,111,100,101] ++ 32 :: (numL n ++ 32 :: (numL i.stamp ++ 32 :: (numL i.links ++ 32 :: (numL (i.prt 0) ++ 32 :: (numL (i.prt 1) ++ [10]))))) else []:=by
 unfold inoL
 rw [show "inode".toUTF8.data.toList = [105, 110, 111, 100, 101] from rfl]
 simp only [lineL_cons,lineL_one]
 rfl
theorem entL_eq (d s : Nat) (e : Ent) : entL d s e = if e.name.size ≠ 0 then [101,110,116,114,121] ++ 32 :: (numL d ++ 32 :: (numL s ++ 32 :: (e.name.data.toList ++ 32 :: (numL e.ino ++ 32 :: (numL e.stamp ++ [10]))))) else []:=by
 unfold entL
 rw [show "entry".toUTF8.data.toList = [101, 110, 116, 114, 121] from rfl]
 simp only [lineL_cons,lineL_one]
theorem datL_eq (x : Nat) (y : Dat) : datL x y = if y.of ≠ 0 then [100,97,116,97] ++ 32 :: (numL x ++ 32 :: (numL y.of ++ 32 :: (showL y.text.data.toList ++ [10]))) else []:=by
 unfold datL
 rw [show "data".toUTF8.data.toList = [100, 97, 116, 97] from rfl]
 simp only [lineL_cons,lineL_one]
theorem inoL_len {m : Img} (h : m.slim) (n : Nat) (hn : n < 100) : (inoL n (m.ino n)).length ≤ 200:=by
 obtain ⟨h1,h2,h3,h4⟩:=slim_ino h n
 have:=num_len h1; have:=num_len h2; have:=num_len h3; have:=num_len h4; have:=num_len (i64_nat hn)
 rw [inoL_eq]
 split
 ·simp only [List.length_append,List.length_cons,List.length_nil]; omega
 ·simp
theorem entL_len {m : Img} (h : m.slim) (d s : Nat) (hd : d < 100) (hs : s < 100) : (entL d s (m.ent d s)).length ≤ 10200:=by
 obtain ⟨h1,h2,h3⟩:=slim_ent h d s
 have:=num_len h1; have:=num_len h2; have:=num_len (i64_nat hd); have:=num_len (i64_nat hs)
 rw [entL_eq]
 split
 ·have : (m.ent d s).name.data.toList.length = (m.ent d s).name.size:=by simp
  simp only [List.length_append,List.length_cons,List.length_nil]; omega
 ·simp
theorem datL_len {m : Img} (h : m.slim) (x : Nat) (hx : x < 100) : (datL x (m.dat x)).length ≤ 30200:=by
 obtain ⟨h1,h2⟩:=slim_dat h x
 have:=num_len h1; have:=num_len (i64_nat hx)
 rw [datL_eq]
 split
 ·have:=showL_size (m.dat x).text.data.toList
  have : (m.dat x).text.data.toList.length = (m.dat x).text.size:=by simp
  simp only [List.length_append,List.length_cons,List.length_nil]; omega
 ·simp
def tInoT (m : Img) (n : Nat) : List UInt8:=catN n fun n=>inoL n (m.ino n)
def tRowT (m : Img) (d s : Nat) : List UInt8:=catN s fun s=>entL d s (m.ent d s)
def tDirT (m : Img) (d : Nat) : List UInt8:=catN d fun d=>tRowT m d 4
def tDatT (m : Img) (x : Nat) : List UInt8:=catN x fun x=>datL x (m.dat x)
theorem catN_le' {f : Nat → List UInt8} {c k : Nat} (h : ∀ i,i < k → (f i).length ≤ c) : (catN k f).length ≤ k * c:=by
 induction k with
 | zero=>simp [catN_zero]
 | succ k ih =>
  rw [catN_succ,List.length_append,Nat.add_mul,Nat.one_mul]
  have:=h k (by omega)
  have:=ih fun i hi=>h i (by omega)
  omega
theorem tInoT_le {m : Img} (h : m.slim) {n : Nat} (hn : n ≤ 8) : (tInoT m n).length ≤ 1600:=Nat.le_trans (catN_le' fun i hi=>inoL_len h i (by omega)) (by omega)
theorem tRowT_le {m : Img} (h : m.slim) {d s : Nat} (hd : d < 3) (hs : s ≤ 4) : (tRowT m d s).length ≤ 40800:=Nat.le_trans (catN_le' fun i hi=>entL_len h d i (by omega) (by omega)) (by omega)
theorem tDirT_le {m : Img} (h : m.slim) {d : Nat} (hd : d ≤ 3) : (tDirT m d).length ≤ 122400:=Nat.le_trans (catN_le' fun i hi=>tRowT_le h (by omega) (Nat.le_refl _)) (by omega)
theorem tDatT_le {m : Img} (h : m.slim) {x : Nat} (hx : x ≤ 9) : (tDatT m x).length ≤ 271800:=Nat.le_trans (catN_le' fun i hi=>datL_len h i (by omega)) (by omega)
abbrev tBld : Ty:=.cons tP (.cons tSl .unit)
abbrev tDesk : Ty:=.cons tBld (.cons tP .unit)
def strsOf : List AV → Option (List Str)
 | []=>some []
 | .str s :: r=>(strsOf r).map (s :: ·)
 | _=>none
def joinL (ws : List Str) (sep : Str) : List UInt8:=Lib.join (ws.map (·.data.toList)) sep.data.toList
def pJoin (l : List AV) (sep : ByteArray) : Option AV:=match strsOf l with
 | some ws=>if ws.length ≤ 1000000 ∧ (joinL ws sep).length ≤ 100000000 then some (.str ⟨(joinL ws sep).toArray⟩) else none
 | none=>none
def hasB (s : Str) (c : UInt8) : Bool:=decide (0 ≤ Lib.indexByte s.data.toList c)
def pContains : List AV → Option AV
 | [.str s,.str b]=>match b.data.toList with
  | [c]=>some (.bool (hasB s c))
  | _=>none
 | _=>none
def cutB (s : Str) (c : UInt8) : List Str:=Lib.splitB ⟨#[c]⟩ 0 (Lib.countB s ⟨#[c]⟩) s
def pSplit : List AV → Option (List AV)
 | [.str s,.str b]=>match b.data.toList with
  | [c]=>if s.size ≤ 1000000 then some ((cutB s c).map .str) else none
  | _=>none
 | _=>none
def atoiV (s : Str) : Int:=match Lib.atoiAll s.data.toList with
 | .ok v=>v
 | .range=>Lib.atoiSat s.data.toList
 | _=>0
def atoiE (s : Str) : Bool:=match Lib.atoiAll s.data.toList with
 | .ok _=>false
 | _=>true
def pAtoi : List AV → Option AV
 | [.str s]=>if s.size ≤ 1000000 then some (.int .i64 (atoiV s)) else none
 | _=>none
def pAtoiE : List AV → Option AV
 | [.str s]=>if s.size ≤ 1000000 then some (.iface (atoiE s)) else none
 | _=>none
def pOwn : List AV → Option AV
 | [.nilp,.ptr (.obj _) [0] t]=>if t = tBld then some (.bool true) else none
 | [.ptr (.obj i) [0] t,.ptr (.obj j) [0] u]=>if i = j ∧ t = tBld ∧ u = tBld then some (.bool true) else none
 | _=>none
def pUp : List AV → Option AV
 | [.ptr (.obj j) [0] t]=>if t = tBld then some (.ptr (.obj j) [] tDesk) else none
 | _=>none
def pBuf : List AV → Option AV
 | [.nilsl]=>some (.bool true)
 | [.sl (.obj _) 0 n]=>if n ≤ 1048576 then some (.bool true) else none
 | _=>none
namespace Fn
@[reducible] def desk_New.r0 : List MOp:=[⟨some 0,.mov (.c .nilp),none⟩]
@[reducible] def desk_New.r1 : List MOp:=[⟨some 1,.call false [] 285 [],none⟩,⟨some 2,.build (.cons (.cons tP (.cons tSl .unit)) (.cons tP .unit)) [(1,(.s 1))],none⟩,⟨some 3,.box true (.cons (.cons tP (.cons tSl .unit)) (.cons tP .unit)) (.s 2),none⟩,⟨some 0,.mov (.s 3),none⟩]
@[reducible] def desk_New.body : MC:=(.seq (.reg false desk_New.r0 [0]) (.seq (.reg false desk_New.r1 [1,2,3]) .ret))
@[reducible] def desk_New : MFun:={ params:=0,nfree:=0,res:=[.tmp 0],body:=desk_New.body }
@[reducible] def desk_Desk_Do.r0 : List MOp:=[⟨some 4,.mov (.c (.str ⟨#[]⟩)),none⟩,⟨some 5,.alloc false (.cons tI (.cons tI .unit)),none⟩]
@[reducible] def desk_Desk_Do.r1 : List MOp:=[⟨some 13,.mov (.s 1),none⟩,⟨some 14,.len false (.s 13),none⟩,⟨some 15,.bin .gtr (.s 14) (.c (.int .i64 150)),none⟩]
@[reducible] def desk_Desk_Do.r2 : List MOp:=[⟨some 16,.build (.cons tI (.cons tI .unit)) [(0,(.c (.int .i64 14))),(1,(.c (.int .i64 (-1))))],none⟩,⟨some 4,.mov (.c (.str ⟨#[]⟩)),none⟩,⟨none,.store (.cons tI (.cons tI .unit)) [] (.s 5) (.s 16),none⟩]
@[reducible] def desk_Desk_Do.r3 : List MOp:=[⟨some 17,.mov (.s 1),none⟩,⟨some 18,.len false (.s 17),none⟩,⟨some 19,.mov (.c (.int .i64 0)),none⟩]
@[reducible] def desk_Desk_Do.r4 : List MOp:=[⟨some 20,.bin .lss (.s 19) (.s 18),none⟩]
@[reducible] def desk_Desk_Do.r5 : List MOp:=[⟨some 21,.mov (.s 19),none⟩,⟨some 22,.sidx false tS (.s 17) (.s 19),none⟩,⟨some 23,.load false none tS (.s 22),none⟩,⟨some 6,.mov (.s 21),none⟩,⟨some 7,.mov (.s 23),none⟩]
@[reducible] def desk_Desk_Do.r6 : List MOp:=[⟨some 24,.mov (.s 7),none⟩,⟨some 25,.call false [] 413 [(.s 24),(.c (.str ⟨#[10]⟩))],none⟩]
@[reducible] def desk_Desk_Do.r7 : List MOp:=[⟨some 26,.mov (.s 6),none⟩,⟨some 27,.build (.cons tI (.cons tI .unit)) [(0,(.c (.int .i64 15))),(1,(.s 26))],none⟩,⟨some 4,.mov (.c (.str ⟨#[]⟩)),none⟩,⟨none,.store (.cons tI (.cons tI .unit)) [] (.s 5) (.s 27),none⟩]
@[reducible] def desk_Desk_Do.r8 : List MOp:=[⟨some 28,.bin .add (.s 19) (.c (.int .i64 1)),none⟩,⟨some 19,.mov (.s 28),none⟩]
@[reducible] def desk_Desk_Do.r9 : List MOp:=[⟨some 29,.mov (.s 0),none⟩,⟨some 30,.nilck (.s 29),none⟩,⟨some 31,.fld (.cons (.cons tP (.cons tSl .unit)) (.cons tP .unit)) 0 (.cons tP (.cons tSl .unit)) (.s 30),none⟩,⟨some 32,.call false [] 412 [(.s 31)],none⟩]
@[reducible] def desk_Desk_Do.r10 : List MOp:=[⟨some 33,.mov (.s 1),none⟩,⟨some 34,.len false (.s 33),none⟩,⟨some 35,.mov (.c (.int .i64 0)),none⟩]
@[reducible] def desk_Desk_Do.r11 : List MOp:=[⟨some 36,.bin .lss (.s 35) (.s 34),none⟩]
@[reducible] def desk_Desk_Do.r12 : List MOp:=[⟨some 37,.sidx false tS (.s 33) (.s 35),none⟩,⟨some 38,.load false none tS (.s 37),none⟩,⟨some 9,.mov (.s 38),none⟩]
@[reducible] def desk_Desk_Do.r13 : List MOp:=[⟨some 39,.mov (.s 9),none⟩,⟨some 40,.call false [] 409 [(.s 39),(.c (.str ⟨#[32]⟩))],none⟩,⟨some 41,.call false [] 410 [(.s 40),(.f 411)],none⟩,⟨some 10,.mov (.s 41),none⟩]
@[reducible] def desk_Desk_Do.r14 : List MOp:=[⟨some 42,.mov (.s 10),none⟩,⟨some 43,.len false (.s 42),none⟩,⟨some 44,.bin .eql (.s 43) (.c (.int .i64 0)),none⟩]
@[reducible] def desk_Desk_Do.r15 : List MOp:=[⟨some 46,.mov (.s 10),none⟩,⟨some 47,.call false [] 408 [(.s 46)],none⟩,⟨some 45,.mov (.s 47),none⟩,⟨some 48,.ext (.s 45) 0,none⟩,⟨some 49,.ext (.s 45) 1,none⟩,⟨some 11,.alloc false tStep,none⟩,⟨none,.store tStep [] (.s 11) (.s 48),none⟩,⟨some 12,.mov (.s 49),none⟩]
@[reducible] def desk_Desk_Do.r16 : List MOp:=[⟨some 50,.mov (.s 12),none⟩]
@[reducible] def desk_Desk_Do.r17 : List MOp:=[⟨some 51,.mov (.s 0),none⟩,⟨some 52,.load false none tStep (.s 11),none⟩,⟨some 53,.call false [] 405 [(.s 51),(.s 52)],none⟩]
@[reducible] def desk_Desk_Do.r18 : List MOp:=[⟨some 54,.mov (.s 0),none⟩,⟨some 55,.mov (.s 10),none⟩,⟨some 56,.call false [] 407 [(.s 54),(.s 55)],none⟩,⟨some 57,.un .not (.s 56),none⟩]
@[reducible] def desk_Desk_Do.r19 : List MOp:=[⟨some 58,.mov (.s 0),none⟩,⟨some 59,.bslice false tS 1 [(0,(.c (.str ⟨#[119,104,97,116]⟩)))],none⟩,⟨some 60,.call false [] 406 [(.s 58),(.s 59)],none⟩]
@[reducible] def desk_Desk_Do.r20 : List MOp:=[⟨some 61,.bin .add (.s 35) (.c (.int .i64 1)),none⟩,⟨some 35,.mov (.s 61),none⟩]
@[reducible] def desk_Desk_Do.r21 : List MOp:=[⟨some 62,.mov (.s 0),none⟩,⟨some 63,.nilck (.s 62),none⟩,⟨some 64,.fld (.cons (.cons tP (.cons tSl .unit)) (.cons tP .unit)) 0 (.cons tP (.cons tSl .unit)) (.s 63),none⟩,⟨some 65,.call false [] 404 [(.s 64)],none⟩,⟨some 66,.build (.cons tI (.cons tI .unit)) [],none⟩,⟨some 4,.mov (.s 65),none⟩,⟨none,.store (.cons tI (.cons tI .unit)) [] (.s 5) (.s 66),none⟩]
@[reducible] def desk_Desk_Do.body : MC:=(.seq (.reg false desk_Desk_Do.r0 [4]) (.seq (.seq (.reg false desk_Desk_Do.r1 [13,14]) (.cond (.s 15) (.seq (.reg false desk_Desk_Do.r2 [16]) .ret) .skip)) (.seq (.seq (.reg false desk_Desk_Do.r3 []) (.block 0 (.loop [0,1,5,17,18,19] [5,18] (.seq (.reg false desk_Desk_Do.r4 []) (.seq (.cond (.s 20) .skip (.exit 0)) (.seq (.block 1 (.seq (.reg false desk_Desk_Do.r5 [21,22,23]) (.seq (.reg false desk_Desk_Do.r6 [7,24]) (.cond (.s 25) (.seq (.reg false desk_Desk_Do.r7 [6,26,27]) .ret) .skip)))) (.reg false desk_Desk_Do.r8 [28]))))))) (.seq (.reg false desk_Desk_Do.r9 [29,30,31,32]) (.seq (.seq (.reg false desk_Desk_Do.r10 [1]) (.block 2 (.loop [0,5,33,34,35] [5,34] (.seq (.reg false desk_Desk_Do.r11 []) (.seq (.cond (.s 36) .skip (.exit 2)) (.seq (.block 3 (.seq (.reg false desk_Desk_Do.r12 [37,38]) (.seq (.reg false desk_Desk_Do.r13 [9,39,40,41]) (.seq (.seq (.reg false desk_Desk_Do.r14 [42,43]) (.cond (.s 44) (.exit 3) .skip)) (.seq (.reg false desk_Desk_Do.r15 [45,46,47,48,49]) (.seq (.reg false desk_Desk_Do.r16 [12]) (.cond (.s 50) (.reg false desk_Desk_Do.r17 [11,51,52,53]) (.seq (.reg false desk_Desk_Do.r18 [10,54,55,56]) (.cond (.s 57) (.reg false desk_Desk_Do.r19 [58,59,60]) .skip))))))))) (.reg false desk_Desk_Do.r20 [61]))))))) (.seq (.reg false desk_Desk_Do.r21 [0,62,63,64,65,66]) .ret))))))
@[reducible] def desk_Desk_Do : MFun:={ params:=2,nfree:=0,res:=[.tmp 4,.cell 5 (.cons tI (.cons tI .unit))],body:=desk_Desk_Do.body }
@[reducible] def w_slow.r0 : List MOp:=[⟨some 2,.mov (.c (.bool false)),none⟩]
@[reducible] def w_slow.r1 : List MOp:=[⟨some 3,.mov (.c (.int .i64 0)),none⟩]
@[reducible] def w_slow.r2 : List MOp:=[⟨some 4,.mov (.c (.int .i64 0)),none⟩]
@[reducible] def w_slow.r3 : List MOp:=[⟨some 5,.mov (.s 4),none⟩,⟨some 6,.mov (.s 0),none⟩,⟨some 7,.len false (.s 6),none⟩,⟨some 8,.bin .lss (.s 5) (.s 7),none⟩]
@[reducible] def w_slow.r4 : List MOp:=[⟨some 9,.mov (.s 4),none⟩,⟨some 10,.bin .add (.s 9) (.c (.int .i64 1)),none⟩,⟨some 4,.mov (.s 10),none⟩]
@[reducible] def w_slow.r5 : List MOp:=[⟨some 11,.mov (.s 3),none⟩,⟨some 12,.mov (.s 0),none⟩,⟨some 13,.mov (.s 4),none⟩,⟨some 14,.sidx false tS (.s 12) (.s 13),none⟩,⟨some 15,.load false none tS (.s 14),none⟩,⟨some 16,.len true (.s 15),none⟩,⟨some 17,.bin .add (.s 11) (.s 16),none⟩,⟨some 3,.mov (.s 17),none⟩]
@[reducible] def w_slow.r6 : List MOp:=[⟨some 18,.mov (.s 3),none⟩,⟨some 19,.bin .gtr (.s 18) (.c (.int .i64 9000)),none⟩]
@[reducible] def w_slow.r7 : List MOp:=[⟨some 2,.mov (.c (.bool true)),none⟩]
@[reducible] def w_slow.r8 : List MOp:=[⟨some 2,.mov (.c (.bool false)),none⟩]
@[reducible] def w_slow.body : MC:=(.seq (.reg false w_slow.r0 [2]) (.seq (.reg false w_slow.r1 []) (.seq (.seq (.reg false w_slow.r2 []) (.block 0 (.loop [0,3,4] [] (.seq (.seq (.reg false w_slow.r3 [5,6,7]) (.cond (.s 8) .skip (.exit 0))) (.seq (.block 1 (.seq (.reg false w_slow.r5 [11,12,13,14,15,16,17]) (.seq (.reg false w_slow.r6 [18]) (.cond (.s 19) (.seq (.reg false w_slow.r7 []) .ret) .skip)))) (.reg false w_slow.r4 [9,10])))))) (.seq (.reg false w_slow.r8 []) .ret))))
@[reducible] def w_slow : MFun:={ params:=1,nfree:=0,res:=[.tmp 2],body:=w_slow.body }
@[reducible] def w_deskBegun.r0 : List MOp:=[⟨some 0,.mov (.c (.bool false)),none⟩]
@[reducible] def w_deskBegun.r1 : List MOp:=[⟨some 4,.call false [] 400 [],none⟩,⟨some 5,.bslice false tS 14 [(0,(.c (.str ⟨#[109,97,107,101,32,48,32,97]⟩))),(1,(.c (.str ⟨#[112,117,116,32,48,32,97,32,49,32,61,120]⟩))),(2,(.c (.str ⟨#[114,101,97,100,32,48,32,97,32,49]⟩))),(3,(.c (.str ⟨#[119,114,105,116,101,32,48]⟩))),(4,(.c (.str ⟨#[100,105,115,107]⟩))),(5,(.c (.str ⟨#[100,105,114,116,121]⟩))),(6,(.c (.str ⟨#[115,121,110,99]⟩))),(7,(.c (.str ⟨#[115,117,114,101,32,48,32,97]⟩))),(8,(.c (.str ⟨#[108,105,110,107,32,48,32,97,32,50,32,98]⟩))),(9,(.c (.str ⟨#[115,97,109,101,32,48,32,97,32,50,32,98]⟩))),(10,(.c (.str ⟨#[99,114,97,115,104]⟩))),(11,(.c (.str ⟨#[108,105,115,116,32,50]⟩))),(12,(.c (.str ⟨#[108,111,115,116]⟩))),(13,(.c (.str ⟨#[120]⟩)))],none⟩,⟨some 6,.call false [] 401 [(.s 4),(.s 5)],none⟩,⟨some 3,.mov (.s 6),none⟩,⟨some 7,.ext (.s 3) 0,none⟩,⟨some 8,.ext (.s 3) 1,none⟩,⟨some 2,.alloc false (.cons tI (.cons tI .unit)),none⟩,⟨some 1,.mov (.s 7),none⟩,⟨none,.store (.cons tI (.cons tI .unit)) [] (.s 2) (.s 8),none⟩]
@[reducible] def w_deskBegun.r2 : List MOp:=[⟨some 9,.fld (.cons tI (.cons tI .unit)) 0 tI (.s 2),none⟩,⟨some 10,.load false none tI (.s 9),none⟩,⟨some 11,.bin .eql (.s 10) (.c (.int .i64 0)),none⟩,⟨some 12,.mov (.s 11),none⟩,⟨some 13,.mov (.s 1),some (12,true)⟩,⟨some 14,.bin .eql (.s 13) (.c (.str ⟨#[111,107,10,111,107,10,61,120,10,111,107,10,105,110,111,100,101,32,48,32,49,32,49,32,45,49,32,45,49,10,101,110,100,10,100,105,114,116,121,32,48,32,50,32,53,10,111,107,10,116,114,117,101,10,111,107,10,116,114,117,101,10,111,107,10,110,97,109,101,115,10,108,111,115,116,32,49,32,48,32,48,32,48,10,119,104,97,116,10]⟩)),some (12,true)⟩,⟨some 15,.pick (.s 12) (.s 14) (.c (.bool false)),none⟩,⟨some 0,.mov (.s 15),none⟩]
@[reducible] def w_deskBegun.body : MC:=(.seq (.reg false w_deskBegun.r0 [0]) (.seq (.reg false w_deskBegun.r1 [3,4,5,6,7,8]) (.seq (.reg false w_deskBegun.r2 [1,2,9,10,11,12,13,14,15]) .ret)))
@[reducible] def w_deskBegun : MFun:={ params:=0,nfree:=0,res:=[.tmp 0],body:=w_deskBegun.body }
@[reducible] noncomputable def strings_Builder_String.r0 : List MOp:=[⟨some 1,.fld tBld 1 tSl (.s 0),none⟩,⟨some 2,.load false none tSl (.s 1),none⟩,⟨some 5,.prim pUp [(.s 0)],none⟩,⟨some 6,.load false none tDesk (.s 5),none⟩,⟨some 4,.prim pBuf [(.s 2)],none⟩,⟨some 3,.tostr (.s 2),none⟩,⟨none,.drop (.s 2),none⟩]
@[reducible] noncomputable def strings_Builder_String.body : MC:=(.seq (.reg false strings_Builder_String.r0 []) .ret)
@[reducible] noncomputable def strings_Builder_String : MFun:={ params:=1,nfree:=0,res:=[.tmp 3],body:=strings_Builder_String.body }
@[reducible] def desk_Desk_step.r0 : List MOp:=[⟨some 3,.box false tStep (.s 1),none⟩]
@[reducible] def desk_Desk_step.r1 : List MOp:=[⟨some 5,.mov (.s 0),none⟩,⟨some 6,.nilck (.s 5),none⟩,⟨some 7,.fld (.cons (.cons tP (.cons tSl .unit)) (.cons tP .unit)) 1 tP (.s 6),none⟩,⟨some 8,.load false none tP (.s 7),none⟩,⟨some 9,.load false none tStep (.s 3),none⟩,⟨some 10,.call false [] 281 [(.s 8),(.s 9)],none⟩,⟨some 4,.mov (.s 10),none⟩]
@[reducible] def desk_Desk_step.r2 : List MOp:=[⟨some 11,.mov (.s 4),none⟩,⟨some 12,.bin .neq (.s 11) (.c (.int .i64 0)),none⟩]
@[reducible] def desk_Desk_step.r3 : List MOp:=[⟨some 13,.mov (.s 0),none⟩,⟨some 14,.mov (.s 4),none⟩,⟨some 15,.call false [] 414 [(.s 14)],none⟩,⟨some 16,.bslice false tS 2 [(0,(.c (.str ⟨#[110,111]⟩))),(1,(.s 15))],none⟩,⟨some 17,.call false [] 406 [(.s 13),(.s 16)],none⟩]
@[reducible] def desk_Desk_step.r4 : List MOp:=[⟨some 18,.mov (.s 0),none⟩,⟨some 19,.bslice false tS 1 [(0,(.c (.str ⟨#[111,107]⟩)))],none⟩,⟨some 20,.call false [] 406 [(.s 18),(.s 19)],none⟩]
@[reducible] def desk_Desk_step.body : MC:=(.seq (.reg false desk_Desk_step.r0 [1]) (.seq (.seq (.reg true desk_Desk_step.r1 [3,5,6,7,8,9,10]) (.seq (.reg false desk_Desk_step.r2 [11]) (.cond (.s 12) (.seq (.reg false desk_Desk_step.r3 [0,4,13,14,15,16,17]) .ret) .skip))) (.reg false desk_Desk_step.r4 [0,18,19,20])))
@[reducible] def desk_Desk_step : MFun:={ params:=2,nfree:=0,res:=[],body:=desk_Desk_step.body }
@[reducible] def desk_Desk_say.r0 : List MOp:=[⟨some 4,.mov (.s 0),none⟩,⟨some 5,.nilck (.s 4),none⟩,⟨some 6,.fld (.cons (.cons tP (.cons tSl .unit)) (.cons tP .unit)) 0 (.cons tP (.cons tSl .unit)) (.s 5),none⟩,⟨some 7,.mov (.s 1),none⟩,⟨some 8,.call false [] 416 [(.s 7),(.c (.str ⟨#[32]⟩))],none⟩,⟨some 9,.bin .add (.s 8) (.c (.str ⟨#[10]⟩)),none⟩,⟨some 10,.call false [] 417 [(.s 6),(.s 9)],none⟩]
@[reducible] def desk_Desk_say.body : MC:=(.reg true desk_Desk_say.r0 [0,1,4,5,6,7,8,9,10])
@[reducible] def desk_Desk_say : MFun:={ params:=2,nfree:=0,res:=[],body:=desk_Desk_say.body }
@[reducible] def desk_Desk_ask.r0 : List MOp:=[⟨some 4,.mov (.c (.bool false)),none⟩]
@[reducible] def desk_Desk_ask.r1 : List MOp:=[⟨some 4,.mov (.c (.bool false)),none⟩]
@[reducible] def desk_Desk_ask.r2 : List MOp:=[⟨some 10,.mov (.s 1),none⟩,⟨some 11,.sidx false tS (.s 10) (.c (.int .i64 0)),none⟩,⟨some 12,.load false none tS (.s 11),none⟩,⟨some 13,.bin .eql (.s 12) (.c (.str ⟨#[114,101,97,100]⟩)),none⟩,⟨some 14,.mov (.s 13),none⟩,⟨some 15,.mov (.s 1),some (14,true)⟩,⟨some 16,.len false (.s 15),some (14,true)⟩,⟨some 17,.bin .eql (.s 16) (.c (.int .i64 4)),some (14,true)⟩,⟨some 18,.pick (.s 14) (.s 17) (.c (.bool false)),none⟩,⟨some 9,.mov (.s 18),none⟩]
@[reducible] def desk_Desk_ask.r3 : List MOp:=[⟨some 19,.mov (.s 0),none⟩,⟨some 20,.mov (.s 1),none⟩,⟨some 21,.slice none tS (.s 20) (some (.c (.int .i64 1))) none none,none⟩,⟨some 22,.call false [] 421 [(.s 19),(.s 21)],none⟩]
@[reducible] def desk_Desk_ask.r4 : List MOp:=[⟨some 24,.mov (.s 1),none⟩,⟨some 25,.sidx false tS (.s 24) (.c (.int .i64 0)),none⟩,⟨some 26,.load false none tS (.s 25),none⟩,⟨some 27,.bin .eql (.s 26) (.c (.str ⟨#[108,105,115,116]⟩)),none⟩,⟨some 28,.mov (.s 27),none⟩,⟨some 29,.mov (.s 1),some (28,true)⟩,⟨some 30,.len false (.s 29),some (28,true)⟩,⟨some 31,.bin .eql (.s 30) (.c (.int .i64 2)),some (28,true)⟩,⟨some 32,.pick (.s 28) (.s 31) (.c (.bool false)),none⟩,⟨some 23,.mov (.s 32),none⟩]
@[reducible] def desk_Desk_ask.r5 : List MOp:=[⟨some 33,.mov (.s 0),none⟩,⟨some 34,.bslice false tS 1 [(0,(.c (.str ⟨#[110,97,109,101,115]⟩)))],none⟩,⟨some 35,.mov (.s 0),none⟩,⟨some 36,.nilck (.s 35),none⟩,⟨some 37,.fld (.cons (.cons tP (.cons tSl .unit)) (.cons tP .unit)) 1 tP (.s 36),none⟩,⟨some 38,.load false none tP (.s 37),none⟩,⟨some 39,.nilck (.s 38),none⟩,⟨some 40,.fld tLife 0 tP (.s 39),none⟩,⟨some 41,.load false none tP (.s 40),none⟩,⟨some 42,.mov (.s 1),none⟩,⟨some 43,.sidx false tS (.s 42) (.c (.int .i64 1)),none⟩,⟨some 44,.load false none tS (.s 43),none⟩,⟨some 45,.call true [34,47] 418 [(.s 44)],none⟩,⟨some 46,.call false [34,47] 272 [(.s 41),(.s 45)],none⟩,⟨some 47,.append false [] tS (.s 34) (.s 46),none⟩,⟨some 48,.call false [] 406 [(.s 33),(.s 47)],none⟩]
@[reducible] def desk_Desk_ask.r6 : List MOp:=[⟨some 50,.mov (.s 1),none⟩,⟨some 51,.sidx false tS (.s 50) (.c (.int .i64 0)),none⟩,⟨some 52,.load false none tS (.s 51),none⟩,⟨some 53,.bin .eql (.s 52) (.c (.str ⟨#[115,97,109,101]⟩)),none⟩,⟨some 54,.mov (.s 53),none⟩,⟨some 55,.mov (.s 1),some (54,true)⟩,⟨some 56,.len false (.s 55),some (54,true)⟩,⟨some 57,.bin .eql (.s 56) (.c (.int .i64 5)),some (54,true)⟩,⟨some 58,.pick (.s 54) (.s 57) (.c (.bool false)),none⟩,⟨some 49,.mov (.s 58),none⟩]
@[reducible] def desk_Desk_ask.r7 : List MOp:=[⟨some 59,.mov (.s 0),none⟩,⟨some 60,.mov (.s 0),none⟩,⟨some 61,.nilck (.s 60),none⟩,⟨some 62,.fld (.cons (.cons tP (.cons tSl .unit)) (.cons tP .unit)) 1 tP (.s 61),none⟩,⟨some 63,.load false none tP (.s 62),none⟩,⟨some 64,.nilck (.s 63),none⟩,⟨some 65,.fld tLife 0 tP (.s 64),none⟩,⟨some 66,.load false none tP (.s 65),none⟩,⟨some 67,.mov (.s 1),none⟩,⟨some 68,.sidx false tS (.s 67) (.c (.int .i64 1)),none⟩,⟨some 69,.load false none tS (.s 68),none⟩,⟨some 70,.call true [83] 418 [(.s 69)],none⟩,⟨some 71,.mov (.s 1),none⟩,⟨some 72,.sidx false tS (.s 71) (.c (.int .i64 2)),none⟩,⟨some 73,.load false none tS (.s 72),none⟩,⟨some 74,.mov (.s 1),none⟩,⟨some 75,.sidx false tS (.s 74) (.c (.int .i64 3)),none⟩,⟨some 76,.load false none tS (.s 75),none⟩,⟨some 77,.call true [83] 418 [(.s 76)],none⟩,⟨some 78,.mov (.s 1),none⟩,⟨some 79,.sidx false tS (.s 78) (.c (.int .i64 4)),none⟩,⟨some 80,.load false none tS (.s 79),none⟩,⟨some 81,.call false [83] 266 [(.s 66),(.s 70),(.s 73),(.s 77),(.s 80)],none⟩,⟨some 82,.call false [83] 422 [(.s 81)],none⟩,⟨some 83,.bslice false tS 1 [(0,(.s 82))],none⟩,⟨some 84,.call false [] 406 [(.s 59),(.s 83)],none⟩]
@[reducible] def desk_Desk_ask.r8 : List MOp:=[⟨some 86,.mov (.s 1),none⟩,⟨some 87,.sidx false tS (.s 86) (.c (.int .i64 0)),none⟩,⟨some 88,.load false none tS (.s 87),none⟩,⟨some 89,.bin .eql (.s 88) (.c (.str ⟨#[115,117,114,101]⟩)),none⟩,⟨some 90,.mov (.s 89),none⟩,⟨some 91,.mov (.s 1),some (90,true)⟩,⟨some 92,.len false (.s 91),some (90,true)⟩,⟨some 93,.bin .eql (.s 92) (.c (.int .i64 3)),some (90,true)⟩,⟨some 94,.pick (.s 90) (.s 93) (.c (.bool false)),none⟩,⟨some 85,.mov (.s 94),none⟩]
@[reducible] def desk_Desk_ask.r9 : List MOp:=[⟨some 95,.mov (.s 0),none⟩,⟨some 96,.mov (.s 0),none⟩,⟨some 97,.nilck (.s 96),none⟩,⟨some 98,.fld (.cons (.cons tP (.cons tSl .unit)) (.cons tP .unit)) 1 tP (.s 97),none⟩,⟨some 99,.load false none tP (.s 98),none⟩,⟨some 100,.nilck (.s 99),none⟩,⟨some 101,.fld tLife 0 tP (.s 100),none⟩,⟨some 102,.load false none tP (.s 101),none⟩,⟨some 103,.mov (.s 1),none⟩,⟨some 104,.sidx false tS (.s 103) (.c (.int .i64 1)),none⟩,⟨some 105,.load false none tS (.s 104),none⟩,⟨some 106,.call true [112] 418 [(.s 105)],none⟩,⟨some 107,.mov (.s 1),none⟩,⟨some 108,.sidx false tS (.s 107) (.c (.int .i64 2)),none⟩,⟨some 109,.load false none tS (.s 108),none⟩,⟨some 110,.call false [112] 268 [(.s 102),(.s 106),(.s 109)],none⟩,⟨some 111,.call false [112] 422 [(.s 110)],none⟩,⟨some 112,.bslice false tS 1 [(0,(.s 111))],none⟩,⟨some 113,.call false [] 406 [(.s 95),(.s 112)],none⟩]
@[reducible] def desk_Desk_ask.r10 : List MOp:=[⟨some 115,.mov (.s 1),none⟩,⟨some 116,.sidx false tS (.s 115) (.c (.int .i64 0)),none⟩,⟨some 117,.load false none tS (.s 116),none⟩,⟨some 118,.bin .eql (.s 117) (.c (.str ⟨#[100,105,115,107]⟩)),none⟩,⟨some 119,.mov (.s 118),none⟩,⟨some 120,.mov (.s 1),some (119,true)⟩,⟨some 121,.len false (.s 120),some (119,true)⟩,⟨some 122,.bin .eql (.s 121) (.c (.int .i64 1)),some (119,true)⟩,⟨some 123,.pick (.s 119) (.s 122) (.c (.bool false)),none⟩,⟨some 114,.mov (.s 123),none⟩]
@[reducible] def desk_Desk_ask.r11 : List MOp:=[⟨some 124,.mov (.s 0),none⟩,⟨some 125,.nilck (.s 124),none⟩,⟨some 126,.fld (.cons (.cons tP (.cons tSl .unit)) (.cons tP .unit)) 1 tP (.s 125),none⟩,⟨some 127,.load false none tP (.s 126),none⟩,⟨some 128,.nilck (.s 127),none⟩,⟨some 129,.fld tLife 0 tP (.s 128),none⟩,⟨some 130,.load false none tP (.s 129),none⟩,⟨some 131,.nilck (.s 130),none⟩,⟨some 132,.fld tFiles 0 tP (.s 131),none⟩,⟨some 133,.load false none tP (.s 132),none⟩,⟨some 134,.call false [] 203 [(.s 133)],none⟩,⟨some 5,.alloc false tImage,none⟩,⟨none,.store tImage [] (.s 5) (.s 134),none⟩]
@[reducible] def desk_Desk_ask.r12 : List MOp:=[⟨some 135,.mov (.s 0),none⟩,⟨some 136,.nilck (.s 135),none⟩,⟨some 137,.fld (.cons (.cons tP (.cons tSl .unit)) (.cons tP .unit)) 0 (.cons tP (.cons tSl .unit)) (.s 136),none⟩,⟨some 138,.call false [] 340 [(.s 5)],none⟩,⟨some 139,.call false [] 417 [(.s 137),(.s 138)],none⟩]
@[reducible] def desk_Desk_ask.r13 : List MOp:=[⟨some 140,.mov (.s 0),none⟩,⟨some 141,.bslice false tS 1 [(0,(.c (.str ⟨#[101,110,100]⟩)))],none⟩,⟨some 142,.call false [] 406 [(.s 140),(.s 141)],none⟩]
@[reducible] def desk_Desk_ask.r14 : List MOp:=[⟨some 144,.mov (.s 1),none⟩,⟨some 145,.sidx false tS (.s 144) (.c (.int .i64 0)),none⟩,⟨some 146,.load false none tS (.s 145),none⟩,⟨some 147,.bin .eql (.s 146) (.c (.str ⟨#[100,105,114,116,121]⟩)),none⟩,⟨some 148,.mov (.s 147),none⟩,⟨some 149,.mov (.s 1),some (148,true)⟩,⟨some 150,.len false (.s 149),some (148,true)⟩,⟨some 151,.bin .eql (.s 150) (.c (.int .i64 1)),some (148,true)⟩,⟨some 152,.pick (.s 148) (.s 151) (.c (.bool false)),none⟩,⟨some 143,.mov (.s 152),none⟩]
@[reducible] def desk_Desk_ask.r15 : List MOp:=[⟨some 6,.mov (.c (.str ⟨#[100,105,114,116,121]⟩)),none⟩]
@[reducible] def desk_Desk_ask.r16 : List MOp:=[⟨some 153,.mov (.c (.int .i64 0)),none⟩]
@[reducible] def desk_Desk_ask.r17 : List MOp:=[⟨some 154,.bin .lss (.s 153) (.c (.int .i64 14)),none⟩]
@[reducible] def desk_Desk_ask.r18 : List MOp:=[⟨some 155,.mov (.s 153),none⟩,⟨some 7,.mov (.s 155),none⟩]
@[reducible] def desk_Desk_ask.r19 : List MOp:=[⟨some 156,.mov (.s 0),none⟩,⟨some 157,.nilck (.s 156),none⟩,⟨some 158,.fld (.cons (.cons tP (.cons tSl .unit)) (.cons tP .unit)) 1 tP (.s 157),none⟩,⟨some 159,.load false none tP (.s 158),none⟩,⟨some 160,.nilck (.s 159),none⟩,⟨some 161,.fld tLife 0 tP (.s 160),none⟩,⟨some 162,.load false none tP (.s 161),none⟩,⟨some 163,.nilck (.s 162),none⟩,⟨some 164,.fld tFiles 0 tP (.s 163),none⟩,⟨some 165,.load false none tP (.s 164),none⟩,⟨some 166,.mov (.s 7),none⟩,⟨some 167,.call false [] 204 [(.s 165),(.s 166)],none⟩]
@[reducible] def desk_Desk_ask.r20 : List MOp:=[⟨some 168,.mov (.s 6),none⟩,⟨some 169,.mov (.s 7),none⟩,⟨some 170,.call false [] 414 [(.s 169)],none⟩,⟨some 171,.bin .add (.c (.str ⟨#[32]⟩)) (.s 170),none⟩,⟨some 172,.bin .add (.s 168) (.s 171),none⟩,⟨some 6,.mov (.s 172),none⟩]
@[reducible] def desk_Desk_ask.r21 : List MOp:=[⟨some 173,.bin .add (.s 153) (.c (.int .i64 1)),none⟩,⟨some 153,.mov (.s 173),none⟩]
@[reducible] def desk_Desk_ask.r22 : List MOp:=[⟨some 174,.mov (.s 0),none⟩,⟨some 175,.mov (.s 6),none⟩,⟨some 176,.bslice false tS 1 [(0,(.s 175))],none⟩,⟨some 177,.call false [] 406 [(.s 174),(.s 176)],none⟩]
@[reducible] def desk_Desk_ask.r23 : List MOp:=[⟨some 179,.mov (.s 1),none⟩,⟨some 180,.sidx false tS (.s 179) (.c (.int .i64 0)),none⟩,⟨some 181,.load false none tS (.s 180),none⟩,⟨some 182,.bin .eql (.s 181) (.c (.str ⟨#[108,111,115,116]⟩)),none⟩,⟨some 183,.mov (.s 182),none⟩,⟨some 184,.mov (.s 1),some (183,true)⟩,⟨some 185,.len false (.s 184),some (183,true)⟩,⟨some 186,.bin .eql (.s 185) (.c (.int .i64 1)),some (183,true)⟩,⟨some 187,.pick (.s 183) (.s 186) (.c (.bool false)),none⟩,⟨some 178,.mov (.s 187),none⟩]
@[reducible] def desk_Desk_ask.r24 : List MOp:=[⟨some 188,.mov (.s 0),none⟩,⟨some 189,.nilck (.s 188),none⟩,⟨some 190,.fld (.cons (.cons tP (.cons tSl .unit)) (.cons tP .unit)) 1 tP (.s 189),none⟩,⟨some 191,.load false none tP (.s 190),none⟩,⟨some 192,.call false [] 284 [(.s 191)],none⟩,⟨some 8,.alloc false tLost,none⟩,⟨none,.store tLost [] (.s 8) (.s 192),none⟩]
@[reducible] def desk_Desk_ask.r25 : List MOp:=[⟨some 193,.mov (.s 0),none⟩,⟨some 194,.mov (.s 0),none⟩,⟨some 195,.nilck (.s 194),none⟩,⟨some 196,.fld (.cons (.cons tP (.cons tSl .unit)) (.cons tP .unit)) 1 tP (.s 195),none⟩,⟨some 197,.load false none tP (.s 196),none⟩,⟨some 198,.call true [209] 283 [(.s 197)],none⟩,⟨some 199,.call true [209] 414 [(.s 198)],none⟩,⟨some 200,.fld tLost 0 tI (.s 8),none⟩,⟨some 201,.load false none tI (.s 200),none⟩,⟨some 202,.call true [209] 414 [(.s 201)],none⟩,⟨some 203,.fld tLost 1 tI (.s 8),none⟩,⟨some 204,.load false none tI (.s 203),none⟩,⟨some 205,.call true [209] 414 [(.s 204)],none⟩,⟨some 206,.fld tLost 2 tI (.s 8),none⟩,⟨some 207,.load false none tI (.s 206),none⟩,⟨some 208,.call false [209] 414 [(.s 207)],none⟩,⟨some 209,.bslice false tS 5 [(0,(.c (.str ⟨#[108,111,115,116]⟩))),(1,(.s 199)),(2,(.s 202)),(3,(.s 205)),(4,(.s 208))],none⟩,⟨some 210,.call false [] 406 [(.s 193),(.s 209)],none⟩]
@[reducible] def desk_Desk_ask.r26 : List MOp:=[⟨some 4,.mov (.c (.bool true)),none⟩]
@[reducible] def desk_Desk_ask.body : MC:=(.seq (.reg false desk_Desk_ask.r0 [4]) (.seq (.block 0 (.seq (.reg false desk_Desk_ask.r2 [10,11,12,13,14,15,16,17,18]) (.cond (.s 9) (.reg false desk_Desk_ask.r3 [0,1,19,20,21,22]) (.seq (.reg false desk_Desk_ask.r4 [24,25,26,27,28,29,30,31,32]) (.cond (.s 23) (.reg true desk_Desk_ask.r5 [0,1,33,34,35,36,37,38,39,40,41,42,43,44,45,46,47,48]) (.seq (.reg false desk_Desk_ask.r6 [50,51,52,53,54,55,56,57,58]) (.cond (.s 49) (.reg true desk_Desk_ask.r7 [0,1,59,60,61,62,63,64,65,66,67,68,69,70,71,72,73,74,75,76,77,78,79,80,81,82,83,84]) (.seq (.reg false desk_Desk_ask.r8 [86,87,88,89,90,91,92,93,94]) (.cond (.s 85) (.reg true desk_Desk_ask.r9 [0,1,95,96,97,98,99,100,101,102,103,104,105,106,107,108,109,110,111,112,113]) (.seq (.reg false desk_Desk_ask.r10 [115,116,117,118,119,120,121,122,123]) (.cond (.s 114) (.seq (.reg false desk_Desk_ask.r11 [124,125,126,127,128,129,130,131,132,133,134]) (.seq (.reg true desk_Desk_ask.r12 [5,135,136,137,138,139]) (.reg false desk_Desk_ask.r13 [0,140,141,142]))) (.seq (.reg false desk_Desk_ask.r14 [144,145,146,147,148,149,150,151,152]) (.cond (.s 143) (.seq (.reg false desk_Desk_ask.r15 []) (.seq (.seq (.reg false desk_Desk_ask.r16 []) (.block 1 (.loop [0,6,153] [] (.seq (.reg false desk_Desk_ask.r17 []) (.seq (.cond (.s 154) .skip (.exit 1)) (.seq (.block 2 (.seq (.reg false desk_Desk_ask.r18 [155]) (.seq (.reg false desk_Desk_ask.r19 [156,157,158,159,160,161,162,163,164,165,166]) (.cond (.s 167) (.reg false desk_Desk_ask.r20 [7,168,169,170,171,172]) .skip)))) (.reg false desk_Desk_ask.r21 [173]))))))) (.reg false desk_Desk_ask.r22 [0,6,174,175,176,177]))) (.seq (.reg false desk_Desk_ask.r23 [1,179,180,181,182,183,184,185,186,187]) (.cond (.s 178) (.seq (.reg false desk_Desk_ask.r24 [188,189,190,191,192]) (.reg true desk_Desk_ask.r25 [0,8,193,194,195,196,197,198,199,200,201,202,203,204,205,206,207,208,209,210])) (.seq (.reg false desk_Desk_ask.r1 []) .ret)))))))))))))))) (.seq (.reg false desk_Desk_ask.r26 []) .ret)))
@[reducible] def desk_Desk_ask : MFun:={ params:=2,nfree:=0,res:=[.tmp 4],body:=desk_Desk_ask.body }
@[reducible] def desk_words.r0 : List MOp:=[⟨some 2,.alloc false tStep,none⟩,⟨some 3,.mov (.c (.bool false)),none⟩]
@[reducible] def desk_words.r1 : List MOp:=[⟨some 9,.bslice false tS 10 [(0,(.c (.str ⟨#[]⟩))),(1,(.c (.str ⟨#[109,97,107,101]⟩))),(2,(.c (.str ⟨#[108,105,110,107]⟩))),(3,(.c (.str ⟨#[117,110,108,105,110,107]⟩))),(4,(.c (.str ⟨#[114,101,110,97,109,101]⟩))),(5,(.c (.str ⟨#[112,117,116]⟩))),(6,(.c (.str ⟨#[99,117,116]⟩))),(7,(.c (.str ⟨#[119,114,105,116,101]⟩))),(8,(.c (.str ⟨#[115,121,110,99]⟩))),(9,(.c (.str ⟨#[99,114,97,115,104]⟩)))],none⟩,⟨some 4,.mov (.s 9),none⟩]
@[reducible] def desk_words.r2 : List MOp:=[⟨some 10,.bslice false tI 10 [(0,(.c (.int .i64 0))),(1,(.c (.int .i64 3))),(2,(.c (.int .i64 5))),(3,(.c (.int .i64 3))),(4,(.c (.int .i64 5))),(5,(.c (.int .i64 5))),(6,(.c (.int .i64 4))),(7,(.c (.int .i64 2))),(8,(.c (.int .i64 1))),(9,(.c (.int .i64 1)))],none⟩,⟨some 5,.mov (.s 10),none⟩]
@[reducible] def desk_words.r3 : List MOp:=[⟨some 11,.mov (.s 4),none⟩,⟨some 12,.mov (.s 0),none⟩,⟨some 13,.sidx false tS (.s 12) (.c (.int .i64 0)),none⟩,⟨some 14,.load false none tS (.s 13),none⟩,⟨some 15,.call false [] 420 [(.s 11),(.s 14)],none⟩,⟨some 6,.mov (.s 15),none⟩]
@[reducible] def desk_words.r4 : List MOp:=[⟨some 16,.mov (.s 6),none⟩,⟨some 17,.bin .lss (.s 16) (.c (.int .i64 1)),none⟩,⟨some 18,.mov (.s 17),none⟩,⟨some 19,.mov (.s 0),some (18,false)⟩,⟨some 20,.len false (.s 19),some (18,false)⟩,⟨some 21,.mov (.s 5),some (18,false)⟩,⟨some 22,.mov (.s 6),some (18,false)⟩,⟨some 23,.sidx false tI (.s 21) (.s 22),some (18,false)⟩,⟨some 24,.load false none tI (.s 23),some (18,false)⟩,⟨some 25,.bin .neq (.s 20) (.s 24),some (18,false)⟩,⟨some 26,.pick (.s 18) (.c (.bool true)) (.s 25),none⟩]
@[reducible] def desk_words.r5 : List MOp:=[⟨some 27,.build tStep [],none⟩,⟨none,.store tStep [] (.s 2) (.s 27),none⟩,⟨some 3,.mov (.c (.bool false)),none⟩]
@[reducible] def desk_words.r6 : List MOp:=[⟨some 28,.build tStep [],none⟩,⟨some 7,.alloc false tStep,none⟩,⟨none,.store tStep [] (.s 7) (.s 28),none⟩]
@[reducible] def desk_words.r7 : List MOp:=[⟨some 29,.mov (.s 0),none⟩,⟨some 30,.len false (.s 29),none⟩,⟨some 31,.bin .gtr (.s 30) (.c (.int .i64 2)),none⟩]
@[reducible] def desk_words.r8 : List MOp:=[⟨some 32,.mov (.s 0),none⟩,⟨some 33,.sidx false tS (.s 32) (.c (.int .i64 1)),none⟩,⟨some 34,.load false none tS (.s 33),none⟩,⟨some 35,.mov (.s 0),none⟩,⟨some 36,.sidx false tS (.s 35) (.c (.int .i64 2)),none⟩,⟨some 37,.load false none tS (.s 36),none⟩,⟨some 38,.call false [] 419 [(.s 34),(.s 37)],none⟩,⟨none,.store tStep [] (.s 7) (.s 38),none⟩]
@[reducible] def desk_words.r9 : List MOp:=[⟨some 39,.mov (.s 6),none⟩,⟨some 40,.fld tStep 0 tI (.s 7),none⟩,⟨none,.store tI [] (.s 40) (.s 39),none⟩]
@[reducible] def desk_words.r10 : List MOp:=[⟨some 8,.mov (.c (.bool true)),none⟩]
@[reducible] def desk_words.r11 : List MOp:=[⟨some 41,.mov (.s 6),none⟩]
@[reducible] def desk_words.r12 : List MOp:=[⟨some 43,.bin .eql (.s 41) (.c (.int .i64 2)),none⟩,⟨some 42,.mov (.s 43),none⟩]
@[reducible] def desk_words.r13 : List MOp:=[⟨some 44,.bin .eql (.s 41) (.c (.int .i64 4)),none⟩,⟨some 42,.mov (.s 44),none⟩]
@[reducible] def desk_words.r14 : List MOp:=[⟨some 45,.mov (.s 0),none⟩,⟨some 46,.sidx false tS (.s 45) (.c (.int .i64 3)),none⟩,⟨some 47,.load false none tS (.s 46),none⟩,⟨some 48,.call true [] 418 [(.s 47)],none⟩,⟨some 49,.mov (.s 0),none⟩,⟨some 50,.sidx false tS (.s 49) (.c (.int .i64 4)),none⟩,⟨some 51,.load false (some 0) tS (.s 50),none⟩,⟨some 52,.fld tStep 2 tI (.s 7),none⟩,⟨none,.store tI [0] (.s 52) (.s 48),none⟩,⟨some 53,.fld tStep 5 tS (.s 7),none⟩,⟨none,.store tS [] (.s 53) (.s 51),none⟩]
@[reducible] def desk_words.r15 : List MOp:=[⟨some 55,.bin .eql (.s 41) (.c (.int .i64 5)),none⟩,⟨some 54,.mov (.s 55),none⟩]
@[reducible] def desk_words.r16 : List MOp:=[⟨some 56,.mov (.s 0),none⟩,⟨some 57,.sidx false tS (.s 56) (.c (.int .i64 3)),none⟩,⟨some 58,.load false none tS (.s 57),none⟩,⟨some 59,.call false [] 418 [(.s 58)],none⟩,⟨some 60,.fld tStep 3 tI (.s 7),none⟩,⟨none,.store tI [] (.s 60) (.s 59),none⟩]
@[reducible] def desk_words.r17 : List MOp:=[⟨some 62,.mov (.s 0),none⟩,⟨some 63,.sidx false tS (.s 62) (.c (.int .i64 4)),none⟩,⟨some 64,.load false none tS (.s 63),none⟩,⟨some 65,.call false [] 345 [(.s 64)],none⟩,⟨some 61,.mov (.s 65),none⟩,⟨some 66,.ext (.s 61) 0,none⟩,⟨some 67,.ext (.s 61) 1,none⟩,⟨some 68,.fld tStep 6 tS (.s 7),none⟩,⟨none,.store tS [] (.s 68) (.s 66),none⟩,⟨some 8,.mov (.s 67),none⟩]
@[reducible] def desk_words.r18 : List MOp:=[⟨some 70,.bin .eql (.s 41) (.c (.int .i64 6)),none⟩,⟨some 69,.mov (.s 70),none⟩]
@[reducible] def desk_words.r19 : List MOp:=[⟨some 71,.mov (.s 0),none⟩,⟨some 72,.sidx false tS (.s 71) (.c (.int .i64 3)),none⟩,⟨some 73,.load false none tS (.s 72),none⟩,⟨some 74,.call false [] 418 [(.s 73)],none⟩,⟨some 75,.fld tStep 3 tI (.s 7),none⟩,⟨none,.store tI [] (.s 75) (.s 74),none⟩]
@[reducible] def desk_words.r20 : List MOp:=[⟨some 77,.bin .eql (.s 41) (.c (.int .i64 7)),none⟩,⟨some 76,.mov (.s 77),none⟩]
@[reducible] def desk_words.r21 : List MOp:=[⟨some 78,.mov (.s 0),none⟩,⟨some 79,.sidx false tS (.s 78) (.c (.int .i64 1)),none⟩,⟨some 80,.load false none tS (.s 79),none⟩,⟨some 81,.call false [] 418 [(.s 80)],none⟩,⟨some 82,.fld tStep 3 tI (.s 7),none⟩,⟨none,.store tI [] (.s 82) (.s 81),none⟩]
@[reducible] def desk_words.r22 : List MOp:=[⟨some 83,.load false none tStep (.s 7),none⟩,⟨some 84,.mov (.s 8),none⟩,⟨none,.store tStep [] (.s 2) (.s 83),none⟩,⟨some 3,.mov (.s 84),none⟩]
@[reducible] def desk_words.body : MC:=(.seq (.reg false desk_words.r0 [3]) (.seq (.reg false desk_words.r1 [9]) (.seq (.reg false desk_words.r2 [10]) (.seq (.reg false desk_words.r3 [4,11,12,13,14,15]) (.seq (.seq (.reg false desk_words.r4 [5,16,17,18,19,20,21,22,23,24,25]) (.cond (.s 26) (.seq (.reg false desk_words.r5 [27]) .ret) .skip)) (.seq (.reg false desk_words.r6 [28]) (.seq (.seq (.reg false desk_words.r7 [29,30]) (.cond (.s 31) (.reg true desk_words.r8 [32,33,34,35,36,37,38]) .skip)) (.seq (.reg false desk_words.r9 [39,40]) (.seq (.reg false desk_words.r10 []) (.seq (.seq (.reg false desk_words.r11 [6]) (.block 0 (.seq (.seq (.reg false desk_words.r12 [43]) (.cond (.s 42) .skip (.reg false desk_words.r13 [44]))) (.cond (.s 42) (.reg true desk_words.r14 [0,45,46,47,48,49,50,51,52,53]) (.seq (.reg false desk_words.r15 [55]) (.cond (.s 54) (.seq (.reg false desk_words.r16 [56,57,58,59,60]) (.reg false desk_words.r17 [0,61,62,63,64,65,66,67,68])) (.seq (.reg false desk_words.r18 [70]) (.cond (.s 69) (.reg false desk_words.r19 [0,71,72,73,74,75]) (.seq (.reg false desk_words.r20 [41,77]) (.cond (.s 76) (.reg false desk_words.r21 [0,78,79,80,81,82]) .skip)))))))))) (.seq (.reg false desk_words.r22 [7,8,83,84]) .ret)))))))))))
@[reducible] def desk_words : MFun:={ params:=1,nfree:=0,res:=[.cell 2 tStep,.tmp 3],body:=desk_words.body }
@[reducible] noncomputable def strings_Split.r0 : List MOp:=[⟨some 2,.primN pSplit tS [(.s 0),(.s 1)],none⟩]
@[reducible] noncomputable def strings_Split.body : MC:=(.seq (.reg false strings_Split.r0 []) .ret)
@[reducible] noncomputable def strings_Split : MFun:={ params:=2,nfree:=0,res:=[.tmp 2],body:=strings_Split.body }
@[reducible] def slices_DeleteFunc.r0 : List MOp:=[⟨some 4,.mov (.c .nilsl),none⟩]
@[reducible] def slices_DeleteFunc.r1 : List MOp:=[⟨some 8,.mov (.s 0),none⟩,⟨some 9,.mov (.s 1),none⟩,⟨some 10,.call false [] 415 [(.s 8),(.s 9)],none⟩,⟨some 5,.mov (.s 10),none⟩]
@[reducible] def slices_DeleteFunc.r2 : List MOp:=[⟨some 11,.mov (.s 5),none⟩,⟨some 12,.bin .eql (.s 11) (.c (.int .i64 (-1))),none⟩]
@[reducible] def slices_DeleteFunc.r3 : List MOp:=[⟨some 13,.mov (.s 0),none⟩,⟨some 4,.mov (.s 13),none⟩]
@[reducible] def slices_DeleteFunc.r4 : List MOp:=[⟨some 14,.mov (.s 5),none⟩,⟨some 15,.bin .add (.s 14) (.c (.int .i64 1)),none⟩,⟨some 6,.mov (.s 15),none⟩]
@[reducible] def slices_DeleteFunc.r5 : List MOp:=[⟨some 16,.mov (.s 6),none⟩,⟨some 17,.mov (.s 0),none⟩,⟨some 18,.len false (.s 17),none⟩,⟨some 19,.bin .lss (.s 16) (.s 18),none⟩]
@[reducible] def slices_DeleteFunc.r6 : List MOp:=[⟨some 20,.mov (.s 6),none⟩,⟨some 21,.bin .add (.s 20) (.c (.int .i64 1)),none⟩,⟨some 6,.mov (.s 21),none⟩]
@[reducible] def slices_DeleteFunc.r7 : List MOp:=[⟨some 22,.mov (.s 0),none⟩,⟨some 23,.mov (.s 6),none⟩,⟨some 24,.sidx false tS (.s 22) (.s 23),none⟩,⟨some 25,.load false none tS (.s 24),none⟩,⟨some 7,.mov (.s 25),none⟩]
@[reducible] def slices_DeleteFunc.r8 : List MOp:=[⟨some 26,.mov (.s 1),none⟩,⟨some 27,.mov (.s 7),none⟩,⟨some 28,.callv false [] (.s 26) [(.s 27)],none⟩,⟨some 29,.un .not (.s 28),none⟩]
@[reducible] def slices_DeleteFunc.r9 : List MOp:=[⟨some 30,.mov (.s 0),none⟩,⟨some 31,.mov (.s 5),none⟩,⟨some 32,.mov (.s 7),none⟩,⟨some 33,.sidx false tS (.s 30) (.s 31),none⟩,⟨none,.store tS [] (.s 33) (.s 32),none⟩]
@[reducible] def slices_DeleteFunc.r10 : List MOp:=[⟨some 34,.mov (.s 5),none⟩,⟨some 35,.bin .add (.s 34) (.c (.int .i64 1)),none⟩,⟨some 5,.mov (.s 35),none⟩]
@[reducible] def slices_DeleteFunc.r11 : List MOp:=[⟨some 36,.mov (.s 0),none⟩,⟨some 37,.mov (.s 5),none⟩,⟨some 38,.slice none tS (.s 36) (some (.s 37)) none none,none⟩,⟨none,.clear tS (.s 38),none⟩]
@[reducible] def slices_DeleteFunc.r12 : List MOp:=[⟨some 39,.mov (.s 0),none⟩,⟨some 40,.mov (.s 5),none⟩,⟨some 41,.slice none tS (.s 39) none (some (.s 40)) none,none⟩,⟨some 4,.mov (.s 41),none⟩]
@[reducible] def slices_DeleteFunc.body : MC:=(.seq (.reg false slices_DeleteFunc.r0 [4]) (.seq (.reg false slices_DeleteFunc.r1 [8,9,10]) (.seq (.seq (.reg false slices_DeleteFunc.r2 [11]) (.cond (.s 12) (.seq (.reg false slices_DeleteFunc.r3 [0,13]) .ret) .skip)) (.seq (.seq (.reg false slices_DeleteFunc.r4 [14,15]) (.block 0 (.loop [0,1,5,6] [] (.seq (.seq (.reg false slices_DeleteFunc.r5 [16,17,18]) (.cond (.s 19) .skip (.exit 0))) (.seq (.block 1 (.seq (.reg false slices_DeleteFunc.r7 [22,23,24,25]) (.seq (.reg false slices_DeleteFunc.r8 [26,27,28]) (.cond (.s 29) (.seq (.reg false slices_DeleteFunc.r9 [7,30,31,32,33]) (.reg false slices_DeleteFunc.r10 [34,35])) .skip)))) (.reg false slices_DeleteFunc.r6 [20,21])))))) (.seq (.reg false slices_DeleteFunc.r11 [36,37,38]) (.seq (.reg false slices_DeleteFunc.r12 [0,5,39,40,41]) .ret))))))
@[reducible] def slices_DeleteFunc : MFun:={ params:=2,nfree:=0,res:=[.tmp 4],body:=slices_DeleteFunc.body }
@[reducible] def desk_Desk_Do_1.r0 : List MOp:=[⟨some 2,.mov (.c (.bool false)),none⟩]
@[reducible] def desk_Desk_Do_1.r1 : List MOp:=[⟨some 3,.mov (.s 0),none⟩,⟨some 4,.bin .eql (.s 3) (.c (.str ⟨#[]⟩)),none⟩,⟨some 2,.mov (.s 4),none⟩]
@[reducible] def desk_Desk_Do_1.body : MC:=(.seq (.reg false desk_Desk_Do_1.r0 [2]) (.seq (.reg false desk_Desk_Do_1.r1 [0,3,4]) .ret))
@[reducible] def desk_Desk_Do_1 : MFun:={ params:=1,nfree:=0,res:=[.tmp 2],body:=desk_Desk_Do_1.body }
@[reducible] def strings_Builder_Reset.r0 : List MOp:=[⟨some 2,.mov (.s 0),none⟩,⟨some 3,.nilck (.s 2),none⟩,⟨some 4,.fld (.cons tP (.cons tSl .unit)) 0 tP (.s 3),none⟩,⟨none,.store tP [] (.s 4) (.c .nilp),none⟩]
@[reducible] def strings_Builder_Reset.r1 : List MOp:=[⟨some 5,.mov (.s 0),none⟩,⟨some 6,.nilck (.s 5),none⟩,⟨some 7,.fld (.cons tP (.cons tSl .unit)) 1 tSl (.s 6),none⟩,⟨none,.store tSl [] (.s 7) (.c .nilsl),none⟩]
@[reducible] def strings_Builder_Reset.body : MC:=(.seq (.reg false strings_Builder_Reset.r0 [2,3,4]) (.reg false strings_Builder_Reset.r1 [0,5,6,7]))
@[reducible] def strings_Builder_Reset : MFun:={ params:=1,nfree:=0,res:=[],body:=strings_Builder_Reset.body }
@[reducible] noncomputable def strings_Contains.r0 : List MOp:=[⟨some 2,.prim pContains [(.s 0),(.s 1)],none⟩]
@[reducible] noncomputable def strings_Contains.body : MC:=(.seq (.reg false strings_Contains.r0 []) .ret)
@[reducible] noncomputable def strings_Contains : MFun:={ params:=2,nfree:=0,res:=[.tmp 2],body:=strings_Contains.body }
@[reducible] def desk_num.r0 : List MOp:=[⟨some 2,.mov (.c (.str ⟨#[]⟩)),none⟩]
@[reducible] def desk_num.r1 : List MOp:=[⟨some 3,.mov (.s 0),none⟩,⟨some 4,.call false [] 350 [(.s 3)],none⟩,⟨some 2,.mov (.s 4),none⟩]
@[reducible] def desk_num.body : MC:=(.seq (.reg false desk_num.r0 [2]) (.seq (.reg false desk_num.r1 [0,3,4]) .ret))
@[reducible] def desk_num : MFun:={ params:=1,nfree:=0,res:=[.tmp 2],body:=desk_num.body }
@[reducible] def slices_IndexFuncS.r0 : List MOp:=[⟨some 4,.mov (.c (.int .i64 0)),none⟩]
@[reducible] def slices_IndexFuncS.r1 : List MOp:=[⟨some 6,.mov (.s 0),none⟩,⟨some 7,.len false (.s 6),none⟩,⟨some 8,.mov (.c (.int .i64 0)),none⟩]
@[reducible] def slices_IndexFuncS.r2 : List MOp:=[⟨some 9,.bin .lss (.s 8) (.s 7),none⟩]
@[reducible] def slices_IndexFuncS.r3 : List MOp:=[⟨some 10,.mov (.s 8),none⟩,⟨some 5,.mov (.s 10),none⟩]
@[reducible] def slices_IndexFuncS.r4 : List MOp:=[⟨some 11,.mov (.s 1),none⟩,⟨some 12,.mov (.s 0),none⟩,⟨some 13,.mov (.s 5),none⟩,⟨some 14,.sidx false tS (.s 12) (.s 13),none⟩,⟨some 15,.load false none tS (.s 14),none⟩,⟨some 16,.callv false [] (.s 11) [(.s 15)],none⟩]
@[reducible] def slices_IndexFuncS.r5 : List MOp:=[⟨some 17,.mov (.s 5),none⟩,⟨some 4,.mov (.s 17),none⟩]
@[reducible] def slices_IndexFuncS.r6 : List MOp:=[⟨some 18,.bin .add (.s 8) (.c (.int .i64 1)),none⟩,⟨some 8,.mov (.s 18),none⟩]
@[reducible] def slices_IndexFuncS.r7 : List MOp:=[⟨some 4,.mov (.c (.int .i64 (-1))),none⟩]
@[reducible] def slices_IndexFuncS.body : MC:=(.seq (.reg false slices_IndexFuncS.r0 [4]) (.seq (.seq (.reg false slices_IndexFuncS.r1 [6]) (.block 0 (.loop [0,1,7,8] [7] (.seq (.reg false slices_IndexFuncS.r2 []) (.seq (.cond (.s 9) .skip (.exit 0)) (.seq (.block 1 (.seq (.reg false slices_IndexFuncS.r3 [10]) (.seq (.reg false slices_IndexFuncS.r4 [11,12,13,14,15]) (.cond (.s 16) (.seq (.reg false slices_IndexFuncS.r5 [5,17]) .ret) .skip)))) (.reg false slices_IndexFuncS.r6 [18]))))))) (.seq (.reg false slices_IndexFuncS.r7 []) .ret)))
@[reducible] def slices_IndexFuncS : MFun:={ params:=2,nfree:=0,res:=[.tmp 4],body:=slices_IndexFuncS.body }
@[reducible] noncomputable def strings_Join.r0 : List MOp:=[⟨some 2,.primS pJoin tS (.s 0) (.s 1),none⟩]
@[reducible] noncomputable def strings_Join.body : MC:=(.seq (.reg false strings_Join.r0 []) .ret)
@[reducible] noncomputable def strings_Join : MFun:={ params:=2,nfree:=0,res:=[.tmp 2],body:=strings_Join.body }
@[reducible] def strings_Builder_WriteString.r0 : List MOp:=[⟨some 4,.mov (.c (.int .i64 0)),none⟩,⟨some 5,.mov (.c (.iface false)),none⟩]
@[reducible] def strings_Builder_WriteString.r1 : List MOp:=[⟨some 6,.mov (.s 0),none⟩,⟨some 7,.call false [] 423 [(.s 6)],none⟩]
@[reducible] def strings_Builder_WriteString.r2 : List MOp:=[⟨some 8,.mov (.s 0),none⟩,⟨some 9,.mov (.s 0),none⟩,⟨some 10,.nilck (.s 9),none⟩,⟨some 11,.fld (.cons tP (.cons tSl .unit)) 1 tSl (.s 10),none⟩,⟨some 12,.load false none tSl (.s 11),none⟩,⟨some 13,.mov (.s 1),none⟩,⟨some 14,.appstr (.s 12) (.s 13),none⟩,⟨some 15,.nilck (.s 8),none⟩,⟨some 16,.fld (.cons tP (.cons tSl .unit)) 1 tSl (.s 15),none⟩,⟨none,.store tSl [] (.s 16) (.s 14),none⟩]
@[reducible] def strings_Builder_WriteString.r3 : List MOp:=[⟨some 17,.mov (.s 1),none⟩,⟨some 18,.len true (.s 17),none⟩,⟨some 4,.mov (.s 18),none⟩,⟨some 5,.mov (.c (.iface false)),none⟩]
@[reducible] def strings_Builder_WriteString.body : MC:=(.seq (.reg false strings_Builder_WriteString.r0 [4,5]) (.seq (.reg false strings_Builder_WriteString.r1 [6,7]) (.seq (.reg false strings_Builder_WriteString.r2 [0,8,9,10,11,12,13,14,15,16]) (.seq (.reg false strings_Builder_WriteString.r3 [1,17,18]) .ret))))
@[reducible] def strings_Builder_WriteString : MFun:={ params:=2,nfree:=0,res:=[.tmp 4,.tmp 5],body:=strings_Builder_WriteString.body }
@[reducible] def desk_number.r0 : List MOp:=[⟨some 2,.mov (.c (.int .i64 0)),none⟩]
@[reducible] def desk_number.r1 : List MOp:=[⟨some 6,.mov (.s 0),none⟩,⟨some 7,.call false [] 424 [(.s 6)],none⟩,⟨some 5,.mov (.s 7),none⟩,⟨some 8,.ext (.s 5) 0,none⟩,⟨some 9,.ext (.s 5) 1,none⟩,⟨some 3,.mov (.s 8),none⟩,⟨some 4,.mov (.s 9),none⟩]
@[reducible] def desk_number.r2 : List MOp:=[⟨some 10,.mov (.s 4),none⟩,⟨some 11,.eqif true (.s 10) (.c (.iface false)),none⟩,⟨some 12,.mov (.s 11),none⟩,⟨some 13,.mov (.s 3),some (12,false)⟩,⟨some 14,.call false [] 414 [(.s 13)],some (12,false)⟩,⟨some 15,.mov (.s 0),some (12,false)⟩,⟨some 16,.bin .neq (.s 14) (.s 15),some (12,false)⟩,⟨some 17,.pick (.s 12) (.c (.bool true)) (.s 16),none⟩,⟨some 18,.mov (.s 17),none⟩,⟨some 19,.mov (.s 3),some (18,false)⟩,⟨some 20,.bin .lss (.s 19) (.c (.int .i64 0)),some (18,false)⟩,⟨some 21,.pick (.s 18) (.c (.bool true)) (.s 20),none⟩]
@[reducible] def desk_number.r3 : List MOp:=[⟨some 2,.mov (.c (.int .i64 (-1))),none⟩]
@[reducible] def desk_number.r4 : List MOp:=[⟨some 22,.mov (.s 3),none⟩,⟨some 2,.mov (.s 22),none⟩]
@[reducible] def desk_number.body : MC:=(.seq (.reg false desk_number.r0 [2]) (.seq (.reg false desk_number.r1 [5,6,7,8,9]) (.seq (.seq (.reg false desk_number.r2 [0,4,10,11,12,13,14,15,16,17,18,19,20]) (.cond (.s 21) (.seq (.reg false desk_number.r3 []) .ret) .skip)) (.seq (.reg false desk_number.r4 [3,22]) .ret))))
@[reducible] def desk_number : MFun:={ params:=1,nfree:=0,res:=[.tmp 2],body:=desk_number.body }
@[reducible] def desk_file.r0 : List MOp:=[⟨some 4,.alloc false tStep,none⟩]
@[reducible] def desk_file.r1 : List MOp:=[⟨some 5,.mov (.s 0),none⟩,⟨some 6,.call false [] 418 [(.s 5)],none⟩,⟨some 7,.mov (.s 1),none⟩,⟨some 8,.build tStep [(1,(.s 6)),(4,(.s 7))],none⟩,⟨none,.store tStep [] (.s 4) (.s 8),none⟩]
@[reducible] def desk_file.body : MC:=(.seq (.reg false desk_file.r0 []) (.seq (.reg false desk_file.r1 [0,1,5,6,7,8]) .ret))
@[reducible] def desk_file : MFun:={ params:=2,nfree:=0,res:=[.cell 4 tStep],body:=desk_file.body }
@[reducible] def slices_IndexS.r0 : List MOp:=[⟨some 4,.mov (.c (.int .i64 0)),none⟩]
@[reducible] def slices_IndexS.r1 : List MOp:=[⟨some 6,.mov (.s 0),none⟩,⟨some 7,.len false (.s 6),none⟩,⟨some 8,.mov (.c (.int .i64 0)),none⟩]
@[reducible] def slices_IndexS.r2 : List MOp:=[⟨some 9,.bin .lss (.s 8) (.s 7),none⟩]
@[reducible] def slices_IndexS.r3 : List MOp:=[⟨some 10,.mov (.s 8),none⟩,⟨some 5,.mov (.s 10),none⟩]
@[reducible] def slices_IndexS.r4 : List MOp:=[⟨some 11,.mov (.s 1),none⟩,⟨some 12,.mov (.s 0),none⟩,⟨some 13,.mov (.s 5),none⟩,⟨some 14,.sidx false tS (.s 12) (.s 13),none⟩,⟨some 15,.load false none tS (.s 14),none⟩,⟨some 16,.bin .eql (.s 11) (.s 15),none⟩]
@[reducible] def slices_IndexS.r5 : List MOp:=[⟨some 17,.mov (.s 5),none⟩,⟨some 4,.mov (.s 17),none⟩]
@[reducible] def slices_IndexS.r6 : List MOp:=[⟨some 18,.bin .add (.s 8) (.c (.int .i64 1)),none⟩,⟨some 8,.mov (.s 18),none⟩]
@[reducible] def slices_IndexS.r7 : List MOp:=[⟨some 4,.mov (.c (.int .i64 (-1))),none⟩]
@[reducible] def slices_IndexS.body : MC:=(.seq (.reg false slices_IndexS.r0 [4]) (.seq (.seq (.reg false slices_IndexS.r1 [6]) (.block 0 (.loop [0,1,7,8] [7] (.seq (.reg false slices_IndexS.r2 []) (.seq (.cond (.s 9) .skip (.exit 0)) (.seq (.block 1 (.seq (.reg false slices_IndexS.r3 [10]) (.seq (.reg false slices_IndexS.r4 [11,12,13,14,15]) (.cond (.s 16) (.seq (.reg false slices_IndexS.r5 [5,17]) .ret) .skip)))) (.reg false slices_IndexS.r6 [18]))))))) (.seq (.reg false slices_IndexS.r7 []) .ret)))
@[reducible] def slices_IndexS : MFun:={ params:=2,nfree:=0,res:=[.tmp 4],body:=slices_IndexS.body }
@[reducible] def desk_Desk_read.r0 : List MOp:=[⟨some 8,.mov (.s 0),none⟩,⟨some 9,.nilck (.s 8),none⟩,⟨some 10,.fld (.cons (.cons tP (.cons tSl .unit)) (.cons tP .unit)) 1 tP (.s 9),none⟩,⟨some 11,.load false none tP (.s 10),none⟩,⟨some 12,.nilck (.s 11),none⟩,⟨some 13,.fld tLife 0 tP (.s 12),none⟩,⟨some 14,.load false none tP (.s 13),none⟩,⟨some 15,.mov (.s 1),none⟩,⟨some 16,.sidx false tS (.s 15) (.c (.int .i64 0)),none⟩,⟨some 17,.load false none tS (.s 16),none⟩,⟨some 18,.call true [] 418 [(.s 17)],none⟩,⟨some 19,.mov (.s 1),none⟩,⟨some 20,.sidx false tS (.s 19) (.c (.int .i64 1)),none⟩,⟨some 21,.load false none tS (.s 20),none⟩,⟨some 22,.mov (.s 1),none⟩,⟨some 23,.sidx false tS (.s 22) (.c (.int .i64 2)),none⟩,⟨some 24,.load false none tS (.s 23),none⟩,⟨some 25,.call true [] 418 [(.s 24)],none⟩,⟨some 26,.call false [] 271 [(.s 14),(.s 18),(.s 21),(.s 25)],none⟩,⟨some 7,.mov (.s 26),none⟩,⟨some 27,.ext (.s 7) 0,none⟩,⟨some 28,.ext (.s 7) 1,none⟩,⟨some 29,.ext (.s 7) 2,none⟩,⟨some 4,.mov (.s 27),none⟩,⟨some 5,.mov (.s 28),none⟩,⟨some 6,.mov (.s 29),none⟩]
@[reducible] def desk_Desk_read.r1 : List MOp:=[⟨some 30,.mov (.s 0),none⟩,⟨some 31,.mov (.s 4),none⟩,⟨some 32,.call false [] 342 [(.s 31)],none⟩,⟨some 33,.bslice false tS 1 [(0,(.s 32))],none⟩,⟨some 34,.call false [] 406 [(.s 30),(.s 33)],none⟩]
@[reducible] def desk_Desk_read.r2 : List MOp:=[⟨some 36,.mov (.s 6),none⟩,⟨some 37,.bin .neq (.s 36) (.c (.int .i64 0)),none⟩,⟨some 35,.mov (.s 37),none⟩]
@[reducible] def desk_Desk_read.r3 : List MOp:=[⟨some 38,.mov (.s 0),none⟩,⟨some 39,.mov (.s 6),none⟩,⟨some 40,.call false [] 414 [(.s 39)],none⟩,⟨some 41,.bslice false tS 2 [(0,(.c (.str ⟨#[110,111]⟩))),(1,(.s 40))],none⟩,⟨some 42,.call false [] 406 [(.s 38),(.s 41)],none⟩]
@[reducible] def desk_Desk_read.r4 : List MOp:=[⟨some 44,.mov (.s 5),none⟩,⟨some 45,.un .not (.s 44),none⟩,⟨some 43,.mov (.s 45),none⟩]
@[reducible] def desk_Desk_read.r5 : List MOp:=[⟨some 46,.mov (.s 0),none⟩,⟨some 47,.bslice false tS 1 [(0,(.c (.str ⟨#[110,111,110,101]⟩)))],none⟩,⟨some 48,.call false [] 406 [(.s 46),(.s 47)],none⟩]
@[reducible] def desk_Desk_read.body : MC:=(.seq (.reg true desk_Desk_read.r0 [1,7,8,9,10,11,12,13,14,15,16,17,18,19,20,21,22,23,24,25,26,27,28,29]) (.block 0 (.seq (.reg false desk_Desk_read.r2 [36,37]) (.cond (.s 35) (.reg false desk_Desk_read.r3 [0,6,38,39,40,41,42]) (.seq (.reg false desk_Desk_read.r4 [5,44,45]) (.cond (.s 43) (.reg false desk_Desk_read.r5 [0,46,47,48]) (.reg false desk_Desk_read.r1 [0,4,30,31,32,33,34])))))))
@[reducible] def desk_Desk_read : MFun:={ params:=2,nfree:=0,res:=[],body:=desk_Desk_read.body }
@[reducible] def strconv_FormatBool.r0 : List MOp:=[⟨some 2,.mov (.c (.str ⟨#[]⟩)),none⟩]
@[reducible] def strconv_FormatBool.r1 : List MOp:=[⟨some 3,.mov (.s 0),none⟩,⟨some 4,.call false [] 425 [(.s 3)],none⟩,⟨some 2,.mov (.s 4),none⟩]
@[reducible] def strconv_FormatBool.body : MC:=(.seq (.reg false strconv_FormatBool.r0 [2]) (.seq (.reg false strconv_FormatBool.r1 [0,3,4]) .ret))
@[reducible] def strconv_FormatBool : MFun:={ params:=1,nfree:=0,res:=[.tmp 2],body:=strconv_FormatBool.body }
@[reducible] noncomputable def strings_Builder_copyCheck.r0 : List MOp:=[⟨some 1,.fld tBld 0 tP (.s 0),none⟩,⟨some 2,.load false none tP (.s 1),none⟩,⟨some 3,.prim pOwn [(.s 2),(.s 0)],none⟩,⟨some 4,.prim pUp [(.s 0)],none⟩,⟨some 5,.load false none tDesk (.s 4),none⟩,⟨none,.store tP [] (.s 1) (.s 0),none⟩]
@[reducible] noncomputable def strings_Builder_copyCheck.body : MC:=(.seq (.reg false strings_Builder_copyCheck.r0 []) .ret)
@[reducible] noncomputable def strings_Builder_copyCheck : MFun:={ params:=1,nfree:=0,res:=[],body:=strings_Builder_copyCheck.body }
@[reducible] noncomputable def strconv_Atoi.r0 : List MOp:=[⟨some 1,.prim pAtoi [(.s 0)],none⟩,⟨some 2,.prim pAtoiE [(.s 0)],none⟩]
@[reducible] noncomputable def strconv_Atoi.body : MC:=(.seq (.reg false strconv_Atoi.r0 []) .ret)
@[reducible] noncomputable def strconv_Atoi : MFun:={ params:=1,nfree:=0,res:=[.tmp 1,.tmp 2],body:=strconv_Atoi.body }
@[reducible] def internal_strconv_FormatBool.r0 : List MOp:=[⟨some 2,.mov (.c (.str ⟨#[]⟩)),none⟩]
@[reducible] def internal_strconv_FormatBool.r1 : List MOp:=[⟨some 3,.mov (.s 0),none⟩]
@[reducible] def internal_strconv_FormatBool.r2 : List MOp:=[⟨some 2,.mov (.c (.str ⟨#[116,114,117,101]⟩)),none⟩]
@[reducible] def internal_strconv_FormatBool.r3 : List MOp:=[⟨some 2,.mov (.c (.str ⟨#[102,97,108,115,101]⟩)),none⟩]
@[reducible] def internal_strconv_FormatBool.body : MC:=(.seq (.reg false internal_strconv_FormatBool.r0 [2]) (.seq (.seq (.reg false internal_strconv_FormatBool.r1 [0]) (.cond (.s 3) (.seq (.reg false internal_strconv_FormatBool.r2 []) .ret) .skip)) (.seq (.reg false internal_strconv_FormatBool.r3 []) .ret)))
@[reducible] def internal_strconv_FormatBool : MFun:={ params:=1,nfree:=0,res:=[.tmp 2],body:=internal_strconv_FormatBool.body }
@[reducible] def w_DeskJoins.r0 : List MOp:=[⟨some 4,.mov (.c (.bool false)),none⟩]
@[reducible] def w_DeskJoins.r1 : List MOp:=[⟨some 16,.call false [] 403 [],none⟩,⟨some 17,.un .not (.s 16),none⟩]
@[reducible] def w_DeskJoins.r2 : List MOp:=[⟨some 4,.mov (.c (.bool false)),none⟩]
@[reducible] def w_DeskJoins.r3 : List MOp:=[⟨some 18,.mov (.s 0),none⟩,⟨some 19,.len false (.s 18),none⟩,⟨some 20,.bin .gtr (.s 19) (.c (.int .i64 150)),none⟩,⟨some 21,.mov (.s 20),none⟩,⟨some 22,.mov (.s 0),some (21,false)⟩,⟨some 23,.call false [] 402 [(.s 22)],some (21,false)⟩,⟨some 24,.pick (.s 21) (.c (.bool true)) (.s 23),none⟩]
@[reducible] def w_DeskJoins.r4 : List MOp:=[⟨some 4,.mov (.c (.bool true)),none⟩]
@[reducible] def w_DeskJoins.r5 : List MOp:=[⟨some 25,.mov (.s 1),none⟩,⟨some 26,.conv .u64 (.s 25),none⟩,⟨some 27,.mov (.s 0),none⟩,⟨some 28,.len false (.s 27),none⟩,⟨some 29,.bin .add (.s 28) (.c (.int .i64 1)),none⟩,⟨some 30,.conv .u64 (.s 29),none⟩,⟨some 31,.bin .rem (.s 26) (.s 30),none⟩,⟨some 32,.conv .i64 (.s 31),none⟩,⟨some 5,.mov (.s 32),none⟩]
@[reducible] def w_DeskJoins.r6 : List MOp:=[⟨some 33,.call false [] 400 [],none⟩,⟨some 34,.call false [] 400 [],none⟩,⟨some 6,.mov (.s 33),none⟩,⟨some 7,.mov (.s 34),none⟩]
@[reducible] def w_DeskJoins.r7 : List MOp:=[⟨some 36,.mov (.s 6),none⟩,⟨some 37,.mov (.s 0),none⟩,⟨some 38,.mov (.s 5),none⟩,⟨some 39,.slice none tS (.s 37) none (some (.s 38)) none,none⟩,⟨some 40,.call false [] 401 [(.s 36),(.s 39)],none⟩,⟨some 35,.mov (.s 40),none⟩,⟨some 41,.ext (.s 35) 0,none⟩,⟨some 42,.ext (.s 35) 1,none⟩,⟨some 9,.alloc false (.cons tI (.cons tI .unit)),none⟩,⟨some 8,.mov (.s 41),none⟩,⟨none,.store (.cons tI (.cons tI .unit)) [] (.s 9) (.s 42),none⟩]
@[reducible] def w_DeskJoins.r8 : List MOp:=[⟨some 44,.mov (.s 7),none⟩,⟨some 45,.mov (.s 0),none⟩,⟨some 46,.call false [] 401 [(.s 44),(.s 45)],none⟩,⟨some 43,.mov (.s 46),none⟩,⟨some 47,.ext (.s 43) 0,none⟩,⟨some 48,.ext (.s 43) 1,none⟩,⟨some 11,.alloc false (.cons tI (.cons tI .unit)),none⟩,⟨some 10,.mov (.s 47),none⟩,⟨none,.store (.cons tI (.cons tI .unit)) [] (.s 11) (.s 48),none⟩]
@[reducible] def w_DeskJoins.r9 : List MOp:=[⟨some 50,.mov (.s 6),none⟩,⟨some 51,.mov (.s 0),none⟩,⟨some 52,.mov (.s 5),none⟩,⟨some 53,.slice none tS (.s 51) (some (.s 52)) none none,none⟩,⟨some 54,.call false [] 401 [(.s 50),(.s 53)],none⟩,⟨some 49,.mov (.s 54),none⟩,⟨some 55,.ext (.s 49) 0,none⟩,⟨some 56,.ext (.s 49) 1,none⟩,⟨some 13,.alloc false (.cons tI (.cons tI .unit)),none⟩,⟨some 12,.mov (.s 55),none⟩,⟨none,.store (.cons tI (.cons tI .unit)) [] (.s 13) (.s 56),none⟩]
@[reducible] def w_DeskJoins.r10 : List MOp:=[⟨some 57,.fld (.cons tI (.cons tI .unit)) 0 tI (.s 11),none⟩,⟨some 58,.load false none tI (.s 57),none⟩,⟨some 59,.bin .neq (.s 58) (.c (.int .i64 0)),none⟩]
@[reducible] def w_DeskJoins.r11 : List MOp:=[⟨some 60,.fld (.cons tI (.cons tI .unit)) 0 tI (.s 9),none⟩,⟨some 61,.load false none tI (.s 60),none⟩,⟨some 62,.bin .neq (.s 61) (.c (.int .i64 0)),none⟩,⟨some 63,.mov (.s 62),none⟩,⟨some 64,.fld (.cons tI (.cons tI .unit)) 0 tI (.s 13),some (63,false)⟩,⟨some 65,.load false none tI (.s 64),some (63,false)⟩,⟨some 66,.bin .neq (.s 65) (.c (.int .i64 0)),some (63,false)⟩,⟨some 67,.pick (.s 63) (.c (.bool true)) (.s 66),none⟩,⟨some 4,.mov (.s 67),none⟩]
@[reducible] def w_DeskJoins.r12 : List MOp:=[⟨some 69,.call false [] 400 [],none⟩,⟨some 70,.mov (.s 0),none⟩,⟨some 71,.call false [] 401 [(.s 69),(.s 70)],none⟩,⟨some 68,.mov (.s 71),none⟩,⟨some 72,.ext (.s 68) 0,none⟩,⟨some 73,.ext (.s 68) 1,none⟩,⟨some 15,.alloc false (.cons tI (.cons tI .unit)),none⟩,⟨some 14,.mov (.s 72),none⟩,⟨none,.store (.cons tI (.cons tI .unit)) [] (.s 15) (.s 73),none⟩]
@[reducible] def w_DeskJoins.r13 : List MOp:=[⟨some 74,.fld (.cons tI (.cons tI .unit)) 0 tI (.s 9),none⟩,⟨some 75,.load false none tI (.s 74),none⟩,⟨some 76,.bin .eql (.s 75) (.c (.int .i64 0)),none⟩,⟨some 77,.mov (.s 76),none⟩,⟨some 78,.fld (.cons tI (.cons tI .unit)) 0 tI (.s 13),some (77,true)⟩,⟨some 79,.load false none tI (.s 78),some (77,true)⟩,⟨some 80,.bin .eql (.s 79) (.c (.int .i64 0)),some (77,true)⟩,⟨some 81,.pick (.s 77) (.s 80) (.c (.bool false)),none⟩,⟨some 82,.mov (.s 81),none⟩,⟨some 83,.mov (.s 8),some (82,true)⟩,⟨some 84,.mov (.s 12),some (82,true)⟩,⟨some 85,.bin .add (.s 83) (.s 84),some (82,true)⟩,⟨some 86,.mov (.s 10),some (82,true)⟩,⟨some 87,.bin .eql (.s 85) (.s 86),some (82,true)⟩,⟨some 88,.pick (.s 82) (.s 87) (.c (.bool false)),none⟩,⟨some 89,.mov (.s 88),none⟩,⟨some 90,.mov (.s 14),some (89,true)⟩,⟨some 91,.mov (.s 10),some (89,true)⟩,⟨some 92,.bin .eql (.s 90) (.s 91),some (89,true)⟩,⟨some 93,.pick (.s 89) (.s 92) (.c (.bool false)),none⟩,⟨some 4,.mov (.s 93),none⟩]
@[reducible] def w_DeskJoins.body : MC:=(.seq (.reg false w_DeskJoins.r0 [4]) (.seq (.seq (.reg false w_DeskJoins.r1 [16]) (.cond (.s 17) (.seq (.reg false w_DeskJoins.r2 []) .ret) .skip)) (.seq (.seq (.reg false w_DeskJoins.r3 [18,19,20,21,22,23]) (.cond (.s 24) (.seq (.reg false w_DeskJoins.r4 []) .ret) .skip)) (.seq (.reg false w_DeskJoins.r5 [1,25,26,27,28,29,30,31,32]) (.seq (.reg false w_DeskJoins.r6 [33,34]) (.seq (.reg false w_DeskJoins.r7 [35,36,37,38,39,40,41,42]) (.seq (.reg false w_DeskJoins.r8 [7,43,44,45,46,47,48]) (.seq (.reg false w_DeskJoins.r9 [5,6,49,50,51,52,53,54,55,56]) (.seq (.seq (.reg false w_DeskJoins.r10 [11,57,58]) (.cond (.s 59) (.seq (.reg false w_DeskJoins.r11 [9,13,60,61,62,63,64,65,66,67]) .ret) .skip)) (.seq (.reg false w_DeskJoins.r12 [0,15,68,69,70,71,72,73]) (.seq (.reg false w_DeskJoins.r13 [8,9,10,12,13,14,74,75,76,77,78,79,80,81,82,83,84,85,86,87,88,89,90,91,92,93]) .ret)))))))))))
@[reducible] def w_DeskJoins : MFun:={ params:=2,nfree:=0,res:=[.tmp 4],body:=w_DeskJoins.body }
end Fn
noncomputable def tblV0 : List (Option MFun):=[none,none,none,none,none,none,none,none,none,none,none,none,none,none,none,none,none,none,none,none,none,none,none,none,none,none,none,none,none,none,none,none,none,none,none,none,none,none,none,none,none,none,none,none,none,none,none,none,none,none,none,none,none,none,none,none,none,none,none,none,none,none,none,none,none,none,none,none,none,none,none,none,none,none,none,none,none,none,none,none,none,none,none,none,none,none,none,none,none,none,none,none,none,none,none,none,none,none,none,none,none,none,none,none,none,none,none,none,none,none,none,none,none,none,none,none,none,none,none,none,none,none,none,none,none,none,none,none,none,none,none,none,none,none,none,none,none,none,none,none,none,none,none,none,none,none,none,none,none,none,none,none,none,none,none,none,none,none,none,none,none,none,none,none,none,none,none,none,none,none,none,none,none,none,none,none,none,none,none,none,none,none,none,none,none,none,none,none,none,none,none,none,none,none,none,none,none,none,none,none,some Fn.desk_New,some Fn.desk_Desk_Do,some Fn.w_slow,some Fn.w_deskBegun,some Fn.strings_Builder_String,some Fn.desk_Desk_step,some Fn.desk_Desk_say,some Fn.desk_Desk_ask,some Fn.desk_words,some Fn.strings_Split,some Fn.slices_DeleteFunc,some Fn.desk_Desk_Do_1,some Fn.strings_Builder_Reset,some Fn.strings_Contains,some Fn.desk_num,some Fn.slices_IndexFuncS,some Fn.strings_Join,some Fn.strings_Builder_WriteString,some Fn.desk_number,some Fn.desk_file,some Fn.slices_IndexS,some Fn.desk_Desk_read,some Fn.strconv_FormatBool,some Fn.strings_Builder_copyCheck,some Fn.strconv_Atoi,some Fn.internal_strconv_FormatBool,some Fn.w_DeskJoins]
noncomputable def tblVL : List (Option MFun):=mergeT tblTL (List.replicate 200 none ++ tblV0)
noncomputable def tblV (f : Nat) : Option MFun:=tblVL.getD f none
theorem tbl_V (i : Nat) (fn : MFun) (h : tblT i = some fn) : tblV i = some fn:=mergeT_ext _ _ _ _ h
theorem upV {cx : Cx} {fn : MFun} {e : St} {R : AV → HP → Prop} (h : Ok tblT cx fn e R) : Ok tblV cx fn e R:=by
 obtain ⟨n,s',v,hr,hv,hR⟩:=h
 exact ⟨n,s',v,run_ext tbl_V hr,hv,hR⟩
section
variable {T : Nat → Option MFun} {cx : Cx} {k : List Item} {kill : List Nat} {r : List MOp} {sl : Slots} {own : Own} {h : HP} {Q : St → Prop}
@[go_sem] theorem fits_tPnil : (tP.fits .nilp = true) = True:=eq_true rfl
@[go_sem] theorem fits_tPob (d : Nat) (q : List Nat) (t : Ty) : (tP.fits (.ptr (.obj d) q t) = true) = True:=eq_true rfl
@[go_sem] theorem fits_tSlnil : (tSl.fits .nilsl = true) = True:=eq_true rfl
@[go_sem] theorem fits_tSlob (d o n : Nat) : (tSl.fits (.sl (.obj d) o n) = true) = True:=eq_true rfl
def WPN (T : Nat → Option MFun) (cx : Cx) (o : Option (List AV)) (t : Ty) (d : Nat) (r : List MOp) (kill : List Nat) (k : List Item) (sl : Slots) (own : Own) (h : HP) (Q : St → Prop) : Prop :=
 onO o fun l=>(l.all fun v=>t.fits v) = true ∧ W T cx (.ops r kill :: k) ⟨sl.set d (.sl (.obj h.next) 0 l.length),own,h.nw (.arr l.length t) (.ofList l)⟩ Q
@[go_sem] theorem W_primN {d : Nat} {f : List AV → Option (List AV)} {t : Ty} {xs : List Opd} : W T cx (.ops (⟨some d,.primN f t xs,none⟩ :: r) kill :: k) ⟨sl,own,h⟩ Q = WPN T cx (f (xs.map (St.opd ⟨sl,own,h⟩))) t d r kill k sl own h Q:=by
 rw [W_op rfl,evOp]
 simp only [evK,WPN]
 cases f (xs.map (St.opd ⟨sl,own,h⟩)) with
 | none=>rfl
 | some l =>
  simp only [onO_some]
  by_cases hl : (l.all fun v=>t.fits v) = true
  ·simp only [hl,if_true,true_and]; rfl
  ·rw [if_neg hl]; exact propext ⟨fun e=>e.elim,fun e=>absurd e.1 hl⟩
def primSV (f : List AV → ByteArray → Option AV) (o : Option (List AV)) (y : AV) : Option AV:=match o,y with
 | some l,.str b=>safeO (f l b)
 | _,_=>none
@[go_sem] theorem primSV_str (f : List AV → ByteArray → Option AV) (l : List AV) (b : ByteArray) : primSV f (some l) (.str b) = safeO (f l b):=rfl
@[go_sem] theorem W_primS {d : Option Nat} {f : List AV → ByteArray → Option AV} {t : Ty} {x y : Opd} {s : St} : W T cx (.ops (⟨d,.primS f t x y,none⟩ :: r) kill :: k) s Q = W1 T cx (primSV f (elems (s.look cx) t (s.opd x)) (s.opd y)) d r kill k s Q :=
 W_val rfl (by
  simp only [evK,primSV]
  cases elems (s.look cx) t (s.opd x) with
  | none=>rfl
  | some l =>
   cases s.opd y <;> try rfl
   rename_i b
   simp only [safeO]
   cases f l b with
   | none=>rfl
   | some v=>simp only; split <;> rfl)
def strBytes (v : AV) : Option (List AV):=match v with
 | .str b=>some (b.data.toList.map fun c=>.int .u8 c.toNat)
 | _=>none
@[go_sem] theorem strBytes_str (b : ByteArray) : strBytes (.str b) = some (b.data.toList.map fun c=>.int .u8 (c.toNat : Nat)):=rfl
@[go_sem] theorem W_appstr {d : Nat} {x y : Opd} : W T cx (.ops (⟨some d,.appstr x y,none⟩ :: r) kill :: k) ⟨sl,own,h⟩ Q = WAUo T cx (St.opd ⟨sl,own,h⟩ x) (strBytes (St.opd ⟨sl,own,h⟩ y)) d r kill k sl own h Q:=by
 rw [W_op rfl,evOp]
 simp only [evK,WAUo]
 cases St.opd ⟨sl,own,h⟩ y <;> try rfl
 rename_i b
 simp only [strBytes,onO_some,tU8]
 cases evAppend (St.look cx ⟨sl,own,h⟩) (.leaf (.int .u8)) (St.opd ⟨sl,own,h⟩ x) (b.data.toList.map fun c=>.int .u8 c.toNat) <;> rfl
def WDr (T : Nat → Option MFun) (cx : Cx) (v : AV) (r : List MOp) (kill : List Nat) (k : List Item) (sl : Slots) (own : Own) (h : HP) (Q : St → Prop) : Prop:=match v with
 | .sl (.obj g) _ _=>cx.prot.lets (.obj g) = true ∧ W T cx (.ops r kill :: k) ⟨sl,own,h.dl g⟩ Q
 | .nilsl=>W T cx (.ops r kill :: k) ⟨sl,own,h⟩ Q
 | _=>False
theorem W_drop {x : Opd} (hn : WDr T cx (St.opd ⟨sl,own,h⟩ x) r kill k sl own h Q) : W T cx (.ops (⟨none,.drop x,none⟩ :: r) kill :: k) ⟨sl,own,h⟩ Q:=by
 rw [W_op rfl,evOp]
 simp only [evK]
 unfold WDr at hn
 split at hn
 ·rename_i g o n he
  simp only [he,onO_some,applyEff,St.drop,Id.own]
  rw [if_pos hn.1]
  exact hn.2
 ·rename_i he
  simp only [he]
  exact hn
 ·exact hn.elim
theorem W_slS {d : Nat} {x : Opd} {lo hi : Option Opd} {i : Id} {o n N : Nat} {w : AV} {a b : Nat} (hx : St.opd ⟨sl,own,h⟩ x = .sl i o n) (hk : St.look cx ⟨sl,own,h⟩ i = some ⟨.arr N tS,w⟩)
  (h1 : (lo = none ∧ a = 0) ∨ ∃ y,lo = some y ∧ toIx (St.opd ⟨sl,own,h⟩ y) = some (a : Int)) (h2 : (hi = none ∧ b = n) ∨ ∃ y,hi = some y ∧ toIx (St.opd ⟨sl,own,h⟩ y) = some (b : Int))
  (hab : a ≤ b) (hb : o + b ≤ N) (hc : o + a < N ∨ a = 0)
  (hQ : W T cx (.ops r kill :: k) ⟨sl.set d (.sl i (o + a) (b - a)),own,h⟩ Q) : W T cx (.ops (⟨some d,.slice none tS x lo hi none,none⟩ :: r) kill :: k) ⟨sl,own,h⟩ Q:=by
 have e1 : ixOr (St.opd ⟨sl,own,h⟩) lo 0 = some (a : Int):=by
  rcases h1 with ⟨rfl,rfl⟩ | ⟨y,rfl,e⟩
  ·rfl
  ·exact e
 have e2 : ixOr (St.opd ⟨sl,own,h⟩) hi (n : Int) = some (b : Int):=by
  rcases h2 with ⟨rfl,rfl⟩ | ⟨y,rfl,e⟩
  ·rfl
  ·exact e
 rw [W_op rfl,evOp]
 have ek : evK (St.opd ⟨sl,own,h⟩) (St.look cx ⟨sl,own,h⟩) (.slice none tS x lo hi none) = some (.val (.sl i (o + a) (b - a))):=by
  simp only [evK,hx,e1,e2,rooted,if_true,evSlice,hk,Option.map_none,true_and]
  rw [if_pos ⟨by omega,by omega,by omega⟩,if_pos (by omega)]
  congr 3 <;> omega
 rw [ek]
 exact hQ
theorem W_clearS {x : Opd} {q o n N : Nat} {l : List Str} (hx : St.opd ⟨sl,own,h⟩ x = .sl (.obj q) o n) (hl : cx.prot.lets (.obj q) = true) (hq : h.look (.obj q) = some ⟨.arr N tS,encS l⟩) (hN : l.length = N) (hn : o + n ≤ N)
  (hQ : W T cx (.ops r kill :: k) ⟨sl,own,h.ob q (.arr N tS) (encS (l.take o ++ List.replicate n ⟨#[]⟩ ++ l.drop (o + n)))⟩ Q) : W T cx (.ops (⟨none,.clear tS x,none⟩ :: r) kill :: k) ⟨sl,own,h⟩ Q:=by
 have hf:=encS_fits (l.take o ++ List.replicate n ⟨#[]⟩ ++ l.drop (o + n)) (n:=N) (by simp; omega)
 have e : List.take o (List.map AV.str l) ++ List.replicate n tS.zero ++ List.drop (o + n) (List.map AV.str l) = List.map AV.str (l.take o ++ List.replicate n ⟨#[]⟩ ++ l.drop (o + n)):=by
  simp only [List.map_append,List.map_take,List.map_drop,List.map_replicate]; rfl
 rw [W_op rfl,evOp]
 simp only [evK,hx,evClear,look_obj,hq,encS_toList,List.length_map,hN,true_and,e]
 rw [if_pos hn]
 change onO (match (if (Ty.arr N tS).fits (encS (l.take o ++ List.replicate n ⟨#[]⟩ ++ l.drop (o + n))) = true then some (Eff.wr (.obj q) ⟨.arr N tS,encS (l.take o ++ List.replicate n ⟨#[]⟩ ++ l.drop (o + n))⟩ .bot) else none) with | some e=>applyEff cx none _ _ e | none=>none) _
 rw [if_pos hf]
 simp only [onO_some,applyEff,St.write,Id.own,hl,if_true,Option.map_some]
 exact hQ
end
def Txs (h : HP) (l : Nat) (v : AV) (ws : List Str) : Prop:=((v = .nilsl ∨ v = .slz) ∧ ws = []) ∨ ∃ i o w,v = .sl i o ws.length ∧ i.below l ∧ h.look i = some ⟨.arr w.length tS,encS w⟩ ∧ o + ws.length ≤ w.length ∧ (w.drop o).take ws.length = ws
theorem Txs.elems {h : HP} {l : Nat} {v : AV} {ws : List Str} (a : Txs h l v ws) {L : Id → Option Blk} (hL : ∀ i : Id,i.below l → L i = h.look i) : elems L tS v = some (ws.map AV.str):=by
 rcases a with ⟨rfl | rfl,rfl⟩ | ⟨i,o,w,rfl,hb,hk,hle,ht⟩
 ·rfl
 ·rfl
 ·simp only [Go.Mini.elems,hL i hb,hk,encS_toList]
  rw [if_pos (by simpa using hle),← List.map_drop,← List.map_take,ht]
theorem Txs.len {h : HP} {l : Nat} {v : AV} {ws : List Str} (a : Txs h l v ws) : lenV false v = some (.int .i64 ws.length):=by
 rcases a with ⟨rfl | rfl,rfl⟩ | ⟨i,o,w,rfl,_⟩ <;> rfl
theorem Txs.fg {h : HP} {l t : Nat} {v : AV} {ws : List Str} (a : Txs h l v ws) : fg v (.stk l t) = v:=by
 rcases a with ⟨rfl | rfl,rfl⟩ | ⟨i,o,w,rfl,hb,_⟩
 ·rfl
 ·rfl
 ·exact fg_sl hb _ _
theorem Txs.ld {h : HP} {l t : Nat} {v : AV} {ws : List Str} (a : Txs h l v ws) : v.leads (.stk l t) = false:=by
 rcases a with ⟨rfl | rfl,rfl⟩ | ⟨i,o,w,rfl,hb,_⟩
 ·rfl
 ·rfl
 ·have : (Id.stk l t == i) = false:=by simpa using fun e=>hb.ne e.symm
  simp [AV.leads,AV.isAgg,AV.names,this]
theorem Txs.push {h : HP} {l : Nat} {o : Own} {v : AV} {ws : List Str} (a : Txs h l v ws) : Txs (h.push l o) (l + 1) v ws:=by
 rcases a with a | ⟨i,o',w,rfl,hb,hk,hr⟩
 ·exact .inl a
 ·refine .inr ⟨i,o',w,rfl,hb.succ,?_,hr⟩
  cases i <;> simp only [HP.look,HP.push] at hk ⊢
  ·simp only [Id.below] at hb
   rw [if_neg (by omega)]; exact hk
  ·exact hk
  ·exact hk
theorem SlF.txs {h h1 : HP} {v : AV} {m : List Str} {l : Nat} (a : SlF h h1 v m) : Txs h1 l v m:=by
 rcases a with ⟨rfl,rfl⟩ | ⟨q,rfl,_,_,h2⟩
 ·exact .inl ⟨.inl rfl,rfl⟩
 ·exact .inr ⟨.obj q,0,m,rfl,below_obj _ _,h2,by omega,by simp⟩
section
variable {T : Nat → Option MFun} {cx : Cx} {k : List Item} {kill : List Nat} {r : List MOp} {sl : Slots} {own : Own} {h : HP} {Q : St → Prop}
theorem look_below {i : Id} (hb : i.below cx.lvl) : St.look cx ⟨sl,own,h⟩ i = h.look i:=by
 simp [St.look,below_own hb]
def ixP (v : AV) (z : Int) : AV:=match v with
 | .sl i o _=>.ptr i [o + z.toNat] tS
 | _=>.bot
theorem Txs.ix {v : AV} {ws : List Str} (hv : Txs h cx.lvl v ws) {kk : IntKind} {z : Int} (sl : Slots) (own : Own) (h0 : 0 ≤ z) (hz : z < ws.length) : sidxV tS v (.int kk z) (St.look cx ⟨sl,own,h⟩) = some (ixP v z):=by
 rcases hv with ⟨_,rfl⟩ | ⟨i,o,w,rfl,hb,hk,hle,ht⟩
 ·simp at hz; omega
 ·rw [sidxV_int h0 hz,look_below hb,hk,sidxB_some]; rfl
theorem txt_lt {ws : List Str} {n : Nat} (hn : n < ws.length) : txt ws n = ws[n]:=by
 simp only [txt,List.getD_eq_getElem?_getD,List.getElem?_eq_getElem hn,Option.getD_some]
theorem Txs.lv {v : AV} {ws : List Str} (hv : Txs h cx.lvl v ws) {z : Int} (sl : Slots) (own : Own) (h0 : 0 ≤ z) (hz : z < ws.length) : ldV tS (ixP v z) (St.rd cx ⟨sl,own,h⟩) = some (.str (txt ws z.toNat)):=by
 rcases hv with ⟨_,rfl⟩ | ⟨i,o,w,rfl,hb,hk,hle,ht⟩
 ·simp at hz; omega
 have hlt : o + z.toNat < w.length:=by omega
 have hz' : z.toNat < ws.length:=by omega
 have e : w[o + z.toNat] = ws[z.toNat]:=by
  have:=congrArg (·[z.toNat]?) ht
  simp only [List.getElem?_take,List.getElem?_drop,if_pos hz',List.getElem?_eq_getElem hz',List.getElem?_eq_getElem hlt,Option.some.injEq] at this
  exact this
 have e2 : h.rd i [o + z.toNat] = some (.str (txt ws z.toNat)):=by
  simp only [HP.rd,hk,Option.bind,encS,AV.ofList,AV.at]
  rw [dif_pos (by simpa using hlt)]
  simp only [List.get_eq_getElem,List.getElem_map,txt_lt hz']
  rw [e]
 simp only [ixP,ldV,if_true,rd_ext hb,e2]
 rfl
theorem Txs.fgx {v : AV} {ws : List Str} {l t : Nat} (hv : Txs h l v ws) (z : Int) : _root_.Go.Mini.fg (ixP v z) (.stk l t) = ixP v z:=by
 rcases hv with ⟨rfl | rfl,rfl⟩ | ⟨i,o,w,rfl,hb,_⟩
 ·rfl
 ·rfl
 ·exact fg_ptr hb _ _
theorem Txs.ldx {v : AV} {ws : List Str} {l t : Nat} (hv : Txs h l v ws) (z : Int) : (ixP v z).leads (.stk l t) = false:=by
 rcases hv with ⟨rfl | rfl,rfl⟩ | ⟨i,o,w,rfl,hb,_⟩
 ·rfl
 ·rfl
 ·exact leads_ptr hb _ _
theorem Join_ok {v : AV} {ws : List Str} {s : Str} (hv : Txs h cx.lvl v ws) (h1 : ws.length ≤ 1000000) (h2 : (joinL ws s).length ≤ 100000000) : Ok tblV cx Fn.strings_Join (St.enter [v,.str s] h) fun v h'=>v = .str (bsL (joinL ws s)) ∧ h' = h:=by
 have e : pJoin (ws.map AV.str) s = some (.str (bsL (joinL ws s))):=by
  have : ∀ ws : List Str,strsOf (ws.map AV.str) = some ws:=by
   intro ws
   induction ws with
   | nil=>rfl
   | cons a r ih=>simp [strsOf,ih]
  simp only [pJoin,this]
  rw [if_pos ⟨h1,h2⟩]; rfl
 rw [Ok_eq]
 simp (maxSteps:=999999) (disch:=omega) only [go_sem,hv.elems (L:=St.look cx ⟨[(0,v),(1,.str s)],[],h⟩) (fun i hb=>look_below hb),e]
theorem SContains_ok {s : Str} {c : UInt8} : Ok tblV cx Fn.strings_Contains (St.enter [.str s,.str ⟨#[c]⟩] h) fun v h'=>v = .bool (hasB s c) ∧ h' = h:=by
 have e : pContains [.str s,.str ⟨#[c]⟩] = some (.bool (hasB s c)):=rfl
 rw [Ok_eq]
 simp (maxSteps:=999999) (disch:=omega) only [go_sem,List.map_cons,List.map_nil,e,safeO,safe_bool]
theorem Atoi_ok {s : Str} (hs : s.size ≤ 1000000) : Ok tblV cx Fn.strconv_Atoi (St.enter [.str s] h) fun v h'=>v = .tup (.cons (.int .i64 (atoiV s)) (.cons (.iface (atoiE s)) .unit)) ∧ h' = h:=by
 have e1 : pAtoi [.str s] = some (.int .i64 (atoiV s)):=by simp only [pAtoi]; rw [if_pos hs]
 have e2 : pAtoiE [.str s] = some (.iface (atoiE s)):=by simp only [pAtoiE]; rw [if_pos hs]
 rw [Ok_eq]
 simp (maxSteps:=999999) (disch:=omega) only [go_sem,List.map_cons,List.map_nil,e1,e2]
theorem Split_ok {s : Str} {c : UInt8} (hs : s.size ≤ 1000000) : Ok tblV cx Fn.strings_Split (St.enter [.str s,.str ⟨#[c]⟩] h) fun v h'=>v = .sl (.obj h.next) 0 (cutB s c).length ∧ h' = h.nw (.arr (cutB s c).length tS) (encS (cutB s c)):=by
 have e1 : pSplit [.str s,.str ⟨#[c]⟩] = some ((cutB s c).map .str):=by simp only [pSplit]; rw [if_pos hs]
 have e2 : (((cutB s c).map AV.str).all fun v=>tS.fits v) = true:=by simp [tS,Ty.fits,LK.fits,AV.safe]
 rw [Ok_eq]
 simp (maxSteps:=999999) (disch:=omega) only [go_sem,List.map_cons,List.map_nil,e1,WPN,onO_some,e2,List.length_map]
 rw [if_pos (show (AV.sl (Id.obj h.next) 0 (cutB s c).length).safe = true from rfl)]; exact ⟨rfl,rfl⟩
end
def encDk (a b : AV) (p : Nat) : AV:=.cons (.cons a (.cons b .unit)) (.cons (.ptr (.obj p) [] tLife) .unit)
def selfP (d : Nat) : AV:=.ptr (.obj d) [0] tBld
@[go_sem] theorem at_Dk00 (a b : AV) (p : Nat) : (encDk a b p).at [0,0] = some a:=by simp [encDk,AV.at]
@[go_sem] theorem at_Dk01 (a b : AV) (p : Nat) : (encDk a b p).at [0,1] = some b:=by simp [encDk,AV.at]
@[go_sem] theorem at_Dk1 (a b : AV) (p : Nat) : (encDk a b p).at [1] = some (.ptr (.obj p) [] tLife):=by simp [encDk,AV.at]
@[go_sem] theorem put_Dk00 (a b x : AV) (p : Nat) : (encDk a b p).put [0,0] x = some (encDk x b p):=by simp [encDk,AV.put]
@[go_sem] theorem put_Dk01 (a b x : AV) (p : Nat) : (encDk a b p).put [0,1] x = some (encDk a x p):=by simp [encDk,AV.put]
@[go_sem] theorem field_Dk0 : Ty.field (.cons (.cons tP (.cons tSl .unit)) (.cons tP .unit)) 0 = some (.cons tP (.cons tSl .unit)):=rfl
@[go_sem] theorem field_Dk1 : Ty.field (.cons (.cons tP (.cons tSl .unit)) (.cons tP .unit)) 1 = some tP:=rfl
@[go_sem] theorem field_Bl0 : Ty.field (.cons tP (.cons tSl .unit)) 0 = some tP:=rfl
@[go_sem] theorem field_Bl1 : Ty.field (.cons tP (.cons tSl .unit)) 1 = some tSl:=rfl
def Bu (h0 h : HP) (b : AV) (bs : List UInt8) : Prop:=(b = .nilsl ∧ bs = []) ∨ ∃ g,b = .sl (.obj g) 0 bs.length ∧ h0.next ≤ g ∧ g < h.next ∧ h.look (.obj g) = some ⟨.arr bs.length tU8,encU (ints bs)⟩
def blkOf : AV → List Nat
 | .sl (.obj g) _ _=>[g]
 | _=>[]
theorem Fr.dlS {h h1 : HP} {q : Nat} {S : List Nat} (a : Fr h h1 S) (hq : q ∈ S) : Fr h (h1.dl q) S :=
 ⟨a.stk,a.arg,a.next,fun n hn hs=>by
  show (if n = q then none else h1.obj n) = _
  rw [if_neg (fun e : n = q=>hs (e ▸ hq))]; exact a.same n hn hs⟩
section
variable {cx : Cx} {h h0 : HP} {d p : Nat} {a b : AV} {bs : List UInt8}
theorem copyCheck_ok (hl : ∀ n,cx.prot.lets (.obj n) = true) (hd : h.look (.obj d) = some ⟨tDesk,encDk a b p⟩) (ha : a = .nilp ∨ a = selfP d) (hbf : tSl.fits b = true) :
  Ok tblV cx Fn.strings_Builder_copyCheck (St.enter [selfP d] h) fun v h'=>v = .tup .unit ∧ h' = h.ob d tDesk (encDk (selfP d) b p):=by
 rw [Ok_eq]
 have eU : pUp [.ptr (.obj d) [0] tBld] = some (.ptr (.obj d) [] tDesk):=by simp [pUp]
 have eF : tDesk.fits (encDk a b p) = true:=by
  rcases ha with rfl | rfl <;> simp only [encDk,selfP,Ty.fits,hbf,Bool.and_true,Bool.true_and] <;> rfl
 rcases ha with rfl | rfl
 ·have e : pOwn [.nilp,.ptr (.obj d) [0] tBld] = some (.bool true):=by simp [pOwn]
  (try simp only [selfP] at eF); simp (maxSteps:=999999) (disch:=omega) only [go_sem,selfP,hd,List.map_cons,List.map_nil,e,eU,eF,safeO,stV_ob (hl d)]
 ·have e : pOwn [.ptr (.obj d) [0] tBld,.ptr (.obj d) [0] tBld] = some (.bool true):=by simp [pOwn]
  (try simp only [selfP] at eF); simp (maxSteps:=999999) (disch:=omega) only [go_sem,selfP,hd,List.map_cons,List.map_nil,e,eU,eF,safeO,stV_ob (hl d)]
theorem Reset_ok (hl : ∀ n,cx.prot.lets (.obj n) = true) (hd : h.look (.obj d) = some ⟨tDesk,encDk a b p⟩) :
  Ok tblV cx Fn.strings_Builder_Reset (St.enter [selfP d] h) fun v h'=>v = .tup .unit ∧ h' = h.ob d tDesk (encDk .nilp .nilsl p):=by
 rw [Ok_eq]
 simp (maxSteps:=999999) (disch:=omega) only [go_sem,selfP,hd,stV_ob (hl d)]
theorem BString_ok (hl : ∀ n,cx.prot.lets (.obj n) = true) (hd : h.look (.obj d) = some ⟨tDesk,encDk a b p⟩) (ha : a = .nilp ∨ a = selfP d) (hb : Bu h0 h b bs) (hn : bs.length ≤ 1048576) :
  Ok tblV cx Fn.strings_Builder_String (St.enter [selfP d] h) fun v h'=>v = .str (bsL bs) ∧ Fr h h' (blkOf b):=by
 rw [Ok_eq]
 have eU : pUp [.ptr (.obj d) [0] tBld] = some (.ptr (.obj d) [] tDesk):=by simp [pUp]
 have eF : tDesk.fits (encDk a b p) = true:=by
  rcases ha with rfl | rfl <;> rcases hb with ⟨rfl,_⟩ | ⟨g,rfl,_⟩ <;> rfl
 rcases hb with ⟨rfl,rfl⟩ | ⟨g,rfl,h1,h2,h3⟩
 ·simp (maxSteps:=999999) (disch:=omega) only [go_sem,selfP,hd,eU,eF,List.map_cons,List.map_nil,safeO,show pBuf [.nilsl] = some (.bool true) from rfl]
  refine W_drop ?_
  simp (maxSteps:=999999) (disch:=omega) only [go_sem,WDr]
  exact Fr.refl _ _
 ·simp (maxSteps:=999999) (disch:=omega) only [go_sem,selfP,hd,h3,eU,eF,List.map_cons,List.map_nil,safeO,show pBuf [.sl (.obj g) 0 bs.length] = some (.bool true) from if_pos hn]
  rw [elemsU_all (by rw [ints_len])]
  simp (maxSteps:=999999) (disch:=omega) only [go_sem]
  refine W_drop ?_
  simp (maxSteps:=999999) (disch:=omega) only [go_sem,WDr,hl g]
  exact (Fr.refl _ _).dlS (by simp [blkOf])
theorem W_putB {T : Nat → Option MFun} {k : List Item} {kill : List Nat} {r : List MOp} {sl : Slots} {own : Own} {Q : St → Prop} {dd : Nat} {s : Str} (hl : ∀ n,cx.prot.lets (.obj n) = true)
  (hb : Bu h0 h b bs) (h0n : h0.next ≤ h.next) (hm : bs.length + s.size ≤ 1048576)
  (hQ : ∀ b' h',Bu h0 h' b' (bs ++ s.data.toList) → Fr h h' (blkOf b) → (∃ q n,b' = .sl (.obj q) 0 n) ∨ b' = .nilsl → W T cx (.ops r kill :: k) ⟨sl.set dd b',own,h'⟩ Q) :
  WAUo T cx b (some (s.data.toList.map fun c=>.int .u8 (c.toNat : Nat))) dd r kill k sl own h Q:=by
 have hsz : s.data.toList.length = s.size:=Array.length_toList
 have emap : ∀ l : List UInt8,(l.map fun c=>AV.int .u8 (c.toNat : Nat)) = (ints l).map (AV.int .u8):=fun l=>by simp [ints]
 rcases hb with ⟨rfl,rfl⟩ | ⟨g,rfl,g1,g2,g3⟩
 ·by_cases h0 : s.data.toList = []
  ·rw [h0]
   simp only [WAUo,onO_some,evAppend,List.map_nil,List.length_nil,if_true]
   refine hQ .nilsl h (.inl ⟨rfl,by simp [h0]⟩) (Fr.refl _ _) (.inr rfl)
  ·have hpos : 0 < s.data.toList.length:=List.length_pos_iff.2 h0
   have hf:=encU_fits (ints s.data.toList) (n:=s.data.toList.length) (by simp [ints])
   simp only [encU,← emap] at hf
   simp only [WAUo,onO_some,evAppend,List.length_map]
   rw [if_neg (by omega),if_pos ⟨hf,by simp at hm; omega⟩]
   have:=hQ (.sl (.obj h.next) 0 s.data.toList.length) (h.nw (.arr s.data.toList.length tU8) (encU (ints s.data.toList))) (.inr ⟨h.next,by simp,h0n,Nat.lt_succ_self _,by simp only [List.nil_append]; exact look_nw⟩) Fr.nw (.inl ⟨_,_,rfl⟩)
   simp only [encU,← emap] at this
   exact this
 ·by_cases h0 : s.data.toList = []
  ·have hf:=encU_fits (ints bs) (n:=bs.length) (by rw [ints_len])
   have e1 : List.take (0 + bs.length) (List.map (AV.int .u8) (ints bs)) ++ [] ++ List.drop (0 + bs.length + 0) (List.map (AV.int .u8) (ints bs)) = List.map (AV.int .u8) (ints bs):=by
    rw [List.take_of_length_le (by simp [ints_len]),List.drop_of_length_le (by simp [ints_len])]; simp
   rw [h0]
   simp only [WAUo,onO_some,evAppend,look_obj,g3,encU_toList,List.map_nil,List.length_nil,List.length_map,ints_len,if_true,e1]
   rw [if_pos (by omega),if_pos (show (Ty.arr bs.length tU8).fits (.ofList (List.map (AV.int .u8) (ints bs))) = true from hf)]
   simp only [onO_some,applyEff,St.write,Id.own,hl,if_true,Option.map_some,Nat.add_zero]
   have e2 : h.set (.obj g) ⟨.arr bs.length tU8,.ofList (List.map (AV.int .u8) (ints bs))⟩ = h:=ob_self (t:=.arr bs.length tU8) (v:=encU (ints bs)) g3
   rw [e2]
   exact hQ (.sl (.obj g) 0 bs.length) h (.inr ⟨g,by simp [h0],g1,g2,by simp only [h0,List.append_nil]; exact g3⟩) (Fr.refl _ _) (.inl ⟨_,_,rfl⟩)
  ·have hpos : 0 < s.data.toList.length:=List.length_pos_iff.2 h0
   rw [emap,WAUo_grow (hl g) g3 (ints_len _) (by rw [ints_len]; exact hpos) (by rw [ints_len]; omega)]
   rw [ints_len]
   refine hQ (.sl (.obj h.next) 0 (bs.length + s.data.toList.length)) ((h.dl g).nw (.arr (bs.length + s.data.toList.length) tU8) (encU (ints bs ++ ints s.data.toList))) (.inr ⟨h.next,by simp,h0n,Nat.lt_succ_self _,?_⟩) ?_ (.inl ⟨_,_,rfl⟩)
   ·have : (HP.nw (h.dl g) (.arr (bs.length + s.data.toList.length) tU8) (encU (ints bs ++ ints s.data.toList))).look (.obj h.next) = _:=look_nw (h:=h.dl g)
    rw [this]
    simp [ints]
   ·exact ((Fr.refl _ _).dlS (by simp [blkOf])).trans Fr.nw
theorem WriteS_ok {s : Str} (hl : ∀ n,cx.prot.lets (.obj n) = true) (hd : h.look (.obj d) = some ⟨tDesk,encDk a b p⟩) (ha : a = .nilp ∨ a = selfP d) (hb : Bu h0 h b bs) (h0n : h0.next ≤ h.next) (hdn : d < h0.next) (hm : bs.length + s.size ≤ 1048576) :
  Ok tblV cx Fn.strings_Builder_WriteString (St.enter [selfP d,.str s] h) fun v h'=>Fr h h' (d :: blkOf b) ∧ ∃ b',h'.look (.obj d) = some ⟨tDesk,encDk (selfP d) b' p⟩ ∧ Bu h0 h' b' (bs ++ s.data.toList):=by
 have hbf : (tSl.fits b = true):=by
  rcases hb with ⟨rfl,_⟩ | ⟨g,rfl,_⟩ <;> rfl
 rw [Ok_eq]
 simp (maxSteps:=999999) (disch:=omega) only [go_sem,selfP]
 refine W_callh (v:=.tup .unit) (h.ob d tDesk (encDk (selfP d) b p)) rfl ⟨rfl,rfl⟩ rfl (by simp only [go_sem]; exact copyCheck_ok (by exact hl) (by simp only [go_sem,hd]) ha hbf) ?_
 have hb1 : Bu h0 (h.ob d tDesk (encDk (selfP d) b p)) b bs:=by
  rcases hb with e | ⟨g,e,g1,g2,g3⟩
  ·exact .inl e
  ·exact .inr ⟨g,e,g1,g2,by rw [look_ob_ne (by omega)]; exact g3⟩
 simp (maxSteps:=999999) (disch:=omega) only [go_sem,selfP,hbf]
 refine W_putB (b:=b) (bs:=bs) (s:=s) (h0:=h0) (by exact hl) hb1 h0n hm ?_
 rintro b' h' hb' hF hs
 have hbl : d ∉ blkOf b:=by
  rcases hb with ⟨rfl,_⟩ | ⟨g,rfl,g1,_⟩
  ·simp [blkOf]
  ·simp [blkOf]; omega
 have hd' : h'.look (.obj d) = some ⟨tDesk,encDk (selfP d) b p⟩:=hF.look (by show d < h.next; omega) hbl look_ob
 have hbf' : (tSl.fits b' = true):=by rcases hs with ⟨q,n,rfl⟩ | rfl <;> rfl
 have hdl:=hb'
 simp (maxSteps:=999999) (disch:=omega) only [go_sem,stV_ob (hl d),hd',hbf']
 refine ⟨((Fr.ob (S:=d :: blkOf b) (by simp)).trans (hF.mono fun n hn _=>by simp [hn])).trans (Fr.ob (by simp)),b',rfl,?_⟩
 rcases hdl with e | ⟨g,e,g1,g2,g3⟩
 ·exact .inl e
 ·exact .inr ⟨g,e,g1,g2,by rw [look_ob_ne (by omega)]; exact g3⟩
end
structure Desk0 (h0 : HP) (d p f c : Nat) : Prop where
 dn : d < h0.next
 pn : p < h0.next
 fn : f < h0.next
 cn : c < h0.next
 dp : ¬d = p
 df : ¬d = f
 dc : ¬d = c
structure DK (h0 h : HP) (d p f0 c0 : Nat) (L : Lf) (bs : List UInt8) : Prop where
 st : Desk0 h0 d p f0 c0
 fr : Fr h0 h [d,p,f0,c0]
 ex : ∃ a b f c,h.look (.obj d) = some ⟨tDesk,encDk a b p⟩ ∧ (a = .nilp ∨ a = selfP d) ∧ Bu h0 h b bs ∧ LifeAt h p f c L ∧ ((f = f0 ∧ c = c0) ∨ (h0.next ≤ f ∧ h0.next ≤ c))
theorem Bu.push {h0 h : HP} {l : Nat} {o : Own} {b : AV} {bs : List UInt8} (a : Bu h0 h b bs) : Bu (h0.push l o) (h.push l o) b bs:=a
section
variable {h0 h h1 : HP} {d p f0 c0 l : Nat} {o : Own} {L L' : Lf} {bs bs' : List UInt8}
theorem DK.push (a : DK h0 h d p f0 c0 L bs) : DK (h0.push l o) (h.push l o) d p f0 c0 L bs:=by
 obtain ⟨⟨s1,s2,s3,s4,s5,s6,s7⟩,fr,a,b,f,c,e1,e2,e3,e4,e5⟩:=a
 exact ⟨⟨s1,s2,s3,s4,s5,s6,s7⟩,⟨by simp only [HP.push,fr.stk],fr.arg,fr.next,fr.same⟩,a,b,f,c,e1,e2,e3,e4.push,e5⟩
theorem DK.pop (a : DK (h0.push l o) (h.push l o) d p f0 c0 L bs) (hs : h.stk = h0.stk) : DK h0 h d p f0 c0 L bs:=by
 obtain ⟨⟨s1,s2,s3,s4,s5,s6,s7⟩,fr,a,b,f,c,e1,e2,e3,e4,e5⟩:=a
 exact ⟨⟨s1,s2,s3,s4,s5,s6,s7⟩,⟨hs,fr.arg,fr.next,fr.same⟩,a,b,f,c,e1,e2,e3,e4.pop,e5⟩
theorem DK.stk (a : DK h0 h d p f0 c0 L bs) : h.stk = h0.stk:=a.fr.stk
theorem Bu.fr {b : AV} (a : Bu h0 h b bs) {S : List Nat} (hF : Fr h h1 S) (hS : ∀ g ∈ S,∀ n v,h.look (.obj g) ≠ some ⟨.arr n tU8,v⟩) : Bu h0 h1 b bs:=by
 rcases a with e | ⟨g,e,g1,g2,g3⟩
 ·exact .inl e
 ·exact .inr ⟨g,e,g1,Nat.lt_of_lt_of_le g2 hF.next,hF.look g2 (fun hg=>hS g hg _ _ g3) g3⟩
theorem Bu.not {b : AV} (a : Bu h0 h b bs) {n : Nat} {t : Ty} {v : AV} (hn : h.look (.obj n) = some ⟨t,v⟩) (ht : ∀ m,t ≠ .arr m tU8) : n ∉ blkOf b:=by
 rcases a with ⟨rfl,_⟩ | ⟨g,rfl,_,_,g3⟩
 ·simp [blkOf]
 ·simp only [blkOf,List.mem_singleton]
  rintro rfl
  rw [hn] at g3
  simp only [Option.some.injEq,Blk.mk.injEq] at g3
  exact ht _ g3.1
theorem LifeAt.fr {f c : Nat} (a : LifeAt h p f c L) {S : List Nat} (hF : Fr h h1 S) (hp : p ∉ S) (h2 : f ∉ S) (h3 : c ∉ S) : LifeAt h1 p f c L :=
 ⟨hF.look a.pn hp a.li,hF.look a.fn h2 a.fi,hF.look a.cn h3 a.ca,a.pf,a.fc,a.pc,Nat.lt_of_lt_of_le a.pn hF.next,Nat.lt_of_lt_of_le a.fn hF.next,Nat.lt_of_lt_of_le a.cn hF.next⟩
theorem DK.same (a : DK h0 h d p f0 c0 L bs) (hF : Fr h h1 []) : DK h0 h1 d p f0 c0 L bs:=by
 obtain ⟨st,fr,a,b,f,c,e1,e2,e3,e4,e5⟩:=a
 have:=fr.next
 have:=st.dn
 exact ⟨st,fr.trans (hF.mono (by simp)),a,b,f,c,hF.look (by omega) (by simp) e1,e2,e3.fr hF (by simp),e4.fr hF (by simp) (by simp) (by simp),e5⟩
theorem DK.step {f c : Nat} (a : DK h0 h d p f0 c0 L bs) (hf : ∀ f' c',LifeAt h p f' c' L → f' = f ∧ c' = c) (hF : Fr h h1 [p,f,c]) (hT : LifeTo h h1 p f c L') : DK h0 h1 d p f0 c0 L' bs:=by
 obtain ⟨st,fr,a,b,f',c',e1,e2,e3,e4,e5⟩:=a
 obtain ⟨rfl,rfl⟩:=hf _ _ e4
 have:=fr.next
 obtain ⟨s1,s2,s3,s4,s5,s6,s7⟩:=id st
 have hdn : d ∉ [p,f',c']:=by simp; omega
 obtain ⟨f2,c2,hA,hx⟩:=hT
 refine ⟨st,⟨hF.stk.trans fr.stk,hF.arg.trans fr.arg,Nat.le_trans fr.next hF.next,fun n hn hs=>(hF.same n (by omega) ?_).trans (fr.same n hn hs)⟩,a,b,f2,c2,hF.look (by omega) hdn e1,e2,e3.fr hF ?_,hA,?_⟩
 ·simp only [List.mem_cons,List.not_mem_nil,or_false,not_or] at hs ⊢
  omega
 ·intro g hg n v e
  simp only [List.mem_cons,List.not_mem_nil,or_false] at hg
  rcases hg with rfl | rfl | rfl
  ·rw [e4.li] at e; simp [tLife] at e
  ·rw [e4.fi] at e; simp [tFiles] at e
  ·rw [e4.ca] at e; simp [tCache] at e
 ·rcases hx with ⟨rfl,rfl⟩ | ⟨x1,x2⟩
  ·exact e5
  ·exact .inr ⟨by omega,by omega⟩
theorem DK.write {a b b' : AV} {f c : Nat} (st : Desk0 h0 d p f0 c0) (fr : Fr h0 h [d,p,f0,c0]) (e1 : h.look (.obj d) = some ⟨tDesk,encDk a b p⟩) (e3 : Bu h0 h b bs) (e4 : LifeAt h p f c L) (e5 : (f = f0 ∧ c = c0) ∨ (h0.next ≤ f ∧ h0.next ≤ c))
  (hF : Fr h h1 (d :: blkOf b)) (e6 : h1.look (.obj d) = some ⟨tDesk,encDk (selfP d) b' p⟩) (e7 : Bu h0 h1 b' bs') : DK h0 h1 d p f0 c0 L bs':=by
 have:=fr.next
 obtain ⟨s1,s2,s3,s4,s5,s6,s7⟩:=id st
 have hb : ∀ n ∈ blkOf b,h0.next ≤ n:=by
  rcases e3 with ⟨rfl,_⟩ | ⟨g,rfl,g1,_⟩ <;> simp [blkOf]
  exact g1
 refine ⟨st,⟨hF.stk.trans fr.stk,hF.arg.trans fr.arg,Nat.le_trans fr.next hF.next,fun n hn hs=>(hF.same n (by omega) ?_).trans (fr.same n hn hs)⟩,selfP d,b',f,c,e6,.inr rfl,e7,e4.fr hF ?_ ?_ ?_,e5⟩
 ·simp only [List.mem_cons,List.not_mem_nil,or_false,not_or] at hs ⊢
  exact ⟨hs.1,fun hm=>by have:=hb n hm; omega⟩
 ·simp only [List.mem_cons,not_or]
  exact ⟨by omega,e3.not e4.li (by simp [tLife])⟩
 ·simp only [List.mem_cons,not_or]
  exact ⟨by omega,e3.not e4.fi (by simp [tFiles])⟩
 ·simp only [List.mem_cons,not_or]
  exact ⟨by omega,e3.not e4.ca (by simp [tCache])⟩
end
theorem W_callD {T : Nat → Option MFun} {cx : Cx} {k : List Item} {kill : List Nat} {r : List MOp} {sl : Slots} {own : Own} {h h0 : HP} {Q : St → Prop} {R : AV → Prop} {L' : Lf} {bs' : List UInt8} {d p f0 c0 : Nat}
  {prot : Bool} {f : Nat} {args : List Opd} {dd : Option Nat} {fn : MFun} (hf : T f = some fn) (hp : fn.params = args.length ∧ fn.nfree = 0) (hs : h.stk = h0.stk)
  (hc : Ok T (St.callCx ⟨sl,own,h⟩ cx prot) fn (St.enter (args.map (St.opd ⟨sl,own,h⟩)) (h.push cx.lvl own)) fun v' h'=>R v' ∧ DK (h0.push cx.lvl own) h' d p f0 c0 L' bs')
  (hq : ∀ v h1,R v → DK h0 h1 d p f0 c0 L' bs' → W T cx (.ops r kill :: k) (St.setd ⟨sl,own,h1⟩ dd v) Q) :
  W T cx (.ops (⟨dd,.call prot [] f args,none⟩ :: r) kill :: k) ⟨sl,own,h⟩ Q:=by
 refine W_callR (R:=fun v h1=>R v ∧ DK h0 h1 d p f0 c0 L' bs') hf hp (hc.mono fun v h' e=>?_) fun v h1 e=>hq v h1 e.1 e.2
 obtain ⟨e1,e2⟩:=e
 have hF:=e2.fr
 have hh : h' = HP.push ⟨h0.stk,h'.obj,h'.next,h'.arg⟩ cx.lvl own:=by
  have:=hF.stk
  cases h'
  simp only at this
  subst this
  rfl
 refine ⟨⟨h0.stk,h'.obj,h'.next,h'.arg⟩,hh,hs.symm,e1,?_⟩
 exact DK.pop (by rw [← hh]; exact e2) rfl
def sayL (ws : List Str) : List UInt8:=joinL ws ⟨#[32]⟩ ++ [10]
section
variable {cx : Cx} {h0 h : HP} {d p f0 c0 : Nat} {L : Lf} {bs : List UInt8}
theorem DWrite_ok {t : List UInt8} (hl : ∀ n,cx.prot.lets (.obj n) = true) (hD : DK h0 h d p f0 c0 L bs) (hm : bs.length + t.length ≤ 1048576) :
  Ok tblV cx Fn.strings_Builder_WriteString (St.enter [selfP d,.str (bsL t)] h) fun v h'=>DK h0 h' d p f0 c0 L (bs ++ t):=by
 have el : (bsL t).data.toList = t:=by simp [bsL]
 obtain ⟨st,fr,a,b,f,c,e1,e2,e3,e4,e5⟩:=hD
 refine (WriteS_ok hl e1 e2 e3 fr.next st.dn (by rw [bsL_size]; exact hm)).mono fun v h' e=>?_
 obtain ⟨hF,b',e6,e7⟩:=e
 rw [el] at e7
 exact DK.write st fr e1 e3 e4 e5 hF e6 e7
theorem Say_ok {v : AV} {ws : List Str} (hl : ∀ n,cx.prot.lets (.obj n) = true) (hD : DK h0 h d p f0 c0 L bs) (hv : Txs h cx.lvl v ws) (hw : ws.length ≤ 1000) (hm : bs.length + (sayL ws).length ≤ 1048576) :
  Ok tblV cx Fn.desk_Desk_say (St.enter [.ptr (.obj d) [] tDesk,v] h) fun v h'=>v = .tup .unit ∧ DK h0 h' d p f0 c0 L (bs ++ sayL ws):=by
 have h2 : (sayL ws).length = (joinL ws ⟨#[32]⟩).length + 1:=by simp [sayL]
 rw [Ok_eq]
 simp (maxSteps:=999999) (disch:=omega) only [go_sem]
 refine W_callp rfl ⟨rfl,rfl⟩ (by simp only [go_sem]; exact Join_ok (ws:=ws) (s:=⟨#[32]⟩) hv.push (by omega) (by omega)) ?_
 simp (maxSteps:=999999) (disch:=omega) only [go_sem]
 have ea : evStr .add (bsL (joinL ws ⟨#[32]⟩)) ⟨#[10]⟩ = some (.str (bsL (sayL ws))):=add_bsL (b:=[10]) (by simp; omega)
 simp (maxSteps:=999999) (disch:=omega) only [go_sem,ea]
 refine W_callD (h0:=h0) (R:=fun _=>True) (L':=L) (bs':=bs ++ sayL ws) (d:=d) (p:=p) (f0:=f0) (c0:=c0) rfl ⟨rfl,rfl⟩ hD.stk (by simp only [go_sem]; exact DWrite_ok (by exact hl) hD.push hm) ?_
 intro v' h1 _ h2
 simp (maxSteps:=999999) (disch:=omega) only [go_sem]
 exact h2
end
section
variable {cx : Cx} {h : HP}
theorem Empty_ok {s : Str} : Ok tblV cx Fn.desk_Desk_Do_1 (St.enter [.str s] h) fun v h'=>v = .bool (decide (s = ⟨#[]⟩)) ∧ h' = h:=by
 rw [Ok_eq]
 simp (maxSteps:=999999) (disch:=omega) only [go_sem]
theorem IndexF_ok {v : AV} {ws : List Str} (hv : Txs h cx.lvl v ws) (hn : ws.length ≤ 1000000000) : Ok tblV cx Fn.slices_IndexFuncS (St.enter [v,.func 411 .unit] h) fun v' h'=>v' = .int .i64 (findN ws.length fun j=>decide (txt ws j = ⟨#[]⟩)) ∧ h' = h:=by
 have hix:=fun z sl own=>hv.ix (cx:=cx) (kk:=.i64) (z:=z) sl own
 have hlv:=fun z sl own=>hv.lv (cx:=cx) (z:=z) sl own
 rw [Ok_eq]
 simp (maxSteps:=999999) (disch:=omega) only [go_sem,hv.len]
 refine W_forP ws.length (fun j=>⟨[(0,v),(1,.func 411 .unit),(7,.int .i64 ws.length),(8,.int .i64 j)],[],h⟩) (fun j=>∀ i,i < j → decide (txt ws i = ⟨#[]⟩) = false) (by simp only [go_sem] <;> rfl) (fun i hi=>by omega) fun j hj hp ih=>?_
 by_cases hlt : j < ws.length
 ·simp (maxSteps:=999999) (disch:=omega) only [go_sem,hlt,hix,hlv]
  refine W_callvp (v:=.bool (decide (txt ws j = ⟨#[]⟩))) (by simp only [go_sem] <;> rfl) rfl ⟨rfl,rfl⟩ (by simp only [go_sem]; exact Empty_ok) ?_
  by_cases c : txt ws j = ⟨#[]⟩
  ·simp (maxSteps:=999999) (disch:=omega) only [go_sem,c]
   rw [findN_at (j:=j) hp (by simp [c]) hlt]
  ·simp (maxSteps:=999999) (disch:=omega) only [go_sem,c]
   refine ih _ hlt (step_all hp (by simp [c])) ?_
   simp only [go_sem]
 ·simp (maxSteps:=999999) (disch:=omega) only [go_sem,hlt]
  obtain rfl : j = ws.length:=by omega
  rw [findN_none hp]
theorem IndexS_ok {v : AV} {ws : List Str} {s : Str} (hv : Txs h cx.lvl v ws) (hn : ws.length ≤ 1000000000) : Ok tblV cx Fn.slices_IndexS (St.enter [v,.str s] h) fun v' h'=>v' = .int .i64 (findN ws.length fun j=>decide (s = txt ws j)) ∧ h' = h:=by
 have hix:=fun z sl own=>hv.ix (cx:=cx) (kk:=.i64) (z:=z) sl own
 have hlv:=fun z sl own=>hv.lv (cx:=cx) (z:=z) sl own
 rw [Ok_eq]
 simp (maxSteps:=999999) (disch:=omega) only [go_sem,hv.len]
 refine W_forP ws.length (fun j=>⟨[(0,v),(1,.str s),(7,.int .i64 ws.length),(8,.int .i64 j)],[],h⟩) (fun j=>∀ i,i < j → decide (s = txt ws i) = false) (by simp only [go_sem] <;> rfl) (fun i hi=>by omega) fun j hj hp ih=>?_
 by_cases hlt : j < ws.length
 ·by_cases c : s = txt ws j
  ·simp (maxSteps:=999999) (disch:=omega) only [go_sem,hlt,hix,hlv,c]
   rw [findN_at (j:=j) (fun i hi=>by rw [← c]; exact hp i hi) (by simp) hlt]
  ·simp (maxSteps:=999999) (disch:=omega) only [go_sem,hlt,hix,hlv,c]
   refine ih _ hlt (step_all hp (by simp [c])) ?_
   simp only [go_sem]
 ·simp (maxSteps:=999999) (disch:=omega) only [go_sem,hlt]
  obtain rfl : j = ws.length:=by omega
  rw [findN_none hp]
def numC (s : Str) : Int:=if atoiE s = true ∨ ¬bsL (numL (atoiV s)) = s ∨ atoiV s < 0 then -1 else atoiV s
theorem atoiV_i64 (s : Str) : i64 (atoiV s):=by
 unfold atoiV
 split
 ·rename_i v hv
  have:=Lib.atoiAll_bounds hv
  exact ⟨by omega,by omega⟩
 ·have:=Lib.atoiSat_bounds s.data.toList
  exact ⟨by omega,by omega⟩
 ·exact ⟨by decide,by decide⟩
theorem DNum_ok {n : Int} (hn : i64 n) : Ok tblV cx Fn.desk_num (St.enter [.int .i64 n] h) fun v h'=>v = .str (bsL (numL n)) ∧ h' = h:=by
 rw [Ok_eq]
 simp (maxSteps:=999999) (disch:=omega) only [go_sem]
 refine W_callp rfl ⟨rfl,rfl⟩ (by simp only [go_sem]; exact upV (Itoa_ok hn)) ?_
 simp (maxSteps:=999999) (disch:=omega) only [go_sem]
theorem Number_ok {s : Str} (hs : s.size ≤ 1000000) : Ok tblV cx Fn.desk_number (St.enter [.str s] h) fun v h'=>v = .int .i64 (numC s) ∧ h' = h:=by
 rw [Ok_eq]
 simp (maxSteps:=999999) (disch:=omega) only [go_sem]
 refine W_callp rfl ⟨rfl,rfl⟩ (by simp only [go_sem]; exact Atoi_ok hs) ?_
 simp (maxSteps:=999999) (disch:=omega) only [go_sem]
 cases he : atoiE s with
 | true =>
  simp (maxSteps:=999999) (disch:=omega) only [go_sem,he]
  simp [numC,he]
 | false =>
  simp (maxSteps:=999999) (disch:=omega) only [go_sem,he]
  refine W_callp rfl ⟨rfl,rfl⟩ (by simp only [go_sem]; exact DNum_ok (atoiV_i64 s)) ?_
  simp (maxSteps:=999999) (disch:=omega) only [go_sem]
  by_cases c1 : bsL (numL (atoiV s)) = s
  ·by_cases c2 : atoiV s < 0
   ·simp (maxSteps:=999999) (disch:=omega) only [go_sem,c1,c2]
    simp [numC,he,c2]
   ·simp (maxSteps:=999999) (disch:=omega) only [go_sem,c1,c2]
    simp [numC,he,c1,c2]
  ·simp (maxSteps:=999999) (disch:=omega) only [go_sem,c1]
   simp [numC,he,c1]
theorem FormatB_ok {b : Bool} : Ok tblV cx Fn.strconv_FormatBool (St.enter [.bool b] h) fun v h'=>v = .str (if b = true then ⟨#[116,114,117,101]⟩ else ⟨#[102,97,108,115,101]⟩) ∧ h' = h:=by
 have : ∀ {cx : Cx} {h : HP},Ok tblV cx Fn.internal_strconv_FormatBool (St.enter [.bool b] h) fun v h'=>v = .str (if b = true then ⟨#[116,114,117,101]⟩ else ⟨#[102,97,108,115,101]⟩) ∧ h' = h:=by
  intro cx h
  rw [Ok_eq]
  cases b
  ·simp (maxSteps:=999999) (disch:=omega) only [go_sem]
  ·simp (maxSteps:=999999) (disch:=omega) only [go_sem]
 rw [Ok_eq]
 simp (maxSteps:=999999) (disch:=omega) only [go_sem]
 refine W_callp rfl ⟨rfl,rfl⟩ (by simp only [go_sem]; exact this) ?_
 simp (maxSteps:=999999) (disch:=omega) only [go_sem]
theorem least {p : Nat → Bool} : ∀ n,(∃ i,i < n ∧ p i = true) → ∃ j,j < n ∧ p j = true ∧ ∀ i,i < j → p i = false
 | 0,⟨i,h,_⟩=>by omega
 | n + 1,⟨i,h,hp⟩=>by
  by_cases e : ∃ i,i < n ∧ p i = true
  ·obtain ⟨j,h1,h2,h3⟩:=least n e
   exact ⟨j,by omega,h2,h3⟩
  ·have hn : ∀ i,i < n → p i = false:=fun i hi=>by
    cases hx : p i with
    | false=>rfl
    | true=>exact absurd ⟨i,hi,hx⟩ e
   have : i = n:=by
    rcases Nat.lt_or_ge i n with h' | h'
    ·exact absurd ⟨i,h',hp⟩ e
    ·omega
   subst this
   exact ⟨i,by omega,hp,hn⟩
def full (l : List Str) : List Str:=l.filter fun s=>!decide (s = ⟨#[]⟩)
theorem Delete_ok {q : Nat} {l : List Str} (hl : ∀ n,cx.prot.lets (.obj n) = true) (hq : h.look (.obj q) = some ⟨.arr l.length tS,encS l⟩) (hn : l.length ≤ 1000000000) :
  Ok tblV cx Fn.slices_DeleteFunc (St.enter [.sl (.obj q) 0 l.length,.func 411 .unit] h) fun v h'=>v = .sl (.obj q) 0 (full l).length ∧ ∃ w : List Str,w.length = l.length ∧ w.take (full l).length = full l ∧ h' = h.ob q (.arr l.length tS) (encS w):=by
 have hv : Txs h cx.lvl (.sl (.obj q) 0 l.length) l:=.inr ⟨.obj q,0,l,rfl,below_obj _ _,hq,by omega,by simp⟩
 have hself : h.ob q (.arr l.length tS) (encS l) = h:=ob_self hq
 rw [Ok_eq]
 simp (maxSteps:=999999) (disch:=omega) only [go_sem]
 refine W_callp rfl ⟨rfl,rfl⟩ (by simp only [go_sem]; exact IndexF_ok hv.push hn) ?_
 by_cases hall : ∀ i,i < l.length → decide (txt l i = ⟨#[]⟩) = false
 ·rw [findN_none hall]
  simp (maxSteps:=999999) (disch:=omega) only [go_sem]
  have e : full l = l:=by
   refine List.filter_eq_self.2 fun a ha=>?_
   obtain ⟨i,hi,rfl⟩:=List.getElem_of_mem ha
   have:=hall i hi
   rw [txt_lt hi] at this
   simp at this
   simp [this]
  exact ⟨by rw [e],l,rfl,by rw [e]; simp,hself.symm⟩
 ·obtain ⟨i0,hi0,hp0,hb0⟩:=least (p:=fun i=>decide (txt l i = ⟨#[]⟩)) l.length (by
   rcases Classical.not_forall.1 hall with ⟨i,hi⟩
   refine ⟨i,?_⟩
   rcases Nat.lt_or_ge i l.length with h' | h'
   ·refine ⟨h',?_⟩
    cases hx : decide (txt l i = ⟨#[]⟩) with
    | true=>rfl
    | false=>exact absurd (fun _=>hx) hi
   ·exact absurd (fun h''=>by omega) hi)
  rw [findN_at hb0 hp0 hi0]
  have f0 : full (l.take (i0 + 1)) = l.take i0:=by
   have e1 : l.take (i0 + 1) = l.take i0 ++ [l[i0]]:=by rw [List.take_add_one,List.getElem?_eq_getElem hi0]; rfl
   have e2 : l[i0] = ⟨#[]⟩:=by have:=hp0; rw [txt_lt hi0] at this; simpa using this
   have e3 : full (l.take i0) = l.take i0:=by
    refine List.filter_eq_self.2 fun a ha=>?_
    obtain ⟨i,hi,rfl⟩:=List.getElem_of_mem ha
    have hi' : i < i0:=by simp at hi; omega
    have:=hb0 i hi'
    rw [txt_lt (by omega)] at this
    simp at this
    simp [this]
   rw [e1]
   simp only [full,List.filter_append] at e3 ⊢
   rw [e3,e2]
   simp
  simp (maxSteps:=999999) (disch:=omega) only [go_sem]
  refine W_forE (α:=List Str) (l.length - (i0 + 1)) (fun k m=>⟨[(0,.sl (.obj q) 0 l.length),(1,.func 411 .unit),(5,.int .i64 ((full (l.take (i0 + 1 + k))).length : Nat)),(6,.int .i64 ((i0 + 1 + k : Nat) : Int))],[],h.ob q (.arr l.length tS) (encS m)⟩)
   (fun k m=>m.length = l.length ∧ m.take (full (l.take (i0 + 1 + k))).length = full (l.take (i0 + 1 + k)) ∧ m.drop (i0 + 1 + k) = l.drop (i0 + 1 + k) ∧ (full (l.take (i0 + 1 + k))).length ≤ i0 + k) l ?_ ?_ fun k m hk hp ih=>?_
  ·have e : (full (l.take (i0 + 1 + 0))).length = i0:=by rw [Nat.add_zero,f0,List.length_take]; omega
   simp only [go_sem,hself,e,Nat.add_zero] <;> rfl
  ·simp only [Nat.add_zero,f0,List.length_take,true_and,and_true]
   refine ⟨?_,by omega⟩
   rw [Nat.min_eq_left (by omega)]
  obtain ⟨m1,m2,m3,m4⟩:=hp
  have et : ((i0 : Int) + 1 + (k : Int)).toNat = i0 + 1 + k:=by omega
  have hqm : (h.ob q (.arr l.length tS) (encS m)).look (.obj q) = some ⟨.arr l.length tS,encS m⟩:=look_ob
  by_cases hlt : i0 + 1 + k < l.length
  ·have hx : txt m (i0 + 1 + k) = l[i0 + 1 + k]:=by
    rw [txt_lt (by omega)]
    have:=congrArg (·[0]?) m3
    simpa [List.getElem?_drop,List.getElem?_eq_getElem hlt,List.getElem?_eq_getElem (show i0 + 1 + k < m.length by omega)] using this
   have et1 : l.take (i0 + 1 + (k + 1)) = l.take (i0 + 1 + k) ++ [l[i0 + 1 + k]]:=by
    rw [show i0 + 1 + (k + 1) = (i0 + 1 + k) + 1 by omega,List.take_add_one,List.getElem?_eq_getElem hlt]; rfl
   have ef : full (l.take (i0 + 1 + (k + 1))) = full (l.take (i0 + 1 + k)) ++ (if l[i0 + 1 + k] = ⟨#[]⟩ then [] else [l[i0 + 1 + k]]):=by
    rw [et1]
    simp only [full,List.filter_append]
    congr 1
    by_cases c : l[i0 + 1 + k] = ⟨#[]⟩ <;> simp [c]
   have ed : l.drop (i0 + 1 + (k + 1)) = (l.drop (i0 + 1 + k)).drop 1:=by rw [List.drop_drop]; congr 1
   simp (maxSteps:=999999) (disch:=omega) only [go_sem,hlt,et,hx]
   refine W_callvp (v:=.bool (decide (l[i0 + 1 + k] = ⟨#[]⟩))) (by simp only [go_sem] <;> rfl) rfl ⟨rfl,rfl⟩ (by simp only [go_sem]; exact Empty_ok) ?_
   by_cases c : l[i0 + 1 + k] = ⟨#[]⟩
   ·simp (maxSteps:=999999) (disch:=omega) only [go_sem,c]
    rw [if_pos c,List.append_nil] at ef
    refine ih _ m (by omega) ?_ ⟨m1,by rw [ef]; exact m2,by rw [ed,← m3,List.drop_drop]; congr 1,by rw [ef]; omega⟩
    simp only [go_sem,ef,Int.add_assoc]
   ·simp (maxSteps:=999999) (disch:=omega) only [go_sem,c,stV_ob (hl q)]
    rw [if_neg c] at ef
    have el : (full (l.take (i0 + 1 + (k + 1)))).length = (full (l.take (i0 + 1 + k))).length + 1:=by rw [ef]; simp
    refine ih _ (m.set (full (l.take (i0 + 1 + k))).length l[i0 + 1 + k]) (by omega) ?_ ⟨by simp [m1],?_,?_,by omega⟩
    ·simp only [go_sem,el,Int.add_assoc] <;> rfl
    ·rw [ef,List.length_append,List.length_singleton,List.take_add_one,List.take_set_of_le (Nat.le_refl _),m2,List.getElem?_set_self (by omega)]
     rfl
    ·rw [List.drop_set_of_lt (by omega),ed,← m3,List.drop_drop]; congr 1
  ·have hkk : l.length = i0 + 1 + k:=by omega
   have ef : full (l.take (i0 + 1 + k)) = full l:=by rw [List.take_of_length_le (by omega)]
   rw [ef] at m2 m4 ⊢
   simp (maxSteps:=999999) (disch:=omega) only [go_sem,hlt]
   refine W_slS (i:=.obj q) (o:=0) (n:=l.length) (N:=l.length) (w:=encS m) (a:=(full l).length) (b:=l.length) (by simp only [go_sem]) (by simp only [go_sem]) (.inr ⟨_,rfl,by simp only [go_sem]⟩) (.inl ⟨rfl,rfl⟩) (by omega) (by omega) (.inl (by omega)) ?_
   simp (maxSteps:=999999) (disch:=omega) only [go_sem]
   refine W_clearS (q:=q) (o:=(full l).length) (n:=l.length - (full l).length) (l:=m) (by simp only [go_sem] <;> rfl) (hl q) hqm m1 (by omega) ?_
   simp (maxSteps:=999999) (disch:=omega) only [go_sem]
   refine W_slS (i:=.obj q) (o:=0) (n:=l.length) (N:=l.length) (w:=encS (m.take (full l).length ++ List.replicate (l.length - (full l).length) ⟨#[]⟩ ++ m.drop ((full l).length + (l.length - (full l).length)))) (a:=0) (b:=(full l).length) (by simp only [go_sem]) (by simp only [go_sem]) (.inl ⟨rfl,rfl⟩) (.inr ⟨_,rfl,by simp only [go_sem]⟩) (by omega) (by omega) (.inr rfl) ?_
   simp (maxSteps:=999999) (disch:=omega) only [go_sem]
   rw [if_pos (show (AV.sl (Id.obj q) 0 ((full l).length - 0)).safe = true from rfl)]
   refine ⟨rfl,_,?_,?_,rfl⟩
   ·simp; omega
   ·rw [List.take_append_of_le_length (by simp; omega),m2]; simp
end
def idxL (k : Nat) : List AV → List (Nat × AV)
 | []=>[]
 | x :: r=>(k,x) :: idxL (k + 1) r
theorem fill_from {n : Nat} {t : Ty} : ∀ (xs : List AV) (k : Nat) (f : Fin n → AV),k + xs.length ≤ n → (∀ x ∈ xs,t.fits x = true) →
  fill (.arr n t) (.arr n f) (idxL k xs) = some (.arr n fun j=>if h : k ≤ j.val ∧ j.val < k + xs.length then xs[j.val - k] else f j)
 | [],k,f,_,_=>by
  simp only [idxL,fill]
  congr 2
  funext j
  rw [dif_neg (by simp)]
 | x :: r,k,f,hn,hf=>by
  simp only [List.length_cons] at hn
  have hx:=hf x (List.mem_cons_self ..)
  simp only [idxL,fill,Ty.part]
  rw [if_pos (by omega)]
  simp only [hx,if_true,AV.put,show k < n by omega,dite_true,put_nil,Option.map_some]
  rw [fill_from r (k + 1) _ (by omega) (fun y hy=>hf y (List.mem_cons_of_mem _ hy))]
  congr 2
  funext j
  by_cases c1 : j.val = k
  ·rw [dif_neg (by omega),if_pos c1,dif_pos (by simp; omega)]
   simp [c1]
  ·by_cases c2 : k + 1 ≤ j.val ∧ j.val < k + 1 + r.length
   ·rw [dif_pos c2,dif_pos (by simp; omega)]
    have : j.val - k = (j.val - (k + 1)) + 1:=by omega
    simp only [this,List.getElem_cons_succ]
   ·rw [dif_neg c2,if_neg c1,dif_neg (by simp; omega)]
theorem fill_all {t : Ty} (xs : List AV) {n : Nat} (hn : n = xs.length) (hf : ∀ x ∈ xs,t.fits x = true) : fill (.arr n t) (Ty.arr n t).zero (idxL 0 xs) = some (.ofList xs):=by
 subst hn
 rw [show (Ty.arr xs.length t).zero = .arr xs.length fun _=>t.zero from by simp [Ty.zero],fill_from xs 0 _ (by omega) hf]
 simp only [AV.ofList]
 congr 2
 funext j
 rw [dif_pos (by omega)]
 simp
theorem fill_strs (l : List Str) {n : Nat} (hn : n = l.length) : fill (.arr n tS) (Ty.arr n tS).zero (idxL 0 (l.map AV.str)) = some (encS l) :=
 fill_all _ (by simpa using hn) (by simp [tS,Ty.fits,LK.fits,AV.safe])
theorem fill_ints (l : List Int) {n : Nat} (hn : n = l.length) : fill (.arr n tI) (Ty.arr n tI).zero (idxL 0 (l.map (AV.int .i64))) = some (encL l) :=
 fill_all _ (by simpa using hn) (by simp [tI,Ty.fits,LK.fits,AV.safe])
@[go_sem] theorem fillS1 (a : Str) : fill (.arr 1 tS) (Ty.arr 1 tS).zero [(0,.str a)] = some (encS [a]):=fill_strs [a] rfl
@[go_sem] theorem fillS2 (a b : Str) : fill (.arr 2 tS) (Ty.arr 2 tS).zero [(0,.str a),(1,.str b)] = some (encS [a,b]):=fill_strs [a,b] rfl
@[go_sem] theorem fillS5 (a b c d e : Str) : fill (.arr 5 tS) (Ty.arr 5 tS).zero [(0,.str a),(1,.str b),(2,.str c),(3,.str d),(4,.str e)] = some (encS [a,b,c,d,e]):=fill_strs [a,b,c,d,e] rfl
@[go_sem] theorem fillS10 (a b c d e f g h i j : Str) : fill (.arr 10 tS) (Ty.arr 10 tS).zero [(0,.str a),(1,.str b),(2,.str c),(3,.str d),(4,.str e),(5,.str f),(6,.str g),(7,.str h),(8,.str i),(9,.str j)] = some (encS [a,b,c,d,e,f,g,h,i,j]):=fill_strs [a,b,c,d,e,f,g,h,i,j] rfl
@[go_sem] theorem fillI10 (a b c d e f g h i j : Int) : fill (.arr 10 tI) (Ty.arr 10 tI).zero [(0,.int .i64 a),(1,.int .i64 b),(2,.int .i64 c),(3,.int .i64 d),(4,.int .i64 e),(5,.int .i64 f),(6,.int .i64 g),(7,.int .i64 h),(8,.int .i64 i),(9,.int .i64 j)] = some (encL [a,b,c,d,e,f,g,h,i,j]):=fill_ints [a,b,c,d,e,f,g,h,i,j] rfl
section
variable {T : Nat → Option MFun} {cx : Cx} {k : List Item} {kill : List Nat} {r : List MOp} {sl : Slots} {own : Own} {h : HP} {Q : St → Prop}
def WBX1 (T : Nat → Option MFun) (cx : Cx) (o : Option AV) (t : Ty) (n : Nat) (d : Nat) (r : List MOp) (kill : List Nat) (k : List Item) (sl : Slots) (own : Own) (h : HP) (Q : St → Prop) : Prop :=
 onO o fun w=>W T cx (.ops r kill :: k) ⟨(Slots.forget sl (.stk cx.lvl d)).set d (.sl (.stk cx.lvl d) 0 n),own.set d ⟨.arr n t,w⟩,h⟩ Q
@[go_sem] theorem WBX1_some {w : AV} {t : Ty} {n d : Nat} : WBX1 T cx (some w) t n d r kill k sl own h Q = W T cx (.ops r kill :: k) ⟨(Slots.forget sl (.stk cx.lvl d)).set d (.sl (.stk cx.lvl d) 0 n),own.set d ⟨.arr n t,w⟩,h⟩ Q:=rfl
@[go_sem] theorem W_bsliceSn {n d : Nat} {ps : List (Nat × Opd)} : W T cx (.ops (⟨some d,.bslice false tS n ps,none⟩ :: r) kill :: k) ⟨sl,own,h⟩ Q =
  WBX1 T cx (fill (.arr n tS) (Ty.arr n tS).zero (ps.map fun p=>(p.1,St.opd ⟨sl,own,h⟩ p.2))) tS n d r kill k sl own h Q:=by
 rw [W_op rfl,evOp]
 simp only [evK,WBX1]
 cases fill (.arr n tS) (Ty.arr n tS).zero (ps.map fun p=>(p.1,St.opd ⟨sl,own,h⟩ p.2)) <;> rfl
@[go_sem] theorem W_bsliceIn {n d : Nat} {ps : List (Nat × Opd)} : W T cx (.ops (⟨some d,.bslice false tI n ps,none⟩ :: r) kill :: k) ⟨sl,own,h⟩ Q =
  WBX1 T cx (fill (.arr n tI) (Ty.arr n tI).zero (ps.map fun p=>(p.1,St.opd ⟨sl,own,h⟩ p.2))) tI n d r kill k sl own h Q:=by
 rw [W_op rfl,evOp]
 simp only [evK,WBX1]
 cases fill (.arr n tI) (Ty.arr n tI).zero (ps.map fun p=>(p.1,St.opd ⟨sl,own,h⟩ p.2)) <;> rfl
@[go_sem] theorem put_stp0 (x : SStep) (n : Int) : x.enc.put [0] (.int .i64 n) = some ({ x with kind:=n } : SStep).enc:=rfl
@[go_sem] theorem put_stp2 (x : SStep) (n : Int) : x.enc.put [2] (.int .i64 n) = some ({ x with toDir:=n } : SStep).enc:=rfl
@[go_sem] theorem put_stp3 (x : SStep) (n : Int) : x.enc.put [3] (.int .i64 n) = some ({ x with p:=n } : SStep).enc:=rfl
@[go_sem] theorem put_stp5 (x : SStep) (s : Str) : x.enc.put [5] (.str s) = some ({ x with to:=s } : SStep).enc:=rfl
@[go_sem] theorem put_stp6 (x : SStep) (s : Str) : x.enc.put [6] (.str s) = some ({ x with text:=s } : SStep).enc:=rfl
def step0 : SStep:=⟨0,0,0,0,⟨#[]⟩,⟨#[]⟩,⟨#[]⟩⟩
def sFile (d : Int) (s : Str) : SStep:=⟨0,d,0,0,s,⟨#[]⟩,⟨#[]⟩⟩
@[go_sem] theorem fill_stp0 : fill tStep tStep.zero [] = some step0.enc:=rfl
@[go_sem] theorem fill_stpF (d : Int) (s : Str) : fill tStep tStep.zero [(1,.int .i64 d),(4,.str s)] = some (sFile d s).enc:=rfl
theorem Txs.into {v : AV} {ws : List Str} {l : Nat} (hv : Txs h l v ws) {z : Int} (h0 : 0 ≤ z) (hz : z < ws.length) : intoV (ixP v z) v = true:=by
 rcases hv with ⟨_,rfl⟩ | ⟨i,o,w,rfl,hb,hk,hle,ht⟩
 ·simp at hz; omega
 ·simp [ixP,intoV,AV.into]
theorem Txs.apart {v : AV} {ws : List Str} {l t : Nat} (hv : Txs h l v ws) (h0 : 0 < ws.length) (p : List Nat) (u : Ty) : apartV (.ptr (.stk l t) p u) v = true:=by
 rcases hv with ⟨_,rfl⟩ | ⟨i,o,w,rfl,hb,_⟩
 ·simp at h0
 ·simp only [apartV,AV.apart,Bool.not_eq_true',beq_eq_false_iff_ne,ne_eq]
  exact hb.ne
end
def kindsL : List Str:=[⟨#[]⟩,⟨#[109,97,107,101]⟩,⟨#[108,105,110,107]⟩,⟨#[117,110,108,105,110,107]⟩,⟨#[114,101,110,97,109,101]⟩,⟨#[112,117,116]⟩,⟨#[99,117,116]⟩,⟨#[119,114,105,116,101]⟩,⟨#[115,121,110,99]⟩,⟨#[99,114,97,115,104]⟩]
def manyL : List Int:=[0,3,5,3,5,5,4,2,1,1]
def kindC (l : List Str) : Int:=findN kindsL.length fun j=>decide (txt l 0 = txt kindsL j)
def stepC (l : List Str) (k : Nat) : SStep × Bool :=
 let x : SStep:=if 2 < l.length then ⟨k,numC (txt l 1),0,0,txt l 2,⟨#[]⟩,⟨#[]⟩⟩ else ⟨k,0,0,0,⟨#[]⟩,⟨#[]⟩,⟨#[]⟩⟩
 if k = 2 ∨ k = 4 then ({ x with toDir:=numC (txt l 3),to:=txt l 4 },true) else
 if k = 5 then ({ x with p:=numC (txt l 3),text:=bsL ((meanL (txt l 4).data.toList).getD []) },(meanL (txt l 4).data.toList).isSome) else
 if k = 6 then ({ x with p:=numC (txt l 3) },true) else
 if k = 7 then ({ x with p:=numC (txt l 1) },true) else (x,true)
def wordsC (l : List Str) : SStep × Bool:=if kindC l < 1 ∨ ¬(l.length : Int) = manyL.getD (kindC l).toNat 0 then (step0,false) else stepC l (kindC l).toNat
section
variable {cx : Cx} {h : HP}
theorem File_ok {s t : Str} (hs : s.size ≤ 1000000) : Ok tblV cx Fn.desk_file (St.enter [.str s,.str t] h) fun v h'=>v = (sFile (numC s) t).enc ∧ h' = h:=by
 rw [Ok_eq]
 simp (maxSteps:=999999) (disch:=omega) only [go_sem]
 refine W_callp rfl ⟨rfl,rfl⟩ (by simp only [go_sem]; exact Number_ok hs) ?_
 simp (maxSteps:=999999) (disch:=omega) only [go_sem]
theorem MeanS_ok {s : Str} (hl : ∀ n,cx.prot.lets (.obj n) = true) (hs : s.size ≤ 10000) : Ok tblV cx Fn.text_Mean (St.enter [.str s] h) fun v h'=>Fr h h' [] ∧ v = .tup (.cons (.str (bsL ((meanL s.data.toList).getD []))) (.cons (.bool (meanL s.data.toList).isSome) .unit)):=by
 have:=upV (Mean_ok (cx:=cx) (h:=h) (l:=s.data.toList) (fun n _=>hl n) (by simpa using hs))
 rw [bsL_of] at this
 exact this.mono fun v h' e=>⟨e.2,e.1⟩
theorem kindC_cases (l : List Str) : kindC l = -1 ∨ ∃ j,j < 10 ∧ kindC l = (j : Nat):=by
 by_cases e : ∀ i,i < kindsL.length → decide (txt l 0 = txt kindsL i) = false
 ·exact .inl (findN_none e)
 ·obtain ⟨j,h1,h2,h3⟩:=least (p:=fun i=>decide (txt l 0 = txt kindsL i)) kindsL.length (by
   rcases Classical.not_forall.1 e with ⟨i,hi⟩
   refine ⟨i,?_⟩
   rcases Nat.lt_or_ge i kindsL.length with h' | h'
   ·refine ⟨h',?_⟩
    cases hx : decide (txt l 0 = txt kindsL i) with
    | true=>rfl
    | false=>exact absurd (fun _=>hx) hi
   ·exact absurd (fun h''=>by omega) hi)
  exact .inr ⟨j,h1,findN_at h3 h2 h1⟩
theorem Words_ok {v : AV} {l : List Str} (hl : ∀ n,cx.prot.lets (.obj n) = true) (hv : Txs h cx.lvl v l) (h0 : 0 < l.length) (hn : l.length ≤ 1000000) (hs : ∀ i,(txt l i).size ≤ 10000) :
  Ok tblV cx Fn.desk_words (St.enter [v] h) fun v' h'=>Fr h h' [] ∧ v' = .tup (.cons (wordsC l).1.enc (.cons (.bool (wordsC l).2) .unit)):=by
 have hix:=fun z sl own=>hv.ix (cx:=cx) (kk:=.i64) (z:=z) sl own
 have hlv:=fun z sl own=>hv.lv (cx:=cx) (z:=z) sl own
 have hfg:=fun t=>hv.fg (t:=t)
 have hld:=fun t=>hv.ld (t:=t)
 have hfx:=fun z t=>hv.fgx (t:=t) z
 have hlx:=fun z t=>hv.ldx (t:=t) z
 have hin:=fun z=>hv.into (z:=z)
 have hap:=fun t p u=>hv.apart (t:=t) h0 p u
 have hz : tStep.zero = step0.enc:=rfl
 have hln:=hv.len
 rw [Ok_eq]
 simp (maxSteps:=999999) (disch:=omega) only [go_sem,hix,hlv,hfg,hld]
 refine W_callp rfl ⟨rfl,rfl⟩ (by simp only [go_sem]; exact IndexS_ok (ws:=kindsL) (s:=txt l (0 : Int).toNat) (.inr ⟨.stk cx.lvl 9,0,kindsL,rfl,below_stk _ _,by simp only [HP.push_look_own,go_sem]; rfl,by decide,by decide⟩) (by decide)) ?_
 change W _ _ _ (St.setd _ _ (.int .i64 (kindC l))) _
 have hk1 : ∀ k : Int,kindC l = k → (k < 1 ∨ ¬(l.length : Int) = manyL.getD k.toNat 0) → wordsC l = (step0,false):=by
  rintro k rfl h; simp only [wordsC]; rw [if_pos h]
 have hk2 : ∀ k : Nat,kindC l = (k : Int) → 1 ≤ k → (l.length : Int) = manyL.getD k 0 → wordsC l = stepC l k:=by
  intro k hk h1 h2; simp only [wordsC,hk,Int.toNat_natCast]; rw [if_neg (by rintro (h | h); omega; exact h h2)]
 have hat : ∀ i (hi : i < 10),(encL [0,3,5,3,5,5,4,2,1,1]).at [i] = some (.int .i64 (manyL.getD i 0)):=by
  intro i hi
  rw [encL_at _ (by exact hi)]
  simp [manyL,List.getD_eq_getElem?_getD,hi]
 rcases kindC_cases l with hk | ⟨k,hk10,hk⟩
 ·simp (maxSteps:=999999) (disch:=omega) only [go_sem,hk,hz,hfg]
  rw [hk1 _ hk (.inl (by omega))]
  exact ⟨Fr.refl _ _,rfl⟩
 ·have : k = 0 ∨ k = 1 ∨ k = 2 ∨ k = 3 ∨ k = 4 ∨ k = 5 ∨ k = 6 ∨ k = 7 ∨ k = 8 ∨ k = 9:=by omega
  rcases this with rfl | rfl | rfl | rfl | rfl | rfl | rfl | rfl | rfl | rfl
  ·simp (maxSteps:=999999) (disch:=omega) only [go_sem,hk,hz,hfg]
   rw [hk1 _ hk (.inl (by omega))]
   exact ⟨Fr.refl _ _,rfl⟩
  ·have hm : manyL.getD 1 0 = 3:=rfl
   by_cases hL : (l.length : Int) = 3
   ·have hL2 : l.length = 3:=by omega
    rw [hk2 1 hk (by decide) hL]
    simp (maxSteps:=999999) (disch:=omega) only [go_sem,hk,hat,hln,hz,hfg,hm,hL,hix,hlv,hld,hfx,hlx,hin,hap]
    refine W_callp rfl ⟨rfl,rfl⟩ (by simp only [go_sem]; exact File_ok (hs:=by have:=hs 1; exact Nat.le_trans this (by decide))) ?_
    simp (maxSteps:=999999) (disch:=omega) only [go_sem,hk,hat,hln,hz,hfg,hm,hL,hix,hlv,hld,hfx,hlx,hin,hap]
    first | (refine ⟨Fr.refl _ _,?_⟩; simp [stepC,sFile,step0,hL2]; done) | (refine ⟨hF,?_⟩; simp [stepC,sFile,step0,hL2]; done)
   ·simp (maxSteps:=999999) (disch:=omega) only [go_sem,hk,hat,hln,hz,hfg,hm,hL]
    rw [hk1 _ hk (.inr hL)]
    exact ⟨Fr.refl _ _,rfl⟩
  ·have hm : manyL.getD 2 0 = 5:=rfl
   by_cases hL : (l.length : Int) = 5
   ·have hL2 : l.length = 5:=by omega
    rw [hk2 2 hk (by decide) hL]
    simp (maxSteps:=999999) (disch:=omega) only [go_sem,hk,hat,hln,hz,hfg,hm,hL,hix,hlv,hld,hfx,hlx,hin,hap]
    refine W_callp rfl ⟨rfl,rfl⟩ (by simp only [go_sem]; exact File_ok (hs:=by have:=hs 1; exact Nat.le_trans this (by decide))) ?_
    simp (maxSteps:=999999) (disch:=omega) only [go_sem,hk,hat,hln,hz,hfg,hm,hL,hix,hlv,hld,hfx,hlx,hin,hap]
    refine W_callp rfl ⟨rfl,rfl⟩ (by simp only [go_sem]; exact Number_ok (hs:=by have:=hs 3; exact Nat.le_trans this (by decide))) ?_
    simp (maxSteps:=999999) (disch:=omega) only [go_sem,hk,hat,hln,hz,hfg,hm,hL,hix,hlv,hld,hfx,hlx,hin,hap]
    first | (refine ⟨Fr.refl _ _,?_⟩; simp [stepC,sFile,step0,hL2]; done) | (refine ⟨hF,?_⟩; simp [stepC,sFile,step0,hL2]; done)
   ·simp (maxSteps:=999999) (disch:=omega) only [go_sem,hk,hat,hln,hz,hfg,hm,hL]
    rw [hk1 _ hk (.inr hL)]
    exact ⟨Fr.refl _ _,rfl⟩
  ·have hm : manyL.getD 3 0 = 3:=rfl
   by_cases hL : (l.length : Int) = 3
   ·have hL2 : l.length = 3:=by omega
    rw [hk2 3 hk (by decide) hL]
    simp (maxSteps:=999999) (disch:=omega) only [go_sem,hk,hat,hln,hz,hfg,hm,hL,hix,hlv,hld,hfx,hlx,hin,hap]
    refine W_callp rfl ⟨rfl,rfl⟩ (by simp only [go_sem]; exact File_ok (hs:=by have:=hs 1; exact Nat.le_trans this (by decide))) ?_
    simp (maxSteps:=999999) (disch:=omega) only [go_sem,hk,hat,hln,hz,hfg,hm,hL,hix,hlv,hld,hfx,hlx,hin,hap]
    first | (refine ⟨Fr.refl _ _,?_⟩; simp [stepC,sFile,step0,hL2]; done) | (refine ⟨hF,?_⟩; simp [stepC,sFile,step0,hL2]; done)
   ·simp (maxSteps:=999999) (disch:=omega) only [go_sem,hk,hat,hln,hz,hfg,hm,hL]
    rw [hk1 _ hk (.inr hL)]
    exact ⟨Fr.refl _ _,rfl⟩
  ·have hm : manyL.getD 4 0 = 5:=rfl
   by_cases hL : (l.length : Int) = 5
   ·have hL2 : l.length = 5:=by omega
    rw [hk2 4 hk (by decide) hL]
    simp (maxSteps:=999999) (disch:=omega) only [go_sem,hk,hat,hln,hz,hfg,hm,hL,hix,hlv,hld,hfx,hlx,hin,hap]
    refine W_callp rfl ⟨rfl,rfl⟩ (by simp only [go_sem]; exact File_ok (hs:=by have:=hs 1; exact Nat.le_trans this (by decide))) ?_
    simp (maxSteps:=999999) (disch:=omega) only [go_sem,hk,hat,hln,hz,hfg,hm,hL,hix,hlv,hld,hfx,hlx,hin,hap]
    refine W_callp rfl ⟨rfl,rfl⟩ (by simp only [go_sem]; exact Number_ok (hs:=by have:=hs 3; exact Nat.le_trans this (by decide))) ?_
    simp (maxSteps:=999999) (disch:=omega) only [go_sem,hk,hat,hln,hz,hfg,hm,hL,hix,hlv,hld,hfx,hlx,hin,hap]
    first | (refine ⟨Fr.refl _ _,?_⟩; simp [stepC,sFile,step0,hL2]; done) | (refine ⟨hF,?_⟩; simp [stepC,sFile,step0,hL2]; done)
   ·simp (maxSteps:=999999) (disch:=omega) only [go_sem,hk,hat,hln,hz,hfg,hm,hL]
    rw [hk1 _ hk (.inr hL)]
    exact ⟨Fr.refl _ _,rfl⟩
  ·have hm : manyL.getD 5 0 = 5:=rfl
   by_cases hL : (l.length : Int) = 5
   ·have hL2 : l.length = 5:=by omega
    rw [hk2 5 hk (by decide) hL]
    simp (maxSteps:=999999) (disch:=omega) only [go_sem,hk,hat,hln,hz,hfg,hm,hL,hix,hlv,hld,hfx,hlx,hin,hap]
    refine W_callp rfl ⟨rfl,rfl⟩ (by simp only [go_sem]; exact File_ok (hs:=by have:=hs 1; exact Nat.le_trans this (by decide))) ?_
    simp (maxSteps:=999999) (disch:=omega) only [go_sem,hk,hat,hln,hz,hfg,hm,hL,hix,hlv,hld,hfx,hlx,hin,hap]
    refine W_callp rfl ⟨rfl,rfl⟩ (by simp only [go_sem]; exact Number_ok (hs:=by have:=hs 3; exact Nat.le_trans this (by decide))) ?_
    simp (maxSteps:=999999) (disch:=omega) only [go_sem,hk,hat,hln,hz,hfg,hm,hL,hix,hlv,hld,hfx,hlx,hin,hap]
    refine W_callF (S:=[]) (R:=fun v h'=>v = .tup (.cons (.str (bsL ((meanL (txt l 4).data.toList).getD []))) (.cons (.bool (meanL (txt l 4).data.toList).isSome) .unit))) rfl ⟨rfl,rfl⟩ (by simp only [go_sem]; exact MeanS_ok (by exact hl) (hs 4)) (fun _ _ e=>e) ?_
    rintro _ h1 hF rfl
    simp (maxSteps:=999999) (disch:=omega) only [go_sem,hk,hat,hln,hz,hfg,hm,hL,hix,hlv,hld,hfx,hlx,hin,hap]
    first | (refine ⟨Fr.refl _ _,?_⟩; simp [stepC,sFile,step0,hL2]; done) | (refine ⟨hF,?_⟩; simp [stepC,sFile,step0,hL2]; done)
   ·simp (maxSteps:=999999) (disch:=omega) only [go_sem,hk,hat,hln,hz,hfg,hm,hL]
    rw [hk1 _ hk (.inr hL)]
    exact ⟨Fr.refl _ _,rfl⟩
  ·have hm : manyL.getD 6 0 = 4:=rfl
   by_cases hL : (l.length : Int) = 4
   ·have hL2 : l.length = 4:=by omega
    rw [hk2 6 hk (by decide) hL]
    simp (maxSteps:=999999) (disch:=omega) only [go_sem,hk,hat,hln,hz,hfg,hm,hL,hix,hlv,hld,hfx,hlx,hin,hap]
    refine W_callp rfl ⟨rfl,rfl⟩ (by simp only [go_sem]; exact File_ok (hs:=by have:=hs 1; exact Nat.le_trans this (by decide))) ?_
    simp (maxSteps:=999999) (disch:=omega) only [go_sem,hk,hat,hln,hz,hfg,hm,hL,hix,hlv,hld,hfx,hlx,hin,hap]
    refine W_callp rfl ⟨rfl,rfl⟩ (by simp only [go_sem]; exact Number_ok (hs:=by have:=hs 3; exact Nat.le_trans this (by decide))) ?_
    simp (maxSteps:=999999) (disch:=omega) only [go_sem,hk,hat,hln,hz,hfg,hm,hL,hix,hlv,hld,hfx,hlx,hin,hap]
    first | (refine ⟨Fr.refl _ _,?_⟩; simp [stepC,sFile,step0,hL2]; done) | (refine ⟨hF,?_⟩; simp [stepC,sFile,step0,hL2]; done)
   ·simp (maxSteps:=999999) (disch:=omega) only [go_sem,hk,hat,hln,hz,hfg,hm,hL]
    rw [hk1 _ hk (.inr hL)]
    exact ⟨Fr.refl _ _,rfl⟩
  ·have hm : manyL.getD 7 0 = 2:=rfl
   by_cases hL : (l.length : Int) = 2
   ·have hL2 : l.length = 2:=by omega
    rw [hk2 7 hk (by decide) hL]
    simp (maxSteps:=999999) (disch:=omega) only [go_sem,hk,hat,hln,hz,hfg,hm,hL,hix,hlv,hld,hfx,hlx,hin,hap]
    refine W_callp rfl ⟨rfl,rfl⟩ (by simp only [go_sem]; exact Number_ok (hs:=by have:=hs 1; exact Nat.le_trans this (by decide))) ?_
    simp (maxSteps:=999999) (disch:=omega) only [go_sem,hk,hat,hln,hz,hfg,hm,hL,hix,hlv,hld,hfx,hlx,hin,hap]
    first | (refine ⟨Fr.refl _ _,?_⟩; simp [stepC,sFile,step0,hL2]; done) | (refine ⟨hF,?_⟩; simp [stepC,sFile,step0,hL2]; done)
   ·simp (maxSteps:=999999) (disch:=omega) only [go_sem,hk,hat,hln,hz,hfg,hm,hL]
    rw [hk1 _ hk (.inr hL)]
    exact ⟨Fr.refl _ _,rfl⟩
  ·have hm : manyL.getD 8 0 = 1:=rfl
   by_cases hL : (l.length : Int) = 1
   ·have hL2 : l.length = 1:=by omega
    rw [hk2 8 hk (by decide) hL]
    simp (maxSteps:=999999) (disch:=omega) only [go_sem,hk,hat,hln,hz,hfg,hm,hL,hix,hlv,hld,hfx,hlx,hin,hap]
    first | (refine ⟨Fr.refl _ _,?_⟩; simp [stepC,sFile,step0,hL2]; done) | (refine ⟨hF,?_⟩; simp [stepC,sFile,step0,hL2]; done)
   ·simp (maxSteps:=999999) (disch:=omega) only [go_sem,hk,hat,hln,hz,hfg,hm,hL]
    rw [hk1 _ hk (.inr hL)]
    exact ⟨Fr.refl _ _,rfl⟩
  ·have hm : manyL.getD 9 0 = 1:=rfl
   by_cases hL : (l.length : Int) = 1
   ·have hL2 : l.length = 1:=by omega
    rw [hk2 9 hk (by decide) hL]
    simp (maxSteps:=999999) (disch:=omega) only [go_sem,hk,hat,hln,hz,hfg,hm,hL,hix,hlv,hld,hfx,hlx,hin,hap]
    first | (refine ⟨Fr.refl _ _,?_⟩; simp [stepC,sFile,step0,hL2]; done) | (refine ⟨hF,?_⟩; simp [stepC,sFile,step0,hL2]; done)
   ·simp (maxSteps:=999999) (disch:=omega) only [go_sem,hk,hat,hln,hz,hfg,hm,hL]
    rw [hk1 _ hk (.inr hL)]
    exact ⟨Fr.refl _ _,rfl⟩
end
theorem i64_wrap (n : Int) : i64 (IntKind.i64.wrap n):=by
 have e1 : (IntKind.i64).bits = 64:=rfl
 have e2 : (IntKind.i64).signed = true:=rfl
 have p1 : (2 : Int) ^ 64 = 18446744073709551616:=rfl
 have p2 : (2 : Int) ^ (64 - 1) = 9223372036854775808:=rfl
 simp only [i64,IntKind.wrap,e1,e2,Bool.true_and,ge_iff_le,decide_eq_true_eq]
 rw [p1,p2]
 split <;> omega
theorem i64_small {n : Int} (h0 : -1 ≤ n) (h1 : n ≤ 1000) : i64 n:=⟨by omega,by omega⟩
def goodI (i : Ino) : Prop:=i64 i.stamp ∧ i64 i.links ∧ ∀ p,i64 (i.prt p)
def goodE (e : Ent) : Prop:=i64 e.ino ∧ i64 e.stamp ∧ e.name.size ≤ 6
def goodD (y : Dat) : Prop:=i64 y.of ∧ y.text.size ≤ 8
structure Tight (m : Img) : Prop where
 ino : ∀ n,goodI (m.ino n)
 ent : ∀ d s,goodE (m.ent d s)
 dat : ∀ x,goodD (m.dat x)
theorem goodI_none : goodI .none:=⟨by decide,by decide,fun p=>i64_small (by have:=prt_none p; omega) (by have:=prt_none p; omega)⟩
theorem goodE_zero : goodE .zero:=⟨by decide,by decide,by decide⟩
theorem goodD_zero : goodD .zero:=⟨by decide,by decide⟩
theorem goodI_zero : goodI .zero:=⟨by decide,by decide,fun p=>by
 by_cases hp : p < 2
 ·simp [Ino.prt,Ino.zero,hp]; decide
 ·simp [Ino.prt,hp]; decide⟩
section
variable {m a b : Img}
theorem Tight.setIno (h : Tight m) {n : Nat} {y : Ino} (hy : goodI y) : Tight (m.setIno n y):=⟨fun k=>by
 rw [ino_setIno]; split
 ·exact hy
 ·exact h.ino k,fun d s=>by rw [ent_setIno]; exact h.ent d s,fun x=>by show goodD (m.dat x); exact h.dat x⟩
theorem Tight.setEnt (h : Tight m) {d s : Nat} {y : Ent} (hy : goodE y) : Tight (m.setEnt d s y):=⟨fun k=>by rw [ino_setEnt]; exact h.ino k,fun d s=>by
 rw [ent_setEnt]; split
 ·exact hy
 ·exact h.ent d s,fun x=>by rw [dat_setEnt]; exact h.dat x⟩
theorem Tight.setDat (h : Tight m) {n : Nat} {y : Dat} (hy : goodD y) : Tight (m.setDat n y):=⟨fun k=>by rw [ino_setDat]; exact h.ino k,fun d s=>by rw [ent_setDat]; exact h.ent d s,fun x=>by
 rw [dat_setDat]; split
 ·exact hy
 ·exact h.dat x⟩
theorem goodI_prt {i : Ino} (h : goodI i) {p : Nat} {x : Int} (hx : i64 x) : goodI (i.setPrt p x):=⟨h.1,h.2.1,fun q=>by
 rw [prt_setPrt]; split
 ·exact hx
 ·exact h.2.2 q⟩
theorem name6 {s : Str} (h : isName s = true) : s.size ≤ 6:=by simp [isName] at h; omega
theorem Tight.addName (h : Tight a) {d s n : Nat} {name : Str} (hn : name.size ≤ 6) (h8 : n < 8) : Tight (addName a d s name n) :=
 (h.setEnt ⟨i64_small (n:=(n : Int)) (by omega) (by omega),(h.ino n).1,hn⟩).setIno ⟨(h.ino n).1,i64_wrap _,(h.ino n).2.2⟩
theorem Tight.dropName (h : Tight a) {d s : Nat} : Tight (dropName a d s):=by
 unfold Go.Mini.dropName
 dsimp only
 split
 ·exact (h.setEnt goodE_zero).setIno goodI_none
 ·exact (h.setEnt goodE_zero).setIno ⟨(h.ino _).1,i64_wrap _,(h.ino _).2.2⟩
theorem Tight.enterA (h : Tight a) {d : Int} {s : Str} {n : Nat} (hn : s.size ≤ 6) (h8 : n < 8) : Tight (enterA a b d s n):=by
 unfold Go.Mini.enterA
 split
 ·exact h.addName hn h8
 ·exact h
theorem findN_bound (f : Nat → Bool) : ∀ n,-1 ≤ findN n f ∧ findN n f < n
 | 0=>by simp [findN]
 | n + 1=>by
  have:=findN_bound f n
  rw [findN]
  split
  ·omega
  split <;> omega
theorem Tight.doF {F : Fl} (h : Tight F.now) (hw : WF F.now) {x : SStep} : Tight (doF F x).now:=by
 unfold Go.Mini.doF
 split
 ·exact h
 rename_i hc
 have c0 : stepFault x = 0:=by
  by_cases e : stepFault x = 0
  ·exact e
  ·exfalso; apply hc; simp only [doC]; rw [if_pos e]; exact e
 obtain ⟨⟨k1,k6⟩,_,hn,hto,_,htx⟩:=stepFault_zero c0
 have hino : ∀ d s,(F.now.ent d s).ino.toNat < 8:=fun d s=>by have:=(hw.1 d s).1; have:=(hw.1 d s).2; omega
 split
 ·unfold makeF
  split
  ·refine (h.setIno ?_).addName (name6 hn) ?_
   ·exact ⟨i64_wrap _,⟨by show (_ : Int) ≤ (0 : Int); decide,by show (0 : Int) ≤ _; decide⟩,fun p=>goodI_none.2.2 p⟩
   ·have : freeIno F.now F.disk < 8:=by
     unfold freeIno
     exact (findN_bound _ 8).2
    omega
  ·exact h
 dsimp only
 split
 ·rename_i k2; exact h.enterA (name6 (hto (.inl k2)).2) (hino _ _)
 split
 ·rename_i k4; exact (h.enterA (name6 (hto (.inr k4)).2) (hino _ _)).dropName
 split
 ·exact h.dropName
 split
 ·rename_i k5
  have ht:=htx k5
  unfold putA
  split
  ·split
   ·exact h
   ·refine (h.setIno (goodI_prt (h.ino _) ?_)).setDat ⟨(h.ino _).1,ht⟩
    have:=findN_bound (fun x=>!held F.now x && !held F.disk x) 9
    exact i64_small this.1 (by unfold freeDat; omega)
  ·exact h.setDat ⟨(h.ino _).1,ht⟩
 ·exact h.setIno (goodI_prt (h.ino _) (by decide))
theorem goodI_inodeAs (ha : Tight a) (hb : Tight b) (n : Nat) : goodI (inodeAs a b n):=by
 have hbo : i64 (both a b n):=i64_small (by omega) (by have:=both_le12 a b n; omega)
 unfold inodeAs
 split
 ·refine ⟨(ha.ino n).1,hbo,fun p=>?_⟩
  have hp : ∀ q,i64 (part a b n q):=fun q=>by
   unfold part
   dsimp only
   split
   ·decide
   split
   ·exact (ha.ino n).2.2 q
   split
   ·exact (hb.ino n).2.2 q
   ·decide
  by_cases h2 : p < 2
  ·have : p = 0 ∨ p = 1:=by omega
   rcases this with rfl | rfl <;> simp [Ino.prt] <;> exact hp _
  ·simp [Ino.prt,h2]; decide
 split
 ·exact ⟨(hb.ino n).1,hbo,(hb.ino n).2.2⟩
 ·exact goodI_none
theorem Tight.wrInodes (ha : Tight a) (hb : Tight b) (n : Nat) : ∀ k,Tight (wrInodes a b n k)
 | 0=>hb
 | k + 1=>(Tight.wrInodes ha hb n k).setIno (goodI_inodeAs ha hb _)
theorem Tight.wrDir (ha : Tight a) (hb : Tight b) (d : Nat) : ∀ k,Tight (wrDir a b d k)
 | 0=>hb
 | k + 1=>by
  have ih:=Tight.wrDir ha hb d k
  refine ih.setEnt ?_
  rcases entryAs_cases a (Go.Mini.wrDir a b d k) d k with e | ⟨_,e,_⟩ | ⟨_,e,_⟩ <;> rw [e]
  ·exact ih.ent d k
  ·exact ha.ent d k
  ·exact goodE_zero
theorem Tight.writeAs (ha : Tight a) (hb : Tight b) (x : Int) : Tight (writeAs a b x).1:=by
 obtain ⟨n,hn,e⟩ | ⟨n,hn,e⟩ | ⟨n,hn,e⟩ | e:=blockOf_cases x
 ·rw [writeAs_i e]; exact ha.wrInodes hb n 4
 ·rw [writeAs_d e]; exact ha.wrDir hb n 4
 ·rw [writeAs_a e]; exact hb.setDat (ha.dat n)
 ·rw [writeAs_n e]; exact hb
theorem Tight.wrDown (ha : Tight a) (hb : Tight b) : ∀ k,Tight (wrDown a b k)
 | 0=>hb
 | k + 1=>ha.writeAs (Tight.wrDown ha hb k) _
theorem Tight.syncD (ha : Tight a) (hb : Tight b) : ∀ k,Tight (syncD a b k)
 | 0=>hb
 | k + 1=>ha.wrDown (Tight.syncD ha hb k) 14
theorem Tight.mendI (h : Tight m) : ∀ k,Tight (mendI m k)
 | 0=>h
 | k + 1=>by
  refine (Tight.mendI h k).setIno ?_
  unfold mendIno
  split
  ·exact h.ino k
  split
  ·exact goodI_none
  ·exact ⟨(h.ino k).1,i64_small (n:=(refs m k : Int)) (by omega) (by have:=refs_le m k; omega),(h.ino k).2.2⟩
theorem Tight.mendD (h : Tight m) : ∀ k,Tight (mendD m k)
 | 0=>h
 | k + 1=>by
  refine (Tight.mendD h k).setDat ?_
  unfold looseDat
  split
  ·exact goodD_zero
  ·exact h.dat k
theorem Tight.mended (h : Tight m) : Tight (mended m):=(h.mendI 8).mendD 9
end
structure LTight (L : Lf) : Prop where
 inv : Inv0 L.fl
 now : Tight L.fl.now
 disk : Tight L.fl.disk
 cnt : i64 L.a ∧ i64 L.b ∧ i64 L.c ∧ i64 L.n
theorem b2n_sum {f : Nat → Bool} (n : Nat) (hn : n ≤ 100) : i64 ((sumN n fun k=>b2n (f k) : Nat) : Int):=by
 have:=sumN_le (fun i=>b2n_le (f i)) n
 exact i64_small (by omega) (by omega)
theorem LTight.lifeF {L : Lf} (h : LTight L) (x : SStep) : LTight (lifeF L x):=by
 have h0:=h.inv.lifeF x
 unfold Go.Mini.lifeF at h0 ⊢
 split
 ·rename_i c; rw [if_pos c] at h0; exact ⟨h0,h.now,h.now.writeAs h.disk _,h.cnt⟩
 split
 ·rename_i c1 c; rw [if_neg c1,if_pos c] at h0; exact ⟨h0,h.now,h.now.syncD h.disk _,h.cnt⟩
 split
 ·rename_i c1 c2 c
  rw [if_neg c1,if_neg c2,if_pos c] at h0
  refine ⟨h0,?_,?_,?_⟩ <;> unfold crashF <;> split
  ·exact h.disk.mended
  ·exact h.now
  ·exact h.disk.mended
  ·exact h.disk
  ·exact ⟨b2n_sum 8 (by decide),b2n_sum 8 (by decide),b2n_sum 9 (by decide),i64_wrap _⟩
  ·exact h.cnt
 ·rename_i c1 c2 c3
  rw [if_neg c1,if_neg c2,if_neg c3] at h0
  exact ⟨h0,h.now.doF h.inv.wf,by show Tight (doF L.fl x).disk; rw [doF_disk]; exact h.disk,h.cnt⟩
theorem blank_tight : Tight .blank:=by
 refine ⟨fun n=>?_,fun d s=>?_,fun x=>?_⟩
 ·by_cases hn : n < 8
  ·have : Img.blank.ino n = Ino.none:=by simp [Img.ino,Img.blank,hn]
   rw [this]; exact goodI_none
  ·have : Img.blank.ino n = Ino.zero:=by simp [Img.ino,hn]
   rw [this]; exact goodI_zero
 ·have : Img.blank.ent d s = Ent.zero:=by
   simp only [Img.ent,Img.blank,Img.zero]
   split
   ·simp
   ·rfl
  rw [this]; exact goodE_zero
 ·have : Img.blank.dat x = Dat.zero:=by
   simp only [Img.dat,Img.blank,Img.zero]
   split
   ·simp
   ·rfl
  rw [this]; exact goodD_zero
theorem LTight.new : LTight .new:=⟨inv_new,blank_tight,blank_tight,by decide⟩
theorem dirFaultN_code (d : Int) (s : Str) : 0 ≤ dirFaultN d s ∧ dirFaultN d s ≤ 15:=by
 unfold dirFaultN; repeat' split
 all_goals omega
theorem stepFault_code (x : SStep) : 0 ≤ stepFault x ∧ stepFault x ≤ 15:=by
 have h1:=dirFaultN_code x.dir x.name
 have h2:=dirFaultN_code x.toDir x.to
 unfold stepFault; repeat' split
 all_goals omega
theorem doC_code (F : Fl) (x : SStep) : 0 ≤ doC F x ∧ doC F x ≤ 15:=by
 have h1:=stepFault_code x
 unfold doC makeC enterC putC; repeat' split
 all_goals omega
theorem firstI_code {f : Nat → Int} (h : ∀ i,0 ≤ f i ∧ f i ≤ 15) : ∀ n,0 ≤ firstI n f ∧ firstI n f ≤ 15
 | 0=>by simp [firstI]
 | n + 1=>by
  rw [firstI]; split
  ·exact h n
  ·exact firstI_code h n
theorem entryFault_code (m : Img) (d s : Nat) : 0 ≤ entryFault m d s ∧ entryFault m d s ≤ 15:=by
 unfold entryFault; dsimp only; repeat' split
 all_goals omega
theorem partFault_code (m : Img) (i : Ino) (p : Nat) : 0 ≤ partFault m i p ∧ partFault m i p ≤ 15:=by
 unfold partFault; repeat' split
 all_goals omega
theorem inoFault_code (m : Img) (n : Nat) : 0 ≤ inoFault m n ∧ inoFault m n ≤ 15:=by
 have h:=firstI_code (fun p=>partFault_code m (m.ino n) p) 2
 unfold inoFault; dsimp only; repeat' split
 all_goals omega
theorem check_code (m : Img) : 0 ≤ check m ∧ check m ≤ 15:=by
 have h1:=firstI_code (fun d=>firstI_code (entryFault_code m d) 4) 3
 have h2:=firstI_code (inoFault_code m) 8
 unfold check; repeat' split
 ·exact h1
 ·exact h2
 ·omega
 ·omega
theorem lifeC_code (L : Lf) (x : SStep) : i64 (lifeC L x):=by
 have h1:=doC_code L.fl x
 have h2:=check_code L.fl.disk
 unfold lifeC; repeat' split
 all_goals exact i64_small (by omega) (by omega)
theorem readC_code (a : Img) (d : Int) (s : Str) (p : Int) : i64 (readC a d s p):=by
 have h1:=stepFault_code ⟨6,d,0,p,s,⟨#[]⟩,⟨#[]⟩⟩
 unfold readC; repeat' split
 all_goals exact i64_small (by omega) (by omega)
theorem numL_len {n : Int} (h : i64 n) : (numL n).length ≤ 21:=Lib.itoa_length_le n h.1 h.2
theorem join_le (B : Nat) (sep : List UInt8) : ∀ ws : List (List UInt8),(∀ w ∈ ws,w.length ≤ B) → (Lib.join ws sep).length ≤ ws.length * (B + sep.length)
 | [],_=>by simp [Lib.join,List.intercalate]
 | [x],h=>by
  rw [Lib.join_one]
  have:=h x (by simp)
  simp only [List.length_singleton]
  omega
 | x :: y :: r,h=>by
  have h1:=h x (by simp)
  have h2:=join_le B sep (y :: r) fun w hw=>h w (List.mem_cons_of_mem _ hw)
  have e1:=Lib.join_length x (y :: r) sep
  have e2:=Lib.join_length y r sep
  rw [e2] at h2
  rw [e1]
  simp only [Lib.lens,List.map_cons,List.sum_cons,List.length_cons,Nat.add_mul,Nat.mul_add,Nat.one_mul,Nat.mul_one] at h2 ⊢
  omega
theorem lineL_le {B : Nat} {ws : List (List UInt8)} (h : ∀ w ∈ ws,w.length ≤ B) : (lineL ws).length ≤ ws.length * (B + 1) + 1:=by
 have:=join_le B [32] ws h
 simp only [lineL,List.length_append,List.length_singleton] at this ⊢
 omega
theorem flat_le {α : Type} {f : α → List UInt8} {B : Nat} (h : ∀ x,(f x).length ≤ B) : ∀ l : List α,(l.flatMap f).length ≤ l.length * B
 | []=>by simp
 | x :: l=>by
  have:=h x
  have:=flat_le h l
  simp only [List.flatMap_cons,List.length_append,List.length_cons,Nat.add_mul,Nat.one_mul]
  omega
theorem show1_len (c : UInt8) : (show1 c).length ≤ 3:=by unfold show1; split <;> simp
theorem showL_len (l : List UInt8) : (showL l).length ≤ 1 + 3 * l.length:=by
 have:=flat_le show1_len l
 simp only [showL,List.length_cons]
 omega
theorem slim_tight {m : Img} (h : Tight m) : m.slim:=by
 refine ⟨fun n=>?_,fun d s=>?_,fun x=>?_⟩
 ·have:=h.ino n.val
  rw [show m.ino n.val = m.inode[n] from by simp [Img.ino]] at this
  obtain ⟨h1,h2,h3⟩:=this
  have p0:=h3 0
  have p1:=h3 1
  simp only [Ino.prt] at p0 p1
  exact ⟨h1,h2,by simpa using p0,by simpa using p1⟩
 ·have:=h.ent d.val s.val
  rw [show m.ent d.val s.val = m.dir[d][s] from by simp [Img.ent]] at this
  exact ⟨this.1,this.2.1,by have:=this.2.2; omega⟩
 ·have:=h.dat x.val
  rw [show m.dat x.val = m.data[x] from by simp [Img.dat]] at this
  exact ⟨this.1,by have:=this.2; omega⟩
theorem textL_len {m : Img} (h : Tight m) : (textL m).length ≤ 3700:=by
 have hs:=slim_tight h
 have i1 : ∀ n : Fin 8,(inoL n.val m.inode[n]).length ≤ 133:=by
  intro n
  obtain ⟨a1,a2,a3,a4⟩:=hs.1 n
  unfold inoL
  split
  ·refine lineL_le (B:=21) ?_
   intro w hw
   simp only [List.mem_cons,List.not_mem_nil,or_false] at hw
   rcases hw with rfl | rfl | rfl | rfl | rfl | rfl
   ·decide
   ·exact numL_len (i64_small (by omega) (by omega))
   ·exact numL_len a1
   ·exact numL_len a2
   ·exact numL_len a3
   ·exact numL_len a4
  ·simp
 have i2 : ∀ d : Fin 3,∀ s : Fin 4,(entL d.val s.val m.dir[d][s]).length ≤ 133:=by
  intro d s
  have a0:=h.ent d.val s.val
  rw [show m.ent d.val s.val = m.dir[d][s] from by simp [Img.ent]] at a0
  obtain ⟨a1,a2,a3⟩:=a0
  unfold entL
  split
  ·refine lineL_le (B:=21) ?_
   intro w hw
   simp only [List.mem_cons,List.not_mem_nil,or_false] at hw
   rcases hw with rfl | rfl | rfl | rfl | rfl | rfl
   ·decide
   ·exact numL_len (i64_small (by omega) (by omega))
   ·exact numL_len (i64_small (by omega) (by omega))
   ·have : m.dir[d][s].name.data.toList.length = m.dir[d][s].name.size:=Array.length_toList
    omega
   ·exact numL_len a1
   ·exact numL_len a2
  ·simp
 have i3 : ∀ x : Fin 9,(datL x.val m.data[x]).length ≤ 105:=by
  intro x
  have a0:=h.dat x.val
  rw [show m.dat x.val = m.data[x] from by simp [Img.dat]] at a0
  unfold datL
  split
  ·refine lineL_le (B:=25) ?_
   intro w hw
   simp only [List.mem_cons,List.not_mem_nil,or_false] at hw
   rcases hw with rfl | rfl | rfl | rfl
   ·decide
   ·exact Nat.le_trans (numL_len (i64_small (by omega) (by omega))) (by decide)
   ·exact Nat.le_trans (numL_len a0.1) (by decide)
   ·have h1:=showL_len m.data[x].text.data.toList
    have h2 : m.data[x].text.data.toList.length = m.data[x].text.size:=Array.length_toList
    have:=a0.2
    omega
  ·simp
 have j1:=flat_le i1 (List.finRange 8)
 have j2:=flat_le (fun d=>flat_le (i2 d) (List.finRange 4)) (List.finRange 3)
 have j3:=flat_le i3 (List.finRange 9)
 simp only [List.length_finRange] at j1 j2 j3
 simp only [textL,List.length_append]
 omega
theorem sayB {B : Nat} {ws : List Str} (h : ∀ w ∈ ws,w.size ≤ B) : (Lib.join (ws.map (·.data.toList)) [32]).length ≤ ws.length * (B + 1):=by
 have:=join_le B [32] (ws.map (·.data.toList)) (by
  intro w hw
  obtain ⟨s,hs,rfl⟩:=List.mem_map.1 hw
  have : s.data.toList.length = s.size:=Array.length_toList
  have:=h s hs
  omega)
 simpa using this
end Go.Mini
