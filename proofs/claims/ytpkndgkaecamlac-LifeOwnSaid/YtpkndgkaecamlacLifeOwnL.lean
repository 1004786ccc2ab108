/- A part of the proof: the statement LifeOwn, over the model of its code. -/
import Derived.Test.YtpkndgkaecamlacSeS

set_option linter.unusedSimpArgs false
set_option linter.unusedVariables false
set_option maxHeartbeats 4000000
set_option maxRecDepth 100000
namespace Go.Mini
def SlG (t : Ty) (h0 h : HP) (v : AV) (l : List AV) : Prop:=(v = .nilsl ∧ l = []) ∨ ∃ q,v = .sl (.obj q) 0 l.length ∧ h0.next ≤ q ∧ q < h.next ∧ h.look (.obj q) = some ⟨.arr l.length t,.ofList l⟩ ∧ l ≠ []
theorem SlG.len {t : Ty} {h0 h : HP} {v : AV} {l : List AV} (a : SlG t h0 h v l) : lenV false v = some (.int .i64 l.length):=by
 rcases a with ⟨rfl,rfl⟩ | ⟨q,rfl,_⟩ <;> rfl
theorem SlG.fg {t : Ty} {h0 h : HP} {v : AV} {l : List AV} (a : SlG t h0 h v l) (x y : Nat) : fg v (.stk x y) = v:=by
 rcases a with ⟨rfl,_⟩ | ⟨q,rfl,_⟩ <;> simp only [go_sem]
theorem SlG.ld {t : Ty} {h0 h : HP} {v : AV} {l : List AV} (a : SlG t h0 h v l) (x y : Nat) : v.leads (.stk x y) = false:=by
 rcases a with ⟨rfl,_⟩ | ⟨q,rfl,_⟩ <;> simp only [go_sem]
structure Off (h h' : HP) (v : AV) : Prop where
 stk : h'.stk = h.stk
 arg : h'.arg = h.arg
 next : h.next ≤ h'.next
 same : ∀ n,n < h.next → v.into (.obj n) = false → h'.obj n = h.obj n
theorem Off.look {h h' : HP} {v : AV} (a : Off h h' v) {n : Nat} {b : Option Blk} (hn : n < h.next) (hv : v.into (.obj n) = false) (e : h.look (.obj n) = b) : h'.look (.obj n) = b:=by
 rw [← e]; exact a.same n hn hv
theorem SlG.into {t : Ty} {h0 h : HP} {v : AV} {l : List AV} (a : SlG t h0 h v l) (n : Nat) (hn : n < h0.next) : v.into (.obj n) = false:=by
 rcases a with ⟨rfl,_⟩ | ⟨q,rfl,hq,_⟩
 ·rfl
 ·simp [AV.into]; omega
theorem SlG.same {t : Ty} {h0 h h' : HP} {v w : AV} {l : List AV} (a : SlG t h0 h v l) (b : Off h h' w) (hw : ∀ n,v.into (.obj n) = true → w.into (.obj n) = false) : SlG t h0 h' v l:=by
 rcases a with a | ⟨q,rfl,hq,hq2,hq3⟩
 ·exact .inl a
 ·exact .inr ⟨q,rfl,hq,Nat.lt_of_lt_of_le hq2 b.next,b.look hq2 (hw q (by simp [AV.into])) hq3.1,hq3.2⟩
theorem SlG.mono {t : Ty} {h0 h1 h : HP} {v : AV} {l : List AV} (a : SlG t h1 h v l) (e : h0.next ≤ h1.next) : SlG t h0 h v l:=by
 rcases a with a | ⟨q,rfl,hq,r⟩
 ·exact .inl a
 ·exact .inr ⟨q,rfl,Nat.le_trans e hq,r⟩
theorem toList_ofList (l : List AV) : (AV.ofList l).toList = some l:=by
 simp only [AV.ofList,AV.toList]
 congr 1
 exact List.ext_getElem (by simp) (by simp)
def Own1 (P : List (Int × Str)) (st : Int) (d : Dat) : Prop:=d.of = 0 ∨ ((d.of,d.text) ∈ P ∧ d.of ≤ st)
structure Owned (P : List (Int × Str)) (F : Fl) : Prop where
 n : ∀ k,k < 9 → Own1 P F.stamp (F.now.dat k)
 d : ∀ k,k < 9 → Own1 P F.stamp (F.disk.dat k)
theorem Own1.mono {P Q : List (Int × Str)} {s t : Int} {d : Dat} (a : Own1 P s d) (h : ∀ p ∈ P,p.1 ≤ s → p ∈ Q) (hs : s ≤ t) : Own1 Q t d:=by
 rcases a with a | ⟨a,b⟩
 ·exact .inl a
 ·exact .inr ⟨h _ a b,by omega⟩
theorem dat_addName (a : Img) (d s : Nat) (nm : Str) (n k : Nat) : (addName a d s nm n).dat k = a.dat k:=by rw [addName,dat_setIno,dat_setEnt]
theorem dat_dropName (a : Img) (d s k : Nat) : (dropName a d s).dat k = a.dat k:=by
 unfold dropName
 dsimp only
 split <;> rw [dat_setIno,dat_setEnt]
theorem dat_enterA (a b : Img) (d : Int) (nm : Str) (n k : Nat) : (enterA a b d nm n).dat k = a.dat k:=by
 unfold enterA
 split
 ·exact dat_addName ..
 ·rfl
def inoOfS (F : Fl) (x : SStep) : Nat:=(F.now.ent x.dir.toNat (slotOf F.now x.dir x.name).toNat).ino.toNat
theorem doF_dat (F : Fl) (x : SStep) (k : Nat) : (doF F x).now.dat k = F.now.dat k ∨ (doC F x = 0 ∧ x.kind = 5 ∧ (doF F x).now.dat k = ⟨(F.now.ino (inoOfS F x)).stamp,x.text⟩):=by
 by_cases c : doC F x = 0
 rotate_left
 ·left; simp [doF,c]
 have e:=doF.eq_1 F x
 rw [if_neg (by simpa using c)] at e
 by_cases c1 : x.kind = 1
 ·left
  rw [e,if_pos c1,makeF]
  split
  ·show (addName _ _ _ _ _).dat k = _
   rw [dat_addName,dat_setIno]
  ·rfl
 rw [if_neg c1] at e
 dsimp only at e
 by_cases c2 : x.kind = 2
 ·left; rw [e,if_pos c2]; exact dat_enterA ..
 rw [if_neg c2] at e
 by_cases c4 : x.kind = 4
 ·left; rw [e,if_pos c4]; show (dropName _ _ _).dat k = _; rw [dat_dropName,dat_enterA]
 rw [if_neg c4] at e
 by_cases c3 : x.kind = 3
 ·left; rw [e,if_pos c3]; exact dat_dropName ..
 rw [if_neg c3] at e
 by_cases c5 : x.kind = 5
 ·rw [if_pos c5] at e
  rw [e]
  show (putA _ _ _ _ _).dat k = _ ∨ (doC F x = 0 ∧ x.kind = 5 ∧ (putA _ _ _ _ _).dat k = _)
  unfold putA
  split
  ·split
   ·exact .inl rfl
   ·rw [dat_setDat]
    split
    ·exact .inr ⟨c,c5,rfl⟩
    ·exact .inl (dat_setIno ..)
  ·rw [dat_setDat]
   split
   ·exact .inr ⟨c,c5,rfl⟩
   ·exact .inl rfl
 rw [if_neg c5] at e
 left; rw [e]; exact dat_setIno ..
def stampAt (m : Img) (d : Int) (s : Str) : Int:=if slotOf m d s < 0 then 0 else (m.ent d.toNat (slotOf m d s).toNat).stamp
theorem put_stamp {F : Fl} (h : Inv F) {x : SStep} (c : doC F x = 0) (c5 : x.kind = 5) : stampAt F.now x.dir x.name = (F.now.ino (inoOfS F x)).stamp ∧ 1 ≤ stampAt F.now x.dir x.name ∧ stampAt F.now x.dir x.name ≤ F.stamp:=by
 have c0:=doC_zero c
 obtain ⟨_,⟨d0,d3⟩,hn,_,_,_⟩:=stepFault_zero c0
 have hck:=Ck.of h.cn
 rcases slotOf_cases F.now x.dir x.name with e | ⟨s,s4,e,_,_,hnm,hne⟩
 ·exfalso
  have : doC F x = 5:=by simp [doC,c0,c5,e]
  omega
 have es : stampAt F.now x.dir x.name = (F.now.ent x.dir.toNat s).stamp:=by
  unfold stampAt
  rw [if_neg (by omega),e]; rfl
 have ei : inoOfS F x = (F.now.ent x.dir.toNat s).ino.toNat:=by unfold inoOfS; rw [e]; rfl
 rcases hck.en x.dir.toNat s (by omega) s4 with e0 | ⟨_,_,i0,i8,hl,hst⟩
 ·exact absurd (by rw [e0] at hnm; rw [← hnm]; rfl) hne
 have i8' : (F.now.ent x.dir.toNat s).ino.toNat < 8:=by omega
 rw [es,ei,hst]
 refine ⟨rfl,?_,?_⟩
 ·rw [← hst]; exact (hck.li _ i8' hl).1
 ·rw [← hst]; exact h.sn _ i8' hl
def forget1 (S : Int) (p : Int × Str) : Int × Str:=if p.1 = S then (0,p.2) else p
def recS (L : Lf) (x : SStep) (P : List (Int × Str)) : List (Int × Str) :=
 if lifeC L x = 0 ∧ x.kind = 5 ∧ 0 < stampAt L.fl.now x.dir x.name then P ++ [(stampAt L.fl.now x.dir x.name,x.text)]
 else if lifeC L x = 0 ∧ x.kind = 1 then P.map (forget1 (stampAt (lifeF L x).fl.now x.dir x.name)) else P
theorem writeAs_dat (a b : Img) (x : Int) (k : Nat) : (writeAs a b x).1.dat k = b.dat k ∨ (writeAs a b x).1.dat k = a.dat k:=by
 unfold writeAs
 split
 ·exact .inl (wrInodes_dat ..)
 split
 ·refine .inl ?_
  have : ∀ j,(wrDir a b (blockOf x).2.toNat j).dat k = b.dat k:=by
   intro j
   induction j with
   | zero=>rfl
   | succ j ih=>rw [wrDir,dat_setEnt,ih]
  exact this 4
 split
 ·rw [dat_setDat]
  split
  ·rename_i q; rw [q.1]; exact .inr rfl
  ·exact .inl rfl
 ·exact .inl rfl
theorem wrDown_dat (a b : Img) (k : Nat) : ∀ j,(wrDown a b j).dat k = b.dat k ∨ (wrDown a b j).dat k = a.dat k
 | 0=>.inl rfl
 | j + 1=>by
  rw [wrDown]
  rcases writeAs_dat a (wrDown a b j) (13 - (j : Int)) k with e | e
  ·rw [e]; exact wrDown_dat a b k j
  ·exact .inr e
theorem syncD_dat (a b : Img) (k : Nat) : ∀ j,(syncD a b j).dat k = b.dat k ∨ (syncD a b j).dat k = a.dat k
 | 0=>.inl rfl
 | j + 1=>by
  rw [syncD]
  rcases wrDown_dat a (syncD a b j) k 14 with e | e
  ·rw [e]; exact syncD_dat a b k j
  ·exact .inr e
theorem make_fault {x : SStep} (c : x.kind = 1) : stepFault x = stepFault (sMk x.dir x.name):=by
 simp [stepFault,c,sMk]
theorem make_same (F : Fl) {x : SStep} (c : x.kind = 1) : doC F x = doC F (sMk x.dir x.name) ∧ doF F x = doF F (sMk x.dir x.name):=by
 have e : doC F x = doC F (sMk x.dir x.name):=by
  unfold doC
  rw [← make_fault c,if_pos c,if_pos (show (sMk x.dir x.name).kind = 1 from rfl)]
  rfl
 refine ⟨e,?_⟩
 unfold doF
 rw [← e,if_pos c,if_pos (show (sMk x.dir x.name).kind = 1 from rfl)]
 rfl
theorem new_above {F : Fl} (h : Inv F) (hs : F.stamp < 4611686018427387904) {x : SStep} (c : doC F x = 0) (c1 : x.kind = 1) : (0 ≤ slotOf (doF F x).now x.dir x.name ∧ slotOf (doF F x).now x.dir x.name < 4) ∧ stampAt (doF F x).now x.dir x.name = F.stamp + 1:=by
 obtain ⟨e1,e2⟩:=make_same F c1
 rw [e1] at c
 obtain ⟨A,k,n,w⟩:=newFile h hs c
 have:=w.k4
 rw [e2,w.now]
 unfold stampAt
 rw [w.slot]
 refine ⟨⟨by omega,by omega⟩,?_⟩
 rw [if_neg (by omega),Int.toNat_natCast,w.ent]
theorem owned_step {L : Lf} {P : List (Int × Str)} (h : Inv L.fl) (hs : L.fl.stamp < 4611686018427387904) (o : Owned P L.fl) (x : SStep) : Owned (recS L x P) (lifeF L x).fl:=by
 by_cases c7 : x.kind = 7
 ·have e1 : recS L x P = P:=by simp [recS,c7]
  have e2 : (lifeF L x).fl = { L.fl with disk:=(writeAs L.fl.now L.fl.disk x.p).1 }:=by simp [lifeF,c7]
  rw [e1,e2]
  refine ⟨o.n,fun k hk=>?_⟩
  rcases writeAs_dat L.fl.now L.fl.disk x.p k with e | e
  ·show Own1 P _ ((writeAs L.fl.now L.fl.disk x.p).1.dat k); rw [e]; exact o.d k hk
  ·show Own1 P _ ((writeAs L.fl.now L.fl.disk x.p).1.dat k); rw [e]; exact o.n k hk
 by_cases c8 : x.kind = 8
 ·have e1 : recS L x P = P:=by simp [recS,c8]
  have e2 : (lifeF L x).fl = { L.fl with disk:=syncTo L.fl.now L.fl.disk }:=by simp [lifeF,c8]
  rw [e1,e2]
  refine ⟨o.n,fun k hk=>?_⟩
  rcases syncD_dat L.fl.now L.fl.disk k (syncK L.fl.now L.fl.disk) with e | e
  ·show Own1 P _ ((syncD L.fl.now L.fl.disk _).dat k); rw [e]; exact o.d k hk
  ·show Own1 P _ ((syncD L.fl.now L.fl.disk _).dat k); rw [e]; exact o.n k hk
 by_cases c9 : x.kind = 9
 ·have e1 : recS L x P = P:=by simp [recS,c9]
  have e2 : (lifeF L x).fl = ⟨mended L.fl.disk,mended L.fl.disk,maxSt (mended L.fl.disk) 8⟩:=by simp [lifeF,c9,crashF,h.ck]
  rw [e1,e2]
  clear e1 e2
  have key : ∀ k,k < 9 → Own1 P (maxSt (mended L.fl.disk) 8) ((mended L.fl.disk).dat k):=by
   intro k hk
   have hM:=Ck.of (exact_parts (mended_exact h.ck)).1
   have e:=mended_dat L.fl.disk hk
   unfold looseDat at e
   cases hl : loose (mendI L.fl.disk 8) k with
   | true =>
    rw [hl] at e
    rw [e]
    exact .inl rfl
   | false =>
    rw [hl] at e
    simp only [Bool.false_eq_true,if_false] at e
    rw [mendI_dat] at e
    unfold loose at hl
    rw [mendI_dat] at hl
    by_cases hz : L.fl.disk.dat k = Dat.zero
    ·rw [e,hz]; exact .inl rfl
    ·have hh : held (mendI L.fl.disk 8) k = true:=by simpa [hz] using hl
     obtain ⟨n,p,n8,p2,hln,hpn⟩:=held_iff.1 hh
     have en : (mended L.fl.disk).ino n = (mendI L.fl.disk 8).ino n:=by rw [mended,mendD_ino]
     rw [← en] at hln hpn
     rcases (hM.li n n8 hln).2.2 p p2 with g | ⟨_,_,g⟩
     ·omega
     ·rw [hpn,Int.toNat_natCast] at g
      rcases o.d k hk with a | ⟨a,_⟩
      ·exact .inl (by rw [e]; exact a)
      ·refine .inr ⟨by rw [e]; exact a,?_⟩
       rw [g]; exact maxSt_ge _ n8
  generalize maxSt (mended L.fl.disk) 8 = S at key ⊢
  generalize mended L.fl.disk = M at key ⊢
  exact ⟨key,key⟩
 have eC : lifeC L x = doC L.fl x:=by simp [lifeC,c7,c8,c9]
 have eF : (lifeF L x).fl = doF L.fl x:=by simp [lifeF,c7,c8,c9]
 have eD:=doF_disk L.fl x
 have eS:=doF_now h hs x
 by_cases c5 : doC L.fl x = 0 ∧ x.kind = 5
 ·obtain ⟨p1,p2,p3⟩:=put_stamp h c5.1 c5.2
  have e1 : recS L x P = P ++ [(stampAt L.fl.now x.dir x.name,x.text)]:=by
   unfold recS
   rw [if_pos ⟨by rw [eC]; exact c5.1,c5.2,by omega⟩]
  rw [e1,eF]
  have sub : ∀ p ∈ P,p.1 ≤ L.fl.stamp → p ∈ P ++ [(stampAt L.fl.now x.dir x.name,x.text)]:=fun p hp _=>List.mem_append_left _ hp
  refine ⟨fun k hk=>?_,fun k hk=>by rw [eD]; exact (o.d k hk).mono sub eS.2.2.1⟩
  rcases doF_dat L.fl x k with e | ⟨_,_,e⟩
  ·rw [e]; exact (o.n k hk).mono sub eS.2.2.1
  ·rw [e]
   refine .inr ⟨?_,?_⟩
   ·rw [← p1]; simp
   ·show (L.fl.now.ino (inoOfS L.fl x)).stamp ≤ _
    have:=eS.2.2.1
    omega
 have nochg : ∀ k,(doF L.fl x).now.dat k = L.fl.now.dat k:=fun k=>by
  rcases doF_dat L.fl x k with e | ⟨a,b,_⟩
  ·exact e
  ·exact absurd ⟨a,b⟩ c5
 by_cases c1 : doC L.fl x = 0 ∧ x.kind = 1
 ·obtain ⟨_,q⟩:=new_above h hs c1.1 c1.2
  have e1 : recS L x P = P.map (forget1 (L.fl.stamp + 1)):=by
   unfold recS
   rw [if_neg (fun hh=>by have:=hh.2.1; omega),if_pos ⟨by rw [eC]; exact c1.1,c1.2⟩,eF,q]
  rw [e1,eF]
  have sub : ∀ p ∈ P,p.1 ≤ L.fl.stamp → p ∈ P.map (forget1 (L.fl.stamp + 1)):=fun p hp hle=>List.mem_map.2 ⟨p,hp,by unfold forget1; rw [if_neg (by omega)]⟩
  exact ⟨fun k hk=>by rw [nochg k]; exact (o.n k hk).mono sub eS.2.2.1,fun k hk=>by rw [eD]; exact (o.d k hk).mono sub eS.2.2.1⟩
 ·have e1 : recS L x P = P:=by
   unfold recS
   rw [if_neg (fun hh=>c5 ⟨by rw [← eC]; exact hh.1,hh.2.1⟩),if_neg (fun hh=>c1 ⟨by rw [← eC]; exact hh.1,hh.2⟩)]
  rw [e1,eF]
  exact ⟨fun k hk=>by rw [nochg k]; exact (o.n k hk).mono (fun _ hp _=>hp) eS.2.2.1,fun k hk=>by rw [eD]; exact (o.d k hk).mono (fun _ hp _=>hp) eS.2.2.1⟩
def recRun (l : List SStep) : Nat → List (Int × Str)
 | 0=>[]
 | k + 1=>recS (lifeRun .new l k) (stp l k) (recRun l k)
theorem recRun_len (l : List SStep) : ∀ k,(recRun l k).length ≤ k
 | 0=>Nat.le_refl _
 | k + 1=>by
  have:=recRun_len l k
  unfold recRun recS
  split
  ·simp; omega
  split
  ·simp; omega
  ·omega
theorem owned_run (l : List SStep) : ∀ k,k ≤ 1000000000 → Owned (recRun l k) (lifeRun .new l k).fl
 | 0,_=>by
  have hz : ∀ k,k < 9 → (Img.blank.dat k).of = 0:=by decide +kernel
  exact ⟨fun k hk=>.inl (hz k hk),fun k hk=>.inl (hz k hk)⟩
 | k + 1,hk=>by
  obtain ⟨a,b⟩:=inv_run l Inv.new new_stamp k (by omega)
  exact owned_step a (by omega) (owned_run l k (by omega)) (stp l k)
theorem owned_part {F : Fl} {P : List (Int × Str)} (h : Inv F) (o : Owned P F) {n p : Nat} (hn : n < 8) (hp : p < 2) (hl : (F.disk.ino n).live = true) (hx : 0 ≤ (F.disk.ino n).prt p) :
  (F.disk.ino n).prt p < 9 ∧ (F.disk.dat ((F.disk.ino n).prt p).toNat).of = (F.disk.ino n).stamp ∧ ((F.disk.ino n).stamp,(F.disk.dat ((F.disk.ino n).prt p).toNat).text) ∈ P:=by
 have hck:=Ck.of h.ck
 obtain ⟨s1,_,hpt⟩:=hck.li n hn hl
 rcases hpt p hp with g | ⟨_,g9,gof⟩
 ·omega
 refine ⟨g9,gof,?_⟩
 rcases o.d ((F.disk.ino n).prt p).toNat (by omega) with a | ⟨a,_⟩
 ·omega
 ·rw [gof] at a; exact a
section
variable {T : Nat → Option MFun} {cx : Cx} {k : List Item} {kill : List Nat} {r : List MOp} {sl : Slots} {own : Own} {h h0 : HP} {Q : St → Prop}
def liftedW (T : Nat → Option MFun) (cx : Cx) (o : Option St) (ops : List MOp) (kill : List Nat) (k : List Item) (Q : St → Prop) : Prop:=onO o fun s=>(ops.map MOp.site).all (siteOkK cx s) = true ∧ W T cx (.ops ops kill :: k) s Q
@[go_sem] theorem liftedW_some {ops : List MOp} {s : St} : liftedW T cx (some s) ops kill k Q = ((ops.map MOp.site).all (siteOkK cx s) = true ∧ W T cx (.ops ops kill :: k) s Q):=rfl
@[go_sem] theorem W_regL {ops : List MOp} {l : List Nat} {s : St} : W T cx (.code (.regL true l ops kill) :: k) s Q = liftedW T cx (s.lifts cx l) ops kill k Q:=by
 cases hs : s.lifts cx l with
 | none=>exact W_fail (by simp [next,hs])
 | some s' =>
  rw [liftedW_some]
  have hd : (ops.map MOp.site).all (siteOkK cx s') = drawHead cx s' ops:=by
   simp only [drawHead,List.all_map]; congr 1
  rw [hd]
  by_cases h1 : drawHead cx s' ops = true
  ·rw [eq_true h1,true_and]; exact W_iff (by simp [next,hs,h1])
  ·rw [eq_false h1,false_and]; exact W_fail (by simp [next,hs,h1])
@[go_sem] theorem lifts_nil {s : St} : St.lifts cx [] s = some s:=rfl
def liftsO (cx : Cx) (o : Option St) (l : List Nat) : Option St:=o.bind (St.lifts cx l)
@[go_sem] theorem liftsO_some {s : St} {l : List Nat} : liftsO cx (some s) l = St.lifts cx l s:=rfl
def liftB (cx : Cx) (t u off len : Nat) (b : Option Blk) (sl : Slots) (own : Own) (h : HP) : Option St:=match b with
 | some b=>some ⟨Slots.set (Slots.forget sl (.stk cx.lvl u)) t (.sl (.obj h.next) off len),own.rid u,h.nw b.ty b.val⟩
 | none=>none
def liftV (cx : Cx) (t : Nat) (v : AV) (sl : Slots) (own : Own) (h : HP) : Option St:=match v with
 | .nilsl=>some ⟨sl,own,h⟩
 | .sl (.stk l u) off len=>if l = cx.lvl then liftB cx t u off len (own.get u) sl own h else none
 | _=>none
@[go_sem] theorem lifts_cons {t : Nat} {l : List Nat} : St.lifts cx (t :: l) ⟨sl,own,h⟩ = liftsO cx (liftV cx t (Slots.get sl t) sl own h) l:=by
 simp only [St.lifts,liftsO]
 congr 1
 simp only [St.lift,liftV]
 generalize Slots.get sl t = v
 cases v with
 | nilsl=>rfl
 | sl i off len =>
  cases i with
  | stk a b =>
   dsimp only
   split
   ·rename_i e
    subst e
    unfold liftB
    cases own.get b <;> rfl
   ·rfl
  | _=>rfl
 | _=>rfl
@[go_sem] theorem liftV_nil {t : Nat} : liftV cx t .nilsl sl own h = some ⟨sl,own,h⟩:=rfl
@[go_sem] theorem liftV_sl {t u off len : Nat} : liftV cx t (.sl (.stk cx.lvl u) off len) sl own h = liftB cx t u off len (own.get u) sl own h:=by simp only [liftV,if_true]
@[go_sem] theorem liftB_some {t u off len : Nat} {y : Ty} {v : AV} : liftB cx t u off len (some ⟨y,v⟩) sl own h = some ⟨Slots.set (Slots.forget sl (.stk cx.lvl u)) t (.sl (.obj h.next) off len),own.rid u,h.nw y v⟩:=rfl
end
def MC.flat : MC → Bool
 | .skip=>true
 | .reg ..=>true
 | .regL ..=>true
 | .seq a b=>a.flat && b.flat
 | .cond _ t e=>t.flat && e.flat
 | _=>false
def Item.flat : Item → Bool
 | .code c=>c.flat
 | .ops ..=>true
 | _=>false
def Cmd.app (rest : List Item) : Cmd → Cmd
 | .done s=>.go rest s
 | .fail=>.fail
 | .go k s=>.go (k ++ rest) s
 | .call cx' hide fn e d k s=>.call cx' hide fn e d (k ++ rest) s
theorem enterCmd_app {T : Nat → Option MFun} {cx : Cx} {prot : Bool} {hide : List Nat} {f : Nat} {a c : List AV} {d : Option Nat} {k rest : List Item} {s : St} :
  enterCmd T cx prot hide f a c d (k ++ rest) s = (enterCmd T cx prot hide f a c d k s).app rest:=by
 unfold enterCmd
 split
 ·split <;> rfl
 ·rfl
theorem opCmd_app {T : Nat → Option MFun} {cx : Cx} {d : Option Nat} {o : MK} {k rest : List Item} {s : St} : opCmd T cx d o (k ++ rest) s = (opCmd T cx d o k s).app rest:=by
 unfold opCmd
 split
 ·exact enterCmd_app
 ·split
  ·exact enterCmd_app
  ·rfl
 ·split <;> rfl
theorem next_app {T : Nat → Option MFun} {cx : Cx} {i : Item} {k rest : List Item} {s : St} (h : i.flat = true) : next T cx (i :: k ++ rest) s = (next T cx (i :: k) s).app rest:=by
 rw [List.cons_append]
 cases i with
 | inBlock id=>simp [Item.flat] at h
 | inLoop a b c=>simp [Item.flat] at h
 | ops l kill =>
  cases l with
  | nil=>rfl
  | cons o r =>
   simp only [next]
   split
   ·rfl
   ·rfl
   ·exact opCmd_app (k:=.ops r kill :: k)
 | code c =>
  cases c with
  | skip=>rfl
  | reg dr ops kill=>simp only [next]; split <;> rfl
  | regL dr l ops kill =>
   simp only [next]
   split
   ·split <;> rfl
   ·rfl
  | seq a b=>rfl
  | cond c t e=>simp only [next]; split <;> rfl
  | block id b=>simp [Item.flat,MC.flat] at h
  | loop a b c=>simp [Item.flat,MC.flat] at h
  | exit id=>simp [Item.flat,MC.flat] at h
  | ret=>simp [Item.flat,MC.flat] at h
theorem enterCmd_todo {T : Nat → Option MFun} {cx : Cx} {prot : Bool} {hide : List Nat} {f : Nat} {a c : List AV} {d : Option Nat} {k : List Item} {s : St} :
  (∀ k1 s1,enterCmd T cx prot hide f a c d k s = .go k1 s1 → k1 = k) ∧ (∀ c1 l1 f1 e1 d1 k1 s1,enterCmd T cx prot hide f a c d k s = .call c1 l1 f1 e1 d1 k1 s1 → k1 = k) ∧ ∀ s1,¬enterCmd T cx prot hide f a c d k s = .done s1:=by
 unfold enterCmd
 split
 ·split
  ·refine ⟨fun _ _ h=>(by cases h),fun _ _ _ _ _ _ _ h=>?_,fun _ h=>(by cases h)⟩
   injection h with _ _ _ _ _ h _; exact h.symm
  ·exact ⟨fun _ _ h=>(by cases h),fun _ _ _ _ _ _ _ h=>(by cases h),fun _ h=>(by cases h)⟩
 ·exact ⟨fun _ _ h=>(by cases h),fun _ _ _ _ _ _ _ h=>(by cases h),fun _ h=>(by cases h)⟩
theorem opCmd_todo {T : Nat → Option MFun} {cx : Cx} {d : Option Nat} {o : MK} {k : List Item} {s : St} :
  (∀ k1 s1,opCmd T cx d o k s = .go k1 s1 → k1 = k) ∧ (∀ c1 l1 f1 e1 d1 k1 s1,opCmd T cx d o k s = .call c1 l1 f1 e1 d1 k1 s1 → k1 = k) ∧ ∀ s1,¬opCmd T cx d o k s = .done s1:=by
 unfold opCmd
 split
 ·exact enterCmd_todo
 ·split
  ·exact enterCmd_todo
  ·exact ⟨fun _ _ h=>(by cases h),fun _ _ _ _ _ _ _ h=>(by cases h),fun _ h=>(by cases h)⟩
 ·split
  ·refine ⟨fun _ _ h=>?_,fun _ _ _ _ _ _ _ h=>(by cases h),fun _ h=>(by cases h)⟩
   injection h with h _; exact h.symm
  ·exact ⟨fun _ _ h=>(by cases h),fun _ _ _ _ _ _ _ h=>(by cases h),fun _ h=>(by cases h)⟩
def Cmd.flat : Cmd → Bool
 | .done _=>false
 | .fail=>true
 | .go k _=>k.all Item.flat
 | .call _ _ _ _ _ k _=>k.all Item.flat
theorem next_flat {T : Nat → Option MFun} {cx : Cx} {i : Item} {k : List Item} {s : St} (h : i.flat = true) (hk : k.all Item.flat = true) : (next T cx (i :: k) s).flat = true:=by
 cases i with
 | inBlock id=>simp [Item.flat] at h
 | inLoop a b c=>simp [Item.flat] at h
 | ops l kill =>
  cases l with
  | nil=>exact hk
  | cons o r =>
   have hk' : (Item.ops r kill :: k).all Item.flat = true:=by simpa [Item.flat] using hk
   simp only [next]
   split
   ·rfl
   ·exact hk'
   ·obtain ⟨a,b,c⟩:=@opCmd_todo T cx o.d o.k (.ops r kill :: k) s
    cases e : opCmd T cx o.d o.k (.ops r kill :: k) s with
    | done s1=>exact absurd e (c s1)
    | fail=>rfl
    | go k1 s1=>rw [a _ _ e]; exact hk'
    | call c1 l1 f1 e1 d1 k1 s1=>rw [b _ _ _ _ _ _ _ e]; exact hk'
 | code c =>
  cases c with
  | skip=>exact hk
  | reg dr ops kill =>
   have hk' : (Item.ops ops kill :: k).all Item.flat = true:=by simpa [Item.flat] using hk
   simp only [next]; split
   ·rfl
   ·exact hk'
  | regL dr l ops kill =>
   have hk' : (Item.ops ops kill :: k).all Item.flat = true:=by simpa [Item.flat] using hk
   simp only [next]
   split
   ·split
    ·rfl
    ·exact hk'
   ·rfl
  | seq a b =>
   simp only [Item.flat,MC.flat,Bool.and_eq_true] at h
   simp only [next,Cmd.flat,List.all_cons,Item.flat,h.1,h.2,hk,Bool.and_self]
  | cond c t e =>
   simp only [Item.flat,MC.flat,Bool.and_eq_true] at h
   simp only [next]; split
   ·rename_i b _
    cases b
    ·simp [Cmd.flat,Item.flat,h.2,hk]
    ·simp [Cmd.flat,Item.flat,h.1,hk]
   ·rfl
  | block id b=>simp [Item.flat,MC.flat] at h
  | loop a b c=>simp [Item.flat,MC.flat] at h
  | exit id=>simp [Item.flat,MC.flat] at h
  | ret=>simp [Item.flat,MC.flat] at h
theorem run_app {T : Nat → Option MFun} {rest : List Item} {Q : St → Prop} {s1 : St} {cx : Cx} (hq : W T cx rest s1 Q) : ∀ n (k : List Item) (s : St),k.all Item.flat = true → run T n cx k s = some s1 → W T cx (k ++ rest) s Q:=by
 intro n
 induction n with
 | zero=>intro k s _ h; simp [run] at h
 | succ n ih =>
  intro k s hk h
  cases k with
  | nil =>
   simp only [run,next,Option.some.injEq] at h
   subst h
   exact hq
  | cons i k =>
   simp only [List.all_cons,Bool.and_eq_true] at hk
   have e:=@next_app T cx i k rest s hk.1
   have hf:=@next_flat T cx i k s hk.1 hk.2
   rw [run] at h
   cases hn : next T cx (i :: k) s with
   | done s2=>rw [hn] at hf; exact absurd hf (by simp [Cmd.flat])
   | fail=>rw [hn] at h; exact absurd h (by simp)
   | go k2 s2 =>
    rw [hn] at h e hf
    exact W_go e (ih k2 s2 hf h)
   | call c1 l1 f1 e1 d1 k2 s2 =>
    rw [hn] at h e hf
    dsimp only at h
    cases h3 : run T n c1 [.code f1.body] e1 with
    | none=>rw [h3] at h; exact absurd h (by simp)
    | some s3 =>
     rw [h3] at h
     dsimp only at h
     cases h4 : back cx c1 l1 f1 d1 s2 s3 with
     | none=>rw [h4] at h; exact absurd h (by simp)
     | some s4 =>
      rw [h4] at h
      obtain ⟨m,s',hr,hQ⟩:=ih k2 s4 hf h
      refine ⟨max n m + 1,s',?_,hQ⟩
      have h5:=run_le (Nat.le_max_left n m) h3
      have h6:=run_le (Nat.le_max_right n m) hr
      rw [run,e]
      simp only [Cmd.app,h5,h4]
      exact h6
theorem W_cut {T : Nat → Option MFun} {cx : Cx} {c : MC} {rest : List Item} {s : St} {Q : St → Prop} (φ : St → Prop) (hc : c.flat = true) (h1 : W T cx [.code c] s φ) (h2 : ∀ s',φ s' → W T cx rest s' Q) : W T cx (.code c :: rest) s Q:=by
 obtain ⟨n,s1,hr,hf⟩:=h1
 exact run_app (h2 s1 hf) n [.code c] s (by simp [Item.flat,hc]) hr
theorem W_end {T : Nat → Option MFun} {cx : Cx} {s : St} {Q : St → Prop} (h : Q s) : W T cx [] s Q:=W_done rfl h
section
variable {T : Nat → Option MFun} {cx : Cx} {k : List Item} {kill : List Nat} {r : List MOp} {sl : Slots} {own : Own} {h h0 : HP} {Q : St → Prop}
theorem W_applyNew {d n : Nat} {ap : List Nat} {x y : Opd} {t : Ty} {v : AV} {add : List AV} (hx : St.opd ⟨sl,own,h⟩ x = .nilsl) (hy : elems (St.look cx ⟨sl,own,h⟩) t (St.opd ⟨sl,own,h⟩ y) = some add)
  (hn : add.length = n) (hn0 : ¬n = 0) (hn1 : n ≤ 1048576) (hv : AV.ofList add = v) (hf : (Ty.arr n t).fits v = true)
  (hap : ∀ e : Eff,e.isWr = false → ap.all (apOk (St.opd ⟨sl,own,h⟩) .nilsl (St.opd ⟨sl,own,h⟩ y) e) = true)
  (hq : W T cx (.ops r kill :: k) ⟨(Slots.forget sl (.stk cx.lvl d)).set d (.sl (.stk cx.lvl d) 0 n),own.set d ⟨.arr n t,v⟩,h⟩ Q) :
  W T cx (.ops (⟨some d,.append false ap t x y,none⟩ :: r) kill :: k) ⟨sl,own,h⟩ Q:=by
 subst hn; subst hv
 rw [W_op rfl,evOp]
 have e : evAppend (St.look cx ⟨sl,own,h⟩) t .nilsl add = some (.new (some add.length) ⟨.arr add.length t,.ofList add⟩):=by
  simp only [evAppend]
  rw [if_neg hn0,if_pos ⟨hf,hn1⟩]
 have e2 : evK (St.opd ⟨sl,own,h⟩) (St.look cx ⟨sl,own,h⟩) (.append false ap t x y) = some (.new (some add.length) ⟨.arr add.length t,.ofList add⟩):=by
  simp only [evK,hy,hx,e]
  rw [if_pos (hap _ rfl)]
 rw [e2]
 exact hq
theorem W_applyGrow {d n m q : Nat} {ap : List Nat} {x y : Opd} {t : Ty} {v w : AV} {l add : List AV} (hx : St.opd ⟨sl,own,h⟩ x = .sl (.obj q) 0 n) (hl : cx.prot.lets (.obj q) = true) (hk : h.look (.obj q) = some ⟨.arr n t,w⟩) (hw : AV.ofList l = w) (hln : l.length = n)
  (hy : elems (St.look cx ⟨sl,own,h⟩) t (St.opd ⟨sl,own,h⟩ y) = some add)
  (hm : n + add.length = m) (hm0 : n < m) (hm1 : m ≤ 1048576) (hv : AV.ofList (l ++ add) = v) (hf : (Ty.arr m t).fits v = true)
  (hap : ∀ e : Eff,e.isWr = false → ap.all (apOk (St.opd ⟨sl,own,h⟩) (.sl (.obj q) 0 n) (St.opd ⟨sl,own,h⟩ y) e) = true)
  (hq : W T cx (.ops r kill :: k) ⟨(Slots.forget sl (.stk cx.lvl d)).set d (.sl (.stk cx.lvl d) 0 m),own.set d ⟨.arr m t,v⟩,h.dl q⟩ Q) :
  W T cx (.ops (⟨some d,.append false ap t x y,none⟩ :: r) kill :: k) ⟨sl,own,h⟩ Q:=by
 subst hm; subst hv; subst hw; subst hln
 rw [W_op rfl,evOp]
 have hlk : St.look cx ⟨sl,own,h⟩ (.obj q) = some ⟨.arr l.length t,.ofList l⟩:=hk
 have e : evAppend (St.look cx ⟨sl,own,h⟩) t (.sl (.obj q) 0 l.length) add = some (.grow (.obj q) ⟨.arr (l.length + add.length) t,.ofList (l ++ add)⟩ (l.length + add.length)):=by
  simp only [evAppend,hlk,toList_ofList,if_true,Nat.zero_add,List.drop_zero]
  rw [if_neg (by omega),if_pos (by omega),List.take_of_length_le (Nat.le_refl _),if_pos ⟨hf,hm1⟩]
 have e2 : evK (St.opd ⟨sl,own,h⟩) (St.look cx ⟨sl,own,h⟩) (.append false ap t x y) = some (.grow (.obj q) ⟨.arr (l.length + add.length) t,.ofList (l ++ add)⟩ (l.length + add.length)):=by
  simp only [evK,hy,hx,e]
  rw [if_pos (hap _ rfl)]
 rw [e2]
 simp only [applyEff,St.drop,Id.own,hl,if_true,Option.map_some,onO_some]
 exact hq
end
@[go_sem] theorem encL_put (l : List Int) {i : Nat} (h : i < l.length) (s : Int) : (encL l).put [i] (.int .i64 s) = some (encL (l.set i s)):=by
 simp only [encL,AV.ofList,AV.put,List.length_map,h,dite_true,Option.map_some]
 congr 1
 refine arr_ofList (by simp) fun j hj=>?_
 simp only [List.get_eq_getElem,List.getElem_map,List.getElem_set]
 by_cases e : j = i
 ·subst e; simp
 ·have : ¬i = j:=fun h=>e h.symm
  simp [e,this]
def ownLoop : MC:=(.loop [0,3,4,5,6,13,14] [13,88,93] (.seq (.seq (.reg false Fn.w_LifeOwn.r30 [160]) (.cond (.s 161) .skip (.exit 4))) (.seq (.block 5 (.seq (.reg false Fn.w_LifeOwn.r32 []) (.block 6 (.loop [0,3,4,5,6,13,14,15] [13,88,93] (.seq (.seq (.reg false Fn.w_LifeOwn.r33 [164]) (.cond (.s 165) .skip (.exit 6))) (.seq (.block 7 (.seq (.reg false Fn.w_LifeOwn.r35 [168,169,170,171,172,173,174]) (.seq (.seq (.reg false Fn.w_LifeOwn.r36 [175,176,177,178,179,180,181,182,183]) (.cond (.s 184) (.exit 7) .skip)) (.seq (.seq (.reg true Fn.w_LifeOwn.r37 [185,186,187,188,189,190,191,192,193,194,195,196,197,198]) (.cond (.s 199) (.seq (.reg false Fn.w_LifeOwn.r38 []) .ret) .skip)) (.seq (.reg false Fn.w_LifeOwn.r39 []) (.seq (.seq (.reg false Fn.w_LifeOwn.r40 []) (.block 8 (.loop [0,3,4,5,6,13,14,15,16,17,18] [13,88,93] (.seq (.seq (.reg false Fn.w_LifeOwn.r41 [200,201,202]) (.cond (.s 203) .skip (.exit 8))) (.seq (.block 9 (.reg true Fn.w_LifeOwn.r43 [206,207,208,209,210,211,212,213,214,215,216,217,218,219,220,221,222,223,224,225,226,227,228,229,230])) (.reg false Fn.w_LifeOwn.r42 [204,205])))))) (.seq (.reg false Fn.w_LifeOwn.r44 [17,231]) (.cond (.s 232) (.seq (.reg false Fn.w_LifeOwn.r45 []) .ret) .skip)))))))) (.reg false Fn.w_LifeOwn.r34 [166,167]))))))) (.reg false Fn.w_LifeOwn.r31 [162,163]))))
def anyJ (As : List Int) (Bs : List Str) (a : Int) (b : Str) : Nat → Bool
 | 0=>false
 | j + 1=>anyJ As Bs a b j || (decide (num As j = a) && decide (txt Bs j = b))
theorem anyJ_true {As : List Int} {Bs : List Str} {a : Int} {b : Str} {n j : Nat} (hj : j < n) (h1 : num As j = a) (h2 : txt Bs j = b) : anyJ As Bs a b n = true:=by
 induction n with
 | zero=>omega
 | succ n ih =>
  unfold anyJ
  by_cases e : j = n
  ·subst e; simp [h1,h2]
  ·rw [ih (by omega)]; rfl
section
variable {cx : Cx} {rest : List Item} {Q : St → Prop} {h : HP} {m : Img} {v lp : AV} {kk : Int} {s : St}
def inSt (m : Img) (As : List Int) (Bs : List Str) : Prop:=∀ n p,n < 8 → p < 2 → (m.ino n).live = true → 0 ≤ (m.ino n).prt p →
 (m.ino n).prt p < 9 ∧ (m.dat ((m.ino n).prt p).toNat).of = (m.ino n).stamp ∧ anyJ As Bs (m.ino n).stamp (m.dat ((m.ino n).prt p).toNat).text As.length = true
theorem ownCheck_nil (hs : s.keep [0,3,4,5,6,13,14] [13,88,93] = ⟨[(0,v),(3,lp),(4,.nilsl),(5,.nilsl),(6,.int .i64 kk),(13,.ptr (.stk cx.lvl 13) [] tImage),(14,.int .i64 0)],[(13,⟨tImage,m.enc⟩)],h⟩)
  (hO : inSt m [] []) (hq : W tblE cx rest ⟨[(0,v),(3,lp),(4,.nilsl),(5,.nilsl),(6,.int .i64 kk),(13,.ptr (.stk cx.lvl 13) [] tImage),(14,.int .i64 8),(161,.bool false)],[(13,⟨tImage,m.enc⟩)],h⟩ Q) : W tblE cx (.code ownLoop :: .inBlock 4 :: rest) s Q:=by
 unfold ownLoop
 refine W_for 8 (fun n=>⟨[(0,v),(3,lp),(4,.nilsl),(5,.nilsl),(6,.int .i64 kk),(13,.ptr (.stk cx.lvl 13) [] tImage),(14,.int .i64 n)],[(13,⟨tImage,m.enc⟩)],h⟩) hs fun n hn ih=>?_
 by_cases hlt : n < 8
 ·simp (maxSteps:=999999) (disch:=omega) only [go_sem,hlt]
  refine W_for 2 (fun p=>⟨[(0,v),(3,lp),(4,.nilsl),(5,.nilsl),(6,.int .i64 kk),(13,.ptr (.stk cx.lvl 13) [] tImage),(14,.int .i64 n),(15,.int .i64 p)],[(13,⟨tImage,m.enc⟩)],h⟩) (by simp only [go_sem] <;> rfl) fun p hp ih2=>?_
  by_cases hlp : p < 2
  ·by_cases hl : (m.ino n).live = true
   ·by_cases hx : (m.ino n).prt p < 0
    ·simp (maxSteps:=999999) (disch:=omega) only [go_sem,hlt,hlp,hl,hx]
     refine ih2 _ hlp ?_
     simp only [go_sem]
    ·exact absurd (hO n p hlt hlp hl (by omega)).2.2 (by simp [anyJ])
   ·simp (maxSteps:=999999) (disch:=omega) only [go_sem,hlt,hlp,hl]
    refine ih2 _ hlp ?_
    simp only [go_sem]
  ·obtain rfl : p = 2:=by omega
   simp (maxSteps:=999999) (disch:=omega) only [go_sem]
   refine ih _ hlt ?_
   simp only [go_sem]
 ·obtain rfl : n = 8:=by omega
  simp (maxSteps:=999999) (disch:=omega) only [go_sem]
  exact hq
theorem ownCheck_ne {N : Nat} {As : List Int} {Bs : List Str} (hA : As.length = N) (hB : Bs.length = N) (hN : N ≤ 1048576) (hs : s.keep [0,3,4,5,6,13,14] [13,88,93] = ⟨[(0,v),(3,lp),(4,.sl (.stk cx.lvl 88) 0 N),(5,.sl (.stk cx.lvl 93) 0 N),(6,.int .i64 kk),(13,.ptr (.stk cx.lvl 13) [] tImage),(14,.int .i64 0)],[(13,⟨tImage,m.enc⟩),(88,⟨.arr N tI,encL As⟩),(93,⟨.arr N tS,encS Bs⟩)],h⟩)
  (hO : inSt m As Bs) (hq : W tblE cx rest ⟨[(0,v),(3,lp),(4,.sl (.stk cx.lvl 88) 0 N),(5,.sl (.stk cx.lvl 93) 0 N),(6,.int .i64 kk),(13,.ptr (.stk cx.lvl 13) [] tImage),(14,.int .i64 8),(161,.bool false)],[(13,⟨tImage,m.enc⟩),(88,⟨.arr N tI,encL As⟩),(93,⟨.arr N tS,encS Bs⟩)],h⟩ Q) : W tblE cx (.code ownLoop :: .inBlock 4 :: rest) s Q:=by
 unfold ownLoop
 refine W_for 8 (fun n=>⟨[(0,v),(3,lp),(4,.sl (.stk cx.lvl 88) 0 N),(5,.sl (.stk cx.lvl 93) 0 N),(6,.int .i64 kk),(13,.ptr (.stk cx.lvl 13) [] tImage),(14,.int .i64 n)],[(13,⟨tImage,m.enc⟩),(88,⟨.arr N tI,encL As⟩),(93,⟨.arr N tS,encS Bs⟩)],h⟩) hs fun n hn ih=>?_
 by_cases hlt : n < 8
 ·simp (maxSteps:=999999) (disch:=omega) only [go_sem,hlt]
  refine W_for 2 (fun p=>⟨[(0,v),(3,lp),(4,.sl (.stk cx.lvl 88) 0 N),(5,.sl (.stk cx.lvl 93) 0 N),(6,.int .i64 kk),(13,.ptr (.stk cx.lvl 13) [] tImage),(14,.int .i64 n),(15,.int .i64 p)],[(13,⟨tImage,m.enc⟩),(88,⟨.arr N tI,encL As⟩),(93,⟨.arr N tS,encS Bs⟩)],h⟩) (by simp only [go_sem] <;> rfl) fun p hp ih2=>?_
  by_cases hlp : p < 2
  ·by_cases hl : (m.ino n).live = true
   ·by_cases hx : (m.ino n).prt p < 0
    ·simp (maxSteps:=999999) (disch:=omega) only [go_sem,hlt,hlp,hl,hx]
     refine ih2 _ hlp ?_
     simp only [go_sem]
    ·obtain ⟨f1,f2,f3⟩:=hO n p hlt hlp hl (by omega)
     have f4 : ¬9 ≤ (m.ino n).prt p:=by omega
     obtain ⟨q,hq'⟩ : ∃ q : Nat,(m.ino n).prt p = q:=⟨((m.ino n).prt p).toNat,by omega⟩
     rw [hq'] at f1 f2 f3 f4
     rw [Int.toNat_natCast] at f2 f3
     have q9 : q < 9:=by omega
     simp (maxSteps:=999999) (disch:=omega) only [go_sem,hlt,hlp,hl,hx,f4,f2,hq',q9]
     refine W_for N (fun j=>⟨[(0,v),(3,lp),(4,.sl (.stk cx.lvl 88) 0 N),(5,.sl (.stk cx.lvl 93) 0 N),(6,.int .i64 kk),(13,.ptr (.stk cx.lvl 13) [] tImage),(14,.int .i64 n),(15,.int .i64 p),(16,.int .i64 q),(17,.bool (anyJ As Bs (m.ino n).stamp (m.dat q).text j)),(18,.int .i64 j)],[(13,⟨tImage,m.enc⟩),(88,⟨.arr N tI,encL As⟩),(93,⟨.arr N tS,encS Bs⟩)],h⟩) (by simp only [go_sem] <;> rfl) fun j hj ih3=>?_
     by_cases hjn : j < N
     ·have hjA : j < As.length:=by omega
      have hjB : j < Bs.length:=by omega
      have hnA:=encL_num As hjA
      have step : anyJ As Bs (m.ino n).stamp (m.dat q).text (j + 1) = (anyJ As Bs (m.ino n).stamp (m.dat q).text j || (decide (num As j = (m.ino n).stamp) && decide (txt Bs j = (m.dat q).text))):=rfl
      cases hc : anyJ As Bs (m.ino n).stamp (m.dat q).text j with
      | true =>
       simp (maxSteps:=999999) (disch:=omega) only [go_sem,hjn,hlt,hlp,q9,hjA,hjB]
       refine ih3 _ hjn ?_
       rw [step,hc]
       simp only [go_sem,Bool.true_or]
      | false =>
       by_cases c1 : num As j = (m.ino n).stamp
       ·simp (maxSteps:=999999) (disch:=omega) only [go_sem,hjn,hlt,hlp,q9,hjA,hjB,hnA,c1]
        refine ih3 _ hjn ?_
        rw [step,hc]
        simp only [go_sem,Bool.false_or,c1,decide_true,Bool.true_and]
       ·simp (maxSteps:=999999) (disch:=omega) only [go_sem,hjn,hlt,hlp,q9,hjA,hjB,hnA,c1]
        refine ih3 _ hjn ?_
        rw [step,hc]
        simp only [go_sem,Bool.false_or,c1,decide_false,Bool.false_and]
     ·obtain rfl : j = N:=by omega
      rw [hA] at f3
      simp (maxSteps:=999999) (disch:=omega) only [go_sem,f3]
      refine ih2 _ hlp ?_
      simp only [go_sem]
   ·simp (maxSteps:=999999) (disch:=omega) only [go_sem,hlt,hlp,hl]
    refine ih2 _ hlp ?_
    simp only [go_sem]
  ·obtain rfl : p = 2:=by omega
   simp (maxSteps:=999999) (disch:=omega) only [go_sem]
   refine ih _ hlt ?_
   simp only [go_sem]
 ·obtain rfl : n = 8:=by omega
  simp (maxSteps:=999999) (disch:=omega) only [go_sem]
  exact hq
end
theorem num_get {l : List Int} {i : Nat} (h : i < l.length) : num l i = l[i]:=by simp [num,List.getD,h]
def fgtN (S : Int) (As : List Int) : Nat → List Int
 | 0=>As
 | j + 1=>if num (fgtN S As j) j = S then (fgtN S As j).set j 0 else fgtN S As j
theorem fgtN_len (S : Int) (As : List Int) : ∀ j,(fgtN S As j).length = As.length
 | 0=>rfl
 | j + 1=>by
  unfold fgtN
  split
  ·rw [List.length_set,fgtN_len S As j]
  ·exact fgtN_len S As j
theorem fgtN_num (S : Int) (As : List Int) : ∀ j i,i < As.length → num (fgtN S As j) i = if i < j ∧ num As i = S then 0 else num As i
 | 0,i,hi=>by simp [fgtN]
 | j + 1,i,hi=>by
  have ih:=fgtN_num S As j i hi
  have hj:=fgtN_len S As j
  have hset : num ((fgtN S As j).set j 0) i = if i = j then 0 else num (fgtN S As j) i:=by
   have h1 : i < ((fgtN S As j).set j 0).length:=by rw [List.length_set,hj]; exact hi
   have h2 : i < (fgtN S As j).length:=by rw [hj]; exact hi
   rw [num_get h1,num_get h2,List.getElem_set]
   by_cases e : i = j
   ·rw [if_pos e,if_pos e.symm]
   ·rw [if_neg e,if_neg (fun h=>e h.symm)]
  rw [fgtN]
  by_cases c : num (fgtN S As j) j = S
  ·rw [if_pos c,hset]
   by_cases e : i = j
   ·subst e
    rw [if_pos rfl]
    rw [fgtN_num S As i i hi,if_neg (by omega)] at c
    rw [if_pos ⟨by omega,c⟩]
   ·rw [if_neg e,ih]
    by_cases q : i < j ∧ num As i = S
    ·rw [if_pos q,if_pos ⟨by omega,q.2⟩]
    ·rw [if_neg q,if_neg (fun h=>q ⟨by omega,h.2⟩)]
  ·rw [if_neg c,ih]
   by_cases e : i = j
   ·subst e
    rw [fgtN_num S As i i hi,if_neg (by omega)] at c
    rw [if_neg (fun h=>c h.2),if_neg (fun h=>c h.2)]
   ·by_cases q : i < j ∧ num As i = S
    ·rw [if_pos q,if_pos ⟨by omega,q.2⟩]
    ·rw [if_neg q,if_neg (fun h=>q ⟨by omega,h.2⟩)]
theorem fgtN_all (S : Int) (As : List Int) : fgtN S As As.length = As.map fun a=>if a = S then 0 else a:=by
 refine List.ext_getElem (by rw [fgtN_len,List.length_map]) fun i h1 h2=>?_
 have hi : i < As.length:=by rw [fgtN_len] at h1; exact h1
 have e:=fgtN_num S As As.length i hi
 rw [num_get h1,num_get hi] at e
 rw [e,List.getElem_map]
 by_cases q : As[i] = S
 ·rw [if_pos ⟨hi,q⟩,if_pos q]
 ·rw [if_neg (fun h=>q h.2),if_neg q]
theorem forget1_fst (S : Int) (P : List (Int × Str)) : (P.map (forget1 S)).map Prod.fst = (P.map Prod.fst).map fun a=>if a = S then 0 else a:=by
 rw [List.map_map,List.map_map]
 refine List.map_congr_left fun a _=>?_
 simp only [Function.comp,forget1]
 split <;> rfl
theorem forget1_snd (S : Int) (P : List (Int × Str)) : (P.map (forget1 S)).map Prod.snd = P.map Prod.snd:=by
 rw [List.map_map]
 refine List.map_congr_left fun a _=>?_
 simp only [Function.comp,forget1]
 split <;> rfl
theorem anyJ_mem {P : List (Int × Str)} {a : Int} {b : Str} (h : (a,b) ∈ P) : anyJ (P.map Prod.fst) (P.map Prod.snd) a b (P.map Prod.fst).length = true:=by
 obtain ⟨j,hj,e⟩:=List.getElem_of_mem h
 have h1 : j < (P.map Prod.fst).length:=by simpa using hj
 have h2 : j < (P.map Prod.snd).length:=by simpa using hj
 refine anyJ_true (j:=j) h1 ?_ ?_
 ·rw [num_get h1,List.getElem_map,e]
 ·rw [txt_get h2,List.getElem_map,e]
theorem owned_inSt {F : Fl} {P : List (Int × Str)} (h : Inv F) (o : Owned P F) : inSt F.disk (P.map Prod.fst) (P.map Prod.snd):=fun n p hn hp hl hx=>by
 obtain ⟨a,b,c⟩:=owned_part h o hn hp hl hx
 exact ⟨a,b,anyJ_mem c⟩
def ownSt (cx : Cx) (v : AV) (p : Nat) (P : List (Int × Str)) (kk : Int) (h : HP) : St:=match P with
 | []=>⟨[(0,v),(3,.ptr (.obj p) [] tLife),(4,.nilsl),(5,.nilsl),(6,.int .i64 kk)],[],h⟩
 | a :: P=>⟨[(0,v),(3,.ptr (.obj p) [] tLife),(4,.sl (.stk cx.lvl 88) 0 (a :: P).length),(5,.sl (.stk cx.lvl 93) 0 (a :: P).length),(6,.int .i64 kk)],[(88,⟨.arr (a :: P).length tI,encL ((a :: P).map Prod.fst)⟩),(93,⟨.arr (a :: P).length tS,encS ((a :: P).map Prod.snd)⟩)],h⟩
theorem ownSt_ne {cx : Cx} {v : AV} {p : Nat} {P : List (Int × Str)} {kk : Int} {h : HP} (hP : ¬P.length = 0) : ownSt cx v p P kk h = ⟨[(0,v),(3,.ptr (.obj p) [] tLife),(4,.sl (.stk cx.lvl 88) 0 P.length),(5,.sl (.stk cx.lvl 93) 0 P.length),(6,.int .i64 kk)],[(88,⟨.arr P.length tI,encL (P.map Prod.fst)⟩),(93,⟨.arr P.length tS,encS (P.map Prod.snd)⟩)],h⟩:=by
 cases P with
 | nil=>exact absurd rfl hP
 | cons a P=>rfl
theorem own_look0 {h : HP} {a b : Ty} {v w : AV} : ((h.nw a v).nw b w).look (.obj h.next) = some ⟨a,v⟩:=by
 rw [look_nw_ne (by show ¬h.next = h.next + 1; omega)]; exact look_nw
theorem own_look1 {h : HP} {a b : Ty} {v w : AV} : (((h.nw a v).nw b w).dl h.next).look (.obj (h.next + 1)) = some ⟨b,w⟩:=by
 show (if h.next + 1 = h.next then none else _) = _
 rw [if_neg (by omega)]; exact look_nw
theorem own_fr {h : HP} {a b : Ty} {v w : AV} : Fr h ((((h.nw a v).nw b w).dl h.next).dl (h.next + 1)) []:=by
 exact ((Fr.nw.trans Fr.nw).dl (Nat.le_refl _)).dl (by omega)
def ownA : MC:=(.seq (.reg false Fn.w_LifeOwn.r14 [48,49,50,51,52]) (.cond (.s 53) (.reg true Fn.w_LifeOwn.r15 [8,54,55,56,57,58,59,60,61,62,63,64,65,66,67,68,69,70]) .skip))
@[reducible] def ownBody : MC:=(.seq (.reg false Fn.w_LifeOwn.r0 [2]) (.seq (.seq (.reg false Fn.w_LifeOwn.r1 [19]) (.cond (.s 20) (.seq (.reg false Fn.w_LifeOwn.r2 []) .ret) .skip)) (.seq (.seq (.reg false Fn.w_LifeOwn.r3 [21]) (.cond (.s 22) (.seq (.reg false Fn.w_LifeOwn.r4 []) .ret) .skip)) (.seq (.reg false Fn.w_LifeOwn.r5 [23]) (.seq (.reg false Fn.w_LifeOwn.r6 []) (.seq (.reg false Fn.w_LifeOwn.r7 []) (.seq (.seq (.reg false Fn.w_LifeOwn.r8 []) (.block 0 (.loop [0,3,4,5,6] [88,93] (.seq (.seq (.reg false Fn.w_LifeOwn.r9 [24,25,26]) (.cond (.s 27) .skip (.exit 0))) (.seq (.block 1 (.seq (.reg false Fn.w_LifeOwn.r11 [30,31,32,33]) (.seq (.reg true Fn.w_LifeOwn.r12 [34,35,36,37,38,39,40,41,42,43,44,45,46,47]) (.seq (.reg false Fn.w_LifeOwn.r13 []) (.seq ownA (.seq (.reg false Fn.w_LifeOwn.r16 [71,72,73]) (.seq (.seq (.reg false Fn.w_LifeOwn.r17 [74,75,76,77,78,79,80,81,82,83]) (.cond (.s 84) (.regL true [4,5] Fn.w_LifeOwn.r18 [9,85,86,87,88,89,90,91,92,93]) .skip)) (.seq (.seq (.reg false Fn.w_LifeOwn.r19 [10,94,95,96,97,98,99]) (.cond (.s 100) (.seq (.reg true Fn.w_LifeOwn.r20 [101,102,103,104,105,106,107,108,109,110,111,112,113,114]) (.seq (.seq (.reg false Fn.w_LifeOwn.r21 [115,116,117,118,119]) (.cond (.s 120) (.seq (.reg false Fn.w_LifeOwn.r22 []) .ret) .skip)) (.seq (.reg false Fn.w_LifeOwn.r23 []) (.block 2 (.loop [0,3,4,5,6,7,11,12] [7,88,93] (.seq (.seq (.reg false Fn.w_LifeOwn.r24 [121,122,123]) (.cond (.s 124) .skip (.exit 2))) (.seq (.block 3 (.seq (.reg true Fn.w_LifeOwn.r26 [127,128,129,130,131,132,133,134,135,136,137,138,139,140,141,142,143,144,145,146,147]) (.cond (.s 148) (.reg false Fn.w_LifeOwn.r27 [149,150,151]) .skip))) (.reg false Fn.w_LifeOwn.r25 [125,126])))))))) .skip)) (.seq (.reg false Fn.w_LifeOwn.r28 [152,153,154,155,156,157,158,159]) (.seq (.reg false Fn.w_LifeOwn.r29 []) (.block 4 (.loop [0,3,4,5,6,13,14] [13,88,93] (.seq (.seq (.reg false Fn.w_LifeOwn.r30 [160]) (.cond (.s 161) .skip (.exit 4))) (.seq (.block 5 (.seq (.reg false Fn.w_LifeOwn.r32 []) (.block 6 (.loop [0,3,4,5,6,13,14,15] [13,88,93] (.seq (.seq (.reg false Fn.w_LifeOwn.r33 [164]) (.cond (.s 165) .skip (.exit 6))) (.seq (.block 7 (.seq (.reg false Fn.w_LifeOwn.r35 [168,169,170,171,172,173,174]) (.seq (.seq (.reg false Fn.w_LifeOwn.r36 [175,176,177,178,179,180,181,182,183]) (.cond (.s 184) (.exit 7) .skip)) (.seq (.seq (.reg true Fn.w_LifeOwn.r37 [185,186,187,188,189,190,191,192,193,194,195,196,197,198]) (.cond (.s 199) (.seq (.reg false Fn.w_LifeOwn.r38 []) .ret) .skip)) (.seq (.reg false Fn.w_LifeOwn.r39 []) (.seq (.seq (.reg false Fn.w_LifeOwn.r40 []) (.block 8 (.loop [0,3,4,5,6,13,14,15,16,17,18] [13,88,93] (.seq (.seq (.reg false Fn.w_LifeOwn.r41 [200,201,202]) (.cond (.s 203) .skip (.exit 8))) (.seq (.block 9 (.reg true Fn.w_LifeOwn.r43 [206,207,208,209,210,211,212,213,214,215,216,217,218,219,220,221,222,223,224,225,226,227,228,229,230])) (.reg false Fn.w_LifeOwn.r42 [204,205])))))) (.seq (.reg false Fn.w_LifeOwn.r44 [17,231]) (.cond (.s 232) (.seq (.reg false Fn.w_LifeOwn.r45 []) .ret) .skip)))))))) (.reg false Fn.w_LifeOwn.r34 [166,167]))))))) (.reg false Fn.w_LifeOwn.r31 [162,163]))))))))))))))) (.reg false Fn.w_LifeOwn.r10 [28,29])))))) (.seq (.reg false Fn.w_LifeOwn.r46 []) .ret))))))))
section
variable {cx : Cx} {h : HP} {v : AV} {l : List SStep}
theorem LifeOwn_ok (hl : ∀ n,cx.prot.lets (.obj n) = true) (hv : StepsV h v l) (hsz : ∀ k,(stp l k).ok) : Ok tblE cx Fn.w_LifeOwn (St.enter [v] h) fun v h'=>v = .bool true:=by
 rw [Ok_eq]
 change W tblE cx [.code ownBody] _ _
 have hvlen:=hv.len
 have hvfg:=hv.fg
 have hvld:=hv.ld
 simp (maxSteps:=999999) (disch:=omega) only [go_sem]
 refine W_callF (S:=[]) (R:=fun v _=>v = .bool true) rfl ⟨rfl,rfl⟩ (by simp only [go_sem]; exact lifeBegun_ok (by exact hl)) (fun _ _ e=>e) ?_
 rintro _ h1 hF1 rfl
 simp (maxSteps:=999999) (disch:=omega) only [go_sem,hvlen,hvfg,hvld]
 refine W_callhv (P:=fun x=>∃ b,x = .bool b ∧ (b = false → l.length ≤ 200)) h1 rfl ⟨rfl,rfl⟩ rfl (by simp only [go_sem]; exact greatSteps_ok ((hv.to hF1.arg).push)) ?_
 rintro _ ⟨great,rfl,hgr⟩
 cases great with
 | true=>simp (maxSteps:=999999) (disch:=omega) only [go_sem]
 | false =>
 have h200:=hgr rfl
 simp (maxSteps:=999999) (disch:=omega) only [go_sem,hvlen,hvfg,hvld]
 refine W_callN (h0:=h1) (R:=fun v=>v = .ptr (.obj (h1.next + 2)) [] tLife) (L':=Lf.new) (p:=h1.next + 2) rfl ⟨rfl,rfl⟩ rfl (by simp only [go_sem]; exact LNew_N) ?_
 rintro _ h2 rfl n0
 generalize h1.next + 2 = p at n0 ⊢
 simp (maxSteps:=999999) (disch:=omega) only [go_sem,hvlen,hvfg,hvld]
 refine W_forE (α:=HP) l.length (fun k h=>ownSt cx v p (recRun l k) k h) (fun k h=>LifeN h1 h p (lifeRun .new l k)) h2 (by simp only [go_sem] <;> rfl) n0 fun k h3 hk hN ih=>?_
 obtain ⟨inv,hst⟩:=inv_run l Inv.new new_stamp k (by omega)
 have hlen:=recRun_len l k
 by_cases hlt : k < l.length
 ·obtain ⟨n,rfl,hn⟩:=(hv.to (hN.arg.trans hF1.arg)).ix k hlt
  have own1:=owned_run l (k + 1) (by omega)
  have inv1:=(inv_run l Inv.new new_stamp (k + 1) (by omega)).1
  obtain ⟨f,c,hA,_,_⟩:=id hN
  have hrec : recRun l (k + 1) = recS (lifeRun .new l k) (stp l k) (recRun l k):=rfl
  by_cases hP : (recRun l k).length = 0
  ·have hP:=List.eq_nil_of_length_eq_zero hP
   rw [hP] at hrec hlen ⊢
   simp only [ownSt]
   simp (maxSteps:=999999) (disch:=omega) only [go_sem,hlt,hn,hA.li,hA.fi,hA.ca]
   refine W_callp rfl ⟨rfl,rfl⟩ (by simp only [go_sem]; exact eFind0 (a:=(lifeRun .new l k).fl.now) (b:=(lifeRun .new l k).fl.disk) (by simp only [go_sem,hA.ca])) ?_
   simp (maxSteps:=999999) (disch:=omega) only [go_sem,hA.li,hA.fi,hA.ca]
   refine W_cut (fun s'=>∃ b,s' = ⟨[(0,.sl (.arg n) 0 l.length),(3,.ptr (.obj p) [] tLife),(4,.nilsl),(5,.nilsl),(6,.int .i64 k),(7,.ptr (.stk cx.lvl 7) [] tStep),(8,.int .i64 (slotOf (lifeRun .new l k).fl.now (stp l k).dir (stp l k).name)),(9,.int .i64 (stampAt (lifeRun .new l k).fl.now (stp l k).dir (stp l k).name)),(27,.bool true),(53,.bool b)],[(7,⟨tStep,(stp l k).enc⟩)],h3⟩ ∨ s' = ⟨[(0,.sl (.arg n) 0 l.length),(3,.ptr (.obj p) [] tLife),(4,.nilsl),(5,.nilsl),(6,.int .i64 k),(7,.ptr (.stk cx.lvl 7) [] tStep),(9,.int .i64 (stampAt (lifeRun .new l k).fl.now (stp l k).dir (stp l k).name)),(27,.bool true),(53,.bool b)],[(7,⟨tStep,(stp l k).enc⟩)],h3⟩) rfl ?_ ?_
   ·rcases slotOf_cases (lifeRun .new l k).fl.now (stp l k).dir (stp l k).name with e | ⟨s,s4,e,d0,d3,_,_⟩
    ·have es : stampAt (lifeRun .new l k).fl.now (stp l k).dir (stp l k).name = 0:=by unfold stampAt; rw [e]; rfl
     rw [es,e]
     unfold ownA
     simp (maxSteps:=999999) (disch:=omega) only [go_sem]
     exact ⟨_,.inl rfl⟩
    ·obtain ⟨dn,hdn⟩ : ∃ dn : Nat,(stp l k).dir = dn:=⟨_,(Int.toNat_of_nonneg d0).symm⟩
     have dn3 : dn < 3:=by omega
     have es : stampAt (lifeRun .new l k).fl.now (stp l k).dir (stp l k).name = ((lifeRun .new l k).fl.now.ent dn s).stamp:=by
      unfold stampAt
      rw [e,if_neg (by omega),hdn]; rfl
     rw [es,e]
     unfold ownA
     simp (maxSteps:=999999) (disch:=omega) only [go_sem,hA.li,hA.fi,hA.ca,hdn,dn3,s4]
     exact ⟨_,.inr rfl⟩
   ·rintro _ ⟨b53,h53⟩
    rcases h53 with rfl | rfl
    all_goals
      simp (maxSteps:=999999) (disch:=omega) only [go_sem]
      refine W_callN (h0:=h1) (R:=fun v=>v = .int .i64 (lifeC (lifeRun .new l k) (stp l k))) (L':=lifeRun .new l (k + 1)) (p:=p) rfl ⟨rfl,rfl⟩ (LifeN.stk hN) (by simp only [go_sem]; exact LStep_N (by exact hl) (LifeN.push hN) inv.i0 (hsz k)) ?_
      rintro _ h4 rfl hN4
      by_cases cp : lifeC (lifeRun .new l k) (stp l k) = 0 ∧ (stp l k).kind = 5 ∧ 0 < stampAt (lifeRun .new l k).fl.now (stp l k).dir (stp l k).name
      ·obtain ⟨c0,c5,cs⟩:=cp
       simp (maxSteps:=999999) (disch:=omega) only [go_sem,c0,c5,cs]
       refine W_applyNew (n:=1) (v:=encL [stampAt (lifeRun .new l k).fl.now (stp l k).dir (stp l k).name]) (add:=[.int .i64 (stampAt (lifeRun .new l k).fl.now (stp l k).dir (stp l k).name)]) (by simp only [go_sem]) (by simp only [go_sem]) rfl (by omega) (by omega) rfl (encL_fits _ rfl) (fun e he=>by simp [apOk,he,AV.offStk,AV.offObj,go_sem]) ?_
       simp (maxSteps:=999999) (disch:=omega) only [go_sem]
       refine W_applyNew (n:=1) (v:=encS [(stp l k).text]) (add:=[.str (stp l k).text]) (by simp only [go_sem]) (by simp only [go_sem]) rfl (by omega) (by omega) rfl (encS_fits _ rfl) (fun e he=>by simp [apOk,he,AV.offStk,AV.offObj,go_sem]) ?_
       simp (maxSteps:=999999) (disch:=omega) only [go_sem]
       have hrec' : recRun l (k + 1) = [(stampAt (lifeRun .new l k).fl.now (stp l k).dir (stp l k).name,(stp l k).text)]:=by rw [hrec]; unfold recS; rw [if_pos ⟨c0,c5,cs⟩]; rfl
       obtain ⟨f9,c9,hA9,_,_⟩:=id hN4
       simp (maxSteps:=999999) (disch:=omega) only [go_sem,hA9.li,hA9.fi,hA9.ca]
       refine W_callp rfl ⟨rfl,rfl⟩ (by simp only [go_sem]; exact eDisk (a:=(lifeRun .new l (k + 1)).fl.now) (b:=(lifeRun .new l (k + 1)).fl.disk) (by simp only [go_sem,hA9.ca])) ?_
       simp (maxSteps:=999999) (disch:=omega) only [go_sem]
       have hin:=owned_inSt inv1 own1
       rw [hrec'] at hin
       refine ownCheck_ne (m:=(lifeRun .new l (k + 1)).fl.disk) (kk:=k) (As:=[stampAt (lifeRun .new l k).fl.now (stp l k).dir (stp l k).name]) (Bs:=[(stp l k).text]) (N:=1) rfl rfl (by omega) (by simp only [go_sem] <;> rfl) hin ?_
       simp (maxSteps:=999999) (disch:=omega) only [go_sem]
       refine ih _ h4 hlt ?_ hN4
       rw [hrec']
       simp only [go_sem,ownSt,List.length,List.map]
      ·have hrec2 : recRun l (k + 1) = if lifeC (lifeRun .new l k) (stp l k) = 0 ∧ (stp l k).kind = 1 then ([] : List (Int × Str)).map (forget1 (stampAt (lifeRun .new l (k + 1)).fl.now (stp l k).dir (stp l k).name)) else ([] : List (Int × Str)):=by rw [hrec]; unfold recS; rw [if_neg cp]; rfl
       have hrec' : recRun l (k + 1) = []:=by rw [hrec2]; split <;> rfl
       by_cases c0 : lifeC (lifeRun .new l k) (stp l k) = 0
       ·by_cases c1 : (stp l k).kind = 1
        ·obtain ⟨f4,c4,hA4,_,_⟩:=id hN4
         have eF : (lifeRun .new l (k + 1)).fl = doF (lifeRun .new l k).fl (stp l k):=by show (lifeF _ _).fl = _; simp [lifeF,c1]
         have eC : doC (lifeRun .new l k).fl (stp l k) = 0:=by rw [← c0]; simp [lifeC,c1]
         obtain ⟨⟨n1,n2⟩,_⟩:=new_above inv (by omega) eC c1
         rw [← eF] at n1 n2
         obtain ⟨S,hS⟩ : ∃ S,stampAt (lifeRun .new l (k + 1)).fl.now (stp l k).dir (stp l k).name = S:=⟨_,rfl⟩
         rcases slotOf_cases (lifeRun .new l (k + 1)).fl.now (stp l k).dir (stp l k).name with e | ⟨s,s4,e,d0,d3,_,_⟩
         ·omega
         obtain ⟨dn,hdn⟩ : ∃ dn : Nat,(stp l k).dir = dn:=⟨_,(Int.toNat_of_nonneg d0).symm⟩
         have dn3 : dn < 3:=by omega
         have eS : ((lifeRun .new l (k + 1)).fl.now.ent dn s).stamp = S:=by
          rw [← hS]
          unfold stampAt
          rw [e,if_neg (by omega),hdn]; rfl
         simp (maxSteps:=999999) (disch:=omega) only [go_sem,c0,c1,hA4.li,hA4.fi,hA4.ca]
         refine W_callp rfl ⟨rfl,rfl⟩ (by simp only [go_sem]; exact eFind0 (a:=(lifeRun .new l (k + 1)).fl.now) (b:=(lifeRun .new l (k + 1)).fl.disk) (by simp only [go_sem,hA4.ca])) ?_
         rw [e]
         simp (maxSteps:=999999) (disch:=omega) only [go_sem,s4]
         refine W_for 0 (fun j=>⟨[(0,.sl (.arg n) 0 l.length),(3,.ptr (.obj p) [] tLife),(4,.nilsl),(5,.nilsl),(6,.int .i64 k),(7,.ptr (.stk cx.lvl 7) [] tStep),(11,.int .i64 s),(12,.int .i64 j)],[(7,⟨tStep,(stp l k).enc⟩)],h4⟩) (by simp only [go_sem] <;> rfl) fun j hj ih2=>?_
         obtain rfl : j = 0:=by omega
         simp (maxSteps:=999999) (disch:=omega) only [go_sem]
         obtain ⟨f9,c9,hA9,_,_⟩:=id hN4
         simp (maxSteps:=999999) (disch:=omega) only [go_sem,hA9.li,hA9.fi,hA9.ca]
         refine W_callp rfl ⟨rfl,rfl⟩ (by simp only [go_sem]; exact eDisk (a:=(lifeRun .new l (k + 1)).fl.now) (b:=(lifeRun .new l (k + 1)).fl.disk) (by simp only [go_sem,hA9.ca])) ?_
         simp (maxSteps:=999999) (disch:=omega) only [go_sem]
         have hin:=owned_inSt inv1 own1
         rw [hrec'] at hin
         refine ownCheck_nil (m:=(lifeRun .new l (k + 1)).fl.disk) (kk:=k) (by simp only [go_sem] <;> rfl) hin ?_
         simp (maxSteps:=999999) (disch:=omega) only [go_sem]
         refine ih _ h4 hlt ?_ hN4
         rw [hrec']
         simp only [go_sem,ownSt]
        ·by_cases c5 : (stp l k).kind = 5
         ·have cs : ¬0 < stampAt (lifeRun .new l k).fl.now (stp l k).dir (stp l k).name:=fun h=>cp ⟨c0,c5,h⟩
          simp (maxSteps:=999999) (disch:=omega) only [go_sem,c0,c5,cs]
          obtain ⟨f9,c9,hA9,_,_⟩:=id hN4
          simp (maxSteps:=999999) (disch:=omega) only [go_sem,hA9.li,hA9.fi,hA9.ca]
          refine W_callp rfl ⟨rfl,rfl⟩ (by simp only [go_sem]; exact eDisk (a:=(lifeRun .new l (k + 1)).fl.now) (b:=(lifeRun .new l (k + 1)).fl.disk) (by simp only [go_sem,hA9.ca])) ?_
          simp (maxSteps:=999999) (disch:=omega) only [go_sem]
          have hin:=owned_inSt inv1 own1
          rw [hrec'] at hin
          refine ownCheck_nil (m:=(lifeRun .new l (k + 1)).fl.disk) (kk:=k) (by simp only [go_sem] <;> rfl) hin ?_
          simp (maxSteps:=999999) (disch:=omega) only [go_sem]
          refine ih _ h4 hlt ?_ hN4
          rw [hrec']
          simp only [go_sem,ownSt]
         ·skip
          simp (maxSteps:=999999) (disch:=omega) only [go_sem,c0,c1,c5]
          obtain ⟨f9,c9,hA9,_,_⟩:=id hN4
          simp (maxSteps:=999999) (disch:=omega) only [go_sem,hA9.li,hA9.fi,hA9.ca]
          refine W_callp rfl ⟨rfl,rfl⟩ (by simp only [go_sem]; exact eDisk (a:=(lifeRun .new l (k + 1)).fl.now) (b:=(lifeRun .new l (k + 1)).fl.disk) (by simp only [go_sem,hA9.ca])) ?_
          simp (maxSteps:=999999) (disch:=omega) only [go_sem]
          have hin:=owned_inSt inv1 own1
          rw [hrec'] at hin
          refine ownCheck_nil (m:=(lifeRun .new l (k + 1)).fl.disk) (kk:=k) (by simp only [go_sem] <;> rfl) hin ?_
          simp (maxSteps:=999999) (disch:=omega) only [go_sem]
          refine ih _ h4 hlt ?_ hN4
          rw [hrec']
          simp only [go_sem,ownSt]
       ·by_cases c1 : (stp l k).kind = 1
        ·skip
         simp (maxSteps:=999999) (disch:=omega) only [go_sem,c0,c1]
         obtain ⟨f9,c9,hA9,_,_⟩:=id hN4
         simp (maxSteps:=999999) (disch:=omega) only [go_sem,hA9.li,hA9.fi,hA9.ca]
         refine W_callp rfl ⟨rfl,rfl⟩ (by simp only [go_sem]; exact eDisk (a:=(lifeRun .new l (k + 1)).fl.now) (b:=(lifeRun .new l (k + 1)).fl.disk) (by simp only [go_sem,hA9.ca])) ?_
         simp (maxSteps:=999999) (disch:=omega) only [go_sem]
         have hin:=owned_inSt inv1 own1
         rw [hrec'] at hin
         refine ownCheck_nil (m:=(lifeRun .new l (k + 1)).fl.disk) (kk:=k) (by simp only [go_sem] <;> rfl) hin ?_
         simp (maxSteps:=999999) (disch:=omega) only [go_sem]
         refine ih _ h4 hlt ?_ hN4
         rw [hrec']
         simp only [go_sem,ownSt]
        ·skip
         simp (maxSteps:=999999) (disch:=omega) only [go_sem,c0,c1]
         obtain ⟨f9,c9,hA9,_,_⟩:=id hN4
         simp (maxSteps:=999999) (disch:=omega) only [go_sem,hA9.li,hA9.fi,hA9.ca]
         refine W_callp rfl ⟨rfl,rfl⟩ (by simp only [go_sem]; exact eDisk (a:=(lifeRun .new l (k + 1)).fl.now) (b:=(lifeRun .new l (k + 1)).fl.disk) (by simp only [go_sem,hA9.ca])) ?_
         simp (maxSteps:=999999) (disch:=omega) only [go_sem]
         have hin:=owned_inSt inv1 own1
         rw [hrec'] at hin
         refine ownCheck_nil (m:=(lifeRun .new l (k + 1)).fl.disk) (kk:=k) (by simp only [go_sem] <;> rfl) hin ?_
         simp (maxSteps:=999999) (disch:=omega) only [go_sem]
         refine ih _ h4 hlt ?_ hN4
         rw [hrec']
         simp only [go_sem,ownSt]
  ·rw [ownSt_ne hP]
   obtain ⟨As,hAs⟩ : ∃ As,(recRun l k).map Prod.fst = As:=⟨_,rfl⟩
   obtain ⟨Bs,hBs⟩ : ∃ Bs,(recRun l k).map Prod.snd = Bs:=⟨_,rfl⟩
   obtain ⟨N,hN0⟩ : ∃ N,(recRun l k).length = N:=⟨_,rfl⟩
   have hA0 : As.length = N:=by rw [← hAs,List.length_map]; exact hN0
   have hB0 : Bs.length = N:=by rw [← hBs,List.length_map]; exact hN0
   rw [hAs,hBs,hN0]
   rw [hN0] at hP hlen
   simp (maxSteps:=999999) (disch:=omega) only [go_sem,hlt,hn,hA.li,hA.fi,hA.ca]
   refine W_callp rfl ⟨rfl,rfl⟩ (by simp only [go_sem]; exact eFind0 (a:=(lifeRun .new l k).fl.now) (b:=(lifeRun .new l k).fl.disk) (by simp only [go_sem,hA.ca])) ?_
   simp (maxSteps:=999999) (disch:=omega) only [go_sem,hA.li,hA.fi,hA.ca]
   refine W_cut (fun s'=>∃ b,s' = ⟨[(0,.sl (.arg n) 0 l.length),(3,.ptr (.obj p) [] tLife),(4,.sl (.stk cx.lvl 88) 0 N),(5,.sl (.stk cx.lvl 93) 0 N),(6,.int .i64 k),(7,.ptr (.stk cx.lvl 7) [] tStep),(8,.int .i64 (slotOf (lifeRun .new l k).fl.now (stp l k).dir (stp l k).name)),(9,.int .i64 (stampAt (lifeRun .new l k).fl.now (stp l k).dir (stp l k).name)),(27,.bool true),(53,.bool b)],[(7,⟨tStep,(stp l k).enc⟩),(88,⟨.arr N tI,encL As⟩),(93,⟨.arr N tS,encS Bs⟩)],h3⟩ ∨ s' = ⟨[(0,.sl (.arg n) 0 l.length),(3,.ptr (.obj p) [] tLife),(4,.sl (.stk cx.lvl 88) 0 N),(5,.sl (.stk cx.lvl 93) 0 N),(6,.int .i64 k),(7,.ptr (.stk cx.lvl 7) [] tStep),(9,.int .i64 (stampAt (lifeRun .new l k).fl.now (stp l k).dir (stp l k).name)),(27,.bool true),(53,.bool b)],[(7,⟨tStep,(stp l k).enc⟩),(88,⟨.arr N tI,encL As⟩),(93,⟨.arr N tS,encS Bs⟩)],h3⟩) rfl ?_ ?_
   ·rcases slotOf_cases (lifeRun .new l k).fl.now (stp l k).dir (stp l k).name with e | ⟨s,s4,e,d0,d3,_,_⟩
    ·have es : stampAt (lifeRun .new l k).fl.now (stp l k).dir (stp l k).name = 0:=by unfold stampAt; rw [e]; rfl
     rw [es,e]
     unfold ownA
     simp (maxSteps:=999999) (disch:=omega) only [go_sem]
     exact ⟨_,.inl rfl⟩
    ·obtain ⟨dn,hdn⟩ : ∃ dn : Nat,(stp l k).dir = dn:=⟨_,(Int.toNat_of_nonneg d0).symm⟩
     have dn3 : dn < 3:=by omega
     have es : stampAt (lifeRun .new l k).fl.now (stp l k).dir (stp l k).name = ((lifeRun .new l k).fl.now.ent dn s).stamp:=by
      unfold stampAt
      rw [e,if_neg (by omega),hdn]; rfl
     rw [es,e]
     unfold ownA
     simp (maxSteps:=999999) (disch:=omega) only [go_sem,hA.li,hA.fi,hA.ca,hdn,dn3,s4]
     exact ⟨_,.inr rfl⟩
   ·rintro _ ⟨b53,h53⟩
    rcases h53 with rfl | rfl
    all_goals
      simp (maxSteps:=999999) (disch:=omega) only [go_sem]
      refine W_callN (h0:=h1) (R:=fun v=>v = .int .i64 (lifeC (lifeRun .new l k) (stp l k))) (L':=lifeRun .new l (k + 1)) (p:=p) rfl ⟨rfl,rfl⟩ (LifeN.stk hN) (by simp only [go_sem]; exact LStep_N (by exact hl) (LifeN.push hN) inv.i0 (hsz k)) ?_
      rintro _ h4 rfl hN4
      by_cases cp : lifeC (lifeRun .new l k) (stp l k) = 0 ∧ (stp l k).kind = 5 ∧ 0 < stampAt (lifeRun .new l k).fl.now (stp l k).dir (stp l k).name
      ·obtain ⟨c0,c5,cs⟩:=cp
       simp (maxSteps:=999999) (disch:=omega) only [go_sem,c0,c5,cs]
       refine W_applyGrow (q:=h4.next) (n:=N) (m:=N + 1) (l:=As.map (AV.int .i64)) (w:=encL As) (v:=encL (As ++ [stampAt (lifeRun .new l k).fl.now (stp l k).dir (stp l k).name])) (add:=[.int .i64 (stampAt (lifeRun .new l k).fl.now (stp l k).dir (stp l k).name)]) (by simp only [go_sem]) (hl _) own_look0 rfl (by rw [List.length_map]; exact hA0) (by simp only [go_sem]) rfl (by omega) (by omega) (by simp [encL]) (encL_fits _ (by simp [hA0])) (fun e he=>by simp [apOk,he,AV.offStk,AV.offObj,AV.apart,go_sem]) ?_
       simp (maxSteps:=999999) (disch:=omega) only [go_sem]
       refine W_applyGrow (q:=h4.next + 1) (n:=N) (m:=N + 1) (l:=Bs.map AV.str) (w:=encS Bs) (v:=encS (Bs ++ [(stp l k).text])) (add:=[.str (stp l k).text]) (by simp only [go_sem]) (hl _) own_look1 rfl (by rw [List.length_map]; exact hB0) (by simp only [go_sem]) rfl (by omega) (by omega) (by simp [encS]) (encS_fits _ (by simp [hB0])) (fun e he=>by simp [apOk,he,AV.offStk,AV.offObj,AV.apart,go_sem]) ?_
       have hN5 : LifeN h1 ((((h4.nw (.arr N tI) (encL As)).nw (.arr N tS) (encS Bs)).dl h4.next).dl (h4.next + 1)) p (lifeRun .new l (k + 1)):=hN4.same own_fr
       generalize (((h4.nw (.arr N tI) (encL As)).nw (.arr N tS) (encS Bs)).dl h4.next).dl (h4.next + 1) = h5 at hN5 ⊢
       simp (maxSteps:=999999) (disch:=omega) only [go_sem]
       have hrec' : recRun l (k + 1) = recRun l k ++ [(stampAt (lifeRun .new l k).fl.now (stp l k).dir (stp l k).name,(stp l k).text)]:=by rw [hrec]; unfold recS; rw [if_pos ⟨c0,c5,cs⟩]
       obtain ⟨f9,c9,hA9,_,_⟩:=id hN5
       simp (maxSteps:=999999) (disch:=omega) only [go_sem,hA9.li,hA9.fi,hA9.ca]
       refine W_callp rfl ⟨rfl,rfl⟩ (by simp only [go_sem]; exact eDisk (a:=(lifeRun .new l (k + 1)).fl.now) (b:=(lifeRun .new l (k + 1)).fl.disk) (by simp only [go_sem,hA9.ca])) ?_
       simp (maxSteps:=999999) (disch:=omega) only [go_sem]
       have hin:=owned_inSt inv1 own1
       rw [hrec',List.map_append,List.map_append,hAs,hBs] at hin
       refine ownCheck_ne (m:=(lifeRun .new l (k + 1)).fl.disk) (kk:=k) (As:=As ++ [stampAt (lifeRun .new l k).fl.now (stp l k).dir (stp l k).name]) (Bs:=Bs ++ [(stp l k).text]) (N:=N + 1) (by simp [hA0]) (by simp [hB0]) (by omega) (by simp only [go_sem] <;> rfl) hin ?_
       simp (maxSteps:=999999) (disch:=omega) only [go_sem]
       refine ih _ h5 hlt ?_ hN5
       rw [hrec',ownSt_ne (by simp),List.map_append,List.map_append,List.length_append,hAs,hBs,hN0]
       simp only [go_sem,List.map,List.length]
      ·have hrec2 : recRun l (k + 1) = if lifeC (lifeRun .new l k) (stp l k) = 0 ∧ (stp l k).kind = 1 then (recRun l k).map (forget1 (stampAt (lifeRun .new l (k + 1)).fl.now (stp l k).dir (stp l k).name)) else (recRun l k):=by rw [hrec]; unfold recS; rw [if_neg cp]; rfl
       by_cases c0 : lifeC (lifeRun .new l k) (stp l k) = 0
       ·by_cases c1 : (stp l k).kind = 1
        ·obtain ⟨f4,c4,hA4,_,_⟩:=id hN4
         have eF : (lifeRun .new l (k + 1)).fl = doF (lifeRun .new l k).fl (stp l k):=by show (lifeF _ _).fl = _; simp [lifeF,c1]
         have eC : doC (lifeRun .new l k).fl (stp l k) = 0:=by rw [← c0]; simp [lifeC,c1]
         obtain ⟨⟨n1,n2⟩,_⟩:=new_above inv (by omega) eC c1
         rw [← eF] at n1 n2
         obtain ⟨S,hS⟩ : ∃ S,stampAt (lifeRun .new l (k + 1)).fl.now (stp l k).dir (stp l k).name = S:=⟨_,rfl⟩
         have hrec' : recRun l (k + 1) = (recRun l k).map (forget1 S):=by rw [hrec2,if_pos ⟨c0,c1⟩,hS]
         rcases slotOf_cases (lifeRun .new l (k + 1)).fl.now (stp l k).dir (stp l k).name with e | ⟨s,s4,e,d0,d3,_,_⟩
         ·omega
         obtain ⟨dn,hdn⟩ : ∃ dn : Nat,(stp l k).dir = dn:=⟨_,(Int.toNat_of_nonneg d0).symm⟩
         have dn3 : dn < 3:=by omega
         have eS : ((lifeRun .new l (k + 1)).fl.now.ent dn s).stamp = S:=by
          rw [← hS]
          unfold stampAt
          rw [e,if_neg (by omega),hdn]; rfl
         simp (maxSteps:=999999) (disch:=omega) only [go_sem,c0,c1,hA4.li,hA4.fi,hA4.ca]
         refine W_callp rfl ⟨rfl,rfl⟩ (by simp only [go_sem]; exact eFind0 (a:=(lifeRun .new l (k + 1)).fl.now) (b:=(lifeRun .new l (k + 1)).fl.disk) (by simp only [go_sem,hA4.ca])) ?_
         rw [e]
         simp (maxSteps:=999999) (disch:=omega) only [go_sem,s4]
         refine W_for N (fun j=>⟨[(0,.sl (.arg n) 0 l.length),(3,.ptr (.obj p) [] tLife),(4,.sl (.stk cx.lvl 88) 0 N),(5,.sl (.stk cx.lvl 93) 0 N),(6,.int .i64 k),(7,.ptr (.stk cx.lvl 7) [] tStep),(11,.int .i64 s),(12,.int .i64 j)],[(7,⟨tStep,(stp l k).enc⟩),(88,⟨.arr N tI,encL (fgtN S As j)⟩),(93,⟨.arr N tS,encS Bs⟩)],h4⟩) (by simp only [go_sem] <;> rfl) fun j hj ih2=>?_
         by_cases hjn : j < N
         ·have hjA : j < (fgtN S As j).length:=by rw [fgtN_len]; omega
          have hnA:=encL_num _ hjA
          have hfj : fgtN S As (j + 1) = if num (fgtN S As j) j = S then (fgtN S As j).set j 0 else fgtN S As j:=rfl
          by_cases cj : num (fgtN S As j) j = S
          ·simp (maxSteps:=999999) (disch:=omega) only [go_sem,hjn,hjA,hnA,hA4.li,hA4.fi,hA4.ca,hdn,dn3,s4,eS,cj]
           refine ih2 _ hjn ?_
           rw [hfj,if_pos cj]
           simp only [go_sem]
          ·simp (maxSteps:=999999) (disch:=omega) only [go_sem,hjn,hjA,hnA,hA4.li,hA4.fi,hA4.ca,hdn,dn3,s4,eS,cj]
           refine ih2 _ hjn ?_
           rw [hfj,if_neg cj]
           simp only [go_sem]
         obtain rfl : N = j:=by omega
         simp (maxSteps:=999999) (disch:=omega) only [go_sem]
         obtain ⟨f9,c9,hA9,_,_⟩:=id hN4
         simp (maxSteps:=999999) (disch:=omega) only [go_sem,hA9.li,hA9.fi,hA9.ca]
         refine W_callp rfl ⟨rfl,rfl⟩ (by simp only [go_sem]; exact eDisk (a:=(lifeRun .new l (k + 1)).fl.now) (b:=(lifeRun .new l (k + 1)).fl.disk) (by simp only [go_sem,hA9.ca])) ?_
         simp (maxSteps:=999999) (disch:=omega) only [go_sem]
         have hin:=owned_inSt inv1 own1
         have hf : fgtN S As N = As.map (fun a=>if a = S then 0 else a):=by rw [← hA0]; exact fgtN_all S As
         rw [hrec',forget1_fst,forget1_snd,hAs,hBs,← hf] at hin
         refine ownCheck_ne (m:=(lifeRun .new l (k + 1)).fl.disk) (kk:=k) (As:=fgtN S As N) (Bs:=Bs) (N:=N) ((fgtN_len S As N).trans hA0) hB0 (by omega) (by simp only [go_sem] <;> rfl) hin ?_
         simp (maxSteps:=999999) (disch:=omega) only [go_sem]
         refine ih _ h4 hlt ?_ hN4
         rw [hrec',ownSt_ne (by rw [List.length_map,hN0]; exact hP),forget1_fst,forget1_snd,List.length_map,hAs,hBs,hN0,← hf]
         simp only [go_sem]
        ·by_cases c5 : (stp l k).kind = 5
         ·have cs : ¬0 < stampAt (lifeRun .new l k).fl.now (stp l k).dir (stp l k).name:=fun h=>cp ⟨c0,c5,h⟩
          have hrec' : recRun l (k + 1) = recRun l k:=by rw [hrec2]; exact if_neg (fun q=>c1 q.2)
          simp (maxSteps:=999999) (disch:=omega) only [go_sem,c0,c5,cs]
          obtain ⟨f9,c9,hA9,_,_⟩:=id hN4
          simp (maxSteps:=999999) (disch:=omega) only [go_sem,hA9.li,hA9.fi,hA9.ca]
          refine W_callp rfl ⟨rfl,rfl⟩ (by simp only [go_sem]; exact eDisk (a:=(lifeRun .new l (k + 1)).fl.now) (b:=(lifeRun .new l (k + 1)).fl.disk) (by simp only [go_sem,hA9.ca])) ?_
          simp (maxSteps:=999999) (disch:=omega) only [go_sem]
          have hin:=owned_inSt inv1 own1
          rw [hrec',hAs,hBs] at hin
          refine ownCheck_ne (m:=(lifeRun .new l (k + 1)).fl.disk) (kk:=k) (As:=As) (Bs:=Bs) (N:=N) hA0 hB0 (by omega) (by simp only [go_sem] <;> rfl) hin ?_
          simp (maxSteps:=999999) (disch:=omega) only [go_sem]
          refine ih _ h4 hlt ?_ hN4
          rw [hrec',ownSt_ne (by rw [hN0]; exact hP),hAs,hBs,hN0]
          simp only [go_sem]
         ·skip
          have hrec' : recRun l (k + 1) = recRun l k:=by rw [hrec2]; exact if_neg (fun q=>c1 q.2)
          simp (maxSteps:=999999) (disch:=omega) only [go_sem,c0,c1,c5]
          obtain ⟨f9,c9,hA9,_,_⟩:=id hN4
          simp (maxSteps:=999999) (disch:=omega) only [go_sem,hA9.li,hA9.fi,hA9.ca]
          refine W_callp rfl ⟨rfl,rfl⟩ (by simp only [go_sem]; exact eDisk (a:=(lifeRun .new l (k + 1)).fl.now) (b:=(lifeRun .new l (k + 1)).fl.disk) (by simp only [go_sem,hA9.ca])) ?_
          simp (maxSteps:=999999) (disch:=omega) only [go_sem]
          have hin:=owned_inSt inv1 own1
          rw [hrec',hAs,hBs] at hin
          refine ownCheck_ne (m:=(lifeRun .new l (k + 1)).fl.disk) (kk:=k) (As:=As) (Bs:=Bs) (N:=N) hA0 hB0 (by omega) (by simp only [go_sem] <;> rfl) hin ?_
          simp (maxSteps:=999999) (disch:=omega) only [go_sem]
          refine ih _ h4 hlt ?_ hN4
          rw [hrec',ownSt_ne (by rw [hN0]; exact hP),hAs,hBs,hN0]
          simp only [go_sem]
       ·by_cases c1 : (stp l k).kind = 1
        ·skip
         have hrec' : recRun l (k + 1) = recRun l k:=by rw [hrec2]; exact if_neg (fun q=>c0 q.1)
         simp (maxSteps:=999999) (disch:=omega) only [go_sem,c0,c1]
         obtain ⟨f9,c9,hA9,_,_⟩:=id hN4
         simp (maxSteps:=999999) (disch:=omega) only [go_sem,hA9.li,hA9.fi,hA9.ca]
         refine W_callp rfl ⟨rfl,rfl⟩ (by simp only [go_sem]; exact eDisk (a:=(lifeRun .new l (k + 1)).fl.now) (b:=(lifeRun .new l (k + 1)).fl.disk) (by simp only [go_sem,hA9.ca])) ?_
         simp (maxSteps:=999999) (disch:=omega) only [go_sem]
         have hin:=owned_inSt inv1 own1
         rw [hrec',hAs,hBs] at hin
         refine ownCheck_ne (m:=(lifeRun .new l (k + 1)).fl.disk) (kk:=k) (As:=As) (Bs:=Bs) (N:=N) hA0 hB0 (by omega) (by simp only [go_sem] <;> rfl) hin ?_
         simp (maxSteps:=999999) (disch:=omega) only [go_sem]
         refine ih _ h4 hlt ?_ hN4
         rw [hrec',ownSt_ne (by rw [hN0]; exact hP),hAs,hBs,hN0]
         simp only [go_sem]
        ·skip
         have hrec' : recRun l (k + 1) = recRun l k:=by rw [hrec2]; exact if_neg (fun q=>c0 q.1)
         simp (maxSteps:=999999) (disch:=omega) only [go_sem,c0,c1]
         obtain ⟨f9,c9,hA9,_,_⟩:=id hN4
         simp (maxSteps:=999999) (disch:=omega) only [go_sem,hA9.li,hA9.fi,hA9.ca]
         refine W_callp rfl ⟨rfl,rfl⟩ (by simp only [go_sem]; exact eDisk (a:=(lifeRun .new l (k + 1)).fl.now) (b:=(lifeRun .new l (k + 1)).fl.disk) (by simp only [go_sem,hA9.ca])) ?_
         simp (maxSteps:=999999) (disch:=omega) only [go_sem]
         have hin:=owned_inSt inv1 own1
         rw [hrec',hAs,hBs] at hin
         refine ownCheck_ne (m:=(lifeRun .new l (k + 1)).fl.disk) (kk:=k) (As:=As) (Bs:=Bs) (N:=N) hA0 hB0 (by omega) (by simp only [go_sem] <;> rfl) hin ?_
         simp (maxSteps:=999999) (disch:=omega) only [go_sem]
         refine ih _ h4 hlt ?_ hN4
         rw [hrec',ownSt_ne (by rw [hN0]; exact hP),hAs,hBs,hN0]
         simp only [go_sem]
 ·obtain rfl : k = l.length:=by omega
  rcases hP : recRun l l.length with _ | ⟨a,P'⟩
  ·simp only [ownSt]
   simp (maxSteps:=999999) (disch:=omega) only [go_sem,hvlen,hvfg,hvld]
  ·simp only [ownSt]
   simp (maxSteps:=999999) (disch:=omega) only [go_sem,hvlen,hvfg,hvld]
end
end Go.Mini
