/- A part of the proof: what Tx computes, step by step. -/
import Derived.Test.YtpkndgkaecamlacDoorTxPc
import Derived.Lib.ItoaNum
import Derived.Lib.Join
import Derived.ChangeSame
import Derived.Carry
import Derived.OpenShut
import Derived.ProofKit
import Derived.WalkKit
import Derived.Deep.Slices
import Derived.Deep.Fields1
import Derived.Lib.ItoaLen

set_option linter.unusedSimpArgs false
set_option linter.unusedVariables false
set_option maxHeartbeats 4000000
set_option maxRecDepth 100000
set_option linter.unusedSectionVars false
set_option linter.unnecessarySimpa false
namespace Go.Mini
@[go_sem] theorem aidxV_encVi {α : Type} {f : α → AV} {n : Nat} {t : Ty} {v : Vector α n} {k : IntKind} {z : Int} (h0 : 0 ≤ z) (hm : z.toNat < n) : aidxV n t (encV f v) (.int k z) = if (Ty.arr n t).fits (encV f v) = true then some (f (v[z.toNat]'hm)) else none:=by
 simp only [encV,aidxV,toIx]
 rw [dif_pos ⟨h0,by omega⟩]
 rfl
def encL (l : List Int) : AV:=.ofList (l.map (AV.int .i64))
theorem encL_toList (l : List Int) : (encL l).toList = some (l.map (AV.int .i64)):=by
 simp only [encL,AV.ofList,AV.toList]
 congr 1
 exact List.ext_getElem (by simp) (by simp)
theorem encL_fits (l : List Int) {n : Nat} (h : n = l.length) : (Ty.arr n tI).fits (encL l) = true:=by
 subst h
 simp [encL,AV.ofList,Ty.fits,tI,LK.fits,AV.safe]
section
variable {T : Nat → Option MFun} {cx : Cx} {k : List Item} {kill : List Nat} {r : List MOp} {sl : Slots} {own : Own} {h : HP} {Q : St → Prop}
def sidxB (t : Ty) (j : Id) (o : Nat) (b : Option Blk) : Option AV:=match b with
 | some ⟨.arr _ t',_⟩=>if t = t' then some (.ptr j [o] t) else none
 | _=>none
@[go_sem] theorem sidxB_some (t : Ty) (j : Id) (o n : Nat) (v : AV) : sidxB t j o (some ⟨.arr n t,v⟩) = some (.ptr j [o] t):=by simp [sidxB]
def sidxV (t : Ty) (x i : AV) (L : Id → Option Blk) : Option AV:=match x,toIx i with
 | .sl j off len,some z=>if 0 ≤ z ∧ z < (len : Int) then sidxB t j (off + z.toNat) (L j) else none
 | _,_=>none
@[go_sem] theorem sidxV_nat {t : Ty} {j : Id} {off len m : Nat} {kk : IntKind} {L : Id → Option Blk} (hm : m < len) : sidxV t (.sl j off len) (.int kk (m : Int)) L = sidxB t j (off + m) (L j):=by
 simp only [sidxV,toIx]; rw [if_pos ⟨by omega,by omega⟩]; rfl
@[go_sem] theorem W_sidx {d : Option Nat} {t : Ty} {x i : Opd} {s : St} : W T cx (.ops (⟨d,.sidx false t x i,none⟩ :: r) kill :: k) s Q = W1 T cx (sidxV t (s.opd x) (s.opd i) (s.look cx)) d r kill k s Q :=
 W_val rfl (by
  simp only [evK,sidxV]
  cases s.opd x <;> try rfl
  cases toIx (s.opd i) <;> try rfl
  rename_i j off len z
  simp only [Bool.false_eq_true,false_implies,and_true]
  by_cases hz : 0 ≤ z ∧ z < (len : Int)
  ·rw [if_pos hz,if_pos hz]
   cases s.look cx j with
   | none=>rfl
   | some b =>
    obtain ⟨bt,bv⟩:=b
    cases bt <;> try rfl
    simp only [sidxB]
    split <;> rfl
  ·rw [if_neg hz,if_neg hz]; rfl)
@[go_sem] theorem look_own {d : Nat} : St.look cx ⟨sl,own,h⟩ (.stk cx.lvl d) = own.get d:=by simp [St.look,Id.own]
@[go_sem] theorem fg_slown (l s t o n : Nat) : fg (.sl (.stk l s) o n) (.stk l t) = if t = s then .bot else .sl (.stk l s) o n:=by
 simp only [fg,AV.leads,AV.isAgg,AV.names,Bool.not_false,Bool.true_and,beq_iff_eq,Id.stk.injEq,true_and]
theorem fg_sl {i : Id} {l t : Nat} (hb : i.below l) (o n : Nat) : fg (.sl i o n) (.stk l t) = .sl i o n:=by
 have : (Id.stk l t == i) = false:=by simpa using fun e : Id.stk l t = i=>hb.ne e.symm
 simp [fg,AV.leads,AV.isAgg,AV.names,this]
def WB (T : Nat → Option MFun) (cx : Cx) (v : AV) (d : Nat) (r : List MOp) (kill : List Nat) (k : List Item) (sl : Slots) (own : Own) (h : HP) (Q : St → Prop) : Prop :=
 onO (fill (.arr 1 tI) (Ty.arr 1 tI).zero [(0,v)]) fun w=>W T cx (.ops r kill :: k) ⟨(Slots.forget sl (.stk cx.lvl d)).set d (.sl (.stk cx.lvl d) 0 1),own.set d ⟨.arr 1 tI,w⟩,h⟩ Q
theorem fill1 (n : Int) : fill (.arr 1 tI) (Ty.arr 1 tI).zero [(0,.int .i64 n)] = some (encL [n]):=by
 simp only [fill,Ty.part,Nat.lt_one_iff,if_true,fits_tI,Ty.zero,AV.put,Nat.zero_lt_one,dite_true,put_nil,Option.map_some,encL,AV.ofList]
 congr 2
 funext j
 match j with
 | ⟨0,_⟩=>rfl
@[go_sem] theorem WB_int {n : Int} {d : Nat} : WB T cx (.int .i64 n) d r kill k sl own h Q = W T cx (.ops r kill :: k) ⟨(Slots.forget sl (.stk cx.lvl d)).set d (.sl (.stk cx.lvl d) 0 1),own.set d ⟨.arr 1 tI,encL [n]⟩,h⟩ Q:=by
 simp only [WB,fill1,onO]
@[go_sem] theorem W_bslice1 {d : Nat} {x : Opd} : W T cx (.ops (⟨some d,.bslice false tI 1 [(0,x)],none⟩ :: r) kill :: k) ⟨sl,own,h⟩ Q = WB T cx (St.opd ⟨sl,own,h⟩ x) d r kill k sl own h Q:=by
 rw [W_op rfl,evOp]
 simp only [evK,WB,List.map_cons,List.map_nil]
 cases fill (.arr 1 tI) (Ty.arr 1 tI).zero [(0,St.opd ⟨sl,own,h⟩ x)] <;> rfl
def WA (T : Nat → Option MFun) (cx : Cx) (x : AV) (add : Option (List AV)) (d : Nat) (r : List MOp) (kill : List Nat) (k : List Item) (sl : Slots) (own : Own) (h : HP) (Q : St → Prop) : Prop :=
 onO add fun add=>onO (evAppend (St.look cx ⟨sl,own,h⟩) tI x add) fun e=>onO (applyEff cx (some d) false ⟨sl,own,h⟩ e) fun p=>W T cx (.ops r kill :: k) (p.2.setd (some d) p.1) Q
@[go_sem] theorem W_append {d : Nat} {x y : Opd} : W T cx (.ops (⟨some d,.append false [] tI x y,none⟩ :: r) kill :: k) ⟨sl,own,h⟩ Q = WA T cx (St.opd ⟨sl,own,h⟩ x) (elems (St.look cx ⟨sl,own,h⟩) tI (St.opd ⟨sl,own,h⟩ y)) d r kill k sl own h Q:=by
 rw [W_op rfl,evOp]
 simp only [evK,WA]
 cases elems (St.look cx ⟨sl,own,h⟩) tI (St.opd ⟨sl,own,h⟩ y) with
 | none=>rfl
 | some add =>
  simp only [onO_some]
  cases evAppend (St.look cx ⟨sl,own,h⟩) tI (St.opd ⟨sl,own,h⟩ x) add <;> rfl
def elemsB (b : Option Blk) (len : Nat) : Option (List AV):=match b with
 | some ⟨.arr _ t',v⟩=>match v.toList with
   | some l=>if tI = t' ∧ len ≤ l.length then some (l.take len) else none
   | none=>none
 | _=>none
@[go_sem] theorem elems_sl (L : Id → Option Blk) (j : Id) (len : Nat) : elems L tI (.sl j 0 len) = elemsB (L j) len:=by
 simp only [elems,elemsB,Nat.zero_add,List.drop_zero]
 cases L j with
 | none=>rfl
 | some b=>obtain ⟨bt,bv⟩:=b; cases bt <;> rfl
@[go_sem] theorem elemsB_one (n : Int) : elemsB (some ⟨.arr 1 tI,encL [n]⟩) 1 = some [.int .i64 n]:=by
 simp [elemsB,encL_toList]
@[go_sem] theorem WA_nil {n : Int} {d : Nat} : WA T cx .nilsl (some [.int .i64 n]) d r kill k sl own h Q =
  W T cx (.ops r kill :: k) ⟨(Slots.forget sl (.stk cx.lvl d)).set d (.sl (.stk cx.lvl d) 0 1),own.set d ⟨.arr 1 tI,encL [n]⟩,h⟩ Q:=by
 have hf:=encL_fits [n] (n:=1) rfl
 simp only [WA,onO_some,evAppend,List.length_cons,List.length_nil,Nat.zero_add]
 rw [if_neg (by omega),if_pos ⟨hf,by omega⟩]
 rfl
@[go_sem] theorem rid_nil (t : Nat) : Own.rid [] t = []:=rfl
@[go_sem] theorem rid_cons (t u : Nat) (v : Blk) (s : Own) : Own.rid ((t,v) :: s) u = if t = u then Own.rid s u else (t,v) :: Own.rid s u:=rfl
end
def stampsN (m : Img) : Nat → List Int
 | 0=>[]
 | n + 1=>if (m.ino n).live = true then stampsN m n ++ [(m.ino n).stamp] else stampsN m n
def seenN (m : Img) : Nat → List Int
 | 0=>[]
 | n + 1=>if (m.ino n).live = true then seenN m n ++ [(m.ino n).prt 0] ++ [(m.ino n).prt 1] else seenN m n
def badAt (m : Img) (n : Nat) : Bool :=
 (m.ino n).live && ((stampsN m n).contains (m.ino n).stamp || (decide (0 ≤ (m.ino n).prt 0) && (seenN m n).contains ((m.ino n).prt 0)) || (decide (0 ≤ (m.ino n).prt 1) && (seenN m n ++ [(m.ino n).prt 0]).contains ((m.ino n).prt 1)))
def twice (m : Img) : Bool:=anyN 8 (badAt m)
def Img.small (m : Img) : Prop:=∀ d s,(m.ent d s).name.size ≤ 100000
def entryFault (m : Img) (d s : Nat) : Int :=
 let e:=m.ent d s
 if e.name = ⟨#[]⟩ then (if e = Ent.zero then 0 else 12)
 else if isName e.name = false then 2
 else if anyN s (fun k=>decide ((m.ent d k).name = e.name)) = true then 4
 else if e.ino < 0 ∨ 8 ≤ e.ino then 1
 else if (m.ino e.ino.toNat).live = true ∧ (m.ino e.ino.toNat).stamp = e.stamp then 0 else 8
def partFault (m : Img) (i : Ino) (p : Nat) : Int :=
 if i.prt p < -1 ∨ 9 ≤ i.prt p then 1 else if 0 ≤ i.prt p ∧ ¬(m.dat (i.prt p).toNat).of = i.stamp then 10 else 0
def inoFault (m : Img) (n : Nat) : Int :=
 let i:=m.ino n
 if i.live = false then (if i = Ino.none then 0 else 12)
 else if i.stamp < 1 ∨ i.links < refs m n then 9
 else firstI 2 (partFault m i)
def dirFault (m : Img) (d : Nat) : Int:=firstI 4 (entryFault m d)
def check (m : Img) : Int :=
 if firstI 3 (dirFault m) ≠ 0 then firstI 3 (dirFault m)
 else if firstI 8 (inoFault m) ≠ 0 then firstI 8 (inoFault m)
 else if twice m = true then 11 else 0
section
variable {cx : Cx} {h : HP} {p p' : Id} {q q' : List Nat} {m m' : Img}
theorem check_1 {d s : Nat} (h0 : ∀ i,i < d → dirFault m i = 0) (hd : d < 3) (h1 : ∀ i,i < s → entryFault m d i = 0) (hs : s < 4) (h2 : entryFault m d s ≠ 0) : check m = entryFault m d s:=by
 have e1 : dirFault m d = entryFault m d s:=firstI_at h1 h2 hs
 have e2 : firstI 3 (dirFault m) = dirFault m d:=firstI_at h0 (by rw [e1]; exact h2) hd
 rw [check,if_pos (by rw [e2,e1]; exact h2),e2,e1]
theorem check_2 {n : Nat} (h0 : ∀ i,i < 3 → dirFault m i = 0) (h1 : ∀ i,i < n → inoFault m i = 0) (hn : n < 8) (h2 : inoFault m n ≠ 0) : check m = inoFault m n:=by
 have e1 : firstI 8 (inoFault m) = inoFault m n:=firstI_at h1 h2 hn
 rw [check,if_neg (by rw [firstI_zero.2 h0]; simp),if_pos (by rw [e1]; exact h2),e1]
theorem check_3 (h0 : ∀ i,i < 3 → dirFault m i = 0) (h1 : ∀ i,i < 8 → inoFault m i = 0) : check m = if twice m = true then 11 else 0:=by
 rw [check,if_neg (by rw [firstI_zero.2 h0]; simp),if_neg (by rw [firstI_zero.2 h1]; simp)]
def exact (m : Img) : Bool:=!anyN 8 (fun n=>(m.ino n).live && (decide (refs m n = 0) || !decide ((m.ino n).links = refs m n))) && decide (check m = 0)
end
def partBad (m : Img) (n k p q : Nat) : Bool:=(!decide (n = k) || !decide (p = q)) && decide (0 ≤ (m.ino n).prt p) && decide ((m.ino n).prt p = (m.ino k).prt q)
def pairBad (m : Img) (n k : Nat) : Bool :=
 (m.ino n).live && (m.ino k).live && ((!decide (n = k) && decide ((m.ino n).stamp = (m.ino k).stamp)) || anyN 2 fun p=>anyN 2 fun q=>partBad m n k p q)
def twiceR (m : Img) : Bool:=anyN 8 fun n=>anyN 8 fun k=>pairBad m n k
theorem mem_stampsN {m : Img} {x : Int} : ∀ {n},x ∈ stampsN m n ↔ ∃ k,k < n ∧ (m.ino k).live = true ∧ (m.ino k).stamp = x
 | 0=>by simp [stampsN]
 | n + 1=>by
  rw [stampsN]
  split
  ·rename_i hl
   rw [List.mem_append,mem_stampsN,List.mem_singleton]
   constructor
   ·rintro (⟨k,h1,h2⟩ | h)
    ·exact ⟨k,by omega,h2⟩
    ·exact ⟨n,by omega,hl,h.symm⟩
   ·rintro ⟨k,h1,h2,h3⟩
    by_cases e : k = n
    ·subst e; exact .inr h3.symm
    ·exact .inl ⟨k,by omega,h2,h3⟩
  ·rename_i hl
   rw [mem_stampsN]
   constructor
   ·rintro ⟨k,h1,h2⟩; exact ⟨k,by omega,h2⟩
   ·rintro ⟨k,h1,h2,h3⟩
    by_cases e : k = n
    ·subst e; exact absurd h2 hl
    ·exact ⟨k,by omega,h2,h3⟩
theorem mem_seenN {m : Img} {x : Int} : ∀ {n},x ∈ seenN m n ↔ ∃ k,k < n ∧ (m.ino k).live = true ∧ ((m.ino k).prt 0 = x ∨ (m.ino k).prt 1 = x)
 | 0=>by simp [seenN]
 | n + 1=>by
  rw [seenN]
  split
  ·rename_i hl
   rw [List.mem_append,List.mem_append,mem_seenN,List.mem_singleton,List.mem_singleton]
   constructor
   ·rintro ((⟨k,h1,h2⟩ | h) | h)
    ·exact ⟨k,by omega,h2⟩
    ·exact ⟨n,by omega,hl,.inl h.symm⟩
    ·exact ⟨n,by omega,hl,.inr h.symm⟩
   ·rintro ⟨k,h1,h2,h3⟩
    by_cases e : k = n
    ·subst e
     rcases h3 with h3 | h3
     ·exact .inl (.inr h3.symm)
     ·exact .inr h3.symm
    ·exact .inl (.inl ⟨k,by omega,h2,h3⟩)
  ·rename_i hl
   rw [mem_seenN]
   constructor
   ·rintro ⟨k,h1,h2⟩; exact ⟨k,by omega,h2⟩
   ·rintro ⟨k,h1,h2,h3⟩
    by_cases e : k = n
    ·subst e; exact absurd h2 hl
    ·exact ⟨k,by omega,h2,h3⟩
theorem badAt_iff {m : Img} {n : Nat} : badAt m n = true ↔ (m.ino n).live = true ∧ ((∃ k,k < n ∧ (m.ino k).live = true ∧ (m.ino k).stamp = (m.ino n).stamp) ∨
  (∃ p,p < 2 ∧ 0 ≤ (m.ino n).prt p ∧ ∃ k,k < n ∧ (m.ino k).live = true ∧ ((m.ino k).prt 0 = (m.ino n).prt p ∨ (m.ino k).prt 1 = (m.ino n).prt p)) ∨ (0 ≤ (m.ino n).prt 1 ∧ (m.ino n).prt 1 = (m.ino n).prt 0)):=by
 simp only [badAt,Bool.and_eq_true,Bool.or_eq_true,List.contains_iff_mem,decide_eq_true_eq,List.mem_append,List.mem_singleton,mem_stampsN,mem_seenN]
 constructor
 ·rintro ⟨hl,((h | ⟨h0,h⟩) | ⟨h1,h | h⟩)⟩
  ·exact ⟨hl,.inl h⟩
  ·exact ⟨hl,.inr (.inl ⟨0,by omega,h0,h⟩)⟩
  ·exact ⟨hl,.inr (.inl ⟨1,by omega,h1,h⟩)⟩
  ·exact ⟨hl,.inr (.inr ⟨h1,h⟩)⟩
 ·rintro ⟨hl,(h | ⟨p,hp,h0,h⟩ | ⟨h1,h⟩)⟩
  ·exact ⟨hl,.inl (.inl h)⟩
  ·obtain rfl | rfl : p = 0 ∨ p = 1:=by omega
   ·exact ⟨hl,.inl (.inr ⟨h0,h⟩)⟩
   ·exact ⟨hl,.inr ⟨h0,.inl h⟩⟩
  ·exact ⟨hl,.inr ⟨h1,.inr h⟩⟩
theorem pairBad_iff {m : Img} {n k : Nat} : pairBad m n k = true ↔ (m.ino n).live = true ∧ (m.ino k).live = true ∧ ((n ≠ k ∧ (m.ino n).stamp = (m.ino k).stamp) ∨ ∃ p q,p < 2 ∧ q < 2 ∧ (n ≠ k ∨ p ≠ q) ∧ 0 ≤ (m.ino n).prt p ∧ (m.ino n).prt p = (m.ino k).prt q):=by
 simp only [pairBad,partBad,Bool.and_eq_true,Bool.or_eq_true,anyN_iff,decide_eq_true_eq,Bool.not_eq_true',decide_eq_false_iff_not]
 constructor
 ·rintro ⟨⟨h1,h2⟩,(h | ⟨p,hp,q,hq,⟨h3,h4⟩,h5⟩)⟩
  ·exact ⟨h1,h2,.inl h⟩
  ·exact ⟨h1,h2,.inr ⟨p,q,hp,hq,h3,h4,h5⟩⟩
 ·rintro ⟨h1,h2,(h | ⟨p,q,hp,hq,h3,h4,h5⟩)⟩
  ·exact ⟨⟨h1,h2⟩,.inl h⟩
  ·exact ⟨⟨h1,h2⟩,.inr ⟨p,hp,q,hq,⟨h3,h4⟩,h5⟩⟩
theorem prt_or {i : Ino} {q : Nat} {x : Int} (hq : q < 2) (h : i.prt q = x) : i.prt 0 = x ∨ i.prt 1 = x:=by
 obtain rfl | rfl : q = 0 ∨ q = 1:=by omega
 ·exact .inl h
 ·exact .inr h
theorem twiceR_eq (m : Img) : twiceR m = twice m:=by
 rw [Bool.eq_iff_iff]
 simp only [twiceR,twice,anyN_iff,pairBad_iff,badAt_iff]
 constructor
 ·rintro ⟨n,hn,k,hk,h1,h2,(⟨h3,h4⟩ | ⟨p,q,hp,hq,h3,h4,h5⟩)⟩
  ·rcases Nat.lt_or_gt_of_ne h3 with h | h
   ·exact ⟨k,hk,h2,.inl ⟨n,h,h1,h4⟩⟩
   ·exact ⟨n,hn,h1,.inl ⟨k,h,h2,h4.symm⟩⟩
  ·by_cases e : n = k
   ·subst e
    refine ⟨n,hn,h1,.inr (.inr ?_)⟩
    have hpq : p ≠ q:=h3.resolve_left (fun h=>h rfl)
    obtain ⟨rfl,rfl⟩ | ⟨rfl,rfl⟩ : (p = 0 ∧ q = 1) ∨ (p = 1 ∧ q = 0):=by omega
    ·exact ⟨by rw [← h5]; exact h4,h5.symm⟩
    ·exact ⟨h4,h5⟩
   ·rcases Nat.lt_or_gt_of_ne e with h | h
    ·exact ⟨k,hk,h2,.inr (.inl ⟨q,hq,by rw [← h5]; exact h4,n,h,h1,prt_or hp h5⟩)⟩
    ·exact ⟨n,hn,h1,.inr (.inl ⟨p,hp,h4,k,h,h2,prt_or hq h5.symm⟩)⟩
 ·rintro ⟨n,hn,h1,(⟨k,hk,h2,h3⟩ | ⟨p,hp,h2,k,hk,h3,h4⟩ | ⟨h2,h3⟩)⟩
  ·exact ⟨n,hn,k,by omega,h1,h2,.inl ⟨by omega,h3.symm⟩⟩
  ·rcases h4 with h4 | h4
   ·exact ⟨n,hn,k,by omega,h1,h3,.inr ⟨p,0,hp,by omega,.inl (by omega),h2,h4.symm⟩⟩
   ·exact ⟨n,hn,k,by omega,h1,h3,.inr ⟨p,1,hp,by omega,.inl (by omega),h2,h4.symm⟩⟩
  ·exact ⟨n,hn,n,hn,h1,h1,.inr ⟨1,0,by omega,by omega,.inr (by omega),h2,h3⟩⟩
theorem twice_at {m : Img} {n k : Nat} (hn : n < 8) (hk : k < 8) (h : pairBad m n k = true) : twice m = true:=by
 rw [← twiceR_eq]; exact anyN_at hn (anyN_at hk h)
theorem slot_lt {m : Img} {d s : Nat} (hd : d < 3) (hs : s < 4) (hn : ¬(m.ent d s).name = ⟨#[]⟩) : (slotOf m d (m.ent d s).name < s) ↔ anyN s (fun k=>decide ((m.ent d k).name = (m.ent d s).name)) = true:=by
 have e : slotOf m d (m.ent d s).name = findN 4 fun k=>decide ((m.ent d k).name = (m.ent d s).name):=by
  simp only [slotOf,Int.toNat_natCast]
  rw [if_neg (by simp only [not_or]; exact ⟨by omega,by omega,hn⟩)]
 rw [e]
 constructor
 ·intro h
  obtain e | ⟨j,hj,e,h1,h2⟩:=findN_lt (n:=4) (f:=fun k=>decide ((m.ent d k).name = (m.ent d s).name))
  ·have:=findN_neg e s hs; simp at this
  ·rw [e] at h; exact anyN_at (j:=j) (by omega) h1
 ·intro h
  obtain ⟨j,hj,h1⟩:=anyN_iff.1 h
  obtain e | ⟨i,hi,e,h2,h3⟩:=findN_lt (n:=4) (f:=fun k=>decide ((m.ent d k).name = (m.ent d s).name))
  ·have:=findN_neg e j (by omega); rw [h1] at this; exact absurd this (by simp)
  ·rw [e]
   rcases Nat.lt_or_ge j i with hji | hji
   ·have:=h3 j hji; rw [h1] at this; exact absurd this (by simp)
   ·omega
theorem slot_ge {m : Img} {d s : Nat} (hd : d < 3) (hs : s < 4) (hn : ¬(m.ent d s).name = ⟨#[]⟩) (h : anyN s (fun k=>decide ((m.ent d k).name = (m.ent d s).name)) = false) : ¬slotOf m d (m.ent d s).name < s:=by
 rw [slot_lt hd hs hn,h]; simp
section
variable {cx : Cx} {h : HP} {p p' : Id} {q q' : List Nat} {m m' : Img}
theorem ImageFault_ok (hg : m.small) (hb : p.below cx.lvl) (hm : h.rd p q = some m.enc) :
  Ok tbl cx Fn.r_ImageFault (St.enter [.ptr p q tImage] h) fun v h'=>v = .int .i64 (check m) ∧ h' = h:=by
 rw [Ok_eq]
 simp (maxSteps:=999999) (disch:=omega) only [go_sem]
 refine W_forP 3 (fun d=>⟨[(0,.ptr p q tImage),(3,.int .i64 d)],[],h⟩) (fun d=>∀ i,i < d → dirFault m i = 0) (by simp only [go_sem] <;> rfl) (fun i hi=>by omega) fun d hd hp ih=>?_
 by_cases hlt : d < 3
 ·simp (maxSteps:=999999) (disch:=omega) only [go_sem]
  refine W_forP 4 (fun s=>⟨[(0,.ptr p q tImage),(3,.int .i64 d),(4,.int .i64 s)],[],h⟩) (fun s=>∀ i,i < s → entryFault m d i = 0) (by simp only [go_sem] <;> rfl) (fun i hi=>by omega) fun s hs hp' ih'=>?_
  by_cases hlt' : s < 4
  ·have bad : ∀ {c : Int},entryFault m d s = c → c ≠ 0 → check m = c:=fun h1 h2=>by
    rw [check_1 hp hlt hp' hlt' (by rw [h1]; exact h2),h1]
   simp (maxSteps:=999999) (disch:=omega) only [go_sem,hlt,hlt',rd_ext hb,HP.rd_app hm,fg_ptr hb,leads_ptr hb,apart_ptr hb]
   by_cases h1 : (m.ent d s).name = ⟨#[]⟩
   ·by_cases h2 : (m.ent d s).ino = 0
    ·by_cases h3 : (m.ent d s).stamp = 0
     ·simp (maxSteps:=999999) (disch:=omega) only [go_sem,h1,h2,h3]
      refine ih' _ hlt' (step_all hp' ?_) ?_
      ·have : m.ent d s = Ent.zero:=by
        cases e : m.ent d s with | mk a b c =>
        rw [e] at h1 h2 h3
        simp only at h1 h2 h3
        subst h1; subst h2; subst h3; rfl
       simp [entryFault,this,show Ent.zero.name = ⟨#[]⟩ from rfl]
      ·simp only [go_sem]
     ·simp (maxSteps:=999999) (disch:=omega) only [go_sem,h1,h2,h3]
      rw [bad (c:=12) (by
       have : ¬m.ent d s = Ent.zero:=fun e=>h3 (by rw [e]; rfl)
       simp [entryFault,h1,this]) (by decide)]
    ·simp (maxSteps:=999999) (disch:=omega) only [go_sem,h1,h2]
     rw [bad (c:=12) (by
      have : ¬m.ent d s = Ent.zero:=fun e=>h2 (by rw [e]; rfl)
      simp [entryFault,h1,this]) (by decide)]
   simp (maxSteps:=999999) (disch:=omega) only [go_sem,h1]
   refine W_callp rfl ⟨rfl,rfl⟩ (by simp only [go_sem]; exact IsName_ok (hg d s)) ?_
   simp (maxSteps:=999999) (disch:=omega) only [go_sem,rd_ext hb,HP.rd_app hm,fg_ptr hb,leads_ptr hb,apart_ptr hb]
   cases h2 : isName (m.ent d s).name with
   | false=>simp (maxSteps:=999999) (disch:=omega) only [go_sem,h2]; rw [bad (c:=2) (by simp [entryFault,h1,h2]) (by decide)]
   | true =>
    simp (maxSteps:=999999) (disch:=omega) only [go_sem,h2]
    refine W_callp rfl ⟨rfl,rfl⟩ (by simp only [go_sem]; exact SlotOf_ok (m:=m) hb.succ (by simp only [HP.push_rd_ext hb,hm])) ?_
    simp (maxSteps:=999999) (disch:=omega) only [go_sem]
    cases h3 : anyN s (fun k=>decide ((m.ent d k).name = (m.ent d s).name)) with
    | true =>
     have:=(slot_lt hlt hlt' h1).2 h3
     simp (maxSteps:=999999) (disch:=omega) only [go_sem,this]; rw [bad (c:=4) (by simp [entryFault,h1,h2,h3]) (by decide)]
    | false =>
     have:=slot_ge hlt hlt' h1 h3
     simp (maxSteps:=999999) (disch:=omega) only [go_sem,this]
     by_cases h4 : (m.ent d s).ino < 0
     ·simp (maxSteps:=999999) (disch:=omega) only [go_sem,h4]; rw [bad (c:=1) (by simp [entryFault,h1,h2,h3,h4]) (by decide)]
     by_cases h5 : 8 ≤ (m.ent d s).ino
     ·simp (maxSteps:=999999) (disch:=omega) only [go_sem,h4,h5]; rw [bad (c:=1) (by simp [entryFault,h1,h2,h3,h5]) (by decide)]
     simp (maxSteps:=999999) (disch:=omega) only [go_sem,h4,h5,rd_ext hb,HP.rd_app hm,fg_ptr hb,leads_ptr hb,apart_ptr hb]
     have h45 : ¬((m.ent d s).ino < 0 ∨ 8 ≤ (m.ent d s).ino):=by omega
     cases h6 : (m.ino (m.ent d s).ino.toNat).live with
     | false=>simp (maxSteps:=999999) (disch:=omega) only [go_sem,h6]; rw [bad (c:=8) (by simp [entryFault,h1,h2,h3,h45,h6]) (by decide)]
     | true =>
      by_cases h7 : (m.ino (m.ent d s).ino.toNat).stamp = (m.ent d s).stamp
      ·simp (maxSteps:=999999) (disch:=omega) only [go_sem,h6,h7,rd_ext hb,HP.rd_app hm,fg_ptr hb,leads_ptr hb,apart_ptr hb]
       refine ih' _ hlt' (step_all hp' (by simp [entryFault,h1,h2,h3,h45,h6,h7])) ?_
       simp only [go_sem]
      ·simp (maxSteps:=999999) (disch:=omega) only [go_sem,h6,h7,rd_ext hb,HP.rd_app hm,fg_ptr hb,leads_ptr hb,apart_ptr hb]; rw [bad (c:=8) (by simp [entryFault,h1,h2,h3,h45,h6,h7]) (by decide)]
  ·obtain rfl : s = 4:=by omega
   simp (maxSteps:=999999) (disch:=omega) only [go_sem]
   refine ih _ hlt (step_all hp (firstI_zero.2 hp')) ?_
   simp only [go_sem]
 ·obtain rfl : d = 3:=by omega
  simp (maxSteps:=999999) (disch:=omega) only [go_sem]
  refine W_forP 8 (fun n=>⟨[(0,.ptr p q tImage),(6,.int .i64 n)],[],h⟩) (fun n=>∀ i,i < n → inoFault m i = 0) (by simp only [go_sem] <;> rfl) (fun i hi=>by omega) fun n hn hp' ih'=>?_
  by_cases hlt' : n < 8
  ·have bad : ∀ {c : Int},inoFault m n = c → c ≠ 0 → check m = c:=fun h1 h2=>by
    rw [check_2 hp hp' hlt' (by rw [h1]; exact h2),h1]
   simp (maxSteps:=999999) (disch:=omega) only [go_sem,hlt',rd_ext hb,HP.rd_app hm,fg_ptr hb,leads_ptr hb,apart_ptr hb]
   cases h1 : (m.ino n).live with
   | false =>
    simp (maxSteps:=999999) (disch:=omega) only [go_sem,h1,rd_ext hb,HP.rd_app hm,fg_ptr hb,leads_ptr hb,apart_ptr hb]
    refine W_callp rfl ⟨rfl,rfl⟩ (by simp only [go_sem]; exact None_ok) ?_
    by_cases h2 : m.ino n = Ino.none
    ·simp (maxSteps:=999999) (disch:=omega) only [go_sem,h2]
     refine ih' _ hlt' (step_all hp' (by simp [inoFault,h2,show Ino.none.live = false from rfl])) ?_
     simp only [go_sem]
    ·simp (maxSteps:=999999) (disch:=omega) only [go_sem,h2]; rw [bad (c:=12) (by simp [inoFault,h1,h2]) (by decide)]
   | true =>
    simp (maxSteps:=999999) (disch:=omega) only [go_sem,h1,rd_ext hb,HP.rd_app hm,fg_ptr hb,leads_ptr hb,apart_ptr hb]
    by_cases h2 : (m.ino n).stamp < 1
    ·simp (maxSteps:=999999) (disch:=omega) only [go_sem,h2]; rw [bad (c:=9) (by simp [inoFault,h1,h2]) (by decide)]
    simp (maxSteps:=999999) (disch:=omega) only [go_sem,h2]
    refine W_callp rfl ⟨rfl,rfl⟩ (by simp only [go_sem]; exact Leads_ok (m:=m) hb.succ (by simp only [HP.push_rd_ext hb,hm])) ?_
    simp (maxSteps:=999999) (disch:=omega) only [go_sem,h2]
    by_cases h3 : (m.ino n).links < refs m n
    ·simp (maxSteps:=999999) (disch:=omega) only [go_sem,h2,h3]; rw [bad (c:=9) (by simp [inoFault,h1,h3]) (by decide)]
    have h23 : ¬((m.ino n).stamp < 1 ∨ (m.ino n).links < refs m n):=by simp only [not_or]; exact ⟨h2,h3⟩
    have e : inoFault m n = firstI 2 (partFault m (m.ino n)):=by simp only [inoFault,h1,Bool.true_eq_false,if_false,h23]
    simp (maxSteps:=999999) (disch:=omega) only [go_sem,h3]
    refine W_forP 2 (fun j=>⟨[(0,.ptr p q tImage),(6,.int .i64 n),(7,.ptr (.stk cx.lvl 7) [] tInode),(8,.int .i64 j)],[(7,⟨tInode,(m.ino n).enc⟩)],h⟩) (fun j=>∀ i,i < j → partFault m (m.ino n) i = 0) (by simp only [go_sem] <;> rfl) (fun i hi=>by omega) fun j hj hp2 ih2=>?_
    by_cases hlt2 : j < 2
    ·simp (maxSteps:=999999) (disch:=omega) only [go_sem,hlt2,rd_ext hb,HP.rd_app hm,fg_ptr hb,leads_ptr hb,apart_ptr hb]
     by_cases h0 : (m.ino n).prt j = -1
     ·simp (maxSteps:=999999) (disch:=omega) only [go_sem,h0]
      refine ih2 _ hlt2 (step_all hp2 (by simp [partFault,h0])) ?_
      simp only [go_sem]
     by_cases h4 : (m.ino n).prt j < 0
     ·simp (maxSteps:=999999) (disch:=omega) only [go_sem,h0,h4]
      have : partFault m (m.ino n) j = 1:=by simp only [partFault]; rw [if_pos (by omega)]
      rw [bad (by rw [e,firstI_at hp2 (by rw [this]; decide) hlt2,this]) (by decide)]
     by_cases h5 : 9 ≤ (m.ino n).prt j
     ·simp (maxSteps:=999999) (disch:=omega) only [go_sem,h0,h4,h5]
      have : partFault m (m.ino n) j = 1:=by simp [partFault,h5]
      rw [bad (by rw [e,firstI_at hp2 (by rw [this]; decide) hlt2,this]) (by decide)]
     have h45 : ¬((m.ino n).prt j < -1 ∨ 9 ≤ (m.ino n).prt j):=by omega
     have h6 : 0 ≤ (m.ino n).prt j:=by omega
     by_cases h7 : (m.dat ((m.ino n).prt j).toNat).of = (m.ino n).stamp
     ·simp (maxSteps:=999999) (disch:=omega) only [go_sem,h0,h4,h5,h6,rd_ext hb,HP.rd_app hm,fg_ptr hb,leads_ptr hb,apart_ptr hb,h7]
      refine ih2 _ hlt2 (step_all hp2 (by simp [partFault,h45,h7])) ?_
      simp only [go_sem]
     ·simp (maxSteps:=999999) (disch:=omega) only [go_sem,h0,h4,h5,h6,rd_ext hb,HP.rd_app hm,fg_ptr hb,leads_ptr hb,apart_ptr hb,h7]
      have : partFault m (m.ino n) j = 10:=by simp only [partFault,h45,h6,h7,if_false,not_false_eq_true,and_self,if_true]
      rw [bad (by rw [e,firstI_at hp2 (by rw [this]; decide) hlt2,this]) (by decide)]
    ·obtain rfl : j = 2:=by omega
     simp (maxSteps:=999999) (disch:=omega) only [go_sem]
     refine ih' _ hlt' (step_all hp' (by rw [e]; exact firstI_zero.2 hp2)) ?_
     simp only [go_sem]
  ·obtain rfl : n = 8:=by omega
   have ec:=check_3 hp hp'
   have bad : ∀ {n k},n < 8 → k < 8 → pairBad m n k = true → check m = 11:=fun h1 h2 h3=>by
    rw [ec,twice_at h1 h2 h3,if_pos rfl]
   simp (maxSteps:=999999) (disch:=omega) only [go_sem]
   refine W_forP 8 (fun n=>⟨[(0,.ptr p q tImage),(10,.int .i64 n)],[],h⟩) (fun n=>∀ i,i < n → anyN 8 (pairBad m i) = false) (by simp only [go_sem] <;> rfl) (fun i hi=>by omega) fun n hn hp3 ih3=>?_
   by_cases hlt3 : n < 8
   ·simp (maxSteps:=999999) (disch:=omega) only [go_sem]
    refine W_forP 8 (fun k=>⟨[(0,.ptr p q tImage),(10,.int .i64 n),(11,.int .i64 k)],[],h⟩) (fun k=>∀ i,i < k → pairBad m n i = false) (by simp only [go_sem] <;> rfl) (fun i hi=>by omega) fun k hk hp4 ih4=>?_
    by_cases hlt4 : k < 8
    ·simp (maxSteps:=999999) (disch:=omega) only [go_sem,hlt3,hlt4,rd_ext hb,HP.rd_app hm,fg_ptr hb,leads_ptr hb,apart_ptr hb]
     cases h1 : (m.ino n).live with
     | false =>
      simp (maxSteps:=999999) (disch:=omega) only [go_sem,h1]
      refine ih4 _ hlt4 (step_all hp4 (by simp [pairBad,h1])) ?_
      simp only [go_sem]
     | true =>
      simp (maxSteps:=999999) (disch:=omega) only [go_sem,h1,hlt3,hlt4,rd_ext hb,HP.rd_app hm,fg_ptr hb,leads_ptr hb,apart_ptr hb]
      cases h2 : (m.ino k).live with
      | false =>
       simp (maxSteps:=999999) (disch:=omega) only [go_sem,h2]
       refine ih4 _ hlt4 (step_all hp4 (by simp [pairBad,h2])) ?_
       simp only [go_sem]
      | true =>
       simp (maxSteps:=999999) (disch:=omega) only [go_sem,h2]
       by_cases ek : n = k
       ·subst ek
        simp (maxSteps:=999999) (disch:=omega) only [go_sem,hlt3,hlt4,rd_ext hb,HP.rd_app hm,fg_ptr hb,leads_ptr hb,apart_ptr hb]
        refine W_forP 2 (fun a=>⟨[(0,.ptr p q tImage),(10,.int .i64 n),(11,.int .i64 n),(12,.int .i64 a)],[],h⟩) (fun a=>∀ i,i < a → anyN 2 (partBad m n n i) = false) (by simp only [go_sem] <;> rfl) (fun i hi=>by omega) fun a ha hp5 ih5=>?_
        by_cases hlt5 : a < 2
        ·simp (maxSteps:=999999) (disch:=omega) only [go_sem]
         refine W_forP 2 (fun b=>⟨[(0,.ptr p q tImage),(10,.int .i64 n),(11,.int .i64 n),(12,.int .i64 a),(13,.int .i64 b)],[],h⟩) (fun b=>∀ i,i < b → partBad m n n a i = false) (by simp only [go_sem] <;> rfl) (fun i hi=>by omega) fun b hb' hp6 ih6=>?_
         by_cases hlt6 : b < 2
         ·have pb : partBad m n n a b = true → pairBad m n n = true:=fun hx=>by
           have : anyN 2 (fun p=>anyN 2 fun q=>partBad m n n p q) = true:=anyN_at hlt5 (anyN_at hlt6 hx)
           simp only [pairBad,h1,this,Bool.and_self,Bool.or_true]
          by_cases ab : a = b
          ·subst ab
           simp (maxSteps:=999999) (disch:=omega) only [go_sem,hlt3,hlt4,hlt5,hlt6,rd_ext hb,HP.rd_app hm,fg_ptr hb,leads_ptr hb,apart_ptr hb]
           refine ih6 _ hlt6 (step_all hp6 (by simp [partBad])) ?_
           simp only [go_sem]
          ·simp (maxSteps:=999999) (disch:=omega) only [go_sem,hlt3,hlt4,hlt5,hlt6,rd_ext hb,HP.rd_app hm,fg_ptr hb,leads_ptr hb,apart_ptr hb]
           by_cases c1 : 0 ≤ (m.ino n).prt a
           ·by_cases c2 : (m.ino n).prt a = (m.ino n).prt b
            ·simp (maxSteps:=999999) (disch:=omega) only [go_sem,c1,c2,hlt3,hlt4,hlt5,hlt6,rd_ext hb,HP.rd_app hm,fg_ptr hb,leads_ptr hb,apart_ptr hb]
             rw [bad hlt3 hlt3 (pb (by have c3:=c1; rw [c2] at c3; simp [partBad,ab,c2,c3]))]
            ·simp (maxSteps:=999999) (disch:=omega) only [go_sem,c1,c2,hlt3,hlt4,hlt5,hlt6,rd_ext hb,HP.rd_app hm,fg_ptr hb,leads_ptr hb,apart_ptr hb]
             refine ih6 _ hlt6 (step_all hp6 (by simp [partBad,c2])) ?_
             simp only [go_sem]
           ·simp (maxSteps:=999999) (disch:=omega) only [go_sem,c1]
            refine ih6 _ hlt6 (step_all hp6 (by simp [partBad,c1])) ?_
            simp only [go_sem]
         ·obtain rfl : b = 2:=by omega
          simp (maxSteps:=999999) (disch:=omega) only [go_sem]
          refine ih5 _ hlt5 (step_all hp5 (anyN_false.2 hp6)) ?_
          simp only [go_sem]
        ·obtain rfl : a = 2:=by omega
         simp (maxSteps:=999999) (disch:=omega) only [go_sem]
         refine ih4 _ hlt4 (step_all hp4 ?_) ?_
         ·have : anyN 2 (fun p=>anyN 2 fun q=>partBad m n n p q) = false:=anyN_false.2 hp5
          rw [pairBad,this]; simp
         ·simp only [go_sem]
       ·by_cases ck : (m.ino n).stamp = (m.ino k).stamp
        ·simp (maxSteps:=999999) (disch:=omega) only [go_sem,ck,hlt3,hlt4,rd_ext hb,HP.rd_app hm,fg_ptr hb,leads_ptr hb,apart_ptr hb]
         rw [bad hlt3 hlt4 (by simp [pairBad,h1,h2,ek,ck])]
        ·simp (maxSteps:=999999) (disch:=omega) only [go_sem,ck,hlt3,hlt4,rd_ext hb,HP.rd_app hm,fg_ptr hb,leads_ptr hb,apart_ptr hb]
         refine W_forP 2 (fun a=>⟨[(0,.ptr p q tImage),(10,.int .i64 n),(11,.int .i64 k),(12,.int .i64 a)],[],h⟩) (fun a=>∀ i,i < a → anyN 2 (partBad m n k i) = false) (by simp only [go_sem] <;> rfl) (fun i hi=>by omega) fun a ha hp5 ih5=>?_
         by_cases hlt5 : a < 2
         ·simp (maxSteps:=999999) (disch:=omega) only [go_sem]
          refine W_forP 2 (fun b=>⟨[(0,.ptr p q tImage),(10,.int .i64 n),(11,.int .i64 k),(12,.int .i64 a),(13,.int .i64 b)],[],h⟩) (fun b=>∀ i,i < b → partBad m n k a i = false) (by simp only [go_sem] <;> rfl) (fun i hi=>by omega) fun b hb' hp6 ih6=>?_
          by_cases hlt6 : b < 2
          ·have pb : partBad m n k a b = true → pairBad m n k = true:=fun hx=>by
            have : anyN 2 (fun p=>anyN 2 fun q=>partBad m n k p q) = true:=anyN_at hlt5 (anyN_at hlt6 hx)
            simp only [pairBad,h1,h2,this,Bool.and_self,Bool.or_true]
           simp (maxSteps:=999999) (disch:=omega) only [go_sem,hlt3,hlt4,hlt5,hlt6,rd_ext hb,HP.rd_app hm,fg_ptr hb,leads_ptr hb,apart_ptr hb]
           by_cases c1 : 0 ≤ (m.ino n).prt a
           ·by_cases c2 : (m.ino n).prt a = (m.ino k).prt b
            ·simp (maxSteps:=999999) (disch:=omega) only [go_sem,c1,c2,hlt3,hlt4,hlt5,hlt6,rd_ext hb,HP.rd_app hm,fg_ptr hb,leads_ptr hb,apart_ptr hb]
             rw [bad hlt3 hlt4 (pb (by have c3:=c1; rw [c2] at c3; simp [partBad,ek,c2,c3]))]
            ·simp (maxSteps:=999999) (disch:=omega) only [go_sem,c1,c2,hlt3,hlt4,hlt5,hlt6,rd_ext hb,HP.rd_app hm,fg_ptr hb,leads_ptr hb,apart_ptr hb]
             refine ih6 _ hlt6 (step_all hp6 (by simp [partBad,c2])) ?_
             simp only [go_sem]
           ·simp (maxSteps:=999999) (disch:=omega) only [go_sem,c1]
            refine ih6 _ hlt6 (step_all hp6 (by simp [partBad,c1])) ?_
            simp only [go_sem]
          ·obtain rfl : b = 2:=by omega
           simp (maxSteps:=999999) (disch:=omega) only [go_sem]
           refine ih5 _ hlt5 (step_all hp5 (anyN_false.2 hp6)) ?_
           simp only [go_sem]
         ·obtain rfl : a = 2:=by omega
          simp (maxSteps:=999999) (disch:=omega) only [go_sem]
          refine ih4 _ hlt4 (step_all hp4 ?_) ?_
          ·have : anyN 2 (fun p=>anyN 2 fun q=>partBad m n k p q) = false:=anyN_false.2 hp5
           rw [pairBad,this]; simp [ck]
          ·simp only [go_sem]
    ·obtain rfl : k = 8:=by omega
     simp (maxSteps:=999999) (disch:=omega) only [go_sem]
     refine ih3 _ hlt3 (step_all hp3 (anyN_false.2 hp4)) ?_
     simp only [go_sem]
   ·obtain rfl : n = 8:=by omega
    simp (maxSteps:=999999) (disch:=omega) only [go_sem]
    have : twice m = false:=by rw [← twiceR_eq]; exact anyN_false.2 hp3
    rw [ec,this]; rfl
end
theorem sumN_ge {f : Nat → Nat} {j : Nat} : ∀ {n},j < n → f j ≤ sumN n f
 | 0,h=>by omega
 | n + 1,h=>by
  rw [sumN]
  by_cases e : j = n
  ·subst e; omega
  ·have:=sumN_ge (f:=f) (j:=j) (n:=n) (by omega); omega
theorem ent_out {m : Img} {d s : Nat} (h : ¬(d < 3 ∧ s < 4)) : m.ent d s = Ent.zero:=by simp only [Img.ent]; rw [dif_neg h]
theorem great_name {m : Img} (h : great m = false) (d s : Nat) : (m.ent d s).name.size ≤ 3000:=by
 by_cases hc : d < 3 ∧ s < 4
 ·have h1 : min (m.ent d s).name.size 10000 ≤ greatRow m d 4:=sumN_ge (f:=fun s=>min (m.ent d s).name.size 10000) hc.2
  have h2 : greatRow m d 4 ≤ greatDir m 3:=sumN_ge (f:=fun d=>greatRow m d 4) hc.1
  simp only [great,decide_eq_false_iff_not] at h
  omega
 ·rw [ent_out hc]; decide
theorem great_small {m : Img} (h : great m = false) : m.small:=fun d s=>by have:=great_name h d s; omega
theorem check_parts {m : Img} (h : check m = 0) : (∀ d,d < 3 → ∀ s,s < 4 → entryFault m d s = 0) ∧ (∀ n,n < 8 → inoFault m n = 0) ∧ twice m = false:=by
 unfold check at h
 split at h
 ·rename_i h1; exact absurd h h1
 ·rename_i h1
  split at h
  ·rename_i h2; exact absurd h h2
  ·rename_i h2
   split at h
   ·exact absurd h (by decide)
   ·rename_i h3
    refine ⟨fun d hd=>firstI_zero.1 (firstI_zero.1 (by simpa using h1) d hd),firstI_zero.1 (by simpa using h2),by simpa using h3⟩
def named (m : Img) (d s : Nat) : Bool:=!decide ((m.ent d s).name = ⟨#[]⟩)
def namesRow (m : Img) (d k : Nat) : Nat:=sumN k fun s=>b2n (named m d s)
def names (m : Img) (k : Nat) : Nat:=sumN k fun d=>namesRow m d 4
def hits (m : Img) (n p x : Nat) : Nat:=b2n ((m.ino n).live && decide ((m.ino n).prt p = x))
def cnt (m : Img) (n r x : Nat) : Nat:=(sumN n fun k=>sumN 2 fun p=>hits m k p x) + sumN r fun p=>hits m n p x
def cntV (m : Img) (n r : Nat) : Vector Int 9:=Vector.ofFn fun x : Fin 9=>(cnt m n r x : Int)
@[go_sem] theorem cntV_at (m : Img) (n r : Nat) {x : Nat} (hx : x < 9) : (cntV m n r)[x]'hx = (cnt m n r x : Int):=by simp [cntV]
@[go_sem] theorem idxV_held (j : Id) (p : List Nat) (i : AV) : idxV 9 tI (.ptr j p tHeld) i = idxV 9 tI (.ptr j p (.arr 9 tI)) i:=rfl
@[go_sem] theorem zero_held : tHeld.zero = encV (AV.int .i64) (Vector.replicate 9 0):=zero_encV (t:=tI) rfl
def encLost (a b c : Int) : AV:=.cons (.int .i64 a) (.cons (.int .i64 b) (.cons (.int .i64 c) .unit))
@[go_sem] theorem at_lost0 (a b c : Int) : (encLost a b c).at [0] = some (.int .i64 a):=rfl
@[go_sem] theorem at_lost1 (a b c : Int) : (encLost a b c).at [1] = some (.int .i64 b):=rfl
@[go_sem] theorem at_lost2 (a b c : Int) : (encLost a b c).at [2] = some (.int .i64 c):=rfl
@[go_sem] theorem put_lost0 (a b c x : Int) : (encLost a b c).put [0] (.int .i64 x) = some (encLost x b c):=rfl
@[go_sem] theorem put_lost1 (a b c x : Int) : (encLost a b c).put [1] (.int .i64 x) = some (encLost a x c):=rfl
@[go_sem] theorem put_lost2 (a b c x : Int) : (encLost a b c).put [2] (.int .i64 x) = some (encLost a b x):=rfl
@[go_sem] theorem fits_lost (a b c : Int) : (tLost.fits (encLost a b c) = true) = True:=eq_true rfl
@[go_sem] theorem zero_lost : tLost.zero = encLost 0 0 0:=rfl
@[go_sem] theorem fill_lost3 (a b c : Int) : fill tLost (encLost 0 0 0) [(0,.int .i64 a),(1,.int .i64 b),(2,.int .i64 c)] = some (encLost a b c):=rfl
@[go_sem] theorem fill_lost2 (b c : Int) : fill tLost (encLost 0 0 0) [(1,.int .i64 b),(2,.int .i64 c)] = some (encLost 0 b c):=rfl
@[go_sem] theorem field_lost0 : tLost.field 0 = some tI:=rfl
@[go_sem] theorem field_lost1 : tLost.field 1 = some tI:=rfl
@[go_sem] theorem field_lost2 : tLost.field 2 = some tI:=rfl
@[go_sem] theorem fg_lost (a b c : Int) (i : Id) : fg (encLost a b c) i = encLost a b c:=rfl
@[go_sem] theorem leads_lost (a b c : Int) (i : Id) : (encLost a b c).leads i = false:=rfl
@[go_sem] theorem isAgg_lost (a b c : Int) : (encLost a b c).isAgg = true:=rfl
@[go_sem] theorem safe_lost (a b c : Int) : (encLost a b c).safe = true:=rfl
theorem eq_lost (a b c a' b' c' : Int) : (encLost a b c).eq (encLost a' b' c') = some (decide (a = a' ∧ b = b' ∧ c = c')):=by
 simp only [encLost,eq_cons,eq_unit,eq_int,andEq_dec,andEq_tt]
@[go_sem] theorem eqV_lost (neg : Bool) (a b c a' b' c' : Int) : eqV tLost neg (encLost a b c) (encLost a' b' c') = some (.bool (if neg = true then !decide (a = a' ∧ b = b' ∧ c = c') else decide (a = a' ∧ b = b' ∧ c = c'))):=eqV_of rfl rfl (eq_lost ..)
@[go_sem] theorem zero_K3 : tK3.zero = encV (AV.int .i64) (Vector.replicate 3 0):=zero_encV (t:=tI) rfl
@[go_sem] theorem fits_K3 (v : Vector Int 3) : (tK3.fits (encV (AV.int .i64) v) = true) = True:=eq_true (fits_encV (t:=tI) fun _=>rfl)
@[go_sem] theorem idxV_K3 (j : Id) (p : List Nat) (i : AV) : idxV 3 tI (.ptr j p tK3) i = idxV 3 tI (.ptr j p (.arr 3 tI)) i:=rfl
def k3 (a b c : Int) : Vector Int 3:=#v[a,b,c]
@[go_sem] theorem k3_0 (a b c : Int) (h : 0 < 3) : (k3 a b c)[0]'h = a:=rfl
@[go_sem] theorem k3_1 (a b c : Int) (h : 1 < 3) : (k3 a b c)[1]'h = b:=rfl
@[go_sem] theorem k3_2 (a b c : Int) (h : 2 < 3) : (k3 a b c)[2]'h = c:=rfl
@[go_sem] theorem k3_s0 (a b c x : Int) (h : 0 < 3) : (k3 a b c).set 0 x h = k3 x b c:=rfl
@[go_sem] theorem k3_s1 (a b c x : Int) (h : 1 < 3) : (k3 a b c).set 1 x h = k3 a x c:=rfl
@[go_sem] theorem k3_s2 (a b c x : Int) (h : 2 < 3) : (k3 a b c).set 2 x h = k3 a b x:=rfl
@[go_sem] theorem k3_zero : (Vector.replicate 3 0 : Vector Int 3) = k3 0 0 0:=rfl
@[go_sem] theorem safe_K3 {n : Nat} (v : Vector Int n) : (encV (AV.int .i64) v).safe = true:=by simp [encV,AV.safe]
section
variable {T : Nat → Option MFun} {cx : Cx} {k : List Item} {kill : List Nat} {r : List MOp} {sl : Slots} {own : Own} {h : HP} {Q : St → Prop}
def three (x y z : Option AV) : Option AV:=match x,y,z with
 | some x,some y,some z=>some (.tup (.cons x (.cons y (.cons z .unit))))
 | _,_,_=>none
@[go_sem] theorem three_some (x y z : AV) : three (some x) (some y) (some z) = some (.tup (.cons x (.cons y (.cons z .unit)))):=rfl
@[go_sem] theorem results_three {a b c : MRes} {s : St} : results cx s [a,b,c] = three (res1 cx s a) (res1 cx s b) (res1 cx s c):=by
 simp only [results,resList,three,res1]
 cases resOf cx s a <;> cases resOf cx s b <;> cases resOf cx s c <;> rfl
@[go_sem] theorem extV_2 (a b c d : AV) : extV (.tup (.cons a (.cons b (.cons c d)))) 2 = if c.safe = true then some c else none:=rfl
end
section
variable {cx : Cx} {h : HP} {p p' : Id} {q q' : List Nat} {m m' : Img}
@[go_sem] theorem eqV_parts (neg : Bool) (a b : Vector Int 2) : eqV tParts neg (encV (AV.int .i64) a) (encV (AV.int .i64) b) = some (.bool (if neg = true then !decide (a = b) else decide (a = b))):=eqV_of (fits_parts' a) (fits_parts' b) (eq_encV eq_int)
@[go_sem] theorem eqV_dirs (neg : Bool) (a b : Vector (Vector Ent 4) 3) : eqV tDirs neg (encV (encV Ent.enc) a) (encV (encV Ent.enc) b) = some (.bool (if neg = true then !decide (a = b) else decide (a = b))):=eqV_of (fits_dirs' a) (fits_dirs' b) (eq_encV fun v w=>eq_row v w)
end
namespace Fn
end Fn
def tblNL : List (Option MFun):=[none,none,none,none,none,none,none,none,none,none,none,none,none,none,none,none,none,none,none,none,none,none,none,none,none,none,none,none,none,none,none,none,none,none,none,none,none,none,none,none,none,none,none,none,none,none,none,none,none,none,none,none,none,none,none,none,none,none,none,none,none,none,none,none]
theorem enterCmd_ext {T T' : Nat → Option MFun} (hT : ∀ i fn,T i = some fn → T' i = some fn) {cx : Cx} {prot : Bool} {hide : List Nat} {f : Nat} {args caps : List AV} {d : Option Nat} {todo : List Item} {s : St} :
  enterCmd T cx prot hide f args caps d todo s = .fail ∨ enterCmd T' cx prot hide f args caps d todo s = enterCmd T cx prot hide f args caps d todo s:=by
 unfold enterCmd
 cases h : T f with
 | none=>exact .inl rfl
 | some fn=>rw [hT f fn h]; exact .inr rfl
theorem opCmd_ext {T T' : Nat → Option MFun} (hT : ∀ i fn,T i = some fn → T' i = some fn) {cx : Cx} {d : Option Nat} {o : MK} {k : List Item} {s : St} : opCmd T cx d o k s = .fail ∨ opCmd T' cx d o k s = opCmd T cx d o k s:=by
 cases o <;> try exact .inr rfl
 ·exact enterCmd_ext hT
 ·simp only [opCmd]
  split
  ·exact enterCmd_ext hT
  ·exact .inl rfl
theorem next_ext {T T' : Nat → Option MFun} (hT : ∀ i fn,T i = some fn → T' i = some fn) {cx : Cx} {k : List Item} {s : St} : next T cx k s = .fail ∨ next T' cx k s = next T cx k s:=by
 unfold next
 split <;> try exact .inr rfl
 split
 ·exact .inr rfl
 ·exact .inr rfl
 ·exact opCmd_ext hT
theorem run_ext {T T' : Nat → Option MFun} (hT : ∀ i fn,T i = some fn → T' i = some fn) : ∀ {n : Nat} {cx : Cx} {k : List Item} {s r : St},run T n cx k s = some r → run T' n cx k s = some r:=by
 intro n
 induction n with
 | zero=>intro cx k s r h; simp [run] at h
 | succ n ih =>
  intro cx k s r h
  rw [run] at h ⊢
  rcases next_ext hT (cx:=cx) (k:=k) (s:=s) with hf | he
  ·rw [hf] at h; exact absurd h (by simp)
  ·rw [he]
   split at h
   ·exact h
   ·exact absurd h (by simp)
   ·exact ih h
   ·rename_i cx' hide fn e d k' s1 hn
    cases h1 : run T n cx' [.code fn.body] e with
    | none=>rw [h1] at h; exact absurd h (by simp)
    | some s' =>
     rw [h1] at h
     rw [ih h1]
     dsimp only at h ⊢
     cases h2 : back cx cx' hide fn d s1 s' with
     | none=>rw [h2] at h; exact absurd h (by simp)
     | some s2=>rw [h2] at h; exact ih h
def tblBL : List (Option MFun):=tblL ++ List.replicate 9 none ++ tblNL
def tblB (f : Nat) : Option MFun:=tblBL.getD f none
theorem tbl_B (i : Nat) (fn : MFun) (h : tbl i = some fn) : tblB i = some fn:=by
 unfold tbl at h
 have hl : i < tblL.length:=by
  rcases Nat.lt_or_ge i tblL.length with h' | h'
  ·exact h'
  ·rw [List.getD_eq_getElem?_getD,List.getElem?_eq_none h'] at h; simp at h
 unfold tblB tblBL
 rw [List.getD_eq_getElem?_getD] at h ⊢
 rw [List.append_assoc,List.getElem?_append_left hl]
 exact h
theorem up {cx : Cx} {fn : MFun} {e : St} {R : AV → HP → Prop} (h : Ok tbl cx fn e R) : Ok tblB cx fn e R:=by
 obtain ⟨n,s',v,hr,hv,hR⟩:=h
 exact ⟨n,s',v,run_ext tbl_B hr,hv,hR⟩
@[go_sem] theorem st_id : decide (sInodes = ⟨#[100,105,114]⟩) = false:=by decide
@[go_sem] theorem st_ia : decide (sInodes = ⟨#[100,97,116,97]⟩) = false:=by decide
@[go_sem] theorem st_da : decide (sDir = ⟨#[100,97,116,97]⟩) = false:=by decide
def encC (a b : Img) : AV:=.cons a.enc (.cons b.enc .unit)
theorem fits_cache' (a b : Img) : tCache.fits (encC a b) = true:=by
 show (Ty.cons tImage (.cons tImage .unit)).fits (AV.cons _ (.cons _ .unit)) = true
 simp only [fits_cons,fits_unit,fits_img',and_self]
@[go_sem] theorem fits_cache (a b : Img) : (tCache.fits (encC a b) = true) = True:=eq_true (fits_cache' a b)
@[go_sem] theorem at_cache0 (a b : Img) (p : List Nat) : (encC a b).at (0 :: p) = a.enc.at p:=rfl
@[go_sem] theorem at_cache1 (a b : Img) (p : List Nat) : (encC a b).at (1 :: p) = b.enc.at p:=rfl
theorem put_cache0 (a b x : Img) : (encC a b).put [0] x.enc = some (encC x b):=by
 show (AV.put a.enc [] x.enc).map (fun y=>AV.cons y (.cons b.enc .unit)) = _
 rw [put_nil]; rfl
theorem put_cache1 (a b x : Img) : (encC a b).put [1] x.enc = some (encC a x):=by
 show ((AV.put b.enc [] x.enc).map (fun y=>AV.cons y .unit)).map (fun y=>AV.cons a.enc y) = _
 rw [put_nil]; rfl
@[go_sem] theorem field_cache0 : tCache.field 0 = some tImage:=rfl
@[go_sem] theorem field_cache1 : tCache.field 1 = some tImage:=rfl
theorem zero_cache : tCache.zero = encC Img.zero Img.zero:=by
 show AV.cons tImage.zero (.cons tImage.zero .unit) = _
 rw [zero_img]; rfl
@[go_sem] theorem fill_cache (a b : Img) : fill tCache tCache.zero [(0,a.enc),(1,b.enc)] = some (encC a b):=by
 rw [zero_cache]
 simp only [fill]
 show (if tImage.fits a.enc = true then _ else _) = _
 rw [if_pos (fits_img' a),put_cache0]
 show (if tImage.fits b.enc = true then _ else _) = _
 rw [if_pos (fits_img' b),put_cache1]
@[go_sem] theorem fg_cache (a b : Img) (i : Id) : fg (encC a b) i = encC a b:=rfl
@[go_sem] theorem leads_cache (a b : Img) (i : Id) : (encC a b).leads i = false:=rfl
@[go_sem] theorem isAgg_cache (a b : Img) : (encC a b).isAgg = true:=rfl
def HP.cs (h : HP) (n : Nat) (a b : Img) : HP:=h.set (.obj n) ⟨tCache,encC a b⟩
def HP.mk1 (h : HP) (a b : Img) : HP:={ h.cs h.next a b with next:=h.next + 1 }
section
variable {T : Nat → Option MFun} {cx : Cx} {k : List Item} {kill : List Nat} {r : List MOp} {sl : Slots} {own : Own} {h : HP} {Q : St → Prop}
def WBT (T : Nat → Option MFun) (cx : Cx) (v : AV) (d : Nat) (r : List MOp) (kill : List Nat) (k : List Item) (sl : Slots) (own : Own) (h : HP) (Q : St → Prop) : Prop :=
 tCache.fits v = true ∧ W T cx (.ops r kill :: k) ⟨sl.set d (.ptr (.obj h.next) [] tCache),own,{ h with obj:=fun n=>if n = h.next then some ⟨tCache,v⟩ else h.obj n,next:=h.next + 1 }⟩ Q
@[go_sem] theorem WBT_enc {a b : Img} {d : Nat} : WBT T cx (encC a b) d r kill k sl own h Q = W T cx (.ops r kill :: k) ⟨sl.set d (.ptr (.obj h.next) [] tCache),own,h.mk1 a b⟩ Q:=by
 simp only [WBT,fits_cache,true_and]
 rfl
@[go_sem] theorem W_boxT {d : Nat} {x : Opd} : W T cx (.ops (⟨some d,.box true tCache x,none⟩ :: r) kill :: k) ⟨sl,own,h⟩ Q = WBT T cx (St.opd ⟨sl,own,h⟩ x) d r kill k sl own h Q:=by
 rw [W_op rfl,evOp]
 simp only [evK,WBT]
 by_cases h1 : tCache.fits (St.opd ⟨sl,own,h⟩ x) = true
 ·simp only [h1,true_and,if_true]; rfl
 ·simp only [h1,false_and,Bool.false_eq_true,if_false]; rfl
@[go_sem] theorem eqV_nilp (neg : Bool) (n : Nat) (t : Ty) : eqV tP neg (.ptr (.obj n) [] t) .nilp = some (.bool neg):=by cases neg <;> rfl
@[go_sem] theorem eqV_nilnil (neg : Bool) : eqV tP neg .nilp .nilp = some (.bool (!neg)):=by cases neg <;> rfl
@[go_sem] theorem safe_ptrobj (n : Nat) (p : List Nat) (t : Ty) : (AV.ptr (.obj n) p t).safe = true:=rfl
@[go_sem] theorem safe_nilp : AV.nilp.safe = true:=rfl
@[go_sem] theorem callCx_prot (s : St) : (s.callCx cx false).prot = cx.prot:=rfl
end
section
variable {cx : Cx} {h : HP} {n : Nat} {a b : Img}
def freeSlot (a b : Img) (d : Int) : Int:=if d < 0 ∨ 3 ≤ d then -1 else findN 4 fun s=>decide ((a.ent d.toNat s).name = ⟨#[]⟩) && decide ((b.ent d.toNat s).name = ⟨#[]⟩)
end
namespace Fn
end Fn
def tblDL0 : List (Option MFun):=[none,none,none,none,none,none,none,none,none,none,none,none,none,none,none,none,none,none,none,none,none,none,none,none,none,none,none,none,none,none,none,none,none,none,none,none,none,none,none,none,none,none,none,none,none,none,none,none,none,none,none,none,none,none,none,none,none,none,none,none,none,none,none,none,none]
namespace Fn
end Fn
def tblEL0 : List (Option MFun):=[none,none,none,none,none,none,none,none,none,none,none,none,none,none,none,none,none,none,none,none,none,none,none,none,none,none,none,none,none,none,none,none,none,none,none,none,none,none,none,none,none,none,none,none,none,none,none,none,none,none,none,none,none,none,none,none,none,none,none,none,none,none,none,none,none,none,none,none,none,none,none,none,none,none,none,none,none,none,none,none,none,none,none,none,none,none,none,none,none,none,none,none,none,none,none,none,none,none,none,none,none,none,none,none,none,none,none,none]
namespace Fn
end Fn
def tblF0 : List (Option MFun):=[none,none,none,none,none,none,none,none,none,none,none,none,none,none,none,none,none,none,none,none,none,none,none,none,none,none,none,none,none,none,none,none,none,none,none,none,none,none,none,none,none,none,none,none,none,none,none,none,none,none,none,none,none,none,none,none,none,none,none,none,none,none,none,none,none,none,none,none,none,none,none,none,none,none,none,none,none,none,none,none,none,none,none,none,none,none,none,none,none,none,none,none,none,none,none,none,none,none,none,none,none,none,none,none,none,none,none,none,none,none,none,none,none,none,none,none]
namespace Fn
end Fn
def tblG0 : List (Option MFun):=[none,none,none,none,none,none,none,none,none,none,none,none,none,none,none,none,none,none,none,none,none,none,none,none,none,none,none,none,none,none,none,none,none,none,none,none,none,none,none,none,none,none,none,none,none,none,none,none,none,none,none,none,none,none,none,none,none,none,none,none,none,none,none,none,none,none,none,none,none,none,none,none,none,none,none,none,none,none,none,none,none,none,none,none,none,none,none,none,none,none,none,none,none,none,none,none,none,none,none,none,none,none,none,none,none,none,none,none,none,none,none,none,none,none,none,none,none,none,none,none,none,none,none,none,none,none,none,none,none,none,none,none,none,none,none]
def numL (n : Int) : List UInt8:=Lib.itoa n
def i64 (n : Int) : Prop:=-9223372036854775808 ≤ n ∧ n ≤ 9223372036854775807
instance (n : Int) : Decidable (i64 n):=inferInstanceAs (Decidable (_ ∧ _))
def pItoa : List AV → Option AV
 | [.int .i64 n]=>if i64 n then some (.str ⟨(numL n).toArray⟩) else none
 | _=>none
def hexV (c : UInt8) : Option Nat :=
 if 48 ≤ c.toNat ∧ c.toNat ≤ 57 then some (c.toNat - 48)
 else if 97 ≤ (c ||| 32).toNat ∧ (c ||| 32).toNat ≤ 102 then some ((c ||| 32).toNat - 87) else none
def hex2 (b : ByteArray) : Option Nat :=
 match b.data.toList with
 | [x,y]=>match hexV x,hexV y with
  | some p,some q=>some (16 * p + q)
  | _,_=>none
 | _=>none
def pPu : List AV → Option AV
 | [.str b,.int .i64 16,.int .i64 8]=>if b.size = 2 then some (.int .u64 ((hex2 b).getD 0)) else none
 | _=>none
def pPe : List AV → Option AV
 | [.str b,.int .i64 16,.int .i64 8]=>if b.size = 2 then some (.iface (hex2 b).isNone) else none
 | _=>none
def hexD (n : Nat) : UInt8:=if n < 10 then UInt8.ofNat (48 + n) else UInt8.ofNat (87 + n)
def show1 (c : UInt8) : List UInt8:=if 33 ≤ c.toNat ∧ c.toNat ≤ 126 ∧ c.toNat ≠ 92 then [c] else [92,hexD (c.toNat / 16),hexD (c.toNat % 16)]
def showL (l : List UInt8) : List UInt8:=61 :: l.flatMap show1
def lineL (ws : List (List UInt8)) : List UInt8:=Lib.join ws [32] ++ [10]
def inoL (n : Nat) (i : Ino) : List UInt8 := if i.live then lineL ["inode".toUTF8.data.toList, numL n, numL i.stamp, numL i.links, numL i.part[0], numL i.part[1]] else []
def entL (d s : Nat) (e : Ent) : List UInt8 := if e.name.size ≠ 0 then lineL ["entry".toUTF8.data.toList, numL d, numL s, e.name.data.toList, numL e.ino, numL e.stamp] else []
def datL (x : Nat) (y : Dat) : List UInt8 := if y.of ≠ 0 then lineL ["data".toUTF8.data.toList, numL x, numL y.of, showL y.text.data.toList] else []
def textL (m : Img) : List UInt8 :=
 (List.finRange 8).flatMap (fun n : Fin 8=>inoL n.val m.inode[n]) ++ ((List.finRange 3).flatMap fun d : Fin 3=>(List.finRange 4).flatMap fun s : Fin 4=>entL d.val s.val m.dir[d][s]) ++ (List.finRange 9).flatMap fun x : Fin 9=>datL x.val m.data[x]
def Img.slim (m : Img) : Prop :=
 (∀ n : Fin 8,i64 m.inode[n].stamp ∧ i64 m.inode[n].links ∧ i64 m.inode[n].part[0] ∧ i64 m.inode[n].part[1]) ∧
 (∀ (d : Fin 3) (s : Fin 4),i64 m.dir[d][s].ino ∧ i64 m.dir[d][s].stamp ∧ m.dir[d][s].name.size ≤ 10000) ∧ ∀ x : Fin 9,i64 m.data[x].of ∧ m.data[x].text.size ≤ 10000
open Classical in
noncomputable def pPrint : List AV → Option AV
 | [v]=>if h : ∃ m : Img,v = m.enc ∧ m.slim then some (.str ⟨(textL h.choose).toArray⟩) else none
 | _=>none
namespace Fn
@[reducible] noncomputable def text_Print.r0 : List MOp:=[⟨some 1,.load false none tImage (.s 0),none⟩,⟨some 2,.prim pPrint [(.s 1)],none⟩]
@[reducible] noncomputable def text_Print.body : MC:=(.seq (.reg false text_Print.r0 []) .ret)
@[reducible] noncomputable def text_Print : MFun:={ params:=1,nfree:=0,res:=[.tmp 2],body:=text_Print.body }
@[reducible] def text_Show.r0 : List MOp:=[⟨some 2,.mov (.c (.str ⟨#[]⟩)),none⟩]
@[reducible] def text_Show.r1 : List MOp:=[⟨some 6,.bslice true tU8 1 [(0,(.c (.int .u8 61)))],none⟩,⟨some 3,.mov (.s 6),none⟩]
@[reducible] def text_Show.r2 : List MOp:=[⟨some 7,.mov (.s 0),none⟩,⟨some 8,.len true (.s 7),none⟩,⟨some 9,.mov (.c (.int .i64 0)),none⟩]
@[reducible] def text_Show.r3 : List MOp:=[⟨some 10,.bin .lss (.s 9) (.s 8),none⟩]
@[reducible] def text_Show.r4 : List MOp:=[⟨some 11,.mov (.s 9),none⟩,⟨some 4,.mov (.s 11),none⟩]
@[reducible] def text_Show.r5 : List MOp:=[⟨some 12,.mov (.s 0),none⟩,⟨some 13,.mov (.s 4),none⟩,⟨some 14,.stridx (.s 12) (.s 13),none⟩,⟨some 5,.mov (.s 14),none⟩]
@[reducible] def text_Show.r6 : List MOp:=[⟨some 15,.mov (.s 5),none⟩,⟨some 16,.bin .gtr (.s 15) (.c (.int .u8 32)),none⟩,⟨some 17,.mov (.s 16),none⟩,⟨some 18,.mov (.s 5),some (17,true)⟩,⟨some 19,.bin .lss (.s 18) (.c (.int .u8 127)),some (17,true)⟩,⟨some 20,.pick (.s 17) (.s 19) (.c (.bool false)),none⟩,⟨some 21,.mov (.s 20),none⟩,⟨some 22,.mov (.s 5),some (21,true)⟩,⟨some 23,.bin .neq (.s 22) (.c (.int .u8 92)),some (21,true)⟩,⟨some 24,.pick (.s 21) (.s 23) (.c (.bool false)),none⟩]
@[reducible] def text_Show.r7 : List MOp:=[⟨some 25,.mov (.s 3),none⟩,⟨some 26,.mov (.s 5),none⟩,⟨some 27,.bslice false tU8 1 [(0,(.s 26))],none⟩,⟨some 28,.append true [] tU8 (.s 25) (.s 27),none⟩,⟨some 3,.mov (.s 28),none⟩]
@[reducible] def text_Show.r8 : List MOp:=[⟨some 29,.mov (.s 3),none⟩,⟨some 30,.mov (.s 5),none⟩,⟨some 31,.bin .shr (.s 30) (.c (.int .u64 4)),none⟩,⟨some 32,.stridx (.c (.str ⟨#[48,49,50,51,52,53,54,55,56,57,97,98,99,100,101,102]⟩)) (.s 31),none⟩,⟨some 33,.mov (.s 5),none⟩,⟨some 34,.bin .and (.s 33) (.c (.int .u8 15)),none⟩,⟨some 35,.stridx (.c (.str ⟨#[48,49,50,51,52,53,54,55,56,57,97,98,99,100,101,102]⟩)) (.s 34),none⟩,⟨some 36,.bslice false tU8 3 [(0,(.c (.int .u8 92))),(1,(.s 32)),(2,(.s 35))],none⟩,⟨some 37,.append true [] tU8 (.s 29) (.s 36),none⟩,⟨some 3,.mov (.s 37),none⟩]
@[reducible] def text_Show.r9 : List MOp:=[⟨some 38,.bin .add (.s 9) (.c (.int .i64 1)),none⟩,⟨some 9,.mov (.s 38),none⟩]
@[reducible] def text_Show.r10 : List MOp:=[⟨some 39,.mov (.s 3),none⟩,⟨some 40,.tostr (.s 39),none⟩,⟨some 2,.mov (.s 40),none⟩]
@[reducible] def text_Show.body : MC:=(.seq (.reg false text_Show.r0 [2]) (.seq (.reg false text_Show.r1 [6]) (.seq (.seq (.reg false text_Show.r2 [7]) (.block 0 (.loop [0,3,8,9] [6,8,28,37] (.seq (.reg false text_Show.r3 []) (.seq (.cond (.s 10) .skip (.exit 0)) (.seq (.block 1 (.seq (.reg false text_Show.r4 [11]) (.seq (.reg false text_Show.r5 [4,12,13,14]) (.seq (.reg false text_Show.r6 [15,16,17,18,19,20,21,22,23]) (.cond (.s 24) (.reg false text_Show.r7 [5,25,26,27,28]) (.reg true text_Show.r8 [5,29,30,31,32,33,34,35,36,37])))))) (.reg false text_Show.r9 [38]))))))) (.seq (.reg false text_Show.r10 [3,39,40]) .ret))))
@[reducible] def text_Show : MFun:={ params:=1,nfree:=0,res:=[.tmp 2],body:=text_Show.body }
@[reducible] def text_Mean.r0 : List MOp:=[⟨some 2,.mov (.c (.str ⟨#[]⟩)),none⟩,⟨some 3,.mov (.c (.bool false)),none⟩]
@[reducible] def text_Mean.r1 : List MOp:=[⟨some 11,.mov (.s 0),none⟩,⟨some 12,.call false [] 349 [(.s 11),(.c (.str ⟨#[61]⟩))],none⟩,⟨some 10,.mov (.s 12),none⟩,⟨some 13,.ext (.s 10) 0,none⟩,⟨some 14,.ext (.s 10) 1,none⟩,⟨some 4,.mov (.s 13),none⟩,⟨some 5,.mov (.s 14),none⟩]
@[reducible] def text_Mean.r2 : List MOp:=[⟨some 15,.mov (.s 5),none⟩,⟨some 16,.un .not (.s 15),none⟩]
@[reducible] def text_Mean.r3 : List MOp:=[⟨some 2,.mov (.c (.str ⟨#[]⟩)),none⟩,⟨some 3,.mov (.c (.bool false)),none⟩]
@[reducible] def text_Mean.r4 : List MOp:=[⟨some 6,.mov (.c .nilsl),none⟩]
@[reducible] def text_Mean.r5 : List MOp:=[⟨some 17,.mov (.s 4),none⟩,⟨some 18,.bin .neq (.s 17) (.c (.str ⟨#[]⟩)),none⟩]
@[reducible] def text_Mean.r6 : List MOp:=[⟨some 19,.mov (.s 4),none⟩,⟨some 20,.stridx (.s 19) (.c (.int .i64 0)),none⟩,⟨some 7,.mov (.s 20),none⟩]
@[reducible] def text_Mean.r7 : List MOp:=[⟨some 21,.mov (.s 4),none⟩,⟨some 22,.strsl (.s 21) (some (.c (.int .i64 1))) none,none⟩,⟨some 4,.mov (.s 22),none⟩]
@[reducible] def text_Mean.r8 : List MOp:=[⟨some 23,.mov (.s 7),none⟩,⟨some 24,.bin .eql (.s 23) (.c (.int .u8 92)),none⟩]
@[reducible] def text_Mean.r9 : List MOp:=[⟨some 25,.mov (.s 4),none⟩,⟨some 26,.len true (.s 25),none⟩,⟨some 27,.bin .lss (.s 26) (.c (.int .i64 2)),none⟩]
@[reducible] def text_Mean.r10 : List MOp:=[⟨some 2,.mov (.c (.str ⟨#[]⟩)),none⟩,⟨some 3,.mov (.c (.bool false)),none⟩]
@[reducible] def text_Mean.r11 : List MOp:=[⟨some 29,.mov (.s 4),none⟩,⟨some 30,.strsl (.s 29) none (some (.c (.int .i64 2))),none⟩,⟨some 31,.call false [] 348 [(.s 30),(.c (.int .i64 16)),(.c (.int .i64 8))],none⟩,⟨some 28,.mov (.s 31),none⟩,⟨some 32,.ext (.s 28) 0,none⟩,⟨some 33,.ext (.s 28) 1,none⟩,⟨some 8,.mov (.s 32),none⟩,⟨some 9,.mov (.s 33),none⟩]
@[reducible] def text_Mean.r12 : List MOp:=[⟨some 34,.mov (.s 9),none⟩,⟨some 35,.eqif true (.s 34) (.c (.iface false)),none⟩]
@[reducible] def text_Mean.r13 : List MOp:=[⟨some 2,.mov (.c (.str ⟨#[]⟩)),none⟩,⟨some 3,.mov (.c (.bool false)),none⟩]
@[reducible] def text_Mean.r14 : List MOp:=[⟨some 36,.mov (.s 8),none⟩,⟨some 37,.conv .u8 (.s 36),none⟩,⟨some 38,.mov (.s 4),none⟩,⟨some 39,.strsl (.s 38) (some (.c (.int .i64 2))) none,none⟩,⟨some 7,.mov (.s 37),none⟩,⟨some 4,.mov (.s 39),none⟩]
@[reducible] def text_Mean.r15 : List MOp:=[⟨some 40,.mov (.s 6),none⟩,⟨some 41,.mov (.s 7),none⟩,⟨some 42,.bslice false tU8 1 [(0,(.s 41))],none⟩,⟨some 43,.append false [] tU8 (.s 40) (.s 42),none⟩,⟨some 6,.mov (.s 43),none⟩]
@[reducible] def text_Mean.r16 : List MOp:=[⟨some 44,.mov (.s 6),none⟩,⟨some 45,.tostr (.s 44),none⟩,⟨some 46,.call false [] 342 [(.s 45)],none⟩,⟨some 47,.mov (.s 0),none⟩,⟨some 48,.bin .neq (.s 46) (.s 47),none⟩]
@[reducible] def text_Mean.r17 : List MOp:=[⟨some 2,.mov (.c (.str ⟨#[]⟩)),none⟩,⟨some 3,.mov (.c (.bool false)),none⟩]
@[reducible] def text_Mean.r18 : List MOp:=[⟨some 49,.mov (.s 6),none⟩,⟨some 50,.tostr (.s 49),none⟩,⟨some 2,.mov (.s 50),none⟩,⟨some 3,.mov (.c (.bool true)),none⟩]
@[reducible] def text_Mean.body : MC:=(.seq (.reg false text_Mean.r0 [2,3]) (.seq (.reg false text_Mean.r1 [10,11,12,13,14]) (.seq (.seq (.reg false text_Mean.r2 [5,15]) (.cond (.s 16) (.seq (.reg false text_Mean.r3 []) .ret) .skip)) (.seq (.reg false text_Mean.r4 []) (.seq (.block 0 (.loop [0,4,6] [43] (.seq (.seq (.reg false text_Mean.r5 [17]) (.cond (.s 18) .skip (.exit 0))) (.block 1 (.seq (.reg false text_Mean.r6 [19,20]) (.seq (.reg false text_Mean.r7 [21,22]) (.seq (.seq (.reg false text_Mean.r8 [23]) (.cond (.s 24) (.seq (.seq (.reg false text_Mean.r9 [25,26]) (.cond (.s 27) (.seq (.reg false text_Mean.r10 []) .ret) .skip)) (.seq (.reg false text_Mean.r11 [28,29,30,31,32,33]) (.seq (.seq (.reg false text_Mean.r12 [9,34]) (.cond (.s 35) (.seq (.reg false text_Mean.r13 []) .ret) .skip)) (.reg true text_Mean.r14 [8,36,37,38,39])))) .skip)) (.reg false text_Mean.r15 [7,40,41,42,43])))))))) (.seq (.seq (.reg false text_Mean.r16 [0,44,45,46,47]) (.cond (.s 48) (.seq (.reg false text_Mean.r17 []) .ret) .skip)) (.seq (.reg false text_Mean.r18 [6,49,50]) .ret)))))))
@[reducible] def text_Mean : MFun:={ params:=1,nfree:=0,res:=[.tmp 2,.tmp 3],body:=text_Mean.body }
@[reducible] def w_textBegun.r0 : List MOp:=[⟨some 0,.mov (.c (.bool false)),none⟩]
@[reducible] def w_textBegun.r1 : List MOp:=[⟨some 6,.call false [] 29 [],none⟩,⟨some 1,.alloc false tImage,none⟩,⟨none,.store tImage [] (.s 1) (.s 6),none⟩]
@[reducible] def w_textBegun.r2 : List MOp:=[⟨some 8,.call false [] 345 [(.c (.str ⟨#[61,97,92,50,48]⟩))],none⟩,⟨some 7,.mov (.s 8),none⟩,⟨some 9,.ext (.s 7) 0,none⟩,⟨some 10,.ext (.s 7) 1,none⟩,⟨some 2,.mov (.s 9),none⟩,⟨some 3,.mov (.s 10),none⟩]
@[reducible] def w_textBegun.r3 : List MOp:=[⟨some 12,.call false [] 345 [(.c (.str ⟨#[97]⟩))],none⟩,⟨some 11,.mov (.s 12),none⟩,⟨some 13,.ext (.s 11) 0,none⟩,⟨some 14,.ext (.s 11) 1,none⟩,⟨some 4,.mov (.s 13),none⟩,⟨some 5,.mov (.s 14),none⟩]
@[reducible] def w_textBegun.r4 : List MOp:=[⟨some 15,.call false [] 340 [(.s 1)],none⟩,⟨some 16,.bin .eql (.s 15) (.c (.str ⟨#[105,110,111,100,101,32,50,32,53,32,49,32,45,49,32,51,10,101,110,116,114,121,32,49,32,50,32,97,32,50,32,53,10,100,97,116,97,32,51,32,53,32,61,120,10]⟩)),none⟩,⟨some 17,.mov (.s 16),none⟩,⟨some 18,.mov (.s 3),some (17,true)⟩,⟨some 19,.pick (.s 17) (.s 18) (.c (.bool false)),none⟩,⟨some 20,.mov (.s 19),none⟩,⟨some 21,.mov (.s 5),some (20,true)⟩,⟨some 22,.un .not (.s 21),some (20,true)⟩,⟨some 23,.pick (.s 20) (.s 22) (.c (.bool false)),none⟩,⟨some 24,.mov (.s 23),none⟩,⟨some 25,.mov (.s 2),some (24,true)⟩,⟨some 26,.bin .eql (.s 25) (.c (.str ⟨#[97,32]⟩)),some (24,true)⟩,⟨some 27,.pick (.s 24) (.s 26) (.c (.bool false)),none⟩,⟨some 28,.mov (.s 27),none⟩,⟨some 29,.call false [] 342 [(.c (.str ⟨#[97,32]⟩))],some (28,true)⟩,⟨some 30,.bin .eql (.s 29) (.c (.str ⟨#[61,97,92,50,48]⟩)),some (28,true)⟩,⟨some 31,.pick (.s 28) (.s 30) (.c (.bool false)),none⟩,⟨some 0,.mov (.s 31),none⟩]
@[reducible] def w_textBegun.body : MC:=(.seq (.reg false w_textBegun.r0 [0]) (.seq (.reg false w_textBegun.r1 [6]) (.seq (.reg false w_textBegun.r2 [7,8,9,10]) (.seq (.reg false w_textBegun.r3 [4,11,12,13,14]) (.seq (.reg false w_textBegun.r4 [1,2,3,5,15,16,17,18,19,20,21,22,23,24,25,26,27,28,29,30,31]) .ret)))))
@[reducible] def w_textBegun : MFun:={ params:=0,nfree:=0,res:=[.tmp 0],body:=w_textBegun.body }
@[reducible] noncomputable def strconv_ParseUint.r0 : List MOp:=[⟨some 3,.prim pPu [(.s 0),(.s 1),(.s 2)],none⟩,⟨some 4,.prim pPe [(.s 0),(.s 1),(.s 2)],none⟩]
@[reducible] noncomputable def strconv_ParseUint.body : MC:=(.seq (.reg false strconv_ParseUint.r0 []) .ret)
@[reducible] noncomputable def strconv_ParseUint : MFun:={ params:=3,nfree:=0,res:=[.tmp 3,.tmp 4],body:=strconv_ParseUint.body }
@[reducible] def strings_CutPrefix.r0 : List MOp:=[⟨some 4,.mov (.c (.str ⟨#[]⟩)),none⟩,⟨some 5,.mov (.c (.bool false)),none⟩]
@[reducible] def strings_CutPrefix.r1 : List MOp:=[⟨some 6,.mov (.s 0),none⟩,⟨some 7,.mov (.s 1),none⟩,⟨some 8,.call false [] 351 [(.s 6),(.s 7)],none⟩,⟨some 9,.ext (.s 8) 0,none⟩,⟨some 10,.ext (.s 8) 1,none⟩,⟨some 4,.mov (.s 9),none⟩,⟨some 5,.mov (.s 10),none⟩]
@[reducible] def strings_CutPrefix.body : MC:=(.seq (.reg false strings_CutPrefix.r0 [4,5]) (.seq (.reg false strings_CutPrefix.r1 [0,1,6,7,8,9,10]) .ret))
@[reducible] def strings_CutPrefix : MFun:={ params:=2,nfree:=0,res:=[.tmp 4,.tmp 5],body:=strings_CutPrefix.body }
@[reducible] noncomputable def strconv_Itoa.r0 : List MOp:=[⟨some 1,.prim pItoa [(.s 0)],none⟩]
@[reducible] noncomputable def strconv_Itoa.body : MC:=(.seq (.reg false strconv_Itoa.r0 []) .ret)
@[reducible] noncomputable def strconv_Itoa : MFun:={ params:=1,nfree:=0,res:=[.tmp 1],body:=strconv_Itoa.body }
@[reducible] def internal_stringslite_CutPrefix.r0 : List MOp:=[⟨some 4,.mov (.c (.str ⟨#[]⟩)),none⟩,⟨some 5,.mov (.c (.bool false)),none⟩]
@[reducible] def internal_stringslite_CutPrefix.r1 : List MOp:=[⟨some 6,.mov (.s 0),none⟩,⟨some 7,.mov (.s 1),none⟩,⟨some 8,.call false [] 352 [(.s 6),(.s 7)],none⟩,⟨some 9,.un .not (.s 8),none⟩]
@[reducible] def internal_stringslite_CutPrefix.r2 : List MOp:=[⟨some 10,.mov (.s 0),none⟩,⟨some 4,.mov (.s 10),none⟩,⟨some 5,.mov (.c (.bool false)),none⟩]
@[reducible] def internal_stringslite_CutPrefix.r3 : List MOp:=[⟨some 11,.mov (.s 0),none⟩,⟨some 12,.mov (.s 1),none⟩,⟨some 13,.len true (.s 12),none⟩,⟨some 14,.strsl (.s 11) (some (.s 13)) none,none⟩,⟨some 4,.mov (.s 14),none⟩,⟨some 5,.mov (.c (.bool true)),none⟩]
@[reducible] def internal_stringslite_CutPrefix.body : MC:=(.seq (.reg false internal_stringslite_CutPrefix.r0 [4,5]) (.seq (.seq (.reg false internal_stringslite_CutPrefix.r1 [6,7,8]) (.cond (.s 9) (.seq (.reg false internal_stringslite_CutPrefix.r2 [0,10]) .ret) .skip)) (.seq (.reg false internal_stringslite_CutPrefix.r3 [0,1,11,12,13,14]) .ret)))
@[reducible] def internal_stringslite_CutPrefix : MFun:={ params:=2,nfree:=0,res:=[.tmp 4,.tmp 5],body:=internal_stringslite_CutPrefix.body }
@[reducible] def internal_stringslite_HasPrefix.r0 : List MOp:=[⟨some 4,.mov (.c (.bool false)),none⟩]
@[reducible] def internal_stringslite_HasPrefix.r1 : List MOp:=[⟨some 5,.mov (.s 0),none⟩,⟨some 6,.len true (.s 5),none⟩,⟨some 7,.mov (.s 1),none⟩,⟨some 8,.len true (.s 7),none⟩,⟨some 9,.bin .geq (.s 6) (.s 8),none⟩,⟨some 10,.mov (.s 9),none⟩,⟨some 11,.mov (.s 0),some (10,true)⟩,⟨some 12,.mov (.s 1),some (10,true)⟩,⟨some 13,.len true (.s 12),some (10,true)⟩,⟨some 14,.strsl (.s 11) none (some (.s 13)),some (10,true)⟩,⟨some 15,.mov (.s 1),some (10,true)⟩,⟨some 16,.bin .eql (.s 14) (.s 15),some (10,true)⟩,⟨some 17,.pick (.s 10) (.s 16) (.c (.bool false)),none⟩,⟨some 4,.mov (.s 17),none⟩]
@[reducible] def internal_stringslite_HasPrefix.body : MC:=(.seq (.reg false internal_stringslite_HasPrefix.r0 [4]) (.seq (.reg false internal_stringslite_HasPrefix.r1 [0,1,5,6,7,8,9,10,11,12,13,14,15,16,17]) .ret))
@[reducible] def internal_stringslite_HasPrefix : MFun:={ params:=2,nfree:=0,res:=[.tmp 4],body:=internal_stringslite_HasPrefix.body }
end Fn
noncomputable def tblT0 : List (Option MFun):=[none,none,none,none,none,none,none,none,none,none,none,none,none,none,none,none,none,none,none,none,none,none,none,none,none,none,none,none,none,none,none,none,none,none,none,none,none,none,none,none,none,none,none,none,none,none,none,none,none,none,none,none,none,none,none,none,none,none,none,none,none,none,none,none,none,none,none,none,none,none,none,none,none,none,none,none,none,none,none,none,none,none,none,none,none,none,none,none,none,none,none,none,none,none,none,none,none,none,none,none,none,none,none,none,none,none,none,none,none,none,none,none,none,none,none,none,none,none,none,none,none,none,none,none,none,none,none,none,none,none,none,none,none,none,none,none,none,none,none,none,some Fn.text_Print,none,some Fn.text_Show,none,none,some Fn.text_Mean,some Fn.w_textBegun,none,some Fn.strconv_ParseUint,some Fn.strings_CutPrefix,some Fn.strconv_Itoa,some Fn.internal_stringslite_CutPrefix,some Fn.internal_stringslite_HasPrefix,none,none]
def mergeT : List (Option MFun) → List (Option MFun) → List (Option MFun)
 | [],c=>c
 | a,[]=>a
 | some x :: a,_ :: c=>some x :: mergeT a c
 | none :: a,b :: c=>b :: mergeT a c
theorem mergeT_ext : ∀ (a c : List (Option MFun)) (i : Nat) (fn : MFun),a.getD i none = some fn → (mergeT a c).getD i none = some fn
 | [],c,i,fn,h=>by simp at h
 | x :: a,[],i,fn,h=>by cases x <;> exact h
 | some x :: a,y :: c,0,fn,h=>h
 | none :: a,y :: c,0,fn,h=>by simp at h
 | some x :: a,y :: c,i + 1,fn,h=>mergeT_ext a c i fn h
 | none :: a,y :: c,i + 1,fn,h=>mergeT_ext a c i fn h
def tblEL : List (Option MFun):=mergeT (mergeT (mergeT (mergeT tblBL (List.replicate 200 none ++ tblDL0)) (List.replicate 200 none ++ tblEL0)) (List.replicate 200 none ++ tblF0)) (List.replicate 200 none ++ tblG0)
def tblE (f : Nat) : Option MFun:=tblEL.getD f none
theorem tbl_E (i : Nat) (fn : MFun) (h : tblB i = some fn) : tblE i = some fn:=mergeT_ext _ _ _ _ (mergeT_ext _ _ _ _ (mergeT_ext _ _ _ _ (mergeT_ext _ _ _ _ h)))
theorem upE {cx : Cx} {fn : MFun} {e : St} {R : AV → HP → Prop} (h : Ok tblB cx fn e R) : Ok tblE cx fn e R:=by
 obtain ⟨n,s',v,hr,hv,hR⟩:=h
 exact ⟨n,s',v,run_ext tbl_E hr,hv,hR⟩
def HP.ob (h : HP) (n : Nat) (t : Ty) (v : AV) : HP:=h.set (.obj n) ⟨t,v⟩
def HP.nw (h : HP) (t : Ty) (v : AV) : HP:={ h.ob h.next t v with next:=h.next + 1 }
section
variable {h : HP} {n m l : Nat} {t u : Ty} {v w : AV} {o : Own}
@[go_sem] theorem look_ob : (h.ob n t v).look (.obj n) = some ⟨t,v⟩:=by simp [HP.ob,HP.set,HP.look]
theorem obj_ob_ne (e : ¬m = n) : (h.ob n t v).obj m = h.obj m:=by simp [HP.ob,HP.set,e]
@[go_sem] theorem look_ob_arg : (h.ob n t v).look (.arg m) = h.look (.arg m):=rfl
@[go_sem] theorem ob_ob : (h.ob n t v).ob n u w = h.ob n u w:=by
 simp only [HP.ob,HP.set]; congr 1; funext k; by_cases e : k = n <;> simp [e]
@[go_sem] theorem push_ob : (h.push l o).ob n t v = (h.ob n t v).push l o:=rfl
@[go_sem] theorem push_nw : (h.push l o).nw t v = (h.nw t v).push l o:=rfl
@[go_sem] theorem next_ob : (h.ob n t v).next = h.next:=rfl
@[go_sem] theorem next_nw : (h.nw t v).next = h.next + 1:=rfl
@[go_sem] theorem next_push : (h.push l o).next = h.next:=rfl
@[go_sem] theorem look_nw : (h.nw t v).look (.obj h.next) = some ⟨t,v⟩:=by simp [HP.nw,HP.ob,HP.set,HP.look]
@[go_sem] theorem push_looko : (h.push l o).look (.obj n) = h.look (.obj n):=rfl
@[go_sem] theorem push_look_arg : (h.push l o).look (.arg n) = h.look (.arg n):=rfl
@[go_sem] theorem nw_ob : (h.nw t v).ob h.next u w = h.nw u w:=by
 simp only [HP.nw,HP.ob,HP.set]; congr 1; funext k; by_cases e : k = h.next <;> simp [e]
end
section
variable {T : Nat → Option MFun} {cx : Cx} {k : List Item} {kill : List Nat} {r : List MOp} {sl : Slots} {own : Own} {h : HP} {Q : St → Prop}
@[go_sem] theorem fg_ob (n l t : Nat) (p : List Nat) (u : Ty) : fg (.ptr (.obj n) p u) (.stk l t) = .ptr (.obj n) p u:=fg_ptr (below_obj n l) p u
@[go_sem] theorem leads_ob (n l t : Nat) (p : List Nat) (u : Ty) : (AV.ptr (.obj n) p u).leads (.stk l t) = false:=leads_ptr (below_obj n l) p u
@[go_sem] theorem fg_obs (n l t : Nat) (a b : Nat) : fg (.sl (.obj n) a b) (.stk l t) = .sl (.obj n) a b:=fg_sl (below_obj n l) a b
@[go_sem] theorem fg_args (n l t : Nat) (a b : Nat) : fg (.sl (.arg n) a b) (.stk l t) = .sl (.arg n) a b:=fg_sl (below_arg n l) a b
@[go_sem] theorem fg_slz (i : Id) : fg .slz i = .slz:=rfl
@[go_sem] theorem leads_slz (i : Id) : AV.slz.leads i = false:=rfl
@[go_sem] theorem leads_nilsl (i : Id) : AV.nilsl.leads i = false:=rfl
@[go_sem] theorem leads_obs (n l t : Nat) (a b : Nat) : (AV.sl (.obj n) a b).leads (.stk l t) = false:=by simp [AV.leads,AV.isAgg,AV.names]
@[go_sem] theorem leads_args (n l t : Nat) (a b : Nat) : (AV.sl (.arg n) a b).leads (.stk l t) = false:=by simp [AV.leads,AV.isAgg,AV.names]
@[go_sem] theorem rd_look (n : Nat) (p : List Nat) : St.rd cx ⟨sl,own,h⟩ (.obj n) p = (h.look (.obj n)).bind fun b=>b.val.at p:=rfl
@[go_sem] theorem rd_look_arg (n : Nat) (p : List Nat) : St.rd cx ⟨sl,own,h⟩ (.arg n) p = (h.look (.arg n)).bind fun b=>b.val.at p:=rfl
@[go_sem] theorem look_obj (n : Nat) : St.look cx ⟨sl,own,h⟩ (.obj n) = h.look (.obj n):=rfl
@[go_sem] theorem look_arg (n : Nat) : St.look cx ⟨sl,own,h⟩ (.arg n) = h.look (.arg n):=rfl
@[go_sem] theorem apart_ob (n m : Nat) (p : List Nat) (u : Ty) : AV.apart (.obj n) (.ptr (.obj m) p u) = !decide (m = n):=by
 simp only [AV.apart]; congr 1; rw [Bool.eq_iff_iff]; simp
@[go_sem] theorem apart_obstk (n l t : Nat) (p : List Nat) (u : Ty) : AV.apart (.obj n) (.ptr (.stk l t) p u) = true:=by simp [AV.apart]
@[go_sem] theorem apart_stkob (n l t : Nat) (p : List Nat) (u : Ty) : AV.apart (.stk l t) (.ptr (.obj n) p u) = true:=apart_ptr (below_obj n l) p u
theorem W_callR {prot : Bool} {f : Nat} {args : List Opd} {d : Option Nat} {fn : MFun} {R : AV → HP → Prop} (hf : T f = some fn) (hp : fn.params = args.length ∧ fn.nfree = 0)
  (hc : Ok T (St.callCx ⟨sl,own,h⟩ cx prot) fn (St.enter (args.map (St.opd ⟨sl,own,h⟩)) (h.push cx.lvl own)) fun v' h'=>∃ h1 : HP,h' = h1.push cx.lvl own ∧ h1.stk = h.stk ∧ R v' h1)
  (hq : ∀ v h1,R v h1 → W T cx (.ops r kill :: k) (St.setd ⟨sl,own,h1⟩ d v) Q) :
  W T cx (.ops (⟨d,.call prot [] f args,none⟩ :: r) kill :: k) ⟨sl,own,h⟩ Q:=by
 refine W_callr hf hp hc ?_
 rintro v h' ⟨h1,rfl,hs,hR⟩
 have : St.pop ⟨sl,own,h⟩ cx.lvl [] (h1.push cx.lvl own) = ⟨sl,own,h1⟩:=by
  simp only [St.pop,HP.pop,HP.push,Own.unveil,if_true]
  congr 1
  cases h1
  simp only at hs
  subst hs
  simp only [HP.mk.injEq,and_true]
  funext l
  by_cases hl : l = cx.lvl <;> simp [hl]
 rw [this]; exact hq v h1 hR
theorem W_forE {α : Type} {keep ko : List Nat} {b : MC} {s : St} (N : Nat) (S : Nat → α → St) (P : Nat → α → Prop) (a0 : α) (h0 : s.keep keep ko = S 0 a0) (p0 : P 0 a0)
  (step : ∀ j a,j ≤ N → P j a → (∀ s' a',j < N → s'.keep keep ko = S (j + 1) a' → P (j + 1) a' → W T cx (.inLoop keep ko b :: k) s' Q) → W T cx (.code b :: .inLoop keep ko b :: k) (S j a) Q) :
  W T cx (.code (.loop keep ko b) :: k) s Q :=
 W_loop N (fun j s=>∃ a,s = S j a ∧ P j a) ⟨a0,h0,p0⟩ fun j s hj hs ih=>by
  obtain ⟨a,rfl,hp⟩:=hs
  exact step j a hj hp fun s' a' hlt he hp'=>ih s' hlt ⟨a',he,hp'⟩
@[go_sem] theorem pickV_sel (c : Bool) (x y : AV) : pickV (.bool c) x y = some (if c = true then x else y):=by cases c <;> rfl
end
structure SStep where
 kind : Int
 dir : Int
 toDir : Int
 p : Int
 name : Str
 to : Str
 text : Str
def SStep.enc (x : SStep) : AV:=.cons (.int .i64 x.kind) (.cons (.int .i64 x.dir) (.cons (.int .i64 x.toDir) (.cons (.int .i64 x.p) (.cons (.str x.name) (.cons (.str x.to) (.cons (.str x.text) .unit))))))
@[go_sem] theorem at_step0 (x : SStep) : x.enc.at [0] = some (.int .i64 x.kind):=rfl
@[go_sem] theorem at_step1 (x : SStep) : x.enc.at [1] = some (.int .i64 x.dir):=rfl
@[go_sem] theorem at_step2 (x : SStep) : x.enc.at [2] = some (.int .i64 x.toDir):=rfl
@[go_sem] theorem at_step3 (x : SStep) : x.enc.at [3] = some (.int .i64 x.p):=rfl
@[go_sem] theorem at_step4 (x : SStep) : x.enc.at [4] = some (.str x.name):=rfl
@[go_sem] theorem at_step5 (x : SStep) : x.enc.at [5] = some (.str x.to):=rfl
@[go_sem] theorem at_step6 (x : SStep) : x.enc.at [6] = some (.str x.text):=rfl
@[go_sem] theorem field_step0 : tStep.field 0 = some tI:=rfl
@[go_sem] theorem field_step1 : tStep.field 1 = some tI:=rfl
@[go_sem] theorem field_step2 : tStep.field 2 = some tI:=rfl
@[go_sem] theorem field_step3 : tStep.field 3 = some tI:=rfl
@[go_sem] theorem field_step4 : tStep.field 4 = some tS:=rfl
@[go_sem] theorem field_step5 : tStep.field 5 = some tS:=rfl
@[go_sem] theorem field_step6 : tStep.field 6 = some tS:=rfl
@[go_sem] theorem fits_step (x : SStep) : (tStep.fits x.enc = true) = True:=eq_true rfl
@[go_sem] theorem fg_step (x : SStep) (i : Id) : fg x.enc i = x.enc:=rfl
@[go_sem] theorem leads_step (x : SStep) (i : Id) : x.enc.leads i = false:=rfl
@[go_sem] theorem isAgg_step (x : SStep) : x.enc.isAgg = true:=rfl
@[go_sem] theorem safe_step (x : SStep) : x.enc.safe = true:=rfl
def room (a b : Img) (d : Int) (s : Str) : Int:=if 0 ≤ slotOf b d s then -1 else freeSlot a b d
structure Fl where
 now : Img
 disk : Img
 stamp : Int
def encF (c : Nat) (st : Int) : AV:=.cons (.ptr (.obj c) [] tCache) (.cons (.int .i64 st) .unit)
@[go_sem] theorem at_F0 (c : Nat) (st : Int) : (encF c st).at [0] = some (.ptr (.obj c) [] tCache):=rfl
@[go_sem] theorem at_F1 (c : Nat) (st : Int) : (encF c st).at [1] = some (.int .i64 st):=rfl
@[go_sem] theorem put_F1 (c : Nat) (st n : Int) : (encF c st).put [1] (.int .i64 n) = some (encF c n):=rfl
@[go_sem] theorem field_F0 : tFiles.field 0 = some tP:=rfl
@[go_sem] theorem field_F1 : tFiles.field 1 = some tI:=rfl
@[go_sem] theorem fits_F (c : Nat) (st : Int) : (tFiles.fits (encF c st) = true) = True:=eq_true rfl
@[go_sem] theorem fitO_ptr (n : Nat) (p : List Nat) (t : Ty) : fitO tP (some (.ptr (.obj n) p t)) = some (.ptr (.obj n) p t):=rfl
@[go_sem] theorem fill_F (c : Nat) : fill tFiles tFiles.zero [(0,.ptr (.obj c) [] tCache)] = some (encF c 0):=rfl
@[go_sem] theorem fits_boxF (c : Nat) (st : Int) (i : Id) : fg (encF c st) i = encF c st:=rfl
@[go_sem] theorem fits_tP (n : Nat) (p : List Nat) (t : Ty) : (tP.fits (.ptr (.obj n) p t) = true) = True:=eq_true rfl
@[go_sem] theorem put_C0 (a b : Img) (p : List Nat) (x : AV) : (encC a b).put (0 :: p) x = (a.enc.put p x).map fun y=>.cons y (.cons b.enc .unit):=rfl
@[go_sem] theorem put_C1 (a b : Img) (p : List Nat) (x : AV) : (encC a b).put (1 :: p) x = (b.enc.put p x).map fun y=>.cons a.enc (.cons y .unit):=by
 show ((b.enc.put p x).map fun y=>AV.cons y .unit).map (fun y=>AV.cons a.enc y) = _
 cases b.enc.put p x <;> rfl
@[go_sem] theorem Cmk (a b : Img) : AV.cons a.enc (.cons b.enc .unit) = encC a b:=rfl
@[go_sem] theorem results_nil {cx : Cx} {s : St} : results cx s [] = some (.tup .unit):=rfl
section
variable {cx : Cx} {h : HP} {f c : Nat} {a b : Img} {st : Int}
def encR (t : Str) (b : Bool) (c : Int) : AV:=.tup (.cons (.str t) (.cons (.bool b) (.cons (.int .i64 c) .unit)))
@[go_sem] theorem fill_step1 (k d p : Int) (s : Str) : fill tStep tStep.zero [(0,.int .i64 k),(1,.int .i64 d),(4,.str s),(3,.int .i64 p)] = some (SStep.enc ⟨k,d,0,p,s,⟨#[]⟩,⟨#[]⟩⟩):=rfl
@[go_sem] theorem encR_mk (t : Str) (b : Bool) (c : Int) : some (AV.tup (.cons (.str t) (.cons (.bool b) (.cons (.int .i64 c) .unit)))) = some (encR t b c):=rfl
end
structure Bd where
 now : Img
 disk : Img
 stamp : Int
 crashes : Int
 files : Int
 counts : Int
 datas : Int
def tailB (s c f n d : Int) : AV:=.cons (.int .i64 s) (.cons (.int .i64 c) (.cons (.int .i64 f) (.cons (.int .i64 n) (.cons (.int .i64 d) .unit))))
def Bd.enc (B : Bd) : AV:=.cons B.now.enc (.cons B.disk.enc (tailB B.stamp B.crashes B.files B.counts B.datas))
@[go_sem] theorem at_B0 (B : Bd) (p : List Nat) : B.enc.at (0 :: p) = B.now.enc.at p:=rfl
@[go_sem] theorem at_B1 (B : Bd) (p : List Nat) : B.enc.at (1 :: p) = B.disk.enc.at p:=rfl
@[go_sem] theorem at_B2 (B : Bd) : B.enc.at [2] = some (.int .i64 B.stamp):=rfl
@[go_sem] theorem at_B3 (B : Bd) : B.enc.at [3] = some (.int .i64 B.crashes):=rfl
@[go_sem] theorem at_B4 (B : Bd) : B.enc.at [4] = some (.int .i64 B.files):=rfl
@[go_sem] theorem at_B5 (B : Bd) : B.enc.at [5] = some (.int .i64 B.counts):=rfl
@[go_sem] theorem at_B6 (B : Bd) : B.enc.at [6] = some (.int .i64 B.datas):=rfl
@[go_sem] theorem put_B0 (B : Bd) (p : List Nat) (x : AV) : B.enc.put (0 :: p) x = (B.now.enc.put p x).map fun y=>.cons y (.cons B.disk.enc (tailB B.stamp B.crashes B.files B.counts B.datas)):=rfl
@[go_sem] theorem put_B1 (B : Bd) (p : List Nat) (x : AV) : B.enc.put (1 :: p) x = (B.disk.enc.put p x).map fun y=>.cons B.now.enc (.cons y (tailB B.stamp B.crashes B.files B.counts B.datas)):=by
 show ((B.disk.enc.put p x).map fun y=>AV.cons y (tailB B.stamp B.crashes B.files B.counts B.datas)).map (fun y=>AV.cons B.now.enc y) = _
 cases B.disk.enc.put p x <;> rfl
@[go_sem] theorem put_B2 (B : Bd) (x : Int) : B.enc.put [2] (.int .i64 x) = some (Bd.enc { B with stamp:=x }):=rfl
@[go_sem] theorem put_B3 (B : Bd) (x : Int) : B.enc.put [3] (.int .i64 x) = some (Bd.enc { B with crashes:=x }):=rfl
@[go_sem] theorem put_B4 (B : Bd) (x : Int) : B.enc.put [4] (.int .i64 x) = some (Bd.enc { B with files:=x }):=rfl
@[go_sem] theorem put_B5 (B : Bd) (x : Int) : B.enc.put [5] (.int .i64 x) = some (Bd.enc { B with counts:=x }):=rfl
@[go_sem] theorem put_B6 (B : Bd) (x : Int) : B.enc.put [6] (.int .i64 x) = some (Bd.enc { B with datas:=x }):=rfl
@[go_sem] theorem Bmk (a b : Img) (s c f n d : Int) : AV.cons a.enc (.cons b.enc (tailB s c f n d)) = Bd.enc ⟨a,b,s,c,f,n,d⟩:=rfl
@[go_sem] theorem field_B0 : tBed.field 0 = some tImage:=rfl
@[go_sem] theorem field_B1 : tBed.field 1 = some tImage:=rfl
@[go_sem] theorem field_B2 : tBed.field 2 = some tI:=rfl
@[go_sem] theorem field_B3 : tBed.field 3 = some tI:=rfl
@[go_sem] theorem field_B4 : tBed.field 4 = some tI:=rfl
@[go_sem] theorem field_B5 : tBed.field 5 = some tI:=rfl
@[go_sem] theorem field_B6 : tBed.field 6 = some tI:=rfl
theorem fits_B' (B : Bd) : tBed.fits B.enc = true:=by
 show (Ty.cons tImage (.cons tImage _)).fits (AV.cons _ (.cons _ _)) = true
 simp only [fits_cons,fits_img',true_and]
 rfl
@[go_sem] theorem fits_B (B : Bd) : (tBed.fits B.enc = true) = True:=eq_true (fits_B' B)
@[go_sem] theorem fg_B (B : Bd) (i : Id) : fg B.enc i = B.enc:=rfl
@[go_sem] theorem leads_B (B : Bd) (i : Id) : B.enc.leads i = false:=rfl
theorem zero_bed : tBed.zero = Bd.enc ⟨.zero,.zero,0,0,0,0,0⟩:=by
 show AV.cons tImage.zero (.cons tImage.zero _) = _
 rw [zero_img]; rfl
@[go_sem] theorem fill_B (a b : Img) : fill tBed tBed.zero [(0,a.enc),(1,b.enc)] = some (Bd.enc ⟨a,b,0,0,0,0,0⟩):=by
 rw [zero_bed]
 simp only [fill]
 show (if tImage.fits a.enc = true then _ else _) = _
 rw [if_pos (fits_img' a),put_B0,put_nil,Option.map_some,Bmk]
 show (if tImage.fits b.enc = true then _ else _) = _
 rw [if_pos (fits_img' b),put_B1,put_nil,Option.map_some,Bmk]
def Bd.fl (B : Bd) : Fl:=⟨B.now,B.disk,B.stamp⟩
section
variable {T : Nat → Option MFun} {cx : Cx} {k : List Item} {kill : List Nat} {r : List MOp} {sl : Slots} {own : Own} {h : HP} {Q : St → Prop}
def WBX (T : Nat → Option MFun) (cx : Cx) (t : Ty) (v : AV) (d : Nat) (r : List MOp) (kill : List Nat) (k : List Item) (sl : Slots) (own : Own) (h : HP) (Q : St → Prop) : Prop :=
 t.fits v = true ∧ W T cx (.ops r kill :: k) ⟨sl.set d (.ptr (.obj h.next) [] t),own,h.nw t v⟩ Q
@[go_sem] theorem WBX_bed {B : Bd} {d : Nat} : WBX T cx tBed B.enc d r kill k sl own h Q = W T cx (.ops r kill :: k) ⟨sl.set d (.ptr (.obj h.next) [] tBed),own,h.nw tBed B.enc⟩ Q:=by
 simp only [WBX,fits_B,true_and]
@[go_sem] theorem WBX_files {c : Nat} {n : Int} {d : Nat} : WBX T cx tFiles (encF c n) d r kill k sl own h Q = W T cx (.ops r kill :: k) ⟨sl.set d (.ptr (.obj h.next) [] tFiles),own,h.nw tFiles (encF c n)⟩ Q:=by
 simp only [WBX,fits_F,true_and]
theorem W_boxX {d : Nat} {t : Ty} {x : Opd} : W T cx (.ops (⟨some d,.box true t x,none⟩ :: r) kill :: k) ⟨sl,own,h⟩ Q = WBX T cx t (St.opd ⟨sl,own,h⟩ x) d r kill k sl own h Q:=by
 rw [W_op rfl,evOp]
 simp only [evK,WBX]
 by_cases h1 : t.fits (St.opd ⟨sl,own,h⟩ x) = true
 ·simp only [h1,true_and,if_true]; rfl
 ·simp only [h1,false_and,Bool.false_eq_true,if_false]; rfl
@[go_sem] theorem W_boxBed {d : Nat} {x : Opd} : W T cx (.ops (⟨some d,.box true tBed x,none⟩ :: r) kill :: k) ⟨sl,own,h⟩ Q = WBX T cx tBed (St.opd ⟨sl,own,h⟩ x) d r kill k sl own h Q:=W_boxX
@[go_sem] theorem W_boxFiles {d : Nat} {x : Opd} : W T cx (.ops (⟨some d,.box true tFiles x,none⟩ :: r) kill :: k) ⟨sl,own,h⟩ Q = WBX T cx tFiles (St.opd ⟨sl,own,h⟩ x) d r kill k sl own h Q:=W_boxX
@[go_sem] theorem mk1_nw (a b : Img) : h.mk1 a b = h.nw tCache (encC a b):=rfl
end
structure Fr (h h' : HP) (S : List Nat) : Prop where
 stk : h'.stk = h.stk
 arg : h'.arg = h.arg
 next : h.next ≤ h'.next
 same : ∀ n,n < h.next → n ∉ S → h'.obj n = h.obj n
theorem Fr.refl (h : HP) (S : List Nat) : Fr h h S:=⟨rfl,rfl,Nat.le_refl _,fun _ _ _=>rfl⟩
theorem Fr.trans {h h1 h2 : HP} {S : List Nat} (a : Fr h h1 S) (b : Fr h1 h2 S) : Fr h h2 S :=
 ⟨b.stk.trans a.stk,b.arg.trans a.arg,Nat.le_trans a.next b.next,fun n hn hs=>(b.same n (by have:=a.next; omega) hs).trans (a.same n hn hs)⟩
theorem Fr.ob {h : HP} {n : Nat} {t : Ty} {v : AV} {S : List Nat} (hn : n ∈ S) : Fr h (h.ob n t v) S :=
 ⟨rfl,rfl,Nat.le_refl _,fun k _ hs=>obj_ob_ne fun e=>hs (e ▸ hn)⟩
theorem Fr.nw {h : HP} {t : Ty} {v : AV} {S : List Nat} : Fr h (h.nw t v) S :=
 ⟨rfl,rfl,Nat.le_succ _,fun k hk _=>by simp [HP.nw,HP.ob,HP.set]; omega⟩
theorem Fr.mono {h h' : HP} {S S' : List Nat} (a : Fr h h' S) (hs : ∀ n ∈ S,n < h.next → n ∈ S') : Fr h h' S' :=
 ⟨a.stk,a.arg,a.next,fun n hn hn'=>a.same n hn fun e=>hn' (hs n e hn)⟩
theorem Fr.look {h h' : HP} {S : List Nat} (a : Fr h h' S) {n : Nat} {b : Option Blk} (hn : n < h.next) (hs : n ∉ S) (e : h.look (.obj n) = b) : h'.look (.obj n) = b:=by
 rw [← e]; exact a.same n hn hs
section
variable {T : Nat → Option MFun} {cx : Cx} {k : List Item} {kill : List Nat} {r : List MOp} {sl : Slots} {own : Own} {h : HP} {Q : St → Prop}
theorem W_callF {S : List Nat} {R : AV → HP → Prop} {prot : Bool} {f : Nat} {args : List Opd} {d : Option Nat} {fn : MFun} (hf : T f = some fn) (hp : fn.params = args.length ∧ fn.nfree = 0)
  (hc : Ok T (St.callCx ⟨sl,own,h⟩ cx prot) fn (St.enter (args.map (St.opd ⟨sl,own,h⟩)) (h.push cx.lvl own)) fun v' h'=>Fr (h.push cx.lvl own) h' S ∧ R v' h')
  (hR : ∀ v h1,R v (HP.push h1 cx.lvl own) → R v h1)
  (hq : ∀ v h1,Fr h h1 S → R v h1 → W T cx (.ops r kill :: k) (St.setd ⟨sl,own,h1⟩ d v) Q) :
  W T cx (.ops (⟨d,.call prot [] f args,none⟩ :: r) kill :: k) ⟨sl,own,h⟩ Q:=by
 refine W_callR (R:=fun v h1=>Fr h h1 S ∧ R v h1) hf hp (hc.mono fun v h' e=>?_) fun v h1 e=>hq v h1 e.1 e.2
 obtain ⟨e1,e2⟩:=e
 have hh : h' = HP.push ⟨h.stk,h'.obj,h'.next,h'.arg⟩ cx.lvl own:=by
  have:=e1.stk
  cases h'
  simp only at this
  subst this
  rfl
 refine ⟨⟨h.stk,h'.obj,h'.next,h'.arg⟩,hh,rfl,⟨rfl,e1.arg,e1.next,e1.same⟩,hR _ _ (hh ▸ e2)⟩
end
@[go_sem] theorem maxV_int (k : IntKind) (a b : Int) : maxV (.int k a) (.int k b) = some (.int k (if a < b then b else a)):=by simp [maxV]
@[go_sem] theorem fits_tInodes (v : Vector Ino 8) : (tInodes.fits (encV Ino.enc v) = true) = True:=fits_inodes v
structure Lf where
 fl : Fl
 a : Int
 b : Int
 c : Int
 n : Int
def Lf.new : Lf:=⟨⟨.blank,.blank,0⟩,0,0,0,0⟩
def encLi (f : Nat) (a b c n : Int) : AV:=.cons (.ptr (.obj f) [] tFiles) (.cons (encLost a b c) (.cons (.int .i64 n) .unit))
@[go_sem] theorem at_Li0 (f : Nat) (a b c n : Int) : (encLi f a b c n).at [0] = some (.ptr (.obj f) [] tFiles):=rfl
@[go_sem] theorem at_Li1 (f : Nat) (a b c n : Int) : (encLi f a b c n).at [1] = some (encLost a b c):=rfl
@[go_sem] theorem at_Li2 (f : Nat) (a b c n : Int) : (encLi f a b c n).at [2] = some (.int .i64 n):=rfl
@[go_sem] theorem put_Li0 (f g : Nat) (a b c n : Int) : (encLi f a b c n).put [0] (.ptr (.obj g) [] tFiles) = some (encLi g a b c n):=rfl
@[go_sem] theorem put_Li1 (f : Nat) (a b c n a' b' c' : Int) : (encLi f a b c n).put [1] (encLost a' b' c') = some (encLi f a' b' c' n):=rfl
@[go_sem] theorem put_Li2 (f : Nat) (a b c n n' : Int) : (encLi f a b c n).put [2] (.int .i64 n') = some (encLi f a b c n'):=rfl
@[go_sem] theorem field_Li0 : tLife.field 0 = some tP:=rfl
@[go_sem] theorem field_Li1 : tLife.field 1 = some tLost:=rfl
@[go_sem] theorem field_Li2 : tLife.field 2 = some tI:=rfl
@[go_sem] theorem fill_Li (f : Nat) : fill tLife tLife.zero [(0,.ptr (.obj f) [] tFiles)] = some (encLi f 0 0 0 0):=rfl
@[go_sem] theorem fits_Li (f : Nat) (a b c n : Int) : (tLife.fits (encLi f a b c n) = true) = True:=eq_true rfl
section
variable {T : Nat → Option MFun} {cx : Cx} {k : List Item} {kill : List Nat} {r : List MOp} {sl : Slots} {own : Own} {h : HP} {Q : St → Prop}
@[go_sem] theorem WBX_life {f : Nat} {a b c n : Int} {d : Nat} : WBX T cx tLife (encLi f a b c n) d r kill k sl own h Q = W T cx (.ops r kill :: k) ⟨sl.set d (.ptr (.obj h.next) [] tLife),own,h.nw tLife (encLi f a b c n)⟩ Q:=by
 simp only [WBX,fits_Li,true_and]
@[go_sem] theorem W_boxLife {d : Nat} {x : Opd} : W T cx (.ops (⟨some d,.box true tLife x,none⟩ :: r) kill :: k) ⟨sl,own,h⟩ Q = WBX T cx tLife (St.opd ⟨sl,own,h⟩ x) d r kill k sl own h Q:=W_boxX
end
structure LifeAt (h : HP) (p f c : Nat) (L : Lf) : Prop where
 li : h.look (.obj p) = some ⟨tLife,encLi f L.a L.b L.c L.n⟩
 fi : h.look (.obj f) = some ⟨tFiles,encF c L.fl.stamp⟩
 ca : h.look (.obj c) = some ⟨tCache,encC L.fl.now L.fl.disk⟩
 pf : ¬p = f
 fc : ¬f = c
 pc : ¬p = c
 pn : p < h.next
 fn : f < h.next
 cn : c < h.next
def LifeTo (h h' : HP) (p f c : Nat) (L : Lf) : Prop:=∃ f' c',LifeAt h' p f' c' L ∧ ((f' = f ∧ c' = c) ∨ (h.next ≤ f' ∧ h.next ≤ c'))
theorem LifeAt.pop {h : HP} {p f c l : Nat} {o : Own} {L : Lf} (a : LifeAt (h.push l o) p f c L) : LifeAt h p f c L:=⟨a.li,a.fi,a.ca,a.pf,a.fc,a.pc,a.pn,a.fn,a.cn⟩
theorem LifeAt.push {h : HP} {p f c l : Nat} {o : Own} {L : Lf} (a : LifeAt h p f c L) : LifeAt (h.push l o) p f c L:=⟨a.li,a.fi,a.ca,a.pf,a.fc,a.pc,a.pn,a.fn,a.cn⟩
theorem LifeTo.pop {h h1 : HP} {p f c l l' : Nat} {o o' : Own} {L : Lf} (a : LifeTo (h.push l' o') (h1.push l o) p f c L) : LifeTo h h1 p f c L:=by
 obtain ⟨f',c',a,b⟩:=a
 exact ⟨f',c',a.pop,b⟩
theorem LifeTo.push {h h1 : HP} {p f c l : Nat} {o : Own} {L : Lf} (a : LifeTo h h1 p f c L) : LifeTo (h.push l o) h1 p f c L:=a
def sLt (a b : Str) : Bool:=Op.bytesLess a.toList b.toList
theorem bLt_asymm : ∀ l m : List UInt8,Op.bytesLess l m = true → Op.bytesLess m l = false
 | _,[],h=>by simp [Op.bytesLess] at h
 | [],b :: m,_=>rfl
 | a :: l,b :: m,h=>by
  simp only [Op.bytesLess,Bool.or_eq_true,Bool.and_eq_true,decide_eq_true_eq,beq_iff_eq] at h
  simp only [Op.bytesLess,Bool.or_eq_false_iff,decide_eq_false_iff_not]
  rcases h with h | ⟨rfl,h⟩
  ·refine ⟨fun e=>absurd (UInt8.lt_trans h e) (UInt8.lt_irrefl _),?_⟩
   have : ¬b = a:=fun e=>by subst e; exact absurd h (UInt8.lt_irrefl _)
   simp [this]
  ·exact ⟨UInt8.lt_irrefl _,by simp [bLt_asymm l m h]⟩
theorem bLt_total : ∀ l m : List UInt8,Op.bytesLess l m = false → Op.bytesLess m l = false → l = m
 | [],[],_,_=>rfl
 | [],_ :: _,h,_=>by simp [Op.bytesLess] at h
 | _ :: _,[],_,h=>by simp [Op.bytesLess] at h
 | a :: l,b :: m,h,k=>by
  simp only [Op.bytesLess,Bool.or_eq_false_iff,decide_eq_false_iff_not] at h k
  have e : a = b:=by
   have h1:=h.1; have k1:=k.1
   rw [UInt8.lt_iff_toNat_lt] at h1 k1
   exact UInt8.toNat_inj.1 (by omega)
  subst e
  simp at h k
  rw [bLt_total l m h k]
theorem bLt_trans : ∀ l m n : List UInt8,Op.bytesLess l m = true → Op.bytesLess m n = true → Op.bytesLess l n = true
 | _,[],_,h,_=>by simp [Op.bytesLess] at h
 | _,_ :: _,[],_,h=>by simp [Op.bytesLess] at h
 | [],_ :: _,_ :: _,_,_=>rfl
 | a :: l,b :: m,c :: n,h,k=>by
  simp only [Op.bytesLess,Bool.or_eq_true,Bool.and_eq_true,decide_eq_true_eq,beq_iff_eq] at h k ⊢
  rcases h with h | ⟨rfl,h⟩
  ·rcases k with k | ⟨rfl,k⟩
   ·exact .inl (UInt8.lt_trans h k)
   ·exact .inl h
  ·rcases k with k | ⟨rfl,k⟩
   ·exact .inl k
   ·exact .inr ⟨rfl,bLt_trans l m n h k⟩
theorem str_toList {a b : Str} : a.toList = b.toList ↔ a = b:=by
 constructor
 ·intro h
  rw [bytes_list,bytes_list] at h
  cases a; cases b
  simp only [ByteArray.mk.injEq]
  exact Array.toList_inj.1 h
 ·rintro rfl; rfl
theorem sLt_asymm {a b : Str} (h : sLt a b = true) : sLt b a = false:=bLt_asymm _ _ h
theorem sLt_trans {a b c : Str} (h : sLt a b = true) (k : sLt b c = true) : sLt a c = true:=bLt_trans _ _ _ h k
theorem sLt_total {a b : Str} (h : sLt a b = false) (k : sLt b a = false) : a = b:=str_toList.1 (bLt_total _ _ h k)
def sLe (a b : Str) : Bool:=!sLt b a
theorem sLe_trans {a b c : Str} (h : sLe a b = true) (k : sLe b c = true) : sLe a c = true:=by
 simp only [sLe,Bool.not_eq_true'] at h k ⊢
 cases e : sLt c a with
 | false=>rfl
 | true =>
  cases e2 : sLt b c with
  | true=>rw [sLt_trans e2 e] at h; exact h
  | false =>
   have : b = c:=sLt_total e2 k
   subst this
   rw [e] at h; exact h
def encS (l : List Str) : AV:=.ofList (l.map AV.str)
theorem encS_toList (l : List Str) : (encS l).toList = some (l.map AV.str):=by
 simp only [encS,AV.ofList,AV.toList]
 congr 1
 exact List.ext_getElem (by simp) (by simp)
theorem encS_fits (l : List Str) {n : Nat} (h : n = l.length) : (Ty.arr n tS).fits (encS l) = true:=by
 subst h
 simp [encS,AV.ofList,Ty.fits,tS,LK.fits,AV.safe]
def txt (l : List Str) (i : Nat) : Str:=l.getD i ⟨#[]⟩
@[go_sem] theorem encS_at (l : List Str) {i : Nat} (h : i < l.length) : (encS l).at [i] = some (.str (txt l i)):=by
 simp [encS,AV.ofList,AV.at,h,txt]
theorem txt_set (l : List Str) (i : Nat) (s : Str) (j : Nat) : txt (l.set i s) j = if j = i ∧ i < l.length then s else txt l j:=by
 simp only [txt,List.getD_eq_getElem?_getD,List.getElem?_set]
 by_cases e : i = j
 ·subst e
  by_cases h : i < l.length
  ·simp [h]
  ·simp [h]
 ·have : ¬j = i:=fun h=>e h.symm
  simp [e,this]
theorem txt_get {l : List Str} {i : Nat} (h : i < l.length) : txt l i = l[i]:=by simp [txt,h]
theorem arr_ofList {n : Nat} {f : Fin n → AV} {l : List AV} (hl : l.length = n) (h : ∀ i (hi : i < n),f ⟨i,hi⟩ = l[i]'(by omega)) : AV.arr n f = AV.ofList l:=by
 subst hl
 simp only [AV.ofList]
 congr 1
 funext i
 exact h i.val i.isLt
@[go_sem] theorem encS_put (l : List Str) {i : Nat} (h : i < l.length) (s : Str) : (encS l).put [i] (.str s) = some (encS (l.set i s)):=by
 simp only [encS,AV.ofList,AV.put,List.length_map,h,dite_true,Option.map_some]
 congr 1
 refine arr_ofList (by simp) fun j hj=>?_
 simp only [List.get_eq_getElem,List.getElem_map,List.getElem_set]
 by_cases e : j = i
 ·subst e; simp
 ·have : ¬i = j:=fun h=>e h.symm
  simp [e,this]
@[go_sem] theorem evStr_lss (a b : Str) : evStr .lss a b = some (.bool (sLt a b)):=rfl
@[go_sem] theorem evStr_gtr (a b : Str) : evStr .gtr a b = some (.bool (!(sLt a b || decide (a = b)))):=by
 show some (AV.bool (!(Op.bytesLess a.toList b.toList || a.toList == b.toList))) = _
 rw [bytes_eq]; rfl
section
variable {T : Nat → Option MFun} {cx : Cx} {k : List Item} {kill : List Nat} {r : List MOp} {sl : Slots} {own : Own} {h : HP} {Q : St → Prop}
@[go_sem] theorem sidxV_int {t : Ty} {j : Id} {off len : Nat} {z : Int} {kk : IntKind} {L : Id → Option Blk} (h0 : 0 ≤ z) (hm : z < len) : sidxV t (.sl j off len) (.int kk z) L = sidxB t j (off + z.toNat) (L j):=by
 simp only [sidxV,toIx]; rw [if_pos ⟨by omega,by omega⟩]
@[go_sem] theorem toNat_succ (p : Nat) : ((p : Int) + 1).toNat = p + 1:=by omega
@[go_sem] theorem fg_func (f : Nat) (i : Id) : fg (.func f .unit) i = .func f .unit:=by simp [fg,AV.leads,AV.isAgg,AV.names]
@[go_sem] theorem leads_func (f : Nat) (i : Id) : (AV.func f .unit).leads i = false:=by simp [AV.leads,AV.isAgg,AV.names]
end
structure PermIn (l m : List Str) (a b : Nat) : Prop where
 perm : m.Perm l
 out : ∀ i,(i < a ∨ b ≤ i) → txt m i = txt l i
theorem PermIn.refl (l : List Str) (a b : Nat) : PermIn l l a b:=⟨List.Perm.refl _,fun _ _=>rfl⟩
theorem PermIn.len {l m : List Str} {a b : Nat} (h : PermIn l m a b) : m.length = l.length:=h.perm.length_eq
theorem PermIn.trans {l m n : List Str} {a b : Nat} (h : PermIn l m a b) (k : PermIn m n a b) : PermIn l n a b:=⟨k.perm.trans h.perm,fun i hi=>(k.out i hi).trans (h.out i hi)⟩
def swapL (l : List Str) (i j : Nat) : List Str:=(l.set i (txt l j)).set j (txt l i)
theorem txt_swap {l : List Str} {i j : Nat} (hi : i < l.length) (hj : j < l.length) (x : Nat) : txt (swapL l i j) x = if x = j then txt l i else if x = i then txt l j else txt l x:=by
 simp only [swapL,txt_set,List.length_set,hi,hj,and_true]
theorem swap_perm {l : List Str} {i j : Nat} (hi : i < l.length) (hj : j < l.length) : (swapL l i j).Perm l:=by
 rw [swapL,txt_get hi,txt_get hj]
 exact List.set_set_perm hi hj
theorem PermIn.swap {l : List Str} {a b i j : Nat} (hi : i < l.length) (hj : j < l.length) (h1 : a ≤ i ∧ i < b) (h2 : a ≤ j ∧ j < b) : PermIn l (swapL l i j) a b :=
 ⟨swap_perm hi hj,fun x hx=>by
  rw [txt_swap hi hj,if_neg (by omega),if_neg (by omega)]⟩
def SortedIn (l : List Str) (a b : Nat) : Prop:=∀ x y,a ≤ x → x < y → y < b → sLe (txt l x) (txt l y) = true
def SinkIn (l : List Str) (a i j : Nat) : Prop:=(∀ x y,a ≤ x → x < y → y ≤ i → ¬x = j → ¬y = j → sLe (txt l x) (txt l y) = true) ∧ ∀ y,j < y → y ≤ i → sLe (txt l j) (txt l y) = true
theorem sLe_of_lt {a b : Str} (h : sLt a b = true) : sLe a b = true:=by simp [sLe,sLt_asymm h]
theorem SinkIn.start {l : List Str} {a i : Nat} (h : SortedIn l a i) : SinkIn l a i i:=⟨fun x y hx hy hi hxi hyi=>h x y hx hy (by omega),fun y h1 h2=>by omega⟩
theorem SinkIn.step {l : List Str} {a i j : Nat} (h : SinkIn l a i (j + 1)) (hj : a ≤ j) (hi : j + 1 ≤ i) (hl : i < l.length) (hlt : sLt (txt l (j + 1)) (txt l j) = true) : SinkIn (swapL l (j + 1) j) a i j:=by
 have ts:=txt_swap (l:=l) (i:=j + 1) (j:=j) (by omega) (by omega)
 refine ⟨fun x y hx hxy hyi hxj hyj=>?_,fun y hy hyi=>?_⟩
 ·rw [ts x,ts y,if_neg hxj,if_neg hyj]
  by_cases e1 : x = j + 1
  ·rw [if_pos e1,if_neg (by omega)]
   exact h.1 j y hj (by omega) hyi (by omega) (by omega)
  ·rw [if_neg e1]
   by_cases e2 : y = j + 1
   ·rw [if_pos e2]
    exact h.1 x j hx (by omega) (by omega) (by omega) (by omega)
   ·rw [if_neg e2]
    exact h.1 x y hx hxy hyi (by omega) (by omega)
 ·rw [ts j,ts y,if_pos rfl,if_neg (by omega)]
  by_cases e2 : y = j + 1
  ·rw [if_pos e2]; exact sLe_of_lt hlt
  ·rw [if_neg e2]; exact h.2 y (by omega) hyi
theorem SinkIn.low {l : List Str} {a i : Nat} (h : SinkIn l a i a) : SortedIn l a (i + 1):=fun x y hx hxy hy=>by
 by_cases e : x = a
 ·subst e; exact h.2 y hxy (by omega)
 ·exact h.1 x y hx hxy (by omega) e (by omega)
theorem SinkIn.rest {l : List Str} {a i j : Nat} (h : SinkIn l a i (j + 1)) (hj : a ≤ j) (hge : sLt (txt l (j + 1)) (txt l j) = false) : SortedIn l a (i + 1):=fun x y hx hxy hy=>by
 have hle : sLe (txt l j) (txt l (j + 1)) = true:=by simp [sLe,hge]
 by_cases e : x = j + 1
 ·subst e; exact h.2 y hxy (by omega)
 ·by_cases e2 : y = j + 1
  ·subst e2
   by_cases e3 : x = j
   ·subst e3; exact hle
   ·by_cases e4 : j ≤ i
    ·exact sLe_trans (h.1 x j hx (by omega) e4 e (by omega)) hle
    ·omega
  ·exact h.1 x y hx hxy (by omega) e e2
def HP.dl (h : HP) (q : Nat) : HP:={ h with obj:=fun k=>if k = q then none else h.obj k }
theorem Fr.dl {h h1 : HP} {q : Nat} {S : List Nat} (a : Fr h h1 S) (hq : h.next ≤ q) : Fr h (h1.dl q) S :=
 ⟨a.stk,a.arg,a.next,fun n hn hs=>by
  show (if n = q then none else h1.obj n) = _
  rw [if_neg (by omega)]; exact a.same n hn hs⟩
def SlF (h h1 : HP) (v : AV) (l : List Str) : Prop:=(v = .nilsl ∧ l = []) ∨ ∃ q,v = .sl (.obj q) 0 l.length ∧ h.next ≤ q ∧ q < h1.next ∧ h1.look (.obj q) = some ⟨.arr l.length tS,encS l⟩
section
variable {T : Nat → Option MFun} {cx : Cx} {k : List Item} {kill : List Nat} {r : List MOp} {sl : Slots} {own : Own} {h : HP} {Q : St → Prop}
def WBs (T : Nat → Option MFun) (cx : Cx) (v : AV) (d : Nat) (r : List MOp) (kill : List Nat) (k : List Item) (sl : Slots) (own : Own) (h : HP) (Q : St → Prop) : Prop :=
 onO (fill (.arr 1 tS) (Ty.arr 1 tS).zero [(0,v)]) fun w=>W T cx (.ops r kill :: k) ⟨(Slots.forget sl (.stk cx.lvl d)).set d (.sl (.stk cx.lvl d) 0 1),own.set d ⟨.arr 1 tS,w⟩,h⟩ Q
theorem fill1s (s : Str) : fill (.arr 1 tS) (Ty.arr 1 tS).zero [(0,.str s)] = some (encS [s]):=by
 simp only [fill,Ty.part,Nat.lt_one_iff,if_true,fits_tS,Ty.zero,AV.put,Nat.zero_lt_one,dite_true,put_nil,Option.map_some,encS,AV.ofList]
 congr 2
 funext j
 match j with
 | ⟨0,_⟩=>rfl
@[go_sem] theorem WBs_str {s : Str} {d : Nat} : WBs T cx (.str s) d r kill k sl own h Q = W T cx (.ops r kill :: k) ⟨(Slots.forget sl (.stk cx.lvl d)).set d (.sl (.stk cx.lvl d) 0 1),own.set d ⟨.arr 1 tS,encS [s]⟩,h⟩ Q:=by
 simp only [WBs,fill1s,onO]
@[go_sem] theorem W_bslice1s {d : Nat} {x : Opd} : W T cx (.ops (⟨some d,.bslice false tS 1 [(0,x)],none⟩ :: r) kill :: k) ⟨sl,own,h⟩ Q = WBs T cx (St.opd ⟨sl,own,h⟩ x) d r kill k sl own h Q:=by
 rw [W_op rfl,evOp]
 simp only [evK,WBs,List.map_cons,List.map_nil]
 cases fill (.arr 1 tS) (Ty.arr 1 tS).zero [(0,St.opd ⟨sl,own,h⟩ x)] <;> rfl
def WAs (T : Nat → Option MFun) (cx : Cx) (x : AV) (add : Option (List AV)) (d : Nat) (r : List MOp) (kill : List Nat) (k : List Item) (sl : Slots) (own : Own) (h : HP) (Q : St → Prop) : Prop :=
 onO add fun add=>onO (evAppend (St.look cx ⟨sl,own,h⟩) tS x add) fun e=>onO (applyEff cx (some d) true ⟨sl,own,h⟩ e) fun p=>W T cx (.ops r kill :: k) (p.2.setd (some d) p.1) Q
def elemsS (b : Option Blk) (len : Nat) : Option (List AV):=match b with
 | some ⟨.arr _ t',v⟩=>match v.toList with
   | some l=>if tS = t' ∧ len ≤ l.length then some (l.take len) else none
   | none=>none
 | _=>none
@[go_sem] theorem elems_slS (L : Id → Option Blk) (j : Id) (len : Nat) : elems L tS (.sl j 0 len) = elemsS (L j) len:=by
 simp only [elems,elemsS,Nat.zero_add,List.drop_zero]
 cases L j with
 | none=>rfl
 | some b=>obtain ⟨bt,bv⟩:=b; cases bt <;> rfl
@[go_sem] theorem elemsS_all (l : List Str) (n : Nat) : elemsS (some ⟨.arr n tS,encS l⟩) l.length = some (l.map AV.str):=by
 have : List.take l.length (List.map AV.str l) = List.map AV.str l:=List.take_of_length_le (by simp)
 simp [elemsS,encS_toList,this]
@[go_sem] theorem elemsS_one (s : Str) : elemsS (some ⟨.arr 1 tS,encS [s]⟩) 1 = some [.str s]:=by
 simp [elemsS,encS_toList]
@[go_sem] theorem W_appendS {d : Nat} {x y : Opd} : W T cx (.ops (⟨some d,.append true [] tS x y,none⟩ :: r) kill :: k) ⟨sl,own,h⟩ Q = WAs T cx (St.opd ⟨sl,own,h⟩ x) (elems (St.look cx ⟨sl,own,h⟩) tS (St.opd ⟨sl,own,h⟩ y)) d r kill k sl own h Q:=by
 rw [W_op rfl,evOp]
 simp only [evK,WAs]
 cases elems (St.look cx ⟨sl,own,h⟩) tS (St.opd ⟨sl,own,h⟩ y) with
 | none=>rfl
 | some add =>
  simp only [onO_some]
  cases evAppend (St.look cx ⟨sl,own,h⟩) tS (St.opd ⟨sl,own,h⟩ x) add <;> rfl
@[go_sem] theorem WAs_nil {s : Str} {d : Nat} : WAs T cx .nilsl (some [.str s]) d r kill k sl own h Q =
  W T cx (.ops r kill :: k) ⟨sl.set d (.sl (.obj h.next) 0 1),own,h.nw (.arr 1 tS) (encS [s])⟩ Q:=by
 have hf:=encS_fits [s] (n:=1) rfl
 simp only [WAs,onO_some,evAppend,List.length_cons,List.length_nil,Nat.zero_add]
 rw [if_neg (by omega),if_pos ⟨hf,by omega⟩]
 rfl
end
def encSteps (l : List SStep) : AV:=.ofList (l.map SStep.enc)
def stp (l : List SStep) (k : Nat) : SStep:=l.getD k ⟨0,0,0,0,⟨#[]⟩,⟨#[]⟩,⟨#[]⟩⟩
@[go_sem] theorem encSteps_at (l : List SStep) {k : Nat} (h : k < l.length) (p : List Nat) : (encSteps l).at (k :: p) = (stp l k).enc.at p:=by
 simp [encSteps,AV.ofList,AV.at,h,stp]
structure StepsV (h : HP) (v : AV) (l : List SStep) : Prop where
 len : lenV false v = some (.int .i64 l.length)
 fg : ∀ a b,Go.Mini.fg v (.stk a b) = v
 ld : ∀ a b,v.leads (.stk a b) = false
 ix : ∀ k,k < l.length → ∃ n,v = .sl (.arg n) 0 l.length ∧ h.look (.arg n) = some ⟨.arr l.length tStep,encSteps l⟩
theorem StepsV.to {h h' : HP} {v : AV} {l : List SStep} (a : StepsV h v l) (e : h'.arg = h.arg) : StepsV h' v l :=
 ⟨a.len,a.fg,a.ld,fun k hk=>by
  obtain ⟨n,h1,h2⟩:=a.ix k hk
  exact ⟨n,h1,by simp only [HP.look,e] at h2 ⊢; exact h2⟩⟩
theorem StepsV.push {h : HP} {v : AV} {l : List SStep} {a : Nat} {o : Own} (s : StepsV h v l) : StepsV (h.push a o) v l:=s.to rfl
structure SStep.ok (x : SStep) : Prop where
 name : x.name.size ≤ 9223372036854775807
 to : x.to.size ≤ 9223372036854775807
 text : x.text.size ≤ 9223372036854775807
section
variable {T : Nat → Option MFun} {cx : Cx} {k : List Item} {kill : List Nat} {r : List MOp} {sl : Slots} {own : Own} {h : HP} {Q : St → Prop}
def roV (v : AV) (o : Option AV) : Option AV:=match v with
 | .sl j _ _=>if j.isArg = true then o else none
 | .ptr j _ _=>if j.isArg = true then o else none
 | _=>none
@[go_sem] theorem roV_sl (n a b : Nat) (o : Option AV) : roV (.sl (.arg n) a b) o = o:=rfl
@[go_sem] theorem roV_ptr (n : Nat) (p : List Nat) (t : Ty) (o : Option AV) : roV (.ptr (.arg n) p t) o = o:=rfl
@[go_sem] theorem W_sidxT {d : Option Nat} {t : Ty} {x i : Opd} {s : St} : W T cx (.ops (⟨d,.sidx true t x i,none⟩ :: r) kill :: k) s Q = W1 T cx (roV (s.opd x) (sidxV t (s.opd x) (s.opd i) (s.look cx))) d r kill k s Q :=
 W_val rfl (by
  simp only [evK,sidxV,roV]
  cases s.opd x <;> try (simp; done)
  rename_i j off len
  cases toIx (s.opd i) with
  | none=>simp only []; split <;> rfl
  | some z =>
   simp only [true_implies]
   by_cases hj : j.isArg = true
   ·rw [if_pos hj]
    by_cases hz : 0 ≤ z ∧ z < (len : Int)
    ·rw [if_pos ⟨hz.1,hz.2,hj⟩,if_pos hz]
     cases s.look cx j with
     | none=>rfl
     | some b =>
      obtain ⟨bt,bv⟩:=b
      cases bt <;> try rfl
      simp only [sidxB]
      split <;> rfl
    ·rw [if_neg (fun h=>hz ⟨h.1,h.2.1⟩),if_neg hz]; rfl
   ·rw [if_neg (fun h=>hj h.2.2),if_neg hj]; rfl)
@[go_sem] theorem W_loadT {d : Option Nat} {t : Ty} {x : Opd} {s : St} : W T cx (.ops (⟨d,.load true none t x,none⟩ :: r) kill :: k) s Q = W1 T cx (roV (s.opd x) (ldV t (s.opd x) (s.rd cx))) d r kill k s Q :=
 W_val rfl (by
  simp only [evK,roV]
  cases s.opd x <;> simp only [ldV,rooted,true_implies,true_and,and_true,Option.map_none] <;> try rfl
  ·rename_i i p t'
   by_cases hj : i.isArg = true
   ·rw [if_pos hj]
    by_cases ht : t = t'
    ·simp only [ht,hj,and_self,if_true,St.rd]
     cases (s.look cx i).bind fun b=>b.val.at p with
     | none=>rfl
     | some v=>by_cases hf : t'.fits v = true <;> simp [hf]
    ·rw [if_neg (fun h=>ht h.1),if_neg ht]; rfl
   ·rw [if_neg (fun h=>hj h.2),if_neg hj]; rfl
  ·split <;> rfl)
end
def SlX (h : HP) (l : Nat) (v : AV) (m : List Str) : Prop:=(v = .nilsl ∧ m = []) ∨ ∃ i,v = .sl i 0 m.length ∧ i.below l ∧ h.look i = some ⟨.arr m.length tS,encS m⟩
theorem SlF.x {h h1 : HP} {v : AV} {m : List Str} {l : Nat} (a : SlF h h1 v m) : SlX h1 l v m:=by
 rcases a with a | ⟨q,h1,_,_,h2⟩
 ·exact .inl a
 ·exact .inr ⟨.obj q,h1,below_obj _ _,h2⟩
theorem SlX.len {h : HP} {l : Nat} {v : AV} {m : List Str} (a : SlX h l v m) : lenV false v = some (.int .i64 m.length):=by
 rcases a with ⟨rfl,rfl⟩ | ⟨i,rfl,_⟩ <;> rfl
open Go.RowKit Go.ChangeShapes
section
variable {H : Type} {enc : TypeId × Value → H} {P : Program}
theorem trodAll_stays (hl : laidOutB P = true) {W W' : World} {sp : Nat → Bool} (hB : Below W.heap.size W W') : ∀ {ts : List TypeId} {vs : List Value} {ds : List (DataW H)} {ps : List MemPlace},
  (∀ t ∈ ts,P.readableRec t = true ∧ t < P.types.size) → DataW.TrodAll enc P W 0 (fun _=>true) true ts vs ds ps → (∀ p ∈ ps,p.block < W.heap.size) → (∀ p ∈ ps,sp p.block = true) →
  DataW.TrodAll enc P W' 0 sp true ts vs ds ps
 | [],vs,ds,ps,_,h,_,_=>by
  obtain ⟨rfl,rfl,rfl⟩:=trodAll_nil h
  exact trodAll_mk0
 | t :: ts,vs,ds,ps,ht,h,h1,h2=>by
  obtain ⟨v,vs',d,ds',p,q,rfl,rfl,rfl,h3,h4⟩:=trodAll_cons h
  exact ⟨p,q,WideElems.Trod_stays hl (ht t List.mem_cons_self).1 (ht t List.mem_cons_self).2 h3 (fun x hx=>hB.same (h1 x (List.mem_append_left _ hx))) (fun x hx=>h2 x (List.mem_append_left _ hx)),
   trodAll_stays hl hB (fun t' ht'=>ht t' (List.mem_cons_of_mem _ ht')) h4 (fun x hx=>h1 x (List.mem_append_right _ hx)) (fun x hx=>h2 x (List.mem_append_right _ hx)),rfl⟩
theorem law_post {f : Func} {s : ChangeSpec} {tb : TypeId} {W W' : World} {args : Array Value} {ds gs : List (DataW H)} {before : List MemPlace} (hl : laidOutB P = true) (hts : ∀ t ∈ f.params.toList,P.readableRec t = true ∧ t < P.types.size)
  (hv : s.vars = []) (hr : f.resultTypes = #[tb]) (hb : P.underlying tb = some .bool)
  (hW : DataW.Whole enc P f.params.toList s.vars false W args.toList ds gs before) (hs : s.fn H ds = { results:=[.lit (.bool true)],args:=ds }) (hB : Below W.heap.size W W') :
  s.post enc P f false true false false W args (.bool true) W':=by
 have hlt:=hW.lt
 obtain ⟨p,q,hA,hV,rfl,hfz,hnd⟩:=id hW
 rw [hv] at hV
 obtain ⟨rfl,rfl⟩:=trodVars_none hV
 refine ⟨ds,[],p ++ [],[],p,[],hW,?_,?_,?_,hB.frame _,fun h=>by cases h⟩
 ·rw [hr,List.append_nil,hs]
  exact trodAll_cons_mk (shut_bool hb _) trodAll_mk0
 ·rw [List.append_nil,hs]
  exact trodAll_stays hl hB hts hA (fun x hx=>hlt x (by simpa using hx)) (fun x hx=>by simpa using hlt x (by simpa using hx))
 ·rw [hv,List.append_nil,hs]
  rfl
end
theorem dec_encV {α : Type} {f : α → AV} {t : Ty} {n : Nat} (h : ∀ v,t.fits v = true → ∃ a,v = f a) {v : AV} (hv : (Ty.arr n t).fits v = true) : ∃ w : Vector α n,v = encV f w:=by
 cases v with
 | arr k g =>
  simp only [Ty.fits,Bool.and_eq_true,beq_iff_eq,List.all_eq_true] at hv
  obtain ⟨rfl,hg⟩:=hv
  have hc : ∀ i,∃ a,g i = f a:=fun i=>h _ (hg i (List.mem_finRange _))
  refine ⟨Vector.ofFn fun i=>(hc i).choose,?_⟩
  simp only [encV]
  congr 1
  funext i
  simp only [Fin.getElem_fin,Vector.getElem_ofFn]
  exact (hc i).choose_spec
 | _=>simp [Ty.fits] at hv
theorem dec_int {v : AV} (h : tI.fits v = true) : ∃ n,v = .int .i64 n:=by
 cases v <;> simp [tI,Ty.fits,LK.fits,AV.safe] at h
 subst h; exact ⟨_,rfl⟩
theorem dec_bool {v : AV} (h : tB.fits v = true) : ∃ n,v = .bool n:=by
 cases v <;> simp [tB,Ty.fits,LK.fits,AV.safe] at h
 exact ⟨_,rfl⟩
theorem dec_str {v : AV} (h : tS.fits v = true) : ∃ n,v = .str n:=by
 cases v <;> simp [tS,Ty.fits,LK.fits,AV.safe] at h
 exact ⟨_,rfl⟩
theorem dec_cons {a b : Ty} {v : AV} (h : (Ty.cons a b).fits v = true) : ∃ x y,v = .cons x y ∧ a.fits x = true ∧ b.fits y = true:=by
 cases v <;> simp [Ty.fits] at h
 exact ⟨_,_,rfl,h⟩
theorem dec_unit {v : AV} (h : Ty.unit.fits v = true) : v = .unit:=by
 cases v <;> simp [Ty.fits] at h
 rfl
theorem dec_ent {v : AV} (h : tEntry.fits v = true) : ∃ e : Ent,v = e.enc:=by
 obtain ⟨a,v,rfl,ha,h⟩:=dec_cons h
 obtain ⟨b,v,rfl,hb,h⟩:=dec_cons h
 obtain ⟨c,v,rfl,hc,h⟩:=dec_cons h
 obtain rfl:=dec_unit h
 obtain ⟨a,rfl⟩:=dec_str ha
 obtain ⟨b,rfl⟩:=dec_int hb
 obtain ⟨c,rfl⟩:=dec_int hc
 exact ⟨⟨a,b,c⟩,rfl⟩
theorem dec_dat {v : AV} (h : tData.fits v = true) : ∃ e : Dat,v = e.enc:=by
 obtain ⟨a,v,rfl,ha,h⟩:=dec_cons h
 obtain ⟨b,v,rfl,hb,h⟩:=dec_cons h
 obtain rfl:=dec_unit h
 obtain ⟨a,rfl⟩:=dec_int ha
 obtain ⟨b,rfl⟩:=dec_str hb
 exact ⟨⟨a,b⟩,rfl⟩
theorem dec_ino {v : AV} (h : tInode.fits v = true) : ∃ e : Ino,v = e.enc:=by
 obtain ⟨a,v,rfl,ha,h⟩:=dec_cons h
 obtain ⟨b,v,rfl,hb,h⟩:=dec_cons h
 obtain ⟨c,v,rfl,hc,h⟩:=dec_cons h
 obtain ⟨d,v,rfl,hd,h⟩:=dec_cons h
 obtain rfl:=dec_unit h
 obtain ⟨a,rfl⟩:=dec_bool ha
 obtain ⟨b,rfl⟩:=dec_int hb
 obtain ⟨c,rfl⟩:=dec_int hc
 obtain ⟨d,rfl⟩:=dec_encV (f:=AV.int .i64) (fun _=>dec_int) hd
 exact ⟨⟨a,b,c,d⟩,rfl⟩
theorem dec_img {v : AV} (h : tImage.fits v = true) : ∃ e : Img,v = e.enc:=by
 obtain ⟨a,v,rfl,ha,h⟩:=dec_cons h
 obtain ⟨b,v,rfl,hb,h⟩:=dec_cons h
 obtain ⟨c,v,rfl,hc,h⟩:=dec_cons h
 obtain rfl:=dec_unit h
 obtain ⟨a,rfl⟩:=dec_encV (f:=Ino.enc) (fun _=>dec_ino) ha
 obtain ⟨b,rfl⟩:=dec_encV (f:=encV Ent.enc) (fun _=>dec_encV (f:=Ent.enc) fun _=>dec_ent) hb
 obtain ⟨c,rfl⟩:=dec_encV (f:=Dat.enc) (fun _=>dec_dat) hc
 exact ⟨⟨a,b,c⟩,rfl⟩
open Go.RowKit Go.ChangeShapes
def HP.args (f : Nat → Option Blk) : HP:=⟨fun _=>[],fun _=>none,0,f⟩
def betaA (g : Nat → Option Place) : Beta
 | .arg n=>g n
 | _=>none
section
variable {P : Program} {T : Nat → Option MFun}
theorem law_runA {φ : Nat → Option FuncId} {fuel F f : Nat} {fn : MFun} {args : List AV} {rargs : List Value} {v : AV} {hp : HP} {bf : Nat → Option Blk} {g : Nat → Option Place} {Cond : World → Prop} (hT : ∀ W,Cond W → @TblOk (fixAt W) P T φ drawOk) (hmo : P.follows .mixedOrders = true) (hf : T f = some fn) (hF : φ f = some F) (hfree : fn.nfree = 0)
  (hrun : runFn T fuel f args (HP.args bf) = some (v,hp)) (hlen : args.length = fn.params) (ha : All2 (VR φ (betaA g)) args rargs) (W : World) (hC : Cond W)
  (hB : ∀ n b,bf n = some b → ∃ pl cs T fr,BR φ (betaA g) (fun r=>W.heap.size ≤ r) (.arg n) b W pl cs T fr) :
  Calls P F rargs.toArray W fun e W'=>(∃ x β',e = .returned x ∧ VR φ β' v x) ∧ Below W.heap.size W W':=by
 unfold runFn at hrun
 rw [hf] at hrun
 simp only at hrun
 cases hr : run T fuel ⟨0,⟨0,0⟩⟩ [.code fn.body] (St.enter args (HP.args bf)) with
 | none=>simp [hr] at hrun
 | some s2 =>
  simp only [hr,Option.map_eq_some_iff] at hrun
  obtain ⟨v',hv,he⟩:=hrun
  simp at he
  obtain ⟨rfl,_⟩:=he
  have hst : ∀ i b,(HP.args bf).look i = some b → ∃ n,i = .arg n ∧ bf n = some b:=by
   intro i b hb
   cases i with
   | stk l t=>simp [HP.args,HP.look,Own.get] at hb
   | obj n=>simp [HP.args,HP.look] at hb
   | arg n=>exact ⟨n,rfl,hb⟩
  letI : Fix:=fixAt W
  have:=callSim (hT W hC) (drawSound (hT W hC) hmo) fuel fn F (hT W hC f fn F hf hF) ⟨0,⟨0,0⟩⟩ args (HP.args bf) s2 v' (betaA g) (fun r=>W.heap.size ≤ r) rargs W hr hv (by simp [hlen,hfree]) ha
   ⟨fun i b hb=>by obtain ⟨n,rfl,h⟩:=hst i b hb; exact hB n b h,fun i j bi bj pi pj hi hj _ _ _ _=>by
    obtain ⟨n,rfl,_⟩:=hst i bi hi
    obtain ⟨m,rfl,_⟩:=hst j bj hj
    exact ⟨rfl,rfl⟩⟩ (fun i pl h=>by cases i <;> simp [betaA] at h <;> trivial) (fun _ _=>rfl) (fun r h=>h) (fixAt_I W)
  refine this.mono fun e W' h=>?_
  obtain ⟨x,β',rfl,hvx,_,hA⟩:=h
  exact ⟨⟨x,β',rfl,hvx⟩,hA.same.os,hA.same.tape,hA.same.output,hA.same.size,fun k hk=>hA.same.block k hk (by omega)⟩
theorem law_callsS {φ : Nat → Option FuncId} {F f : Nat} {fn : MFun} {bf : Nat → Option Blk} {g : Nat → Option Place} {Cond : World → Prop} (hT : ∀ W,Cond W → @TblOk (fixAt W) P T φ drawOk) (hmo : P.follows .mixedOrders = true) (hf : T f = some fn) (hF : φ f = some F) (hfree : fn.nfree = 0)
  {args : Array Value} {avs : List AV} (W : World) (hC : Cond W) (ha : All2 (VR φ (betaA g)) avs args.toList) (hlen : avs.length = fn.params) (hB : ∀ n b,bf n = some b → ∃ pl cs T fr,BR φ (betaA g) (fun r=>W.heap.size ≤ r) (.arg n) b W pl cs T fr)
  (h : Ok T ⟨0,⟨0,0⟩⟩ fn (St.enter avs (HP.args bf)) fun v _=>v = .bool true) :
  Calls P F args W fun e W'=>e = .returned (.bool true) ∧ Below W.heap.size W W':=by
 obtain ⟨n,s',v,hr,hv,rfl⟩:=h
 have hr' : runFn T n f avs (HP.args bf) = some (.bool true,s'.hp):=by simp only [runFn,hf,hr,hv]; rfl
 have:=law_runA hT hmo hf hF hfree hr' hlen ha W hC hB
 rw [Array.toArray_toList] at this
 refine this.mono fun e W' h=>⟨?_,h.2⟩
 obtain ⟨⟨x,β',rfl,hv⟩,_⟩:=h
 simp [VR,VR1,AV.isAgg,LR,AV.rel] at hv
 rw [hv]
end
open Go.RowKit Go.ChangeShapes
theorem lets_top' : ∀ n,(⟨0,⟨0,0⟩⟩ : Cx).prot.lets (.obj n) = true:=fun n=>decide_eq_true (Nat.zero_le n)
noncomputable def tblTL : List (Option MFun):=mergeT tblEL (List.replicate 200 none ++ tblT0)
noncomputable def tblT (f : Nat) : Option MFun:=tblTL.getD f none
theorem tbl_T (i : Nat) (fn : MFun) (h : tblE i = some fn) : tblT i = some fn:=mergeT_ext _ _ _ _ h
theorem upT {cx : Cx} {fn : MFun} {e : St} {R : AV → HP → Prop} (h : Ok tblE cx fn e R) : Ok tblT cx fn e R:=by
 obtain ⟨n,s',v,hr,hv,hR⟩:=h
 exact ⟨n,s',v,run_ext tbl_T hr,hv,hR⟩
section
variable {T : Nat → Option MFun} {cx : Cx} {k : List Item} {kill : List Nat} {r : List MOp} {sl : Slots} {own : Own} {h : HP} {Q : St → Prop}
def strslV (x : AV) (lo : Option Int) (hi : Nat → Option Int) : Option AV:=match x with
 | .str b=>evStrsl b lo (hi b.size)
 | _=>none
@[go_sem] theorem strslV_str (b : ByteArray) (lo : Option Int) (hi : Nat → Option Int) : strslV (.str b) lo hi = evStrsl b lo (hi b.size):=rfl
theorem W_strsl {d : Option Nat} {x : Opd} {lo hi : Option Opd} {s : St} : W T cx (.ops (⟨d,.strsl x lo hi,none⟩ :: r) kill :: k) s Q = W1 T cx (strslV (s.opd x) (ixOr s.opd lo 0) (fun n=>ixOr s.opd hi n)) d r kill k s Q :=
 W_val rfl (by simp only [evK,strslV]; cases s.opd x <;> rfl)
@[go_sem] theorem W_strsl2 {d : Option Nat} {x a b : Opd} {s : St} : W T cx (.ops (⟨d,.strsl x (some a) (some b),none⟩ :: r) kill :: k) s Q = W1 T cx (strslV (s.opd x) (toIx (s.opd a)) (fun _=>toIx (s.opd b))) d r kill k s Q:=W_strsl
@[go_sem] theorem W_strsl1 {d : Option Nat} {x a : Opd} {s : St} : W T cx (.ops (⟨d,.strsl x (some a) none,none⟩ :: r) kill :: k) s Q = W1 T cx (strslV (s.opd x) (toIx (s.opd a)) (fun n=>some (n : Int))) d r kill k s Q:=W_strsl
@[go_sem] theorem W_strsl0 {d : Option Nat} {x b : Opd} {s : St} : W T cx (.ops (⟨d,.strsl x none (some b),none⟩ :: r) kill :: k) s Q = W1 T cx (strslV (s.opd x) (some 0) (fun _=>toIx (s.opd b))) d r kill k s Q:=W_strsl
@[go_sem] theorem toIx_int' (kk : IntKind) (n : Int) : toIx (.int kk n) = some n:=rfl
@[go_sem] theorem evStrsl_ok {b : ByteArray} {a c : Int} (h0 : 0 ≤ a) (h1 : a ≤ c) (h2 : c ≤ (b.size : Int)) : evStrsl b (some a) (some c) = some (.str (b.extract a.toNat c.toNat)):=by
 simp only [evStrsl]; rw [if_pos ⟨h0,h1,h2⟩]
def tostrV (o : Option (List AV)) : Option AV:=match o with
 | some l=>(bytesOf l).map fun b=>.str ⟨b.toArray⟩
 | none=>none
@[go_sem] theorem W_tostr {d : Option Nat} {x : Opd} {s : St} : W T cx (.ops (⟨d,.tostr x,none⟩ :: r) kill :: k) s Q = W1 T cx (tostrV (elems (s.look cx) (.leaf (.int .u8)) (s.opd x))) d r kill k s Q :=
 W_val rfl (by
  simp only [evK,tostrV]
  cases elems (s.look cx) (.leaf (.int .u8)) (s.opd x) with
  | none=>rfl
  | some l=>simp only; cases bytesOf l <;> rfl)
def eqifV (neg : Bool) (x y : AV) : Option AV:=match x,y with
 | .iface b,.iface false=>some (.bool (if neg then b else !b))
 | _,_=>none
@[go_sem] theorem eqifV_ne (b : Bool) : eqifV true (.iface b) (.iface false) = some (.bool b):=rfl
@[go_sem] theorem eqifV_eq (b : Bool) : eqifV false (.iface b) (.iface false) = some (.bool !b):=rfl
@[go_sem] theorem W_eqif {d : Option Nat} {neg : Bool} {x y : Opd} {s : St} : W T cx (.ops (⟨d,.eqif neg x y,none⟩ :: r) kill :: k) s Q = W1 T cx (eqifV neg (s.opd x) (s.opd y)) d r kill k s Q :=
 W_val rfl (by
  simp only [evK,eqifV]
  cases s.opd x <;> try rfl
  cases s.opd y <;> try rfl
  rename_i b c
  cases c <;> rfl)
def safeO (o : Option AV) : Option AV:=match o with
 | some v=>if v.safe = true then some v else none
 | none=>none
@[go_sem] theorem safeO_str (b : ByteArray) : safeO (some (.str b)) = some (.str b):=rfl
@[go_sem] theorem safeO_int (kk : IntKind) (n : Int) : safeO (some (.int kk n)) = some (.int kk n):=rfl
@[go_sem] theorem safeO_iface (b : Bool) : safeO (some (.iface b)) = some (.iface b):=rfl
@[go_sem] theorem W_prim {d : Option Nat} {f : List AV → Option AV} {xs : List Opd} {s : St} : W T cx (.ops (⟨d,.prim f xs,none⟩ :: r) kill :: k) s Q = W1 T cx (safeO (f (xs.map s.opd))) d r kill k s Q :=
 W_val rfl (by
  simp only [evK,safeO]
  cases f (xs.map s.opd) with
  | none=>rfl
  | some v=>simp only; split <;> rfl)
end
def bsL (l : List UInt8) : Str:=⟨l.toArray⟩
theorem bsL_append (a b : List UInt8) : bsL a ++ bsL b = bsL (a ++ b):=by
 apply ByteArray.ext
 simp [bsL]
theorem bsL_size (a : List UInt8) : (bsL a).size = a.length:=by simp [bsL,ByteArray.size]
def hexS : Str:=⟨#[48,49,50,51,52,53,54,55,56,57,97,98,99,100,101,102]⟩
section
variable {cx : Cx} {h : HP}
theorem byteAt_eq {s : Str} {j : Nat} (hj : j < s.data.toList.length) : byteAt s j = (s.data.toList[j]).toNat:=by
 simp only [byteAt]
 rw [Array.getD_eq_getD_getElem?]
 simp at hj
 simp [hj]
theorem hex_one {n : Nat} (hn : n < 16) : hexS.extract n (n + 1) = bsL [hexD n]:=by
 match n,hn with
 | 0,_ | 1,_ | 2,_ | 3,_ | 4,_ | 5,_ | 6,_ | 7,_ | 8,_ | 9,_ | 10,_ | 11,_ | 12,_ | 13,_ | 14,_ | 15,_=>rfl
 | n + 16,h=>exact absurd h (by omega)
theorem byteAt_lt (s : Str) (j : Nat) : byteAt s j < 256:=(s.data.getD j 0).toNat_lt
theorem showL_take {l : List UInt8} {j : Nat} (hj : j < l.length) : showL (l.take (j + 1)) = showL (l.take j) ++ show1 l[j]:=by
 rw [List.take_add_one,List.getElem?_eq_getElem hj]
 simp only [showL,List.flatMap_append,List.cons_append,Option.toList_some,List.flatMap_cons,List.flatMap_nil,List.append_nil]
theorem showL_size (l : List UInt8) : (showL l).length ≤ 3 * l.length + 1:=by
 induction l with
 | nil=>simp [showL]
 | cons c l ih =>
  simp only [showL,List.length_cons,List.flatMap_cons,List.length_append] at ih ⊢
  have : (show1 c).length ≤ 3:=by unfold show1; split <;> simp
  omega
@[go_sem] theorem evInt_quo16 {x : Int} (h0 : 0 ≤ x) (h1 : x < 256) : evInt .quo .i64 x 16 = some (.int .i64 (x / 16)):=by
 simp only [evInt]
 rw [if_neg (by decide),Int.tdiv_eq_ediv_of_nonneg h0]
 rw [wrap64 (by omega) (by omega)]
@[go_sem] theorem evInt_rem16 {x : Int} (h0 : 0 ≤ x) (h1 : x < 256) : evInt .rem .i64 x 16 = some (.int .i64 (x % 16)):=by
 simp only [evInt]
 rw [if_neg (by decide),Int.tmod_eq_emod_of_nonneg h0]
@[go_sem] theorem strsl_hex {x : Int} (h0 : 0 ≤ x) (h1 : x < 16) : evStrsl hexS (some x) (some (x + 1)) = some (.str (bsL [hexD x.toNat])):=by
 have hs : hexS.size = 16:=rfl
 rw [evStrsl_ok h0 (by omega) (by omega),show (x + 1).toNat = x.toNat + 1 by omega,hex_one (by omega)]
theorem add_bsL {a b : List UInt8} (h : a.length + b.length ≤ 1000000000) : evStr .add (bsL a) (bsL b) = some (.str (bsL (a ++ b))):=by
 have hm : IntKind.i64.max = 9223372036854775807:=by decide
 simp only [evStr]
 rw [if_neg (by rw [bsL_size,bsL_size,hm]; omega),bsL_append]
@[go_sem] theorem add_bsL1 {a : List UInt8} {c : UInt8} (h : a.length ≤ 1000000) : evStr .add (bsL a) (bsL [c]) = some (.str (bsL (a ++ [c]))):=add_bsL (by simp; omega)
@[go_sem] theorem add_bsL3 {a : List UInt8} {x y z : UInt8} (h : a.length ≤ 1000000) : evStr .add (bsL a) (bsL [x,y,z]) = some (.str (bsL (a ++ [x,y,z]))):=add_bsL (by simp; omega)
@[go_sem] theorem add_bs92 {c : UInt8} : evStr .add ⟨#[92]⟩ (bsL [c]) = some (.str (bsL [92,c])):=add_bsL (a:=[92]) (by simp)
@[go_sem] theorem add_bs92' {b c : UInt8} : evStr .add (bsL [92,b]) (bsL [c]) = some (.str (bsL [92,b,c])):=add_bsL (by simp)
end
def encU (l : List Int) : AV:=.ofList (l.map (AV.int .u8))
theorem encU_toList (l : List Int) : (encU l).toList = some (l.map (AV.int .u8)):=by
 simp only [encU,AV.ofList,AV.toList]
 congr 1
 exact List.ext_getElem (by simp) (by simp)
theorem encU_fits (l : List Int) {n : Nat} (h : n = l.length) : (Ty.arr n tU8).fits (encU l) = true:=by
 subst h
 simp [encU,AV.ofList,Ty.fits,tU8,LK.fits,AV.safe]
theorem bytesOf_map (l : List Int) : bytesOf (l.map (AV.int .u8)) = some (l.map fun n=>UInt8.ofNat n.toNat):=by
 induction l with
 | nil=>rfl
 | cons n l ih=>simp [bytesOf,ih]
def ints (l : List UInt8) : List Int:=l.map fun c=>(c.toNat : Int)
theorem ints_back (l : List UInt8) : (ints l).map (fun n=>UInt8.ofNat n.toNat) = l:=by
 induction l with
 | nil=>rfl
 | cons c l ih=>simp only [ints,List.map_cons,Int.toNat_natCast,UInt8.ofNat_toNat] at ih ⊢; rw [ih]
section
variable {T : Nat → Option MFun} {cx : Cx} {k : List Item} {kill : List Nat} {r : List MOp} {sl : Slots} {own : Own} {h : HP} {Q : St → Prop}
def WBU (T : Nat → Option MFun) (cx : Cx) (o : Option AV) (n d : Nat) (r : List MOp) (kill : List Nat) (k : List Item) (sl : Slots) (own : Own) (h : HP) (Q : St → Prop) : Prop :=
 onO o fun w=>W T cx (.ops r kill :: k) ⟨(Slots.forget sl (.stk cx.lvl d)).set d (.sl (.stk cx.lvl d) 0 n),own.set d ⟨.arr n tU8,w⟩,h⟩ Q
@[go_sem] theorem WBU_some {n d : Nat} {v : AV} : WBU T cx (some v) n d r kill k sl own h Q = W T cx (.ops r kill :: k) ⟨(Slots.forget sl (.stk cx.lvl d)).set d (.sl (.stk cx.lvl d) 0 n),own.set d ⟨.arr n tU8,v⟩,h⟩ Q:=rfl
@[go_sem] theorem W_bsliceU {n d : Nat} {ps : List (Nat × Opd)} : W T cx (.ops (⟨some d,.bslice false tU8 n ps,none⟩ :: r) kill :: k) ⟨sl,own,h⟩ Q =
  WBU T cx (fill (.arr n tU8) (Ty.arr n tU8).zero (ps.map fun p=>(p.1,St.opd ⟨sl,own,h⟩ p.2))) n d r kill k sl own h Q:=by
 rw [W_op rfl,evOp]
 simp only [evK,WBU]
 cases fill (.arr n tU8) (Ty.arr n tU8).zero (ps.map fun p=>(p.1,St.opd ⟨sl,own,h⟩ p.2)) <;> rfl
theorem fits_tU8 (n : Int) : tU8.fits (.int .u8 n) = true:=by simp [Ty.fits,tU8,LK.fits,AV.safe]
@[go_sem] theorem fillU1 (n : Int) : fill (.arr 1 tU8) (Ty.arr 1 tU8).zero [(0,.int .u8 n)] = some (encU [n]):=by
 simp only [fill,Ty.part,Nat.lt_one_iff,if_true,fits_tU8,Ty.zero,AV.put,Nat.zero_lt_one,dite_true,put_nil,Option.map_some,encU,AV.ofList]
 congr 2
 funext j
 match j with
 | ⟨0,_⟩=>rfl
@[go_sem] theorem fillU3 (a b c : Int) : fill (.arr 3 tU8) (Ty.arr 3 tU8).zero [(0,.int .u8 a),(1,.int .u8 b),(2,.int .u8 c)] = some (encU [a,b,c]):=by
 simp [fill,Ty.part,fits_tU8,Ty.zero,AV.put,put_nil,encU,AV.ofList]
 funext j
 match j with
 | ⟨0,_⟩=>rfl
 | ⟨1,_⟩=>rfl
 | ⟨2,_⟩=>rfl
def elemsU (b : Option Blk) (len : Nat) : Option (List AV):=match b with
 | some ⟨.arr _ t',v⟩=>match v.toList with
   | some l=>if tU8 = t' ∧ len ≤ l.length then some (l.take len) else none
   | none=>none
 | _=>none
@[go_sem] theorem elems_slU (L : Id → Option Blk) (j : Id) (len : Nat) : elems L tU8 (.sl j 0 len) = elemsU (L j) len:=by
 simp only [elems,elemsU,Nat.zero_add,List.drop_zero]
 cases L j with
 | none=>rfl
 | some b=>obtain ⟨bt,bv⟩:=b; cases bt <;> rfl
@[go_sem] theorem elems_slU8 (L : Id → Option Blk) (j : Id) (len : Nat) : elems L (.leaf (.int .u8)) (.sl j 0 len) = elemsU (L j) len:=elems_slU L j len
@[go_sem] theorem elems_nilU8 (L : Id → Option Blk) : elems L (.leaf (.int .u8)) .nilsl = some []:=rfl
@[go_sem] theorem elems_nilU (L : Id → Option Blk) : elems L tU8 .nilsl = some []:=rfl
theorem elemsU_all {n : Nat} {l : List Int} (h : n = l.length) : elemsU (some ⟨.arr n tU8,encU l⟩) n = some (l.map (AV.int .u8)):=by
 subst h
 simp only [elemsU,encU_toList,List.length_map,Nat.le_refl,and_self,if_true]
 rw [List.take_of_length_le (by simp)]
@[go_sem] theorem elemsU_1 (a : Int) : elemsU (some ⟨.arr 1 tU8,encU [a]⟩) 1 = some ([a].map (AV.int .u8)):=elemsU_all rfl
@[go_sem] theorem elemsU_3 (a b c : Int) : elemsU (some ⟨.arr 3 tU8,encU [a,b,c]⟩) 3 = some ([a,b,c].map (AV.int .u8)):=elemsU_all rfl
def WAU (T : Nat → Option MFun) (cx : Cx) (x : AV) (add : Option (List AV)) (d : Nat) (r : List MOp) (kill : List Nat) (k : List Item) (sl : Slots) (own : Own) (h : HP) (Q : St → Prop) : Prop :=
 onO add fun add=>onO (evAppend (St.look cx ⟨sl,own,h⟩) tU8 x add) fun e=>onO (applyEff cx (some d) false ⟨sl,own,h⟩ e) fun p=>W T cx (.ops r kill :: k) (p.2.setd (some d) p.1) Q
@[go_sem] theorem W_appendU {d : Nat} {x y : Opd} : W T cx (.ops (⟨some d,.append false [] tU8 x y,none⟩ :: r) kill :: k) ⟨sl,own,h⟩ Q = WAU T cx (St.opd ⟨sl,own,h⟩ x) (elems (St.look cx ⟨sl,own,h⟩) tU8 (St.opd ⟨sl,own,h⟩ y)) d r kill k sl own h Q:=by
 rw [W_op rfl,evOp]
 simp only [evK,WAU]
 cases elems (St.look cx ⟨sl,own,h⟩) tU8 (St.opd ⟨sl,own,h⟩ y) with
 | none=>rfl
 | some add =>
  simp only [onO_some]
  cases evAppend (St.look cx ⟨sl,own,h⟩) tU8 (St.opd ⟨sl,own,h⟩ x) add <;> rfl
theorem WAU_grow {d t len : Nat} {l add : List Int} (hb : own.get t = some ⟨.arr len tU8,encU l⟩) (hl : l.length = len) (ha : 0 < add.length) (hm : len + add.length ≤ 1048576) : WAU T cx (.sl (.stk cx.lvl t) 0 len) (some (add.map (AV.int .u8))) d r kill k sl own h Q =
  W T cx (.ops r kill :: k) ⟨(Slots.forget sl (.stk cx.lvl d)).set d (.sl (.stk cx.lvl d) 0 (len + add.length)),(own.rid t).set d ⟨.arr (len + add.length) tU8,encU (l ++ add)⟩,h⟩ Q:=by
 have hf:=encU_fits (l ++ add) (n:=len + add.length) (by simp [hl])
 have e : List.map (AV.int .u8) (l ++ add) = (List.map (AV.int .u8) l).take len ++ add.map (AV.int .u8):=by
  rw [List.map_append,List.take_of_length_le (by simp [hl])]
 simp only [encU,e] at hf ⊢
 simp only [WAU,onO_some,evAppend,look_own,hb,encU_toList,List.length_map,Nat.zero_add,List.drop_zero,if_true]
 rw [if_neg (by omega),if_pos (by omega),if_pos ⟨hf,hm⟩]
 simp only [onO_some,applyEff,St.drop,Id.own,if_true,Option.map_some]
 rfl
theorem WAU_nil {d : Nat} {add : List Int} (ha : 0 < add.length) (hm : add.length ≤ 1048576) : WAU T cx .nilsl (some (add.map (AV.int .u8))) d r kill k sl own h Q =
  W T cx (.ops r kill :: k) ⟨(Slots.forget sl (.stk cx.lvl d)).set d (.sl (.stk cx.lvl d) 0 add.length),own.set d ⟨.arr add.length tU8,encU add⟩,h⟩ Q:=by
 have hf:=encU_fits add (n:=add.length) rfl
 simp only [WAU,onO_some,evAppend,List.length_map]
 rw [if_neg (by omega),if_pos ⟨hf,hm⟩]
 rfl
end
section
variable {cx : Cx} {h : HP}
@[go_sem] theorem shr_u8 {x : Int} (h0 : 0 ≤ x) (h1 : x < 256) : evBin .shr (.int .u8 x) (.int .u64 4) = some (.int .u8 (x / 16)):=by
 simp only [evBin,evShift]
 rw [if_neg (by decide),if_neg (by decide),Int.fdiv_eq_ediv_of_nonneg _ (by decide)]
 rfl
@[go_sem] theorem and_u8 {x : Int} (h0 : 0 ≤ x) (h1 : x < 256) : evInt .and .u8 x 15 = some (.int .u8 (x % 16)):=by
 obtain ⟨n,rfl⟩:=Int.eq_ofNat_of_zero_le h0
 have hn : n < 256:=by omega
 have : ∀ n : Fin 256,IntKind.u8.wrap (BitVec.ofInt IntKind.u8.bits (n.val : Int) &&& BitVec.ofInt IntKind.u8.bits 15).toNat = (n.val : Int) % 16:=by decide
 simp only [evInt]
 rw [this ⟨n,hn⟩]
@[go_sem] theorem stridx_hex {kk : IntKind} {x : Int} (h0 : 0 ≤ x) (h1 : x < 16) : stridxV (.str ⟨#[48,49,50,51,52,53,54,55,56,57,97,98,99,100,101,102]⟩) (.int kk x) = some (.int .u8 ((hexD x.toNat).toNat : Nat)):=by
 obtain ⟨n,rfl⟩:=Int.eq_ofNat_of_zero_le h0
 have hn : n < 16:=by omega
 have : ∀ n : Fin 16,stridxV (.str ⟨#[48,49,50,51,52,53,54,55,56,57,97,98,99,100,101,102]⟩) (.int kk (n.val : Int)) = some (.int .u8 ((hexD n.val).toNat : Nat)):=by
  intro n
  match n with
  | ⟨n + 16,h⟩=>exact absurd h (by omega)
  | ⟨0,_⟩ | ⟨1,_⟩ | ⟨2,_⟩ | ⟨3,_⟩ | ⟨4,_⟩ | ⟨5,_⟩ | ⟨6,_⟩ | ⟨7,_⟩ | ⟨8,_⟩ | ⟨9,_⟩ | ⟨10,_⟩ | ⟨11,_⟩ | ⟨12,_⟩ | ⟨13,_⟩ | ⟨14,_⟩ | ⟨15,_⟩=>rfl
 exact this ⟨n,hn⟩
@[go_sem] theorem leads_slobj (l t q o n : Nat) : (AV.sl (.obj q) o n).leads (.stk l t) = false:=by
 simp [AV.leads,AV.isAgg,AV.names]
theorem ints_len (l : List UInt8) : (ints l).length = l.length:=by simp [ints]
section
variable {T : Nat → Option MFun} {k : List Item} {kill : List Nat} {r : List MOp} {sl : Slots} {own : Own} {Q : St → Prop}
def WBUo (T : Nat → Option MFun) (cx : Cx) (o : Option AV) (n d : Nat) (r : List MOp) (kill : List Nat) (k : List Item) (sl : Slots) (own : Own) (h : HP) (Q : St → Prop) : Prop :=
 onO o fun w=>W T cx (.ops r kill :: k) ⟨sl.set d (.sl (.obj h.next) 0 n),own,h.nw (.arr n tU8) w⟩ Q
@[go_sem] theorem WBUo_some {n d : Nat} {v : AV} : WBUo T cx (some v) n d r kill k sl own h Q = W T cx (.ops r kill :: k) ⟨sl.set d (.sl (.obj h.next) 0 n),own,h.nw (.arr n tU8) v⟩ Q:=rfl
@[go_sem] theorem W_bsliceUo {n d : Nat} {ps : List (Nat × Opd)} : W T cx (.ops (⟨some d,.bslice true tU8 n ps,none⟩ :: r) kill :: k) ⟨sl,own,h⟩ Q =
  WBUo T cx (fill (.arr n tU8) (Ty.arr n tU8).zero (ps.map fun p=>(p.1,St.opd ⟨sl,own,h⟩ p.2))) n d r kill k sl own h Q:=by
 rw [W_op rfl,evOp]
 simp only [evK,WBUo]
 cases fill (.arr n tU8) (Ty.arr n tU8).zero (ps.map fun p=>(p.1,St.opd ⟨sl,own,h⟩ p.2)) <;> rfl
def WAUo (T : Nat → Option MFun) (cx : Cx) (x : AV) (add : Option (List AV)) (d : Nat) (r : List MOp) (kill : List Nat) (k : List Item) (sl : Slots) (own : Own) (h : HP) (Q : St → Prop) : Prop :=
 onO add fun add=>onO (evAppend (St.look cx ⟨sl,own,h⟩) tU8 x add) fun e=>onO (applyEff cx (some d) true ⟨sl,own,h⟩ e) fun p=>W T cx (.ops r kill :: k) (p.2.setd (some d) p.1) Q
@[go_sem] theorem W_appendUo {d : Nat} {x y : Opd} : W T cx (.ops (⟨some d,.append true [] tU8 x y,none⟩ :: r) kill :: k) ⟨sl,own,h⟩ Q = WAUo T cx (St.opd ⟨sl,own,h⟩ x) (elems (St.look cx ⟨sl,own,h⟩) tU8 (St.opd ⟨sl,own,h⟩ y)) d r kill k sl own h Q:=by
 rw [W_op rfl,evOp]
 simp only [evK,WAUo]
 cases elems (St.look cx ⟨sl,own,h⟩) tU8 (St.opd ⟨sl,own,h⟩ y) with
 | none=>rfl
 | some add =>
  simp only [onO_some]
  cases evAppend (St.look cx ⟨sl,own,h⟩) tU8 (St.opd ⟨sl,own,h⟩ x) add <;> rfl
theorem WAUo_grow {d q len : Nat} {l add : List Int} (hl : cx.prot.lets (.obj q) = true) (hq : h.look (.obj q) = some ⟨.arr len tU8,encU l⟩) (hlen : l.length = len) (ha : 0 < add.length) (hm : len + add.length ≤ 1048576) : WAUo T cx (.sl (.obj q) 0 len) (some (add.map (AV.int .u8))) d r kill k sl own h Q =
  W T cx (.ops r kill :: k) ⟨sl.set d (.sl (.obj h.next) 0 (len + add.length)),own,(h.dl q).nw (.arr (len + add.length) tU8) (encU (l ++ add))⟩ Q:=by
 have hf:=encU_fits (l ++ add) (n:=len + add.length) (by simp [hlen])
 have e : List.map (AV.int .u8) (l ++ add) = (List.map (AV.int .u8) l).take len ++ add.map (AV.int .u8):=by
  rw [List.map_append,List.take_of_length_le (by simp [hlen])]
 simp only [encU,e] at hf ⊢
 simp only [WAUo,onO_some,evAppend,look_obj,hq,encU_toList,List.length_map,Nat.zero_add,List.drop_zero,if_true]
 rw [if_neg (by omega),if_pos (by omega),if_pos ⟨hf,hm⟩]
 simp only [onO_some,applyEff,St.drop,Id.own,hl,if_true,Option.map_some]
 rfl
theorem WAUo_1 {d q len : Nat} {l : List Int} {a : Int} (hl : cx.prot.lets (.obj q) = true) (hq : h.look (.obj q) = some ⟨.arr len tU8,encU l⟩) (hlen : l.length = len) (hm : len ≤ 1000000) : WAUo T cx (.sl (.obj q) 0 len) (some [.int .u8 a]) d r kill k sl own h Q =
  W T cx (.ops r kill :: k) ⟨sl.set d (.sl (.obj h.next) 0 (len + 1)),own,(h.dl q).nw (.arr (len + 1) tU8) (encU (l ++ [a]))⟩ Q :=
 WAUo_grow (add:=[a]) hl hq hlen (by simp) (by simp; omega)
theorem WAUo_3 {d q len : Nat} {l : List Int} {a b c : Int} (hl : cx.prot.lets (.obj q) = true) (hq : h.look (.obj q) = some ⟨.arr len tU8,encU l⟩) (hlen : l.length = len) (hm : len ≤ 1000000) : WAUo T cx (.sl (.obj q) 0 len) (some [.int .u8 a,.int .u8 b,.int .u8 c]) d r kill k sl own h Q =
  W T cx (.ops r kill :: k) ⟨sl.set d (.sl (.obj h.next) 0 (len + 3)),own,(h.dl q).nw (.arr (len + 3) tU8) (encU (l ++ [a,b,c]))⟩ Q :=
 WAUo_grow (add:=[a,b,c]) hl hq hlen (by simp) (by simp; omega)
end
def shB (s : Str) (j : Nat) : List UInt8:=showL (s.data.toList.take j)
def shSt (s : Str) (j : Nat) (a : Nat × HP) : St:=⟨[(0,.str s),(3,.sl (.obj a.1) 0 (shB s j).length),(8,.int .i64 s.size),(9,.int .i64 j)],[],a.2⟩
def ShP (h : HP) (s : Str) (j : Nat) (a : Nat × HP) : Prop:=Fr h a.2 [] ∧ h.next ≤ a.1 ∧ a.2.look (.obj a.1) = some ⟨.arr (shB s j).length tU8,encU (ints (shB s j))⟩
theorem ShP.next {h h1 : HP} {s : Str} {j q : Nat} {add : List UInt8} {n : Nat} {v : AV} (a : ShP h s j (q,h1)) (f : shB s (j + 1) = shB s j ++ add) (hn : n = (shB s j).length + add.length) (hv : v = encU (ints (shB s j) ++ ints add)) : ShP h s (j + 1) (h1.next,(h1.dl q).nw (.arr n tU8) v):=by
 obtain ⟨a1,a2,a3⟩:=a
 refine ⟨(a1.dl a2).trans Fr.nw,a1.next,?_⟩
 have : (HP.nw (h1.dl q) (.arr n tU8) v).look (.obj h1.next) = some ⟨.arr n tU8,v⟩:=look_nw (h:=h1.dl q)
 rw [this,f,hn,hv]
 simp only [List.length_append,ints,List.map_append]
theorem Show_ok {T : Nat → Option MFun} {s : Str} (hl : ∀ n,h.next ≤ n → cx.prot.lets (.obj n) = true) (hs : s.size ≤ 100000) : Ok T cx Fn.text_Show (St.enter [.str s] h) fun v h'=>v = .str (bsL (showL s.data.toList)) ∧ Fr h h' []:=by
 rw [Ok_eq]
 simp (maxSteps:=999999) (disch:=omega) only [go_sem]
 refine W_forE s.size (shSt s) (ShP h s) (h.next,h.nw (.arr 1 tU8) (encU [61])) (by simp only [go_sem] <;> rfl) ⟨Fr.nw,Nat.le_refl _,look_nw⟩ fun j a hj hp ih=>?_
 obtain ⟨q,h1⟩:=a
 have hq:=hl q hp.2.1
 have hlk : h1.look (.obj q) = some ⟨.arr (shB s j).length tU8,encU (ints (shB s j))⟩:=hp.2.2
 simp only [shSt]
 by_cases hlt : j < s.size
 ·have hl : j < s.data.toList.length:=by simpa using hlt
  have hb:=byteAt_lt s j
  have hbe:=byteAt_eq hl
  have hsz : (shB s j).length ≤ 300001:=by
   have:=showL_size (s.data.toList.take j)
   simp only [List.length_take] at this
   unfold shB
   omega
  have fin1 : (33 ≤ byteAt s j ∧ byteAt s j ≤ 126 ∧ byteAt s j ≠ 92) → shB s (j + 1) = shB s j ++ [s.data.toList[j]]:=by
   intro hc
   rw [shB,showL_take hl,show1,← hbe,if_pos hc]; rfl
  have fin2 : ¬(33 ≤ byteAt s j ∧ byteAt s j ≤ 126 ∧ byteAt s j ≠ 92) → shB s (j + 1) = shB s j ++ [92,hexD ((byteAt s j : Int) / 16).toNat,hexD ((byteAt s j : Int) % 16).toNat]:=by
   intro hc
   rw [shB,showL_take hl,show1,← hbe,if_neg hc,show ((byteAt s j : Int) / 16).toNat = byteAt s j / 16 by omega,show ((byteAt s j : Int) % 16).toNat = byteAt s j % 16 by omega]; rfl
  by_cases h1' : 32 < (byteAt s j : Int)
  ·by_cases h2 : (byteAt s j : Int) < 127
   ·by_cases h3 : (byteAt s j : Int) = 92
    ·have f:=fin2 (by omega)
     simp (maxSteps:=999999) (disch:=omega) only [go_sem,hlt,h1',h2,h3]
     rw [WAUo_3 hq hlk (ints_len _) (by omega)]
     simp (maxSteps:=999999) (disch:=omega) only [go_sem,hlt]
     refine ih _ (h1.next,(h1.dl q).nw (.arr ((shB s j).length + 3) tU8) (encU (ints (shB s j) ++ ints [92,hexD ((byteAt s j : Int) / 16).toNat,hexD ((byteAt s j : Int) % 16).toNat]))) hlt ?_ (hp.next f rfl rfl)
     simp only [go_sem,shSt,f,ints,List.length_append,List.length_cons,List.length_nil,List.map_cons,List.map_nil,h3] <;> rfl
    ·have f:=fin1 (by omega)
     simp (maxSteps:=999999) (disch:=omega) only [go_sem,hlt,h1',h2,h3]
     rw [WAUo_1 hq hlk (ints_len _) (by omega)]
     simp (maxSteps:=999999) (disch:=omega) only [go_sem,hlt]
     refine ih _ (h1.next,(h1.dl q).nw (.arr ((shB s j).length + 1) tU8) (encU (ints (shB s j) ++ ints [s.data.toList[j]]))) hlt ?_ (hp.next f rfl rfl)
     simp only [go_sem,shSt,f,ints,List.length_append,List.length_cons,List.length_nil,List.map_cons,List.map_nil,← hbe] <;> rfl
   ·have f:=fin2 (by omega)
    simp (maxSteps:=999999) (disch:=omega) only [go_sem,hlt,h1',h2]
    rw [WAUo_3 hq hlk (ints_len _) (by omega)]
    simp (maxSteps:=999999) (disch:=omega) only [go_sem,hlt]
    refine ih _ (h1.next,(h1.dl q).nw (.arr ((shB s j).length + 3) tU8) (encU (ints (shB s j) ++ ints [92,hexD ((byteAt s j : Int) / 16).toNat,hexD ((byteAt s j : Int) % 16).toNat]))) hlt ?_ (hp.next f rfl rfl)
    simp only [go_sem,shSt,f,ints,List.length_append,List.length_cons,List.length_nil,List.map_cons,List.map_nil] <;> rfl
  ·have f:=fin2 (by omega)
   simp (maxSteps:=999999) (disch:=omega) only [go_sem,hlt,h1']
   rw [WAUo_3 hq hlk (ints_len _) (by omega)]
   simp (maxSteps:=999999) (disch:=omega) only [go_sem,hlt]
   refine ih _ (h1.next,(h1.dl q).nw (.arr ((shB s j).length + 3) tU8) (encU (ints (shB s j) ++ ints [92,hexD ((byteAt s j : Int) / 16).toNat,hexD ((byteAt s j : Int) % 16).toNat]))) hlt ?_ (hp.next f rfl rfl)
   simp only [go_sem,shSt,f,ints,List.length_append,List.length_cons,List.length_nil,List.map_cons,List.map_nil] <;> rfl
 ·obtain rfl : j = s.size:=by omega
  have e : shB s s.size = showL s.data.toList:=by rw [shB,List.take_of_length_le (by simp)]
  rw [e] at hlk ⊢
  have fin : tostrV (elemsU (some ⟨.arr (showL s.data.toList).length tU8,encU (ints (showL s.data.toList))⟩) (showL s.data.toList).length) = some (.str (bsL (showL s.data.toList))):=by
   rw [elemsU_all (by rw [ints_len])]
   simp only [tostrV,bytesOf_map,ints_back,Option.map_some]
   rfl
  simp (maxSteps:=999999) (disch:=omega) only [go_sem,hlk,fin]
  exact hp.1
end
section
variable {cx : Cx} {h : HP}
theorem bsL_inj {a b : List UInt8} : bsL a = bsL b ↔ a = b:=by
 constructor
 ·intro e
  have:=congrArg (fun s : Str=>s.data.toList) e
  simpa [bsL] using this
 ·rintro rfl; rfl
theorem bs61 : (⟨#[61]⟩ : Str) = bsL [61]:=rfl
theorem strsl_drop {l : List UInt8} {n : Nat} (hn : n ≤ l.length) : evStrsl (bsL l) (some (n : Int)) (some (((bsL l).size : Nat) : Int)) = some (.str (bsL (l.drop n))):=by
 rw [evStrsl_ok (by omega) (by rw [bsL_size]; omega) (by omega),Int.toNat_natCast,Int.toNat_natCast]
 congr 2
 apply ByteArray.ext
 simp only [bsL,ByteArray.size,ByteArray.data_extract,List.size_toArray]
 apply Array.toList_inj.1
 simp
 rw [List.take_of_length_le (by simp)]
theorem ext_take {l : List UInt8} {n : Nat} : (bsL l).extract 0 n = bsL (l.take n):=by
 apply ByteArray.ext
 simp only [bsL,ByteArray.data_extract]
 apply Array.toList_inj.1
 simp
theorem ext_drop {l : List UInt8} {n : Nat} : (bsL l).extract n (bsL l).size = bsL (l.drop n):=by
 apply ByteArray.ext
 simp only [bsL,ByteArray.size,ByteArray.data_extract,List.size_toArray]
 apply Array.toList_inj.1
 simp
 rw [List.take_of_length_le (by simp)]
theorem strsl_take {l : List UInt8} {n : Nat} (hn : n ≤ l.length) : evStrsl (bsL l) (some 0) (some (n : Int)) = some (.str (bsL (l.take n))):=by
 rw [evStrsl_ok (by omega) (by omega) (by rw [bsL_size]; omega),Int.toNat_natCast]
 congr 2
 apply ByteArray.ext
 simp only [bsL,ByteArray.data_extract]
 apply Array.toList_inj.1
 simp
theorem HasPrefix_ok {l : List UInt8} (hs : l.length ≤ 100000) : Ok tblT cx Fn.internal_stringslite_HasPrefix (St.enter [.str (bsL l),.str ⟨#[61]⟩] h) fun v h'=>v = .bool (decide (l.head? = some 61)) ∧ h' = h:=by
 have h1 : (⟨#[61]⟩ : Str).size = 1:=rfl
 rw [Ok_eq]
 cases l with
 | nil =>
  have h0 : (bsL []).size = 0:=rfl
  simp (maxSteps:=999999) (disch:=omega) only [go_sem,h0,h1]
  simp
 | cons c r =>
  have h0 : (bsL (c :: r)).size = r.length + 1:=bsL_size _
  have e:=strsl_take (l:=c :: r) (n:=1) (by simp)
  simp (maxSteps:=999999) (disch:=omega) only [go_sem,h0,h1]
  rw [ext_take,bs61]
  simp [bsL_inj]
theorem sCut_ok {l : List UInt8} (hs : l.length ≤ 100000) : Ok tblT cx Fn.internal_stringslite_CutPrefix (St.enter [.str (bsL l),.str ⟨#[61]⟩] h) fun v h' =>
  v = .tup (.cons (.str (bsL (if l.head? = some 61 then l.tail else l))) (.cons (.bool (decide (l.head? = some 61))) .unit)) ∧ h' = h:=by
 have h1 : (⟨#[61]⟩ : Str).size = 1:=rfl
 rw [Ok_eq]
 simp (maxSteps:=999999) (disch:=omega) only [go_sem]
 refine W_callp rfl ⟨rfl,rfl⟩ (by simp only [go_sem]; exact HasPrefix_ok hs) ?_
 by_cases c : l.head? = some 61
 ·obtain ⟨r,rfl⟩ : ∃ r,l = 61 :: r:=by
   cases l with
   | nil=>simp at c
   | cons x r=>simp at c; exact ⟨r,by rw [c]⟩
  have h0 : (bsL (61 :: r)).size = r.length + 1:=bsL_size _
  simp (maxSteps:=999999) (disch:=omega) only [go_sem,c,h0,h1]
  have:=ext_drop (l:=61 :: r) (n:=1)
  rw [h0] at this
  rw [this]
  rfl
 ·simp (maxSteps:=999999) (disch:=omega) only [go_sem,c,h1]
theorem Cut_ok {l : List UInt8} (hs : l.length ≤ 100000) : Ok tblT cx Fn.strings_CutPrefix (St.enter [.str (bsL l),.str ⟨#[61]⟩] h) fun v h' =>
  v = .tup (.cons (.str (bsL (if l.head? = some 61 then l.tail else l))) (.cons (.bool (decide (l.head? = some 61))) .unit)) ∧ h' = h:=by
 rw [Ok_eq]
 simp (maxSteps:=999999) (disch:=omega) only [go_sem]
 refine W_callp rfl ⟨rfl,rfl⟩ (by simp only [go_sem]; exact sCut_ok hs) ?_
 simp (maxSteps:=999999) (disch:=omega) only [go_sem]
theorem Pu_ok {b : Str} (hb : b.size = 2) : Ok tblT cx Fn.strconv_ParseUint (St.enter [.str b,.int .i64 16,.int .i64 8] h) fun v h' =>
  v = .tup (.cons (.int .u64 ((hex2 b).getD 0 : Nat)) (.cons (.iface (hex2 b).isNone) .unit)) ∧ h' = h:=by
 have e1 : pPu [.str b,.int .i64 16,.int .i64 8] = some (.int .u64 ((hex2 b).getD 0 : Nat)):=by simp only [pPu]; rw [if_pos hb]
 have e2 : pPe [.str b,.int .i64 16,.int .i64 8] = some (.iface (hex2 b).isNone):=by simp only [pPe]; rw [if_pos hb]
 rw [Ok_eq]
 simp (maxSteps:=999999) (disch:=omega) only [go_sem,List.map_cons,List.map_nil,e1,e2]
 rfl
end
def hexP (x y : UInt8) : Option UInt8:=match hexV x,hexV y with
 | some p,some q=>some (UInt8.ofNat (16 * p + q))
 | _,_=>none
def unsh : List UInt8 → Option (List UInt8)
 | []=>some []
 | [c]=>if c.toNat = 92 then none else some [c]
 | [c,x]=>if c.toNat = 92 then none else (unsh [x]).map (c :: ·)
 | c :: x :: y :: r=>if c.toNat = 92 then (match hexP x y with
   | some v=>(unsh r).map (v :: ·)
   | none=>none) else (unsh (x :: y :: r)).map (c :: ·)
theorem unsh_nil : unsh [] = some []:=rfl
theorem unsh_plain {c : UInt8} {r : List UInt8} (hc : ¬c.toNat = 92) : unsh (c :: r) = (unsh r).map (c :: ·):=by
 match r with
 | []=>simp only [unsh,hc,if_false,Option.map_some]
 | [x]=>simp only [unsh,hc,if_false]
 | x :: y :: r=>rw [unsh,if_neg hc]
theorem unsh_short {c : UInt8} {r : List UInt8} (hc : c.toNat = 92) (hr : r.length < 2) : unsh (c :: r) = none:=by
 match r,hr with
 | [],_=>rw [unsh,if_pos hc]
 | [x],_=>rw [unsh,if_pos hc]
 | x :: y :: r,h=>simp only [List.length_cons] at h; omega
theorem unsh_hex {c x y : UInt8} {r : List UInt8} (hc : c.toNat = 92) : unsh (c :: x :: y :: r) = match hexP x y with
  | some v=>(unsh r).map (v :: ·)
  | none=>none:=by
 rw [unsh,if_pos hc]
theorem hex2_two {x y : UInt8} : hex2 (bsL [x,y]) = match hexV x,hexV y with
  | some p,some q=>some (16 * p + q)
  | _,_=>none:=rfl
theorem hexV_lt {c : UInt8} {n : Nat} (h : hexV c = some n) : n < 16:=by
 unfold hexV at h
 split at h
 ·simp at h; omega
 ·split at h
  ·simp only [Option.some.injEq] at h; omega
  ·simp at h
theorem hex_none {x y : UInt8} (e : hex2 (bsL [x,y]) = none) : hexP x y = none:=by
 rw [hex2_two] at e
 unfold hexP
 cases hp : hexV x with
 | none=>rfl
 | some p=>cases hq : hexV y with
  | none=>rfl
  | some q=>rw [hp,hq] at e; simp at e
theorem hex_some {x y : UInt8} {n : Nat} (e : hex2 (bsL [x,y]) = some n) : n < 256 ∧ hexP x y = some (UInt8.ofNat n):=by
 rw [hex2_two] at e
 unfold hexP
 cases hp : hexV x with
 | none=>rw [hp] at e; simp at e
 | some p=>cases hq : hexV y with
  | none=>rw [hp,hq] at e; simp at e
  | some q =>
   rw [hp,hq] at e
   have h1:=hexV_lt hp
   have h2:=hexV_lt hq
   simp only [Option.some.injEq] at e
   subst e
   exact ⟨by omega,rfl⟩
def meanL (l : List UInt8) : Option (List UInt8) :=
 if l.head? = some 61 then match unsh l.tail with
  | some o=>if showL o = l then some o else none
  | none=>none
 else none
section
variable {cx : Cx} {h : HP}
@[go_sem] theorem stridx_head {kk : IntKind} {c : UInt8} {r : List UInt8} : stridxV (.str (bsL (c :: r))) (.int kk 0) = some (.int .u8 (c.toNat : Nat)):=by
 have : (bsL (c :: r))[(0 : Int).toNat]? = some c:=by
  show (bsL (c :: r))[0]? = some c
  rw [getElem?_pos (bsL (c :: r)) 0 (by rw [bsL_size]; simp)]
  rfl
 simp only [stridxV,toIx]
 rw [if_pos (by omega),this]
 rfl
@[go_sem] theorem strsl_tail {c : UInt8} {r : List UInt8} : evStrsl (bsL (c :: r)) (some 1) (some (((bsL (c :: r)).size : Nat) : Int)) = some (.str (bsL r)) :=
 strsl_drop (l:=c :: r) (n:=1) (by simp)
@[go_sem] theorem strsl_two {x y : UInt8} {r : List UInt8} : evStrsl (bsL (x :: y :: r)) (some 0) (some 2) = some (.str (bsL [x,y])) :=
 strsl_take (l:=x :: y :: r) (n:=2) (by simp)
@[go_sem] theorem strsl_tail2 {x y : UInt8} {r : List UInt8} : evStrsl (bsL (x :: y :: r)) (some 2) (some (((bsL (x :: y :: r)).size : Nat) : Int)) = some (.str (bsL r)) :=
 strsl_drop (l:=x :: y :: r) (n:=2) (by simp)
theorem bsL_ne {c : UInt8} {r : List UInt8} : ¬bsL (c :: r) = ⟨#[]⟩:=fun e=>by
 have:=bsL_inj.1 (show bsL (c :: r) = bsL [] from e)
 simp at this
theorem bsL_nil : (bsL [] = ⟨#[]⟩) = True:=by simp only [eq_iff_iff,iff_true]; rfl
section
variable {T : Nat → Option MFun} {k : List Item} {kill : List Nat} {r : List MOp} {sl : Slots} {own : Own} {Q : St → Prop}
theorem WAU_nil1 {d : Nat} {a : Int} : WAU T cx .nilsl (some [.int .u8 a]) d r kill k sl own h Q =
  W T cx (.ops r kill :: k) ⟨(Slots.forget sl (.stk cx.lvl d)).set d (.sl (.stk cx.lvl d) 0 1),own.set d ⟨.arr 1 tU8,encU [a]⟩,h⟩ Q :=
 WAU_nil (add:=[a]) (by simp) (by simp)
theorem WAU_grow1 {d t len : Nat} {l : List Int} {a : Int} (hb : own.get t = some ⟨.arr len tU8,encU l⟩) (hl : l.length = len) (hm : len ≤ 1000000) : WAU T cx (.sl (.stk cx.lvl t) 0 len) (some [.int .u8 a]) d r kill k sl own h Q =
  W T cx (.ops r kill :: k) ⟨(Slots.forget sl (.stk cx.lvl d)).set d (.sl (.stk cx.lvl d) 0 (len + 1)),(own.rid t).set d ⟨.arr (len + 1) tU8,encU (l ++ [a])⟩,h⟩ Q :=
 WAU_grow (add:=[a]) hb hl (by simp) (by simp; omega)
end
@[go_sem] theorem tostrV_ints (l : List UInt8) : tostrV (some ((ints l).map (AV.int .u8))) = some (.str (bsL l)):=by
 simp only [tostrV,bytesOf_map,ints_back,Option.map_some]
 rfl
@[go_sem] theorem tostrV_nil : tostrV (some []) = some (.str (bsL [])):=rfl
theorem ShowL_ok {l : List UInt8} (hl : ∀ n,h.next ≤ n → cx.prot.lets (.obj n) = true) (hs : l.length ≤ 100000) : Ok tblT cx Fn.text_Show (St.enter [.str (bsL l)] h) fun v h'=>Fr h h' [] ∧ v = .str (bsL (showL l)) :=
 (Show_ok (s:=bsL l) hl (by rw [bsL_size]; exact hs)).mono fun v h' e=>⟨e.2,e.1⟩
@[go_sem] theorem safe_iface (b : Bool) : (AV.iface b).safe = true:=rfl
@[go_sem] theorem wrap8 {n : Int} (h0 : 0 ≤ n) (h1 : n < 256) : IntKind.u8.wrap n = n:=by
 obtain ⟨m,rfl⟩:=Int.eq_ofNat_of_zero_le h0
 have hm : m < 256:=by omega
 have : ∀ m : Fin 256,IntKind.u8.wrap (m.val : Int) = (m.val : Int):=by decide
 exact this ⟨m,hm⟩
def meV (cx : Cx) (o : List UInt8) : AV:=match o with
 | []=>.nilsl
 | _=>.sl (.stk cx.lvl 43) 0 o.length
def meO (o : List UInt8) : Own:=match o with
 | []=>[]
 | _=>[(43,⟨.arr o.length tU8,encU (ints o)⟩)]
def meSt (cx : Cx) (h : HP) (l : List UInt8) (a : List UInt8 × List UInt8) : St:=⟨[(0,.str (bsL l)),(4,.str (bsL a.1)),(6,meV cx a.2)],meO a.2,h⟩
theorem Mean_ok {l : List UInt8} (hl : ∀ n,h.next ≤ n → cx.prot.lets (.obj n) = true) (hs : l.length ≤ 10000) : Ok tblT cx Fn.text_Mean (St.enter [.str (bsL l)] h) fun v h' =>
  v = .tup (.cons (.str (bsL ((meanL l).getD []))) (.cons (.bool (meanL l).isSome) .unit)) ∧ Fr h h' []:=by
 rw [Ok_eq]
 simp (maxSteps:=999999) (disch:=omega) only [go_sem]
 refine W_callp rfl ⟨rfl,rfl⟩ (by simp only [go_sem]; exact Cut_ok (by omega)) ?_
 by_cases c0 : l.head? = some 61
 ·simp (maxSteps:=999999) (disch:=omega) only [go_sem,c0]
  refine W_forE l.length (fun _=>meSt cx h l) (fun j a=>j + a.1.length ≤ l.length ∧ a.2.length ≤ j ∧ unsh l.tail = (unsh a.1).map (a.2 ++ ·)) (l.tail,[]) (by simp only [go_sem] <;> rfl) ⟨by simp,by simp,by simp⟩ fun j a hj hp ih=>?_
  obtain ⟨rest,o⟩:=a
  obtain ⟨p1,p2,p3⟩:=hp
  simp only at p1 p2 p3
  simp only [meSt]
  cases rest with
  | nil =>
   have q3 : unsh l.tail = some o:=by rw [p3,unsh_nil]; simp
   cases o with
   | nil =>
    simp only [meV,meO]
    simp (maxSteps:=999999) (disch:=omega) only [go_sem,bsL_nil]
    refine W_callF (S:=[]) (R:=fun v h'=>v = .str (bsL (showL ([])))) rfl ⟨rfl,rfl⟩ (by simp only [go_sem]; exact ShowL_ok (l:=[]) (fun n hn=>hl n hn) (by simp only [List.length_cons,List.length_nil] at p1 p2 ⊢; omega)) (fun v h1 e=>e) fun v h1 hF hv=>?_
    subst hv
    by_cases c5 : showL ([]) = l
    ·have f : meanL l = some ([]):=by rw [meanL,if_pos c0,q3]; exact if_pos c5
     simp (maxSteps:=999999) (disch:=omega) only [go_sem,bsL_inj,c5,f]
     exact ⟨rfl,hF⟩
    ·have f : meanL l = none:=by rw [meanL,if_pos c0,q3]; exact if_neg c5
     simp (maxSteps:=999999) (disch:=omega) only [go_sem,bsL_inj,c5,f]
     exact ⟨rfl,hF⟩
   | cons b o =>
    have e:=elemsU_all (n:=(b :: o).length) (l:=ints (b :: o)) (ints_len _).symm
    simp only [meV,meO]
    simp (maxSteps:=999999) (disch:=omega) only [go_sem,bsL_nil,e]
    refine W_callF (S:=[]) (R:=fun v h'=>v = .str (bsL (showL (b :: o)))) rfl ⟨rfl,rfl⟩ (by simp only [go_sem]; exact ShowL_ok (l:=b :: o) (fun n hn=>hl n hn) (by simp only [List.length_cons,List.length_nil] at p1 p2 ⊢; omega)) (fun v h1 e=>e) fun v h1 hF hv=>?_
    subst hv
    by_cases c5 : showL (b :: o) = l
    ·have f : meanL l = some (b :: o):=by rw [meanL,if_pos c0,q3]; exact if_pos c5
     simp (maxSteps:=999999) (disch:=omega) only [go_sem,bsL_inj,c5,f,e]
     exact ⟨rfl,hF⟩
    ·have f : meanL l = none:=by rw [meanL,if_pos c0,q3]; exact if_neg c5
     simp (maxSteps:=999999) (disch:=omega) only [go_sem,bsL_inj,c5,f,e]
     exact ⟨rfl,hF⟩
  | cons c r =>
   by_cases c1 : (c.toNat : Int) = 92
   ·have c2 : c.toNat = 92:=by omega
    match r,p1,p3 with
    | [],p1,p3 =>
     have f : meanL l = none:=by rw [meanL,if_pos c0,p3,unsh_short c2 (by simp)]; rfl
     have h0 : (bsL []).size = 0:=rfl
     cases o <;> simp only [meV,meO] <;> simp (maxSteps:=999999) (disch:=omega) only [go_sem,bsL_ne,c1,h0,f]
     all_goals exact ⟨rfl,Fr.refl _ _⟩
    | [x],p1,p3 =>
     have f : meanL l = none:=by rw [meanL,if_pos c0,p3,unsh_short c2 (by simp)]; rfl
     have h0 : (bsL [x]).size = 1:=bsL_size _
     cases o <;> simp only [meV,meO] <;> simp (maxSteps:=999999) (disch:=omega) only [go_sem,bsL_ne,c1,h0,f]
     all_goals exact ⟨rfl,Fr.refl _ _⟩
    | x :: y :: r,p1,p3 =>
     have h0 : (bsL (x :: y :: r)).size = r.length + 2:=bsL_size _
     have h2 : (bsL [x,y]).size = 2:=rfl
     have x2 : (bsL (x :: y :: r)).extract 0 2 = bsL [x,y]:=ext_take
     have x3 : (bsL (x :: y :: r)).extract 2 (bsL (x :: y :: r)).size = bsL r:=ext_drop
     cases o with
     | nil =>
      simp only [meV,meO]
      simp (maxSteps:=999999) (disch:=omega) only [go_sem,bsL_ne,c1,h0,x2]
      refine W_callp rfl ⟨rfl,rfl⟩ (by simp only [go_sem]; exact Pu_ok h2) ?_
      cases e : hex2 (bsL [x,y]) with
      | none =>
       have f : meanL l = none:=by
        rw [meanL,if_pos c0,p3,unsh_hex c2,hex_none e]; rfl
       simp (maxSteps:=999999) (disch:=omega) only [go_sem,e,f,Option.isNone_none]
       exact ⟨rfl,Fr.refl _ _⟩
      | some n =>
       obtain ⟨n1,n2⟩:=hex_some e
       have n3 : (UInt8.ofNat n).toNat = n:=by simp [Nat.mod_eq_of_lt n1]
       simp (maxSteps:=999999) (disch:=omega) only [go_sem,e,Option.isNone_some,Option.getD_some,x3]
       rw [WAU_nil1]
       simp (maxSteps:=999999) (disch:=omega) only [go_sem]
       refine ih _ (r,[UInt8.ofNat n]) (by simp only [List.length_cons] at p1; omega) ?_ ⟨by simp only [List.length_cons] at p1 ⊢; omega,by simp only [List.length_append,List.length_cons,List.length_nil] at p2 ⊢; omega,?_⟩
       ·simp only [go_sem,meSt,meV,meO,ints,n3,List.map_cons,List.map_nil,List.cons_append,List.map_append,List.length_append,List.length_cons,List.length_nil] <;> rfl
       ·rw [p3,unsh_hex c2,n2]; cases unsh r <;> simp
     | cons b o =>
      simp only [meV,meO]
      simp (maxSteps:=999999) (disch:=omega) only [go_sem,bsL_ne,c1,h0,x2]
      refine W_callp rfl ⟨rfl,rfl⟩ (by simp only [go_sem]; exact Pu_ok h2) ?_
      cases e : hex2 (bsL [x,y]) with
      | none =>
       have f : meanL l = none:=by
        rw [meanL,if_pos c0,p3,unsh_hex c2,hex_none e]; rfl
       simp (maxSteps:=999999) (disch:=omega) only [go_sem,e,f,Option.isNone_none]
       exact ⟨rfl,Fr.refl _ _⟩
      | some n =>
       obtain ⟨n1,n2⟩:=hex_some e
       have n3 : (UInt8.ofNat n).toNat = n:=by simp [Nat.mod_eq_of_lt n1]
       simp (maxSteps:=999999) (disch:=omega) only [go_sem,e,Option.isNone_some,Option.getD_some,x3]
       rw [WAU_grow1 (l:=ints (b :: o))]
       ·simp (maxSteps:=999999) (disch:=omega) only [go_sem]
        refine ih _ (r,b :: o ++ [UInt8.ofNat n]) (by simp only [List.length_cons] at p1; omega) ?_ ⟨by simp only [List.length_cons] at p1 ⊢; omega,by simp only [List.length_append,List.length_cons,List.length_nil] at p2 ⊢; omega,?_⟩
        ·simp only [go_sem,meSt,meV,meO,ints,n3,List.map_cons,List.map_nil,List.cons_append,List.map_append,List.length_append,List.length_cons,List.length_nil] <;> rfl
        ·rw [p3,unsh_hex c2,n2]; cases unsh r <;> simp
       ·rfl
       ·exact ints_len _
       ·simp only [List.length_cons] at p1 p2 ⊢; omega
   ·have f : unsh (c :: r) = (unsh r).map (c :: ·):=unsh_plain (by omega)
    cases o with
    | nil =>
     simp only [meV,meO]
     simp (maxSteps:=999999) (disch:=omega) only [go_sem,bsL_ne,c1]
     rw [WAU_nil1]
     simp (maxSteps:=999999) (disch:=omega) only [go_sem]
     refine ih _ (r,[c]) (by simp only [List.length_cons] at p1; omega) ?_ ⟨by simp only [List.length_cons] at p1 ⊢; omega,by simp,?_⟩
     ·simp only [go_sem,meSt,meV,meO,ints,List.map_cons,List.map_nil,List.length_cons,List.length_nil] <;> rfl
     ·rw [p3,f]; cases unsh r <;> simp
    | cons b o =>
     simp only [meV,meO]
     simp (maxSteps:=999999) (disch:=omega) only [go_sem,bsL_ne,c1]
     rw [WAU_grow1 (l:=ints (b :: o))]
     ·simp (maxSteps:=999999) (disch:=omega) only [go_sem]
      refine ih _ (r,b :: o ++ [c]) (by simp only [List.length_cons] at p1; omega) ?_ ⟨by simp only [List.length_cons] at p1 ⊢; omega,by simp only [List.length_append,List.length_cons,List.length_nil] at p2 ⊢; omega,?_⟩
      ·simp only [go_sem,meSt,meV,meO,ints,List.map_cons,List.map_nil,List.cons_append,List.map_append,List.length_append,List.length_cons,List.length_nil] <;> rfl
      ·rw [p3,f]; cases unsh r <;> simp
     ·rfl
     ·exact ints_len _
     ·simp only [List.length_cons] at p1 p2 ⊢; omega
 ·have f : meanL l = none:=by rw [meanL,if_neg c0]
  simp (maxSteps:=999999) (disch:=omega) only [go_sem,c0,f]
  exact ⟨rfl,Fr.refl _ _⟩
end
section
variable {cx : Cx} {h : HP}
theorem Ent.enc_inj {a b : Ent} (e : a.enc = b.enc) : a = b:=by
 cases a; cases b
 simp only [Ent.enc,AV.cons.injEq,AV.str.injEq,AV.int.injEq,true_and,and_true] at e
 obtain ⟨rfl,rfl,rfl⟩:=e
 rfl
theorem Dat.enc_inj {a b : Dat} (e : a.enc = b.enc) : a = b:=by
 cases a; cases b
 simp only [Dat.enc,AV.cons.injEq,AV.str.injEq,AV.int.injEq,true_and,and_true] at e
 obtain ⟨rfl,rfl⟩:=e
 rfl
theorem encV_inj {α : Type} {n : Nat} {f : α → AV} (hf : ∀ a b,f a = f b → a = b) {v w : Vector α n} (e : encV f v = encV f w) : v = w:=by
 simp only [encV,AV.arr.injEq,heq_eq_eq,true_and] at e
 apply Vector.ext
 intro i hi
 exact hf _ _ (congrFun e ⟨i,hi⟩)
theorem Ino.enc_inj {a b : Ino} (e : a.enc = b.enc) : a = b:=by
 cases a; cases b
 simp only [Ino.enc,AV.cons.injEq,AV.bool.injEq,AV.int.injEq,true_and,and_true] at e
 obtain ⟨rfl,rfl,rfl,e⟩:=e
 rw [encV_inj (fun a b h=>by simpa using h) e]
theorem Img.enc_inj {a b : Img} (e : a.enc = b.enc) : a = b:=by
 cases a; cases b
 simp only [Img.enc,AV.cons.injEq,and_true] at e
 obtain ⟨e1,e2,e3⟩:=e
 rw [encV_inj (fun _ _=>Ino.enc_inj) e1,encV_inj (fun _ _ h=>encV_inj (fun _ _=>Ent.enc_inj) h) e2,encV_inj (fun _ _=>Dat.enc_inj) e3]
theorem pPrint_enc {m : Img} (hm : m.slim) : pPrint [m.enc] = some (.str (bsL (textL m))):=by
 have h : ∃ m' : Img,m.enc = m'.enc ∧ m'.slim:=⟨m,rfl,hm⟩
 have e : h.choose = m:=(Img.enc_inj h.choose_spec.1).symm
 simp only [pPrint]
 rw [dif_pos h,e]
 rfl
variable {p : Id} {q : List Nat}
theorem Print_ok {m : Img} (hb : p.below cx.lvl) (hm : h.rd p q = some m.enc) (hsl : m.slim) : Ok tblT cx Fn.text_Print (St.enter [.ptr p q tImage] h) fun v h'=>v = .str (bsL (textL m)) ∧ h' = h:=by
 have e:=pPrint_enc hsl
 rw [Ok_eq]
 have e2 : fitO tImage (h.rd p q) = some m.enc:=by rw [hm]; exact fitO_some (fits_img' m)
 simp (maxSteps:=999999) (disch:=omega) only [go_sem,rd_ext hb,e2,List.map_cons,List.map_nil,e]
end
theorem hexV_D {n : Nat} (hn : n < 16) : hexV (hexD n) = some n:=by
 have : ∀ n : Fin 16,hexV (hexD n.val) = some n.val:=by decide
 exact this ⟨n,hn⟩
theorem hexD_range {n : Nat} (hn : n < 16) : 33 ≤ (hexD n).toNat ∧ (hexD n).toNat ≤ 126:=by
 have : ∀ n : Fin 16,33 ≤ (hexD n.val).toNat ∧ (hexD n.val).toNat ≤ 126:=by decide
 exact this ⟨n,hn⟩
theorem unsh_show1 {c : UInt8} {r : List UInt8} : unsh (show1 c ++ r) = (unsh r).map (c :: ·):=by
 unfold show1
 split
 ·rename_i hc
  exact unsh_plain hc.2.2
 ·have hc:=c.toNat_lt
  show unsh (92 :: hexD (c.toNat / 16) :: hexD (c.toNat % 16) :: r) = _
  rw [unsh_hex rfl]
  have : hexP (hexD (c.toNat / 16)) (hexD (c.toNat % 16)) = some c:=by
   unfold hexP
   rw [hexV_D (by omega),hexV_D (by omega)]
   simp only
   rw [show 16 * (c.toNat / 16) + c.toNat % 16 = c.toNat by omega,UInt8.ofNat_toNat]
  rw [this]
theorem unsh_show (l : List UInt8) : unsh (l.flatMap show1) = some l:=by
 induction l with
 | nil=>rfl
 | cons c l ih=>rw [List.flatMap_cons,unsh_show1,ih]; rfl
theorem meanL_show (l : List UInt8) : meanL (showL l) = some l:=by
 have h1 : (showL l).head? = some 61:=rfl
 have h2 : (showL l).tail = l.flatMap show1:=rfl
 rw [meanL,if_pos h1,h2,unsh_show]
 exact if_pos rfl
theorem showL_inj {a b : List UInt8} : showL a = showL b ↔ a = b:=by
 constructor
 ·intro e
  have:=meanL_show a
  rw [e,meanL_show] at this
  exact (Option.some.inj this).symm
 ·rintro rfl; rfl
theorem show1_range {c x : UInt8} (h : x ∈ show1 c) : 33 ≤ x.toNat ∧ x.toNat ≤ 126:=by
 unfold show1 at h
 split at h
 ·rename_i hc
  simp only [List.mem_singleton] at h
  subst h
  exact ⟨hc.1,hc.2.1⟩
 ·have hc:=c.toNat_lt
  simp only [List.mem_cons,List.not_mem_nil,or_false] at h
  rcases h with rfl | rfl | rfl
  ·decide
  ·exact hexD_range (by omega)
  ·exact hexD_range (by omega)
theorem showL_range {l : List UInt8} {x : UInt8} (h : x ∈ showL l) : 33 ≤ x.toNat ∧ x.toNat ≤ 126:=by
 simp only [showL,List.mem_cons,List.mem_flatMap] at h
 rcases h with rfl | ⟨c,_,h⟩
 ·decide
 ·exact show1_range h
theorem num_d {n : Nat} (h : n < 10) : numL (n : Int) = [UInt8.ofNat (48 + n)]:=by
 unfold numL Lib.itoa
 rw [if_neg (by omega),Int.toNat_natCast,Lib.decDigits,dif_pos h]
theorem num_neg1 : numL (-1) = [45,49]:=by
 unfold numL Lib.itoa
 rw [if_pos (by omega)]
 show 45 :: Lib.decDigits 1 = _
 rw [Lib.decDigits,dif_pos (by omega)]
 rfl
theorem one_text : textL Img.one = [105,110,111,100,101,32,50,32,53,32,49,32,45,49,32,51,10,101,110,116,114,121,32,49,32,50,32,97,32,50,32,53,10,100,97,116,97,32,51,32,53,32,61,120,10]:=by
 have n1 : numL 1 = [49]:=num_d (n:=1) (by omega)
 have n2 : numL 2 = [50]:=num_d (n:=2) (by omega)
 have n3 : numL 3 = [51]:=num_d (n:=3) (by omega)
 have n5 : numL 5 = [53]:=num_d (n:=5) (by omega)
 have i : (List.finRange 8).flatMap (fun n : Fin 8=>inoL n.val Img.one.inode[n]) = [105,110,111,100,101,32,50,32,53,32,49,32,45,49,32,51,10]:=by
  have e : ∀ n : Fin 8,n.val ≠ 2 → inoL n.val Img.one.inode[n] = []:=by
   intro n hn
   match n with
   | ⟨0,_⟩ | ⟨1,_⟩ | ⟨3,_⟩ | ⟨4,_⟩ | ⟨5,_⟩ | ⟨6,_⟩ | ⟨7,_⟩=>rfl
   | ⟨2,_⟩=>exact absurd rfl hn
  show ([0,1,2,3,4,5,6,7] : List (Fin 8)).flatMap _ = _
  simp only [List.flatMap_cons,List.flatMap_nil,e 0 (by decide),e 1 (by decide),e 3 (by decide),e 4 (by decide),e 5 (by decide),e 6 (by decide),e 7 (by decide),List.nil_append,List.append_nil]
  show lineL ["inode".toUTF8.data.toList, numL 2, numL 5, numL 1, numL (-1), numL 3] = _
  rw [n1,n2,n3,n5,num_neg1]
  rfl
 have d : ((List.finRange 3).flatMap fun d : Fin 3=>(List.finRange 4).flatMap fun s : Fin 4=>entL d.val s.val Img.one.dir[d][s]) = [101,110,116,114,121,32,49,32,50,32,97,32,50,32,53,10]:=by
  have e : ∀ (d : Fin 3) (s : Fin 4),¬(d.val = 1 ∧ s.val = 2) → entL d.val s.val Img.one.dir[d][s] = []:=by
   intro d s hn
   match d,s with
   | ⟨0,_⟩,⟨0,_⟩ | ⟨0,_⟩,⟨1,_⟩ | ⟨0,_⟩,⟨2,_⟩ | ⟨0,_⟩,⟨3,_⟩ | ⟨1,_⟩,⟨0,_⟩ | ⟨1,_⟩,⟨1,_⟩ | ⟨1,_⟩,⟨3,_⟩ | ⟨2,_⟩,⟨0,_⟩ | ⟨2,_⟩,⟨1,_⟩ | ⟨2,_⟩,⟨2,_⟩ | ⟨2,_⟩,⟨3,_⟩=>rfl
   | ⟨1,_⟩,⟨2,_⟩=>exact absurd ⟨rfl,rfl⟩ hn
  show ([0,1,2] : List (Fin 3)).flatMap (fun d : Fin 3=>([0,1,2,3] : List (Fin 4)).flatMap fun s : Fin 4=>entL d.val s.val Img.one.dir[d][s]) = _
  simp only [List.flatMap_cons,List.flatMap_nil,e 0 0 (by decide),e 0 1 (by decide),e 0 2 (by decide),e 0 3 (by decide),e 1 0 (by decide),e 1 1 (by decide),e 1 3 (by decide),e 2 0 (by decide),e 2 1 (by decide),e 2 2 (by decide),e 2 3 (by decide),List.nil_append,List.append_nil]
  show lineL ["entry".toUTF8.data.toList, numL 1, numL 2, [97], numL 2, numL 5] = _
  rw [n1,n2,n5]
  rfl
 have x : (List.finRange 9).flatMap (fun x : Fin 9=>datL x.val Img.one.data[x]) = [100,97,116,97,32,51,32,53,32,61,120,10]:=by
  have e : ∀ n : Fin 9,n.val ≠ 3 → datL n.val Img.one.data[n] = []:=by
   intro n hn
   match n with
   | ⟨0,_⟩ | ⟨1,_⟩ | ⟨2,_⟩ | ⟨4,_⟩ | ⟨5,_⟩ | ⟨6,_⟩ | ⟨7,_⟩ | ⟨8,_⟩=>rfl
   | ⟨3,_⟩=>exact absurd rfl hn
  show ([0,1,2,3,4,5,6,7,8] : List (Fin 9)).flatMap _ = _
  simp only [List.flatMap_cons,List.flatMap_nil,e 0 (by decide),e 1 (by decide),e 2 (by decide),e 4 (by decide),e 5 (by decide),e 6 (by decide),e 7 (by decide),e 8 (by decide),List.nil_append,List.append_nil]
  show lineL ["data".toUTF8.data.toList, numL 3, numL 5, showL [120]] = _
  rw [n3,n5]
  rfl
 rw [textL,i,d,x]
 rfl
theorem one_slim : Img.one.slim:=by
 unfold Img.slim
 decide
section
variable {cx : Cx} {h : HP}
def meanA (l : List UInt8) : AV:=.tup (.cons (.str (bsL ((meanL l).getD []))) (.cons (.bool (meanL l).isSome) .unit))
theorem MeanL_ok {l : List UInt8} (hl : ∀ n,h.next ≤ n → cx.prot.lets (.obj n) = true) (hs : l.length ≤ 10000) : Ok tblT cx Fn.text_Mean (St.enter [.str (bsL l)] h) fun v h'=>Fr h h' [] ∧ v = meanA l :=
 (Mean_ok hl hs).mono fun v h' e=>⟨e.2,e.1⟩
theorem textBegun_ok (hl : ∀ n,h.next ≤ n → cx.prot.lets (.obj n) = true) : Ok tblT cx Fn.w_textBegun (St.enter [] h) fun v h'=>v = .bool true ∧ Fr h h' []:=by
 have m1 : meanA [61,97,92,50,48] = .tup (.cons (.str (bsL [97,32])) (.cons (.bool true) .unit)):=by rw [meanA,show meanL [61,97,92,50,48] = some [97,32] from by decide]; rfl
 have m2 : meanA [97] = .tup (.cons (.str (bsL [])) (.cons (.bool false) .unit)):=by rw [meanA,show meanL [97] = none from by decide]; rfl
 rw [Ok_eq]
 simp (maxSteps:=999999) (disch:=omega) only [go_sem]
 refine W_callp rfl ⟨rfl,rfl⟩ (by simp only [go_sem]; exact upT (upE (up one_ok))) ?_
 simp (maxSteps:=999999) (disch:=omega) only [go_sem]
 refine W_callF (S:=[]) (R:=fun v h'=>v = meanA [61,97,92,50,48]) rfl ⟨rfl,rfl⟩ (by simp only [go_sem]; exact MeanL_ok (l:=[61,97,92,50,48]) (fun n hn=>hl n hn) (by simp)) (fun v h1 e=>e) fun v h1 hF hv=>?_
 subst hv
 simp (maxSteps:=999999) (disch:=omega) only [go_sem,m1]
 refine W_callF (S:=[]) (R:=fun v h'=>v = meanA [97]) rfl ⟨rfl,rfl⟩ (by simp only [go_sem]; exact MeanL_ok (l:=[97]) (fun n hn=>hl n (Nat.le_trans hF.next hn)) (by simp)) (fun v h1 e=>e) fun v h2 hF2 hv=>?_
 subst hv
 simp (maxSteps:=999999) (disch:=omega) only [go_sem,m2]
 refine W_callp rfl ⟨rfl,rfl⟩ (by simp only [go_sem]; exact Print_ok (m:=Img.one) (below_stk _ _) (by simp only [go_sem,HP.push_rd_own]) one_slim) ?_
 have e1 : (bsL (textL Img.one) = ⟨#[105,110,111,100,101,32,50,32,53,32,49,32,45,49,32,51,10,101,110,116,114,121,32,49,32,50,32,97,32,50,32,53,10,100,97,116,97,32,51,32,53,32,61,120,10]⟩) = True:=by rw [one_text]; simp only [eq_iff_iff,iff_true]; rfl
 have e2 : (bsL [97,32] = ⟨#[97,32]⟩) = True:=by simp only [eq_iff_iff,iff_true]; rfl
 simp (maxSteps:=999999) (disch:=omega) only [go_sem,e1,e2]
 have hF3:=hF.trans hF2
 refine W_callF (S:=[]) (R:=fun v h'=>v = .str (bsL (showL [97,32]))) rfl ⟨rfl,rfl⟩ (by simp only [go_sem]; exact ShowL_ok (l:=[97,32]) (fun n hn=>hl n (Nat.le_trans hF3.next hn)) (by simp)) (fun v h1 e=>e) fun v h4 hF4 hv=>?_
 subst hv
 have e3 : (bsL (showL [97,32]) = ⟨#[61,97,92,50,48]⟩) = True:=by simp only [eq_iff_iff,iff_true]; decide
 simp (maxSteps:=999999) (disch:=omega) only [go_sem,e3]
 exact hF3.trans hF4
end
section
variable {cx : Cx} {h : HP}
theorem begunF_ok (hl : ∀ n,h.next ≤ n → cx.prot.lets (.obj n) = true) : Ok tblT cx Fn.w_textBegun (St.enter [] h) fun v h'=>Fr h h' [] ∧ v = .bool true :=
 (textBegun_ok hl).mono fun v h' e=>⟨e.2,e.1⟩
end
def catN (k : Nat) (f : Nat → List UInt8) : List UInt8:=(List.range k).flatMap f
theorem catN_succ (k : Nat) (f : Nat → List UInt8) : catN (k + 1) f = catN k f ++ f k:=by
 simp only [catN,List.range_succ,List.flatMap_append,List.flatMap_cons,List.flatMap_nil,List.append_nil]
theorem catN_zero (f : Nat → List UInt8) : catN 0 f = []:=rfl
theorem fin_catN {n : Nat} {g : Fin n → List UInt8} {f : Nat → List UInt8} (h : ∀ i : Fin n,g i = f i.val) : (List.finRange n).flatMap g = catN n f:=by
 have : g = fun i=>f i.val:=funext h
 have e : (List.finRange n).map Fin.val = List.range n:=List.ext_getElem (by simp) fun i h1 h2=>by simp
 rw [this,catN,← e,List.flatMap_map]
theorem text_cat (m : Img) : textL m = catN 8 (fun n=>inoL n (m.ino n)) ++ catN 3 (fun d=>catN 4 fun s=>entL d s (m.ent d s)) ++ catN 9 (fun x=>datL x (m.dat x)):=by
 unfold textL
 rw [fin_catN (f:=fun n=>inoL n (m.ino n)),fin_catN (f:=fun d=>catN 4 fun s=>entL d s (m.ent d s)),fin_catN (f:=fun x=>datL x (m.dat x))]
 ·intro i; show datL i.val m.data[i.val] = _; rw [dat_eq]
 ·intro d; exact fin_catN fun s=>by show entL d.val s.val (m.dir[d.val])[s.val] = _; rw [ent_eq]
 ·intro i; show inoL i.val m.inode[i.val] = _; rw [ino_eq]
theorem num_len {n : Int} (h : i64 n) : (numL n).length ≤ 21:=by
 obtain ⟨h0,h1⟩:=h
 unfold numL Lib.itoa
 split
 ·have h3:=Lib.nDigits_le20 n.natAbs (by omega)
  simp only [List.length_cons,Lib.decDigits_length]
  have : (-n).toNat = n.natAbs:=by omega
  rw [← this] at h3
  first | omega | (simp only [this] at *; omega)
 ·rw [Lib.decDigits_length]; exact Nat.le_trans (Lib.nDigits_le20 _ (by omega)) (by omega)
theorem lineL_one (x : List UInt8) : lineL [x] = x ++ [10]:=by rw [lineL,Lib.join_one]
theorem lineL_cons (x y : List UInt8) (r : List (List UInt8)) : lineL (x :: y :: r) = x ++ 32 :: lineL (y :: r):=by
 simp only [lineL,Lib.join_cons,Lib.joinTail,List.map_cons,List.flatten_cons,List.append_assoc,List.cons_append,List.nil_append]
theorem i64_nat {n : Nat} (h : n < 100) : i64 (n : Int):=⟨by omega,by omega⟩
theorem slim_ino {m : Img} (h : m.slim) (n : Nat) : i64 (m.ino n).stamp ∧ i64 (m.ino n).links ∧ i64 ((m.ino n).prt 0) ∧ i64 ((m.ino n).prt 1):=by
 unfold Img.ino
 split
 ·rename_i hn; exact h.1 ⟨n,hn⟩
 ·decide
theorem slim_ent {m : Img} (h : m.slim) (d s : Nat) : i64 (m.ent d s).ino ∧ i64 (m.ent d s).stamp ∧ (m.ent d s).name.size ≤ 10000:=by
 unfold Img.ent
 split
 ·rename_i hn; exact h.2.1 ⟨d,hn.1⟩ ⟨s,hn.2⟩
 ·decide
theorem slim_dat {m : Img} (h : m.slim) (x : Nat) : i64 (m.dat x).of ∧ (m.dat x).text.size ≤ 10000:=by
 unfold Img.dat
 split
 ·rename_i hn; exact h.2.2 ⟨x,hn⟩
 ·decide
theorem inoL_eq (n : Nat) (i : Ino) : inoL n i = if i.live then [105,110,111,100,101] ++ 32 :: (numL n ++ 32 :: (numL i.stamp ++ 32 :: (numL i.links ++ 32 :: (numL (i.prt 0) ++ 32 :: (numL (i.prt 1) ++ [10]))))) else []:=by
 unfold inoL
 rw [show "inode".toUTF8.data.toList = [105, 110, 111, 100, 101] from rfl]
 simp only [lineL_cons,lineL_one]
 rfl
theorem entL_eq (d s : Nat) (e : Ent) : entL d s e = if e.name.size ≠ 0 then [101,110,116,114,121] ++ 32 :: (numL d ++ 32 :: (numL s ++ 32 :: (e.name.data.toList ++ 32 :: (numL e.ino ++ 32 :: (numL e.stamp ++ [10]))))) else []:=by
 unfold entL
 rw [show "entry".toUTF8.data.toList = [101, 110, 116, 114, 121] from rfl]
 simp only [lineL_cons,lineL_one]
theorem datL_eq (x : Nat) (y : Dat) : datL x y = if y.of ≠ 0 then [100,97,116,97] ++ 32 :: (numL x ++ 32 :: (numL y.of ++ 32 :: (showL y.text.data.toList ++ [10]))) else []:=by
 unfold datL
 rw [show "data".toUTF8.data.toList = [100, 97, 116, 97] from rfl]
 simp only [lineL_cons,lineL_one]
theorem inoL_len {m : Img} (h : m.slim) (n : Nat) (hn : n < 100) : (inoL n (m.ino n)).length ≤ 200:=by
 obtain ⟨h1,h2,h3,h4⟩:=slim_ino h n
 have:=num_len h1; have:=num_len h2; have:=num_len h3; have:=num_len h4; have:=num_len (i64_nat hn)
 rw [inoL_eq]
 split
 ·simp only [List.length_append,List.length_cons,List.length_nil]; omega
 ·simp
theorem entL_len {m : Img} (h : m.slim) (d s : Nat) (hd : d < 100) (hs : s < 100) : (entL d s (m.ent d s)).length ≤ 10200:=by
 obtain ⟨h1,h2,h3⟩:=slim_ent h d s
 have:=num_len h1; have:=num_len h2; have:=num_len (i64_nat hd); have:=num_len (i64_nat hs)
 rw [entL_eq]
 split
 ·have : (m.ent d s).name.data.toList.length = (m.ent d s).name.size:=by simp
  simp only [List.length_append,List.length_cons,List.length_nil]; omega
 ·simp
theorem datL_len {m : Img} (h : m.slim) (x : Nat) (hx : x < 100) : (datL x (m.dat x)).length ≤ 30200:=by
 obtain ⟨h1,h2⟩:=slim_dat h x
 have:=num_len h1; have:=num_len (i64_nat hx)
 rw [datL_eq]
 split
 ·have:=showL_size (m.dat x).text.data.toList
  have : (m.dat x).text.data.toList.length = (m.dat x).text.size:=by simp
  simp only [List.length_append,List.length_cons,List.length_nil]; omega
 ·simp
def tInoT (m : Img) (n : Nat) : List UInt8:=catN n fun n=>inoL n (m.ino n)
def tRowT (m : Img) (d s : Nat) : List UInt8:=catN s fun s=>entL d s (m.ent d s)
def tDirT (m : Img) (d : Nat) : List UInt8:=catN d fun d=>tRowT m d 4
def tDatT (m : Img) (x : Nat) : List UInt8:=catN x fun x=>datL x (m.dat x)
theorem catN_le' {f : Nat → List UInt8} {c k : Nat} (h : ∀ i,i < k → (f i).length ≤ c) : (catN k f).length ≤ k * c:=by
 induction k with
 | zero=>simp [catN_zero]
 | succ k ih =>
  rw [catN_succ,List.length_append,Nat.add_mul,Nat.one_mul]
  have:=h k (by omega)
  have:=ih fun i hi=>h i (by omega)
  omega
theorem tInoT_le {m : Img} (h : m.slim) {n : Nat} (hn : n ≤ 8) : (tInoT m n).length ≤ 1600:=Nat.le_trans (catN_le' fun i hi=>inoL_len h i (by omega)) (by omega)
theorem tRowT_le {m : Img} (h : m.slim) {d s : Nat} (hd : d < 3) (hs : s ≤ 4) : (tRowT m d s).length ≤ 40800:=Nat.le_trans (catN_le' fun i hi=>entL_len h d i (by omega) (by omega)) (by omega)
theorem tDirT_le {m : Img} (h : m.slim) {d : Nat} (hd : d ≤ 3) : (tDirT m d).length ≤ 122400:=Nat.le_trans (catN_le' fun i hi=>tRowT_le h (by omega) (Nat.le_refl _)) (by omega)
theorem tDatT_le {m : Img} (h : m.slim) {x : Nat} (hx : x ≤ 9) : (tDatT m x).length ≤ 271800:=Nat.le_trans (catN_le' fun i hi=>datL_len h i (by omega)) (by omega)
def Img.nums (m : Img) : Prop :=
 (∀ n : Fin 8,i64 m.inode[n].stamp ∧ i64 m.inode[n].links ∧ i64 m.inode[n].part[0] ∧ i64 m.inode[n].part[1]) ∧
 (∀ (d : Fin 3) (s : Fin 4),i64 m.dir[d][s].ino ∧ i64 m.dir[d][s].stamp) ∧ ∀ x : Fin 9,i64 m.data[x].of
theorem great_dat {m : Img} (h : great m = false) (x : Nat) : (m.dat x).text.size ≤ 3000:=by
 by_cases hc : x < 9
 ·have h1 : min (m.dat x).text.size 10000 ≤ greatDat m 9:=sumN_ge (f:=fun x=>min (m.dat x).text.size 10000) hc
  simp only [great,decide_eq_false_iff_not] at h
  omega
 ·simp only [Img.dat,hc,dif_neg,not_false_eq_true]; decide
theorem slim_of {m : Img} (hg : great m = false) (hn : m.nums) : m.slim:=by
 refine ⟨hn.1,fun d s=>⟨(hn.2.1 d s).1,(hn.2.1 d s).2,?_⟩,fun x=>⟨hn.2.2 x,?_⟩⟩
 ·have:=great_name hg d.val s.val
  rw [← ent_eq m d.isLt s.isLt] at this
  exact Nat.le_trans this (by omega)
 ·have:=great_dat hg x.val
  rw [← dat_eq m x.isLt] at this
  exact Nat.le_trans this (by omega)
def digV (l : List UInt8) : Nat:=l.foldl (fun a c=>10 * a + (c.toNat - 48)) 0
theorem digV_app (l : List UInt8) (c : UInt8) : digV (l ++ [c]) = 10 * digV l + (c.toNat - 48):=by simp [digV,List.foldl_append]
theorem digV_dec (u : Nat) : digV (Lib.decDigits u) = u:=by
 induction u using Nat.strongRecOn with
 | _ u ih =>
  rw [Lib.decDigits]
  split
  ·rename_i h
   have : (48 + u) % 256 = 48 + u:=Nat.mod_eq_of_lt (by omega)
   simp [digV,this]
  ·rename_i h
   have h2:=ih (u / 10) (by omega)
   have : (48 + u % 10) % 256 = 48 + u % 10:=Nat.mod_eq_of_lt (by omega)
   rw [digV_app,h2]
   simp only [UInt8.toNat_ofNat',Nat.reducePow,this]
   omega
theorem dec_digit (u : Nat) : ∀ c ∈ Lib.decDigits u,48 ≤ c.toNat ∧ c.toNat ≤ 57:=by
 induction u using Nat.strongRecOn with
 | _ u ih =>
  rw [Lib.decDigits]
  split
  ·rename_i h
   intro c hc
   have : (48 + u) % 256 = 48 + u:=Nat.mod_eq_of_lt (by omega)
   simp only [List.mem_singleton] at hc
   subst hc
   simp only [UInt8.toNat_ofNat',Nat.reducePow,this]
   omega
  ·rename_i h
   intro c hc
   rw [List.mem_append] at hc
   rcases hc with hc | hc
   ·exact ih (u / 10) (by omega) c hc
   ·have : (48 + u % 10) % 256 = 48 + u % 10:=Nat.mod_eq_of_lt (by omega)
    simp only [List.mem_singleton] at hc
    subst hc
    simp only [UInt8.toNat_ofNat',Nat.reducePow,this]
    omega
theorem num_inj {a b : Int} (h : numL a = numL b) : a = b:=by
 unfold numL Lib.itoa at h
 have hd : ∀ u v,45 :: Lib.decDigits u ≠ Lib.decDigits v:=fun u v e=>by
  have:=dec_digit v 45 (by rw [← e]; simp)
  exact absurd this.1 (by decide)
 split at h <;> split at h
 ·have:=congrArg digV (List.cons.inj h).2
  rw [digV_dec,digV_dec] at this
  omega
 ·exact (hd _ _ h).elim
 ·exact (hd _ _ h.symm).elim
 ·have:=congrArg digV h
  rw [digV_dec,digV_dec] at this
  omega
def clean (x : List UInt8) : Prop:=∀ c ∈ x,33 ≤ c.toNat
theorem num_clean (n : Int) : clean (numL n):=by
 unfold numL Lib.itoa
 split
 ·intro c hc
  rcases List.mem_cons.1 hc with rfl | hc
  ·decide
  ·exact Nat.le_trans (by decide) (dec_digit _ c hc).1
 ·intro c hc; exact Nat.le_trans (by decide) (dec_digit _ c hc).1
theorem show_clean (l : List UInt8) : clean (showL l):=fun c hc=>(showL_range hc).1
theorem word_inj : ∀ {x y : List UInt8} {c d : UInt8} {s t : List UInt8},clean x → clean y → c.toNat < 33 → d.toNat < 33 → x ++ c :: s = y ++ d :: t → x = y ∧ c = d ∧ s = t
 | [],[],_,_,_,_,_,_,_,_,h=>by simp at h; exact ⟨rfl,h⟩
 | [],b :: y,c,d,s,t,_,hy,hc,hd,h=>by
  simp only [List.nil_append,List.cons_append,List.cons.injEq] at h
  have:=hy b (by simp)
  rw [← h.1] at this; omega
 | a :: x,[],c,d,s,t,hx,_,hc,hd,h=>by
  simp only [List.nil_append,List.cons_append,List.cons.injEq] at h
  have:=hx a (by simp)
  rw [h.1] at this; omega
 | a :: x,b :: y,c,d,s,t,hx,hy,hc,hd,h=>by
  simp only [List.cons_append,List.cons.injEq] at h
  obtain ⟨h1,h2,h3⟩:=word_inj (fun z hz=>hx z (List.mem_cons_of_mem _ hz)) (fun z hz=>hy z (List.mem_cons_of_mem _ hz)) hc hd h.2
  exact ⟨by rw [h.1,h1],h2,h3⟩
theorem line_inj : ∀ {a b : List (List UInt8)} {r s : List UInt8},a ≠ [] → b ≠ [] → (∀ x ∈ a,clean x) → (∀ x ∈ b,clean x) → lineL a ++ r = lineL b ++ s → a = b ∧ r = s
 | [],_,_,_,h,_,_,_,_=>(h rfl).elim
 | _,[],_,_,_,h,_,_,_=>(h rfl).elim
 | [x],[y],r,s,_,_,ha,hb,h=>by
  simp only [lineL_one,List.append_assoc,List.cons_append,List.nil_append] at h
  obtain ⟨h1,_,h3⟩:=word_inj (ha x (by simp)) (hb y (by simp)) (by decide) (by decide) h
  exact ⟨by rw [h1],h3⟩
 | [x],y :: z :: b,r,s,_,_,ha,hb,h=>by
  simp only [lineL_one,lineL_cons,List.append_assoc,List.cons_append,List.nil_append] at h
  obtain ⟨_,h2,_⟩:=word_inj (ha x (by simp)) (hb y (by simp)) (by decide) (by decide) h
  exact absurd h2 (by decide)
 | x :: w :: a,[y],r,s,_,_,ha,hb,h=>by
  simp only [lineL_one,lineL_cons,List.append_assoc,List.cons_append,List.nil_append] at h
  obtain ⟨_,h2,_⟩:=word_inj (ha x (by simp)) (hb y (by simp)) (by decide) (by decide) h
  exact absurd h2 (by decide)
 | x :: w :: a,y :: z :: b,r,s,_,_,ha,hb,h=>by
  simp only [lineL_cons,List.append_assoc,List.cons_append] at h
  obtain ⟨h1,_,h3⟩:=word_inj (ha x (by simp)) (hb y (by simp)) (by decide) (by decide) h
  obtain ⟨h4,h5⟩:=line_inj (by simp) (by simp) (fun v hv=>ha v (List.mem_cons_of_mem _ hv)) (fun v hv=>hb v (List.mem_cons_of_mem _ hv)) h3
  exact ⟨by rw [h1,h4],h5⟩
theorem line_pos (a : List (List UInt8)) : 0 < (lineL a).length:=by simp [lineL]
theorem lines_inj : ∀ {A B : List (List (List UInt8))},(∀ a ∈ A,a ≠ [] ∧ ∀ x ∈ a,clean x) → (∀ a ∈ B,a ≠ [] ∧ ∀ x ∈ a,clean x) → A.flatMap lineL = B.flatMap lineL → A = B
 | [],[],_,_,_=>rfl
 | [],b :: B,_,_,h=>by
  have:=congrArg List.length h
  have h2 : 0 < (lineL b).length:=line_pos b
  simp only [List.flatMap_cons,List.length_append,List.flatMap_nil,List.length_nil] at this; omega
 | a :: A,[],_,_,h=>by
  have:=congrArg List.length h
  have h2 : 0 < (lineL a).length:=line_pos a
  simp only [List.flatMap_cons,List.length_append,List.flatMap_nil,List.length_nil] at this; omega
 | a :: A,b :: B,hA,hB,h=>by
  simp only [List.flatMap_cons] at h
  have h1:=hA a (by simp)
  have h2:=hB b (by simp)
  obtain ⟨h3,h4⟩:=line_inj h1.1 h2.1 h1.2 h2.2 h
  rw [h3,lines_inj (fun v hv=>hA v (List.mem_cons_of_mem _ hv)) (fun v hv=>hB v (List.mem_cons_of_mem _ hv)) h4]
def wI : List UInt8:=[105,110,111,100,101]
def wE : List UInt8:=[101,110,116,114,121]
def wD : List UInt8:=[100,97,116,97]
def inoW (n : Nat) (i : Ino) : List (List (List UInt8)):=if i.live = true then [[wI,numL n,numL i.stamp,numL i.links,numL (i.prt 0),numL (i.prt 1)]] else []
def entW (d s : Nat) (e : Ent) : List (List (List UInt8)):=if e.name.size ≠ 0 then [[wE,numL d,numL s,e.name.data.toList,numL e.ino,numL e.stamp]] else []
def datW (x : Nat) (y : Dat) : List (List (List UInt8)):=if y.of ≠ 0 then [[wD,numL x,numL y.of,showL y.text.data.toList]] else []
def linesOf (m : Img) : List (List (List UInt8)):=(List.range 8).flatMap (fun n=>inoW n (m.ino n)) ++ ((List.range 3).flatMap (fun d=>(List.range 4).flatMap fun s=>entW d s (m.ent d s)) ++ (List.range 9).flatMap (fun x=>datW x (m.dat x)))
theorem text_lines (m : Img) : textL m = (linesOf m).flatMap lineL:=by
 have h1 : ∀ n i,(inoW n i).flatMap lineL = inoL n i:=fun n i=>by
  unfold inoW inoL
  split
  ·simp only [List.flatMap_cons,List.flatMap_nil,List.append_nil]; rfl
  ·rfl
 have h2 : ∀ d s e,(entW d s e).flatMap lineL = entL d s e:=fun d s e=>by
  unfold entW entL
  split
  ·simp only [List.flatMap_cons,List.flatMap_nil,List.append_nil]; rfl
  ·rfl
 have h3 : ∀ x y,(datW x y).flatMap lineL = datL x y:=fun x y=>by
  unfold datW datL
  split
  ·simp only [List.flatMap_cons,List.flatMap_nil,List.append_nil]; rfl
  ·rfl
 simp only [text_cat,linesOf,List.flatMap_append,List.flatMap_assoc,h1,h2,h3,catN,List.append_assoc]
theorem mem_lines {m : Img} {L : List (List UInt8)} : L ∈ linesOf m ↔ (∃ n,n < 8 ∧ (m.ino n).live = true ∧ L = [wI,numL n,numL (m.ino n).stamp,numL (m.ino n).links,numL ((m.ino n).prt 0),numL ((m.ino n).prt 1)]) ∨
  (∃ d s,d < 3 ∧ s < 4 ∧ (m.ent d s).name.size ≠ 0 ∧ L = [wE,numL d,numL s,(m.ent d s).name.data.toList,numL (m.ent d s).ino,numL (m.ent d s).stamp]) ∨
  ∃ x,x < 9 ∧ (m.dat x).of ≠ 0 ∧ L = [wD,numL x,numL (m.dat x).of,showL (m.dat x).text.data.toList]:=by
 unfold linesOf
 simp only [List.mem_append,List.mem_flatMap,List.mem_range]
 constructor
 ·rintro (⟨n,hn,h⟩ | ⟨d,hd,s,hs,h⟩ | ⟨x,hx,h⟩)
  ·unfold inoW at h; split at h
   ·rename_i hl; simp only [List.mem_singleton] at h; exact .inl ⟨n,hn,hl,h⟩
   ·simp at h
  ·unfold entW at h; split at h
   ·rename_i hl; simp only [List.mem_singleton] at h; exact .inr (.inl ⟨d,s,hd,hs,hl,h⟩)
   ·simp at h
  ·unfold datW at h; split at h
   ·rename_i hl; simp only [List.mem_singleton] at h; exact .inr (.inr ⟨x,hx,hl,h⟩)
   ·simp at h
 ·rintro (⟨n,hn,hl,h⟩ | ⟨d,s,hd,hs,hl,h⟩ | ⟨x,hx,hl,h⟩)
  ·exact .inl ⟨n,hn,by unfold inoW; rw [if_pos hl]; simp [h]⟩
  ·exact .inr (.inl ⟨d,hd,s,hs,by unfold entW; rw [if_pos hl]; simp [h]⟩)
  ·exact .inr (.inr ⟨x,hx,by unfold datW; rw [if_pos hl]; simp [h]⟩)
theorem name_clean {s : Str} (h : isName s = true) : clean s.data.toList:=by
 unfold isName at h
 simp only [Bool.and_eq_true,Bool.not_eq_true'] at h
 have hb:=anyN_false.1 h.2
 intro c hc
 obtain ⟨j,hj,rfl⟩:=List.getElem_of_mem hc
 have hj2 : j < s.size:=by simpa using hj
 have:=hb j hj2
 unfold badByte at this
 simp only [Bool.or_eq_false_iff,decide_eq_false_iff_not] at this
 rw [byteAt_eq hj] at this
 omega
theorem lines_clean {m : Img} (h : check m = 0) : ∀ a ∈ linesOf m,a ≠ [] ∧ ∀ x ∈ a,clean x:=by
 obtain ⟨h1,h2,_⟩:=check_parts h
 have c1 : clean wI:=by unfold clean wI; decide
 have c2 : clean wE:=by unfold clean wE; decide
 have c3 : clean wD:=by unfold clean wD; decide
 intro a ha
 rcases mem_lines.1 ha with ⟨n,hn,hl,rfl⟩ | ⟨d,s,hd,hs,hl,rfl⟩ | ⟨x,hx,hl,rfl⟩
 ·refine ⟨by simp,fun x hx=>?_⟩
  simp only [List.mem_cons,List.not_mem_nil,or_false] at hx
  rcases hx with rfl | rfl | rfl | rfl | rfl | rfl <;> first | exact c1 | exact num_clean _
 ·have hnm : clean (m.ent d s).name.data.toList:=by
   have:=h1 d hd s hs
   unfold entryFault at this
   simp only at this
   split at this
   ·rename_i e; rw [e] at hl; exact absurd rfl hl
   ·split at this
    ·omega
    ·rename_i hq; exact name_clean (by simpa using hq)
  refine ⟨by simp,fun x hx=>?_⟩
  simp only [List.mem_cons,List.not_mem_nil,or_false] at hx
  rcases hx with rfl | rfl | rfl | rfl | rfl | rfl <;> first | exact c2 | exact hnm | exact num_clean _
 ·refine ⟨by simp,fun x hx=>?_⟩
  simp only [List.mem_cons,List.not_mem_nil,or_false] at hx
  rcases hx with rfl | rfl | rfl | rfl <;> first | exact c3 | exact num_clean _ | exact show_clean _
theorem nat_num {a b : Nat} (h : numL (a : Int) = numL (b : Int)) : a = b:=by have:=num_inj h; omega
theorem str_list {a b : Str} (h : a.data.toList = b.data.toList) : a = b:=ByteArray.ext (Array.toList_inj.1 h)
theorem ino_of {m n : Img} (h : linesOf m = linesOf n) {k : Nat} (hk : k < 8) (hl : (m.ino k).live = true) : m.ino k = n.ino k:=by
 have h1 : _ ∈ linesOf m:=mem_lines.2 (.inl ⟨k,hk,hl,rfl⟩)
 rw [h] at h1
 rcases mem_lines.1 h1 with ⟨j,hj,hl2,e⟩ | ⟨d,s,_,_,_,e⟩ | ⟨x,_,_,e⟩
 ·simp only [List.cons.injEq,and_true,true_and] at e
  obtain ⟨e0,e1,e2,e3,e4⟩:=e
  obtain rfl:=nat_num e0
  refine Ino.ext_of (by rw [hl,hl2]) (num_inj e1) (num_inj e2) fun p hp=>?_
  match p,hp with
  | 0,_=>exact num_inj e3
  | 1,_=>exact num_inj e4
 ·simp only [List.cons.injEq] at e; exact absurd e.1 (by decide)
 ·simp only [List.cons.injEq] at e; exact absurd e.1 (by decide)
theorem ent_of {m n : Img} (h : linesOf m = linesOf n) {d s : Nat} (hd : d < 3) (hs : s < 4) (hl : (m.ent d s).name.size ≠ 0) : m.ent d s = n.ent d s:=by
 have h1 : _ ∈ linesOf m:=mem_lines.2 (.inr (.inl ⟨d,s,hd,hs,hl,rfl⟩))
 rw [h] at h1
 rcases mem_lines.1 h1 with ⟨j,hj,hl2,e⟩ | ⟨d',s',_,_,_,e⟩ | ⟨x,_,_,e⟩
 ·simp only [List.cons.injEq] at e; exact absurd e.1 (by decide)
 ·simp only [List.cons.injEq,and_true,true_and] at e
  obtain ⟨e0,e1,e2,e3,e4⟩:=e
  obtain rfl:=nat_num e0
  obtain rfl:=nat_num e1
  have g2:=str_list e2
  have g3:=num_inj e3
  have g4:=num_inj e4
  cases ha : m.ent d s; cases hb : n.ent d s
  rw [ha,hb] at g2 g3 g4
  simp only at g2 g3 g4
  rw [g2,g3,g4]
 ·simp only [List.cons.injEq] at e; exact absurd e.1 (by decide)
theorem dat_of {m n : Img} (h : linesOf m = linesOf n) {x : Nat} (hx : x < 9) (hl : (m.dat x).of ≠ 0) : m.dat x = n.dat x:=by
 have h1 : _ ∈ linesOf m:=mem_lines.2 (.inr (.inr ⟨x,hx,hl,rfl⟩))
 rw [h] at h1
 rcases mem_lines.1 h1 with ⟨j,hj,hl2,e⟩ | ⟨d',s',_,_,_,e⟩ | ⟨y,_,_,e⟩
 ·simp only [List.cons.injEq] at e; exact absurd e.1 (by decide)
 ·simp only [List.cons.injEq] at e; exact absurd e.1 (by decide)
 ·simp only [List.cons.injEq,and_true,true_and] at e
  obtain ⟨e0,e1,e2⟩:=e
  obtain rfl:=nat_num e0
  have g1:=num_inj e1
  have g2:=str_list (showL_inj.1 e2)
  cases ha : m.dat x; cases hb : n.dat x
  rw [ha,hb] at g1 g2
  simp only at g1 g2
  rw [g1,g2]
theorem text_apart {m n : Img} (hm : check m = 0) (hn : check n = 0) (dm : ∀ x,x < 9 → (m.dat x).of = 0 → (m.dat x).text = ⟨#[]⟩) (dn : ∀ x,x < 9 → (n.dat x).of = 0 → (n.dat x).text = ⟨#[]⟩) : textL m = textL n ↔ m = n:=by
 constructor
 ·intro h
  rw [text_lines,text_lines] at h
  have hL:=lines_inj (lines_clean hm) (lines_clean hn) h
  obtain ⟨m1,m2,_⟩:=check_parts hm
  obtain ⟨n1,n2,_⟩:=check_parts hn
  have dead : ∀ {a : Img} {k : Nat},inoFault a k = 0 → (a.ino k).live = false → a.ino k = Ino.none:=fun hf hl=>by
   unfold inoFault at hf
   simp only [hl,if_true] at hf
   split at hf
   ·assumption
   ·omega
  have bare : ∀ {a : Img} {d s : Nat},entryFault a d s = 0 → (a.ent d s).name.size = 0 → a.ent d s = Ent.zero:=fun hf hl=>by
   unfold entryFault at hf
   simp only [size_zero.2 hl,if_true] at hf
   split at hf
   ·assumption
   ·omega
  refine Img.ext_of (fun k hk=>?_) (fun d s hd hs=>?_) (fun x hx=>?_)
  ·cases h1 : (m.ino k).live with
   | true=>exact ino_of hL hk h1
   | false=>cases h2 : (n.ino k).live with
    | true=>exact (ino_of hL.symm hk h2).symm
    | false=>rw [dead (m2 k hk) h1,dead (n2 k hk) h2]
  ·by_cases h1 : (m.ent d s).name.size = 0
   ·by_cases h2 : (n.ent d s).name.size = 0
    ·rw [bare (m1 d hd s hs) h1,bare (n1 d hd s hs) h2]
    ·exact (ent_of hL.symm hd hs h2).symm
   ·exact ent_of hL hd hs h1
  ·by_cases h1 : (m.dat x).of = 0
   ·by_cases h2 : (n.dat x).of = 0
    ·have e1:=dm x hx h1
     have e2:=dn x hx h2
     cases ha : m.dat x; cases hb : n.dat x
     rw [ha] at h1 e1; rw [hb] at h2 e2
     simp only at h1 e1 h2 e2
     rw [h1,e1,h2,e2]
    ·exact (dat_of hL.symm hx h2).symm
   ·exact dat_of hL hx h1
 ·rintro rfl; rfl
namespace Fn
@[reducible] def w_TextApart.r0 : List MOp:=[⟨some 2,.box false tImage (.s 0),none⟩,⟨some 3,.box false tImage (.s 1),none⟩,⟨some 4,.mov (.c (.bool false)),none⟩]
@[reducible] def w_TextApart.r1 : List MOp:=[⟨some 6,.call false [] 346 [],none⟩,⟨some 7,.un .not (.s 6),none⟩]
@[reducible] def w_TextApart.r2 : List MOp:=[⟨some 4,.mov (.c (.bool false)),none⟩]
@[reducible] def w_TextApart.r3 : List MOp:=[⟨some 8,.load false none tImage (.s 2),none⟩,⟨some 9,.call false [] 10 [(.s 8)],none⟩,⟨some 10,.mov (.s 9),none⟩,⟨some 11,.load false none tImage (.s 3),some (10,false)⟩,⟨some 12,.call false [] 10 [(.s 11)],some (10,false)⟩,⟨some 13,.pick (.s 10) (.c (.bool true)) (.s 12),none⟩,⟨some 14,.mov (.s 13),none⟩,⟨some 15,.call false [] 22 [(.s 2)],some (14,false)⟩,⟨some 16,.bin .neq (.s 15) (.c (.int .i64 0)),some (14,false)⟩,⟨some 17,.pick (.s 14) (.c (.bool true)) (.s 16),none⟩,⟨some 18,.mov (.s 17),none⟩,⟨some 19,.call false [] 22 [(.s 3)],some (18,false)⟩,⟨some 20,.bin .neq (.s 19) (.c (.int .i64 0)),some (18,false)⟩,⟨some 21,.pick (.s 18) (.c (.bool true)) (.s 20),none⟩]
@[reducible] def w_TextApart.r4 : List MOp:=[⟨some 4,.mov (.c (.bool true)),none⟩]
@[reducible] def w_TextApart.r5 : List MOp:=[⟨some 5,.mov (.c (.int .i64 0)),none⟩]
@[reducible] def w_TextApart.r6 : List MOp:=[⟨some 22,.mov (.s 5),none⟩,⟨some 23,.bin .lss (.s 22) (.c (.int .i64 9)),none⟩]
@[reducible] def w_TextApart.r7 : List MOp:=[⟨some 24,.mov (.s 5),none⟩,⟨some 25,.bin .add (.s 24) (.c (.int .i64 1)),none⟩,⟨some 5,.mov (.s 25),none⟩]
@[reducible] def w_TextApart.r8 : List MOp:=[⟨some 26,.mov (.s 5),none⟩,⟨some 27,.fld tImage 2 tDatas (.s 2),none⟩,⟨some 28,.idx 9 tData (.s 27) (.s 26),none⟩,⟨some 29,.fld tData 0 tI (.s 28),none⟩,⟨some 30,.load false none tI (.s 29),none⟩,⟨some 31,.bin .eql (.s 30) (.c (.int .i64 0)),none⟩,⟨some 32,.mov (.s 31),none⟩,⟨some 33,.mov (.s 5),some (32,true)⟩,⟨some 34,.fld tImage 2 tDatas (.s 2),some (32,true)⟩,⟨some 35,.idx 9 tData (.s 34) (.s 33),some (32,true)⟩,⟨some 36,.fld tData 1 tS (.s 35),some (32,true)⟩,⟨some 37,.load false none tS (.s 36),some (32,true)⟩,⟨some 38,.bin .neq (.s 37) (.c (.str ⟨#[]⟩)),some (32,true)⟩,⟨some 39,.pick (.s 32) (.s 38) (.c (.bool false)),none⟩,⟨some 40,.mov (.s 39),none⟩,⟨some 41,.mov (.s 5),some (40,false)⟩,⟨some 42,.fld tImage 2 tDatas (.s 3),some (40,false)⟩,⟨some 43,.idx 9 tData (.s 42) (.s 41),some (40,false)⟩,⟨some 44,.fld tData 0 tI (.s 43),some (40,false)⟩,⟨some 45,.load false none tI (.s 44),some (40,false)⟩,⟨some 46,.bin .eql (.s 45) (.c (.int .i64 0)),some (40,false)⟩,⟨some 47,.mov (.s 46),some (40,false)⟩,⟨some 48,.mov (.s 5),some (47,true)⟩,⟨some 49,.fld tImage 2 tDatas (.s 3),some (47,true)⟩,⟨some 50,.idx 9 tData (.s 49) (.s 48),some (47,true)⟩,⟨some 51,.fld tData 1 tS (.s 50),some (47,true)⟩,⟨some 52,.load false none tS (.s 51),some (47,true)⟩,⟨some 53,.bin .neq (.s 52) (.c (.str ⟨#[]⟩)),some (47,true)⟩,⟨some 54,.pick (.s 47) (.s 53) (.c (.bool false)),some (40,false)⟩,⟨some 55,.pick (.s 40) (.c (.bool true)) (.s 54),none⟩]
@[reducible] def w_TextApart.r9 : List MOp:=[⟨some 4,.mov (.c (.bool true)),none⟩]
@[reducible] def w_TextApart.r10 : List MOp:=[⟨some 56,.call true [] 340 [(.s 2)],none⟩,⟨some 57,.call true [] 340 [(.s 3)],none⟩,⟨some 58,.bin .eql (.s 56) (.s 57),none⟩,⟨some 59,.load false none tImage (.s 2),none⟩,⟨some 60,.load false none tImage (.s 3),none⟩,⟨some 61,.eq false tImage (.s 59) (.s 60),none⟩,⟨some 62,.eq false tB (.s 58) (.s 61),none⟩,⟨some 4,.mov (.s 62),none⟩]
@[reducible] def w_TextApart.body : MC:=(.seq (.reg false w_TextApart.r0 [0,1,4]) (.seq (.seq (.reg false w_TextApart.r1 [6]) (.cond (.s 7) (.seq (.reg false w_TextApart.r2 []) .ret) .skip)) (.seq (.seq (.reg false w_TextApart.r3 [8,9,10,11,12,13,14,15,16,17,18,19,20]) (.cond (.s 21) (.seq (.reg false w_TextApart.r4 []) .ret) .skip)) (.seq (.seq (.reg false w_TextApart.r5 []) (.block 0 (.loop [2,3,5] [2,3] (.seq (.seq (.reg false w_TextApart.r6 [22]) (.cond (.s 23) .skip (.exit 0))) (.seq (.block 1 (.seq (.reg false w_TextApart.r8 [26,27,28,29,30,31,32,33,34,35,36,37,38,39,40,41,42,43,44,45,46,47,48,49,50,51,52,53,54]) (.cond (.s 55) (.seq (.reg false w_TextApart.r9 []) .ret) .skip))) (.reg false w_TextApart.r7 [24,25])))))) (.seq (.reg true w_TextApart.r10 [2,3,56,57,58,59,60,61,62]) .ret)))))
@[reducible] def w_TextApart : MFun:={ params:=2,nfree:=0,res:=[.tmp 4],body:=w_TextApart.body }
end Fn
noncomputable def tblU0 : List (Option MFun):=[none,none,none,none,none,none,none,none,none,none,none,none,none,none,none,none,none,none,none,none,none,none,none,none,none,none,none,none,none,none,none,none,none,none,none,none,none,none,none,none,none,none,none,none,none,none,none,none,none,none,none,none,none,none,none,none,none,none,none,none,none,none,none,none,none,none,none,none,none,none,none,none,none,none,none,none,none,none,none,none,none,none,none,none,none,none,none,none,none,none,none,none,none,none,none,none,none,none,none,none,none,none,none,none,none,none,none,none,none,none,none,none,none,none,none,none,none,none,none,none,none,none,none,none,none,none,none,none,none,none,none,none,none,none,none,none,none,none,none,none,none,none,none,none,none,none,none,none,none,none,none,none,none,none,none,none,none,none,none,none,some Fn.w_TextApart]
noncomputable def tblUL : List (Option MFun):=mergeT tblTL (List.replicate 200 none ++ tblU0)
noncomputable def tblU (f : Nat) : Option MFun:=tblUL.getD f none
theorem tbl_U (i : Nat) (fn : MFun) (h : tblT i = some fn) : tblU i = some fn:=mergeT_ext _ _ _ _ h
theorem upU {cx : Cx} {fn : MFun} {e : St} {R : AV → HP → Prop} (h : Ok tblT cx fn e R) : Ok tblU cx fn e R:=by
 obtain ⟨n,s',v,hr,hv,hR⟩:=h
 exact ⟨n,s',v,run_ext tbl_U hr,hv,hR⟩
section
variable {cx : Cx} {h : HP} {m n : Img}
theorem begunU_ok (hl : ∀ n,h.next ≤ n → cx.prot.lets (.obj n) = true) : Ok tblU cx Fn.w_textBegun (St.enter [] h) fun v h'=>Fr h h' [] ∧ v = .bool true:=upU (begunF_ok hl)
theorem TextApart_ok (hl : ∀ n,h.next ≤ n → cx.prot.lets (.obj n) = true) (hi : m.nums) (hj : n.nums) : Ok tblU cx Fn.w_TextApart (St.enter [m.enc,n.enc] h) fun v h'=>v = .bool true ∧ Fr h h' []:=by
 rw [Ok_eq]
 simp (maxSteps:=999999) (disch:=omega) only [go_sem]
 refine W_callF (S:=[]) (R:=fun v h'=>v = .bool true) rfl ⟨rfl,rfl⟩ (by simp only [go_sem]; exact begunU_ok (fun n hn=>hl n hn)) (fun v h1 e=>e) fun v h1 hF1 hv=>?_
 subst hv
 simp (maxSteps:=999999) (disch:=omega) only [go_sem]
 refine W_callp rfl ⟨rfl,rfl⟩ (by simp only [go_sem]; exact upU (upT (upE (up Great_ok)))) ?_
 cases hg : great m with
 | true =>
  simp (maxSteps:=999999) (disch:=omega) only [go_sem,hg]
  exact hF1
 | false =>
  have hs:=slim_of hg hi
  have hsm:=great_small hg
  simp (maxSteps:=999999) (disch:=omega) only [go_sem,hg]
  refine W_callp rfl ⟨rfl,rfl⟩ (by simp only [go_sem]; exact upU (upT (upE (up Great_ok)))) ?_
  cases hg2 : great n with
  | true =>
   simp (maxSteps:=999999) (disch:=omega) only [go_sem,hg2]
   exact hF1
  | false =>
   have hs2:=slim_of hg2 hj
   have hsm2:=great_small hg2
   simp (maxSteps:=999999) (disch:=omega) only [go_sem,hg2]
   refine W_callp rfl ⟨rfl,rfl⟩ (by simp only [go_sem]; exact upU (upT (upE (up (ImageFault_ok (m:=m) hsm (below_stk _ _) (by simp only [go_sem,HP.push_rd_own])))))) ?_
   by_cases hc : check m = 0
   ·simp (maxSteps:=999999) (disch:=omega) only [go_sem,hc]
    refine W_callp rfl ⟨rfl,rfl⟩ (by simp only [go_sem]; exact upU (upT (upE (up (ImageFault_ok (m:=n) hsm2 (below_stk _ _) (by simp only [go_sem,HP.push_rd_own])))))) ?_
    by_cases hc2 : check n = 0
    ·simp (maxSteps:=999999) (disch:=omega) only [go_sem,hc2]
     refine W_forP 9 (fun x=>⟨[(2,.ptr (.stk cx.lvl 2) [] tImage),(3,.ptr (.stk cx.lvl 3) [] tImage),(5,.int .i64 x)],[(2,⟨tImage,m.enc⟩),(3,⟨tImage,n.enc⟩)],h1⟩)
      (fun x=>∀ k,k < x → ((m.dat k).of = 0 → (m.dat k).text = ⟨#[]⟩) ∧ ((n.dat k).of = 0 → (n.dat k).text = ⟨#[]⟩)) (by simp only [go_sem] <;> rfl) (fun k hk=>by omega) fun x hx hP ih=>?_
     by_cases hlt : x < 9
     ·by_cases a1 : (m.dat x).of = 0
      ·by_cases a2 : (m.dat x).text = ⟨#[]⟩
       ·by_cases b1 : (n.dat x).of = 0
        ·by_cases b2 : (n.dat x).text = ⟨#[]⟩
         ·simp (maxSteps:=999999) (disch:=omega) only [go_sem,hlt,a1,a2,b1,b2]
          refine ih _ hlt (step_all hP ⟨fun _=>a2,fun _=>b2⟩) ?_
          simp only [go_sem]
         ·simp (maxSteps:=999999) (disch:=omega) only [go_sem,hlt,a1,a2,b1,b2]
          exact hF1
        ·simp (maxSteps:=999999) (disch:=omega) only [go_sem,hlt,a1,a2,b1]
         refine ih _ hlt (step_all hP ⟨fun _=>a2,fun e=>absurd e b1⟩) ?_
         simp only [go_sem]
       ·simp (maxSteps:=999999) (disch:=omega) only [go_sem,hlt,a1,a2]
        exact hF1
      ·by_cases b1 : (n.dat x).of = 0
       ·by_cases b2 : (n.dat x).text = ⟨#[]⟩
        ·simp (maxSteps:=999999) (disch:=omega) only [go_sem,hlt,a1,b1,b2]
         refine ih _ hlt (step_all hP ⟨fun e=>absurd e a1,fun _=>b2⟩) ?_
         simp only [go_sem]
        ·simp (maxSteps:=999999) (disch:=omega) only [go_sem,hlt,a1,b1,b2]
         exact hF1
       ·simp (maxSteps:=999999) (disch:=omega) only [go_sem,hlt,a1,b1]
        refine ih _ hlt (step_all hP ⟨fun e=>absurd e a1,fun e=>absurd e b1⟩) ?_
        simp only [go_sem]
     ·obtain rfl : x = 9:=by omega
      simp (maxSteps:=999999) (disch:=omega) only [go_sem]
      refine W_callp rfl ⟨rfl,rfl⟩ (by simp only [go_sem]; exact upU (Print_ok (m:=m) (below_stk _ _) (by simp only [go_sem,HP.push_rd_own]) hs)) ?_
      simp (maxSteps:=999999) (disch:=omega) only [go_sem]
      refine W_callp rfl ⟨rfl,rfl⟩ (by simp only [go_sem]; exact upU (Print_ok (m:=n) (below_stk _ _) (by simp only [go_sem,HP.push_rd_own]) hs2)) ?_
      have ht:=text_apart hc hc2 (fun k hk=>(hP k hk).1) (fun k hk=>(hP k hk).2)
      have htx : (bsL (textL m) = bsL (textL n)) = (m = n):=by rw [bsL_inj]; exact propext ht
      by_cases he : m = n
      ·simp (maxSteps:=999999) (disch:=omega) only [go_sem,htx,he]
       exact hF1
      ·simp (maxSteps:=999999) (disch:=omega) only [go_sem,htx,he]
       exact hF1
    ·simp (maxSteps:=999999) (disch:=omega) only [go_sem,hc2]
     exact hF1
   ·simp (maxSteps:=999999) (disch:=omega) only [go_sem,hc]
    exact hF1
end
open Go.RowKit
theorem run_ge {T : Nat → Option MFun} {n : Nat} {cx : Cx} {k : List Item} {s r : St} (h : run T n cx k s = some r) : ∀ m,run T (n + m) cx k s = some r
 | 0=>h
 | m + 1=>run_mono (run_ge h m)
theorem Itoa_run {T : Nat → Option MFun} {m : Nat} {cx : Cx} {a v : AV} {h : HP} {s2 : St} (hr : run T m cx [.code Fn.strconv_Itoa.body] (St.enter [a] h) = some s2) (hv : results cx s2 Fn.strconv_Itoa.res = some v) :
  ∃ n,a = .int .i64 n ∧ i64 n ∧ v = .str ⟨(numL n).toArray⟩ ∧ s2.own = [] ∧ s2.hp = h:=by
 have h1:=run_ge hr 6
 rw [show m + 6 = m + 1 + 1 + 1 + 1 + 1 + 1 from rfl] at h1
 simp only [run,next,St.wanted,opCmd,evOp,evK,Bool.false_and,Bool.false_eq_true,if_false,List.map_cons,List.map_nil,St.opd,Slots.get,St.enter,enterSlots,if_true] at h1
 cases hp : pItoa [a] with
 | none=>simp [hp] at h1
 | some y =>
  have hp':=hp
  unfold pItoa at hp
  split at hp
  ·rename_i n e
   simp only [List.cons.injEq,and_true] at e
   split at hp <;> simp only [Option.some.injEq,reduceCtorEq] at hp
   rename_i hn
   subst hp
   simp only [hp',AV.safe,if_true,applyEff,next,St.setd,Slots.set,St.kill,Option.some.injEq] at h1
   subst h1
   simp only [results,resOf,Slots.get,Slots.without] at hv
   refine ⟨n,e,hn,?_,rfl,rfl⟩
   simpa [AV.safe,Slots.get,Slots.without,List.filter,has] using hv.symm
  ·simp at hp
theorem run_s {T : Nat → Option MFun} {n : Nat} {cx : Cx} {k : List Item} {s : St} : run T (n + 1) cx k s = match next T cx k s with
  | .done s=>some s
  | .fail=>none
  | .go k s=>run T n cx k s
  | .call cx' hide fn e d k s=>match run T n cx' [.code fn.body] e with
   | some s'=>match back cx cx' hide fn d s s' with
    | some s=>run T n cx k s
    | none=>none
   | none=>none:=rfl
theorem next_prim {T : Nat → Option MFun} {cx : Cx} {d : Nat} {f : List AV → Option AV} {xs : List Opd} {kill : List Nat} {r : List MOp} {k : List Item} {s : St} {v : AV} (h : f (xs.map s.opd) = some v) (hs : v.safe = true) :
  next T cx (.ops (⟨some d,.prim f xs,none⟩ :: r) kill :: k) s = .go (.ops r kill :: k) (s.setd (some d) v):=by
 simp only [next,St.wanted,opCmd,evOp,evK,h,hs,if_true,applyEff]
theorem next_prim_none {T : Nat → Option MFun} {cx : Cx} {d : Nat} {f : List AV → Option AV} {xs : List Opd} {kill : List Nat} {r : List MOp} {k : List Item} {s : St} (h : f (xs.map s.opd) = none) :
  next T cx (.ops (⟨some d,.prim f xs,none⟩ :: r) kill :: k) s = .fail:=by
 simp only [next,St.wanted,opCmd,evOp,evK,h]
theorem Pu_run {T : Nat → Option MFun} {m : Nat} {cx : Cx} {a b c v : AV} {h : HP} {s2 : St} (hr : run T m cx [.code Fn.strconv_ParseUint.body] (St.enter [a,b,c] h) = some s2) (hv : results cx s2 Fn.strconv_ParseUint.res = some v) :
  ∃ t : ByteArray,a = .str t ∧ b = .int .i64 16 ∧ c = .int .i64 8 ∧ t.size = 2 ∧ v = .tup (.cons (.int .u64 ((hex2 t).getD 0)) (.cons (.iface (hex2 t).isNone) .unit)) ∧ s2.own = [] ∧ s2.hp = h:=by
 have h1 : run T (m + 5) cx [.ops [⟨some 3,.prim pPu [(.s 0),(.s 1),(.s 2)],none⟩,⟨some 4,.prim pPe [(.s 0),(.s 1),(.s 2)],none⟩] [],.code .ret] (St.enter [a,b,c] h) = some s2:=run_ge hr 7
 rw [run_s] at h1
 cases hp : pPu [a,b,c] with
 | none=>rw [next_prim_none hp] at h1; simp at h1
 | some y =>
  have hp':=hp
  unfold pPu at hp
  split at hp
  ·rename_i t e
   simp only [List.cons.injEq,and_true] at e
   obtain ⟨rfl,rfl,rfl⟩:=e
   split at hp <;> simp only [Option.some.injEq,reduceCtorEq] at hp
   rename_i ht
   subst hp
   rw [next_prim hp' rfl] at h1
   have h2 : run T (m + 4) cx [.ops [⟨some 4,.prim pPe [(.s 0),(.s 1),(.s 2)],none⟩] [],.code .ret] ((St.enter [.str t,.int .i64 16,.int .i64 8] h).setd (some 3) (.int .u64 ((hex2 t).getD 0))) = some s2:=h1
   have hq : pPe [.str t,.int .i64 16,.int .i64 8] = some (.iface (hex2 t).isNone):=by simp only [pPe]; rw [if_pos ht]
   rw [run_s,next_prim hq rfl] at h2
   have h3 : some _ = some s2:=h2
   have h4:=Option.some.inj h3
   subst h4
   exact ⟨t,rfl,rfl,rfl,ht,(Option.some.inj hv).symm,rfl,rfl⟩
  ·simp at hp
theorem next_load {T : Nat → Option MFun} {cx : Cx} {d : Nat} {t : Ty} {x : Opd} {kill : List Nat} {r : List MOp} {k : List Item} {s : St} :
  next T cx (.ops (⟨some d,.load false none t x,none⟩ :: r) kill :: k) s = match evOp cx (some d) (.load false none t x) s with
   | some (v,s')=>.go (.ops r kill :: k) (s'.setd (some d) v)
   | none=>.fail:=rfl
theorem ev_load {cx : Cx} {d : Option Nat} {t : Ty} {x : Opd} {s s' : St} {v : AV} (h : evOp cx d (.load false none t x) s = some (v,s')) : s' = s ∧ ∃ i p,s.opd x = .ptr i p t ∧ ((s.look cx i).bind fun b=>b.val.at p) = some v ∧ t.fits v = true:=by
 unfold evOp at h
 simp only [evK] at h
 split at h
 ·rename_i e he
  split at he
  ·rename_i i p t' hx
   split at he
   ·rename_i hc
    split at he
    ·rename_i u hu
     split at he
     ·rename_i hf
      simp only [Option.some.injEq] at he
      subst he
      simp only [applyEff,Option.some.injEq,Prod.mk.injEq] at h
      obtain ⟨rfl,rfl⟩:=h
      exact ⟨rfl,i,p,by rw [hx,hc.1],hu,hf⟩
     ·simp at he
    ·simp at he
   ·simp at he
  ·simp at he
 ·simp at h
theorem Print_run {T : Nat → Option MFun} {m : Nat} {cx : Cx} {a v : AV} {h : HP} {s2 : St} (hr : run T m cx [.code Fn.text_Print.body] (St.enter [a] h) = some s2) (hv : results cx s2 Fn.text_Print.res = some v) :
  ∃ i p img b,a = .ptr i p tImage ∧ h.look i = some b ∧ b.val.at p = some img.enc ∧ img.slim ∧ v = .str ⟨(textL img).toArray⟩ ∧ s2.own = [] ∧ s2.hp = h:=by
 have h1 : run T (m + 5) cx [.ops [⟨some 1,.load false none tImage (.s 0),none⟩,⟨some 2,.prim pPrint [(.s 1)],none⟩] [],.code .ret] (St.enter [a] h) = some s2:=run_ge hr 7
 rw [run_s,next_load] at h1
 cases he : evOp cx (some 1) (.load false none tImage (.s 0)) (St.enter [a] h) with
 | none=>rw [he] at h1; simp at h1
 | some q =>
  obtain ⟨u,s'⟩:=q
  rw [he] at h1
  obtain ⟨rfl,i,p,hx,hu,hf⟩:=ev_load he
  have h2 : run T (m + 4) cx [.ops [⟨some 2,.prim pPrint [(.s 1)],none⟩] [],.code .ret] ((St.enter [a] h).setd (some 1) u) = some s2:=h1
  rw [run_s] at h2
  cases hp : pPrint [u] with
  | none=>rw [next_prim_none hp] at h2; simp at h2
  | some y =>
   have hp':=hp
   unfold pPrint at hp
   split at hp
   ·rename_i w e
    simp only [List.cons.injEq,and_true] at e
    subst e
    split at hp
    ·rename_i hm
     simp only [Option.some.injEq] at hp
     subst hp
     rw [next_prim hp' rfl] at h2
     have h3 : some _ = some s2:=h2
     have h4:=Option.some.inj h3
     subst h4
     obtain ⟨b,hb1,hb2⟩:=Option.bind_eq_some_iff.1 hu
     refine ⟨i,p,hm.choose,b,hx,?_,hb2.trans (congrArg some hm.choose_spec.1),hm.choose_spec.2,(Option.some.inj hv).symm,rfl,rfl⟩
     unfold St.look at hb1
     split at hb1
     ·simp [St.enter,Own.get] at hb1
     ·exact hb1
    ·simp at hp
   ·rename_i hne; exact (hne u rfl).elim
end Go.Mini
