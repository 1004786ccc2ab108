/- A part of the proof: what Sf computes, step by step. -/
import Derived.Test.YtpkndgkaecamlacSfPa

set_option linter.unusedSimpArgs false
set_option linter.unusedVariables false
namespace Go.Mini
open Go.RowKit
def Id.under : Id → Nat → Nat → Prop
 | .stk l _,m,_=>l < m
 | .obj k,_,n=>k < n
 | .arg _,_,_=>True
section looks
variable {cx : Cx} {s s' : St} {i j : Id} {b : Blk} {d : Nat}
theorem own_some {i : Id} {l t : Nat} (h : i.own l = some t) : i = .stk l t:=by
 cases i <;> simp [Id.own] at h
 obtain ⟨rfl,rfl⟩:=h
 rfl
theorem own_none {i : Id} {l : Nat} (h : i.own l = none) (t : Nat) : i ≠ .stk l t:=by
 rintro rfl
 simp [Id.own] at h
theorem look_stk : s.look cx (.stk cx.lvl d) = s.own.get d:=by simp [St.look,Id.own]
theorem look_fresh_stk : (s.fresh cx false d b).2.look cx i = if i = .stk cx.lvl d then some b else s.look cx i:=by
 simp only [St.fresh,Bool.false_eq_true,if_false,St.look]
 cases ho : i.own cx.lvl with
 | none =>
  have:=own_none ho d
  simp [this]
 | some t =>
  have:=own_some ho
  subst this
  simp only [Own.get_set]
  by_cases h : d = t
  ·subst h; simp
  ·rw [if_neg h,if_neg (by simp; exact fun e=>h e.symm)]
theorem look_fresh_obj : (s.fresh cx true d b).2.look cx i = if i = .obj s.hp.next then some b else s.look cx i:=by
 simp only [St.fresh,if_true,St.look]
 cases ho : i.own cx.lvl with
 | none =>
  cases i with
  | stk l t=>simp [HP.look]
  | obj n=>simp only [HP.look]; by_cases h : n = s.hp.next <;> simp [h]
  | arg n=>simp [HP.look]
 | some t =>
  have:=own_some ho
  subst this
  simp
theorem look_write (h : s.write cx i b = some s') : i.isArg = false ∧ s'.sl = s.sl ∧ s'.hp.next = s.hp.next ∧ (∀ j,s'.look cx j = if j = i then some b else s.look cx j) ∧ (∀ l t,i = .stk l t → l ≠ cx.lvl → (∀ l',l' ≠ l → s'.hp.stk l' = s.hp.stk l')) ∧ ((∀ l t,i ≠ .stk l t ∨ l = cx.lvl) → s'.hp.stk = s.hp.stk):=by
 unfold St.write at h
 cases ho : i.own cx.lvl with
 | some t =>
  have:=own_some ho
  subst this
  simp [ho] at h
  subst h
  refine ⟨rfl,rfl,rfl,fun j=>?_,fun l t' e hl=>by simp at e; exact absurd e.1.symm hl,fun _=>rfl⟩
  simp only [St.look]
  cases hj : j.own cx.lvl with
  | none =>
   have:=own_none hj t
   simp [this]
  | some u =>
   have:=own_some hj
   subst this
   simp only [Own.get_set]
   by_cases h : t = u
   ·subst h; simp
   ·rw [if_neg h,if_neg (by simp; exact fun e=>h e.symm)]
 | none =>
  simp only [ho] at h
  split at h
  ·rename_i hl
   simp at h
   subst h
   cases i with
   | stk l t =>
    have hne : l ≠ cx.lvl:=fun e=>by subst e; simp [Id.own] at ho
    refine ⟨rfl,rfl,rfl,fun j=>?_,fun l' t' e _ l'' h=>by simp at e; obtain ⟨rfl,rfl⟩:=e; simp [HP.set,h],fun h=>by simpa [hne] using h l t⟩
    simp only [St.look]
    cases hj : j.own cx.lvl with
    | some u =>
     have:=own_some hj
     subst this
     simp [Ne.symm hne]
    | none =>
     cases j with
     | stk l' t' =>
      simp only [HP.look,HP.set]
      by_cases h1 : l' = l
      ·subst h1
       simp only [if_true,Own.get_set]
       by_cases h2 : t = t'
       ·subst h2; simp
       ·rw [if_neg h2,if_neg (by simp; exact fun e=>h2 e.symm)]
      ·simp [h1]
     | obj n=>simp [HP.look,HP.set]
     | arg n=>simp [HP.look,HP.set]
   | obj n =>
    refine ⟨rfl,rfl,rfl,fun j=>?_,fun l' t' e=>by simp at e,fun _=>rfl⟩
    simp only [St.look]
    cases hj : j.own cx.lvl with
    | some u =>
     have:=own_some hj
     subst this
     simp
    | none =>
     cases j with
     | stk l' t'=>simp [HP.look,HP.set]
     | obj n'=>simp only [HP.look,HP.set]; by_cases h : n' = n <;> simp [h]
     | arg n=>simp [HP.look,HP.set]
   | arg n=>simp [Prot.lets] at hl
  ·simp at h
theorem look_drop (h : s.drop cx i = some s') : i.isArg = false ∧ s'.sl = s.sl ∧ s'.hp.next = s.hp.next ∧ s'.hp.stk = s.hp.stk ∧ ∀ j,s'.look cx j = if j = i then none else s.look cx j:=by
 unfold St.drop at h
 cases ho : i.own cx.lvl with
 | some t =>
  have:=own_some ho
  subst this
  simp [ho] at h
  subst h
  refine ⟨rfl,rfl,rfl,rfl,fun j=>?_⟩
  simp only [St.look]
  cases hj : j.own cx.lvl with
  | none =>
   have:=own_none hj t
   simp [this]
  | some u =>
   have:=own_some hj
   subst this
   simp only [Own.get_rid]
   by_cases h : t = u
   ·subst h; simp
   ·rw [if_neg h,if_neg (by simp; exact fun e=>h e.symm)]
 | none =>
  simp only [ho] at h
  cases i with
  | stk l t=>simp at h
  | arg n=>simp at h
  | obj n =>
   simp only at h
   split at h
   ·simp at h
    subst h
    refine ⟨rfl,rfl,rfl,rfl,fun j=>?_⟩
    simp only [St.look]
    cases hj : j.own cx.lvl with
    | some u =>
     have:=own_some hj
     subst this
     simp
    | none =>
     cases j with
     | stk l' t'=>simp [HP.look]
     | obj n'=>simp only [HP.look]; by_cases h : n' = n <;> simp [h]
     | arg n=>simp [HP.look]
   ·simp at h
end looks
structure Rel (φ : Nat → Option FuncId) (β : Beta) (O : Nat → Prop) (nt : Nat) (cx : Cx) (s : St) (a : Act) (w : World) : Prop where
 slots : SR φ β s.sl a.tmps
 mem : HR φ β O (s.look cx) w
 dom : ∀ i pl,β i = some pl → i.under (cx.lvl + 1) s.hp.next
 top : ∀ l,cx.lvl ≤ l → s.hp.stk l = []
 fresh : ∀ r,w.heap.size ≤ r → O r
 defers : a.defers = []
 size : a.tmps.size = nt
section
variable {φ : Nat → Option FuncId} {β : Beta} {O : Nat → Prop} {w w' : World} {look look' : Id → Option Blk} {nt : Nat} {cx : Cx} {s s' : St} {a : Act}
theorem HR_mono (h : HR φ β O look w) (hl : ∀ i b,look' i = some b → look i = some b) : HR φ β O look' w :=
 ⟨fun i b hb=>h.live i b (hl i b hb),fun i j bi bj pi pj hi hj=>h.apart i j bi bj pi pj (hl i bi hi) (hl j bj hj)⟩
theorem SR_put (h : SR φ β s.sl a.tmps) {d : Nat} {v : AV} {x : Value} (hd : d < a.tmps.size) (hv : VR φ β v x) : SR φ β (Slots.set s.sl d v) (a.put (some d) x).tmps:=by
 intro t
 rw [Slots.get_set]
 simp only [Act.put]
 by_cases ht : d = t
 ·subst ht
  simp [Array.getD,hd,hv]
 ·rw [if_neg ht]
  have:=h t
  simpa [Array.getD_eq_getD_getElem?,Array.getElem?_setIfInBounds,ht] using this
theorem Rel_setd (h : Rel φ β O nt cx s a w) {d : Option Nat} {v : AV} {x : Value} (hd : ∀ t,d = some t → t < nt) (hv : VR φ β v x) : Rel φ β O nt cx (s.setd d v) (a.put d x) w:=by
 cases d with
 | none=>exact h
 | some t=>exact ⟨SR_put h.slots (by rw [h.size]; exact hd t rfl) hv,h.mem,h.dom,h.top,h.fresh,h.defers,by simp [Act.put,h.size]⟩
def upd (β : Beta) (i : Id) (pl : Place) : Beta:=fun j=>if j = i then some pl else β j
theorem cells_congr {β' : Beta} {v : AV} {cs : Array Value} {base : Nat} (hs : v.safe = true) (h : ∀ i pl,i.isStk = false → β i = some pl → β' i = some pl) (hc : ∀ k c,v.flat[k]? = some c → ∃ x,cs[base + k]? = some x ∧ LR φ β c x) :
  ∀ k c,v.flat[k]? = some c → ∃ x,cs[base + k]? = some x ∧ LR φ β' c x:=by
 intro k c hk
 obtain ⟨x,hx,hr⟩:=hc k c hk
 have hm:=List.mem_of_getElem? hk
 exact ⟨x,hx,LR_safe (safe_flat hs c hm).1 (safe_flat hs c hm).2 h hr⟩
theorem SameBut.mono {p q : Nat → Prop} (h : SameBut w w' p) (hq : ∀ r,p r → q r) : SameBut w w' q:=⟨h.os,h.tape,h.output,h.size,fun r hr hn=>h.block r hr fun hp=>hn (hq r hp)⟩
theorem SameBut.refl {p : Nat → Prop} : SameBut w w p:=⟨rfl,rfl,rfl,Nat.le_refl _,fun _ _ _=>rfl⟩
theorem SameBut.trans {p : Nat → Prop} {w'' : World} (h : SameBut w w' p) (k : SameBut w' w'' p) : SameBut w w'' p :=
 ⟨k.os.trans h.os,k.tape.trans h.tape,k.output.trans h.output,Nat.le_trans h.size k.size,fun r hr hn=>(k.block r (Nat.lt_of_lt_of_le hr h.size) hn).trans (h.block r hr hn)⟩
theorem HR_lt (h : HR φ β O look w) {i : Id} {b : Blk} {pl : Place} (hl : look i = some b) (hb : β i = some pl) : pl.r < w.heap.size:=by
 obtain ⟨pl',cs,T,fr,hB⟩:=h.live i b hl
 obtain rfl:=Option.some.inj (hB.place.symm.trans hb)
 have:=hB.heap
 rcases Nat.lt_or_ge pl'.r w.heap.size with h | h
 ·exact h
 ·rw [Array.getElem?_eq_none h] at this; simp at this
theorem HR_upd (h : HR φ β O look w) {i : Id} {b : Blk} {pl : Place} (hi : i.isArg = false) (hn : i.isStk = true ∨ β i = none) (hL : Laid φ β b w' pl) (hO : O pl.r)
  (hs : ∀ j bj pj,j ≠ i → look' j = some bj → β j = some pj → pj.r ≠ pl.r ∧ w'.heap[pj.r]? = w.heap[pj.r]?)
  (h1 : look' i = some b) (h2 : ∀ j bj,j ≠ i → look' j = some bj → look j = some bj) : HR φ (upd β i pl) O look' w':=by
 have hcong : ∀ j pj,j.isStk = false → β j = some pj → upd β i pl j = some pj:=by
  intro j pj hj hb
  unfold upd
  rw [if_neg]
  ·exact hb
  ·rintro rfl
   rcases hn with hn | hn
   ·rw [hn] at hj; simp at hj
   ·rw [hn] at hb; simp at hb
 refine ⟨fun j bj hj=>?_,fun j k bj bk pj pk hj hk hpj hpk hjk hr=>?_⟩
 ·by_cases hji : j = i
  ·subst hji
   rw [h1] at hj
   obtain rfl:=Option.some.inj hj
   obtain ⟨cs,T,hh,hroom,hsz,hty,hf,hc⟩:=hL
   exact ⟨pl,cs,T,(0,0),by simp [upd],hty,hf,hh,hroom,hsz,cells_congr (Ty.fits_safe hf) hcong hc,fun _=>⟨rfl,hO⟩⟩
  ·have hlj:=h2 j bj hji hj
   obtain ⟨pj,cs,T,fr,hB⟩:=h.live j bj hlj
   obtain ⟨hne,hsame⟩:=hs j bj pj hji hj hB.place
   exact ⟨pj,cs,T,fr,by simp [upd,hji,hB.place],hB.ty,hB.fits,by rw [hsame]; exact hB.heap,hB.room,hB.size,cells_congr (Ty.fits_safe hB.fits) hcong hB.cells,hB.own⟩
 ·by_cases hji : j = i
  ·subst hji
   have hki : k ≠ j:=fun e=>hjk e.symm
   simp [upd] at hpj
   simp [upd,hki] at hpk
   subst hpj
   exact absurd hr.symm (hs k bk pk hki hk hpk).1
  ·simp [upd,hji] at hpj
   by_cases hki : k = i
   ·subst hki
    simp [upd] at hpk
    subst hpk
    exact absurd hr (hs j bj pj hji hj hpj).1
   ·simp [upd,hki] at hpk
    exact h.apart j k bj bk pj pk (h2 j bj hji hj) (h2 k bk hki hk) hpj hpk hjk hr
theorem HR_wr (h : HR φ β O look w) {i : Id} {b old : Blk} {pl : Place} (hi : i.isArg = false) (ho : look i = some old) (hb : β i = some pl) (hL : Laid φ β b w' pl)
  (hs : SameBut w w' (fun r=>r = pl.r)) (hl : ∀ j,look' j = if j = i then some b else look j) : HR φ β O look' w':=by
 obtain ⟨pl',cs0,T0,fr0,hB0⟩:=h.live i old ho
 obtain rfl:=Option.some.inj (hB0.place.symm.trans hb)
 have hO:=(hB0.own hi).2
 refine ⟨fun j bj hj=>?_,fun j k bj bk pj pk hj hk hpj hpk hjk hr=>?_⟩
 ·rw [hl] at hj
  by_cases hji : j = i
  ·subst hji
   rw [if_pos rfl] at hj
   obtain rfl:=Option.some.inj hj
   obtain ⟨cs,T,hh,hroom,hsz,hty,hf,hc⟩:=hL
   exact ⟨pl',cs,T,(0,0),hb,hty,hf,hh,hroom,hsz,hc,fun _=>⟨rfl,hO⟩⟩
  ·rw [if_neg hji] at hj
   obtain ⟨pj,cs,T,fr,hB⟩:=h.live j bj hj
   have hne : pj.r ≠ pl'.r:=fun e=>by
    have:=(h.apart j i bj old pj pl' hj ho hB.place hb hji e).2
    rw [hi] at this; simp at this
   exact ⟨pj,cs,T,fr,hB.place,hB.ty,hB.fits,by rw [hs.block _ (HR_lt h hj hB.place) hne]; exact hB.heap,hB.room,hB.size,hB.cells,hB.own⟩
 ·have f : ∀ j bj,look' j = some bj → ∃ bj',look j = some bj':=by
   intro j bj hj
   rw [hl] at hj
   by_cases hji : j = i
   ·subst hji; exact ⟨old,ho⟩
   ·rw [if_neg hji] at hj; exact ⟨bj,hj⟩
  obtain ⟨bj',hj'⟩:=f j bj hj
  obtain ⟨bk',hk'⟩:=f k bk hk
  exact h.apart j k bj' bk' pj pk hj' hk' hpj hpk hjk hr
def Ext (l n : Nat) (β β' : Beta) : Prop:=∀ i pl,i.under l n → β i = some pl → β' i = some pl
theorem Ext.refl {l n : Nat} : Ext l n β β:=fun _ _ _ h=>h
theorem Ext.trans {l n n' : Nat} {β' β'' : Beta} (h : Ext l n β β') (k : Ext l n' β' β'') (hn : n ≤ n') : Ext l n β β'':=fun i pl hi hb=>k i pl (by cases i <;> simp_all [Id.under]; omega) (h i pl hi hb)
theorem VR_new {i : Id} {sl : Option Nat} {b : Blk} {pl : Place} {x : Value} (hb : β i = some pl) (hty : pl.ty = b.ty) (hx : ValAt sl b pl x) : VR φ β (newVal i sl b) x:=by
 cases sl with
 | none =>
  simp only [ValAt] at hx
  subst hx
  have:=VR_ptr (φ:=φ) (p:=[]) hb (t:=b.ty) (o:=0) (by rw [hty]; cases b.ty <;> rfl)
  simpa [newVal] using this
 | some n =>
  obtain ⟨t,cap,ht,hn,hc,rfl⟩:=hx
  refine VR_of_VR1 ?_
  simp only [newVal,VR1,AV.isAgg,Bool.false_eq_true,if_false]
  exact ⟨pl,n,t,cap,hb,by rw [hty,ht],by omega,by omega,by simpa using hc,by simp⟩
theorem SR_upd {i : Id} {pl : Place} (h : SR φ β s.sl a.tmps) (hi : i.isStk = true) : SR φ (upd β i pl) (s.sl.forget i) a.tmps:=by
 intro t
 rw [Slots.get_forget]
 split
 ·exact VR_bot
 ·rename_i hl
  refine VR_congr (fun j pj hj hb=>?_) (h t)
  unfold upd
  rw [if_neg]
  ·exact hb
  ·rintro rfl
   rcases hj with hj | hj
   ·exact hl hj
   ·rw [hi] at hj; simp at hj
theorem SR_upd_obj {i : Id} {pl : Place} (h : SR φ β s.sl a.tmps) (hi : β i = none) : SR φ (upd β i pl) s.sl a.tmps:=by
 intro t
 refine VR_mono (fun j pj hb=>?_) (h t)
 unfold upd
 rw [if_neg]
 ·exact hb
 ·rintro rfl; rw [hi] at hb; simp at hb
theorem fresh_next {esc : Bool} {d : Nat} {b : Blk} : s.hp.next ≤ (s.fresh cx esc d b).2.hp.next:=by
 cases esc <;> simp [St.fresh]
theorem fresh_stk {esc : Bool} {d : Nat} {b : Blk} : (s.fresh cx esc d b).2.hp.stk = s.hp.stk:=by
 cases esc <;> simp [St.fresh]
theorem Rel_fresh {esc : Bool} {d : Nat} {b : Blk} {pl : Place} {sl : Option Nat} {x : Value} {l0 : Id → Option Blk} (h : Rel φ β O nt cx s a w) (hL : Laid φ β b w' pl) (hO : O pl.r)
  (hs : ∀ j bj pj,s.look cx j = some bj → β j = some pj → pj.r ≠ pl.r ∧ w'.heap[pj.r]? = w.heap[pj.r]?) (hsz : w.heap.size ≤ w'.heap.size) (hx : ValAt sl b pl x) (hd : d < nt) :
  ∃ β',Rel φ β' O nt cx ((s.fresh cx esc d b).2.setd (some d) (newVal (s.fresh cx esc d b).1 sl b)) (a.put (some d) x) w' ∧ Ext cx.lvl s.hp.next β β':=by
 have hty : pl.ty = b.ty:=by obtain ⟨_,_,_,_,_,h,_⟩:=hL; exact h
 cases esc with
 | false =>
  refine ⟨upd β (.stk cx.lvl d) pl,Rel_setd ⟨?_,?_,?_,?_,?_,h.defers,h.size⟩ (fun t ht=>by simp at ht; omega) ?_,?_⟩
  ·exact SR_upd h.slots rfl
  ·exact HR_upd h.mem rfl (.inl rfl) hL hO (fun j bj pj hji hj hb=>hs j bj pj (by rw [look_fresh_stk,if_neg hji] at hj; exact hj) hb) (by rw [look_fresh_stk,if_pos rfl]) (fun j bj hji hj=>by rw [look_fresh_stk,if_neg hji] at hj; exact hj)
  ·intro i p hi
   unfold upd at hi
   split at hi
   ·rename_i e; subst e; simp [Id.under]
   ·exact h.dom i p hi
  ·intro l hl; rw [fresh_stk]; exact h.top l hl
  ·exact fun r hr=>h.fresh r (Nat.le_trans hsz hr)
  ·exact VR_new (by simp [St.fresh,upd]) hty hx
  ·intro i p hi hb
   unfold upd
   rw [if_neg]
   ·exact hb
   ·rintro rfl; simp [Id.under] at hi
 | true =>
  have hnone : β (.obj s.hp.next) = none:=by
   cases hb : β (.obj s.hp.next) with
   | none=>rfl
   | some p=>have:=h.dom _ p hb; simp [Id.under] at this
  refine ⟨upd β (.obj s.hp.next) pl,Rel_setd ⟨?_,?_,?_,?_,?_,h.defers,h.size⟩ (fun t ht=>by simp at ht; omega) ?_,?_⟩
  ·exact SR_upd_obj h.slots hnone
  ·exact HR_upd h.mem rfl (.inr hnone) hL hO (fun j bj pj hji hj hb=>hs j bj pj (by rw [look_fresh_obj,if_neg hji] at hj; exact hj) hb) (by rw [look_fresh_obj,if_pos rfl]) (fun j bj hji hj=>by rw [look_fresh_obj,if_neg hji] at hj; exact hj)
  ·intro i p hi
   unfold upd at hi
   split at hi
   ·rename_i e; subst e; simp [Id.under,St.fresh]
   ·have:=h.dom i p hi
    cases i <;> simp_all [Id.under,St.fresh]; omega
  ·intro l hl; rw [fresh_stk]; exact h.top l hl
  ·exact fun r hr=>h.fresh r (Nat.le_trans hsz hr)
  ·exact VR_new (by simp [St.fresh,upd]) hty hx
  ·intro i p hi hb
   unfold upd
   rw [if_neg]
   ·exact hb
   ·rintro rfl; rw [hnone] at hb; simp at hb
theorem eff_rel {d : Option Nat} {esc : Bool} {e : Eff} {v : AV} {x : Value} (h : Rel φ β O nt cx s a w) (he : EffOk φ β (s.look cx) w w' x e) (ha : applyEff cx d esc s e = some (v,s')) (hd : ∀ t,d = some t → t < nt) :
  ∃ β',Rel φ β' O nt cx (s'.setd d v) (a.put d x) w' ∧ SameBut w w' O ∧ Ext cx.lvl s.hp.next β β' ∧ s.hp.next ≤ s'.hp.next:=by
 cases e with
 | val u =>
  simp [applyEff] at ha
  obtain ⟨rfl,rfl⟩:=ha
  obtain ⟨hv,rfl⟩:=he
  exact ⟨β,Rel_setd h hd hv,.refl,.refl,Nat.le_refl _⟩
 | new sl b =>
  cases d with
  | none=>simp [applyEff] at ha
  | some t =>
   simp [applyEff] at ha
   obtain ⟨rfl,rfl⟩:=ha
   obtain ⟨pl,hL,hr,hb0,hx,hsz,hsame⟩:=he
   obtain ⟨β',hrel,hext⟩:=Rel_fresh (l0:=s.look cx) (esc:=esc) h hL (by rw [hr]; exact h.fresh _ (Nat.le_refl _)) (fun j bj pj hj hb=>by
    have:=HR_lt h.mem hj hb
    exact ⟨by omega,hsame.block _ this (fun h=>h)⟩) (by omega) hx (hd t rfl)
   exact ⟨β',hrel,hsame.mono (fun _ h=>h.elim),hext,fresh_next⟩
 | wr i b u =>
  simp only [applyEff,Option.map_eq_some_iff] at ha
  obtain ⟨s1,hw,heq⟩:=ha
  simp at heq
  obtain ⟨rfl,rfl⟩:=heq
  obtain ⟨pl,old,ho,hoty,hb,hL,hv,hsame⟩:=he
  obtain ⟨hi,hsl,hnx,hlk,hstk1,hstk2⟩:=look_write hw
  obtain ⟨pl',cs0,T0,fr0,hB0⟩:=h.mem.live i old ho
  obtain rfl:=Option.some.inj (hB0.place.symm.trans hb)
  refine ⟨β,Rel_setd ⟨by rw [hsl]; exact h.slots,HR_wr h.mem hi ho hb hL hsame hlk,by rw [hnx]; exact h.dom,?_,fun r hr=>h.fresh r (Nat.le_trans hsame.size hr),h.defers,h.size⟩ hd hv,hsame.mono (fun r e=>by subst e; exact (hB0.own hi).2),.refl,Nat.le_of_eq hnx.symm⟩
  intro l hl
  have hun:=h.dom i pl' hb
  cases i with
  | stk l' t' =>
   by_cases hll : l' = cx.lvl
   ·have hst:=hstk2 (fun a b=>by
     by_cases h : l' = a
     ·subst h; exact .inr hll
     ·exact .inl (by simp [h]))
    rw [hst]; exact h.top l hl
   ·have : l' < cx.lvl:=by simp [Id.under] at hun; omega
    rw [hstk1 l' t' rfl hll l (by omega)]; exact h.top l hl
  | obj n=>rw [hstk2 (fun a b=>.inl (by simp))]; exact h.top l hl
  | arg n=>simp [Id.isArg] at hi
 | grow j b n =>
  cases d with
  | none=>simp [applyEff] at ha
  | some t =>
   simp only [applyEff,Option.map_eq_some_iff] at ha
   obtain ⟨s1,hdr,heq⟩:=ha
   simp at heq
   obtain ⟨rfl,rfl⟩:=heq
   obtain ⟨pl,plj,old,ho,hbj,hL,hr,hx,hsame⟩:=he
   obtain ⟨hi,hsl,hnx,hstk,hlk⟩:=look_drop hdr
   obtain ⟨pl',cs0,T0,fr0,hB0⟩:=h.mem.live j old ho
   obtain rfl:=Option.some.inj (hB0.place.symm.trans hbj)
   have h1 : Rel φ β O nt cx s1 a w:=⟨by rw [hsl]; exact h.slots,HR_mono h.mem (fun i b hb=>by
    rw [hlk] at hb
    by_cases hij : i = j
    ·rw [if_pos hij] at hb; simp at hb
    ·rw [if_neg hij] at hb; exact hb),by rw [hnx]; exact h.dom,by rw [hstk]; exact h.top,h.fresh,h.defers,h.size⟩
   have hOr : O pl.r:=by
    rcases hr with hr | hr
    ·rw [hr]; exact (hB0.own hi).2
    ·rw [hr]; exact h.fresh _ (Nat.le_refl _)
   obtain ⟨β',hrel,hext⟩:=Rel_fresh (l0:=s.look cx) (esc:=esc) h1 hL hOr (fun k bk pk hk hb=>by
    rw [hlk] at hk
    split at hk
    ·simp at hk
    ·rename_i hkj
     have hlt:=HR_lt h.mem hk hb
     have hne : pk.r ≠ pl'.r:=fun e=>by
      have:=(h.mem.apart k j bk old pk pl' hk ho hb hbj hkj e).2
      rw [hi] at this; simp at this
     refine ⟨?_,hsame.block _ hlt hne⟩
     rcases hr with hr | hr
     ·rw [hr]; exact hne
     ·rw [hr]; omega) hsame.size hx (hd t rfl)
   refine ⟨β',hrel,hsame.mono (fun r e=>by subst e; exact (hB0.own hi).2),by rw [hnx] at hext; exact hext,?_⟩
   rw [← hnx]; exact fresh_next
end
open Go.RowKit
def matchCall (φ : Nat → Option FuncId) (o : Op) (k : MK) : Bool :=
 match o,k with
 | .call ⟨.value (.func F),args,_⟩,.call _ _ f args'=>φ f == some F && opdsOk φ args.toList args'
 | .call ⟨.value (.tmp t),args,_⟩,.callv _ _ x args'=>opdOk φ (.tmp t) x && opdsOk φ args.toList args'
 | _,_=>false
def MK.isCall : MK → Bool
 | .call ..=>true
 | .callv ..=>true
 | _=>false
def guardOk (ops : Array Oper) (g : Option (Nat × Bool)) (h : Option (Nat × Bool)) : Bool :=
 match g,h with
 | none,none=>true
 | some (j,b),some (t,c)=>b == c && (match ops[j]? with | some o=>o.dst == some t | none=>false)
 | _,_=>false
def matchOp (P : Program) (φ : Nat → Option FuncId) (nt : Nat) (ops : Array Oper) (o : Oper) (m : MOp) : Bool :=
 o.dst == m.d && (match m.d with | some d=>decide (d < nt) | none=>true) && guardOk ops o.guard m.g && (if m.k.isCall then matchCall φ o.op m.k else matchK P φ o.op m.k)
def matchOps (P : Program) (φ : Nat → Option FuncId) (nt : Nat) (ops : Array Oper) : List Oper → List MOp → Bool
 | [],[]=>true
 | o :: os,m :: ms=>matchOp P φ nt ops o m && matchOps P φ nt ops os ms
 | _,_=>false
def matchC (P : Program) (φ : Nat → Option FuncId) (nt : Nat) (draw : Array Oper → List MOp → Bool) : Code → MC → Bool
 | .skip,.skip=>true
 | .ret,.ret=>true
 | .seq a b,.seq c d=>matchC P φ nt draw a c && matchC P φ nt draw b d
 | .cond x a b,.cond y c d=>opdOk φ x y && matchC P φ nt draw a c && matchC P φ nt draw b d
 | .block i a,.block j c=>i == j && matchC P φ nt draw a c
 | .loop a,.loop _ _ c=>matchC P φ nt draw a c
 | .exit i,.exit j=>i == j
 | .region _ ops d,.reg e l _=>d == e && matchOps P φ nt ops ops.toList l && (!d || draw ops l)
 | .region _ ops d,.regL e _ l _=>d == e && matchOps P φ nt ops ops.toList l && (!d || draw ops l)
 | _,_=>false
def matchRes (P : Program) : List ResultVar → List MRes → Bool
 | [],[]=>true
 | .tmp t :: r,.tmp u :: m=>t == u && matchRes P r m
 | .cell t T :: r,.cell u ty :: m=>t == u && tyOk P ty (.inl T) && matchRes P r m
 | _,_=>false
def matchFn (P : Program) (φ : Nat → Option FuncId) (draw : Array Oper → List MOp → Bool) (F : FuncId) (fn : MFun) : Bool :=
 match P.funcs[F]? with
 | some f=>(match f.body with
  | some c=>matchC P φ f.ntmps draw c fn.body
  | none => false) && matchRes P f.results.toList fn.res && decide (fn.params + fn.nfree ≤ f.ntmps) && !(f.name == "runtime.NumGoroutine")
 | none=>false
section
variable {φ : Nat → Option FuncId} {β : Beta} {P : Program} {O : Nat → Prop} {w w' : World} {look look' : Id → Option Blk} {nt : Nat} {cx : Cx} {s s' : St} {a : Act} {T : Nat → Option MFun}
def Step (T : Nat → Option MFun) (n : Nat) (cx : Cx) (o : MOp) (s s1 : St) : Prop :=
 match s.wanted o.g with
 | none=>False
 | some false=>s1 = s.setd o.d .undef
 | some true=>match opCmd T cx o.d o.k [] s with
  | .go _ s2=>s1 = s2
  | .call cx' hide fn e _ _ _=>∃ m s2,m < n ∧ run T m cx' [.code fn.body] e = some s2 ∧ back cx cx' hide fn o.d s s2 = some s1
  | _=>False
theorem Step.mono {n n' : Nat} {o : MOp} {s s1 : St} (h : Step T n cx o s s1) (hn : n ≤ n') : Step T n' cx o s s1:=by
 unfold Step at h ⊢
 cases hw : s.wanted o.g with
 | none=>simp [hw] at h
 | some b =>
  cases b with
  | false=>simpa [hw] using h
  | true =>
   simp only [hw] at h ⊢
   cases hc : opCmd T cx o.d o.k [] s with
   | done s2=>simp [hc] at h
   | fail=>simp [hc] at h
   | go k s2=>simpa [hc] using h
   | call cx' hide fn e d k s2 =>
    simp only [hc] at h ⊢
    obtain ⟨m,s2,hm,r⟩:=h
    exact ⟨m,s2,Nat.lt_of_lt_of_le hm hn,r⟩
theorem opCmd_shape {cx : Cx} {d : Option Nat} {k : MK} {todo : List Item} {s : St} :
  (∃ s2,opCmd T cx d k [] s = .go [] s2 ∧ opCmd T cx d k todo s = .go todo s2) ∨ (∃ cx' hide fn e,opCmd T cx d k [] s = .call cx' hide fn e d [] s ∧ opCmd T cx d k todo s = .call cx' hide fn e d todo s) ∨ opCmd T cx d k todo s = .fail:=by
 cases k <;> simp only [opCmd] <;> (try simp only [enterCmd]) <;> (repeat' split) <;> simp
theorem trace {n : Nat} {l : List MOp} {kill : List Nat} {k : List Item} : ∀ {s s' : St},run T n cx (.ops l kill :: k) s = some s' →
  ∃ tr : Nat → St,tr 0 = s ∧ (∀ i (h : i < l.length),Step T n cx l[i] (tr i) (tr (i + 1))) ∧ ∃ m,m < n ∧ run T m cx k ((tr l.length).kill kill) = some s':=by
 induction l generalizing n with
 | nil =>
  intro s s' h
  cases n with
  | zero=>simp [run] at h
  | succ n =>
   simp only [run,next] at h
   exact ⟨fun _=>s,rfl,fun i hi=>by simp at hi,n,by omega,h⟩
 | cons o l ih =>
  intro s s' h
  cases n with
  | zero=>simp [run] at h
  | succ n =>
   simp only [run,next] at h
   cases hw : s.wanted o.g with
   | none=>simp [hw] at h
   | some b =>
    cases b with
    | false =>
     simp only [hw] at h
     obtain ⟨tr,h0,hs,m,hm,hr⟩:=ih h
     refine ⟨fun i=>match i with | 0=>s | i + 1=>tr i,rfl,fun i hi=>?_,m,by omega,by simpa using hr⟩
     cases i with
     | zero=>simp only [List.getElem_cons_zero,Step,hw]; exact h0
     | succ i =>
      exact (hs i (by simpa using hi)).mono (by omega)
    | true =>
     simp only [hw] at h
     have key : ∃ s1,Step T (n + 1) cx o s s1 ∧ ∃ n',n' ≤ n ∧ run T n' cx (.ops l kill :: k) s1 = some s':=by
      rcases opCmd_shape (T:=T) (cx:=cx) (d:=o.d) (k:=o.k) (todo:=.ops l kill :: k) (s:=s) with ⟨s2,h1,h2⟩ | ⟨cx',hide,fn,e,h1,h2⟩ | h2
      ·simp only [h2] at h
       exact ⟨s2,by simp only [Step,hw,h1],n,Nat.le_refl _,h⟩
      ·simp only [h2] at h
       cases hr : run T n cx' [.code fn.body] e with
       | none=>simp [hr] at h
       | some s2 =>
        simp only [hr] at h
        cases hb : back cx cx' hide fn o.d s s2 with
        | none=>simp [hb] at h
        | some s1 =>
         simp only [hb] at h
         exact ⟨s1,by simp only [Step,hw,h1]; exact ⟨n,s2,by omega,hr,hb⟩,n,Nat.le_refl _,h⟩
      ·simp [h2] at h
     obtain ⟨s1,hst,n',hn',hrun⟩:=key
     obtain ⟨tr,h0,hs,m,hm,hr⟩:=ih hrun
     refine ⟨fun i=>match i with | 0=>s | i + 1=>tr i,rfl,fun i hi=>?_,m,by omega,by simpa using hr⟩
     cases i with
     | zero=>simp only [List.getElem_cons_zero]; rw [h0]; exact hst
     | succ i =>
      exact (hs i (by simpa using hi)).mono (by omega)
end
def Held (cx : Cx) (nx : Nat) : Id → Prop
 | .arg _=>True
 | .stk l _=>l < cx.prot.lvl ∧ cx.prot.lvl ≤ cx.lvl
 | .obj n=>n < cx.prot.obj ∧ cx.prot.obj ≤ nx
section
variable {cx cx' : Cx} {s s' s1 : St} {T : Nat → Option MFun}
theorem Held.mono {n m : Nat} {i : Id} (h : Held cx n i) (hm : n ≤ m) : Held cx m i:=by
 cases i <;> simp_all [Held]; omega
def Same (i : Id) (h h' : HP) : Prop:=h'.look i = h.look i ∧ h.next ≤ h'.next
theorem fresh_frame {i : Id} {esc : Bool} {d : Nat} {b : Blk} (hi : Held cx s.hp.next i) : Same i s.hp (s.fresh cx esc d b).2.hp:=by
 unfold St.fresh
 cases esc with
 | false=>exact ⟨rfl,Nat.le_refl _⟩
 | true =>
  refine ⟨?_,Nat.le_succ _⟩
  cases i with
  | obj n=>simp only [Held] at hi; simp only [HP.look,if_true]; rw [if_neg (by omega)]
  | _=>rfl
theorem write_frame {i j : Id} {b : Blk} (hi : Held cx s.hp.next i) (h : s.write cx j b = some s') : Same i s.hp s'.hp:=by
 unfold St.write at h
 cases ho : j.own cx.lvl with
 | some t=>simp [ho] at h; subst h; exact ⟨rfl,Nat.le_refl _⟩
 | none =>
  simp only [ho] at h
  split at h
  ·rename_i hl
   simp at h
   subst h
   cases j with
   | arg n=>exact ⟨rfl,Nat.le_refl _⟩
   | obj n =>
    refine ⟨?_,Nat.le_refl _⟩
    cases i with
    | obj m=>simp only [Held] at hi; simp [Prot.lets] at hl; simp only [HP.look,HP.set]; rw [if_neg (by omega)]
    | _=>rfl
   | stk l t =>
    refine ⟨?_,Nat.le_refl _⟩
    cases i with
    | stk l' t'=>simp only [Held] at hi; simp [Prot.lets] at hl; simp only [HP.look,HP.set]; rw [if_neg (by omega)]
    | _=>rfl
  ·simp at h
theorem drop_frame {i j : Id} (hi : Held cx s.hp.next i) (h : s.drop cx j = some s') : Same i s.hp s'.hp:=by
 unfold St.drop at h
 cases ho : j.own cx.lvl with
 | some t=>simp [ho] at h; subst h; exact ⟨rfl,Nat.le_refl _⟩
 | none =>
  simp only [ho] at h
  cases j with
  | arg n=>simp at h
  | stk l t=>simp at h
  | obj n =>
   simp only at h
   split at h
   ·rename_i hl
    simp at h
    subst h
    refine ⟨?_,Nat.le_refl _⟩
    cases i with
    | obj m=>simp only [Held] at hi; simp [Prot.lets] at hl; simp only [HP.look]; rw [if_neg (by omega)]
    | _=>rfl
   ·simp at h
theorem Same.trans {i : Id} {a b c : HP} (h : Same i a b) (k : Same i b c) : Same i a c:=⟨k.1.trans h.1,Nat.le_trans h.2 k.2⟩
theorem eff_frame {i : Id} {d : Option Nat} {esc : Bool} {e : Eff} {v : AV} (hi : Held cx s.hp.next i) (h : applyEff cx d esc s e = some (v,s')) : Same i s.hp s'.hp:=by
 cases e with
 | val u=>simp [applyEff] at h; obtain ⟨_,rfl⟩:=h; exact ⟨rfl,Nat.le_refl _⟩
 | new sl b =>
  cases d with
  | none=>simp [applyEff] at h
  | some t=>simp [applyEff] at h; obtain ⟨_,rfl⟩:=h; exact fresh_frame hi
 | wr j b u =>
  simp only [applyEff,Option.map_eq_some_iff] at h
  obtain ⟨s1,hw,heq⟩:=h
  simp at heq
  obtain ⟨_,rfl⟩:=heq
  exact write_frame hi hw
 | grow j b n =>
  cases d with
  | none=>simp [applyEff] at h
  | some t =>
   simp only [applyEff,Option.map_eq_some_iff] at h
   obtain ⟨s1,hdr,heq⟩:=h
   simp at heq
   obtain ⟨_,rfl⟩:=heq
   have h1:=drop_frame hi hdr
   exact h1.trans (fresh_frame (hi.mono h1.2))
theorem setd_hp {d : Option Nat} {v : AV} : (s.setd d v).hp = s.hp:=by cases d <;> rfl
theorem enterCmd_shape {prot : Bool} {hide : List Nat} {f : Nat} {args caps : List AV} {d : Option Nat} {todo : List Item} :
  enterCmd T cx prot hide f args caps d todo s = .fail ∨ ∃ fn l,T f = some fn ∧ l = args ++ caps ∧ enterCmd T cx prot hide f args caps d todo s = .call (s.callCx cx prot hide) hide fn (St.enter l (s.hp.push cx.lvl (s.own.veil hide))) d todo s:=by
 unfold enterCmd
 cases hT : T f with
 | none=>exact .inl rfl
 | some fn =>
  simp only
  split
  ·exact .inr ⟨fn,_,rfl,rfl,rfl⟩
  ·exact .inl rfl
theorem opCmd_cases (cx : Cx) (d : Option Nat) (k : MK) (todo : List Item) (s : St) :
  opCmd T cx d k todo s = .fail ∨ (∃ v s',evOp cx d k s = some (v,s') ∧ opCmd T cx d k todo s = .go todo (s'.setd d v)) ∨
  (∃ prot hide fn l,opCmd T cx d k todo s = .call (s.callCx cx prot hide) hide fn (St.enter l (s.hp.push cx.lvl (s.own.veil hide))) d todo s):=by
 cases k
 case call prot hide f args =>
  simp only [opCmd]
  rcases enterCmd_shape (T:=T) (cx:=cx) (s:=s) (prot:=prot) (hide:=hide) (f:=f) (args:=args.map s.opd) (caps:=[]) (d:=d) (todo:=todo) with h | ⟨fn,l,_,_,h⟩
  ·exact .inl h
  ·exact .inr (.inr ⟨prot,hide,fn,l,h⟩)
 case callv prot hide x args =>
  simp only [opCmd]
  split
  ·rename_i f cap hx
   rcases enterCmd_shape (T:=T) (cx:=cx) (s:=s) (prot:=prot) (hide:=hide) (f:=f) (args:=args.map s.opd) (caps:=capList cap) (d:=d) (todo:=todo) with h | ⟨fn,l,_,_,h⟩
   ·exact .inl h
   ·exact .inr (.inr ⟨prot,hide,fn,l,h⟩)
  ·exact .inl rfl
 all_goals
  simp only [opCmd]
  split
  ·rename_i v s' he; exact .inr (.inl ⟨v,s',he,rfl⟩)
  ·exact .inl rfl
theorem evOp_frame {i : Id} {d : Option Nat} {k : MK} {v : AV} (hi : Held cx s.hp.next i) (h : evOp cx d k s = some (v,s')) : Same i s.hp s'.hp:=by
 unfold evOp at h
 split at h
 ·exact eff_frame hi h
 ·simp at h
theorem lift_frame {i : Id} {t : Nat} (hi : Held cx s.hp.next i) (h : s.lift cx t = some s1) : Same i s.hp s1.hp:=by
 unfold St.lift at h
 split at h
 ·simp at h; subst h; exact ⟨rfl,Nat.le_refl _⟩
 ·split at h
  ·split at h
   ·simp at h
    subst h
    refine ⟨?_,Nat.le_succ _⟩
    cases i with
    | obj n=>simp only [Held] at hi; simp only [HP.look]; rw [if_neg (by omega)]
    | _=>rfl
   ·simp at h
  ·simp at h
 ·simp at h
theorem lifts_frame {i : Id} : ∀ {l : List Nat} {s s1 : St},Held cx s.hp.next i → s.lifts cx l = some s1 → Same i s.hp s1.hp
 | [],s,s1,_,h=>by simp [St.lifts] at h; subst h; exact ⟨rfl,Nat.le_refl _⟩
 | t :: r,s,s1,hi,h=>by
  simp only [St.lifts] at h
  cases hl : s.lift cx t with
  | none=>simp [hl] at h
  | some s2 =>
   simp only [hl,Option.bind_some] at h
   have h1:=lift_frame hi hl
   exact h1.trans (lifts_frame (hi.mono h1.2) h)
theorem next_frame {i : Id} {k : List Item} (hi : Held cx s.hp.next i) :
  (next T cx k s = .fail) ∨ (∃ s1,next T cx k s = .done s1 ∧ s1.hp = s.hp) ∨ (∃ k1 s1,next T cx k s = .go k1 s1 ∧ Same i s.hp s1.hp) ∨
  (∃ prot hide fn l d k1,next T cx k s = .call (s.callCx cx prot hide) hide fn (St.enter l (s.hp.push cx.lvl (s.own.veil hide))) d k1 s):=by
 have rf : Same i s.hp s.hp:=⟨rfl,Nat.le_refl _⟩
 cases k with
 | nil=>exact .inr (.inl ⟨_,rfl,rfl⟩)
 | cons it k =>
  cases it with
  | inBlock j=>exact .inr (.inr (.inl ⟨_,_,rfl,rf⟩))
  | inLoop keep ko b=>exact .inr (.inr (.inl ⟨_,_,rfl,rf⟩))
  | ops l kill =>
   cases l with
   | nil=>exact .inr (.inr (.inl ⟨_,_,rfl,rf⟩))
   | cons o r =>
    simp only [next]
    cases hw : s.wanted o.g with
    | none=>exact .inl rfl
    | some b =>
     cases b with
     | false=>exact .inr (.inr (.inl ⟨_,_,rfl,by rw [setd_hp]; exact rf⟩))
     | true =>
      simp only
      rcases opCmd_cases (T:=T) cx o.d o.k (.ops r kill :: k) s with h | ⟨v,s',he,h⟩ | ⟨prot,hide,fn,l,h⟩
      ·exact .inl h
      ·exact .inr (.inr (.inl ⟨_,_,h,by rw [setd_hp]; exact evOp_frame hi he⟩))
      ·exact .inr (.inr (.inr ⟨_,_,_,_,_,_,h⟩))
  | code c =>
   cases c with
   | skip=>exact .inr (.inr (.inl ⟨_,_,rfl,rf⟩))
   | reg dr ops kill =>
    simp only [next]
    split
    ·exact .inl rfl
    ·exact .inr (.inr (.inl ⟨_,_,rfl,rf⟩))
   | regL dr lf ops kill =>
    simp only [next]
    cases hl : s.lifts cx lf with
    | none=>exact .inl rfl
    | some s2 =>
     simp only
     split
     ·exact .inl rfl
     ·exact .inr (.inr (.inl ⟨_,_,rfl,lifts_frame hi hl⟩))
   | seq a b=>exact .inr (.inr (.inl ⟨_,_,rfl,rf⟩))
   | cond c t e =>
    simp only [next]
    split
    ·exact .inr (.inr (.inl ⟨_,_,rfl,rf⟩))
    ·exact .inl rfl
   | block id b=>exact .inr (.inr (.inl ⟨_,_,rfl,rf⟩))
   | loop keep ko b=>exact .inr (.inr (.inl ⟨_,_,rfl,rf⟩))
   | exit id =>
    simp only [next]
    split
    ·exact .inr (.inr (.inl ⟨_,_,rfl,rf⟩))
    ·exact .inl rfl
   | ret=>exact .inr (.inl ⟨_,rfl,rfl⟩)
theorem callCx_held {i : Id} {prot : Bool} {hide : List Nat} (hi : Held cx s.hp.next i) : Held (s.callCx cx prot hide) s.hp.next i:=by
 cases hh : has hide 1000000 <;> cases prot <;> cases i <;> simp_all [Held,St.callCx] <;> omega
theorem push_held {i : Id} {o : Own} (hi : Held cx s.hp.next i) : (s.hp.push cx.lvl o).look i = s.hp.look i:=by
 cases i with
 | stk l t =>
  simp only [Held] at hi
  simp only [HP.look,HP.push]
  rw [if_neg (by omega)]
 | _=>rfl
theorem pop_held {i : Id} {h h' : HP} {n : Nat} (hi : Held cx n i) (hs : h'.look i = h.look i) : (h.pop h' cx.lvl).look i = h.look i:=by
 cases i with
 | stk l t =>
  simp only [Held] at hi
  simp only [HP.look,HP.pop]
  rw [if_neg (by omega)]
  exact hs
 | _=>exact hs
theorem run_frame {n : Nat} : ∀ {cx : Cx} {k : List Item} {s s' : St} {i : Id},run T n cx k s = some s' → Held cx s.hp.next i → Same i s.hp s'.hp:=by
 induction n with
 | zero=>intro cx k s s' i h; simp [run] at h
 | succ n ih =>
  intro cx k s s' i h hi
  rw [run] at h
  rcases next_frame (T:=T) (k:=k) hi with h1 | ⟨s1,h1,he⟩ | ⟨k1,s1,h1,hs⟩ | ⟨prot,hide,fn,l,d,k1,h1⟩
  ·simp [h1] at h
  ·simp [h1] at h
   subst h
   rw [he]; exact ⟨rfl,Nat.le_refl _⟩
  ·simp only [h1] at h
   exact hs.trans (ih h (hi.mono hs.2))
  ·simp only [h1] at h
   cases hr : run T n (s.callCx cx prot hide) [.code fn.body] (St.enter l (s.hp.push cx.lvl (s.own.veil hide))) with
   | none=>simp [hr] at h
   | some s2 =>
    simp only [hr] at h
    cases hb : back cx (s.callCx cx prot hide) hide fn d s s2 with
    | none=>simp [hb] at h
    | some s3 =>
     simp only [hb] at h
     have hs2:=ih hr (i:=i) (callCx_held hi)
     unfold back at hb
     simp only [Option.map_eq_some_iff] at hb
     obtain ⟨v,hv,rfl⟩:=hb
     have h3 : Same i s.hp ((s.pop cx.lvl hide s2.hp).setd d v).hp:=by
      rw [setd_hp]
      refine ⟨pop_held hi ?_,hs2.2⟩
      rw [hs2.1]; exact push_held hi
     exact h3.trans (ih h (hi.mono h3.2))
end
open Go.RowKit
section
variable {φ : Nat → Option FuncId} {β : Beta} {P : Program} {O : Nat → Prop} {w w' : World} {look look' : Id → Option Blk} {nt : Nat} {cx : Cx} {s s' : St} {a : Act} {T : Nat → Option MFun}
def resV (tmps : Array Value) : ResultVar → Sem Value
 | .tmp t=>pure (tmps.getD t undef)
 | .cell t ty=>do loadVar ty (← asAddr (tmps.getD t undef))
theorem results_eq (f : Func) (tmps : Array Value) : Go.results f tmps = (do let vs ← f.results.mapM (resV tmps); pure (if h : vs.size = 1 then vs[0] else .tuple vs)):=rfl
def AV.resOk (v : AV) : Prop:=v.safe = true ∨ ∃ u,v = .tup u
theorem resOf_sound {r : ResultVar} {m : MRes} {v : AV} {rs : List ResultVar} {ms : List MRes} (h : Rel φ β O nt cx s a w) (hm : matchRes P (r :: rs) (m :: ms) = true) (hv : resOf cx s m = some v) :
  ∃ x,(resV a.tmps r).run P w = .ok x w ∧ VR φ β v x ∧ v.safe = true:=by
 cases r with
 | tmp t =>
  cases m with
  | cell=>simp [matchRes] at hm
  | tmp u =>
   simp [matchRes] at hm
   obtain ⟨rfl,_⟩:=hm
   simp only [resOf] at hv
   split at hv
   ·rename_i hs
    simp at hv
    subst hv
    exact ⟨_,rfl,h.slots t,hs⟩
   ·simp at hv
 | cell t ty =>
  cases m with
  | tmp=>simp [matchRes] at hm
  | cell u uy =>
   simp [matchRes] at hm
   obtain ⟨⟨rfl,hty⟩,_⟩:=hm
   simp only [resOf] at hv
   have hsl:=h.slots t
   split at hv
   ·rename_i i t' hg
    rw [hg] at hsl
    split at hv
    ·rename_i he
     subst he
     cases hl : s.look cx i with
     | none=>simp [hl] at hv
     | some b =>
      simp only [hl,Option.bind_some] at hv
      split at hv
      ·rename_i hb
       simp at hv
       subst hv
       obtain ⟨pl,o,hbt,hf,hx⟩:=LR_ptr hsl
       obtain ⟨y,hy,hvy⟩:=run_load (P:=P) h.mem hty hsl hl (v:=b.val) (by cases b.val <;> rfl)
       obtain ⟨pl',cs,T',fr,hB⟩:=h.mem.live i b hl
       refine ⟨y,?_,hvy,Ty.fits_safe hB.fits⟩
       simp only [resV]
       rw [hx] at hy ⊢
       simp only [asAddr,Sem.run_bind,Sem.run_pure,Result.andThen_ok]
       simpa [Instr.loadAt,Instr.sureAddr,Sem.run_bind] using hy
      ·simp at hv
    ·simp at hv
   ·simp at hv
theorem resList_sound (h : Rel φ β O nt cx s a w) : ∀ {rs : List ResultVar} {ms : List MRes} {v : AV},matchRes P rs ms = true → resList cx s ms = some v →
  ∃ xs : List Value,(rs.mapM (resV a.tmps)).run P w = .ok xs w ∧ TR φ β v xs ∧ xs.length = ms.length
 | [],[],v,_,hv=>by simp [resList] at hv; subst hv; exact ⟨[],rfl,trivial,rfl⟩
 | [],_ :: _,_,hm,_=>by simp [matchRes] at hm
 | r :: rs,[],_,hm,_=>by cases r <;> simp [matchRes] at hm
 | r :: rs,m :: ms,v,hm,hv=>by
  have hm' : matchRes P rs ms = true:=by cases r <;> cases m <;> simp [matchRes] at hm <;> exact hm.2
  simp only [resList] at hv
  cases h1 : resOf cx s m with
  | none=>simp [h1] at hv
  | some u =>
   cases h2 : resList cx s ms with
   | none=>simp [h1,h2] at hv
   | some t =>
    simp [h1,h2] at hv
    subst hv
    obtain ⟨x,hx,hvx,hs⟩:=resOf_sound h hm h1
    obtain ⟨xs,hxs,ht,hlen⟩:=resList_sound h hm' h2
    refine ⟨x :: xs,?_,⟨hs,?_,ht⟩,by simp [hlen]⟩
    ·simp only [List.mapM_cons,Sem.run_bind]
     rw [hx]
     simp only [Result.andThen_ok,Sem.run_bind,hxs,Sem.run_pure]
    ·cases u <;> first | exact hvx | simp [AV.safe] at hs
theorem matchRes_len : ∀ {rs : List ResultVar} {ms : List MRes},matchRes P rs ms = true → rs.length = ms.length
 | [],[],_=>rfl
 | [],_ :: _,hm=>by simp [matchRes] at hm
 | r :: rs,[],hm=>by cases r <;> simp [matchRes] at hm
 | r :: rs,m :: ms,hm=>by
  have hm' : matchRes P rs ms = true:=by cases r <;> cases m <;> simp [matchRes] at hm <;> exact hm.2
  simp [matchRes_len hm']
theorem results_sound {f : Func} {ms : List MRes} {v : AV} (h : Rel φ β O nt cx s a w) (hm : matchRes P f.results.toList ms = true) (hv : results cx s ms = some v) :
  ∃ x,(Go.results f a.tmps).run P w = .ok x w ∧ VR φ β v x ∧ v.resOk:=by
 have conv : ∀ (xs : List Value),(f.results.toList.mapM (resV a.tmps)).run P w = .ok xs w →
   (Go.results f a.tmps).run P w = .ok (if h : xs.toArray.size = 1 then xs.toArray[0] else .tuple xs.toArray) w:=by
  intro xs hxs
  rw [results_eq,Sem.run_bind,Array.mapM_eq_mapM_toList]
  simp only [Sem.run_map,hxs,Result.andThen_ok,Sem.run_pure]
 have hlen:=matchRes_len hm
 match ms,hv with
 | [r],hv =>
  simp only [results] at hv
  cases hl : f.results.toList with
  | nil=>rw [hl] at hlen; simp at hlen
  | cons q qs =>
   cases qs with
   | cons=>rw [hl] at hlen; simp at hlen
   | nil =>
    rw [hl] at hm
    obtain ⟨x,hx,hvx,hs⟩:=resOf_sound h hm hv
    refine ⟨x,?_,hvx,.inl hs⟩
    rw [conv [x] (by rw [hl]; simp only [List.mapM_cons,List.mapM_nil,Sem.run_bind]; rw [hx]; simp)]
    simp
 | [],hv =>
  simp only [results,resList,Option.map_some,Option.some.injEq] at hv
  subst hv
  obtain ⟨xs,hxs,ht,hl⟩:=resList_sound h hm (v:=.unit) rfl
  have : xs = []:=List.length_eq_zero_iff.1 (by simpa using hl)
  subst this
  exact ⟨_,conv [] hxs,⟨[],by simp,trivial⟩,.inr ⟨_,rfl⟩⟩
 | r :: r' :: rs,hv =>
  simp only [results,Option.map_eq_some_iff] at hv
  obtain ⟨u,hu,rfl⟩:=hv
  obtain ⟨xs,hxs,ht,hl⟩:=resList_sound h hm hu
  refine ⟨_,conv xs hxs,⟨xs,?_,ht⟩,.inr ⟨_,rfl⟩⟩
  rw [dif_neg]
  simp [hl]
end
open Go.RowKit
structure After (φ : Nat → Option FuncId) (O : Nat → Prop) (β : Beta) (l n0 : Nat) (w : World) (look : Id → Option Blk) (n1 : Nat) (stk : Nat → Own) (β' : Beta) (w' : World) : Prop where
 mem : HR φ β' O look w'
 same : SameBut w w' O
 ext : Ext l n0 β β'
 next : n0 ≤ n1
 dom : ∀ i pl,β' i = some pl → i.under (l + 1) n1
 top : ∀ k,l ≤ k → stk k = []
def CallSim (P : Program) (T : Nat → Option MFun) (φ : Nat → Option FuncId) (draw : Array Oper → List MOp → Bool) (m : Nat) : Prop :=
 ∀ (cx : Cx) (fn : MFun) (F : FuncId) (args : List AV) (h : HP) (s2 : St) (v : AV) (β : Beta) (O : Nat → Prop) (rargs : List Value) (w : World),
  matchFn P φ draw F fn = true → run T m cx [.code fn.body] (St.enter args h) = some s2 → results cx s2 fn.res = some v → args.length = fn.params + fn.nfree → All2 (VR φ β) args rargs →
  HR φ β O h.look w → (∀ i pl,β i = some pl → i.under cx.lvl h.next) → (∀ l,cx.lvl ≤ l → h.stk l = []) → (∀ r,w.heap.size ≤ r → O r) →
  Calls P F rargs.toArray w fun en w'=>∃ x β',en = .returned x ∧ VR φ β' v x ∧ v.resOk ∧ After φ O β cx.lvl h.next w (s2.look cx) s2.hp.next s2.hp.stk β' w'
def TblOk (P : Program) (T : Nat → Option MFun) (φ : Nat → Option FuncId) (draw : Array Oper → List MOp → Bool) : Prop:=∀ f fn F,T f = some fn → φ f = some F → matchFn P φ draw F fn = true
section
variable {φ : Nat → Option FuncId} {β : Beta} {P : Program} {O : Nat → Prop} {w w' : World} {look look' : Id → Option Blk} {nt : Nat} {cx : Cx} {s s' s1 : St} {a : Act} {T : Nat → Option MFun} {draw : Array Oper → List MOp → Bool}
theorem opds_of_slots (h : SR φ β s.sl a.tmps) : Opds φ β a.eval s.opd:=by
 intro x y hxy
 cases x <;> cases y <;> simp [opdOk] at hxy
 ·subst hxy; simpa [Act.eval,St.opd] using h _
 ·rename_i y b
  have hl:=zeroOk_LR (φ:=φ) (β:=β) hxy
  have ha : b.isAgg = false:=by cases b <;> simp [zeroOk] at hxy <;> rfl
  have : VR φ β b y:=VR_of_VR1 (by simp only [VR1,ha,Bool.false_eq_true,if_false]; exact hl)
  exact this
 ·rename_i F n
  have : VR φ β (.func n .unit) (.func (.func F) #[] #[]):=VR_of_VR1 (by
   simp only [VR1,AV.isAgg,Bool.false_eq_true,if_false]
   exact ⟨F,[],hxy,rfl,rfl⟩)
  exact this
theorem opds_list {ρ : Operand → Value} {g : Opd → AV} (hg : Opds φ β ρ g) : ∀ {xs : List Operand} {ys : List Opd},opdsOk φ xs ys = true → All2 (VR φ β) (ys.map g) (xs.map ρ)
 | [],[],_=>All2.nil
 | [],_ :: _,h=>by simp [opdsOk] at h
 | _ :: _,[],h=>by simp [opdsOk] at h
 | x :: xs,y :: ys,h=>by
  simp [opdsOk] at h
  exact All2.cons (hg _ _ h.1) (opds_list hg h.2)
theorem cap_list : ∀ {c : AV} {l : List Value},(c.rel φ β).2 l → All2 (VR φ β) (capList c) l:=by
 intro c
 induction c with
 | cons x y _ ihy =>
  intro l h
  obtain ⟨v,vs,rfl,h1,h2⟩:=h
  refine All2.cons ?_ (ihy h2)
  cases x <;> first | exact VR_of_VR1 (by simp only [VR1,AV.isAgg,Bool.false_eq_true,if_false]; exact h1) | simp [AV.rel] at h1
 | unit=>intro l h; simp [AV.rel] at h; subst h; exact All2.nil
 | _=>intro l h; simp [AV.rel] at h
theorem wanted_ok {ops : Array Oper} {o : Oper} {g : Option (Nat × Bool)} {b : Bool} (h : SR φ β s.sl a.tmps) (hg : guardOk ops o.guard g = true) (hw : s.wanted g = some b) : Region.wanted o (yielded ops a.tmps) = b:=by
 unfold Region.wanted
 cases hgd : o.guard with
 | none =>
  cases g with
  | none=>simp [St.wanted] at hw; subst hw; rfl
  | some q=>simp [guardOk,hgd] at hg
 | some p =>
  cases g with
  | none=>obtain ⟨j,c⟩:=p; simp [guardOk,hgd] at hg
  | some q =>
   obtain ⟨j,c⟩:=p
   obtain ⟨t,d⟩:=q
   simp only [guardOk,hgd,Bool.and_eq_true,beq_iff_eq] at hg
   obtain ⟨rfl,hd⟩:=hg
   cases ho : ops[j]? with
   | none=>simp [ho] at hd
   | some oj =>
    simp [ho] at hd
    simp only
    have hsl:=h t
    have hy : yielded ops a.tmps j = match a.tmps[t]? with | some (.bool b)=>some b | _=>none:=by
     unfold yielded
     rw [ho]
     simp only [Option.bind_some,hd]
     cases a.tmps[t]? with
     | none=>rfl
     | some y=>cases y <;> rfl
    rw [hy]
    simp only [St.wanted] at hw
    split at hw
    ·rename_i c' hc
     rw [hc] at hsl
     have hv:=LR_bool hsl
     simp at hw
     have : a.tmps[t]? = some (.bool c'):=by
      rw [Array.getD_eq_getD_getElem?] at hv
      cases ht : a.tmps[t]? with
      | none=>rw [ht] at hv; simp [undef] at hv
      | some y=>rw [ht] at hv; simp at hv; rw [hv]
     simp only [this]
     rw [← hw]
     cases c' <;> cases c <;> rfl
    ·rename_i hc
     rw [hc] at hsl
     obtain ⟨xs,hx,ht⟩:=hsl
     simp at hw
     subst hw
     cases xs with
     | cons=>exact ht.elim
     | nil =>
      have : ∀ b,a.tmps[t]? ≠ some (.bool b):=by
       intro b hb
       rw [Array.getD_eq_getD_getElem?,hb] at hx
       simp at hx
      cases hq : a.tmps[t]? with
      | none=>rfl
      | some y=>cases y <;> first | rfl | exact absurd hq (this _)
    ·simp at hw
theorem Rel_back {d : Option Nat} {hide : List Nat} {s2 : St} {v : AV} {x : Value} {O' : Nat → Prop} {β' : Beta} {cx' : Cx} (h : Rel φ β O nt cx s a w) (hl : cx'.lvl = cx.lvl + 1) (hv : VR φ β' v x) (hr : v.resOk)
  (hA : After φ O' β cx'.lvl s.hp.next w (s2.look cx') s2.hp.next s2.hp.stk β' w') (hd : ∀ t,d = some t → t < nt)
  (hO : ∀ r,O' r → O r) (hh : ∀ t b pl,has hide t = true → s.own.get t = some b → β (.stk cx.lvl t) = some pl → ¬ O' pl.r)
  (harg : ∀ n,s2.look cx' (.arg n) = s.look cx (.arg n)) :
  ∃ β1,Rel φ β1 O nt cx ((s.pop cx.lvl hide s2.hp).setd d v) (a.put d x) w' ∧ Ext cx.lvl s.hp.next β β1:=by
 have hdec : ∀ i : Id,Decidable (i.under (cx.lvl + 1) s2.hp.next):=fun i=>by cases i <;> simp only [Id.under] <;> infer_instance
 let β1 : Beta:=fun i=>if @decide (i.under (cx.lvl + 1) s2.hp.next) (hdec i) then β' i else none
 have h1 : ∀ i pl,i.under (cx.lvl + 1) s2.hp.next → β' i = some pl → β1 i = some pl:=by
  intro i pl hi hb
  show (if _ then _ else _) = _
  rw [if_pos (by simpa using hi)]
  exact hb
 have h1' : ∀ i pl,β1 i = some pl → β' i = some pl ∧ i.under (cx.lvl + 1) s2.hp.next:=by
  intro i pl hb
  have hb : (if @decide (i.under (cx.lvl + 1) s2.hp.next) (hdec i) then β' i else none) = some pl:=hb
  split at hb
  ·rename_i hi; exact ⟨hb,by simpa using hi⟩
  ·simp at hb
 have hns : ∀ i pl,i.isStk = false → β' i = some pl → β1 i = some pl:=by
  intro i pl hi hb
  refine h1 i pl ?_ hb
  have:=hA.dom i pl hb
  cases i <;> simp_all [Id.under,Id.isStk]
 have hmono : ∀ i pl,β i = some pl → β1 i = some pl:=by
  intro i pl hb
  have hu:=h.dom i pl hb
  refine h1 i pl ?_ (hA.ext i pl ?_ hb)
  ·cases i <;> simp_all [Id.under]
   have:=hA.next; omega
  ·rw [hl]; exact hu
 have hlook : ∀ i b,(s.pop cx.lvl hide s2.hp).look cx i = some b → (s2.look cx' i = some b ∧ ∀ t,i ≠ .stk cx'.lvl t) ∨ (∃ t,i = .stk cx.lvl t ∧ has hide t = true ∧ s.own.get t = some b):=by
  intro i b hb
  cases i with
  | stk l t =>
   by_cases hll : l = cx.lvl
   ·subst hll
    simp only [St.look,Id.own,if_true,St.pop,Own.get_unveil] at hb
    split at hb
    ·rename_i hhd; exact .inr ⟨t,rfl,hhd,hb⟩
    ·refine .inl ⟨?_,fun t' e=>by simp at e; omega⟩
     simp only [St.look,Id.own,hl]
     rw [if_neg (by omega)]
     exact hb
   ·simp only [St.look,Id.own,if_neg hll,St.pop,HP.pop,HP.look] at hb
    by_cases hl2 : l = cx'.lvl
    ·have:=hA.top l (by omega)
     rw [this] at hb
     simp [Own.get] at hb
    ·refine .inl ⟨?_,fun t' e=>by simp at e; exact hl2 e.1⟩
     simp only [St.look,Id.own,if_neg hl2,HP.look]
     exact hb
  | obj n=>exact .inl ⟨by simpa [St.look,Id.own,St.pop,HP.pop,HP.look] using hb,by simp⟩
  | arg n=>exact .inl ⟨by simpa [St.look,Id.own,St.pop,HP.pop,HP.look] using hb,by simp⟩

 have hmix : ∀ t b j bj pi pj,has hide t = true → s.own.get t = some b → s2.look cx' j = some bj → β1 (.stk cx.lvl t) = some pi → β1 j = some pj → pi.r ≠ pj.r:=by
  intro t b j bj pi pj hht ho hj hpi hpj e
  have hlk : s.look cx (.stk cx.lvl t) = some b:=by rw [look_stk]; exact ho
  obtain ⟨pl,cs,T,fr,hB⟩:=h.mem.live _ b hlk
  obtain rfl:=Option.some.inj ((hmono _ _ hB.place).symm.trans hpi)
  have hnO:=hh t b pl hht ho hB.place
  obtain ⟨plj,csj,Tj,frj,hBj⟩:=hA.mem.live j bj hj
  obtain rfl:=Option.some.inj (hBj.place.symm.trans (h1' j pj hpj).1)
  cases hja : j.isArg with
  | false=>exact hnO (by rw [e]; exact (hBj.own hja).2)
  | true =>
   cases j with
   | arg n =>
    rw [harg] at hj
    obtain ⟨plj',_,_,_,hBj'⟩:=h.mem.live _ bj hj
    obtain rfl:=Option.some.inj ((hmono _ _ hBj'.place).symm.trans hpj)
    have:=(h.mem.apart _ _ _ _ _ _ hlk hj hB.place hBj'.place (by simp) e).1
    simp [Id.isArg] at this
   | _=>simp [Id.isArg] at hja
 refine ⟨β1,Rel_setd (s:=s.pop cx.lvl hide s2.hp) ⟨fun t=>VR_mono hmono (h.slots t),⟨?_,?_⟩,fun i pl hb=>(h1' i pl hb).2,?_,fun r hr=>h.fresh r (Nat.le_trans hA.same.size hr),h.defers,h.size⟩ hd ?_,fun i pl _ hb=>hmono i pl hb⟩
 ·intro i b hb
  rcases hlook i b hb with ⟨hb2,hne⟩ | ⟨t,rfl,hht,ho⟩
  ·obtain ⟨pl,cs,T,fr,hB⟩:=hA.mem.live i b hb2
   have hu:=hA.dom i pl hB.place
   have hu' : i.under (cx.lvl + 1) s2.hp.next:=by
    cases i with
    | stk l t =>
     simp only [Id.under] at hu ⊢
     have : l ≠ cx'.lvl:=fun e=>by subst e; exact hne t rfl
     omega
    | obj n=>exact hu
    | arg n=>trivial
   exact ⟨pl,cs,T,fr,h1 i pl hu' hB.place,hB.ty,hB.fits,hB.heap,hB.room,hB.size,cells_congr (Ty.fits_safe hB.fits) hns hB.cells,fun hi=>⟨(hB.own hi).1,hO _ (hB.own hi).2⟩⟩
  ·have hlk : s.look cx (.stk cx.lvl t) = some b:=by rw [look_stk]; exact ho
   obtain ⟨pl,cs,T,fr,hB⟩:=h.mem.live _ b hlk
   have hlt:=HR_lt h.mem hlk hB.place
   have hsame:=hA.same.block pl.r hlt (hh t b pl hht ho hB.place)
   exact ⟨pl,cs,T,fr,hmono _ _ hB.place,hB.ty,hB.fits,by rw [hsame]; exact hB.heap,hB.room,hB.size,cells_congr (Ty.fits_safe hB.fits) (fun i pl _ hb=>hmono i pl hb) hB.cells,hB.own⟩
 ·intro i j bi bj pi pj hi hj hpi hpj
  rcases hlook i bi hi with ⟨hi2,_⟩ | ⟨t,rfl,hht,ho⟩ <;> rcases hlook j bj hj with ⟨hj2,_⟩ | ⟨t',rfl,hht',ho'⟩
  ·exact hA.mem.apart i j bi bj pi pj hi2 hj2 (h1' i pi hpi).1 (h1' j pj hpj).1
  ·exact fun _ e=>absurd e.symm (hmix t' bj i bi pj pi hht' ho' hi2 hpj hpi)
  ·exact fun _ e=>absurd e (hmix t bi j bj pi pj hht ho hj2 hpi hpj)
  ·have hlk : s.look cx (.stk cx.lvl t) = some bi:=by rw [look_stk]; exact ho
   have hlk' : s.look cx (.stk cx.lvl t') = some bj:=by rw [look_stk]; exact ho'
   obtain ⟨p1,_,_,_,hB1⟩:=h.mem.live _ bi hlk
   obtain ⟨p2,_,_,_,hB2⟩:=h.mem.live _ bj hlk'
   obtain rfl:=Option.some.inj ((hmono _ _ hB1.place).symm.trans hpi)
   obtain rfl:=Option.some.inj ((hmono _ _ hB2.place).symm.trans hpj)
   exact h.mem.apart _ _ bi bj _ _ hlk hlk' hB1.place hB2.place
 ·intro l hle
  simp only [St.pop,HP.pop]
  by_cases hll : l = cx.lvl
  ·rw [if_pos hll]; exact h.top _ (Nat.le_refl _)
  ·rw [if_neg hll]; exact hA.top l (by omega)
 ·refine VR_congr (fun i pl hi hb=>?_) hv
  rcases hi with hi | hi
  ·rcases hr with hr | ⟨u,rfl⟩
   ·simp only [AV.leads,Bool.and_eq_true,Bool.not_eq_true'] at hi
    exact hns i pl (safe_names hr hi.1 hi.2) hb
   ·simp [AV.leads,AV.names] at hi
  ·exact hns i pl hi hb
theorem push_look_veil {hide : List Nat} : (s.hp.push cx.lvl (s.own.veil hide)).look = fun i=>match i.own cx.lvl with | some t=>if has hide t then none else s.look cx i | none=>s.look cx i:=by
 funext i
 cases i with
 | stk l t =>
  simp only [HP.look,HP.push,St.look,Id.own]
  by_cases h : l = cx.lvl <;> simp [h,Own.get_veil]
 | obj n=>simp [HP.look,HP.push,St.look,Id.own]
 | arg n=>simp [HP.look,HP.push,St.look,Id.own]
end
open Go.RowKit
section
variable {φ : Nat → Option FuncId} {β : Beta} {P : Program} {O : Nat → Prop} {w w' : World} {look look' : Id → Option Blk} {nt : Nat} {cx : Cx} {s s' s1 : St} {a : Act} {T : Nat → Option MFun} {draw : Array Oper → List MOp → Bool}
theorem eff_lets {d : Option Nat} {esc : Bool} {e : Eff} {v : AV} (h : applyEff cx d esc s e = some (v,s')) : e.lets:=by
 cases e with
 | val=>trivial
 | new=>trivial
 | wr i b u =>
  simp only [applyEff,Option.map_eq_some_iff] at h
  obtain ⟨s1,hw,_⟩:=h
  exact (look_write hw).1
 | grow j b n =>
  cases d with
  | none=>simp [applyEff] at h
  | some t =>
   simp only [applyEff,Option.map_eq_some_iff] at h
   obtain ⟨s1,hw,_⟩:=h
   exact (look_drop hw).1
theorem fn_facts {F : FuncId} {fn : MFun} (h : matchFn P φ draw F fn = true) : ∃ f c, P.funcs[F]? = some f ∧ f.body = some c ∧ matchC P φ f.ntmps draw c fn.body = true ∧ matchRes P f.results.toList fn.res = true ∧ fn.params + fn.nfree ≤ f.ntmps ∧ (f.name == "runtime.NumGoroutine") = false := by
 unfold matchFn at h
 cases hf : P.funcs[F]? with
 | none=>simp [hf] at h
 | some f =>
  simp only [hf,Bool.and_eq_true] at h
  cases hb : f.body with
  | none=>simp [hb] at h
  | some c =>
   simp only [hb,decide_eq_true_eq,Bool.not_eq_true'] at h
   exact ⟨f,c,rfl,hb,h.1.1.1,h.1.1.2,h.1.2,h.2⟩
theorem run_callFunc {F : FuncId} {fn : MFun} {args : Array Value} (h : matchFn P φ draw F fn = true) : (callFunc F args).run P w = .ok (.enter F args) w:=by
 obtain ⟨f,c,hf,hb,_,_,_,hn⟩:=fn_facts h
 simp only [callFunc,Sem.run_bind,run_program,Result.andThen_ok,hf,hn,Bool.false_eq_true,if_false,hb,Option.isNone_some,Sem.run_pure]
def veilO (O : Nat → Prop) (cx : Cx) (s : St) (hide : List Nat) (β : Beta) : Nat → Prop :=
 fun r=>O r ∧ ∀ t b pl,has hide t = true → s.own.get t = some b → β (.stk cx.lvl t) = some pl → r ≠ pl.r
theorem HR_veil {hide : List Nat} (h : HR φ β O (s.look cx) w) : HR φ β (veilO O cx s hide β) (s.hp.push cx.lvl (s.own.veil hide)).look w:=by
 have hl : ∀ i b,(s.hp.push cx.lvl (s.own.veil hide)).look i = some b → s.look cx i = some b ∧ ∀ t,i = .stk cx.lvl t → has hide t = false:=by
  intro i b hb
  rw [push_look_veil] at hb
  simp only at hb
  cases ho : i.own cx.lvl with
  | none=>simp only [ho] at hb; exact ⟨hb,fun t e=>by subst e; simp [Id.own] at ho⟩
  | some t =>
   simp only [ho] at hb
   split at hb
   ·simp at hb
   ·rename_i hh
    refine ⟨hb,fun t' e=>?_⟩
    subst e
    simp [Id.own] at ho
    subst ho
    simpa using hh
 refine ⟨fun i b hb=>?_,fun i j bi bj pi pj hi hj=>h.apart i j bi bj pi pj (hl i bi hi).1 (hl j bj hj).1⟩
 obtain ⟨hb',hne⟩:=hl i b hb
 obtain ⟨pl,cs,T,fr,hB⟩:=h.live i b hb'
 refine ⟨pl,cs,T,fr,hB.place,hB.ty,hB.fits,hB.heap,hB.room,hB.size,hB.cells,fun hi=>⟨(hB.own hi).1,(hB.own hi).2,?_⟩⟩
 intro t b' pl' hht ho hp e
 have hlk : s.look cx (.stk cx.lvl t) = some b':=by rw [look_stk]; exact ho
 have:=(h.apart i (.stk cx.lvl t) b b' pl pl' hb' hlk hB.place hp (fun e=>by rw [hne t e] at hht; simp at hht) e).2
 simp [Id.isArg] at this
theorem call_step {n : Nat} {oper : Oper} {d : Option Nat} {F : FuncId} {f : Nat} {prot : Bool} {hide : List Nat} {args caps : List AV} {rargs rcaps : List Value} {K : Act → World → Prop} {Q : Exit → Act → World → Prop} (hT : TblOk P T φ draw) (ih : ∀ m,m < n → CallSim P T φ draw m)
  (h : Rel φ β O nt cx s a w) (hdst : oper.dst = d) (hd : ∀ t,d = some t → t < nt) (hF : φ f = some F) (hr : (execOp a.eval oper).run P w = .ok (.enter F (rargs ++ rcaps).toArray) w ∨ ∀ g,T f = some g → (execOp a.eval oper).run P w = .ok (.enter F (rargs ++ rcaps).toArray) w) (ha : All2 (VR φ β) args rargs) (hc : All2 (VR φ β) caps rcaps)
  (hs : match enterCmd T cx prot hide f args caps d [] s with
   | .go _ s2=>s1 = s2
   | .call cx' hide fn e _ _ _=>∃ m s2,m < n ∧ run T m cx' [.code fn.body] e = some s2 ∧ back cx cx' hide fn d s s2 = some s1
   | _=>False)
  (hK : ∀ a' w' β',Rel φ β' O nt cx s1 a' w' → SameBut w w' O → Ext cx.lvl s.hp.next β β' → s.hp.next ≤ s1.hp.next → K a' w') :
  oper.wp P a w K Q:=by
 unfold enterCmd at hs
 cases hTf : T f with
 | none=>simp [hTf] at hs
 | some fn =>
  simp only [hTf] at hs
  by_cases hpar : fn.params = args.length ∧ fn.nfree = caps.length
  ·simp only [if_pos hpar] at hs
   obtain ⟨m,s2,hm,hrun,hback⟩:=hs
   unfold back at hback
   simp only [Option.map_eq_some_iff] at hback
   obtain ⟨v,hv,rfl⟩:=hback
   have hmf:=hT f fn F hTf hF
   have hr' : (execOp a.eval oper).run P w = .ok (.enter F (rargs ++ rcaps).toArray) w:=by
    rcases hr with hr | hr
    ·exact hr
    ·exact hr fn hTf
   have harg : ∀ k,s2.look (s.callCx cx prot hide) (.arg k) = s.look cx (.arg k):=by
    intro k
    exact (run_frame (i:=.arg k) hrun trivial).1
   have hcall:=ih m hm (s.callCx cx prot hide) fn F (args ++ caps) (s.hp.push cx.lvl (s.own.veil hide)) s2 v β (veilO O cx s hide β) (rargs ++ rcaps) w hmf hrun hv (by simp [hpar.1,hpar.2]) (ha.append hc)
    (HR_veil h.mem) (fun i pl hb=>h.dom i pl hb) (fun l hl=>by
     have : l ≠ cx.lvl:=by simp [St.callCx] at hl; omega
     simp only [HP.push,if_neg this]
     exact h.top l (by simp [St.callCx] at hl; omega)) (fun r hr=>⟨h.fresh r hr,fun t b pl _ ho hp e=>by
      have:=HR_lt h.mem (i:=.stk cx.lvl t) (by rw [look_stk]; exact ho) hp
      omega⟩)
   unfold Oper.wp
   rw [hr']
   simp only [Oper.upon]
   refine hcall.mono fun en w'' hen=>?_
   obtain ⟨x,β',rfl,hvx,hok,hA⟩:=hen
   obtain ⟨β1,hrel,hext⟩:=Rel_back (d:=d) (hide:=hide) h (by simp [St.callCx]) hvx hok hA hd (fun r hr=>hr.1) (fun t b pl hht ho hp hO=>hO.2 t b pl hht ho hp rfl) harg
   rw [hdst]
   exact hK _ _ β1 hrel (hA.same.mono fun r hr=>hr.1) hext (by
    have:=hA.next
    cases d <;> simpa [St.setd,St.pop,HP.pop,HP.push] using this)
  ·simp [if_neg hpar] at hs
theorem step_sound {n : Nat} {oper : Oper} {o : MOp} {ops : Array Oper} {K : Act → World → Prop} {Q : Exit → Act → World → Prop} (hT : TblOk P T φ draw) (ih : ∀ m,m < n → CallSim P T φ draw m) (h : Rel φ β O nt cx s a w) (hs : Step T n cx o s s1) (hm : matchOp P φ nt ops oper o = true)
  (hK : ∀ a' w' β',Rel φ β' O nt cx s1 a' w' → SameBut w w' O → Ext cx.lvl s.hp.next β β' → s.hp.next ≤ s1.hp.next → K a' w') :
  if Region.wanted oper (yielded ops a.tmps) then oper.wp P a w K Q else K (a.put oper.dst undef) w:=by
 unfold matchOp at hm
 simp only [Bool.and_eq_true,beq_iff_eq] at hm
 obtain ⟨⟨⟨hdst,hnt⟩,hg⟩,hm⟩:=hm
 have hd : ∀ t,o.d = some t → t < nt:=by
  intro t ht
  rw [ht] at hnt
  simpa using hnt
 unfold Step at hs
 cases hw : s.wanted o.g with
 | none=>simp [hw] at hs
 | some b =>
  rw [wanted_ok h.slots hg hw]
  cases b with
  | false =>
   simp only [hw] at hs
   simp only [Bool.false_eq_true,if_false]
   subst hs
   rw [hdst]
   exact hK _ _ β (Rel_setd h hd VR_undef) .refl .refl (by cases o.d <;> exact Nat.le_refl _)
  | true =>
   simp only [hw] at hs
   simp only [if_true]
   obtain ⟨od,ok,og⟩:=o
   simp only at hs hdst hm hd
   have hops:=opds_of_slots h.slots
   by_cases hcall : ok.isCall = true
   ·rw [if_pos hcall] at hm
    cases ok <;> simp [MK.isCall] at hcall
    ·rename_i prot hide f args
     unfold matchCall at hm
     split at hm
     ·rename_i F rargs tys prot' hide' f' args' hop heq
      cases heq
      simp only [Bool.and_eq_true,beq_iff_eq] at hm
      simp only [opCmd] at hs
      refine call_step (f:=f) (caps:=[]) (rcaps:=[]) hT ih h hdst hd hm.1 (.inr fun g hg=>?_) (opds_list hops hm.2) All2.nil hs hK
      have hcf:=run_callFunc (w:=w) (args:=(rargs.toList.map a.eval).toArray) (hT f g F hg hm.1)
      have e1 : rargs.map a.eval = (rargs.toList.map a.eval).toArray:=by apply Array.toList_inj.1; rw [Array.toList_map]
      simp only [execOp,hop,resolve,Sem.run_bind,Deferred.ofValue,Act.eval,Sem.run_pure,Result.andThen_ok,invoke,List.append_nil]
      rw [← hcf,e1]
      simp
     ·rename_i heq; cases heq
     ·simp at hm
    ·rename_i prot hide x args
     unfold matchCall at hm
     split at hm
     ·rename_i heq; cases heq
     ·rename_i t rargs tys prot' hide' x' args' hop heq
      cases heq
      simp only [Bool.and_eq_true] at hm
      simp only [opCmd] at hs
      have hx:=hops _ _ hm.1
      cases hv : s.opd x <;> simp only [hv] at hs
      rename_i f cap
      rw [hv] at hx
      obtain ⟨F,caps,hF,hcaps,hxe⟩ : ∃ F caps,φ f = some F ∧ (cap.rel φ β).2 caps ∧ a.eval (.tmp t) = .func (.func F) #[] caps.toArray:=by
       simpa [VR,VR1,AV.isAgg,LR,AV.rel] using hx
      refine call_step (f:=f) (caps:=capList cap) (rcaps:=caps) hT ih h hdst hd hF (.inr fun g hg=>?_) (opds_list hops hm.2) (cap_list hcaps) hs hK
      have hcf:=run_callFunc (w:=w) (args:=(rargs.toList.map a.eval ++ caps).toArray) (hT f g F hg hF)
      have e1 : rargs.map a.eval = (rargs.toList.map a.eval).toArray:=by apply Array.toList_inj.1; rw [Array.toList_map]
      simp only [execOp,hop,resolve,Sem.run_bind,hxe,Deferred.ofValue,Sem.run_pure,Result.andThen_ok,invoke]
      rw [← hcf,e1]
      simp
     ·simp at hm
   ·rw [if_neg hcall] at hm
    have hev : ∃ v s2,evOp cx od ok s = some (v,s2) ∧ s1 = s2.setd od v:=by
     cases ok <;> simp [MK.isCall] at hcall
     all_goals
      simp only [opCmd] at hs
      split at hs
      ·rename_i hc
       split at hc
       ·rename_i v s2 he
        injection hc with hc1 hc2
        subst hc2
        exact ⟨v,s2,he,hs⟩
       ·simp at hc
      ·rename_i hc; split at hc <;> simp at hc
      ·exact hs.elim
    obtain ⟨v,s2,he,rfl⟩:=hev
    unfold evOp at he
    cases hk : evK s.opd (s.look cx) ok with
    | none=>simp [hk] at he
    | some e =>
     simp only [hk] at he
     obtain ⟨nx,x,w',hrun,hval,heff⟩:=op_sound h.mem hops hm hk (eff_lets he)
     obtain ⟨β',hrel,hsame,hext,hnext⟩:=eff_rel h heff he hd
     have hnext' : s.hp.next ≤ (s2.setd od v).hp.next:=by cases od <;> exact hnext
     unfold Oper.wp
     rw [hrun]
     cases nx <;> simp [Next.val] at hval
     ·subst hval
      simp only [Oper.upon]
      rw [hdst]
      exact hK _ _ β' hrel hsame hext hnext'
     ·subst hval
      simp only [Oper.upon]
      rw [hdst]
      exact hK _ _ β' hrel hsame hext hnext'
end
open Go.RowKit
structure Left (φ : Nat → Option FuncId) (O : Nat → Prop) (nt : Nat) (cx : Cx) (β : Beta) (n0 : Nat) (w : World) (s1 : St) (β' : Beta) (a' : Act) (w' : World) : Prop where
 rel : Rel φ β' O nt cx s1 a' w'
 same : SameBut w w' O
 ext : Ext cx.lvl n0 β β'
 next : n0 ≤ s1.hp.next
def RegPost (φ : Nat → Option FuncId) (O : Nat → Prop) (nt : Nat) (cx : Cx) (β : Beta) (n0 : Nat) (w : World) (s1 : St) : Exit → Act → World → Prop
 | .normal,a',w'=>∃ β',Left φ O nt cx β n0 w s1 β' a' w'
 | _,_,_=>False
def TodoOk (P : Program) (φ : Nat → Option FuncId) (nt : Nat) (draw : Array Oper → List MOp → Bool) : List Item → List Go.Item → Prop
 | [],[]=>True
 | .code c :: k,.code C :: kR=>matchC P φ nt draw C c = true ∧ TodoOk P φ nt draw k kR
 | .inBlock i :: k,.inBlock j :: kR=>i = j ∧ TodoOk P φ nt draw k kR
 | .inLoop _ _ c :: k,.inLoop C :: kR=>matchC P φ nt draw C c = true ∧ TodoOk P φ nt draw k kR
 | _,_=>False
def DrawSound (P : Program) (T : Nat → Option MFun) (φ : Nat → Option FuncId) (draw : Array Oper → List MOp → Bool) : Prop :=
 ∀ (n : Nat) (id : Nat) (ops : Array Oper) (l : List MOp) (β : Beta) (O : Nat → Prop) (nt : Nat) (cx : Cx) (tr : Nat → St) (a : Act) (w : World),
  (∀ m,m < n → CallSim P T φ draw m) → draw ops l = true → matchOps P φ nt ops ops.toList l = true → (∀ i (h : i < l.length),Step T n cx l[i] (tr i) (tr (i + 1))) → Rel φ β O nt cx (tr 0) a w →
  drawHead cx (tr 0) l = true → (Code.region id ops true).wp P (RegPost φ O nt cx β (tr 0).hp.next w (tr l.length)) a w
section
variable {φ : Nat → Option FuncId} {β : Beta} {P : Program} {O : Nat → Prop} {w w' : World} {look look' : Id → Option Blk} {nt : Nat} {cx : Cx} {s s' s1 : St} {a : Act} {T : Nat → Option MFun} {draw : Array Oper → List MOp → Bool}
theorem matchOps_get : ∀ {os : List Oper} {ms : List MOp} {ops : Array Oper},matchOps P φ nt ops os ms = true → os.length = ms.length ∧ ∀ i (h : i < ms.length) (h' : i < os.length),matchOp P φ nt ops os[i] ms[i] = true
 | [],[],_,_=>⟨rfl,fun i h=>by simp at h⟩
 | [],_ :: _,_,h=>by simp [matchOps] at h
 | _ :: _,[],_,h=>by simp [matchOps] at h
 | o :: os,m :: ms,ops,h=>by
  simp [matchOps] at h
  obtain ⟨hl,hg⟩:=matchOps_get h.2
  refine ⟨by simp [hl],fun i hi hi'=>?_⟩
  cases i with
  | zero=>exact h.1
  | succ i=>exact hg i (by simpa using hi) (by simpa using hi')
theorem Left.step {β' : Beta} {a' : Act} {w'' : World} {s2 : St} {n0 : Nat} {β'' : Beta} {a'' : Act} (h : Left φ O nt cx β n0 w s1 β' a' w') (hr : Rel φ β'' O nt cx s2 a'' w'') (hs : SameBut w' w'' O) (he : Ext cx.lvl s1.hp.next β' β'') (hn : s1.hp.next ≤ s2.hp.next) :
  Left φ O nt cx β n0 w s2 β'' a'' w'':=⟨hr,h.same.trans hs,h.ext.trans he h.next,Nat.le_trans h.next hn⟩
theorem region_text {n : Nat} {id : Nat} {ops : Array Oper} {l : List MOp} {tr : Nat → St} (hT : TblOk P T φ draw) (ih : ∀ m,m < n → CallSim P T φ draw m) (hm : matchOps P φ nt ops ops.toList l = true)
  (hs : ∀ i (h : i < l.length),Step T n cx l[i] (tr i) (tr (i + 1))) (h : Rel φ β O nt cx (tr 0) a w) :
  (Code.region id ops false).wp P (RegPost φ O nt cx β (tr 0).hp.next w (tr l.length)) a w:=by
 obtain ⟨hlen,hget⟩:=matchOps_get hm
 have hsz : ops.size = l.length:=by simpa using hlen
 apply wp_region
 rw [List.range_eq_range',hsz]
 have key : ∀ d i a' w' β',i + d = l.length → Left φ O nt cx β (tr 0).hp.next w (tr i) β' a' w' → wpOps P ops (RegPost φ O nt cx β (tr 0).hp.next w (tr l.length)) (List.range' i d) a' w':=by
  intro d
  induction d with
  | zero =>
   intro i a' w' β' hi hL
   simp only [List.range'_zero,wpOps]
   have : i = l.length:=by omega
   subst this
   exact ⟨β',hL⟩
  | succ d ihd =>
   intro i a' w' β' hi hL
   have hil : i < l.length:=by omega
   have his : i < ops.size:=by omega
   simp only [List.range'_succ,wpOps]
   have ho : ops[i]? = some ops[i]:=Array.getElem?_eq_getElem his
   rw [ho]
   simp only
   have hmo:=hget i hil (by simpa using his)
   have:=step_sound (K:=wpOps P ops (RegPost φ O nt cx β (tr 0).hp.next w (tr l.length)) (List.range' (i + 1) d)) (Q:=RegPost φ O nt cx β (tr 0).hp.next w (tr l.length)) (ops:=ops) hT ih hL.rel (hs i hil) (by simpa using hmo)
    fun a'' w'' β'' hr hsame hext hn=>ihd (i + 1) a'' w'' β'' (by omega) (hL.step hr hsame hext hn)
   split
   ·rename_i hw; rw [if_pos (by simpa using hw)] at this; exact .inl (by simpa using this)
   ·rename_i hw; rw [if_neg (by simpa using hw)] at this; simpa using this
 exact key l.length 0 a w β (by omega) ⟨h,.refl,.refl,Nat.le_refl _⟩
theorem exitTo_ok {id : Nat} : ∀ {k k' : List Item} {kR : List Go.Item},TodoOk P φ nt draw k kR → exitTo id k = some k' → ∃ kR',Go.exitTo id kR = some kR' ∧ TodoOk P φ nt draw k' kR'
 | [],k',kR,_,h=>by simp [exitTo] at h
 | .ops .. :: _,_,kR,ht,h=>by cases kR <;> simp [TodoOk] at ht
 | .code c :: k,k',kR,ht,h=>by
  cases kR with
  | nil=>simp [TodoOk] at ht
  | cons x kR =>
   cases x <;> simp [TodoOk] at ht
   simp only [exitTo] at h
   obtain ⟨kR',h1,h2⟩:=exitTo_ok ht.2 h
   exact ⟨kR',by simpa [Go.exitTo] using h1,h2⟩
 | .inLoop _ _ c :: k,k',kR,ht,h=>by
  cases kR with
  | nil=>simp [TodoOk] at ht
  | cons x kR =>
   cases x <;> simp [TodoOk] at ht
   simp only [exitTo] at h
   obtain ⟨kR',h1,h2⟩:=exitTo_ok ht.2 h
   exact ⟨kR',by simpa [Go.exitTo] using h1,h2⟩
 | .inBlock i :: k,k',kR,ht,h=>by
  cases kR with
  | nil=>simp [TodoOk] at ht
  | cons x kR =>
   cases x <;> simp [TodoOk] at ht
   obtain ⟨rfl,ht⟩:=ht
   simp only [exitTo] at h
   split at h
   ·rename_i he
    simp at h
    subst h
    exact ⟨kR,by simp [Go.exitTo,he],ht⟩
   ·rename_i he
    obtain ⟨kR',h1,h2⟩:=exitTo_ok ht h
    exact ⟨kR',by simpa [Go.exitTo,he] using h1,h2⟩
theorem Rel_kill {l : List Nat} (h : Rel φ β O nt cx s a w) : Rel φ β O nt cx (s.kill l) a w :=
 ⟨fun t=>by
  simp only [St.kill,Slots.get_without]
  split
  ·exact VR_bot
  ·exact h.slots t,h.mem,h.dom,h.top,h.fresh,h.defers,h.size⟩
theorem Rel_keep {l o : List Nat} (h : Rel φ β O nt cx s a w) : Rel φ β O nt cx (s.keep l o) a w :=
 ⟨fun t=>by
  simp only [St.keep,Slots.get_only]
  split
  ·exact h.slots t
  ·exact VR_bot,HR_mono h.mem (fun i b hb=>by
   simp only [St.look,St.keep] at hb ⊢
   split at hb
   ·rw [Own.get_only] at hb
    split at hb
    ·exact hb
    ·simp at hb
   ·exact hb),h.dom,h.top,h.fresh,h.defers,h.size⟩
theorem Rel_lift {t : Nat} (h : Rel φ β O nt cx s a w) (hl : s.lift cx t = some s1) : ∃ β',Rel φ β' O nt cx s1 a w ∧ Ext cx.lvl s.hp.next β β' ∧ s.hp.next ≤ s1.hp.next:=by
 unfold St.lift at hl
 split at hl
 ·simp at hl; subst hl; exact ⟨β,h,.refl,Nat.le_refl _⟩
 ·rename_i l u off len hg
  split at hl
  ·rename_i hlv
   subst hlv
   split at hl
   ·rename_i b hb
    simp at hl
    subst hl
    have hlk : s.look cx (.stk cx.lvl u) = some b:=by rw [look_stk]; exact hb
    obtain ⟨pl,cs,T',fr,hB⟩:=h.mem.live _ _ hlk
    obtain ⟨hfr,hO⟩:=hB.own rfl
    subst hfr
    have hnone : β (.obj s.hp.next) = none:=by
     cases hb : β (.obj s.hp.next) with
     | none=>rfl
     | some p=>have:=h.dom _ p hb; simp [Id.under] at this
    have hap : ∀ j bj pj,j ≠ .stk cx.lvl u → s.look cx j = some bj → β j = some pj → pj.r ≠ pl.r:=fun j bj pj hj hlj hbj e=>by
     have:=(h.mem.apart j (.stk cx.lvl u) bj b pj pl hlj hlk hbj hB.place hj e).2
     simp [Id.isArg] at this
    let s2 : St:={ sl:=Slots.set (Slots.forget s.sl (.stk cx.lvl u)) t (.sl (.obj s.hp.next) off len),own:=s.own.rid u,hp:={ s.hp with obj:=fun n=>if n = s.hp.next then some b else s.hp.obj n,next:=s.hp.next + 1 } }
    have hlook : ∀ j,s2.look cx j = if j = .obj s.hp.next then some b else if j = .stk cx.lvl u then none else s.look cx j:=by
     intro j
     simp only [s2,St.look]
     cases ho : j.own cx.lvl with
     | some t' =>
      have:=own_some ho
      subst this
      simp only [Own.get_rid]
      by_cases hu : u = t'
      ·subst hu; simp
      ·rw [if_neg hu,if_neg (by simp),if_neg (by simp; exact fun e=>hu e.symm)]
     | none =>
      have hn:=own_none ho u
      rw [if_neg hn]
      cases j with
      | obj n =>
       simp only [HP.look]
       by_cases hn : n = s.hp.next <;> simp [hn]
      | _=>simp [HP.look]
    refine ⟨upd β (.obj s.hp.next) pl,⟨?_,?_,?_,h.top,h.fresh,h.defers,h.size⟩,?_,Nat.le_succ _⟩
    ·intro t'
     show VR φ _ (Slots.get (Slots.set (Slots.forget s.sl (.stk cx.lvl u)) t (.sl (.obj s.hp.next) off len)) t') _
     rw [Slots.get_set]
     by_cases ht : t = t'
     ·subst ht
      rw [if_pos rfl]
      have hv:=h.slots t
      rw [hg] at hv
      obtain ⟨pl',m,t',cap,hb',hty,h1,h2,h3,hx⟩:=LR_sl hv
      rw [hB.place] at hb'
      obtain rfl:=Option.some.inj hb'
      refine VR_of_VR1 ?_
      simp only [VR1,AV.isAgg,Bool.false_eq_true,if_false]
      exact ⟨pl,m,t',cap,by simp [upd],hty,h1,h2,h3,hx⟩
     ·rw [if_neg ht,Slots.get_forget]
      split
      ·exact VR_bot
      ·refine VR_mono (fun j pj hbj=>?_) (h.slots t')
       unfold upd
       rw [if_neg]
       ·exact hbj
       ·rintro rfl; rw [hnone] at hbj; simp at hbj
    ·have h0 : HR φ β O (fun j=>if j = .stk cx.lvl u then none else s.look cx j) w:=HR_mono h.mem fun j bj hj=>by
      by_cases hju : j = .stk cx.lvl u
      ·rw [if_pos hju] at hj; simp at hj
      ·rw [if_neg hju] at hj; exact hj
     refine HR_upd (look':=s2.look cx) h0 rfl (.inr hnone) ⟨cs,T',hB.heap,hB.room,hB.size,hB.ty,hB.fits,hB.cells⟩ hO (fun j bj pj hj hlj hbj=>?_) (by rw [hlook,if_pos rfl]) (fun j bj hj hlj=>by rw [hlook,if_neg hj] at hlj; exact hlj)
     rw [hlook,if_neg hj] at hlj
     by_cases hju : j = .stk cx.lvl u
     ·rw [if_pos hju] at hlj; simp at hlj
     ·rw [if_neg hju] at hlj
      exact ⟨hap j bj pj hju hlj hbj,rfl⟩
    ·intro i p hi
     unfold upd at hi
     split at hi
     ·rename_i e; subst e; simp [Id.under]
     ·have:=h.dom i p hi
      cases i <;> simp_all [Id.under]; omega
    ·intro i p hi hbi
     unfold upd
     rw [if_neg]
     ·exact hbi
     ·rintro rfl; rw [hnone] at hbi; simp at hbi
   ·simp at hl
  ·simp at hl
 ·simp at hl
theorem Rel_lifts : ∀ {l : List Nat} {s s1 : St} {β : Beta},Rel φ β O nt cx s a w → s.lifts cx l = some s1 → ∃ β',Rel φ β' O nt cx s1 a w ∧ Ext cx.lvl s.hp.next β β' ∧ s.hp.next ≤ s1.hp.next
 | [],s,s1,β,h,hl=>by simp [St.lifts] at hl; subst hl; exact ⟨β,h,.refl,Nat.le_refl _⟩
 | t :: r,s,s1,β,h,hl=>by
  simp only [St.lifts] at hl
  cases hlt : s.lift cx t with
  | none=>simp [hlt] at hl
  | some s2 =>
   simp only [hlt,Option.bind_some] at hl
   obtain ⟨β1,h1,e1,n1⟩:=Rel_lift h hlt
   obtain ⟨β2,h2,e2,n2⟩:=Rel_lifts h1 hl
   exact ⟨β2,h2,e1.trans e2 n1,Nat.le_trans n1 n2⟩
end
open Go.RowKit
section
variable {φ : Nat → Option FuncId} {P : Program} {T : Nat → Option MFun} {draw : Array Oper → List MOp → Bool}
def Sim (P : Program) (T : Nat → Option MFun) (φ : Nat → Option FuncId) (draw : Array Oper → List MOp → Bool) (n : Nat) : Prop :=
 ∀ (cx : Cx) (k : List Item) (s s' : St) (β : Beta) (O : Nat → Prop) (nt : Nat) (b : Frame) (a : Act) (kR : List Go.Item) (cs : List Frame) (w : World),
  run T n cx k s = some s' → TodoOk P φ nt draw k kR → Rel φ β O nt cx s a w →
  ∃ β' a' w' todo,Steps P (lone (b.at a kR) cs w) (lone { b.at a' todo with mode:=.returning } cs w') ∧ Left φ O nt cx β s.hp.next w s' β' a' w'
theorem Left.from {O : Nat → Prop} {nt : Nat} {cx : Cx} {β : Beta} {n0 : Nat} {w : World} {s1 s2 : St} {β' β'' : Beta} {a' a'' : Act} {w' w'' : World} (h : Left φ O nt cx β n0 w s1 β' a' w') (k : Left φ O nt cx β' s1.hp.next w' s2 β'' a'' w'') :
  Left φ O nt cx β n0 w s2 β'' a'' w'':=h.step k.rel k.same k.ext k.next
theorem Left.start {O : Nat → Prop} {nt : Nat} {cx : Cx} {β : Beta} {w : World} {s : St} {a : Act} (h : Rel φ β O nt cx s a w) : Left φ O nt cx β s.hp.next w s β a w:=⟨h,.refl,.refl,Nat.le_refl _⟩
theorem sim (hT : TblOk P T φ draw) (hD : DrawSound P T φ draw) (n : Nat) (ih : ∀ m,m < n → CallSim P T φ draw m) : ∀ m,m ≤ n → Sim P T φ draw m:=by
 intro m
 induction m using Nat.strongRecOn with
 | _ m ihm =>
  intro hmn cx k s s' β O nt b a kR cs w hrun hk hR
  cases m with
  | zero=>simp [run] at hrun
  | succ m =>
   have go : ∀ {k1 : List Item} {s1 : St} {kR1 : List Go.Item} {a1 : Act} {w1 : World} {β1 : Beta} {m' : Nat},m' ≤ m → run T m' cx k1 s1 = some s' → TodoOk P φ nt draw k1 kR1 → Left φ O nt cx β s.hp.next w s1 β1 a1 w1 → Steps P (lone (b.at a kR) cs w) (lone (b.at a1 kR1) cs w1) →
     ∃ β' a' w' todo,Steps P (lone (b.at a kR) cs w) (lone { b.at a' todo with mode:=.returning } cs w') ∧ Left φ O nt cx β s.hp.next w s' β' a' w':=by
    intro k1 s1 kR1 a1 w1 β1 m' hm' hr hk1 hL hst
    obtain ⟨β',a',w',todo,h1,h2⟩:=ihm m' (by omega) (by omega) cx k1 s1 s' β1 O nt b a1 kR1 cs w1 hr hk1 hL.rel
    exact ⟨β',a',w',todo,hst.trans h1,hL.from h2⟩
   rw [run] at hrun
   cases k with
   | nil =>
    simp only [next,Option.some.injEq] at hrun
    subst hrun
    cases kR with
    | cons=>simp [TodoOk] at hk
    | nil=>exact ⟨β,a,w,[],.one step_end,Left.start hR⟩
   | cons it k =>
    cases it with
    | ops l kill=>cases kR <;> simp [TodoOk] at hk
    | inBlock i =>
     cases kR with
     | nil=>simp [TodoOk] at hk
     | cons x kR =>
      cases x <;> simp [TodoOk] at hk
      simp only [next] at hrun
      exact go (Nat.le_refl _) hrun hk.2 (Left.start hR) (.one step_inBlock)
    | inLoop keep ko c =>
     cases kR with
     | nil=>simp [TodoOk] at hk
     | cons x kR =>
      cases x <;> simp [TodoOk] at hk
      simp only [next] at hrun
      exact go (Nat.le_refl _) hrun (k1:=.code c :: .inLoop keep ko c :: k) (kR1:=.code _ :: .inLoop _ :: kR) ⟨hk.1,hk.1,hk.2⟩ (s1:=s.keep keep ko) ⟨Rel_keep hR,.refl,.refl,Nat.le_refl _⟩ (.one step_inLoop)
    | code c =>
     cases kR with
     | nil=>simp [TodoOk] at hk
     | cons x kR =>
      cases x <;> simp [TodoOk] at hk
      rename_i C
      obtain ⟨hc,hk⟩:=hk
      cases C <;> cases c <;> simp only [matchC,Bool.and_eq_true,beq_iff_eq] at hc <;> try (simp at hc; done)
      ·
       simp only [next] at hrun
       exact go (Nat.le_refl _) hrun hk (Left.start hR) (.one step_skip)
      ·
       rename_i id ops d e l kill
       obtain ⟨⟨rfl,hmo⟩,hdr⟩:=hc
       simp only [next] at hrun
       split at hrun
       ·rename_i hcmd; split at hcmd <;> simp at hcmd
       ·simp at hrun
       ·rename_i k1 s1 hcmd
        split at hcmd
        ·simp at hcmd
        ·rename_i hhead
         injection hcmd with h1 h2
         subst h1 h2
         obtain ⟨tr,h0,hst,m',hm',hr'⟩:=trace hrun
         have hwp : (Code.region id ops d).wp P (RegPost φ O nt cx β (tr 0).hp.next w (tr l.length)) a w:=by
          cases d with
          | false=>exact region_text hT (fun j hj=>ih j (by omega)) hmo hst (by rw [h0]; exact hR)
          | true =>
           refine hD m id ops l β O nt cx tr a w (fun j hj=>ih j (by omega)) (by simpa using hdr) hmo hst (by rw [h0]; exact hR) (by rw [h0]; simpa using hhead)
         obtain ⟨en,a1,w1,hq,harr⟩:=hwp b kR cs
         cases en with
         | normal =>
          obtain ⟨β1,hL⟩:=hq
          rw [h0] at hL
          exact go (by omega) hr' hk (s1:=(tr l.length).kill kill) ⟨Rel_kill hL.rel,hL.same,hL.ext,hL.next⟩ harr
         | _=>exact hq.elim
       ·rename_i hcmd; split at hcmd <;> simp at hcmd
      ·
       rename_i id ops d e lf l kill
       obtain ⟨⟨rfl,hmo⟩,hdr⟩:=hc
       simp only [next] at hrun
       cases hlf : s.lifts cx lf with
       | none=>simp [hlf] at hrun
       | some sL =>
       simp only [hlf] at hrun
       obtain ⟨βL,hRL,hEL,hNL⟩:=Rel_lifts hR hlf
       split at hrun
       ·rename_i hcmd; split at hcmd <;> simp at hcmd
       ·simp at hrun
       ·rename_i k1 s1 hcmd
        split at hcmd
        ·simp at hcmd
        ·rename_i hhead
         injection hcmd with h1 h2
         subst h1 h2
         obtain ⟨tr,h0,hst,m',hm',hr'⟩:=trace hrun
         have hwp : (Code.region id ops d).wp P (RegPost φ O nt cx βL (tr 0).hp.next w (tr l.length)) a w:=by
          cases d with
          | false=>exact region_text hT (fun j hj=>ih j (by omega)) hmo hst (by rw [h0]; exact hRL)
          | true =>
           refine hD m id ops l βL O nt cx tr a w (fun j hj=>ih j (by omega)) (by simpa using hdr) hmo hst (by rw [h0]; exact hRL) (by rw [h0]; simpa using hhead)
         obtain ⟨en,a1,w1,hq,harr⟩:=hwp b kR cs
         cases en with
         | normal =>
          obtain ⟨β1,hL⟩:=hq
          rw [h0] at hL
          exact go (by omega) hr' hk (s1:=(tr l.length).kill kill) ⟨Rel_kill hL.rel,hL.same,hEL.trans hL.ext hNL,Nat.le_trans hNL hL.next⟩ harr
         | _=>exact hq.elim
       ·rename_i hcmd; split at hcmd <;> simp at hcmd
      ·
       rename_i A B c d
       simp only [next] at hrun
       exact go (Nat.le_refl _) hrun (k1:=.code c :: .code d :: k) (kR1:=.code A :: .code B :: kR) ⟨hc.1,hc.2,hk⟩ (Left.start hR) (.one step_seq)
      ·
       rename_i x A B y c d
       obtain ⟨⟨hxy,hA⟩,hB⟩:=hc
       have hv:=opds_of_slots hR.slots x y hxy
       simp only [next] at hrun
       cases hy : s.opd y <;> simp only [hy] at hrun <;> try (simp at hrun; done)
       rename_i t
       rw [hy] at hv
       refine go (Nat.le_refl _) hrun (k1:=.code (if t then c else d) :: k) (kR1:=.code (if t then A else B) :: kR) ⟨?_,hk⟩ (Left.start hR) (.one (step_cond (LR_bool hv)))
       cases t
       ·exact hB
       ·exact hA
      ·
       rename_i i A j c
       obtain ⟨rfl,hA⟩:=hc
       simp only [next] at hrun
       exact go (Nat.le_refl _) hrun (k1:=.code c :: .inBlock i :: k) (kR1:=.code A :: .inBlock i :: kR) ⟨hA,rfl,hk⟩ (Left.start hR) (.one step_block)
      ·
       rename_i A keep ko c
       simp only [next] at hrun
       exact go (Nat.le_refl _) hrun (k1:=.code c :: .inLoop keep ko c :: k) (kR1:=.code A :: .inLoop A :: kR) ⟨hc,hc,hk⟩ (s1:=s.keep keep ko) ⟨Rel_keep hR,.refl,.refl,Nat.le_refl _⟩ (.one step_loop)
      ·
       rename_i i j
       subst hc
       simp only [next] at hrun
       cases he : exitTo i k with
       | none=>simp [he] at hrun
       | some k' =>
        simp only [he] at hrun
        obtain ⟨kR',h1,h2⟩:=exitTo_ok hk he
        exact go (Nat.le_refl _) hrun h2 (Left.start hR) (.one (step_exit h1))
      ·
       simp only [next,Option.some.injEq] at hrun
       subst hrun
       exact ⟨β,a,w,_,.one step_ret,Left.start hR⟩
theorem SR_enter {β : Beta} : ∀ {args : List AV} {rargs : List Value} {n : Nat} {tmps : Array Value},All2 (VR φ β) args rargs → (∀ i x,rargs[i]? = some x → tmps.getD (n + i) undef = x) → ∀ t,VR φ β (Slots.get (enterSlots n args) t) (tmps.getD t undef)
 | [],_,n,tmps,_,_=>fun t=>by simp only [enterSlots,Slots.get]; exact VR_bot
 | v :: args,[],n,tmps,h,_=>by have:=h.1; simp at this
 | v :: args,x :: rargs,n,tmps,h,ht=>fun t=>by
  simp only [enterSlots,Slots.get]
  split
  ·rename_i e
   subst e
   have:=ht 0 x rfl
   simp only [Nat.add_zero] at this
   rw [this]
   exact h.head
  ·exact SR_enter h.tail (fun i y hy=>by
    have:=ht (i + 1) y (by simpa using hy)
    rw [← this]; congr 1; omega) t
theorem callSim (hT : TblOk P T φ draw) (hD : DrawSound P T φ draw) : ∀ n,CallSim P T φ draw n:=by
 intro n
 induction n using Nat.strongRecOn with
 | _ n ih =>
  intro cx fn F args h s2 v β O rargs w hmf hrun hv hlen ha hm hdom htop hfresh
  obtain ⟨f,c,hf,hb,hmc,hmr,hnt,_⟩:=fn_facts hmf
  have hS:=sim hT hD n ih n (Nat.le_refl _)
  have hrl : rargs.length = fn.params + fn.nfree:=by rw [← ha.1,hlen]
  let a0 : Act:={ tmps:=rargs.toArray ++ Array.replicate (f.ntmps - rargs.toArray.size) undef,defers:=[] }
  have hR : Rel φ β O f.ntmps cx (St.enter args h) a0 w:=by
   refine ⟨SR_enter ha fun i x hx=>?_,?_,fun i pl hb=>?_,htop,hfresh,rfl,?_⟩
   ·have hi : i < rargs.length:=by
     rcases Nat.lt_or_ge i rargs.length with h | h
     ·exact h
     ·rw [List.getElem?_eq_none h] at hx; simp at hx
    simp only [Nat.zero_add,Array.getD_eq_getD_getElem?,a0]
    rw [Array.getElem?_append_left (by simpa using hi)]
    simp [hx]
   ·refine HR_mono hm fun i b hb=>?_
    cases i with
    | stk l t =>
     by_cases hl : l = cx.lvl
     ·simp [St.look,St.enter,Id.own,hl,Own.get] at hb
     ·simpa [St.look,St.enter,Id.own,hl] using hb
    | obj k=>simpa [St.look,St.enter,Id.own] using hb
    | arg k=>simpa [St.look,St.enter,Id.own] using hb
   ·have:=hdom i pl hb
    cases i <;> simp_all [Id.under,St.enter]
    omega
   ·simp [a0]; omega
  intro cs
  let b : Frame:={ (default : Frame) with fn:=F,kind:=.normal }
  obtain ⟨β',a',w',todo,hst,hL⟩:=hS cx [.code fn.body] (St.enter args h) s2 β O f.ntmps b a0 [.code c] cs w hrun ⟨hmc,trivial⟩ hR
  obtain ⟨x,hx,hvx,hok⟩:=results_sound hL.rel hmr hv
  have henter : Frame.enter P F rargs.toArray .normal = b.at a0 [.code c]:=by
   simp [Frame.enter,Frame.at,hf,hb,b,a0]
  refine ⟨.returned x,w',{ b.at a' todo with mode:=.returning },⟨x,β',rfl,hvx,hok,⟨hL.rel.mem,hL.same,hL.ext,hL.next,hL.rel.dom,hL.rel.top⟩⟩,?_,rfl,?_⟩
  ·rw [henter]; exact hst
  ·exact ⟨rfl,hL.rel.defers,rfl,f,hf,hx⟩
end
def MK.ops : MK → List Opd
 | .mov x=>[x]
 | .pick c a b=>[c,a,b]
 | .bin _ x y=>[x,y]
 | .eq _ _ x y=>[x,y]
 | .un _ x=>[x]
 | .alloc ..=>[]
 | .box _ _ x=>[x]
 | .build _ ps=>ps.map (·.2)
 | .bslice _ _ _ ps=>ps.map (·.2)
 | .load _ rt _ x=>x :: (rt.toList.filter fun u=>!(u == 1000000 || u == 1000001)).map .s
 | .store _ ap x v=>x :: v :: ap.map .s
 | .nilck x=>[x]
 | .fld _ _ _ x=>[x]
 | .idx _ _ x i=>[x,i]
 | .sidx _ _ x i=>[x,i]
 | .aidx _ _ x i=>[x,i]
 | .stridx x i=>[x,i]
 | .field _ x _=>[x]
 | .ext x _=>[x]
 | .conv _ x=>[x]
 | .len _ x=>[x]
 | .min x y=>[x,y]
 | .max x y=>[x,y]
 | .append _ ap _ x y=>x :: y :: (ap.filter fun u=>!(u == 1000002 || u == 1000003)).map .s
 | .slice rt _ x lo hi mx=>x :: ((rt.toList.filter fun u=>!(u == 1000000 || u == 1000001)).map .s ++ (lo.toList ++ (hi.toList ++ mx.toList)))
 | .clear _ x=>[x]
 | .eqp _ x y=>[x,y]
 | .call _ _ _ args=>args
 | .callv _ _ x args=>x :: args
 | .mkfn _ caps=>caps
def MK.shape : MK → Bool
 | .sidx ..=>true
 | .slice ..=>true
 | _=>false
def MK.agree (k : MK) (a b : Option Blk) : Prop:=if k.shape then a.map (·.ty) = b.map (·.ty) else a = b
theorem MK.agree_refl {k : MK} {a : Option Blk} : k.agree a a:=by unfold MK.agree; split <;> rfl
section
variable {g g' : Opd → AV} {look look' : Id → Option Blk} {k : MK}
theorem into_ptr {i : Id} {p : List Nat} {t : Ty} : (AV.ptr i p t).into i = true:=by simp [AV.into]
theorem into_sl {i : Id} {o n : Nat} : (AV.sl i o n).into i = true:=by simp [AV.into]
theorem parts_congr {ps : List (Nat × Opd)} (hg : ∀ x ∈ ps.map (·.2),g x = g' x) : (ps.map fun p=>(p.1,g p.2)) = ps.map fun p=>(p.1,g' p.2) :=
 List.map_congr_left fun p hp=>by rw [hg p.2 (List.mem_map.2 ⟨p,hp,rfl⟩)]
theorem elems_congr {t : Ty} {v : AV} (hl : ∀ i,v.into i = true → look i = look' i) : elems look t v = elems look' t v:=by
 cases v <;> try rfl
 rename_i j off len
 simp only [elems,hl j into_sl]
theorem evAppend_congr {t : Ty} {v : AV} {add : List AV} (hl : ∀ i,v.into i = true → look i = look' i) : evAppend look t v add = evAppend look' t v add:=by
 cases v <;> try rfl
 rename_i j off len
 simp only [evAppend,hl j into_sl]
theorem evSlice_congr {t : Ty} {j : Id} {off : Nat} {a b : Int} {c : Option (Option Int)} (h : (look j).map (·.ty) = (look' j).map (·.ty)) : evSlice look t j off a b c = evSlice look' t j off a b c:=by
 unfold evSlice
 cases h1 : look j with
 | none=>rw [h1] at h; cases h2 : look' j with
  | none=>rfl
  | some b=>rw [h2] at h; simp at h
 | some a=>rw [h1] at h; cases h2 : look' j with
  | none=>rw [h2] at h; simp at h
  | some b=>rw [h2] at h; obtain ⟨t1,v1⟩:=a; obtain ⟨t2,v2⟩:=b; simp at h; subst h; cases t1 <;> rfl
theorem evClear_congr {t : Ty} {v : AV} (hl : ∀ i,v.into i = true → look i = look' i) : evClear look t v = evClear look' t v:=by
 cases v <;> try rfl
 rename_i j off len
 simp only [evClear,hl j into_sl]
theorem eqPtr_congr {v w : AV} (h1 : ∀ i,v.into i = true → look i = look' i) (h2 : ∀ i,w.into i = true → look i = look' i) : eqPtr look v w = eqPtr look' v w:=by
 cases v <;> cases w <;> try rfl
 rename_i i p t j q u
 cases p <;> cases q <;> simp only [eqPtr]
 rw [h1 i into_ptr,h2 j into_ptr]
theorem apOk_congr {v y : AV} {e : Eff} {u : Nat} (h : ¬u = 1000002 → ¬u = 1000003 → g (.s u) = g' (.s u)) : apOk g v y e u = apOk g' v y e u:=by
 unfold apOk
 by_cases h1 : u = 1000002
 ·rw [if_pos h1,if_pos h1]
 ·rw [if_neg h1,if_neg h1]
  by_cases h2 : u = 1000003
  ·rw [if_pos h2,if_pos h2]
  ·rw [if_neg h2,if_neg h2,h h1 h2]
theorem append_inv {esc : Bool} {ap : List Nat} {t : Ty} {x y : Opd} {e : Eff} (h : evK g look (.append esc ap t x y) = some e) : ∃ add,elems look t (g y) = some add ∧ evAppend look t (g x) add = some e ∧ ∀ u ∈ ap,apOk g (g x) (g y) e u = true:=by
 simp only [evK] at h
 split at h <;> try (simp at h; done)
 rename_i add hadd
 split at h <;> try (simp at h; done)
 rename_i e0 he0
 split at h <;> try (simp at h; done)
 rename_i hap
 simp only [Option.some.injEq] at h
 subst h
 exact ⟨add,hadd,he0,List.all_eq_true.1 hap⟩
theorem slice_inv {rt : Option Nat} {t : Ty} {x : Opd} {lo hi mx : Option Opd} {e : Eff} (h : evK g look (.slice rt t x lo hi mx) = some e) :
  (∃ j off len a b,g x = .sl j off len ∧ ixOr g lo 0 = some a ∧ ixOr g hi len = some b ∧ rooted g j rt = true ∧ evSlice look t j off a b (mx.map fun o=>toIx (g o)) = some e) ∨
  ((g x = .nilsl ∨ g x = .slz) ∧ ixOr g lo 0 = some 0 ∧ ixOr g hi 0 = some 0 ∧ mx = none ∧ e = .val (g x) ∧ rootNil g rt = true):=by
 simp only [evK] at h
 split at h <;> try (simp at h; done)
 ·rename_i j off len hx
  split at h <;> try (simp at h; done)
  rename_i a b ha hb
  split at h <;> try (simp at h; done)
  rename_i hr
  exact .inl ⟨j,off,len,a,b,hx,ha,hb,hr,h⟩
 ·rename_i hx
  split at h <;> try (simp at h; done)
  rename_i ha hb
  split at h <;> try (simp at h; done)
  rename_i hr
  simp only [Option.some.injEq] at h
  exact .inr ⟨.inl hx,ha,hb,rfl,by rw [hx]; exact h.symm,hr⟩
 ·rename_i hx
  split at h <;> try (simp at h; done)
  rename_i ha hb
  split at h <;> try (simp at h; done)
  rename_i hr
  simp only [Option.some.injEq] at h
  exact .inr ⟨.inr hx,ha,hb,rfl,by rw [hx]; exact h.symm,hr⟩
theorem evSlice_val {t : Ty} {j : Id} {off : Nat} {a b : Int} {c : Option (Option Int)} {e : Eff} (h : evSlice look t j off a b c = some e) : e = .val .slz ∨ e = .val .bot ∨ ∃ o n,e = .val (.sl j o n):=by
 unfold evSlice at h
 split at h <;> try (simp at h; done)
 split at h <;> try (simp at h; done)
 split at h <;> try (simp at h; done)
 ·split at h
  ·simp at h; exact .inr (.inr ⟨_,_,h.symm⟩)
  ·simp at h; exact .inl h.symm
 ·split at h
  ·simp at h; exact .inr (.inl h.symm)
  ·simp at h
theorem evClear_wr {t : Ty} {v : AV} {e : Eff} (h : evClear look t v = some e) : e = .val .bot ∨ ∃ i b,v.into i = true ∧ e = .wr i b .bot:=by
 unfold evClear at h
 split at h <;> try (simp at h; done)
 ·simp at h; exact .inl h.symm
 ·simp at h; exact .inl h.symm
 ·rename_i j off len
  split at h <;> try (simp at h; done)
  split at h <;> try (simp at h; done)
  split at h <;> try (simp at h; done)
  split at h <;> try (simp at h; done)
  simp only [Option.some.injEq] at h
  exact .inr ⟨j,_,into_sl,h.symm⟩
theorem evK_congr (hg : ∀ x ∈ k.ops,g x = g' x) (hl : ∀ x ∈ k.ops,∀ i,(g x).into i = true → k.agree (look i) (look' i)) : evK g look k = evK g' look' k:=by
 cases k <;> simp only [MK.ops] at hg hl <;> simp only [evK]
 case build t ps=>rw [parts_congr hg]
 case bslice e t n ps=>rw [parts_congr hg]
 case mkfn f caps =>
  have h1 : (caps.all fun y=>(g y).isLeaf) = caps.all fun y=>(g' y).isLeaf:=by
   rw [Bool.eq_iff_iff]
   simp only [List.all_eq_true]
   exact ⟨fun h x hx=>by rw [← hg x hx]; exact h x hx,fun h x hx=>by rw [hg x hx]; exact h x hx⟩
  have h2 : ∀ l : List Opd,(∀ x ∈ l,g x = g' x) → l.foldr (fun x acc=>AV.cons (g x) acc) .unit = l.foldr (fun x acc=>AV.cons (g' x) acc) .unit:=by
   intro l
   induction l with
   | nil=>intro _; rfl
   | cons x l ih =>
    intro h
    simp only [List.foldr]
    rw [ih fun y hy=>h y (List.mem_cons_of_mem _ hy),h x (List.mem_cons_self ..)]
  rw [h1,h2 caps hg]
 case load ro rt t x =>
  have h1 : rooted g = rooted g' ∨ True:=.inr trivial
  have hr : ∀ i,rooted g i rt = rooted g' i rt:=by
   intro i
   cases rt with
   | none=>rfl
   | some u =>
    simp only [rooted]
    by_cases hu : u = 1000000
    ·rw [if_pos hu,if_pos hu]
    ·rw [if_neg hu,if_neg hu]
     by_cases hu' : u = 1000001
     ·rw [if_pos hu',if_pos hu']
     ·rw [if_neg hu',if_neg hu',hg (.s u) (by simp [hu,hu'])]
  have hx:=hg x (by simp)
  have hlx:=hl x (by simp)
  rw [← hx]
  cases hv : g x <;> simp only
  rename_i i p t'
  have:=hlx i (by rw [hv]; exact into_ptr)
  simp only [MK.agree,MK.shape,Bool.false_eq_true,if_false] at this
  rw [hr,this]
 case store t ap x v =>
  have hx:=hg x (by simp)
  have hv:=hg v (by simp)
  have hlx:=hl x (by simp)
  have ha : ∀ i,(ap.all fun u=>apartU g i u) = ap.all fun u=>apartU g' i u:=by
   intro i
   rw [Bool.eq_iff_iff]
   simp only [List.all_eq_true]
   have h1 : ∀ u ∈ ap,apartU g i u = apartU g' i u:=fun u hu=>by unfold apartU; rw [hg (.s u) (by simp [hu])]
   exact ⟨fun h x hx=>by rw [← h1 x hx]; exact h x hx,fun h x hx=>by rw [h1 x hx]; exact h x hx⟩
  rw [← hx,← hv]
  cases hgx : g x <;> simp only
  rename_i i p t'
  have:=hlx i (by rw [hgx]; exact into_ptr)
  simp only [MK.agree,MK.shape,Bool.false_eq_true,if_false] at this
  rw [ha,this]
 case sidx ro t x i =>
  have hx:=hg x (by simp)
  have hi:=hg i (by simp)
  have hlx:=hl x (by simp)
  rw [← hx,← hi]
  cases hgx : g x <;> try rfl
  rename_i j off len
  cases hgi : toIx (g i) <;> try rfl
  rename_i z
  simp only
  have:=hlx j (by rw [hgx]; exact into_sl)
  simp only [MK.agree,MK.shape,if_true] at this
  split
  ·cases h1 : look j with
   | none=>rw [h1] at this; cases h2 : look' j with
    | none=>rfl
    | some b=>rw [h2] at this; simp at this
   | some a=>rw [h1] at this; cases h2 : look' j with
    | none=>rw [h2] at this; simp at this
    | some b=>rw [h2] at this; obtain ⟨t1,v1⟩:=a; obtain ⟨t2,v2⟩:=b; simp at this; subst this; cases t1 <;> rfl
  ·rfl
 case slice rt t x lo hi mx =>
  have hx:=hg x (by simp)
  have hlx:=hl x (by simp)
  have hlo : ixOr g lo 0 = ixOr g' lo 0:=by
   cases lo with
   | none=>rfl
   | some o=>simp only [ixOr]; rw [hg o (by simp)]
  have hhi : ∀ d,ixOr g hi d = ixOr g' hi d:=by
   intro d
   cases hi with
   | none=>rfl
   | some o=>simp only [ixOr]; rw [hg o (by simp)]
  have hmx : (mx.map fun o=>toIx (g o)) = mx.map fun o=>toIx (g' o):=by
   cases mx with
   | none=>rfl
   | some o=>simp only [Option.map_some]; rw [hg o (by simp)]
  have hr : ∀ i,rooted g i rt = rooted g' i rt:=by
   intro i
   cases rt with
   | none=>rfl
   | some u =>
    simp only [rooted]
    by_cases hu : u = 1000000
    ·rw [if_pos hu,if_pos hu]
    ·rw [if_neg hu,if_neg hu]
     by_cases hu' : u = 1000001
     ·rw [if_pos hu',if_pos hu']
     ·rw [if_neg hu',if_neg hu',hg (.s u) (by simp [hu,hu'])]
  have hn : rootNil g rt = rootNil g' rt:=by
   cases rt with
   | none=>rfl
   | some u =>
    simp only [rootNil]
    by_cases hu : u = 1000000
    ·simp [hu]
    ·by_cases hu' : u = 1000001
     ·simp [hu']
     ·rw [hg (.s u) (by simp [hu,hu'])]
  rw [← hx,← hlo,← hmx,← hn]
  cases hgx : g x <;> try rfl
  ·simp only [← hhi]
  ·simp only [← hhi]
  ·rename_i j off len
   have hty:=hlx j (by rw [hgx]; exact into_sl)
   simp only [MK.agree,MK.shape,if_true] at hty
   simp only [← hhi,← hr]
   simp only [evSlice_congr hty]
 case append e ap t x y =>
  have hx:=hg x (by simp)
  have hy:=hg y (by simp)
  simp only [MK.agree,MK.shape,Bool.false_eq_true,if_false] at hl
  have hap : ∀ e,ap.all (apOk g (g x) (g y) e) = ap.all (apOk g' (g x) (g y) e):=by
   intro e
   rw [Bool.eq_iff_iff]
   simp only [List.all_eq_true]
   have h1 : ∀ u ∈ ap,apOk g (g x) (g y) e u = apOk g' (g x) (g y) e u:=fun u hu=>apOk_congr fun n1 n2=>hg (.s u) (by simp [hu,n1,n2])
   exact ⟨fun h x hx=>by rw [← h1 x hx]; exact h x hx,fun h x hx=>by rw [h1 x hx]; exact h x hx⟩
  rw [← hx,← hy,elems_congr (look':=look') (fun i hi=>hl y (by simp) i hi)]
  split
  ·rw [evAppend_congr (look':=look') (fun i hi=>hl x (by simp) i hi)]
   split
   ·rw [hap]
   ·rfl
  ·rfl
 case clear t x =>
  have hx:=hg x (by simp)
  simp only [MK.agree,MK.shape,Bool.false_eq_true,if_false] at hl
  rw [← hx,evClear_congr fun i hi=>hl x (by simp) i hi]
 case eqp neg x y =>
  have hx:=hg x (by simp)
  have hy:=hg y (by simp)
  simp only [MK.agree,MK.shape,Bool.false_eq_true,if_false] at hl
  rw [← hx,← hy,eqPtr_congr (fun i hi=>hl x (by simp) i hi) (fun i hi=>hl y (by simp) i hi)]
 all_goals (first | rfl | (simp only [List.mem_cons,List.mem_singleton,List.not_mem_nil,or_false,forall_eq_or_imp,forall_eq] at hg; simp only [hg]; done) | skip)
theorem safe_leads {v : AV} (h : v.safe = true) {l u : Nat} : v.leads (.stk l u) = false:=by
 cases v <;> simp [AV.leads,AV.isAgg,AV.names,AV.safe] at h ⊢ <;> (rename_i i _ _; cases i <;> simp_all [AV.safe])
theorem evBin_leads {op : BinOp} {x y v : AV} {i : Id} (h : evBin op x y = some v) : v.leads i = false:=by
 unfold evBin at h
 split at h
 ·split at h
  ·unfold evInt at h
   split at h <;> (try split at h) <;> simp at h <;> subst h <;> rfl
  ·simp at h
 ·unfold evStr at h
  split at h <;> (try split at h) <;> simp at h <;> subst h <;> rfl
 ·simp at h
theorem evUn_leads {op : UnOp} {x v : AV} {i : Id} (h : evUn op x = some v) : v.leads i = false:=by
 unfold evUn at h
 split at h <;> simp at h <;> subst h <;> rfl
theorem agg_leads {v : AV} {i : Id} (h : v.isAgg = true) : v.leads i = false:=by simp [AV.leads,h]
theorem put_agg {v x w : AV} {j : Nat} (h : v.put [j] x = some w) : w.isAgg = true:=by
 cases v with
 | cons a b =>
  cases j <;> simp only [AV.put,Option.map_eq_some_iff] at h
  ·obtain ⟨y,_,rfl⟩:=h; rfl
  ·obtain ⟨y,_,rfl⟩:=h; rfl
 | arr n f =>
  simp only [AV.put] at h
  split at h
  ·simp only [Option.map_eq_some_iff] at h
   obtain ⟨y,_,rfl⟩:=h; rfl
  ·simp at h
 | _=>simp [AV.put] at h
theorem fill_leads {t : Ty} {i : Id} : ∀ {l : List (Nat × AV)} {v w : AV},fill t v l = some w → v.leads i = false → w.leads i = false
 | [],v,w,h,hv=>by simp [fill] at h; subst h; exact hv
 | (j,x) :: l,v,w,h,hv=>by
  simp only [fill] at h
  split at h
  ·split at h
   ·split at h
    ·rename_i hp; exact fill_leads h (agg_leads (put_agg hp))
    ·simp at h
   ·simp at h
  ·simp at h
theorem zero_leads {t : Ty} {i : Id} : t.zero.leads i = false:=by
 cases t with
 | leaf k=>cases k <;> rfl
 | _=>rfl
theorem safe_field : ∀ {v : AV} {i : Nat} {u : AV},v.safe = true → v.field i = some u → u.safe = true:=by
 intro v
 induction v with
 | cons a b iha ihb =>
  intro i u h hf
  simp only [AV.safe,Bool.and_eq_true] at h
  cases i with
  | zero=>simp [AV.field] at hf; subst hf; exact h.1
  | succ i=>exact ihb h.2 hf
 | _=>intro i u h hf; simp [AV.field] at hf
theorem caps_leads {g : Opd → AV} {i : Id} : ∀ {l : List Opd},(∀ y ∈ l,(g y).isLeaf = true) → (∀ y ∈ l,(g y).leads i = false) → (l.foldr (fun x acc=>AV.cons (g x) acc) .unit).names i = false
 | [],_,_=>rfl
 | y :: l,h1,h2=>by
  have hl:=h1 y (List.mem_cons_self ..)
  have hn:=h2 y (List.mem_cons_self ..)
  have ha : (g y).isAgg = false:=by cases hg : g y <;> simp [hg,AV.isLeaf] at hl <;> rfl
  simp only [AV.leads,ha,Bool.not_false,Bool.true_and] at hn
  simp only [List.foldr,AV.names,hn,Bool.false_or]
  exact caps_leads (fun z hz=>h1 z (List.mem_cons_of_mem _ hz)) fun z hz=>h2 z (List.mem_cons_of_mem _ hz)
theorem val_inj {v : AV} {e : Eff} (he : e = .val v ∨ ∃ i b,e = .wr i b v) {u : AV} (h : Eff.val u = e) : u = v:=by
 rcases he with rfl | ⟨i,b,rfl⟩
 ·injection h
 ·simp at h
theorem evK_leads {e : Eff} {v : AV} {l u : Nat} (h : evK g look k = some e) (he : e = .val v ∨ ∃ i b,e = .wr i b v) (hn : ∀ x ∈ k.ops,(g x).leads (.stk l u) = false) : v.leads (.stk l u) = false:=by
 cases k <;> simp only [MK.ops] at hn <;> simp only [evK] at h
 case mov x =>
  injection h with h; rw [← val_inj he h]; exact hn x (by simp)
 case pick c a b =>
  split at h <;> try (simp at h; done)
  ·injection h with h; rw [← val_inj he h]; exact hn a (by simp)
  ·injection h with h; rw [← val_inj he h]; exact hn b (by simp)
 case bin op x y =>
  simp only [Option.map_eq_some_iff] at h
  obtain ⟨w,hw,h⟩:=h
  rw [← val_inj he h]; exact evBin_leads hw
 case eq neg t x y =>
  split at h
  ·simp only [Option.map_eq_some_iff] at h
   obtain ⟨w,hw,h⟩:=h
   rw [← val_inj he h]; rfl
  ·simp at h
 case un op x =>
  simp only [Option.map_eq_some_iff] at h
  obtain ⟨w,hw,h⟩:=h
  rw [← val_inj he h]; exact evUn_leads hw
 case alloc e t=>injection h with h; subst h; rcases he with he | ⟨_,_,he⟩ <;> simp at he
 case box e t x =>
  split at h
  ·injection h with h; subst h; rcases he with he | ⟨_,_,he⟩ <;> simp at he
  ·simp at h
 case build t ps =>
  simp only [Option.map_eq_some_iff] at h
  obtain ⟨w,hw,h⟩:=h
  rw [← val_inj he h]; exact fill_leads hw zero_leads
 case bslice e t n ps =>
  simp only [Option.map_eq_some_iff] at h
  obtain ⟨w,hw,h⟩:=h
  subst h; rcases he with he | ⟨_,_,he⟩ <;> simp at he
 case load ro rt t x =>
  split at h <;> try (simp at h; done)
  split at h <;> try (simp at h; done)
  split at h <;> try (simp at h; done)
  split at h <;> try (simp at h; done)
  rename_i hf
  injection h with h; rw [← val_inj he h]; exact safe_leads (Ty.fits_safe hf)
 case store t ap x w =>
  split at h <;> try (simp at h; done)
  split at h <;> try (simp at h; done)
  split at h <;> try (simp at h; done)
  split at h <;> try (simp at h; done)
  injection h with h
  subst h
  rcases he with he | ⟨_,_,he⟩
  ·simp at he
  ·simp at he; rw [← he.2.2]; rfl
 case nilck x =>
  split at h <;> try (simp at h; done)
  rename_i hx
  injection h with h; rw [← val_inj he h]
  have:=hn x (by simp); rw [hx] at this; exact this
 case fld st i ft x =>
  split at h <;> try (simp at h; done)
  rename_i hx
  split at h <;> try (simp at h; done)
  injection h with h; rw [← val_inj he h]
  have:=hn x (by simp); rw [hx] at this; exact this
 case idx n t x i =>
  split at h <;> try (simp at h; done)
  rename_i hx _
  split at h <;> try (simp at h; done)
  injection h with h; rw [← val_inj he h]
  have:=hn x (by simp); rw [hx] at this; exact this
 case sidx ro t x i =>
  split at h <;> try (simp at h; done)
  rename_i hx _
  split at h <;> try (simp at h; done)
  split at h <;> try (simp at h; done)
  split at h <;> try (simp at h; done)
  injection h with h; rw [← val_inj he h]
  have:=hn x (by simp); rw [hx] at this; exact this
 case aidx n t x i =>
  split at h <;> try (simp at h; done)
  split at h <;> try (simp at h; done)
  split at h <;> try (simp at h; done)
  rename_i hf
  injection h with h; rw [← val_inj he h]
  have:=Ty.fits_safe hf
  simp only [AV.safe,List.all_eq_true] at this
  exact safe_leads (this _ (List.mem_finRange _))
 case stridx x i =>
  split at h <;> try (simp at h; done)
  split at h <;> try (simp at h; done)
  simp only [Option.map_eq_some_iff] at h
  obtain ⟨w,hw,h⟩:=h
  rw [← val_inj he h]; rfl
 case field t x i =>
  split at h <;> try (simp at h; done)
  rename_i hf
  simp only [Option.map_eq_some_iff] at h
  obtain ⟨w,hw,h⟩:=h
  rw [← val_inj he h]; exact safe_leads (safe_field (Ty.fits_safe hf) hw)
 case ext x i =>
  split at h <;> try (simp at h; done)
  split at h <;> try (simp at h; done)
  split at h <;> try (simp at h; done)
  rename_i hs
  injection h with h; rw [← val_inj he h]; exact safe_leads hs
 case conv k x =>
  split at h <;> try (simp at h; done)
  injection h with h; rw [← val_inj he h]; rfl
 case len str x =>
  split at h <;> try (simp at h; done)
  all_goals (injection h with h; rw [← val_inj he h]; rfl)
 case min x y =>
  split at h <;> try (simp at h; done)
  split at h <;> try (simp at h; done)
  injection h with h; rw [← val_inj he h]; rfl
 case max x y =>
  split at h <;> try (simp at h; done)
  split at h <;> try (simp at h; done)
  injection h with h; rw [← val_inj he h]; rfl
 case append e ap t x y =>
  obtain ⟨add,_,h,_⟩:=append_inv (e:=_) (esc:=e) h
  unfold evAppend at h
  split at h <;> try (simp at h; done)
  ·split at h
   ·injection h with h; rw [← val_inj he h]; rfl
   ·split at h
    ·injection h with h; subst h; rcases he with he | ⟨_,_,he⟩ <;> simp at he
    ·simp at h
  ·rename_i j off len hx
   have hx:=hn x (by simp)
   split at h <;> try (simp at h; done)
   split at h <;> try (simp at h; done)
   split at h <;> try (simp at h; done)
   split at h
   ·split at h <;> try (simp at h; done)
    injection h with h
    subst h
    rcases he with he | ⟨_,_,he⟩
    ·simp at he
    ·simp at he; rw [← he.2.2]; simp_all [AV.leads,AV.names,AV.isAgg]
   ·split at h <;> try (simp at h; done)
    split at h <;> try (simp at h; done)
    injection h with h; subst h; rcases he with he | ⟨_,_,he⟩ <;> simp at he
 case slice rt t x lo hi mx =>
  rcases slice_inv h with ⟨j,off,len,a,b,hx,_,_,_,h⟩ | ⟨hx,_,_,_,h,_⟩
  ·rcases evSlice_val h with rfl | rfl | ⟨o,n,rfl⟩
   ·rw [← val_inj he rfl]; rfl
   ·rw [← val_inj he rfl]; rfl
   ·rw [← val_inj he rfl]
    have:=hn x (by simp); rw [hx] at this; exact this
  ·rw [← val_inj he h.symm]; exact hn x (by simp)
 case clear t x =>
  rcases evClear_wr h with rfl | ⟨i,b,_,rfl⟩
  ·rw [← val_inj he rfl]; rfl
  ·rcases he with he | ⟨_,_,he⟩
   ·simp at he
   ·simp at he; rw [← he.2.2]; rfl
 case eqp neg x y =>
  simp only [Option.map_eq_some_iff] at h
  obtain ⟨w,hw,h⟩:=h
  rw [← val_inj he h]; rfl
 case mkfn f caps =>
  split at h <;> try (simp at h; done)
  rename_i hc
  simp only [List.all_eq_true] at hc
  injection h with h; rw [← val_inj he h]
  simp only [AV.leads,AV.isAgg,Bool.not_false,Bool.true_and,AV.names]
  exact caps_leads hc hn
 all_goals simp at h
def Eff.at : Eff → Option Id
 | .wr i _ _=>some i
 | .grow j _ _=>some j
 | _=>none
theorem evAppend_at {t : Ty} {v : AV} {add : List AV} {e : Eff} {i : Id} (h : evAppend look t v add = some e) (he : e.at = some i) : v.into i = true:=by
 unfold evAppend at h
 split at h <;> try (simp at h; done)
 ·split at h
  ·injection h with h; subst h; simp [Eff.at] at he
  ·split at h <;> try (simp at h; done)
   injection h with h; subst h; simp [Eff.at] at he
 ·split at h <;> try (simp at h; done)
  split at h <;> try (simp at h; done)
  split at h <;> try (simp at h; done)
  split at h
  ·split at h <;> try (simp at h; done)
   injection h with h; subst h; simp [Eff.at] at he; subst he; exact into_sl
  ·split at h <;> try (simp at h; done)
   split at h <;> try (simp at h; done)
   injection h with h; subst h; simp [Eff.at] at he; subst he; exact into_sl
def MK.quiet : MK → Bool
 | .alloc ..=>false
 | .box ..=>false
 | .bslice ..=>false
 | .store ..=>false
 | .append ..=>false
 | .clear ..=>false
 | .call ..=>false
 | .callv ..=>false
 | _=>true
theorem evK_quiet {e : Eff} (h : evK g look k = some e) (hq : k.quiet = true) : ∃ v,e = .val v:=by
 cases k <;> simp only [MK.quiet,Bool.false_eq_true] at hq
 case slice rt t x lo hi mx =>
  rcases slice_inv h with ⟨j,off,len,a,b,hx,_,_,_,h⟩ | ⟨hx,_,_,_,h,_⟩
  ·rcases evSlice_val h with rfl | rfl | ⟨o,n,rfl⟩ <;> exact ⟨_,rfl⟩
  ·exact ⟨_,h⟩
 all_goals simp only [evK] at h
 all_goals (repeat' (split at h))
 all_goals (try simp only [Option.map_eq_some_iff] at h)
 all_goals (first | (simp at h; done) | (obtain ⟨_,_,h⟩:=h; exact ⟨_,h.symm⟩) | (injection h with h; exact ⟨_,h.symm⟩))
theorem evK_at {e : Eff} {i : Id} (h : evK g look k = some e) (he : e.at = some i) : ∃ x ∈ k.ops,(g x).into i = true:=by
 by_cases hq : k.quiet = true
 ·obtain ⟨v,rfl⟩:=evK_quiet h hq; simp [Eff.at] at he
 ·cases k <;> simp only [MK.quiet,not_true_eq_false] at hq <;> simp only [evK] at h
  case alloc e t=>injection h with h; subst h; simp [Eff.at] at he
  case box e t x =>
   split at h <;> try (simp at h; done)
   injection h with h; subst h; simp [Eff.at] at he
  case bslice e t n ps =>
   simp only [Option.map_eq_some_iff] at h
   obtain ⟨w,hw,h⟩:=h
   subst h; simp [Eff.at] at he
  case store t ap x w =>
   split at h <;> try (simp at h; done)
   rename_i hx
   split at h <;> try (simp at h; done)
   split at h <;> try (simp at h; done)
   split at h <;> try (simp at h; done)
   injection h with h
   subst h
   simp [Eff.at] at he
   subst he
   exact ⟨x,by simp [MK.ops],by rw [hx]; exact into_ptr⟩
  case append e ap t x y =>
   obtain ⟨add,_,h,_⟩:=append_inv (esc:=e) h
   exact ⟨x,by simp [MK.ops],evAppend_at h he⟩
  case clear t x =>
   rcases evClear_wr h with rfl | ⟨j,b,hj,rfl⟩
   ·simp [Eff.at] at he
   ·simp [Eff.at] at he; subst he
    exact ⟨x,by simp [MK.ops],hj⟩
  all_goals simp at h
end
theorem Slots.set_comm {t u : Nat} {v w : AV} (h : t ≠ u) : ∀ {l : Slots},Slots.set (Slots.set l t v) u w = Slots.set (Slots.set l u w) t v
 | []=>by
  simp only [Slots.set]
  by_cases h1 : t < u
  ·simp [Slots.set,h,Ne.symm h,h1,show ¬ u < t by omega]
  ·have : u < t:=by omega
   simp [Slots.set,h,Ne.symm h,h1,this]
 | (a,x) :: l=>by
  have ih:=Slots.set_comm h (l:=l) (v:=v) (w:=w)
  rcases Nat.lt_trichotomy a t with h1 | h1 | h1 <;> rcases Nat.lt_trichotomy a u with h2 | h2 | h2
  ·simp [Slots.set,show a ≠ t by omega,show ¬ t < a by omega,show a ≠ u by omega,show ¬ u < a by omega,ih]
  ·subst h2; simp [Slots.set,show a ≠ t by omega,show ¬ t < a by omega]
  ·simp [Slots.set,show a ≠ t by omega,show ¬ t < a by omega,show a ≠ u by omega,h2,show u ≠ t by omega,show ¬ t < u by omega]
  ·subst h1; simp [Slots.set,show a ≠ u by omega,show ¬ u < a by omega]
  ·omega
  ·subst h1; simp [Slots.set,show a ≠ u by omega,h2,show u ≠ a by omega]; omega
  ·simp [Slots.set,show a ≠ t by omega,h1,show a ≠ u by omega,show ¬ u < a by omega,show t ≠ u by omega,show ¬ u < t by omega]
  ·subst h2; simp [Slots.set,show a ≠ t by omega,h1,show t ≠ a by omega,show ¬ a < t by omega]
  ·rcases Nat.lt_or_ge t u with h3 | h3
   ·simp [Slots.set,show a ≠ t by omega,h1,show a ≠ u by omega,h2,show t ≠ u by omega,show u ≠ t by omega,h3,show ¬ u < t by omega]
   ·have : u < t:=by omega
    simp [Slots.set,show a ≠ t by omega,h1,show a ≠ u by omega,h2,show t ≠ u by omega,show u ≠ t by omega,this,show ¬ t < u by omega]
theorem Own.set_comm {t u : Nat} {v w : Blk} (h : t ≠ u) : ∀ {l : Own},Own.set (Own.set l t v) u w = Own.set (Own.set l u w) t v
 | []=>by
  simp only [Own.set]
  by_cases h1 : t < u
  ·simp [Own.set,h,Ne.symm h,h1,show ¬ u < t by omega]
  ·have : u < t:=by omega
   simp [Own.set,h,Ne.symm h,h1,this]
 | (a,x) :: l=>by
  have ih:=Own.set_comm h (l:=l) (v:=v) (w:=w)
  rcases Nat.lt_trichotomy a t with h1 | h1 | h1 <;> rcases Nat.lt_trichotomy a u with h2 | h2 | h2
  ·simp [Own.set,show a ≠ t by omega,show ¬ t < a by omega,show a ≠ u by omega,show ¬ u < a by omega,ih]
  ·subst h2; simp [Own.set,show a ≠ t by omega,show ¬ t < a by omega]
  ·simp [Own.set,show a ≠ t by omega,show ¬ t < a by omega,show a ≠ u by omega,h2,show u ≠ t by omega,show ¬ t < u by omega]
  ·subst h1; simp [Own.set,show a ≠ u by omega,show ¬ u < a by omega]
  ·omega
  ·subst h1; simp [Own.set,show a ≠ u by omega,h2,show u ≠ a by omega]; omega
  ·simp [Own.set,show a ≠ t by omega,h1,show a ≠ u by omega,show ¬ u < a by omega,show t ≠ u by omega,show ¬ u < t by omega]
  ·subst h2; simp [Own.set,show a ≠ t by omega,h1,show t ≠ a by omega,show ¬ a < t by omega]
  ·rcases Nat.lt_or_ge t u with h3 | h3
   ·simp [Own.set,show a ≠ t by omega,h1,show a ≠ u by omega,h2,show t ≠ u by omega,show u ≠ t by omega,h3,show ¬ u < t by omega]
   ·have : u < t:=by omega
    simp [Own.set,show a ≠ t by omega,h1,show a ≠ u by omega,h2,show t ≠ u by omega,show u ≠ t by omega,this,show ¬ t < u by omega]
theorem Slots.forget_set {i : Id} {t : Nat} {v : AV} (h : v.leads i = false) : ∀ {l : Slots},Slots.forget (Slots.set l t v) i = Slots.set (Slots.forget l i) t v
 | []=>by simp [Slots.set,Slots.forget,h]
 | (a,x) :: l=>by
  simp only [Slots.set,Slots.forget]
  by_cases h1 : a = t
  ·simp [h1,Slots.forget,h]
  ·by_cases h2 : t < a
   ·simp [h1,h2,Slots.forget,h]
   ·simp [h1,h2,Slots.forget,Slots.forget_set h]
theorem Slots.forget_id {i : Id} : ∀ {l : Slots},(∀ p ∈ l,(p.2 : AV).leads i = false) → Slots.forget l i = l
 | [],_=>rfl
 | (a,x) :: l,h=>by
  simp only [Slots.forget]
  rw [Slots.forget_id fun p hp=>h p (List.mem_cons_of_mem _ hp)]
  have:=h (a,x) (List.mem_cons_self ..)
  simp at this
  simp [this]
theorem Slots.mem_set {t : Nat} {v : AV} : ∀ {l : Slots} {p : Nat × AV},p ∈ Slots.set l t v → p = (t,v) ∨ p ∈ l
 | [],p,h=>by simp [Slots.set] at h; exact .inl h
 | (a,x) :: l,p,h=>by
  simp only [Slots.set] at h
  split at h
  ·rename_i e; subst e
   rcases List.mem_cons.1 h with h | h
   ·exact .inl h
   ·exact .inr (List.mem_cons_of_mem _ h)
  ·split at h
   ·rcases List.mem_cons.1 h with h | h
    ·exact .inl h
    ·exact .inr h
   ·rcases List.mem_cons.1 h with h | h
    ·exact .inr (by rw [h]; exact List.mem_cons_self ..)
    ·rcases Slots.mem_set h with h | h
     ·exact .inl h
     ·exact .inr (List.mem_cons_of_mem _ h)
theorem Slots.mem_forget {i : Id} : ∀ {l : Slots} {p : Nat × AV},p ∈ Slots.forget l i → p ∈ l ∨ p.2 = .bot
 | [],p,h=>by simp [Slots.forget] at h
 | (a,x) :: l,p,h=>by
  simp only [Slots.forget] at h
  rcases List.mem_cons.1 h with h | h
  ·subst h
   by_cases hx : x.leads i = true
   ·exact .inr (by simp [hx])
   ·exact .inl (by simp [hx])
  ·rcases Slots.mem_forget h with h | h
   ·exact .inl (List.mem_cons_of_mem _ h)
   ·exact .inr h
theorem Slots.get_mem {t : Nat} : ∀ {l : Slots},Slots.get l t = .bot ∨ (t,Slots.get l t) ∈ l
 | []=>.inl rfl
 | (a,x) :: l=>by
  simp only [Slots.get]
  split
  ·rename_i h; subst h; exact .inr (List.mem_cons_self ..)
  ·rcases Slots.get_mem (t:=t) (l:=l) with h | h
   ·exact .inl h
   ·exact .inr (List.mem_cons_of_mem _ h)
theorem Own.without_set {l : List Nat} {u : Nat} {b : Blk} (h : has l u = true) : ∀ {o : Own},Own.without (Own.set o u b) l = Own.without o l
 | []=>by simp [Own.set,Own.without,h]
 | (a,x) :: o=>by
  simp only [Own.set]
  by_cases h1 : a = u
  ·subst h1; simp [Own.without,h]
  ·by_cases h2 : u < a
   ·simp [h1,h2,Own.without,h]
   ·simp [h1,h2,Own.without,Own.without_set h]
theorem Own.veil_set {l : List Nat} {u : Nat} {b : Blk} {o : Own} (h : has l u = true) : Own.veil (Own.set o u b) l = Own.veil o l:=by
 cases l with
 | nil=>simp [has] at h
 | cons a l=>exact Own.without_set h
theorem Own.only_set {l : List Nat} {u : Nat} {b : Blk} (h : has l u = true) : ∀ {o : Own},Own.get o u = none → ∃ p q,Own.only o l = p ++ q ∧ Own.only (Own.set o u b) l = p ++ (u,b) :: q ∧ ∀ x ∈ p,x.1 ≠ u
 | [],_=>⟨[],[],by simp [Own.only],by simp [Own.set,Own.only,h],by simp⟩
 | (a,x) :: o,hn=>by
  simp only [Own.get] at hn
  split at hn
  ·simp at hn
  ·rename_i h1
   simp only [Own.set,h1,if_false]
   by_cases h2 : u < a
   ·simp only [h2,if_true]
    exact ⟨[],Own.only ((a,x) :: o) l,by simp,by rw [Own.only]; simp [h],by simp⟩
   ·simp only [h2,if_false]
    obtain ⟨p,q,e1,e2,e3⟩:=Own.only_set h hn (b:=b)
    by_cases h3 : has l a = true
    ·refine ⟨(a,x) :: p,q,by simp [Own.only,h3,e1],by simp [Own.only,h3,e2],fun y hy=>?_⟩
     rcases List.mem_cons.1 hy with hy | hy
     ·subst hy; exact h1
     ·exact e3 y hy
    ·exact ⟨p,q,by simp [Own.only,h3,e1],by simp [Own.only,h3,e2],e3⟩
theorem Own.foldr_set {u : Nat} {b : Blk} {q : Own} {m : Own} : ∀ {p : Own},(∀ x ∈ p,x.1 ≠ u) → (p ++ (u,b) :: q).foldr (fun p acc=>Own.set acc p.1 p.2) m = Own.set ((p ++ q).foldr (fun p acc=>Own.set acc p.1 p.2) m) u b
 | [],_=>rfl
 | (a,x) :: p,h=>by
  simp only [List.cons_append,List.foldr]
  rw [Own.foldr_set fun y hy=>h y (List.mem_cons_of_mem _ hy)]
  exact Own.set_comm (Ne.symm (h (a,x) (List.mem_cons_self ..)))
theorem Own.unveil_set {l : List Nat} {u : Nat} {b : Blk} {o m : Own} (h : has l u = true) (hn : Own.get o u = none) : Own.unveil (Own.set o u b) m l = Own.set (Own.unveil o m l) u b:=by
 cases l with
 | nil=>simp [has] at h
 | cons a l =>
  simp only [Own.unveil]
  obtain ⟨p,q,e1,e2,e3⟩:=Own.only_set h hn (b:=b)
  rw [e1,e2]
  exact Own.foldr_set e3
def AV.plain : AV → Bool
 | .ptr ..=>false
 | .sl ..=>false
 | .func ..=>false
 | _=>true
def Opd.plain : Opd → Bool
 | .c v=>v.plain
 | _=>true
def Opd.slot : Opd → List Nat
 | .s t=>[t]
 | _=>[]
def MOp.uses (o : MOp) : List Nat:=o.k.ops.flatMap Opd.slot ++ (match o.g with | some (t,_)=>[t] | none=>[])
theorem plain_leads {v : AV} {i : Id} (h : v.plain = true) : v.leads i = false:=by
 cases v <;> simp [AV.plain] at h <;> simp [AV.leads,AV.names,AV.isAgg]
theorem plain_into {v : AV} {i : Id} (h : v.plain = true) : v.into i = false:=by
 cases v <;> simp [AV.plain] at h <;> simp [AV.into]
def Fresh (cx : Cx) (u : Nat) (s : St) : Prop:=s.own.get u = none ∧ ∀ p ∈ s.sl,(p.2 : AV).leads (.stk cx.lvl u) = false
def callOf (T : Nat → Option MFun) (g : Opd → AV) : MK → Option (Bool × List Nat × MFun × List AV)
 | .call prot hide f args=>match T f with
  | some fn=>if fn.params = (args.map g).length ∧ fn.nfree = ([] : List AV).length then some (prot,hide,fn,args.map g ++ []) else none
  | none=>none
 | .callv prot hide x args=>match g x with
  | .func f cap=>match T f with
   | some fn=>if fn.params = (args.map g).length ∧ fn.nfree = (capList cap).length then some (prot,hide,fn,args.map g ++ capList cap) else none
   | none=>none
  | _=>none
 | _=>none
section
variable {cx cx' : Cx} {s s' s1 s2 : St} {T : Nat → Option MFun} {n : Nat} {o : MOp}
theorem opCmd_call {d : Option Nat} {k : MK} {todo : List Item} (h : k.isCall = true) : opCmd T cx d k todo s = match callOf T s.opd k with
  | some (prot,hide,fn,l)=>.call (s.callCx cx prot hide) hide fn (St.enter l (s.hp.push cx.lvl (s.own.veil hide))) d todo s
  | none=>.fail:=by
 cases k <;> simp [MK.isCall] at h
 ·rename_i prot hide f args
  simp only [opCmd,callOf,enterCmd]
  cases T f with
  | none=>rfl
  | some fn=>simp only; split <;> rfl
 ·rename_i prot hide x args
  simp only [opCmd,callOf,enterCmd]
  cases s.opd x <;> try rfl
  rename_i f cap
  simp only
  cases T f with
  | none=>rfl
  | some fn=>simp only; split <;> rfl
theorem opCmd_ev {d : Option Nat} {k : MK} {todo : List Item} (h : k.isCall = false) : opCmd T cx d k todo s = match evOp cx d k s with
  | some (v,s')=>.go todo (s'.setd d v)
  | none=>.fail:=by
 cases k <;> simp [MK.isCall] at h <;> rfl
inductive StepIs (T : Nat → Option MFun) (n : Nat) (cx : Cx) (o : MOp) (s : St) : St → Prop
 | skip : s.wanted o.g = some false → StepIs T n cx o s (s.setd o.d .undef)
 | op {e : Eff} {v : AV} {s' : St} : s.wanted o.g = some true → o.k.isCall = false → evK s.opd (s.look cx) o.k = some e → applyEff cx o.d o.k.esc s e = some (v,s') → StepIs T n cx o s (s'.setd o.d v)
 | call {prot : Bool} {hide : List Nat} {fn : MFun} {l : List AV} {m : Nat} {s2 s1 : St} : s.wanted o.g = some true → o.k.isCall = true → callOf T s.opd o.k = some (prot,hide,fn,l) → m < n →
   run T m (s.callCx cx prot hide) [.code fn.body] (St.enter l (s.hp.push cx.lvl (s.own.veil hide))) = some s2 → back cx (s.callCx cx prot hide) hide fn o.d s s2 = some s1 → StepIs T n cx o s s1
theorem Step_iff : Step T n cx o s s1 ↔ StepIs T n cx o s s1:=by
 constructor
 ·intro h
  unfold Step at h
  cases hw : s.wanted o.g with
  | none=>simp [hw] at h
  | some b =>
   cases b with
   | false=>simp only [hw] at h; subst h; exact .skip hw
   | true =>
    simp only [hw] at h
    cases hc : o.k.isCall with
    | true =>
     rw [opCmd_call hc] at h
     cases hco : callOf T s.opd o.k with
     | none=>simp [hco] at h
     | some q =>
      obtain ⟨prot,hide,fn,l⟩:=q
      simp only [hco] at h
      obtain ⟨m,s2,hm,hr,hb⟩:=h
      exact .call hw hc hco hm hr hb
    | false =>
     rw [opCmd_ev hc] at h
     unfold evOp at h
     cases he : evK s.opd (s.look cx) o.k with
     | none=>simp [he] at h
     | some e =>
      simp only [he] at h
      cases ha : applyEff cx o.d o.k.esc s e with
      | none=>simp [ha] at h
      | some q =>
       obtain ⟨v,s'⟩:=q
       simp only [ha] at h
       subst h
       exact .op hw hc he ha
 ·intro h
  cases h with
  | skip hw=>simp only [Step,hw]
  | op hw hc he ha=>simp only [Step,hw,opCmd_ev hc,evOp,he,ha]
  | call hw hc hco hm hr hb=>simp only [Step,hw,opCmd_call hc,hco]; exact ⟨_,_,hm,hr,hb⟩
theorem opd_uses (h : ∀ t ∈ o.uses,Slots.get s.sl t = Slots.get s'.sl t) : ∀ x ∈ o.k.ops,s.opd x = s'.opd x:=by
 intro x hx
 cases x with
 | s t=>exact h t (by simp only [MOp.uses,List.mem_append,List.mem_flatMap]; exact .inl ⟨_,hx,by simp [Opd.slot]⟩)
 | _=>rfl
theorem wanted_uses (h : ∀ t ∈ o.uses,Slots.get s.sl t = Slots.get s'.sl t) : s.wanted o.g = s'.wanted o.g:=by
 cases hg : o.g with
 | none=>rfl
 | some q =>
  obtain ⟨t,b⟩:=q
  have:=h t (by simp [MOp.uses,hg])
  simp only [St.wanted,this]
theorem callOf_congr {g g' : Opd → AV} {k : MK} (h : ∀ x ∈ k.ops,g x = g' x) : callOf T g k = callOf T g' k:=by
 have e : ∀ l : List Opd,(∀ x ∈ l,g x = g' x) → l.map g = l.map g':=fun l hl=>List.map_congr_left hl
 cases k <;> try rfl
 ·rename_i prot hide f args
  simp only [callOf,e args h]
 ·rename_i prot hide x args
  simp only [callOf,e args fun y hy=>h y (List.mem_cons_of_mem _ hy),h x (List.mem_cons_self ..)]
theorem Step_mod {f : St → St} (h0 : ∀ t ∈ o.uses,Slots.get s.sl t = Slots.get (f s).sl t)
  (h2 : ∀ x ∈ o.k.ops,∀ i,(s.opd x).into i = true → o.k.agree (s.look cx i) ((f s).look cx i))
  (h3 : ∀ e,evK s.opd (s.look cx) o.k = some e → applyEff cx o.d o.k.esc (f s) e = (applyEff cx o.d o.k.esc s e).map fun p=>(p.1,f p.2))
  (h4 : ∀ s v,(f s).setd o.d v = f (s.setd o.d v))
  (h5 : ∀ prot hide fn l,callOf T s.opd o.k = some (prot,hide,fn,l) → ((f s).hp.push cx.lvl ((f s).own.veil hide) = s.hp.push cx.lvl (s.own.veil hide)) ∧ (f s).hp.next = s.hp.next ∧ ∀ h',(f s).pop cx.lvl hide h' = f (s.pop cx.lvl hide h')) :
  Step T n cx o (f s) s2 ↔ ∃ s1,Step T n cx o s s1 ∧ s2 = f s1:=by
 have ho:=opd_uses h0
 have hw:=wanted_uses h0
 have hev:=evK_congr ho h2
 have hcx : ∀ prot hide fn l,callOf T s.opd o.k = some (prot,hide,fn,l) → (f s).callCx cx prot hide = s.callCx cx prot hide:=by
  intro prot hide fn l hc
  simp only [St.callCx,(h5 prot hide fn l hc).2.1]
 have hback : ∀ prot hide fn l cx' t,callOf T s.opd o.k = some (prot,hide,fn,l) → back cx cx' hide fn o.d (f s) t = (back cx cx' hide fn o.d s t).map f:=by
  intro prot hide fn l cx' t hc
  simp only [back,Option.map_map]
  congr 1
  funext v
  simp only [Function.comp,(h5 prot hide fn l hc).2.2,h4]
 constructor
 ·intro h
  rw [Step_iff] at h
  cases h with
  | skip hw'=>exact ⟨_,Step_iff.2 (.skip (hw.trans hw')),h4 _ _⟩
  | op hw' hc he ha =>
   rw [← hev] at he
   rw [h3 _ he] at ha
   simp only [Option.map_eq_some_iff] at ha
   obtain ⟨⟨v,s'⟩,ha,heq⟩:=ha
   simp at heq
   obtain ⟨rfl,rfl⟩:=heq
   exact ⟨_,Step_iff.2 (.op (hw.trans hw') hc he ha),h4 _ _⟩
  | call hw' hc hco hm hr hb =>
   rw [← callOf_congr ho] at hco
   rw [hcx _ _ _ _ hco,(h5 _ _ _ _ hco).1] at hr
   rw [hcx _ _ _ _ hco,hback _ _ _ _ _ _ hco] at hb
   simp only [Option.map_eq_some_iff] at hb
   obtain ⟨s1,hb,rfl⟩:=hb
   exact ⟨s1,Step_iff.2 (.call (hw.trans hw') hc hco hm hr hb),rfl⟩
 ·rintro ⟨s1,h,rfl⟩
  rw [Step_iff] at h
  cases h with
  | skip hw'=>rw [← h4]; exact Step_iff.2 (.skip (hw.symm.trans hw'))
  | op hw' hc he ha =>
   rw [← h4]
   exact Step_iff.2 (.op (hw.symm.trans hw') hc (hev ▸ he) (by rw [h3 _ he,ha]; rfl))
  | call hw' hc hco hm hr hb =>
   refine Step_iff.2 (.call (hw.symm.trans hw') hc (by rw [← callOf_congr ho]; exact hco) hm ?_ (s2:=?_) ?_)
   ·rename_i s2 ; exact s2
   ·rw [hcx _ _ _ _ hco,(h5 _ _ _ _ hco).1]; exact hr
   ·rw [hcx _ _ _ _ hco,hback _ _ _ _ _ _ hco,hb]; rfl
end
def Eff.lays : Eff → Bool
 | .new ..=>true
 | .grow ..=>true
 | _=>false
def MK.isAppend : MK → Bool
 | .append ..=>true
 | _=>false
def MK.offOwn : MK → Bool
 | .append _ ap _ _ _=>has ap 1000002 || has ap 1000003
 | _=>false
def MK.hide : MK → List Nat
 | .call _ h _ _=>h
 | .callv _ h _ _=>h
 | _=>[]
section
variable {cx cx' : Cx} {s s' s1 s2 : St} {T : Nat → Option MFun} {n : Nat} {o : MOp} {g : Opd → AV} {look : Id → Option Blk}
theorem into_leads {v : AV} {i : Id} (h : v.into i = true) : v.leads i = true:=by
 cases v <;> simp [AV.into] at h <;> simp [AV.leads,AV.names,AV.isAgg,h]
theorem into_inj {v : AV} {i j : Id} (h : v.into i = true) (k : v.into j = true) : i = j:=by
 cases v <;> simp [AV.into] at h k <;> rw [← h,← k]
theorem site_lays {e : Eff} (he : evK g look o.k = some e) (hl : e.lays = true) (hs : o.k.esc = false) : o.site = o.d:=by
 by_cases hq : o.k.quiet = true
 ·obtain ⟨v,rfl⟩:=evK_quiet he hq; simp [Eff.lays] at hl
 ·obtain ⟨d,k,gd⟩:=o
  simp only at he hs hq ⊢
  cases k <;> simp only [MK.quiet,not_true_eq_false] at hq <;> simp only [MK.esc] at hs
  case alloc e t=>subst hs; rfl
  case box e t x=>subst hs; rfl
  case bslice e t n ps=>subst hs; rfl
  case append e ap t x y=>subst hs; rfl
  case clear t x =>
   simp only [evK] at he
   rcases evClear_wr he with rfl | ⟨_,_,_,rfl⟩ <;> simp [Eff.lays] at hl
  case store t ap x w =>
   simp only [evK] at he
   split at he <;> try (simp at he; done)
   split at he <;> try (simp at he; done)
   split at he <;> try (simp at he; done)
   split at he <;> try (simp at he; done)
   injection he with he
   subst he
   simp [Eff.lays] at hl
  all_goals simp [evK] at he
theorem not_grow {k : MK} {j : Id} {b : Blk} {m : Nat} (he : evK g look k = some (.grow j b m)) (ha : k.isAppend = false) : False:=by
 by_cases hq : k.quiet = true
 ·obtain ⟨v,h⟩:=evK_quiet he hq; simp at h
 ·cases k <;> simp only [MK.quiet,not_true_eq_false] at hq <;> simp only [evK] at he
  case alloc e t=>simp at he
  case box e t x=>split at he <;> simp at he
  case bslice e t n ps=>simp at he
  case append e ap t x y=>simp [MK.isAppend] at ha
  case clear t x=>rcases evClear_wr he with h | ⟨_,_,_,h⟩ <;> simp at h
  case store t ap x w =>
   split at he <;> try (simp at he; done)
   split at he <;> try (simp at he; done)
   split at he <;> try (simp at he; done)
   split at he <;> try (simp at he; done)
  all_goals simp at he
theorem has_mem {l : List Nat} {t : Nat} : has l t = true ↔ t ∈ l:=by
 induction l with
 | nil=>simp [has]
 | cons a l ih =>
  simp only [has,Bool.or_eq_true,beq_iff_eq,List.mem_cons,ih]
  exact ⟨fun h=>h.imp Eq.symm id,fun h=>h.imp Eq.symm id⟩
theorem append_off {k : MK} {j : Id} {b : Blk} {m : Nat} (he : evK g look k = some (.grow j b m)) (ho : k.offOwn = true) : j.isStk = false:=by
 cases k <;> simp [MK.offOwn] at ho
 rename_i esc ap t x y
 obtain ⟨add,_,ha,hap⟩:=append_inv he
 have hx : (g x).into j = true:=evAppend_at ha rfl
 rcases ho with h | h
 ·have:=hap _ (has_mem.1 h)
  simp only [apOk,if_true] at this
  cases hv : g x <;> rw [hv] at this hx <;> simp [AV.isNilsl] at this
  simp [AV.into] at hx
 ·have:=hap _ (has_mem.1 h)
  simp only [apOk,if_true,show ¬(1000003 : Nat) = 1000002 by decide,if_false,Bool.and_eq_true] at this
  cases hv : g x <;> rw [hv] at this hx <;> simp [AV.into] at hx
  ·simp [AV.offStk] at this
  ·subst hx
   have h2:=this.1.2
   rename_i i _ _
   cases i <;> simp [AV.offStk] at h2 <;> rfl
theorem callOf_hide {k : MK} {prot : Bool} {hide : List Nat} {fn : MFun} {l : List AV} (h : callOf T g k = some (prot,hide,fn,l)) : hide = k.hide:=by
 cases k <;> simp only [callOf] at h <;> try (simp at h; done)
 ·split at h <;> try (simp at h; done)
  split at h <;> simp at h
  exact h.2.1.symm
 ·split at h <;> try (simp at h; done)
  split at h <;> try (simp at h; done)
  split at h <;> simp at h
  exact h.2.1.symm
theorem look_setd {d : Option Nat} {v : AV} : (s.setd d v).look cx = s.look cx:=by cases d <;> rfl
theorem get_setd {d : Option Nat} {v : AV} {t : Nat} (h : d ≠ some t) : Slots.get (s.setd d v).sl t = Slots.get s.sl t:=by
 cases d with
 | none=>rfl
 | some u=>simp only [St.setd,Slots.get_set]; rw [if_neg (fun e=>h (by rw [e]))]
theorem fresh_setd {esc : Bool} {u : Nat} {b : Blk} {td : Option Nat} {v : AV} (h : esc = false → v.leads (.stk cx.lvl u) = false) : (s.setd td v).fresh cx esc u b = ((s.fresh cx esc u b).1,(s.fresh cx esc u b).2.setd td v):=by
 cases td with
 | none=>rfl
 | some t =>
  cases esc with
  | true=>rfl
  | false =>
   simp only [St.fresh,St.setd,Bool.false_eq_true,if_false]
   rw [Slots.forget_set (h rfl)]
theorem write_setd {i : Id} {b : Blk} {td : Option Nat} {v : AV} : (s.setd td v).write cx i b = (s.write cx i b).map fun x=>x.setd td v:=by
 cases td with
 | none=>simp [St.setd]
 | some t =>
  unfold St.write
  simp only [St.setd]
  cases i.own cx.lvl with
  | some t=>rfl
  | none=>simp only; split <;> rfl
theorem drop_setd {i : Id} {td : Option Nat} {v : AV} : (s.setd td v).drop cx i = (s.drop cx i).map fun x=>x.setd td v:=by
 cases td with
 | none=>simp [St.setd]
 | some t =>
  unfold St.drop
  simp only [St.setd]
  cases i.own cx.lvl with
  | some t=>rfl
  | none =>
   cases i with
   | obj m=>simp only; split <;> rfl
   | _=>rfl
theorem applyEff_setd {d : Option Nat} {esc : Bool} {e : Eff} {td : Option Nat} {v : AV} (hF : e.lays = true → esc = false → ∀ u,d = some u → v.leads (.stk cx.lvl u) = false) :
  applyEff cx d esc (s.setd td v) e = (applyEff cx d esc s e).map fun p=>(p.1,p.2.setd td v):=by
 cases e with
 | val w=>rfl
 | new sl b =>
  cases d with
  | none=>rfl
  | some u =>
   simp only [applyEff,Option.map]
   rw [fresh_setd fun h=>hF rfl h u rfl]
 | wr i b w =>
  simp only [applyEff,write_setd,Option.map_map]
  rfl
 | grow j b m =>
  cases d with
  | none=>rfl
  | some u =>
   simp only [applyEff,drop_setd,Option.map_map]
   congr 1
   funext x
   simp only [Function.comp]
   rw [fresh_setd fun h=>hF rfl h u rfl]
theorem setd_comm {d td : Option Nat} {v w : AV} (h : ∀ t,td = some t → d ≠ some t) : (s.setd td v).setd d w = (s.setd d w).setd td v:=by
 cases td with
 | none=>rfl
 | some t =>
  cases d with
  | none=>rfl
  | some u =>
   have : t ≠ u:=fun e=>h t rfl (by rw [e])
   simp only [St.setd,Slots.set_comm this]
theorem Step_setd {td : Option Nat} {v : AV} (h0 : ∀ t,td = some t → t ∉ o.uses ∧ o.d ≠ some t) (hF : ∀ u,o.site = some u → v.leads (.stk cx.lvl u) = false) :
  Step T n cx o (s.setd td v) s2 ↔ ∃ s1,Step T n cx o s s1 ∧ s2 = s1.setd td v:=by
 refine Step_mod (f:=fun s=>s.setd td v) (fun t ht=>(get_setd fun e=>(h0 t e).1 ht).symm) (fun x hx i hi=>by rw [look_setd]; exact MK.agree_refl) (fun e he=>applyEff_setd fun hl hs u hu=>hF u (by rw [site_lays he hl hs,hu])) (fun s v=>setd_comm fun t ht=>(h0 t ht).2)
  fun prot hide fn l hc=>⟨?_,?_,fun h'=>?_⟩
 ·cases td <;> rfl
 ·cases td <;> rfl
 ·cases td <;> rfl
def St.setO (s : St) (u : Nat) (b : Blk) : St:={ s with own:=s.own.set u b }
theorem look_setO {u : Nat} {b : Blk} {i : Id} (h : i ≠ .stk cx.lvl u) : (s.setO u b).look cx i = s.look cx i:=by
 simp only [St.look,St.setO]
 cases ho : i.own cx.lvl with
 | none=>rfl
 | some t =>
  have:=own_some ho
  subst this
  simp only
  rw [Own.get_set,if_neg (fun e=>h (by rw [e]))]
theorem opd_fresh {u : Nat} {x : Opd} (hp : x.plain = true) (hf : Fresh cx u s) : (s.opd x).leads (.stk cx.lvl u) = false:=by
 cases x with
 | s t =>
  simp only [St.opd]
  rcases Slots.get_mem (t:=t) (l:=s.sl) with h | h
  ·rw [h]; rfl
  ·exact hf.2 _ h
 | c v=>exact plain_leads hp
 | f m=>rfl
theorem into_fresh {u : Nat} {x : Opd} {i : Id} (hp : x.plain = true) (hf : Fresh cx u s) (hi : (s.opd x).into i = true) : i ≠ .stk cx.lvl u:=by
 rintro rfl
 have:=into_leads hi
 rw [opd_fresh hp hf] at this
 simp at this
theorem Step_setO {u : Nat} {b : Blk} (hf : Fresh cx u s) (hp : ∀ x ∈ o.k.ops,x.plain = true) (hs : o.site ≠ some u) (ha : o.k.isAppend = false ∨ o.k.offOwn = true) (hh : o.k.isCall = true → has o.k.hide u = true) :
  Step T n cx o (s.setO u b) s2 ↔ ∃ s1,Step T n cx o s s1 ∧ s2 = s1.setO u b:=by
 refine Step_mod (f:=fun s=>s.setO u b) (fun t ht=>rfl) (fun x hx i hi=>by rw [look_setO (into_fresh (hp x hx) hf hi)]; exact MK.agree_refl) (fun e he=>?_) (fun s v=>by cases o.d <;> rfl)
  fun prot hide fn l hc=>?_
 ·cases e with
  | val w=>rfl
  | new sl b' =>
   cases hd : o.d with
   | none=>rfl
   | some t =>
    simp only [applyEff,Option.map]
    cases hes : o.k.esc with
    | true=>rfl
    | false =>
     have : t ≠ u:=fun e=>hs (by rw [site_lays he rfl hes,hd,e])
     simp only [St.fresh,St.setO,Bool.false_eq_true,if_false]
     rw [Own.set_comm (Ne.symm this)]
  | wr i b' w =>
   obtain ⟨x,hx,hi⟩:=evK_at he rfl
   have hne:=into_fresh (hp x hx) hf hi
   simp only [applyEff,Option.map_map]
   unfold St.write
   simp only [St.setO]
   cases ho : i.own cx.lvl with
   | some t =>
    have:=own_some ho
    subst this
    have : t ≠ u:=fun e=>hne (by rw [e])
    simp only [Option.map,Function.comp]
    rw [Own.set_comm (Ne.symm this)]
   | none=>simp only; split <;> rfl
  | grow j b' m =>
   have hj : j.isStk = false:=by
    rcases ha with ha | ha
    ·exact (not_grow he ha).elim
    ·exact append_off he ha
   have hown : j.own cx.lvl = none:=by cases j <;> simp_all [Id.own,Id.isStk]
   cases hd : o.d with
   | none=>rfl
   | some t =>
    simp only [applyEff,Option.map_map]
    have hdr : (s.setO u b).drop cx j = (s.drop cx j).map fun x=>x.setO u b:=by
     unfold St.drop
     simp only [hown,St.setO]
     cases j with
     | obj m=>simp only; split <;> rfl
     | _=>rfl
    rw [hdr,Option.map_map]
    congr 1
    funext x
    simp only [Function.comp]
    cases hes : o.k.esc with
    | true=>rfl
    | false =>
     have : t ≠ u:=fun e=>hs (by rw [site_lays he rfl hes,hd,e])
     simp only [St.fresh,St.setO,Bool.false_eq_true,if_false]
     rw [Own.set_comm (Ne.symm this)]
 ·have hc' : o.k.isCall = true:=by
   cases hk : o.k <;> simp [hk,callOf] at hc <;> rfl
  have:=callOf_hide hc
  subst this
  have hu:=hh hc'
  refine ⟨?_,rfl,fun h'=>?_⟩
  ·simp only [St.setO,Own.veil_set hu]
  ·simp only [St.setO,St.pop,Own.unveil_set hu hf.1]
end
section
variable {cx cx' : Cx} {s s' s1 s2 : St} {T : Nat → Option MFun} {n : Nat} {o : MOp} {g : Opd → AV} {look : Id → Option Blk}
theorem resOf_leads {r : MRes} {v : AV} {l u : Nat} (h : resOf cx s r = some v) : v.leads (.stk l u) = false:=by
 cases r with
 | tmp t =>
  simp only [resOf] at h
  split at h
  ·rename_i hs; simp at h; subst h; exact safe_leads hs
  ·simp at h
 | cell t ty =>
  simp only [resOf] at h
  split at h
  ·split at h
   ·cases hl : s.look cx _ with
    | none=>rw [hl] at h; simp at h
    | some b =>
     rw [hl] at h
     simp only [Option.bind_some] at h
     split at h
     ·rename_i hb
      simp at h
      subst h
      have:=hb.2
      simp only [Bool.or_eq_true] at this
      rcases this with h | h
      ·exact agg_leads h
      ·exact safe_leads h
     ·simp at h
   ·simp at h
  ·simp at h
theorem results_leads {l : List MRes} {v : AV} {k u : Nat} (h : results cx s l = some v) : v.leads (.stk k u) = false:=by
 unfold results at h
 split at h
 ·exact resOf_leads h
 ·simp only [Option.map_eq_some_iff] at h
  obtain ⟨w,_,rfl⟩:=h
  rfl
theorem mem_setd {d : Option Nat} {v : AV} {p : Nat × AV} (h : p ∈ (s.setd d v).sl) : p ∈ s.sl ∨ p.2 = v:=by
 cases d with
 | none=>exact .inl h
 | some t =>
  rcases Slots.mem_set h with h | h
  ·exact .inr (by rw [h])
  ·exact .inl h
theorem write_own {i : Id} {b : Blk} {u : Nat} (h : s.write cx i b = some s') (hn : s.own.get u = none) (hi : i ≠ .stk cx.lvl u) : s'.own.get u = none ∧ s'.sl = s.sl:=by
 unfold St.write at h
 cases ho : i.own cx.lvl with
 | some t =>
  have:=own_some ho
  subst this
  simp [ho] at h
  subst h
  exact ⟨by simp only [Own.get_set]; rw [if_neg (fun e=>hi (by rw [e]))]; exact hn,rfl⟩
 | none =>
  simp only [ho] at h
  split at h
  ·simp at h; subst h; exact ⟨hn,rfl⟩
  ·simp at h
theorem drop_own {i : Id} {u : Nat} (h : s.drop cx i = some s') (hn : s.own.get u = none) : s'.own.get u = none ∧ s'.sl = s.sl:=by
 unfold St.drop at h
 cases ho : i.own cx.lvl with
 | some t =>
  simp [ho] at h
  subst h
  exact ⟨by simp only [Own.get_rid]; split <;> simp [hn],rfl⟩
 | none =>
  simp only [ho] at h
  cases i with
  | obj m =>
   simp only at h
   split at h
   ·simp at h; subst h; exact ⟨hn,rfl⟩
   ·simp at h
  | _=>simp at h
theorem fresh_own {esc : Bool} {t u : Nat} {b : Blk} (hn : s.own.get u = none) (ht : esc = false → t ≠ u) : (s.fresh cx esc t b).2.own.get u = none:=by
 cases esc with
 | true=>exact hn
 | false =>
  simp only [St.fresh,Bool.false_eq_true,if_false,Own.get_set]
  rw [if_neg (ht rfl)]; exact hn
theorem fresh_mem {esc : Bool} {t : Nat} {b : Blk} {p : Nat × AV} (h : p ∈ (s.fresh cx esc t b).2.sl) : p ∈ s.sl ∨ p.2 = .bot:=by
 cases esc with
 | true=>exact .inl h
 | false=>exact Slots.mem_forget h
theorem newVal_leads {esc : Bool} {t u : Nat} {b b' : Blk} {sl : Option Nat} (ht : esc = false → t ≠ u) : (newVal (s.fresh cx esc t b).1 sl b').leads (.stk cx.lvl u) = false:=by
 cases esc with
 | true=>cases sl <;> rfl
 | false =>
  have:=ht rfl
  cases sl <;> simp [St.fresh,newVal,AV.leads,AV.names,AV.isAgg] <;> exact fun e=>this e.symm
theorem Step_fresh {u : Nat} (h : Step T n cx o s s1) (hf : Fresh cx u s) (hp : ∀ x ∈ o.k.ops,x.plain = true) (hs : o.site ≠ some u) (hh : o.k.isCall = true → has o.k.hide u = true) : Fresh cx u s1:=by
 rw [Step_iff] at h
 cases h with
 | skip hw =>
  refine ⟨by cases o.d <;> exact hf.1,fun p hp=>?_⟩
  rcases mem_setd hp with h | h
  ·exact hf.2 p h
  ·rw [h]; rfl
 | op hw hc he ha =>
  rename_i e v s'
  have hlv : ∀ v,(e = .val v ∨ ∃ i b,e = .wr i b v) → v.leads (.stk cx.lvl u) = false:=fun v h=>evK_leads he h fun x hx=>opd_fresh (hp x hx) hf
  have key : s'.own.get u = none ∧ (∀ p ∈ s'.sl,(p.2 : AV).leads (.stk cx.lvl u) = false) ∧ v.leads (.stk cx.lvl u) = false:=by
   cases e with
   | val w =>
    simp [applyEff] at ha
    obtain ⟨rfl,rfl⟩:=ha
    exact ⟨hf.1,hf.2,hlv _ (.inl rfl)⟩
   | new sl b =>
    cases hd : o.d with
    | none=>rw [hd] at ha; simp [applyEff] at ha
    | some t =>
     rw [hd] at ha
     have ht : o.k.esc = false → t ≠ u:=fun hes e=>hs (by rw [site_lays he rfl hes,hd,e])
     simp [applyEff] at ha
     obtain ⟨rfl,rfl⟩:=ha
     refine ⟨fresh_own hf.1 ht,fun p hp=>?_,newVal_leads ht⟩
     rcases fresh_mem hp with h | h
     ·exact hf.2 p h
     ·rw [h]; rfl
   | wr i b w =>
    simp only [applyEff,Option.map_eq_some_iff] at ha
    obtain ⟨s2,hw2,heq⟩:=ha
    simp at heq
    obtain ⟨rfl,rfl⟩:=heq
    obtain ⟨x,hx,hi⟩:=evK_at he rfl
    obtain ⟨h1,h2⟩:=write_own hw2 hf.1 (into_fresh (hp x hx) hf hi)
    exact ⟨h1,by rw [h2]; exact hf.2,hlv _ (.inr ⟨_,_,rfl⟩)⟩
   | grow j b m =>
    cases hd : o.d with
    | none=>rw [hd] at ha; simp [applyEff] at ha
    | some t =>
     rw [hd] at ha
     have ht : o.k.esc = false → t ≠ u:=fun hes e=>hs (by rw [site_lays he rfl hes,hd,e])
     simp only [applyEff,Option.map_eq_some_iff] at ha
     obtain ⟨s2,hw2,heq⟩:=ha
     simp at heq
     obtain ⟨rfl,rfl⟩:=heq
     obtain ⟨h1,h2⟩:=drop_own hw2 hf.1
     refine ⟨fresh_own h1 ht,fun p hp=>?_,newVal_leads ht⟩
     rcases fresh_mem hp with h | h
     ·rw [h2] at h; exact hf.2 p h
     ·rw [h]; rfl
  refine ⟨by cases o.d <;> exact key.1,fun p hp=>?_⟩
  rcases mem_setd hp with h | h
  ·exact key.2.1 p h
  ·rw [h]; exact key.2.2
 | call hw hc hco hm hr hb =>
  unfold back at hb
  simp only [Option.map_eq_some_iff] at hb
  obtain ⟨v,hv,rfl⟩:=hb
  have:=callOf_hide hco
  subst this
  refine ⟨?_,fun p hp=>?_⟩
  ·have : (s.pop cx.lvl o.k.hide (‹St›).hp).own.get u = none:=by
    simp only [St.pop,Own.get_unveil]
    rw [if_pos (hh hc)]; exact hf.1
   cases o.d <;> exact this
  ·rcases mem_setd hp with h | h
   ·exact hf.2 p h
   ·rw [h]; exact results_leads hv
theorem fresh_slots {u : Nat} (hf : Fresh cx u s) : s.sl.forget (.stk cx.lvl u) = s.sl:=Slots.forget_id hf.2
theorem fresh_sl {esc : Bool} {t : Nat} {b : Blk} (hf : esc = false → ∀ p ∈ s.sl,(p.2 : AV).leads (.stk cx.lvl t) = false) : (s.fresh cx esc t b).2.sl = s.sl:=by
 cases esc with
 | true=>rfl
 | false=>exact Slots.forget_id (hf rfl)
theorem Step_slots (h : Step T n cx o s s1) (hf : ∀ u,o.site = some u → Fresh cx u s) {t : Nat} (ht : o.d ≠ some t) : Slots.get s1.sl t = Slots.get s.sl t:=by
 rw [Step_iff] at h
 cases h with
 | skip hw=>exact get_setd ht
 | op hw hc he hap =>
  rename_i e v s'
  rw [get_setd ht]
  cases e with
  | val w =>
   simp [applyEff] at hap
   rw [← hap.2]
  | new sl b =>
   cases hd : o.d with
   | none=>rw [hd] at hap; simp [applyEff] at hap
   | some u =>
    rw [hd] at hap
    simp [applyEff] at hap
    rw [← hap.2,fresh_sl fun hes=>(hf u (by rw [site_lays he rfl hes,hd])).2]
  | wr i b w =>
   simp only [applyEff,Option.map_eq_some_iff] at hap
   obtain ⟨s2,hw2,heq⟩:=hap
   simp at heq
   rw [← heq.2,(look_write hw2).2.1]
  | grow j b m =>
   cases hd : o.d with
   | none=>rw [hd] at hap; simp [applyEff] at hap
   | some u =>
    rw [hd] at hap
    simp only [applyEff,Option.map_eq_some_iff] at hap
    obtain ⟨s2,hw2,heq⟩:=hap
    simp at heq
    have hsl:=(look_drop hw2).2.1
    rw [← heq.2,fresh_sl fun hes=>(by rw [hsl]; exact (hf u (by rw [site_lays he rfl hes,hd])).2),hsl]
 | call hw hc hco hm hr hb =>
  unfold back at hb
  simp only [Option.map_eq_some_iff] at hb
  obtain ⟨v,hv,rfl⟩:=hb
  rw [get_setd ht]; rfl
def MK.isLook : MK → Bool
 | .load ..=>true
 | .sidx ..=>true
 | .slice ..=>true
 | .eqp ..=>true
 | _=>false
def MK.ro : MK → Bool
 | .load r _ _ _=>r
 | .sidx r _ _ _=>r
 | _=>false
def MK.two : MK → Bool
 | .eqp ..=>true
 | _=>false
def MK.root : MK → Option Nat
 | .load _ rt _ _=>rt
 | .slice rt _ _ _ _ _=>rt
 | _=>none
structure Eye (g : Opd → AV) (k : MK) (i : Id) : Prop where
 one : ∀ x ∈ k.ops,∀ j,(g x).into j = true → j = i
 ro : k.ro = true → i.isArg = true
 root : rooted g i k.root = true ∨ ∀ x ∈ k.ops,∀ j,(g x).into j = false
theorem toIx_into {v : AV} {z : Int} {i : Id} (h : toIx v = some z) : v.into i = false:=by
 cases v <;> simp [toIx] at h <;> rfl
theorem ixOr_into {o : Option Opd} {d z : Int} (h : ixOr g o d = some z) {y : Opd} (hy : y ∈ o.toList) {i : Id} : (g y).into i = false:=by
 cases o with
 | none=>simp at hy
 | some x=>simp at hy; subst hy; exact toIx_into h
theorem eye {e : Eff} {k : MK} (he : evK g look k = some e) (hk : k.isLook = true) (h2 : k.two = false) : ∃ i,Eye g k i:=by
 cases k <;> simp [MK.isLook] at hk <;> simp [MK.two] at h2
 case load ro rt t x =>
  simp only [evK] at he
  split at he <;> try (simp at he; done)
  rename_i i p t' hx
  split at he <;> try (simp at he; done)
  rename_i hc
  refine ⟨i,fun y hy j hj=>?_,fun h=>hc.2.1 h,.inl hc.2.2⟩
  ·simp only [MK.ops,List.mem_cons] at hy
   rcases hy with rfl | hy
   ·rw [hx] at hj; exact into_inj hj into_ptr
   ·cases rt with
    | none=>simp at hy
    | some r =>
     simp only [Option.toList_some,List.mem_map,List.mem_filter,List.mem_singleton,Bool.not_eq_true',Bool.or_eq_false_iff,beq_eq_false_iff_ne] at hy
     obtain ⟨r',⟨rfl,hr,hr'⟩,rfl⟩:=hy
     have h3:=hc.2.2
     simp only [rooted] at h3
     rw [if_neg hr,if_neg hr'] at h3
     exact into_inj hj h3
 case sidx ro t x y =>
  simp only [evK] at he
  split at he <;> try (simp at he; done)
  rename_i j off len z hx hz
  split at he <;> try (simp at he; done)
  rename_i hc
  refine ⟨j,fun y' hy i hi=>?_,fun h=>hc.2.2 h,.inl rfl⟩
  simp only [MK.ops,List.mem_cons,List.mem_singleton,List.not_mem_nil,or_false] at hy
  rcases hy with rfl | rfl
  ·rw [hx] at hi; exact into_inj hi into_sl
  ·rw [toIx_into hz] at hi; simp at hi
 case slice rt t x lo hi mx =>
  have mem : ∀ {j : Id} {y : Opd} {i : Id},rooted g j rt = true → (∀ y ∈ mx.toList,∀ i,(g y).into i = false) → (∀ y ∈ lo.toList,∀ i,(g y).into i = false) → (∀ y ∈ hi.toList,∀ i,(g y).into i = false) → y ∈ (MK.slice rt t x lo hi mx).ops → (g y).into i = true → (y = x ∨ i = j):=by
   intro j y i hr h1 h2 h3 hy hi
   simp only [MK.ops,List.mem_cons,List.mem_append,List.mem_map,List.mem_filter] at hy
   rcases hy with rfl | ⟨r,⟨hr1,hr2⟩,rfl⟩ | hy | hy | hy
   ·exact .inl rfl
   ·cases rt with
    | none=>simp at hr1
    | some r' =>
     simp at hr1
     subst hr1
     simp only [Bool.not_eq_true',Bool.or_eq_false_iff,beq_eq_false_iff_ne] at hr2
     simp only [rooted] at hr
     rw [if_neg hr2.1,if_neg hr2.2] at hr
     exact .inr (into_inj hi hr)
   ·rw [h2 y hy] at hi; simp at hi
   ·rw [h3 y hy] at hi; simp at hi
   ·rw [h1 y hy] at hi; simp at hi
  rcases slice_inv he with ⟨j,off,len,a,b,hx,hlo,hhi,hr,hev⟩ | ⟨hx,hlo,hhi,rfl,_,hrn⟩
  ·have hmx : ∀ y ∈ mx.toList,∀ i,(g y).into i = false:=by
    intro y hy i
    cases mx with
    | none=>simp at hy
    | some m =>
     simp at hy
     subst hy
     cases hz : toIx (g y) with
     | none=>simp only [Option.map_some,hz] at hev; rw [evSlice_none] at hev; simp at hev
     | some z=>exact toIx_into hz
   refine ⟨j,fun y hy i hi=>?_,fun h=>by simp [MK.ro] at h,.inl hr⟩
   rcases mem hr hmx (fun y hy i=>ixOr_into hlo hy) (fun y hy i=>ixOr_into hhi hy) hy hi with rfl | h
   ·rw [hx] at hi; exact into_inj hi into_sl
   ·exact h
  ·have none : ∀ y ∈ (MK.slice rt t x lo hi none).ops,∀ i,(g y).into i = false:=by
    intro y hy i
    simp only [MK.ops,List.mem_cons,List.mem_append,List.mem_map,List.mem_filter] at hy
    rcases hy with rfl | ⟨r,⟨hr1,hr2⟩,rfl⟩ | hy | hy | hy
    ·rcases hx with h | h <;> rw [h] <;> rfl
    ·cases rt with
     | none=>simp at hr1
     | some r' =>
      simp at hr1
      subst hr1
      simp only [Bool.not_eq_true',Bool.or_eq_false_iff,beq_eq_false_iff_ne] at hr2
      simp only [rootNil,Bool.or_eq_true,beq_iff_eq,hr2.1,hr2.2,false_or] at hrn
      cases hv : g (.s r) <;> rw [hv] at hrn <;> first | rfl | (simp at hrn; done)
    ·exact ixOr_into hlo hy
    ·exact ixOr_into hhi hy
    ·simp at hy
   exact ⟨.arg 0,fun y hy j hj=>by rw [none y hy] at hj; simp at hj,fun h=>by simp [MK.ro] at h,.inr none⟩
end
def MK.onStk (k : MK) : Bool:=k.root == some 1000001
def rootIn (ap : List Nat) (k : MK) : Bool :=
 match k.root with
 | some r=>has ap r && decide (r < 1000000)
 | none=>false
def rootIn0 (ap : List Nat) (k : MK) : Bool :=
 match k.root with
 | some r=>has ap r && !(r == 1000001)
 | none=>false
def pairLE (e k : MK) : Bool :=
 !k.two && match e with
 | .alloc esc _=>esc
 | .box esc _ _=>esc
 | .bslice esc _ _ _=>esc
 | .store _ ap _ _=>k.shape || rootIn0 ap k
 | .append _ ap _ _ _=>has ap 1000002 || rootIn ap k
 | .call p hd _ _=>p || k.ro || (has hd 1000000 && k.onStk)
 | .callv p _ _ _=>p || k.ro
 | _=>false
def MOp.isSite (o : MOp) : Bool:=o.site.isSome && !o.k.isAppend
def hides (e o : MOp) : Bool:=(!e.k.isAppend || e.k.offOwn) && (!e.k.isCall || (match o.site with | some u=>has e.k.hide u | none=>false))
def pairAA (a b : MK) : Bool :=
 match a,b with
 | .append false ap _ _ _,.append false ap' _ _ _=>has ap 1000003 && has ap' 1000003
 | _,_=>false
def pairOk (a b : MOp) : Bool :=
 (match a.d with | some t=>!(b.uses.contains t) && b.d != some t | none=>true) && (match b.d with | some t=>!(a.uses.contains t) | none=>true) &&
 (if a.k.quiet then !a.k.isLook || b.k.quiet || b.isSite || pairLE b.k a.k
 else if b.k.quiet then !b.k.isLook || a.isSite || pairLE a.k b.k
 else if a.isSite then hides b a
 else if b.isSite then hides a b
 else a.d.isSome && b.d.isSome && pairAA a.k b.k)
section
variable {cx cx' : Cx} {s s' s1 s2 : St} {T : Nat → Option MFun} {n : Nat} {o a b e : MOp} {g : Opd → AV} {look : Id → Option Blk}
def Lows (cx : Cx) (s : St) : Prop:=∀ t i,(Slots.get s.sl t).into i = true → i.under (cx.lvl + 1) s.hp.next
theorem Lows.opd {x : Opd} {i : Id} (h : Lows cx s) (hp : x.plain = true) (hi : (s.opd x).into i = true) : i.under (cx.lvl + 1) s.hp.next:=by
 cases x with
 | s t=>exact h t i hi
 | c v=>have:=plain_into (i:=i) hp; simp only [St.opd] at hi; rw [this] at hi; simp at hi
 | f m=>simp [St.opd,AV.into] at hi
theorem site_d {u : Nat} (h : o.site = some u) : o.d = some u:=by
 unfold MOp.site at h
 split at h <;> first | exact h | simp at h
theorem site_notcall {u : Nat} (h : o.site = some u) : o.k.isCall = false:=by
 unfold MOp.site at h
 split at h <;> first | (simp at h; done) | (rename_i hk; rw [hk]; rfl)
theorem store_facts {t : Ty} {ap : List Nat} {x v : Opd} {i : Id} {bl : Blk} {w : AV} (h : evK g look (.store t ap x v) = some (.wr i bl w)) :
  ∃ old,look i = some old ∧ bl.ty = old.ty ∧ ∀ r ∈ ap,apartU g i r = true:=by
 simp only [evK] at h
 split at h <;> try (simp at h; done)
 split at h <;> try (simp at h; done)
 rename_i hc
 split at h <;> try (simp at h; done)
 rename_i old hl
 split at h <;> try (simp at h; done)
 simp at h
 obtain ⟨rfl,rfl,_⟩:=h
 exact ⟨old,hl,rfl,by simpa [List.all_eq_true] using hc.2.2⟩
theorem apart_into {v : AV} {i j : Id} (h : v.apart i = true) (hj : v.into j = true) : j ≠ i:=by
 rintro rfl
 cases v <;> simp [AV.apart] at h <;> simp [AV.into] at hj <;> exact h hj
theorem agree_shape {k : MK} {x y : Option Blk} (hk : k.shape = true) (h : x.map (·.ty) = y.map (·.ty)) : k.agree x y:=by unfold MK.agree; rw [if_pos hk]; exact h
theorem agree_eq {k : MK} {x y : Option Blk} (h : x = y) : k.agree x y:=by subst h; exact MK.agree_refl
theorem look_any (h : Step T n cx e s s1) (hp : ∀ x ∈ o.k.ops,x.plain = true) (hb : Lows cx s) (hf : ∀ u,e.site = some u → Fresh cx u s)
  (hc : e.k.quiet = true ∨ e.isSite = true ∨ s.wanted e.g = some false ∨ (pairLE e.k o.k = true ∧ ∃ i,Eye s.opd o.k i)) :
  ∀ x ∈ o.k.ops,∀ i,(s.opd x).into i = true → o.k.agree (s.look cx i) (s1.look cx i):=by
 intro x hx i hi
 have hun:=hb.opd (hp x hx) hi
 rw [Step_iff] at h
 cases h with
 | skip hw=>rw [look_setd]; exact MK.agree_refl
 | op hw hcl he ha =>
  rename_i ef v s'
  rw [look_setd]
  rcases hc with hc | hc | hc | hc
  ·obtain ⟨w,rfl⟩:=evK_quiet he hc
   simp [applyEff] at ha
   rw [← ha.2]; exact MK.agree_refl
  ·simp only [MOp.isSite,Bool.and_eq_true,Bool.not_eq_true'] at hc
   cases hs : e.site with
   | none=>rw [hs] at hc; simp at hc
   | some u =>
    have hd:=site_d hs
    have hfr:=hf u hs
    have hne:=into_fresh (hp x hx) hfr hi
    obtain ⟨ed,ek,eg⟩:=e
    simp only at hd he ha hs hc
    subst hd
    have hes : ek.esc = false:=by
     unfold MOp.site at hs
     split at hs <;> first | (simp at hs; done) | (rename_i hk; simp only at hk; rw [hk]; rfl)
    cases ef with
    | val w=>simp [applyEff] at ha; rw [← ha.2]; exact MK.agree_refl
    | new sl bl =>
     simp [applyEff] at ha
     rw [← ha.2,hes,look_fresh_stk,if_neg hne]; exact MK.agree_refl
    | wr j bl w =>
     exfalso
     unfold MOp.site at hs
     split at hs <;> first | (simp at hs; done) | (rename_i hk; simp only at hk; subst hk; simp [evK] at he; done) | (rename_i hk; simp only at hk; subst hk; simp [MK.isAppend] at hc; done) | (rename_i hk; simp only at hk; subst hk; simp only [evK] at he; split at he <;> simp at he)
    | grow j bl m=>exact (not_grow he hc.2).elim
  ·rw [hw] at hc; simp at hc
  ·obtain ⟨hpl,i0,hE⟩:=hc
   obtain rfl:=hE.one x hx i hi
   have hrt : rooted s.opd i o.k.root = true:=by
    rcases hE.root with h | h
    ·exact h
    ·rw [h x hx i] at hi; simp at hi
   obtain ⟨ed,ek,eg⟩:=e
   simp only at he ha hpl hf
   cases ek <;> simp only [pairLE,Bool.and_eq_true] at hpl <;> try (simp at hpl; done)
   all_goals (replace hpl:=hpl.2)
   case alloc esc t =>
    subst hpl
    simp only [evK,Option.some.injEq] at he
    subst he
    cases ed with
    | none=>simp [applyEff] at ha
    | some d =>
     simp [applyEff] at ha
     rw [← ha.2,show (MK.alloc true t).esc = true from rfl,look_fresh_obj,if_neg (by rintro rfl; simp [Id.under] at hun)]; exact MK.agree_refl
   case box esc t y =>
    subst hpl
    simp only [evK] at he
    split at he <;> try (simp at he; done)
    simp only [Option.some.injEq] at he
    subst he
    cases ed with
    | none=>simp [applyEff] at ha
    | some d =>
     simp [applyEff] at ha
     rw [← ha.2,show (MK.box true t y).esc = true from rfl,look_fresh_obj,if_neg (by rintro rfl; simp [Id.under] at hun)]; exact MK.agree_refl
   case bslice esc t m ps =>
    subst hpl
    simp only [evK,Option.map_eq_some_iff] at he
    obtain ⟨w,_,he⟩:=he
    subst he
    cases ed with
    | none=>simp [applyEff] at ha
    | some d =>
     simp [applyEff] at ha
     rw [← ha.2,show (MK.bslice true t m ps).esc = true from rfl,look_fresh_obj,if_neg (by rintro rfl; simp [Id.under] at hun)]; exact MK.agree_refl
   case store t ap y w =>
    have hwr : ∃ j bl u,ef = .wr j bl u:=by
     simp only [evK] at he
     split at he <;> try (simp at he; done)
     split at he <;> try (simp at he; done)
     split at he <;> try (simp at he; done)
     split at he <;> try (simp at he; done)
     injection he with he
     exact ⟨_,_,_,he.symm⟩
    obtain ⟨j,bl,u,rfl⟩:=hwr
    obtain ⟨old,ho,hty,hap⟩:=store_facts he
    simp only [applyEff,Option.map_eq_some_iff] at ha
    obtain ⟨s3,hw3,heq⟩:=ha
    simp at heq
    obtain ⟨_,rfl⟩:=heq
    have hlk:=(look_write hw3).2.2.2.1 i
    rw [hlk]
    by_cases hij : i = j
    ·subst hij
     rw [if_pos rfl]
     rcases Bool.or_eq_true _ _ ▸ hpl with hsh | hri
     ·exact agree_shape hsh (by rw [ho]; simp [hty])
     ·exfalso
      unfold rootIn0 at hri
      split at hri
      ·rename_i r hk
       simp only [Bool.and_eq_true,Bool.not_eq_true',beq_eq_false_iff_ne] at hri
       have h1:=hap r (has_mem.1 hri.1)
       have h2:=hrt
       rw [hk] at h2
       unfold apartU at h1
       simp only [rooted] at h2
       split at h1
       ·rename_i hm; rw [if_pos hm,h1] at h2; simp at h2
       ·rename_i hm
        rw [if_neg hm,if_neg hri.2] at h2
        exact apart_into h1 h2 rfl
      ·simp at hri
    ·rw [if_neg hij]; exact MK.agree_refl
   case append esc ap t y w =>
    obtain ⟨add,_,hev,hap⟩:=append_inv he
    have hne : ∀ j,ef.at = some j → i ≠ j:=by
     rintro j hj rfl
     have hin:=evAppend_at hev hj
     rcases Bool.or_eq_true _ _ ▸ hpl with h | h
     ·have:=hap _ (has_mem.1 h)
      simp only [apOk,if_true] at this
      cases hv : s.opd y <;> rw [hv] at this hin <;> simp [AV.isNilsl] at this
      simp [AV.into] at hin
     ·unfold rootIn at h
      split at h
      ·rename_i r hk
       simp only [Bool.and_eq_true,decide_eq_true_eq] at h
       have h2:=hrt
       rw [hk] at h2
       simp only [rooted] at h2
       rw [if_neg (by omega),if_neg (by omega)] at h2
       have h1:=hap r (has_mem.1 h.1)
       unfold apOk at h1
       rw [if_neg (by omega),if_neg (by omega)] at h1
       cases hv : s.opd y <;> rw [hv] at h1 hin hev <;> simp [AV.into] at hin
       ·simp [evAppend] at hev
       ·subst hin
        exact apart_into h1 h2 rfl
      ·simp at h
    have hfresh : ∀ (s' : St) (d : Nat) (b : Blk),ed = some d → ef.lays = true → s'.hp.next = s.hp.next → (s'.fresh cx esc d b).2.look cx i = s'.look cx i:=by
     intro s' d b hd hlay hnx
     cases esc with
     | true=>rw [look_fresh_obj,hnx,if_neg (by rintro rfl; simp [Id.under] at hun)]
     | false =>
      have hs : (MOp.mk ed (.append false ap t y w) eg).site = some d:=hd
      have hne:=into_fresh (hp x hx) (hf d hs) hi
      rw [look_fresh_stk,if_neg hne]
    cases ef with
    | val u=>simp [applyEff] at ha; rw [← ha.2]; exact MK.agree_refl
    | new sl bl =>
     cases ed with
     | none=>simp [applyEff] at ha
     | some d =>
      simp [applyEff] at ha
      rw [← ha.2]
      exact agree_eq (hfresh s d bl rfl rfl rfl).symm
    | wr j bl u =>
     simp only [applyEff,Option.map_eq_some_iff] at ha
     obtain ⟨s3,hw3,heq⟩:=ha
     simp at heq
     rw [← heq.2]
     exact agree_eq (by rw [(look_write hw3).2.2.2.1 i,if_neg (hne j rfl)])
    | grow j bl m =>
     cases ed with
     | none=>simp [applyEff] at ha
     | some d =>
      simp only [applyEff,Option.map_eq_some_iff] at ha
      obtain ⟨s3,hw3,heq⟩:=ha
      simp at heq
      obtain ⟨_,_,hnx,_,hlk⟩:=look_drop hw3
      rw [← heq.2]
      exact agree_eq (by rw [show (MK.append esc ap t y w).esc = esc from rfl,hfresh s3 d bl rfl rfl hnx,hlk i,if_neg (hne j rfl)])
   case call p hd f args=>simp [MK.isCall] at hcl
   case callv p hd f args=>simp [MK.isCall] at hcl
 | call hw hcl hco hm hr hbk =>
  rename_i prot hide fn l m s3
  rcases hc with hc | hc | hc | hc
  ·exfalso; cases hk : e.k <;> simp [hk,MK.isCall] at hcl <;> simp [hk,MK.quiet] at hc
  ·exfalso
   simp only [MOp.isSite,Bool.and_eq_true] at hc
   cases hs : e.site with
   | none=>rw [hs] at hc; simp at hc
   | some u=>rw [site_notcall hs] at hcl; simp at hcl
  ·rw [hw] at hc; simp at hc
  ·obtain ⟨hpl,i0,hE⟩:=hc
   obtain rfl:=hE.one x hx i hi
   have hpr : prot = true ∨ o.k.ro = true ∨ (has hide 1000000 = true ∧ o.k.onStk = true):=by
    cases hk : e.k <;> simp [hk,MK.isCall] at hcl <;> simp only [hk,pairLE,Bool.or_eq_true,Bool.and_eq_true] at hpl <;> replace hpl:=hpl.2 <;> rw [hk] at hco <;> simp only [callOf] at hco
    ·split at hco <;> try (simp at hco; done)
     split at hco <;> simp at hco
     rcases hpl with (h | h) | h
     ·exact .inl (by rw [← hco.1]; exact h)
     ·exact .inr (.inl h)
     ·exact .inr (.inr ⟨by rw [← hco.2.1]; exact h.1,h.2⟩)
    ·split at hco <;> try (simp at hco; done)
     split at hco <;> try (simp at hco; done)
     split at hco <;> simp at hco
     rcases hpl with h | h
     ·exact .inl (by rw [← hco.1]; exact h)
     ·exact .inr (.inl h)
   have hheld : Held (s.callCx cx prot hide) (s.hp.push cx.lvl (s.own.veil hide)).next i:=by
    rcases hpr with rfl | hro | ⟨hh,hs⟩
    ·cases i with
     | stk l' t=>simp only [Id.under] at hun; simp only [Held,St.callCx,if_true]; exact ⟨hun,Nat.le_refl _⟩
     | obj m=>simp only [Id.under] at hun; simp only [Held,St.callCx,if_true]; exact ⟨hun,Nat.le_refl _⟩
     | arg m=>trivial
    ·have:=hE.ro hro
     cases i <;> simp [Id.isArg] at this
     trivial
    ·have hst : i.isStk = true:=by
      have hr:=hE.root
      rcases hr with hr | hr
      ·unfold MK.onStk at hs
       rw [eq_of_beq hs] at hr
       simpa [rooted] using hr
      ·rw [hr x hx i] at hi; simp at hi
     cases i with
     | stk l' t =>
      simp only [Id.under] at hun
      cases prot <;> simp only [Held,St.callCx,hh,if_true,Bool.false_eq_true,if_false] <;> exact ⟨hun,Nat.le_refl _⟩
     | obj m=>simp [Id.isStk] at hst
     | arg m=>trivial
   have hsame:=(run_frame hr hheld).1
   unfold back at hbk
   simp only [Option.map_eq_some_iff] at hbk
   obtain ⟨v,hv,rfl⟩:=hbk
   rw [look_setd]
   refine agree_eq ?_
   have hpush : (s.hp.push cx.lvl (s.own.veil hide)).look i = match i.own cx.lvl with | some t=>if has hide t then none else s.look cx i | none=>s.look cx i:=congrFun push_look_veil i
   have hsame : s3.hp.look i = (s.hp.push cx.lvl (s.own.veil hide)).look i:=hsame
   rw [hpush] at hsame
   cases ho : i.own cx.lvl with
   | some t =>
    have:=own_some ho
    subst this
    simp only [ho] at hsame
    simp only [look_stk,St.pop,Own.get_unveil]
    split
    ·rfl
    ·rename_i hh
     rw [if_neg hh] at hsame
     rw [look_stk] at hsame
     exact hsame.symm
   | none =>
    simp only [ho] at hsame
    rw [← hsame]
    simp only [St.look,ho,St.pop]
    cases i with
    | stk l' t =>
     simp [Id.own] at ho
     simp only [HP.look,HP.pop]
     rw [if_neg ho]
    | _=>rfl
end
section
variable {cx cx' : Cx} {s s' s1 s2 : St} {T : Nat → Option MFun} {n : Nat} {o a b e : MOp} {g : Opd → AV} {look : Id → Option Blk}
theorem evK_nolook {look' : Id → Option Blk} {k : MK} (hq : k.quiet = true) (hl : k.isLook = false) : evK g look k = evK g look' k:=by
 cases k <;> first | rfl | (simp [MK.isLook] at hl; done) | (simp [MK.quiet] at hq; done)
theorem Eye.congr {g' : Opd → AV} {k : MK} {i : Id} (h : ∀ x ∈ k.ops,g x = g' x) (hE : Eye g k i) : Eye g' k i :=
 ⟨fun x hx j hj=>hE.one x hx j (by rw [h x hx]; exact hj),hE.ro,by
  rcases hE.root with h2 | h2
  ·refine .inl ?_
   cases hk : k.root with
   | none=>rfl
   | some r =>
    rw [hk] at h2
    simp only [rooted] at h2 ⊢
    by_cases hr : r = 1000000
    ·rw [if_pos hr] at h2 ⊢; exact h2
    ·rw [if_neg hr] at h2 ⊢
     by_cases hr' : r = 1000001
     ·rw [if_pos hr'] at h2 ⊢; exact h2
     ·rw [if_neg hr'] at h2 ⊢
      rw [← h (.s r) (by cases k <;> simp [MK.root] at hk <;> subst hk <;> simp [MK.ops,hr,hr'])]; exact h2
  ·exact .inr fun x hx j=>by rw [← h x hx]; exact h2 x hx j⟩
theorem agree_symm {k : MK} {x y : Option Blk} (h : k.agree x y) : k.agree y x:=by
 unfold MK.agree at h ⊢
 split at h
 ·rename_i hk; rw [if_pos hk]; exact h.symm
 ·rename_i hk; rw [if_neg hk]; exact h.symm
theorem pairLE_two {e k : MK} (h : pairLE e k = true) : k.two = false:=by
 simp only [pairLE,Bool.and_eq_true,Bool.not_eq_true'] at h
 exact h.1
theorem quiet_step (h : Step T n cx o s s1) (hq : o.k.quiet = true ∨ s.wanted o.g = some false) (hp : ∀ x ∈ o.k.ops,x.plain = true) :
  ∃ v,s1 = s.setd o.d v ∧ (∀ u,Fresh cx u s → v.leads (.stk cx.lvl u) = false) ∧
   (∀ s',(∀ t ∈ o.uses,Slots.get s.sl t = Slots.get s'.sl t) → (s.wanted o.g = some false ∨ (o.k.quiet = true ∧ o.k.isLook = false) ∨ ∀ x ∈ o.k.ops,∀ j,(s.opd x).into j = true → o.k.agree (s.look cx j) (s'.look cx j)) → Step T n cx o s' (s'.setd o.d v) ∧ ∀ u,Fresh cx u s' → v.leads (.stk cx.lvl u) = false) ∧
   (s.wanted o.g = some false ∨ ∃ e,evK s.opd (s.look cx) o.k = some e):=by
 rw [Step_iff] at h
 cases h with
 | skip hw=>exact ⟨_,rfl,fun u _=>rfl,fun s' hu _=>⟨Step_iff.2 (.skip (by rw [← wanted_uses hu]; exact hw)),fun _ _=>rfl⟩,.inl hw⟩
 | op hw hc he ha =>
  rename_i e v s'
  have hq' : o.k.quiet = true:=by
   rcases hq with h | h
   ·exact h
   ·rw [hw] at h; simp at h
  obtain ⟨w,rfl⟩:=evK_quiet he hq'
  simp [applyEff] at ha
  obtain ⟨rfl,rfl⟩:=ha
  refine ⟨w,rfl,fun u hf=>evK_leads he (.inl rfl) fun x hx=>opd_fresh (hp x hx) hf,fun s' hu hl=>?_,.inr ⟨_,he⟩⟩
  have he' : evK s'.opd (s'.look cx) o.k = some (.val w):=by
   rcases hl with hl | hl | hl
   ·rw [hw] at hl; simp at hl
   ·rw [evK_nolook hl.1 hl.2 (look':=s.look cx),← evK_congr (opd_uses hu) (fun _ _ _ _=>MK.agree_refl)]; exact he
   ·rw [← evK_congr (opd_uses hu) hl]; exact he
  exact ⟨Step_iff.2 (.op (by rw [← wanted_uses hu]; exact hw) hc he' rfl),fun u hf=>evK_leads he' (.inl rfl) fun x hx=>opd_fresh (hp x hx) hf⟩
 | call hw hc hco hm hr hb =>
  exfalso
  rcases hq with h | h
  ·cases hk : o.k <;> simp [hk,MK.isCall] at hc <;> simp [hk,MK.quiet] at h
  ·rw [hw] at h; simp at h
theorem site_step (h : Step T n cx o s s1) (hs : o.isSite = true) (hw0 : s.wanted o.g ≠ some false) {u : Nat} (hu : o.site = some u) (hf : Fresh cx u s) :
  ∃ bl v,s1 = (s.setO u bl).setd (some u) v ∧ (∀ u',u' ≠ u → v.leads (.stk cx.lvl u') = false) ∧
   ∀ s',(∀ t ∈ o.uses,Slots.get s.sl t = Slots.get s'.sl t) → Fresh cx u s' → Step T n cx o s' ((s'.setO u bl).setd (some u) v):=by
 have hd:=site_d hu
 simp only [MOp.isSite,Bool.and_eq_true,Bool.not_eq_true'] at hs
 rw [Step_iff] at h
 cases h with
 | skip hw=>exact absurd hw hw0
 | op hw hc he ha =>
  rename_i e v s'
  have hes : o.k.esc = false:=by
   unfold MOp.site at hu
   split at hu <;> first | (simp at hu; done) | (rename_i hk; rw [hk]; rfl)
  have hnl : ∀ g look look',evK g look o.k = evK g look' o.k:=by
   intro g look look'
   unfold MOp.site at hu
   split at hu <;> first | (simp at hu; done) | (rename_i hk; rw [hk]; rfl) | (rename_i hk; rw [hk] at hs; simp [MK.isAppend] at hs)
  have hnew : ∃ sl bl,e = .new sl bl:=by
   unfold MOp.site at hu
   split at hu <;> first | (simp at hu; done) | skip
   ·rename_i hk; rw [hk] at he; simp only [evK,Option.some.injEq] at he; exact ⟨_,_,he.symm⟩
   ·rename_i hk; rw [hk] at he; simp only [evK] at he; split at he <;> simp at he; exact ⟨_,_,he.symm⟩
   ·rename_i hk; rw [hk] at he; simp only [evK,Option.map_eq_some_iff] at he; obtain ⟨w,_,he⟩:=he; exact ⟨_,_,he.symm⟩
   ·rename_i hk; rw [hk] at hs; simp [MK.isAppend] at hs
  obtain ⟨sl,bl,rfl⟩:=hnew
  rw [hd,hes] at ha
  simp [applyEff] at ha
  obtain ⟨rfl,rfl⟩:=ha
  have hfr : ∀ s',Fresh cx u s' → s'.fresh cx false u bl = (.stk cx.lvl u,s'.setO u bl):=by
   intro s' hf'
   simp only [St.fresh,Bool.false_eq_true,if_false,St.setO,fresh_slots hf']
  refine ⟨bl,newVal (.stk cx.lvl u) sl bl,by rw [hfr s hf,hd],fun u' hu'=>?_,fun s' hus hf'=>?_⟩
  ·cases sl <;> simp [newVal,AV.leads,AV.names,AV.isAgg] <;> exact fun e=>hu' e
  ·have:=Step_iff.2 (StepIs.op (T:=T) (n:=n) (cx:=cx) (o:=o) (s:=s') (e:=.new sl bl) (v:=newVal (.stk cx.lvl u) sl bl) (s':=s'.setO u bl) (by rw [← wanted_uses hus]; exact hw) hc (by rw [← evK_congr (g:=s.opd) (look:=s'.look cx) (opd_uses hus) (fun _ _ _ _=>MK.agree_refl),hnl _ _ (s.look cx)]; exact he)
    (by rw [hd,hes]; simp only [applyEff,hfr s' hf']))
   rw [hd] at this
   exact this
 | call hw hc hco hm hr hb=>rw [site_notcall hu] at hc; simp at hc
theorem isSite_site (h : o.isSite = true) : ∃ u,o.site = some u ∧ o.k.isAppend = false:=by
 simp only [MOp.isSite,Bool.and_eq_true,Bool.not_eq_true'] at h
 cases hs : o.site with
 | none=>rw [hs] at h; simp at h
 | some u=>exact ⟨u,rfl,h.2⟩
def St.dropM (s : St) (o : Option Nat) : St:=match o with
 | none=>s
 | some m=>{ s with hp:={ s.hp with obj:=fun n=>if n = m then none else s.hp.obj n } }
def St.setM (s : St) (u : Nat) (o : Option Blk) : St:=match o with
 | none=>s
 | some b=>s.setO u b
theorem look_dropM {o : Option Nat} {i : Id} : (s.dropM o).look cx i = if (∃ m,o = some m ∧ i = .obj m) then none else s.look cx i:=by
 cases o with
 | none=>simp [St.dropM]
 | some m =>
  simp only [St.dropM,St.look,Option.some.injEq,exists_eq_left']
  cases ho : i.own cx.lvl with
  | some t =>
   have:=own_some ho
   subst this
   simp
  | none =>
   cases i with
   | obj n=>simp only [HP.look,Id.obj.injEq]
   | _=>simp [HP.look]
theorem look_setM {u : Nat} {o : Option Blk} {i : Id} (h : i ≠ .stk cx.lvl u) : (s.setM u o).look cx i = s.look cx i:=by
 cases o with
 | none=>rfl
 | some b=>exact look_setO h
theorem swapAA_states {om om' : Option Nat} {ob ob' : Option Blk} {u u' : Nat} {v v' : AV} (h : u ≠ u') :
  (((((s.dropM om).setM u ob).setd (some u) v).dropM om').setM u' ob').setd (some u') v' = (((((s.dropM om').setM u' ob').setd (some u') v').dropM om).setM u ob).setd (some u) v:=by
 cases om <;> cases om' <;> cases ob <;> cases ob' <;> simp only [St.dropM,St.setM,St.setO,St.setd,Slots.set_comm h,Own.set_comm h]
 all_goals
  congr 2
  funext n
  split <;> split <;> rfl
theorem append_congr {look look' : Id → Option Blk} {esc : Bool} {ap : List Nat} {t : Ty} {x y : Opd} {g' : Opd → AV} (hg : ∀ z ∈ (MK.append esc ap t x y).ops,g z = g' z) (hl : ∀ i,(g x).into i = true ∨ (g y).into i = true → look i = look' i) :
  evK g look (.append esc ap t x y) = evK g' look' (.append esc ap t x y):=by
 have h1 : evK g look (.append esc ap t x y) = evK g look' (.append esc ap t x y):=by
  simp only [evK]
  rw [elems_congr (look':=look') (fun i hi=>hl i (.inr hi))]
  split
  ·rw [evAppend_congr (look':=look') (fun i hi=>hl i (.inl hi))]
  ·rfl
 rw [h1]
 exact evK_congr hg fun _ _ _ _=>MK.agree_refl
theorem app_step {ap : List Nat} {ty : Ty} {x y : Opd} {u : Nat} {gd : Option (Nat × Bool)} (h : Step T n cx ⟨some u,.append false ap ty x y,gd⟩ s s1) (hm : has ap 1000003 = true) (hw0 : s.wanted gd ≠ some false) (hf : Fresh cx u s) :
  ∃ om ob v,s1 = ((s.dropM om).setM u ob).setd (some u) v ∧ (om = none → ∀ i,(s.opd x).into i = false) ∧ (∀ m,om = some m → (s.opd x).into (.obj m) = true) ∧ (∀ i,(s.opd x).into i = true ∨ (s.opd y).into i = true → (s.look cx i).isSome = true) ∧
   (∀ m,(s.opd y).into (.obj m) = false) ∧
   ∀ s',(∀ t ∈ (MOp.mk (some u) (.append false ap ty x y) gd).uses,Slots.get s.sl t = Slots.get s'.sl t) → (∀ i,(s.opd x).into i = true ∨ (s.opd y).into i = true → s.look cx i = s'.look cx i) → Fresh cx u s' →
    Step T n cx ⟨some u,.append false ap ty x y,gd⟩ s' (((s'.dropM om).setM u ob).setd (some u) v):=by
 rw [Step_iff] at h
 cases h with
 | skip hw=>exact absurd hw hw0
 | call hw hc hco hm hr hb=>simp [MK.isCall] at hc
 | op hw hc he ha =>
  rename_i e v s'
  simp only at he ha
  obtain ⟨add,hel,hev,hap⟩:=append_inv he
  have hmk:=hap _ (has_mem.1 hm)
  simp only [apOk,show ¬(1000003 : Nat) = 1000002 by decide,if_false,if_true,Bool.and_eq_true,Bool.not_eq_true'] at hmk
  obtain ⟨⟨hnw,hoff⟩,hobj⟩:=hmk
  have hlive : ∀ i,(s.opd x).into i = true ∨ (s.opd y).into i = true → (s.look cx i).isSome = true:=by
   intro i hi
   rcases hi with hi | hi
   ·cases hv : s.opd x <;> rw [hv] at hi hev <;> simp [AV.into] at hi
    ·simp [evAppend] at hev
    ·subst hi
     simp only [evAppend] at hev
     split at hev <;> try (simp at hev; done)
     rename_i hlk; rw [hlk]; rfl
   ·cases hv : s.opd y <;> rw [hv] at hi hel <;> simp [AV.into] at hi
    ·simp [elems] at hel
    ·subst hi
     simp only [elems] at hel
     split at hel <;> try (simp at hel; done)
     rename_i hlk; rw [hlk]; rfl
  have hy : ∀ m,(s.opd y).into (.obj m) = false:=by
   intro m
   cases hv : s.opd y <;> rw [hv] at hobj hel <;> try rfl
   ·simp [elems] at hel
   ·rename_i i _ _
    cases i <;> simp [AV.offObj] at hobj <;> simp [AV.into]
  have hfr : ∀ (s' : St) (b : Blk),Fresh cx u s' → s'.fresh cx false u b = (.stk cx.lvl u,s'.setO u b):=by
   intro s' b hf'
   simp only [St.fresh,Bool.false_eq_true,if_false,St.setO,fresh_slots hf']
  have replay : ∀ (s' : St),(∀ t ∈ (MOp.mk (some u) (.append false ap ty x y) gd).uses,Slots.get s.sl t = Slots.get s'.sl t) → (∀ i,(s.opd x).into i = true ∨ (s.opd y).into i = true → s.look cx i = s'.look cx i) →
    s'.wanted gd = some true ∧ evK s'.opd (s'.look cx) (.append false ap ty x y) = some e:=by
   intro s' hu hl
   have ho:=opd_uses (o:=⟨some u,.append false ap ty x y,gd⟩) hu
   have hwu:=wanted_uses (o:=⟨some u,.append false ap ty x y,gd⟩) hu
   exact ⟨by rw [← hwu]; exact hw,by rw [← append_congr ho hl]; exact he⟩
  cases e with
  | val w =>
   simp [applyEff] at ha
   obtain ⟨rfl,rfl⟩:=ha
   refine ⟨none,none,w,rfl,fun _ i=>?_,fun m hm=>by simp at hm,hlive,hy,fun s' hu hl hf'=>?_⟩
   ·cases hv : s.opd x <;> rw [hv] at hev <;> try rfl
    ·simp [evAppend] at hev
    ·exfalso
     simp only [evAppend] at hev
     repeat' (split at hev)
     all_goals (simp at hev)
   ·obtain ⟨h1,h2⟩:=replay s' hu hl
    exact Step_iff.2 (.op h1 rfl h2 rfl)
  | new sl b =>
   simp only [MK.esc,applyEff,hfr s b hf,Option.some.injEq,Prod.mk.injEq] at ha
   obtain ⟨rfl,rfl⟩:=ha
   refine ⟨none,some b,_,rfl,fun _ i=>?_,fun m hm=>by simp at hm,hlive,hy,fun s' hu hl hf'=>?_⟩
   ·cases hv : s.opd x <;> rw [hv] at hev <;> try rfl
    ·simp [evAppend] at hev
    ·exfalso
     simp only [evAppend] at hev
     repeat' (split at hev)
     all_goals (simp at hev)
   ·obtain ⟨h1,h2⟩:=replay s' hu hl
    exact Step_iff.2 (.op h1 rfl h2 (by simp only [MK.esc,applyEff,hfr s' b hf']; rfl))
  | wr j b w=>simp [Eff.isWr] at hnw
  | grow j b m =>
   have hin : (s.opd x).into j = true:=evAppend_at hev rfl
   obtain ⟨q,rfl⟩ : ∃ q,j = .obj q:=by
    cases hv : s.opd x <;> rw [hv] at hoff hin <;> simp [AV.into] at hin <;> simp [AV.offStk] at hoff
    subst hin
    rename_i i _ _
    cases i with
    | stk l t=>simp [AV.offStk] at hoff
    | obj q=>exact ⟨q,rfl⟩
    | arg q =>
     exfalso
     simp only [MK.esc,applyEff,Option.map_eq_some_iff] at ha
     obtain ⟨s3,hd,_⟩:=ha
     simp [St.drop,Id.own] at hd
   simp only [MK.esc,applyEff,Option.map_eq_some_iff] at ha
   obtain ⟨s3,hd,heq⟩:=ha
   simp only [St.drop,Id.own] at hd
   split at hd
   rotate_left
   ·simp at hd
   rename_i hlets
   simp only [Option.some.injEq] at hd
   subst hd
   have hfd : ∀ s' : St,Fresh cx u s' → Fresh cx u (s'.dropM (some q)):=fun s' hf'=>⟨hf'.1,hf'.2⟩
   have e1:=hfr _ b (hfd s hf)
   simp only [St.dropM] at e1
   simp only [e1,Prod.mk.injEq] at heq
   obtain ⟨rfl,rfl⟩:=heq
   refine ⟨some q,some b,_,rfl,fun h=>by simp at h,fun m' hm'=>by simp at hm'; subst hm'; exact hin,hlive,hy,fun s' hu hl hf'=>?_⟩
   obtain ⟨h1,h2⟩:=replay s' hu hl
   refine Step_iff.2 (.op (s':=(s'.dropM (some q)).setO u b) h1 rfl h2 ?_)
   have e2:=hfr _ b (hfd s' hf')
   simp only [St.dropM] at e2
   simp only [MK.esc,applyEff,St.drop,Id.own,hlets,if_true,Option.map_some,e2,St.dropM]
theorem swap (ha : Step T n cx a s s1) (hb : Step T n cx b s1 s2) (hok : pairOk a b = true) (hL : Lows cx s) (hpa : ∀ x ∈ a.k.ops,x.plain = true) (hpb : ∀ x ∈ b.k.ops,x.plain = true)
  (hfa : ∀ u,a.site = some u → Fresh cx u s) (hfb : ∀ u,b.site = some u → Fresh cx u s) :
  ∃ t,Step T n cx b s t ∧ Step T n cx a t s2:=by
 simp only [pairOk,Bool.and_eq_true] at hok
 obtain ⟨⟨hD1,hD2⟩,hok⟩:=hok
 have h1 : ∀ t,a.d = some t → t ∉ b.uses ∧ b.d ≠ some t:=by
  intro t ht
  rw [ht] at hD1
  simpa [bne_iff_ne] using hD1
 have h2 : ∀ t,b.d = some t → t ∉ a.uses ∧ a.d ≠ some t:=by
  intro t ht
  rw [ht] at hD2
  refine ⟨by simpa using hD2,fun e=>(h1 t e).2 ht⟩
 have hsd : ∀ u,a.site = some u → b.site ≠ some u:=fun u hu hu'=>(h1 u (site_d hu)).2 (site_d hu')

 have hub : ∀ t ∈ b.uses,Slots.get s1.sl t = Slots.get s.sl t:=fun t ht=>Step_slots ha hfa fun e=>(h1 t e).1 ht
 by_cases hqa : a.k.quiet = true ∨ s.wanted a.g = some false
 ·
  obtain ⟨v,rfl,hv,hrep,hev⟩:=quiet_step ha hqa hpa
  obtain ⟨t,ht,rfl⟩:=(Step_setd (td:=a.d) (v:=v) (fun t ht=>h1 t ht) (fun u hu=>hv u (hfb u hu))).1 hb
  refine ⟨t,ht,(hrep t (fun r hr=>(Step_slots ht hfb fun e=>(h2 r e).1 hr).symm) ?_).1⟩
  rcases hev with hev | ⟨e,he⟩
  ·exact .inl hev
  ·rcases hqa with hqa | hqa
   ·refine .inr ?_
    rw [if_pos hqa] at hok
    by_cases hlk : a.k.isLook = true
    ·refine .inr (look_any ht hpa hL hfb ?_)
     simp only [hlk,Bool.not_true,Bool.false_or,Bool.or_eq_true] at hok
     rcases hok with (hok | hok) | hok
     ·exact .inl hok
     ·exact .inr (.inl hok)
     ·exact .inr (.inr (.inr ⟨hok,eye he hlk (pairLE_two hok)⟩))
    ·exact .inl ⟨hqa,by simpa using hlk⟩
   ·exact .inl hqa
 ·have hqa1 : a.k.quiet = false:=by
   cases h : a.k.quiet with
   | false=>rfl
   | true=>exact absurd (.inl h) hqa
  have hqa2 : s.wanted a.g ≠ some false:=fun h=>hqa (.inr h)
  rw [hqa1] at hok
  simp only [Bool.false_eq_true,if_false] at hok
  by_cases hqb : b.k.quiet = true ∨ s1.wanted b.g = some false
  ·
   obtain ⟨v,rfl,hv,hrep,hev⟩:=quiet_step hb hqb hpb
   have hob : ∀ x ∈ b.k.ops,s1.opd x = s.opd x:=opd_uses hub
   obtain ⟨hbs,hvs⟩:=hrep s hub (by
    rcases hev with hev | ⟨e,he⟩
    ·exact .inl hev
    ·rcases hqb with hqb | hqb
     ·refine .inr ?_
      rw [if_pos hqb] at hok
      by_cases hlk : b.k.isLook = true
      ·refine .inr fun x hx j hj=>agree_symm (look_any ha hpb hL hfa ?_ x hx j (by rw [← hob x hx]; exact hj))
       simp only [hlk,Bool.not_true,Bool.false_or,Bool.or_eq_true] at hok
       rcases hok with hok | hok
       ·exact .inr (.inl hok)
       ·obtain ⟨i,hE⟩:=eye he hlk (pairLE_two hok)
        exact .inr (.inr (.inr ⟨hok,i,hE.congr hob⟩))
      ·exact .inl ⟨hqb,by simpa using hlk⟩
     ·exact .inl hqb)
   exact ⟨_,hbs,(Step_setd (td:=b.d) (v:=v) (fun t ht=>h2 t ht) (fun u hu=>hvs u (hfa u hu))).2 ⟨s1,ha,rfl⟩⟩
  ·have hqb1 : b.k.quiet = false:=by
    cases h : b.k.quiet with
    | false=>rfl
    | true=>exact absurd (.inl h) hqb
   have hqb2 : s1.wanted b.g ≠ some false:=fun h=>hqb (.inr h)
   rw [hqb1] at hok
   simp only [Bool.false_eq_true,if_false] at hok
   have hides_ok : ∀ {e o : MOp} {u : Nat},hides e o = true → o.site = some u → (e.k.isAppend = false ∨ e.k.offOwn = true) ∧ (e.k.isCall = true → has e.k.hide u = true):=by
    intro e o u h hu
    simp only [hides,Bool.and_eq_true,Bool.not_eq_true',Bool.or_eq_true] at h
    refine ⟨h.1,fun hc=>?_⟩
    rcases h.2 with h2 | h2
    ·rw [hc] at h2; simp at h2
    ·rw [hu] at h2; exact h2
   by_cases hsa : a.isSite = true
   ·rw [if_pos hsa] at hok
    obtain ⟨u,hu,_⟩:=isSite_site hsa
    obtain ⟨hap,hh⟩:=hides_ok hok hu
    have hf:=hfa u hu
    obtain ⟨bl,v,rfl,hv,hrep⟩:=site_step ha hsa hqa2 hu hf
    obtain ⟨t2,ht2,rfl⟩:=(Step_setd (td:=some u) (v:=v) (fun t ht=>by simp at ht; subst ht; exact h1 u (site_d hu)) (fun u' hu'=>hv u' fun e=>hsd u hu (by rw [← e]; exact hu'))).1 hb
    obtain ⟨t,ht,rfl⟩:=(Step_setO hf hpb (hsd u hu) hap hh).1 ht2
    exact ⟨t,ht,hrep t (fun r hr=>(Step_slots ht hfb fun e=>(h2 r e).1 hr).symm) (Step_fresh ht hf hpb (hsd u hu) hh)⟩
   ·rw [if_neg hsa] at hok
    by_cases hsb : b.isSite = true
    ·rw [if_pos hsb] at hok
     obtain ⟨u,hu,_⟩:=isSite_site hsb
     obtain ⟨hap,hh⟩:=hides_ok hok hu
     have hf:=hfb u hu
     have hsu : a.site ≠ some u:=fun e=>hsd u e hu
     obtain ⟨bl,v,rfl,hv,hrep⟩:=site_step hb hsb hqb2 hu (Step_fresh ha hf hpa hsu hh)
     refine ⟨_,hrep s hub hf,(Step_setd (td:=some u) (v:=v) (fun t ht=>by simp at ht; subst ht; exact h2 u (site_d hu)) (fun u' hu'=>hv u' fun e=>hsu (by rw [← e]; exact hu'))).2 ⟨_,(Step_setO hf hpa hsu hap hh).2 ⟨s1,ha,rfl⟩,rfl⟩⟩
    ·rw [if_neg hsb] at hok
     obtain ⟨ad,ak,ag⟩:=a
     obtain ⟨bd,bk,bg⟩:=b
     simp only [pairAA] at hok
     split at hok
     rotate_left
     ·simp at hok
     rename_i ap ty x y ap' ty' x' y'
     simp only [Bool.and_eq_true] at hok
     simp only at hqa2 hqb2 hpa hpb hfa hfb h1 h2 hsd hub
     cases ad with
     | none=>simp at hok
     | some u =>
     cases bd with
     | none=>simp at hok
     | some u' =>
     have hfu:=hfa u rfl
     have hfu':=hfb u' rfl
     have huu : u ≠ u':=fun e=>(h1 u rfl).2 (by rw [e])
     obtain ⟨om,ob,v,rfl,a1,a2,a3,a4,arep⟩:=app_step ha hok.2.1 hqa2 hfu
     have hfs1 : Fresh cx u' (((s.dropM om).setM u ob).setd (some u) v):=Step_fresh ha hfu' hpa (fun e=>huu (by simpa [MOp.site] using e)) (fun h=>by simp [MK.isCall] at h)
     obtain ⟨om',ob',v',rfl,b1,b2,b3,b4,brep⟩:=app_step hb hok.2.2 hqb2 hfs1
     have hobx : ∀ z ∈ (MK.append false ap' ty' x' y').ops,(((s.dropM om).setM u ob).setd (some u) v).opd z = s.opd z:=opd_uses (o:=⟨some u',.append false ap' ty' x' y',bg⟩) hub
     have hx':=hobx x' (by simp [MK.ops])
     have hy':=hobx y' (by simp [MK.ops])
     have hplx':=hpb x' (by simp [MK.ops])
     have hply':=hpb y' (by simp [MK.ops])
     have hplx:=hpa x (by simp [MK.ops])
     have hply:=hpa y (by simp [MK.ops])
     have hlk1 : ∀ i,i ≠ .stk cx.lvl u → (((s.dropM om).setM u ob).setd (some u) v).look cx i = if (∃ m,om = some m ∧ i = .obj m) then none else s.look cx i:=fun i hi=>by
      rw [look_setd,look_setM hi,look_dropM]
     have hsame : ∀ i,(s.opd x').into i = true ∨ (s.opd y').into i = true → i ≠ .stk cx.lvl u ∧ ¬∃ m,om = some m ∧ i = .obj m:=by
      intro i hi
      have hne : i ≠ .stk cx.lvl u:=by
       rcases hi with h | h
       ·exact into_fresh hplx' hfu h
       ·exact into_fresh hply' hfu h
      refine ⟨hne,fun hex=>?_⟩
      have:=b3 i (by rw [hx',hy']; exact hi)
      rw [hlk1 i hne,if_pos hex] at this
      simp at this
     have hbs:=brep s hub (by
      intro i hi
      rw [hx',hy'] at hi
      obtain ⟨hne,hno⟩:=hsame i hi
      rw [hlk1 i hne,if_neg hno]) hfu'
     refine ⟨_,hbs,?_⟩
     have hua : ∀ t ∈ (MOp.mk (some u) (.append false ap ty x y) ag).uses,Slots.get s.sl t = Slots.get (((s.dropM om').setM u' ob').setd (some u') v').sl t:=fun r hr=>(Step_slots hbs hfb fun e=>(h2 r e).1 hr).symm
     have:=arep _ hua (by
      intro i hi
      have hne : i ≠ .stk cx.lvl u':=by
       rcases hi with h | h
       ·exact into_fresh hplx hfu' h
       ·exact into_fresh hply hfu' h
      rw [look_setd,look_setM hne,look_dropM,if_neg]
      rintro ⟨m,hm,rfl⟩
      rcases hi with h | h
      ·have h3:=b2 m hm
       rw [hx'] at h3
       have h4:=hsame (.obj m) (.inl h3)
       cases om with
       | none=>rw [a1 rfl] at h; simp at h
       | some q =>
        have:=into_inj h (a2 q rfl)
        exact h4.2 ⟨q,rfl,this⟩
      ·rw [a4 m] at h; simp at h) (Step_fresh hbs hfu hpb (fun e=>huu (by simpa [MOp.site] using e.symm)) (fun h=>by simp [MK.isCall] at h))
     rw [swapAA_states huu]
     exact this
end
open Go.RowKit
def mask (B : List Nat) (o : Oper) : Nat:=o.after.toList.foldr (fun e m=>if Region.binds .any e then m ||| (2 ^ e.on ||| B.getD e.on 0) else m) 0
def masks : List Oper → List Nat → List Nat
 | [],B=>B
 | o :: os,B=>masks os (B ++ [mask B o])
def MOp.dummy : MOp:=⟨none,.mov (.c .bot),none⟩
def opAt (l : List MOp) (i : Nat) : MOp:=(l[i]?).getD .dummy
def siteOk (B : List Nat) (l : List MOp) (i j : Nat) : Bool :=
 j == i || match (opAt l j).site with
  | some u=>(opAt l i).site != some u && (!(opAt l i).k.isCall || has (opAt l i).k.hide u || (decide (j < i) && (B.getD i 0).testBit j))
  | none=>true
def drawRow (B : List Nat) (n : Nat) (l : List MOp) (o : Oper) (i : Nat) : Bool :=
 B.getD i 0 == mask B o && o.after.toList.all (fun e=>!Region.binds .any e || decide (e.on < i)) && (opAt l i).k.ops.all Opd.plain &&
 (List.range i).all (fun j=>(B.getD i 0).testBit j || pairOk (opAt l j) (opAt l i)) && (List.range n).all (siteOk B l i)
def drawRows (B : List Nat) (n : Nat) (l : List MOp) : List Oper → Nat → Bool
 | [],_=>true
 | o :: os,i=>drawRow B n l o i && drawRows B n l os (i + 1)
def drawOk (ops : Array Oper) (l : List MOp) : Bool:=drawRows (masks ops.toList []) l.length l ops.toList 0
theorem drawRows_get {B : List Nat} {n : Nat} {l : List MOp} : ∀ {os : List Oper} {k : Nat},drawRows B n l os k = true → ∀ i (h : i < os.length),drawRow B n l os[i] (k + i) = true
 | [],k,_,i,h=>by simp at h
 | o :: os,k,hd,i,h=>by
  simp only [drawRows,Bool.and_eq_true] at hd
  cases i with
  | zero=>exact hd.1
  | succ i =>
   have:=drawRows_get hd.2 i (by simpa using h)
   rw [show k + (i + 1) = k + 1 + i by omega]
   exact this
theorem mask_bit {B : List Nat} {o : Oper} {j : Nat} (h : (mask B o).testBit j = true) : ∃ e ∈ o.after,Region.binds .any e = true ∧ (e.on = j ∨ (B.getD e.on 0).testBit j = true):=by
 unfold mask at h
 have key : ∀ l : List Edge,(l.foldr (fun e m=>if Region.binds .any e then m ||| (2 ^ e.on ||| B.getD e.on 0) else m) 0).testBit j = true → ∃ e ∈ l,Region.binds .any e = true ∧ (e.on = j ∨ (B.getD e.on 0).testBit j = true):=by
  intro l
  induction l with
  | nil=>intro h; simp at h
  | cons e l ih =>
   intro h
   simp only [List.foldr] at h
   split at h
   ·rename_i hb
    simp only [Nat.testBit_or,Bool.or_eq_true,Nat.testBit_two_pow,decide_eq_true_eq] at h
    rcases h with h | h
    ·obtain ⟨e',he',h'⟩:=ih h
     exact ⟨e',List.mem_cons_of_mem _ he',h'⟩
    ·exact ⟨e,List.mem_cons_self ..,hb,h⟩
   ·obtain ⟨e',he',h'⟩:=ih h
    exact ⟨e',List.mem_cons_of_mem _ he',h'⟩
 obtain ⟨e,he,h'⟩:=key _ h
 exact ⟨e,by simpa using he,h'⟩
section
variable {φ : Nat → Option FuncId} {β : Beta} {P : Program} {O : Nat → Prop} {w w' : World} {nt n : Nat} {cx : Cx} {s s' s1 sN : St} {a : Act} {T : Nat → Option MFun} {draw : Array Oper → List MOp → Bool} {l : List MOp}
theorem step_exists {oper : Oper} {o : MOp} {ops : Array Oper} (hT : TblOk P T φ draw) (ih : ∀ m,m < n → CallSim P T φ draw m) (h : Rel φ β O nt cx s a w) (hs : Step T n cx o s s1) (hm : matchOp P φ nt ops oper o = true) :
  ∃ β' a' w',Rel φ β' O nt cx s1 a' w':=by
 have:=step_sound (K:=fun a' w'=>∃ β',Rel φ β' O nt cx s1 a' w') (Q:=fun _ _ _=>False) hT ih h hs hm fun a' w' β' hr _ _ _=>⟨β',hr⟩
 split at this
 ·unfold Oper.wp at this
  generalize (execOp a.eval oper).run P w = r at this
  cases r with
  | ok nx w1 =>
   cases nx <;> simp only [Oper.upon] at this
   case value v=>obtain ⟨β',h⟩:=this; exact ⟨β',_,_,h⟩
   case skip=>obtain ⟨β',h⟩:=this; exact ⟨β',_,_,h⟩
   case defer d=>obtain ⟨β',h⟩:=this; exact ⟨β',_,_,h⟩
   case enter f args =>
    obtain ⟨e,w2,fr,hR,_⟩:=this []
    cases e <;> simp only at hR
    ·obtain ⟨β',h⟩:=hR; exact ⟨β',_,_,h⟩
    ·obtain ⟨_,_,hR⟩:=hR; exact hR.elim
   case row rw args =>
    obtain ⟨v,w2,hR,_⟩:=this default []
    obtain ⟨β',h⟩:=hR; exact ⟨β',_,_,h⟩
  | halt x w1=>cases x <;> simp only [Oper.upon] at this
 ·obtain ⟨β',h⟩:=this; exact ⟨β',_,_,h⟩
theorem Rel.lows (h : Rel φ β O nt cx s a w) : Lows cx s:=by
 intro t i hi
 have hv:=h.slots t
 cases hg : Slots.get s.sl t <;> rw [hg] at hi hv <;> simp [AV.into] at hi
 ·subst hi
  obtain ⟨pl,o,hb,_⟩:=LR_ptr hv
  exact h.dom _ _ hb
 ·subst hi
  obtain ⟨pl,m,t',cap,hb,_⟩:=LR_sl hv
  exact h.dom _ _ hb
def Chain (T : Nat → Option MFun) (n : Nat) (cx : Cx) (l : List MOp) : List Nat → St → St → Prop
 | [],s,sN=>s = sN
 | i :: r,s,sN=>∃ s1,Step T n cx (opAt l i) s s1 ∧ Chain T n cx l r s1 sN
theorem chain_range {tr : Nat → St} (h : ∀ i (hi : i < l.length),Step T n cx l[i] (tr i) (tr (i + 1))) : ∀ d k,k + d = l.length → Chain T n cx l (List.range' k d) (tr k) (tr l.length):=by
 intro d
 induction d with
 | zero=>intro k hk; simp only [List.range'_zero,Chain]; congr
 | succ d ih =>
  intro k hk
  simp only [List.range'_succ,Chain]
  refine ⟨tr (k + 1),?_,ih (k + 1) (by omega)⟩
  have : opAt l k = l[k]'(by omega):=by simp [opAt,List.getElem?_eq_getElem (show k < l.length by omega)]
  rw [this]
  exact h k (by omega)
theorem bubble {i : Nat} {post : List Nat} {ops : Array Oper} (hT : TblOk P T φ draw) (ih : ∀ m,m < n → CallSim P T φ draw m) : ∀ {pre : List Nat} {s : St},(∃ β a w,Rel φ β O nt cx s a w) → Chain T n cx l (pre ++ i :: post) s sN →
  (∀ j ∈ pre,pairOk (opAt l j) (opAt l i) = true ∧ ∃ oper,matchOp P φ nt ops oper (opAt l j) = true) → (∀ j ∈ pre ++ [i],∀ x ∈ (opAt l j).k.ops,x.plain = true) →
  (∀ j ∈ pre ++ [i],∀ u,(opAt l j).site = some u → Fresh cx u s) →
  (pre ++ [i]).Pairwise (fun j k=>∀ u,(opAt l k).site = some u → (opAt l j).site ≠ some u ∧ ((opAt l j).k.isCall = true → has (opAt l j).k.hide u = true)) →
  ∃ s1,Step T n cx (opAt l i) s s1 ∧ Chain T n cx l (pre ++ post) s1 sN
 | [],s,_,hc,_,_,_,_=>hc
 | j :: pre,s,⟨β,a,w,hR⟩,hc,hpr,hpl,hfr,hpw=>by
  obtain ⟨t,hj,hc⟩:=hc
  obtain ⟨hok,oper,hm⟩:=hpr j (List.mem_cons_self ..)
  rw [List.cons_append,List.pairwise_cons] at hpw
  have hplj:=hpl j (by simp)
  obtain ⟨t1,ht1,hc1⟩:=bubble hT ih (pre:=pre) (step_exists hT ih hR hj hm) hc (fun k hk=>hpr k (List.mem_cons_of_mem _ hk)) (fun k hk=>hpl k (by rw [List.cons_append]; exact List.mem_cons_of_mem _ hk))
   (fun k hk u hu=>Step_fresh hj (hfr k (by rw [List.cons_append]; exact List.mem_cons_of_mem _ hk) u hu) hplj (hpw.1 k hk u hu).1 (hpw.1 k hk u hu).2) hpw.2
  obtain ⟨s1,h1,h2⟩:=swap hj ht1 hok hR.lows hplj (hpl i (by simp)) (hfr j (by simp)) (hfr i (by simp))
  exact ⟨s1,h1,t1,h2,hc1⟩
theorem getD_false {L : Array Bool} {i : Nat} (h : i < L.size) : L.getD i true = L.getD i false:=by simp [h]
theorem Rel_drawn (h : Rel φ β O nt cx s a w) : Rel φ β O nt cx s a { w with drawn:=w.drawn + 1 } :=
 ⟨h.slots,⟨fun i b hb=>by
  obtain ⟨pl,cs,Ty,fr,hB⟩:=h.mem.live i b hb
  exact ⟨pl,cs,Ty,fr,hB.place,hB.ty,hB.fits,hB.heap,hB.room,hB.size,hB.cells,hB.own⟩,h.mem.apart⟩,h.dom,h.top,h.fresh,h.defers,h.size⟩
theorem drawSound (hT : TblOk P T φ drawOk) (hmo : P.follows .mixedOrders = true) : DrawSound P T φ drawOk:=by
 intro n id ops l β0 O nt cx tr a0 w0 ih hdr hmat hst hR0 hhead
 obtain ⟨hlen,hget⟩:=matchOps_get hmat
 have hsz : ops.size = l.length:=by simpa using hlen

 let B:=masks ops.toList []
 have hrow : ∀ i (h : i < l.length),drawRow B l.length l (ops[i]'(by omega)) i = true:=by
  intro i h
  have:=drawRows_get hdr i (by simpa using (show i < ops.size by omega))
  simpa using this
 have hat : ∀ i (h : i < l.length),opAt l i = l[i]:=by
  intro i h
  simp [opAt,List.getElem?_eq_getElem h]
 have hmatch : ∀ i (h : i < l.length),matchOp P φ nt ops (ops[i]'(by omega)) (opAt l i) = true:=by
  intro i h
  rw [hat i h]
  have:=hget i h (by simpa using (show i < ops.size by omega))
  simpa using this
 have hacyc : ∀ i (h : i < l.length),∀ e ∈ (ops[i]'(by omega)).after,Region.binds .any e = true → e.on < i:=by
  intro i h e he hb
  have:=hrow i h
  simp only [drawRow,Bool.and_eq_true,List.all_eq_true] at this
  have:=this.1.1.1.2 e (by simpa using he)
  simpa [hb] using this
 have hmask : ∀ i (h : i < l.length),B.getD i 0 = mask B (ops[i]'(by omega)):=by
  intro i h
  have:=hrow i h
  simp only [drawRow,Bool.and_eq_true,beq_iff_eq] at this
  exact this.1.1.1.1
 have hplain : ∀ i,i < l.length → ∀ x ∈ (opAt l i).k.ops,x.plain = true:=by
  intro i h x hx
  have:=hrow i h
  simp only [drawRow,Bool.and_eq_true,List.all_eq_true] at this
  exact this.1.1.2 x hx
 have hpair : ∀ i j,i < l.length → j < i → (B.getD i 0).testBit j = false → pairOk (opAt l j) (opAt l i) = true:=by
  intro i j h hj hb
  have:=hrow i h
  simp only [drawRow,Bool.and_eq_true,List.all_eq_true] at this
  have:=this.1.2 j (by simpa using hj)
  rw [hb] at this
  simpa using this
 have hsite : ∀ i j,i < l.length → j < l.length → j ≠ i → ∀ u,(opAt l j).site = some u → (opAt l i).site ≠ some u ∧ ((opAt l i).k.isCall = true → has (opAt l i).k.hide u = true ∨ (j < i ∧ (B.getD i 0).testBit j = true)):=by
  intro i j h hj hne u hu
  have:=hrow i h
  simp only [drawRow,Bool.and_eq_true,List.all_eq_true] at this
  have:=this.2 j (by simpa using hj)
  simp only [siteOk,hu,Bool.or_eq_true,beq_iff_eq,hne,false_or,Bool.and_eq_true,bne_iff_ne,Bool.not_eq_true',decide_eq_true_eq] at this
  refine ⟨this.1,fun hc=>?_⟩
  rcases this.2 with (h1 | h1) | h1
  ·rw [hc] at h1; simp at h1
  ·exact .inl h1
  ·exact .inr h1

 have hclos : ∀ (L : Array Bool),(∀ k (h : k < l.length),L.getD k false = true → ∀ e ∈ (ops[k]'(by omega)).after,Region.binds .any e = true → L.getD e.on false = true) →
   ∀ i (h : i < l.length),(∀ e ∈ (ops[i]'(by omega)).after,Region.binds .any e = true → L.getD e.on false = true) → ∀ j,(B.getD i 0).testBit j = true → L.getD j false = true:=by
  intro L hdown i
  induction i using Nat.strongRecOn with
  | _ i ihi =>
   intro h hpre j hj
   rw [hmask i h] at hj
   obtain ⟨e,he,hb,hor⟩:=mask_bit hj
   have hlt:=hacyc i h e he hb
   rcases hor with rfl | hor
   ·exact hpre e he hb
   ·exact ihi e.on hlt (by omega) (hdown e.on (by omega) (hpre e he hb)) j hor
 apply wp_region_any hmo
 have main : ∀ fuel (L : Array Bool) (rem : List Nat) (s : St) (a : Act) (w : World) (β : Beta),rem.length = fuel → L.size = l.length → Left φ O nt cx β0 (tr 0).hp.next w0 s β a w → Chain T n cx l rem s (tr l.length) →
   (∀ i,i ∈ rem ↔ i < l.length ∧ L.getD i true = false) → rem.Pairwise (· < ·) → (∀ i ∈ rem,∀ u,(opAt l i).site = some u → Fresh cx u s) →
   (∀ k (h : k < l.length),L.getD k false = true → ∀ e ∈ (ops[k]'(by omega)).after,Region.binds .any e = true → L.getD e.on false = true) →
   wpAny P .any ops (RegPost φ O nt cx β0 (tr 0).hp.next w0 (tr l.length)) fuel L a w:=by
  intro fuel
  induction fuel with
  | zero =>
   intro L rem s a w β hfu hLs hL hC hrem hsort hfr hdown
   have : rem = []:=List.eq_nil_of_length_eq_zero hfu
   subst this
   simp only [Chain] at hC
   subst hC
   refine ⟨?_,β,hL⟩
   refine List.eq_nil_iff_forall_not_mem.2 fun j hj=>?_
   obtain ⟨h1,o,ho,_⟩:=mem_ready.1 hj
   have hj' : j < l.length:=by rw [← hsz]; exact (Array.getElem?_eq_some_iff.1 ho).1
   have:=(hrem j).2 ⟨hj',h1⟩
   simp at this
  | succ fuel ihf =>
   intro L rem s a w β hfu hLs hL hC hrem hsort hfr hdown
   refine ⟨fun hnil=>?_,fun i hi=>?_⟩
   ·exfalso
    cases rem with
    | nil=>simp at hfu
    | cons i0 r =>
     have hi0:=(hrem i0).1 (List.mem_cons_self ..)
     have : i0 ∈ Region.ready .any ops L:=by
      refine mem_ready.2 ⟨hi0.2,ops[i0]'(by omega),Array.getElem?_eq_getElem _,fun e he hb=>?_⟩
      have hlt:=hacyc i0 hi0.1 e he hb
      cases hg : L.getD e.on true with
      | true=>rw [← getD_false (by omega)]; exact hg
      | false =>
       have:=(hrem e.on).2 ⟨by omega,hg⟩
       rcases List.mem_cons.1 this with h | h
       ·omega
       ·have:=(List.pairwise_cons.1 hsort).1 e.on h
        omega
     rw [hnil] at this
     simp at this
   ·obtain ⟨h1,o,ho,hpre⟩:=mem_ready.1 hi
    have hil : i < l.length:=by rw [← hsz]; exact (Array.getElem?_eq_some_iff.1 ho).1
    have hio : o = ops[i]'(by omega):=(Array.getElem?_eq_some_iff.1 ho).2.symm
    subst hio
    have hmem:=(hrem i).2 ⟨hil,h1⟩
    obtain ⟨pre,post,rfl⟩:=List.append_of_mem hmem
    have hpw:=List.pairwise_append.1 hsort
    have hprelt : ∀ j ∈ pre,j < i:=fun j hj=>hpw.2.2 j hj i (List.mem_cons_self ..)
    have hprel : ∀ j ∈ pre ++ [i],j < l.length:=by
     intro j hj
     rcases List.mem_append.1 hj with h | h
     ·exact ((hrem j).1 (List.mem_append_left _ h)).1
     ·simp at h; subst h; exact hil
    have hunl : ∀ j ∈ pre ++ i :: post,L.getD j false = false:=by
     intro j hj
     have:=(hrem j).1 hj
     rw [← getD_false (by omega)]; exact this.2
    have hbit : ∀ j ∈ pre ++ i :: post,(B.getD i 0).testBit j = false:=by
     intro j hj
     cases hb : (B.getD i 0).testBit j with
     | false=>rfl
     | true =>
      have:=hclos L hdown i hil hpre j hb
      rw [hunl j hj] at this
      simp at this
    obtain ⟨s1,hs1,hC1⟩:=bubble (φ:=φ) (O:=O) (nt:=nt) (ops:=ops) hT ih (pre:=pre) (post:=post) (i:=i) ⟨β,a,w,hL.rel⟩ hC
     (fun j hj=>⟨hpair i j hil (hprelt j hj) (hbit j (List.mem_append_left _ hj)),_,hmatch j (hprel j (List.mem_append_left _ hj))⟩)
     (fun j hj=>hplain j (hprel j hj))
     (fun j hj=>hfr j (by
      rcases List.mem_append.1 hj with h | h
      ·exact List.mem_append_left _ h
      ·simp at h; subst h; exact List.mem_append_right _ (List.mem_cons_self ..)))
     (by
      have hsrt : (pre ++ [i]).Pairwise (· < ·):=by
       refine List.pairwise_append.2 ⟨hpw.1,by simp,fun j hj k hk=>?_⟩
       simp at hk; subst hk; exact hprelt j hj
      refine hsrt.imp_of_mem fun {j k} hj hk hlt u hu=>?_
      obtain ⟨h1,h2⟩:=hsite j k (hprel j hj) (hprel k hk) (by omega) u hu
      refine ⟨h1,fun hc=>?_⟩
      rcases h2 hc with h | h
      ·exact h
      ·omega)
    have hstep:=step_sound (K:=wpAny P .any ops (RegPost φ O nt cx β0 (tr 0).hp.next w0 (tr l.length)) fuel (L.setIfInBounds i true)) (Q:=RegPost φ O nt cx β0 (tr 0).hp.next w0 (tr l.length)) (ops:=ops) hT ih hL.rel hs1 (hmatch i hil)
     fun a' w' β' hr hsame hext hn=>by
      have hset : ∀ j,j < l.length → (L.setIfInBounds i true).getD j true = if j = i then true else L.getD j true:=by
       intro j hj
       by_cases e : j = i
       ·subst e; simp [hLs,hj]
       ·rw [if_neg e]; exact getD_set_ne true (Ne.symm e)
      refine ihf (L.setIfInBounds i true) (pre ++ post) s1 a' w' β' (by simp at hfu ⊢; omega) (by simpa using hLs) (hL.step hr hsame hext hn) hC1 (fun j=>?_) (hsort.sublist ?_) (fun k hk u hu=>?_) (fun k hk hkl e he hb=>?_)
      ·constructor
       ·intro hj
        have hj' : j ∈ pre ++ i :: post:=by
         rcases List.mem_append.1 hj with h | h
         ·exact List.mem_append_left _ h
         ·exact List.mem_append_right _ (List.mem_cons_of_mem _ h)
        have hjl:=(hrem j).1 hj'
        have hne : j ≠ i:=by
         rcases List.mem_append.1 hj with h | h
         ·have:=hprelt j h; omega
         ·have:=(List.pairwise_cons.1 hpw.2.1).1 j h; omega
        rw [hset j hjl.1,if_neg hne]
        exact hjl
       ·rintro ⟨hjl,hj⟩
        rw [hset j hjl] at hj
        by_cases e : j = i
        ·rw [if_pos e] at hj; simp at hj
        ·rw [if_neg e] at hj
         have:=(hrem j).2 ⟨hjl,hj⟩
         rcases List.mem_append.1 this with h | h
         ·exact List.mem_append_left _ h
         ·rcases List.mem_cons.1 h with h | h
          ·exact absurd h e
          ·exact List.mem_append_right _ h
      ·exact List.Sublist.append (List.Sublist.refl _) (List.sublist_cons_self ..)
      ·have hk' : k ∈ pre ++ i :: post:=by
        rcases List.mem_append.1 hk with h | h
        ·exact List.mem_append_left _ h
        ·exact List.mem_append_right _ (List.mem_cons_of_mem _ h)
       have hkl:=((hrem k).1 hk').1
       have hne : k ≠ i:=by
        rcases List.mem_append.1 hk with h | h
        ·have:=hprelt k h; omega
        ·have:=(List.pairwise_cons.1 hpw.2.1).1 k h; omega
       obtain ⟨h1,h2⟩:=hsite i k hil hkl hne u hu
       refine Step_fresh hs1 (hfr k hk' u hu) (hplain i hil) h1 fun hc=>?_
       rcases h2 hc with h | ⟨_,h⟩
       ·exact h
       ·rw [hbit k hk'] at h; simp at h
      ·by_cases e' : k = i
       ·subst e'; exact getD_set_true (hpre e he hb)
       ·rw [getD_set_ne false (Ne.symm e')] at hkl
        exact getD_set_true (hdown k hk hkl e he hb)
    unfold wpOp
    rw [ho]
    simp only
    split
    ·rename_i hw; rw [if_pos (by simpa using hw)] at hstep; exact .inl (by simpa using hstep)
    ·rename_i hw; rw [if_neg (by simpa using hw)] at hstep; simpa using hstep
 have hsz' : ops.size = (List.range' 0 l.length).length:=by simp [hsz]
 have hR1:=Rel_drawn hR0
 refine main ops.size (Array.replicate ops.size false) (List.range' 0 l.length) (tr 0) a0 _ β0 (by simp [hsz]) (by simp [hsz]) ⟨hR1,⟨rfl,rfl,rfl,Nat.le_refl _,fun _ _ _=>rfl⟩,.refl,Nat.le_refl _⟩ (chain_range hst l.length 0 (by omega)) (fun i=>?_) (List.pairwise_lt_range' ..) (fun i hi u hu=>?_) (fun k hk hkl=>?_)
 ·simp only [List.mem_range'_1,Nat.zero_le,Nat.zero_add,true_and]
  constructor
  ·intro h; exact ⟨h,by simp [hsz,h]⟩
  ·exact fun h=>h.1
 ·simp only [List.mem_range'_1,Nat.zero_le,Nat.zero_add,true_and] at hi
  rw [hat i hi] at hu
  simp only [drawHead,List.all_eq_true] at hhead
  have:=hhead _ (List.getElem_mem hi)
  rw [hu] at this
  simp only [Bool.and_eq_true,Option.isNone_iff_eq_none,List.all_eq_true,Bool.not_eq_true'] at this
  exact ⟨this.1,this.2⟩
 ·rw [← getD_false (by simp [hsz,hk])] at hkl
  simp [hsz,hk] at hkl
end
open Go.RowKit
def Ty.kinds : Ty → List LK
 | .leaf k=>[k]
 | .arr n t=>(List.replicate n t.kinds).flatten
 | .unit=>[]
 | .cons a b=>a.kinds ++ b.kinds
def AV.ranged : AV → Prop
 | .int k n=>k.has n
 | .str s=>(s.size : Int) ≤ IntKind.i64.max
 | .cons a b=>a.ranged ∧ b.ranged
 | .arr _ f=>∀ i,(f i).ranged
 | _=>True
def okCell : LK → Value → Prop
 | .bool,x=>∃ b,x = .bool b
 | .int k,x=>∃ n,x = .int k n ∧ k.has n
 | .str,x=>∃ s,x = .string s ∧ (s.size : Int) ≤ IntKind.i64.max
 | _,_=>False
def kindOf : Option TypeDesc → Option LK
 | some .bool=>some .bool
 | some .string=>some .str
 | some (.int k)=>some (.int k)
 | _=>none
section
variable {φ : Nat → Option FuncId} {β : Beta} {P : Program} {T : Nat → Option MFun} {draw : Array Oper → List MOp → Bool}
theorem okCell_leaf {k : LK} {x : Value} (h : okCell k x) : ∃ v,k.fits v = true ∧ v.safe = true ∧ v.isAgg = false ∧ LR φ β v x ∧ v.ranged:=by
 cases k <;> simp only [okCell] at h
 ·obtain ⟨b,rfl⟩:=h; exact ⟨.bool b,rfl,rfl,rfl,rfl,trivial⟩
 ·obtain ⟨n,rfl,hn⟩:=h; exact ⟨.int _ n,by simp [LK.fits],rfl,rfl,rfl,hn⟩
 ·obtain ⟨s,rfl,hs⟩:=h; exact ⟨.str s,rfl,rfl,rfl,rfl,hs⟩
theorem build_arr {t : Ty} (ih : ∀ cs : List Value,All2 okCell t.kinds cs → ∃ v,t.fits v = true ∧ All2 (LR φ β) v.flat cs ∧ v.ranged) : ∀ (n : Nat) (cs : List Value),All2 okCell (List.replicate n t.kinds).flatten cs →
  ∃ l : List AV,l.length = n ∧ (∀ v ∈ l,t.fits v = true ∧ v.ranged) ∧ All2 (LR φ β) (l.flatMap AV.flat) cs
 | 0,cs,h=>by
  have:=h.1
  simp at this
  cases cs with
  | nil=>exact ⟨[],rfl,by simp,All2.nil⟩
  | cons=>simp at this
 | n + 1,cs,h=>by
  simp only [List.replicate_succ,List.flatten_cons] at h
  obtain ⟨a,b,rfl,ha,hb⟩ : ∃ a b,cs = a ++ b ∧ All2 okCell t.kinds a ∧ All2 okCell (List.replicate n t.kinds).flatten b:=by
   have h1:=h.seg 0 t.kinds.length
   have h2:=h.seg t.kinds.length cs.length
   have hl:=h.1
   rw [List.length_append] at hl
   refine ⟨cs.take t.kinds.length,cs.drop t.kinds.length,(List.take_append_drop _ _).symm,?_,?_⟩
   ·simpa using h1
   ·rw [List.drop_left,List.take_of_length_le (by omega),List.take_of_length_le (by rw [List.length_drop]; omega)] at h2
    exact h2
  obtain ⟨v,hv,hvl,hvr⟩:=ih a ha
  obtain ⟨l,hl,hlf,hll⟩:=build_arr ih n b hb
  refine ⟨v :: l,by simp [hl],fun w hw=>?_,?_⟩
  ·rcases List.mem_cons.1 hw with rfl | hw
   ·exact ⟨hv,hvr⟩
   ·exact hlf w hw
  ·simp only [List.flatMap_cons]
   exact hvl.append hll
theorem arr_flat (l : List AV) : (AV.ofList l).flat = l.flatMap AV.flat:=by
 simp only [AV.ofList,AV.flat]
 have h : (List.finRange l.length).map l.get = l:=List.ext_getElem (by simp) (by simp)
 have h2 : ((List.finRange l.length).map l.get).flatMap AV.flat = (List.finRange l.length).flatMap fun i=>(l.get i).flat:=List.flatMap_map ..
 rw [← h2,h]
theorem build : ∀ (t : Ty) (cs : List Value),All2 okCell t.kinds cs → ∃ v,t.fits v = true ∧ All2 (LR φ β) v.flat cs ∧ v.ranged
 | .leaf k,cs,h=>by
  have hl:=h.1
  simp only [Ty.kinds,List.length_singleton] at hl
  match cs,hl with
  | [x],_ =>
   obtain ⟨v,h1,h2,h3,h4,h5⟩:=okCell_leaf (φ:=φ) (β:=β) h.head
   refine ⟨v,by simp [Ty.fits,h1,h2],?_,h5⟩
   rw [(LK.fits_flat h1).1]
   exact All2.cons h4 All2.nil
 | .unit,cs,h=>by
  have hl:=h.1
  simp only [Ty.kinds,List.length_nil] at hl
  match cs,hl with
  | [],_=>exact ⟨.unit,rfl,All2.nil,trivial⟩
 | .cons a b,cs,h=>by
  simp only [Ty.kinds] at h
  have h1:=h.seg 0 a.kinds.length
  have h2:=h.seg a.kinds.length b.kinds.length
  have hl:=h.1
  simp only [List.length_append] at hl
  obtain ⟨v,hv,hvl,hvr⟩:=build a (cs.take a.kinds.length) (by simpa using h1)
  obtain ⟨w,hw,hwl,hwr⟩:=build b (cs.drop a.kinds.length) (by
   rw [List.drop_left,List.take_length] at h2
   rw [List.take_of_length_le (by simp; omega)] at h2
   exact h2)
  refine ⟨.cons v w,by simp [Ty.fits,hv,hw],?_,hvr,hwr⟩
  rw [← List.take_append_drop a.kinds.length cs]
  exact hvl.append hwl
 | .arr n t,cs,h=>by
  obtain ⟨l,hl,hlf,hll⟩:=build_arr (t:=t) (fun cs h=>build t cs h) n cs h
  subst hl
  refine ⟨.ofList l,?_,by rw [arr_flat]; exact hll,fun i=>(hlf _ (List.get_mem ..)).2⟩
  simp only [AV.ofList,Ty.fits,beq_self_eq_true,Bool.true_and,List.all_eq_true]
  exact fun i _=>(hlf _ (List.get_mem ..)).1
def Given (φ : Nat → Option FuncId) (β : Beta) (t : Ty) (v : AV) (x : Value) : Prop:=t.fits v = true ∧ v.ranged ∧ VR φ β v x
theorem cell_ok {w : World} {r : Reach} {b : Nat} {u : TypeId} {x : Value} {k : LK} (hk : kindOf (P.underlying u) = some k) (h : Cell.okWide P w r b u x) : okCell k x:=by
 unfold kindOf at hk
 unfold Cell.okWide Cell.ok at h
 split at hk <;> simp at hk <;> subst hk <;> rename_i hu <;> simp only [hu] at h
 ·cases x <;> simp at h; exact ⟨_,rfl⟩
 ·cases x <;> simp at h; exact ⟨_,rfl,h⟩
 ·cases x <;> simp at h
  obtain ⟨rfl,h⟩:=h
  exact ⟨_,rfl,h⟩
theorem given_agg {t : Ty} {U : TypeId} {ts : List TypeId} {w : World} {r : Reach} {b : Nat} {x : Value} (hts : P.cellTypes P.depth U = some ts) (hk : (ts.map fun u=>kindOf (P.underlying u)) = t.kinds.map some)
  (ha : t.isAgg = true) (hu : (∃ fs,P.underlying U = some (.struct fs)) ∨ ∃ n e,P.underlying U = some (.array n e)) (hc : P.cellsOf U = t.kinds.length) (h : Value.okWide P w r b U x) : ∃ v,Given φ β t v x:=by
 have h' : ∃ cs : Array Value,x = .agg cs ∧ cs.size = P.cellsOf U ∧ Row.okWide P w r b U cs:=by
  unfold Value.okWide at h
  rcases hu with ⟨fs,hu⟩ | ⟨n,e,hu⟩ <;> rw [hu] at h <;> exact h
 obtain ⟨cs,rfl,hsz,ts',hts',_,hrow⟩:=h'
 rw [hts] at hts'
 obtain rfl:=Option.some.inj hts'
 have hlen : ts.length = t.kinds.length:=by simpa using congrArg List.length hk
 obtain ⟨v,hf,hl,hr⟩:=build (φ:=φ) (β:=β) t cs.toList ⟨by simp [hsz,hc],fun i k y hi hy=>by
  obtain ⟨u,hu,hcell⟩:=hrow i y (by simpa using hy)
  have hi' : i < t.kinds.length:=by
   rcases Nat.lt_or_ge i t.kinds.length with h | h
   ·exact h
   ·rw [List.getElem?_eq_none h] at hi; simp at hi
  rw [Nat.mod_eq_of_lt (by omega)] at hu
  refine cell_ok (u:=u) ?_ hcell
  have:=congrArg (fun l=>l[i]?) hk
  simp only [List.getElem?_map,hu,hi,Option.map] at this
  simpa using this⟩
 refine ⟨v,hf,hr,VR_of_VR1 ?_⟩
 unfold VR1
 rw [if_pos (by rw [Ty.fits_isAgg hf]; exact ha)]
 exact ⟨Ty.fits_safe hf,cs.toList,by simp,hl⟩
theorem given_leaf {k : LK} {U : TypeId} {w : World} {r : Reach} {b : Nat} {x : Value} (hk : kindOf (P.underlying U) = some k) (h : Value.okWide P w r b U x) : ∃ v,Given φ β (.leaf k) v x:=by
 have hc : Cell.okWide P w r b U x:=by
  unfold Value.okWide at h
  unfold kindOf at hk
  split at hk <;> simp at hk <;> rename_i hu <;> rw [hu] at h <;> exact h
 obtain ⟨v,h1,h2,h3,h4,h5⟩:=okCell_leaf (φ:=φ) (β:=β) (cell_ok hk hc)
 exact ⟨v,by simp [Ty.fits,h1,h2],h5,VR_of_VR1 (by simp only [VR1,h3,Bool.false_eq_true,if_false]; exact h4)⟩
end
def allOk (P : Program) (φ : Nat → Option FuncId) : List (Option MFun) → Nat → Bool
 | [],_=>true
 | none :: r,i=>allOk P φ r (i + 1)
 | some fn :: r,i=>(match φ i with | some F=>matchFn P φ drawOk F fn | none=>true) && allOk P φ r (i + 1)
theorem allOk_get {P : Program} {φ : Nat → Option FuncId} : ∀ {l : List (Option MFun)} {k : Nat},allOk P φ l k = true → ∀ i fn F,l.getD i none = some fn → φ (k + i) = some F → matchFn P φ drawOk F fn = true
 | [],k,_,i,fn,F,h,_=>by simp at h
 | none :: r,k,ha,i,fn,F,h,hF=>by
  cases i with
  | zero=>simp at h
  | succ i=>exact allOk_get (l:=r) (k:=k + 1) ha i fn F (by simpa using h) (by rw [← hF]; congr 1; omega)
 | some g :: r,k,ha,i,fn,F,h,hF=>by
  simp only [allOk,Bool.and_eq_true] at ha
  cases i with
  | zero =>
   simp at h
   subst h
   have h1:=ha.1
   rw [show k = k + 0 by rfl,hF] at h1
   exact h1
  | succ i=>exact allOk_get (l:=r) (k:=k + 1) ha.2 i fn F (by simpa using h) (by rw [← hF]; congr 1; omega)
theorem tblOk_of {P : Program} {φ : Nat → Option FuncId} {l : List (Option MFun)} {T : Nat → Option MFun} (hT : ∀ f,T f = l.getD f none) (h : allOk P φ l 0 = true) : TblOk P T φ drawOk :=
 fun f fn F h1 h2=>allOk_get h f fn F (by rw [← hT]; exact h1) (by simpa using h2)
end Go.Mini
