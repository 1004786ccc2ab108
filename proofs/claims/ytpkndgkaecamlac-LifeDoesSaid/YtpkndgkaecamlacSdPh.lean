/- A part of the proof: what Sd computes, step by step. -/
import Derived.Test.YtpkndgkaecamlacSdPg
import Derived.ChangeSame
import Derived.Carry
import Derived.OpenShut
import Derived.ProofKit
import Derived.WalkKit
import Derived.Deep.Slices
import Derived.Deep.Fields1

set_option linter.unusedSimpArgs false
set_option linter.unusedVariables false
set_option maxHeartbeats 4000000
set_option maxRecDepth 100000
namespace Go.Mini
theorem held_iff {m : Img} {x : Int} : held m x = true ↔ ∃ n p,n < 8 ∧ p < 2 ∧ (m.ino n).live = true ∧ (m.ino n).prt p = x:=by
 rw [held,anyN_iff]
 constructor
 ·rintro ⟨n,hn,h⟩
  simp only [Bool.and_eq_true,Bool.or_eq_true,decide_eq_true_eq] at h
  rcases h.2 with e | e
  ·exact ⟨n,0,hn,by omega,h.1,e⟩
  ·exact ⟨n,1,hn,by omega,h.1,e⟩
 ·rintro ⟨n,p,hn,hp,hl,e⟩
  refine ⟨n,hn,?_⟩
  simp only [Bool.and_eq_true,Bool.or_eq_true,decide_eq_true_eq]
  rcases (by omega : p = 0 ∨ p = 1) with rfl | rfl
  ·exact ⟨hl,.inl e⟩
  ·exact ⟨hl,.inr e⟩
structure Ft (a b : Img) : Prop where
 fa : ∀ n,n < 8 → (a.ino n).live = true → (b.ino n).live = true → ¬(a.ino n).stamp = (b.ino n).stamp → refs b n = 0
 fb : ∀ n k,n < 8 → k < 8 → ¬k = n → (a.ino n).live = true → (b.ino k).live = true → ¬(b.ino k).stamp = (a.ino n).stamp
 fc : ∀ n p k q,n < 8 → p < 2 → k < 8 → q < 2 → (a.ino n).live = true → 0 ≤ (a.ino n).prt p → (b.ino k).live = true → (b.ino k).prt q = (a.ino n).prt p → k = n ∧ q = p ∧ (b.ino k).stamp = (a.ino n).stamp
 fd : ∀ x : Nat,x < 9 → held b x = true → (a.dat x).of = (b.dat x).of
 fe : ∀ d s,d < 3 → s < 4 → ¬(a.ent d s).name = ⟨#[]⟩ → ¬(b.ent d s).name = ⟨#[]⟩ → a.ent d s = b.ent d s
 fg : ∀ d s t,d < 3 → s < 4 → t < 4 → ¬t = s → ¬(a.ent d s).name = ⟨#[]⟩ → ¬(b.ent d t).name = (a.ent d s).name
theorem Ft.fits {a b : Img} (h : Ft a b) : Fits a b :=
 ⟨fun n hn=>⟨h.fa n hn,fun k hk=>h.fb n k hn hk,fun p hp hl h0 k hk q hq=>h.fc n p k q hn hp hk hq hl h0⟩,fun x hx=>h.fd x hx,fun d hd s hs=>⟨h.fe d s hd hs,fun t ht=>h.fg d s t hd hs ht⟩⟩
theorem Ft.self {m : Img} (hc : Ck m) : Ft m m :=
 ⟨fun n _ _ _ h=>absurd rfl h,fun n k hn hk hne hl hl' e=>hc.st n k hn hk (fun h=>hne h.symm) hl hl' e.symm,
 fun n p k q hn hp hk hq hl h0 hl' e=>by
  obtain ⟨rfl,rfl⟩:=hc.pt n k p q hn hk hp hq hl hl' h0 e.symm
  exact ⟨rfl,rfl,rfl⟩,
 fun _ _ _=>rfl,fun _ _ _ _ _ _=>rfl,fun d s t hd hs ht hne hn=>hc.un d s t hd hs ht hne hn⟩
theorem Ft.data {a b : Img} (h : Ft a b) (x : Nat) : Ft a (b.setDat x (a.dat x)) :=
 ⟨h.fa,h.fb,h.fc,fun y hy hh=>by
  rw [dat_setDat]
  split
  ·rename_i e; rw [e.1]
  ·exact h.fd y hy hh,h.fe,h.fg⟩
theorem Ft.inodes {a b : Img} (h : Ft a b) (ha : Ck a) (hb : Ck b) {n0 : Nat} (hn0 : n0 ≤ 4) : Ft a (wrInodes a b n0 4):=by
 have hE : ∀ d s,(wrInodes a b n0 4).ent d s = b.ent d s:=fun d s=>wrInodes_ent a b n0 d s 4
 have hI:=wrInodes_ino' a b n0 hn0
 have hD:=fun x=>wrInodes_dat a b n0 x 4
 have hR : ∀ i,refs (wrInodes a b n0 4) i = refs b i:=fun i=>refs_congr hE i
 generalize wrInodes a b n0 4 = X at *

 have hL : ∀ n,n < 8 → (X.ino n).live = true → ((a.ino n).live = true ∧ (X.ino n).stamp = (a.ino n).stamp ∧ ∀ p,p < 2 → (X.ino n).prt p = part a b n p) ∨
   ((b.ino n).live = true ∧ (X.ino n).stamp = (b.ino n).stamp ∧ ∀ p,(X.ino n).prt p = (b.ino n).prt p):=by
  intro n hn hl
  rw [hI] at hl ⊢
  split at hl
  ·rename_i hr
   rw [if_pos hr]
   rcases inodeAs_live_cases hl with ⟨a1,a2,a3⟩ | ⟨_,a2,_,a4,a5⟩
   ·exact .inl ⟨a1,a2,a3⟩
   ·exact .inr ⟨a2,a4,a5⟩
  ·rename_i hr
   rw [if_neg hr]
   exact .inr ⟨hl,rfl,fun _=>rfl⟩
 refine ⟨fun n hn hl hl' hne=>?_,fun n k hn hk hne hl hl'=>?_,fun n p k q hn hp hk hq hl h0 hl' heq=>?_,fun x hx hh=>?_,fun d s hd hs h1 h2=>?_,fun d s t hd hs ht hne h1=>?_⟩
 ·rw [hR]
  rcases hL n hn hl' with ⟨_,e,_⟩ | ⟨e1,e2,_⟩
  ·exact absurd e.symm hne
  ·exact h.fa n hn hl e1 (by rw [← e2]; exact hne)
 ·rcases hL k hk hl' with ⟨e1,e,_⟩ | ⟨e1,e2,_⟩
  ·rw [e]; exact ha.st k n hk hn hne e1 hl
  ·rw [e2]; exact h.fb n k hn hk hne hl e1
 ·rcases hL k hk hl' with ⟨e1,e2,e3⟩ | ⟨e1,e2,e3⟩
  ·rw [e3 q hq] at heq
   rcases part_cases a b k q with c | ⟨c,_⟩ | ⟨c,c1,c2⟩
   ·omega
   ·rw [c] at heq
    obtain ⟨rfl,rfl⟩:=ha.pt n k p q hn hk hp hq hl e1 h0 heq.symm
    exact ⟨rfl,rfl,e2⟩
   ·rw [c] at heq
    obtain ⟨rfl,rfl,_⟩:=h.fc n p k q hn hp hk hq hl h0 c1 heq
    exact ⟨rfl,rfl,e2⟩
  ·rw [e3] at heq
   obtain ⟨rfl,rfl,e⟩:=h.fc n p k q hn hp hk hq hl h0 e1 heq
   exact ⟨rfl,rfl,by rw [e2]; exact e⟩
 ·rw [hD]
  obtain ⟨k,q,hk,hq,hl',heq⟩:=held_iff.1 hh
  rcases hL k hk hl' with ⟨e1,e2,e3⟩ | ⟨e1,e2,e3⟩
  ·rw [e3 q hq] at heq
   rcases part_cases a b k q with c | ⟨c,c0,c9,c3⟩ | ⟨c,c1,c2⟩
   ·omega
   ·rw [c] at heq
    rcases (ha.li k hk e1).2.2 q hq with g | ⟨_,_,g⟩
    ·omega
    ·have : ((a.ino k).prt q).toNat = x:=by omega
     rw [this] at c3 g
     rw [c3,g]
   ·rw [c] at heq
    exact h.fd x hx (held_iff.2 ⟨k,q,hk,hq,c1,heq⟩)
  ·rw [e3] at heq
   exact h.fd x hx (held_iff.2 ⟨k,q,hk,hq,e1,heq⟩)
 ·rw [hE] at h2 ⊢; exact h.fe d s hd hs h1 h2
 ·rw [hE]; exact h.fg d s t hd hs ht hne h1
theorem Ft.dir {a b : Img} (h : Ft a b) (ha : Ck a) (hb : Ck b) {d0 : Nat} (hd0 : d0 < 3) : Ft a (wrDir a b d0 4):=by
 obtain ⟨i1,i2,i3,i4,_,_⟩:=wrDir_ok a b hd0 4 (Nat.le_refl _)
 generalize wrDir a b d0 4 = X at *
 have slot : ∀ d t,d < 3 → t < 4 → X.ent d t = b.ent d t ∨ X.ent d t = Ent.zero ∨ (X.ent d t = a.ent d t ∧ 0 ≤ (a.ent d t).ino ∧ (a.ent d t).ino < 8 ∧ (b.ino (a.ent d t).ino.toNat).live = true ∧ (b.ino (a.ent d t).ino.toNat).stamp = (a.ent d t).stamp):=by
  intro d t hd ht
  by_cases e : d = d0
  ·subst e; exact i4 t ht
  ·exact .inl (i3 d t hd ht (.inl e))
 refine ⟨fun n hn hl hl' hne=>?_,fun n k hn hk hne hl hl'=>?_,fun n p k q hn hp hk hq hl h0 hl' heq=>?_,fun x hx hh=>?_,fun d s hd hs h1 h2=>?_,fun d s t hd hs ht hne h1=>?_⟩
 ·rw [i1] at hl' hne
  have hz:=h.fa n hn hl hl' hne
  refine sumN_zeros fun d hd=>sumN_zeros fun s hs=>?_
  have hbz : leads b d s n = false:=by
   cases e : leads b d s n with
   | false=>rfl
   | true=>have:=refs_pos hd hs e; omega
  rcases slot d s hd hs with e | e | ⟨e,e0,e8,el,es⟩
  ·rw [leads_congr e,hbz]; rfl
  ·rw [leads_zero e]; rfl
  ·cases hx : leads X d s n with
   | false=>rfl
   | true =>
    exfalso
    rw [leads_congr e] at hx
    simp only [leads,Bool.and_eq_true,Bool.not_eq_true',decide_eq_false_iff_not,decide_eq_true_eq] at hx
    have en : (a.ent d s).ino.toNat = n:=by omega
    rw [en] at el es
    rcases ha.en d s hd hs with g | ⟨_,_,_,_,_,g⟩
    ·rw [g] at hx; exact hx.1 rfl
    ·rw [en] at g; exact hne (by rw [g,es])
 ·rw [i1] at hl' ⊢; exact h.fb n k hn hk hne hl hl'
 ·rw [i1] at hl' heq ⊢; exact h.fc n p k q hn hp hk hq hl h0 hl' heq
 ·rw [i2]; exact h.fd x hx (by rw [← held_congr i1]; exact hh)
 ·rcases slot d s hd hs with e | e | ⟨e,_⟩
  ·rw [e] at h2 ⊢; exact h.fe d s hd hs h1 h2
  ·rw [e] at h2; exact absurd rfl h2
  ·exact e.symm
 ·rcases slot d t hd ht with e | e | ⟨e,_⟩
  ·rw [e]; exact h.fg d s t hd hs ht hne h1
  ·rw [e]; exact fun e'=>h1 e'.symm
  ·rw [e]; exact ha.un d s t hd hs ht hne h1
theorem Ft.write {a b : Img} (h : Ft a b) (ha : Ck a) (hb : Ck b) (x : Int) : Ft a (writeAs a b x).1:=by
 obtain ⟨n,hn,e⟩ | ⟨n,hn,e⟩ | ⟨n,hn,e⟩ | e:=blockOf_cases x
 ·rw [writeAs_i e]; exact h.inodes ha hb hn
 ·rw [writeAs_d e]; exact h.dir ha hb hn
 ·rw [writeAs_a e]; exact h.data n
 ·rw [writeAs_n e]; exact h
theorem Ft.add {a b : Img} (h : Ft a b) {d k n : Nat} {name : Str} (hd : d < 3) (hk : k < 4) (n8 : n < 8) (hbn : (b.ent d k).name = ⟨#[]⟩) (hu : ∀ t,t < 4 → ¬(b.ent d t).name = name) : Ft (addName a d k name n) b:=by
 have hent:=ent_addName a d k name n
 have hlv : ∀ j,j < 8 → ((addName a d k name n).ino j).live = (a.ino j).live ∧ ((addName a d k name n).ino j).stamp = (a.ino j).stamp ∧ ∀ p,((addName a d k name n).ino j).prt p = (a.ino j).prt p:=fun j hj=>by
  simp only [addName,ino_setIno,ino_setEnt]
  split
  ·rename_i e; rw [← e.1]; exact ⟨rfl,rfl,fun p=>prt_with _ _ _⟩
  ·exact ⟨rfl,rfl,fun _=>rfl⟩
 have hdat : ∀ x,(addName a d k name n).dat x = a.dat x:=fun x=>by simp only [addName,dat_setIno,dat_setEnt]
 generalize addName a d k name n = X at *
 refine ⟨fun i hi hl hl' hne=>?_,fun i j hi hj hne hl hl'=>?_,fun i p j q hi hp hj hq hl h0 hl' heq=>?_,fun x hx hh=>?_,fun d' s hd' hs h1 h2=>?_,fun d' s t hd' hs ht hne h1=>?_⟩
 ·obtain ⟨e1,e2,_⟩:=hlv i hi
  rw [e1] at hl; rw [e2] at hne
  exact h.fa i hi hl hl' hne
 ·obtain ⟨e1,e2,_⟩:=hlv i hi
  rw [e1] at hl; rw [e2]
  exact h.fb i j hi hj hne hl hl'
 ·obtain ⟨e1,e2,e3⟩:=hlv i hi
  rw [e1] at hl; rw [e3] at h0 heq; rw [e2]
  exact h.fc i p j q hi hp hj hq hl h0 hl' heq
 ·rw [hdat]; exact h.fd x hx hh
 ·rw [hent] at h1 ⊢
  split at h1
  ·rename_i e; rw [← e.1.1,← e.1.2,hbn] at h2; exact absurd rfl h2
  ·rename_i e; rw [if_neg e]; exact h.fe d' s hd' hs h1 h2
 ·rw [hent] at h1 ⊢
  split at h1
  ·rename_i e; rw [if_pos e]; rw [← e.1.1]; exact hu t ht
  ·rename_i e; rw [if_neg e]; exact h.fg d' s t hd' hs ht hne h1
theorem Ft.less {a a' b : Img} (h : Ft a b) (hi : ∀ j,j < 8 → (a'.ino j).live = true → (a.ino j).live = true ∧ (a'.ino j).stamp = (a.ino j).stamp ∧ ∀ p,p < 2 → (a'.ino j).prt p = (a.ino j).prt p ∨ (a'.ino j).prt p = -1)
  (he : ∀ d s,d < 3 → s < 4 → a'.ent d s = a.ent d s ∨ a'.ent d s = Ent.zero) (hd : ∀ x,a'.dat x = a.dat x) : Ft a' b:=by
 refine ⟨fun i hi' hl hl' hne=>?_,fun i j hi' hj hne hl hl'=>?_,fun i p j q hi' hp hj hq hl h0 hl' heq=>?_,fun x hx hh=>by rw [hd]; exact h.fd x hx hh,fun d s hd' hs h1 h2=>?_,fun d s t hd' hs ht hne h1=>?_⟩
 ·obtain ⟨e1,e2,_⟩:=hi i hi' hl
  rw [e2] at hne; exact h.fa i hi' e1 hl' hne
 ·obtain ⟨e1,e2,_⟩:=hi i hi' hl
  rw [e2]; exact h.fb i j hi' hj hne e1 hl'
 ·obtain ⟨e1,e2,e3⟩:=hi i hi' hl
  rcases e3 p hp with e | e
  ·rw [e] at h0 heq; rw [e2]; exact h.fc i p j q hi' hp hj hq e1 h0 hl' heq
  ·omega
 ·rcases he d s hd' hs with e | e
  ·rw [e] at h1 ⊢; exact h.fe d s hd' hs h1 h2
  ·rw [e] at h1; exact absurd rfl h1
 ·rcases he d s hd' hs with e | e
  ·rw [e] at h1 ⊢; exact h.fg d s t hd' hs ht hne h1
  ·rw [e] at h1; exact absurd rfl h1
theorem Ft.leave {a b : Img} (h : Ft a b) {d s : Nat} (hd : d < 3) (hs : s < 4) : Ft (dropName a d s) b:=by
 refine h.less (fun j hj hl=>?_) (fun d' s' _ _=>?_) (fun x=>?_)
 ·unfold dropName at hl ⊢
  dsimp only at hl ⊢
  split at hl
  ·rename_i c
   rw [if_pos c]
   rw [ino_setIno,ino_setEnt] at hl ⊢
   split at hl
   ·exact absurd hl (by decide)
   ·rename_i e; rw [if_neg e]; exact ⟨hl,rfl,fun _ _=>.inl rfl⟩
  ·rename_i c
   rw [if_neg c]
   rw [ino_setIno,ino_setEnt] at hl ⊢
   split at hl
   ·rename_i e; rw [if_pos e]; rw [e.1] at hl ⊢; exact ⟨hl,rfl,fun p _=>.inl (prt_with _ _ _)⟩
   ·rename_i e; rw [if_neg e]; exact ⟨hl,rfl,fun _ _=>.inl rfl⟩
 ·unfold dropName
  dsimp only
  split <;> rw [ent_setIno,ent_drop hd hs] <;> split <;> first | exact .inr rfl | exact .inl rfl
 ·unfold dropName
  dsimp only
  split <;> rw [dat_setIno,dat_setEnt]
theorem Ft.new {a b : Img} (h : Ft a b) {n : Nat} {st : Int} (n8 : n < 8) (hr : refs b n = 0) (hmax : ∀ j,j < 8 → (b.ino j).live = true → (b.ino j).stamp < st) : Ft (a.setIno n (newIno st)) b:=by
 have hino : ∀ j,j < 8 → (a.setIno n (newIno st)).ino j = if n = j then newIno st else a.ino j:=fun j hj=>by rw [ino_setIno]; simp [hj]
 refine ⟨fun i hi' hl hl' hne=>?_,fun i j hi' hj hne hl hl'=>?_,fun i p j q hi' hp hj hq hl h0 hl' heq=>?_,h.fd,h.fe,h.fg⟩
 ·rw [hino i hi'] at hl hne
  by_cases e : n = i
  ·rw [← e]; exact hr
  ·rw [if_neg e] at hl hne; exact h.fa i hi' hl hl' hne
 ·rw [hino i hi'] at hl ⊢
  by_cases e : n = i
  ·rw [if_pos e]; have:=hmax j hj hl'; show ¬_ = st; omega
  ·rw [if_neg e] at hl ⊢; exact h.fb i j hi' hj hne hl hl'
 ·rw [hino i hi'] at hl h0 heq ⊢
  by_cases e : n = i
  ·rw [if_pos e,prt_new] at h0
   have : Ino.none.prt p = -1:=by simp [Ino.prt,Ino.none,hp]
   omega
  ·rw [if_neg e] at hl h0 heq ⊢; exact h.fc i p j q hi' hp hj hq hl h0 hl' heq
theorem Ft.put {a b : Img} (h : Ft a b) {n p x : Nat} {y : Dat} (n8 : n < 8) (hl : (a.ino n).live = true) (hx : held b x = false) : Ft ((a.setIno n ((a.ino n).setPrt p x)).setDat x y) b:=by
 have hino : ∀ j,j < 8 → ((a.setIno n ((a.ino n).setPrt p x)).setDat x y).ino j = if n = j then (a.ino n).setPrt p x else a.ino j:=fun j hj=>by rw [ino_setDat,ino_setIno]; simp [hj]
 have hlv : ∀ j,j < 8 → (((a.setIno n ((a.ino n).setPrt p x)).setDat x y).ino j).live = (a.ino j).live ∧ (((a.setIno n ((a.ino n).setPrt p x)).setDat x y).ino j).stamp = (a.ino j).stamp:=fun j hj=>by
  rw [hino j hj]; split
  ·rename_i e; subst e; exact ⟨rfl,rfl⟩
  ·exact ⟨rfl,rfl⟩
 refine ⟨fun i hi' hl hl' hne=>?_,fun i j hi' hj hne hl hl'=>?_,fun i p' j q hi' hp hj hq hl h0 hl' heq=>?_,fun z hz hh=>?_,h.fe,h.fg⟩
 ·obtain ⟨e1,e2⟩:=hlv i hi'
  rw [e1] at hl; rw [e2] at hne; exact h.fa i hi' hl hl' hne
 ·obtain ⟨e1,e2⟩:=hlv i hi'
  rw [e1] at hl; rw [e2]; exact h.fb i j hi' hj hne hl hl'
 ·obtain ⟨e1,e2⟩:=hlv i hi'
  rw [e1] at hl; rw [e2]
  have hpr : (((a.setIno n ((a.ino n).setPrt p x)).setDat x y).ino i).prt p' = if n = i ∧ p = p' then (x : Int) else (a.ino i).prt p':=by
   rw [hino i hi']
   by_cases e : n = i
   ·subst e; rw [if_pos rfl,prt_setPrt]; simp [hp]
   ·rw [if_neg e,if_neg (fun h=>e h.1)]
  rw [hpr] at h0 heq
  split at heq
  ·have : held b x = true:=held_iff.2 ⟨j,q,hj,hq,hl',heq⟩
   rw [hx] at this; exact absurd this (by simp)
  ·rename_i e; rw [if_neg e] at h0; exact h.fc i p' j q hi' hp hj hq hl h0 hl' heq
 ·rw [dat_setDat,dat_setIno]
  split
  ·rename_i e; rw [← e.1] at hh; rw [hx] at hh; exact absurd hh (by simp)
  ·exact h.fd z hz hh
theorem Ft.text {a b : Img} (h : Ft a b) {x : Nat} {t : Str} : Ft (a.setDat x ⟨(a.dat x).of,t⟩) b :=
 ⟨h.fa,h.fb,h.fc,fun z hz hh=>by
  rw [dat_setDat]
  split
  ·rename_i e; rw [← e.1] at hh ⊢; exact h.fd x (by rw [e.1]; exact hz) hh
  ·exact h.fd z hz hh,h.fe,h.fg⟩
theorem Ft.cut {a b : Img} (h : Ft a b) {n p : Nat} : Ft (a.setIno n ((a.ino n).setPrt p (-1))) b:=by
 refine h.less (fun j hj hl=>?_) (fun _ _ _ _=>.inl rfl) (fun _=>rfl)
 rw [ino_setIno] at hl ⊢
 split at hl
 ·rename_i e; rw [if_pos e]; rw [e.1] at hl ⊢
  refine ⟨hl,rfl,fun q hq=>?_⟩
  rw [prt_setPrt]
  split
  ·exact .inr rfl
  ·exact .inl rfl
 ·rename_i e; rw [if_neg e]; exact ⟨hl,rfl,fun _ _=>.inl rfl⟩
structure Inv (F : Fl) : Prop where
 i0 : Inv0 F
 ex : exact F.now = true
 ck : check F.disk = 0
 ft : Ft F.now F.disk
 s0 : 0 ≤ F.stamp
 sn : ∀ j,j < 8 → (F.now.ino j).live = true → (F.now.ino j).stamp ≤ F.stamp
 sd : ∀ j,j < 8 → (F.disk.ino j).live = true → (F.disk.ino j).stamp ≤ F.stamp
theorem Inv.cn {F : Fl} (h : Inv F) : check F.now = 0:=(exact_parts h.ex).1
theorem doC_zero {F : Fl} {x : SStep} (h : doC F x = 0) : stepFault x = 0:=by
 by_cases e : stepFault x = 0
 ·exact e
 ·exfalso; apply e; rw [← h,doC,if_pos e]
theorem setPrt_self {i : Ino} {p : Nat} {x : Int} (h : i.prt p = x) (hp : p < 2) : i.setPrt p x = i:=by
 refine Ino.ext_of rfl rfl rfl fun q hq=>?_
 rw [prt_setPrt]
 split
 ·rename_i e; rw [← e.1]; exact h.symm
 ·rfl
theorem setIno_same {m : Img} {n : Nat} {y : Ino} (h : m.ino n = y) : m.setIno n y = m:=setIno_self m h.symm
theorem ent_room {a : Img} {d' k d s n : Nat} {name : Str} (h : ¬((d' = d ∧ k = s) ∧ d < 3 ∧ s < 4)) : (addName a d' k name n).ent d s = a.ent d s:=by rw [ent_addName,if_neg h]
theorem doF_now {F : Fl} (h : Inv F) (hs : F.stamp < 4611686018427387904) (x : SStep) : exact (doF F x).now = true ∧ Ft (doF F x).now F.disk ∧ F.stamp ≤ (doF F x).stamp ∧ (doF F x).stamp ≤ F.stamp + 1 ∧
  (∀ j,j < 8 → ((doF F x).now.ino j).live = true → ((doF F x).now.ino j).stamp ≤ (doF F x).stamp):=by
 have hcn:=Ck.of h.cn
 have hx:=(exact_parts h.ex).2
 by_cases c : doC F x = 0
 rotate_left
 ·have e : doF F x = F:=by simp [doF,c]
  rw [e]; exact ⟨h.ex,h.ft,Int.le_refl _,by omega,h.sn⟩
 have c0:=doC_zero c
 obtain ⟨⟨k1,k6⟩,⟨d0,d3⟩,hn,hto,hp,_⟩:=stepFault_zero c0
 have dn : x.dir.toNat < 3:=by omega
 simp only [doF,c]
 rw [if_neg (by simp)]
 by_cases c1 : x.kind = 1
 ·
  rw [if_pos c1]
  have hm : makeC F x.dir x.name = 0:=by simpa [doC,c0,c1] using c
  unfold makeC at hm
  split at hm
  ·omega
  rename_i q1
  split at hm
  ·omega
  rename_i q2
  have hm' : makeC F x.dir x.name = 0:=by simp only [makeC]; rw [if_neg q1,if_neg q2]
  rcases freeIno_cases F.now F.disk with e | ⟨n,n8,e,ed,er⟩
  ·exact absurd (.inl (by omega)) q2
  rcases room_cases F.now F.disk x.dir x.name with e2 | ⟨k,k4,e2,_,_,ke,kb,sb⟩
  ·exact absurd (.inr (by omega)) q2
  have hst : IntKind.i64.wrap (F.stamp + 1) = F.stamp + 1:=wrap64 (by have:=h.s0; omega) (by omega)
  have em : makeF F x.dir x.name = ⟨addName (F.now.setIno n (newIno (F.stamp + 1))) x.dir.toNat k x.name n,F.disk,F.stamp + 1⟩:=by
   simp only [makeF]; rw [if_pos hm',e,e2,hst]; rfl
  rw [em]
  dsimp only
  have hE1:=ex1_new (st:=F.stamp + 1) h.ex n8 ed (by have:=h.s0; omega) (fun j hj hl=>by have:=h.sn j hj hl; omega)
  have hE2:=exact_add (d:=x.dir.toNat) (k:=k) (name:=x.name) hE1 dn k4 n8 (by rw [ino_setIno,if_pos ⟨rfl,n8⟩]; rfl) ke hn (slot_none d0 d3 (isName_ne hn) (by
   have : slotOf (F.now.setIno n (newIno (F.stamp + 1))) x.dir x.name = slotOf F.now x.dir x.name:=rfl
   omega))
  refine ⟨hE2,?_,by omega,by omega,fun j hj hl=>?_⟩
  ·exact (h.ft.new n8 er (fun j hj hl=>by have:=h.sd j hj hl; omega)).add dn k4 n8 kb (slot_none d0 d3 (isName_ne hn) sb)
  ·simp only [addName,ino_setIno,ino_setEnt] at hl ⊢
   split
   ·have e9 : (if n = n ∧ n < 8 then newIno (F.stamp + 1) else F.now.ino n).stamp = F.stamp + 1:=by rw [if_pos ⟨rfl,n8⟩]; rfl
    simp only [n8,and_self,if_true]
    exact Int.le_refl _
   ·rename_i c3
    rw [if_neg c3] at hl
    try rw [if_neg c3] at hl
    try rw [if_neg c3]
    have:=h.sn j hj hl; omega
 rw [if_neg c1]
 rcases slotOf_cases F.now x.dir x.name with e | ⟨s,s4,e,_,_,hnm,hne⟩
 ·exfalso
  have : doC F x = 5:=by simp [doC,c0,c1,e]
  omega
 have s0 : ¬(s : Int) < 0:=by omega
 have es : (slotOf F.now x.dir x.name).toNat = s:=by omega
 simp only [es]
 have hnamed : ¬(F.now.ent x.dir.toNat s).name = ⟨#[]⟩:=by rw [hnm]; exact hne
 rcases hcn.en x.dir.toNat s dn s4 with e0 | ⟨_,_,i0,i8,hl,hst⟩
 ·rw [e0] at hnamed; exact absurd rfl hnamed
 obtain ⟨n,en⟩ : ∃ n,(F.now.ent x.dir.toNat s).ino.toNat = n:=⟨_,rfl⟩
 have n8 : n < 8:=by omega
 rw [en] at hl hst ⊢

 have more : (x.kind = 2 ∨ x.kind = 4) → exact (enterA F.now F.disk x.toDir x.to n) = true ∧ Ft (enterA F.now F.disk x.toDir x.to n) F.disk ∧ (enterA F.now F.disk x.toDir x.to n).ent x.dir.toNat s = F.now.ent x.dir.toNat s ∧
   ∀ j,j < 8 → ((enterA F.now F.disk x.toDir x.to n).ino j).live = (F.now.ino j).live ∧ ((enterA F.now F.disk x.toDir x.to n).ino j).stamp = (F.now.ino j).stamp:=by
  intro hk
  obtain ⟨⟨t0,t3⟩,htn⟩:=hto hk
  have hc : enterC F.now F.disk x.toDir x.to = 0:=by
   simp only [doC] at c
   rw [if_neg (by simpa using c0),if_neg c1,if_neg (by rw [e]; exact s0),if_pos hk] at c
   exact c
  have hc':=hc
  unfold enterC at hc'
  split at hc'
  ·omega
  rename_i q1
  split at hc'
  ·omega
  rename_i q2
  rcases room_cases F.now F.disk x.toDir x.to with e2 | ⟨k,k4,e2,_,_,ke,kb,sb⟩
  ·omega
  have ek : (room F.now F.disk x.toDir x.to).toNat = k:=by omega
  have eA : enterA F.now F.disk x.toDir x.to n = addName F.now x.toDir.toNat k x.to n:=by simp only [enterA]; rw [if_pos hc,ek]
  rw [eA]
  refine ⟨exact_add (Ex1.of h.ex n) (by omega) k4 n8 hl ke htn (slot_none t0 t3 (isName_ne htn) (by omega)),h.ft.add (by omega) k4 n8 kb (slot_none t0 t3 (isName_ne htn) sb),?_,fun j hj=>?_⟩
  ·refine ent_room fun hh=>hnamed ?_
   rw [← hh.1.1,← hh.1.2]; exact ke
  ·simp only [addName,ino_setIno,ino_setEnt]
   split
   ·rename_i e'; rw [← e'.1]; exact ⟨rfl,rfl⟩
   ·exact ⟨rfl,rfl⟩
 have less : ∀ (A : Img),(∀ j,j < 8 → (A.ino j).live = (F.now.ino j).live ∧ (A.ino j).stamp = (F.now.ino j).stamp) → ∀ j,j < 8 → ((dropName A x.dir.toNat s).ino j).live = true → ((dropName A x.dir.toNat s).ino j).stamp ≤ F.stamp:=by
  intro A hA j hj hlj
  unfold dropName at hlj ⊢
  dsimp only at hlj ⊢
  split at hlj
  ·rename_i q; rw [if_pos q]
   rw [ino_setIno,ino_setEnt] at hlj ⊢
   split at hlj
   ·exact absurd hlj (by decide)
   ·rename_i q'; rw [if_neg q',(hA j hj).2]; exact h.sn j hj (by rw [← (hA j hj).1]; exact hlj)
  ·rename_i q; rw [if_neg q]
   rw [ino_setIno,ino_setEnt] at hlj ⊢
   split at hlj
   ·rename_i q'; rw [if_pos q']; rw [q'.1] at hlj ⊢
    show (A.ino j).stamp ≤ _
    rw [(hA j hj).2]; exact h.sn j hj (by rw [← (hA j hj).1]; exact hlj)
   ·rename_i q'; rw [if_neg q',(hA j hj).2]; exact h.sn j hj (by rw [← (hA j hj).1]; exact hlj)
 by_cases c2 : x.kind = 2
 ·rw [if_pos c2]
  dsimp only
  obtain ⟨m1,m2,_,m4⟩:=more (.inl c2)
  exact ⟨m1,m2,Int.le_refl _,by omega,fun j hj hlj=>by rw [(m4 j hj).2]; exact h.sn j hj (by rw [← (m4 j hj).1]; exact hlj)⟩
 rw [if_neg c2]
 by_cases c4 : x.kind = 4
 ·rw [if_pos c4]
  dsimp only
  obtain ⟨m1,m2,m3,m4⟩:=more (.inr c4)
  exact ⟨exact_leave m1 dn s4 (by rw [m3]; exact hnamed),m2.leave dn s4,Int.le_refl _,by omega,less _ m4⟩
 rw [if_neg c4]
 by_cases c3 : x.kind = 3
 ·rw [if_pos c3]
  dsimp only
  exact ⟨exact_leave h.ex dn s4 hnamed,h.ft.leave dn s4,Int.le_refl _,by omega,less _ fun _ _=>⟨rfl,rfl⟩⟩
 rw [if_neg c3]
 by_cases c5 : x.kind = 5
 ·rw [if_pos c5]
  dsimp only
  obtain ⟨p0,p2⟩:=hp (.inl c5)
  have pn : x.p.toNat < 2:=by omega
  have hcp : putC F.now F.disk n x.p.toNat = 0:=by
   simp only [doC] at c
   rw [if_neg (by simpa using c0),if_neg c1,if_neg (by rw [e]; exact s0),if_neg (by omega),if_pos c5,es,en] at c
   exact c
  unfold putA
  by_cases cp : (F.now.ino n).prt x.p.toNat < 0
  ·rw [if_pos cp]
   rcases freeDat_cases F.now F.disk with e2 | ⟨k,k9,e2,ha,hb⟩
   ·exfalso
    have : putC F.now F.disk n x.p.toNat = 6:=by simp [putC,cp,e2]
    omega
   rw [if_neg (by omega),e2]
   have hk : ((k : Int)).toNat = k:=Int.toNat_natCast k
   rw [hk]
   have h1:=exact_part (p:=x.p.toNat) (x:=k) (y:=⟨(F.now.ino n).stamp,x.text⟩) h.ex n8 pn hl (.inr ⟨by omega,by omega,rfl,fun i q hi hq hli heq=>by
    have : held F.now k = true:=held_iff.2 ⟨i,q,hi,hq,hli,heq⟩
    rw [ha] at this; exact absurd this (by simp)⟩)
   rw [if_neg (by omega),hk] at h1
   refine ⟨h1,h.ft.put n8 hl hb,Int.le_refl _,by omega,fun j hj hlj=>?_⟩
   rw [ino_setDat,ino_setIno] at hlj ⊢
   split at hlj
   ·rename_i q; rw [if_pos q]; rw [← q.1] at hj
    exact h.sn n hj hl
   ·rename_i q; rw [if_neg q]; exact h.sn j hj hlj
  ·rw [if_neg cp]
   rcases (hcn.li n n8 hl).2.2 x.p.toNat pn with g | ⟨g0,g9,gof⟩
   ·omega
   obtain ⟨z,ez⟩ : ∃ z : Nat,(F.now.ino n).prt x.p.toNat = z:=⟨((F.now.ino n).prt x.p.toNat).toNat,by omega⟩
   rw [ez] at gof ⊢
   rw [Int.toNat_natCast] at gof ⊢
   have h1:=exact_part (p:=x.p.toNat) (x:=z) (y:=⟨(F.now.ino n).stamp,x.text⟩) h.ex n8 pn hl (.inr ⟨by omega,by omega,rfl,fun i q hi hq hli heq=>by
    obtain ⟨rfl,rfl⟩:=hcn.pt n i x.p.toNat q n8 hi pn hq hl hli (by omega) (by rw [ez]; exact heq.symm)
    exact ⟨rfl,rfl⟩⟩)
   rw [if_neg (by omega),Int.toNat_natCast,setPrt_self ez pn,setIno_same rfl] at h1
   refine ⟨h1,?_,Int.le_refl _,by omega,h.sn⟩
   have:=h.ft.text (x:=z) (t:=x.text)
   rw [gof] at this
   exact this
 rw [if_neg c5]
 have c6 : x.kind = 6:=by omega
 obtain ⟨p0,p2⟩:=hp (.inr c6)
 dsimp only
 have h1:=exact_part (p:=x.p.toNat) (x:=-1) (y:=⟨0,⟨#[]⟩⟩) h.ex n8 (by omega) hl (.inl rfl)
 rw [if_pos rfl] at h1
 refine ⟨h1,h.ft.cut,Int.le_refl _,by omega,fun j hj hlj=>?_⟩
 rw [ino_setIno] at hlj ⊢
 split at hlj
 ·rename_i q; rw [if_pos q]; rw [← q.1] at hj
  exact h.sn n hj hl
 ·rename_i q; rw [if_neg q]; exact h.sn j hj hlj
theorem Inv.doF {F : Fl} (h : Inv F) (hs : F.stamp < 4611686018427387904) (x : SStep) : Inv (Go.Mini.doF F x):=by
 obtain ⟨h1,h2,h3,h4,h5⟩:=doF_now h hs x
 have e:=doF_disk F x
 have:=h.s0
 exact ⟨h.i0.doF x,h1,by rw [e]; exact h.ck,by rw [e]; exact h2,by omega,h5,fun j hj hl=>by
  rw [e] at hl ⊢; have:=h.sd j hj hl; omega⟩
theorem stamp_write {a b : Img} {N : Int} (ha : ∀ j,j < 8 → (a.ino j).live = true → (a.ino j).stamp ≤ N) (hb : ∀ j,j < 8 → (b.ino j).live = true → (b.ino j).stamp ≤ N) (x : Int) : ∀ j,j < 8 → ((writeAs a b x).1.ino j).live = true → ((writeAs a b x).1.ino j).stamp ≤ N:=by
 obtain ⟨n,hn,e⟩ | ⟨n,hn,e⟩ | ⟨n,hn,e⟩ | e:=blockOf_cases x
 ·rw [writeAs_i e]
  intro j hj hl
  dsimp only at hl ⊢
  rw [wrInodes_ino' a b n hn] at hl ⊢
  split at hl
  ·rename_i q; rw [if_pos q]
   rcases inodeAs_live_cases hl with ⟨a1,a2,_⟩ | ⟨_,a2,_,a4,_⟩
   ·rw [a2]; exact ha j hj a1
   ·rw [a4]; exact hb j hj a2
  ·rename_i q; rw [if_neg q]; exact hb j hj hl
 ·rw [writeAs_d e]
  intro j hj hl
  dsimp only at hl ⊢
  obtain ⟨i1,_⟩:=wrDir_ok a b hn 4 (Nat.le_refl _)
  rw [i1] at hl ⊢; exact hb j hj hl
 ·rw [writeAs_a e]; exact hb
 ·rw [writeAs_n e]; exact hb
theorem Inv.write {F : Fl} (h : Inv F) (x : Int) : Inv { F with disk:=(writeAs F.now F.disk x).1 } :=
 ⟨⟨h.i0.wf,h.i0.sn,small_writeAs h.i0.sn h.i0.sd x⟩,h.ex,write_mends h.ck h.ex h.ft.fits x,h.ft.write (.of h.cn) (.of h.ck) x,h.s0,h.sn,stamp_write h.sn h.sd x⟩
theorem Inv.wrDown {F : Fl} (h : Inv F) : ∀ k,Inv { F with disk:=Go.Mini.wrDown F.now F.disk k }
 | 0=>h
 | k + 1=>(h.wrDown k).write _
theorem Inv.syncD {F : Fl} (h : Inv F) : ∀ k,Inv { F with disk:=Go.Mini.syncD F.now F.disk k }
 | 0=>h
 | k + 1=>(h.syncD k).wrDown 14
theorem Inv.sync {F : Fl} (h : Inv F) : Inv { F with disk:=syncTo F.now F.disk }:=h.syncD _
theorem maxSt_ge (m : Img) {n j : Nat} (h : j < n) : (m.ino j).stamp ≤ maxSt m n:=by
 induction n with
 | zero=>omega
 | succ n ih =>
  unfold maxSt
  by_cases e : j = n
  ·subst e; split <;> omega
  ·have:=ih (by omega)
   split <;> omega
theorem maxSt_pos (m : Img) : ∀ n,0 ≤ maxSt m n
 | 0=>Int.le_refl _
 | n + 1=>by have:=maxSt_pos m n; unfold maxSt; split <;> omega
theorem maxSt_le {m : Img} {N : Int} (h0 : 0 ≤ N) (h : ∀ j,j < 8 → (m.ino j).stamp ≤ N) : ∀ n,n ≤ 8 → maxSt m n ≤ N
 | 0,_=>h0
 | n + 1,hn=>by
  have:=maxSt_le h0 h n (by omega)
  have:=h n (by omega)
  unfold maxSt; split <;> omega
theorem Inv.of {m : Img} (he : exact m = true) (hs : m.small) : Inv ⟨m,m,maxSt m 8⟩:=by
 have hc:=(exact_parts he).1
 exact ⟨⟨WF_check hc,hs,hs⟩,he,hc,Ft.self (.of hc),maxSt_pos m 8,fun j hj _=>maxSt_ge m hj,fun j hj _=>maxSt_ge m hj⟩
theorem mended_stamp {m : Img} (hc : check m = 0) {j : Nat} (hj : j < 8) : ((mended m).ino j).stamp = 0 ∨ ((m.ino j).live = true ∧ ((mended m).ino j).stamp = (m.ino j).stamp):=by
 rw [mended_ino m hj]
 cases e : (mendIno m j).live with
 | true=>right; rw [mendIno_of e]; exact ⟨(mendIno_live.1 e).1,rfl⟩
 | false=>left; rw [mendIno_dead hc hj e]; rfl
theorem Inv.lifeF {L : Lf} (h : Inv L.fl) (hs : L.fl.stamp < 4611686018427387904) (x : SStep) : Inv (Go.Mini.lifeF L x).fl ∧ (Go.Mini.lifeF L x).fl.stamp ≤ L.fl.stamp + 1:=by
 unfold Go.Mini.lifeF
 split
 ·exact ⟨h.write _,by dsimp only; omega⟩
 split
 ·exact ⟨h.sync,by dsimp only; omega⟩
 split
 ·unfold crashF
  rw [if_pos h.ck]
  dsimp only
  refine ⟨Inv.of (mended_exact h.ck) (mended_small h.i0.sd),?_⟩
  have:=maxSt_le (m:=mended L.fl.disk) h.s0 (fun j hj=>by
   rcases mended_stamp h.ck hj with e | ⟨e1,e2⟩
   ·rw [e]; exact h.s0
   ·rw [e2]; exact h.sd j hj e1) 8 (Nat.le_refl _)
  omega
 ·exact ⟨h.doF hs x,(doF_now h hs x).2.2.2.1⟩
theorem Inv.new : Inv Lf.new.fl:=by
 have:=Inv.of (m:=.blank) (by decide +kernel) (small_of (by decide +kernel))
 have e : maxSt .blank 8 = 0:=by decide +kernel
 rw [e] at this
 exact this
def lifeRun (L : Lf) (l : List SStep) : Nat → Lf
 | 0=>L
 | k + 1=>lifeF (lifeRun L l k) (stp l k)
theorem inv_run {L : Lf} (l : List SStep) (h : Inv L.fl) (hs : L.fl.stamp ≤ 1000000000) : ∀ k,k ≤ 1000000000 → Inv (lifeRun L l k).fl ∧ (lifeRun L l k).fl.stamp ≤ 1000000000 + k
 | 0,_=>⟨h,by show L.fl.stamp ≤ _; omega⟩
 | k + 1,hk=>by
  obtain ⟨a,b⟩:=inv_run l h hs k (by omega)
  obtain ⟨c,d⟩:=a.lifeF (by omega) (stp l k)
  exact ⟨c,by show (lifeF (lifeRun L l k) (stp l k)).fl.stamp ≤ _; omega⟩
theorem new_stamp : Lf.new.fl.stamp ≤ 1000000000:=by decide
@[go_sem] theorem fill_lost0 : fill tLost (encLost 0 0 0) [] = some (encLost 0 0 0):=rfl
def SlJ (h0 h : HP) (v : AV) (l : List Int) : Prop:=(v = .nilsl ∧ l = []) ∨ ∃ q,v = .sl (.obj q) 0 l.length ∧ h0.next ≤ q ∧ q < h.next ∧ h.look (.obj q) = some ⟨.arr l.length tI,encL l⟩
theorem SlJ.same {h0 h h' : HP} {v : AV} {l : List Int} (a : SlJ h0 h v l) (b : Fr h h' []) : SlJ h0 h' v l:=by
 rcases a with a | ⟨q,h1,h2,h3,h4⟩
 ·exact .inl a
 ·exact .inr ⟨q,h1,h2,Nat.lt_of_lt_of_le h3 b.next,b.look h3 (by simp) h4⟩
theorem SlJ.push {h0 h : HP} {v : AV} {l : List Int} {n : Nat} {o : Own} (a : SlJ h0 h v l) : SlJ h0 (h.push n o) v l:=a
theorem SlJ.from {h0 h1 h : HP} {v : AV} {l : List Int} (a : SlJ h1 h v l) (e : h0.next ≤ h1.next) : SlJ h0 h v l:=by
 rcases a with a | ⟨q,h1,h2,h3,h4⟩
 ·exact .inl a
 ·exact .inr ⟨q,h1,by omega,h3,h4⟩
theorem SlJ.len {h0 h : HP} {v : AV} {l : List Int} (a : SlJ h0 h v l) : lenV false v = some (.int .i64 l.length):=by
 rcases a with ⟨rfl,rfl⟩ | ⟨i,rfl,_⟩ <;> rfl
theorem SlJ.fg {h0 h : HP} {v : AV} {l : List Int} (a : SlJ h0 h v l) (x y : Nat) : Go.Mini.fg v (.stk x y) = v:=by
 rcases a with ⟨rfl,rfl⟩ | ⟨i,rfl,_⟩ <;> simp only [go_sem]
theorem SlJ.ld {h0 h : HP} {v : AV} {l : List Int} (a : SlJ h0 h v l) (x y : Nat) : v.leads (.stk x y) = false:=by
 rcases a with ⟨rfl,rfl⟩ | ⟨i,rfl,_⟩ <;> simp only [go_sem]
section
variable {T : Nat → Option MFun} {cx : Cx} {k : List Item} {kill : List Nat} {r : List MOp} {sl : Slots} {own : Own} {h : HP} {Q : St → Prop}
def WAi (T : Nat → Option MFun) (cx : Cx) (x : AV) (add : Option (List AV)) (d : Nat) (r : List MOp) (kill : List Nat) (k : List Item) (sl : Slots) (own : Own) (h : HP) (Q : St → Prop) : Prop :=
 onO add fun add=>onO (evAppend (St.look cx ⟨sl,own,h⟩) tI x add) fun e=>onO (applyEff cx (some d) true ⟨sl,own,h⟩ e) fun p=>W T cx (.ops r kill :: k) (p.2.setd (some d) p.1) Q
@[go_sem] theorem W_appendI {d : Nat} {x y : Opd} : W T cx (.ops (⟨some d,.append true [] tI x y,none⟩ :: r) kill :: k) ⟨sl,own,h⟩ Q = WAi T cx (St.opd ⟨sl,own,h⟩ x) (elems (St.look cx ⟨sl,own,h⟩) tI (St.opd ⟨sl,own,h⟩ y)) d r kill k sl own h Q:=by
 rw [W_op rfl,evOp]
 simp only [evK,WAi]
 cases elems (St.look cx ⟨sl,own,h⟩) tI (St.opd ⟨sl,own,h⟩ y) with
 | none=>rfl
 | some add =>
  simp only [onO_some]
  cases evAppend (St.look cx ⟨sl,own,h⟩) tI (St.opd ⟨sl,own,h⟩ x) add <;> rfl
@[go_sem] theorem WAi_nil {n : Int} {d : Nat} : WAi T cx .nilsl (some [.int .i64 n]) d r kill k sl own h Q =
  W T cx (.ops r kill :: k) ⟨sl.set d (.sl (.obj h.next) 0 1),own,h.nw (.arr 1 tI) (encL [n])⟩ Q:=by
 have hf:=encL_fits [n] (n:=1) rfl
 simp only [WAi,onO_some,evAppend,List.length_cons,List.length_nil,Nat.zero_add]
 rw [if_neg (by omega),if_pos ⟨hf,by omega⟩]
 rfl
end
structure IntsV (h : HP) (v : AV) (l : List Int) : Prop where
 len : lenV false v = some (.int .i64 l.length)
 fg : ∀ a b,Go.Mini.fg v (.stk a b) = v
 ld : ∀ a b,v.leads (.stk a b) = false
 ix : ∀ k,k < l.length → ∃ n,v = .sl (.arg n) 0 l.length ∧ h.look (.arg n) = some ⟨.arr l.length tI,encL l⟩
theorem IntsV.to {h h' : HP} {v : AV} {l : List Int} (a : IntsV h v l) (e : h'.arg = h.arg) : IntsV h' v l :=
 ⟨a.len,a.fg,a.ld,fun k hk=>by
  obtain ⟨n,h1,h2⟩:=a.ix k hk
  exact ⟨n,h1,by simp only [HP.look,e] at h2 ⊢; exact h2⟩⟩
section
variable {cx : Cx} {h : HP} {v : AV} {l : List Int} {a b : Img}
theorem rSync_E {n : Nat} {B : Bd} (hl : ∀ n,cx.prot.lets (.obj n) = true) (hB : h.look (.obj n) = some ⟨tBed,B.enc⟩) : Ok tblE cx Fn.r_Bed_Sync (St.enter [.ptr (.obj n) [] tBed] h) fun v h'=>v = .int .i64 (syncK B.now B.disk) ∧ h' = h.ob n tBed (Bd.enc { B with disk:=syncTo B.now B.disk }):=by
 have:=rSync_ok (cx:=cx) (h:=h) (n:=n) (B:=B) hl
 rw [ob_self hB] at this
 refine this.mono fun v h' e=>?_
 obtain ⟨k,h8,rfl,rfl,hk,hn⟩:=e
 obtain rfl:=syncK_eq h8 hk hn
 exact ⟨rfl,rfl⟩
end
open Go.RowKit Go.ChangeShapes
section
variable {H : Type} {enc : TypeId × Value → H} {P : Program}
theorem trodAll_stays (hl : laidOutB P = true) {W W' : World} {sp : Nat → Bool} (hB : Below W.heap.size W W') : ∀ {ts : List TypeId} {vs : List Value} {ds : List (DataW H)} {ps : List MemPlace},
  (∀ t ∈ ts,P.readableRec t = true ∧ t < P.types.size) → DataW.TrodAll enc P W 0 (fun _=>true) true ts vs ds ps → (∀ p ∈ ps,p.block < W.heap.size) → (∀ p ∈ ps,sp p.block = true) →
  DataW.TrodAll enc P W' 0 sp true ts vs ds ps
 | [],vs,ds,ps,_,h,_,_=>by
  obtain ⟨rfl,rfl,rfl⟩:=trodAll_nil h
  exact trodAll_mk0
 | t :: ts,vs,ds,ps,ht,h,h1,h2=>by
  obtain ⟨v,vs',d,ds',p,q,rfl,rfl,rfl,h3,h4⟩:=trodAll_cons h
  exact ⟨p,q,WideElems.Trod_stays hl (ht t List.mem_cons_self).1 (ht t List.mem_cons_self).2 h3 (fun x hx=>hB.same (h1 x (List.mem_append_left _ hx))) (fun x hx=>h2 x (List.mem_append_left _ hx)),
   trodAll_stays hl hB (fun t' ht'=>ht t' (List.mem_cons_of_mem _ ht')) h4 (fun x hx=>h1 x (List.mem_append_right _ hx)) (fun x hx=>h2 x (List.mem_append_right _ hx)),rfl⟩
theorem law_post {f : Func} {s : ChangeSpec} {tb : TypeId} {W W' : World} {args : Array Value} {ds gs : List (DataW H)} {before : List MemPlace} (hl : laidOutB P = true) (hts : ∀ t ∈ f.params.toList,P.readableRec t = true ∧ t < P.types.size)
  (hv : s.vars = []) (hr : f.resultTypes = #[tb]) (hb : P.underlying tb = some .bool)
  (hW : DataW.Whole enc P f.params.toList s.vars false W args.toList ds gs before) (hs : s.fn H ds = { results:=[.lit (.bool true)],args:=ds }) (hB : Below W.heap.size W W') :
  s.post enc P f false true false false W args (.bool true) W':=by
 have hlt:=hW.lt
 obtain ⟨p,q,hA,hV,rfl,hfz,hnd⟩:=id hW
 rw [hv] at hV
 obtain ⟨rfl,rfl⟩:=trodVars_none hV
 refine ⟨ds,[],p ++ [],[],p,[],hW,?_,?_,?_,hB.frame _,fun h=>by cases h⟩
 ·rw [hr,List.append_nil,hs]
  exact trodAll_cons_mk (shut_bool hb _) trodAll_mk0
 ·rw [List.append_nil,hs]
  exact trodAll_stays hl hB hts hA (fun x hx=>hlt x (by simpa using hx)) (fun x hx=>by simpa using hlt x (by simpa using hx))
 ·rw [hv,List.append_nil,hs]
  rfl
end
theorem dec_encV {α : Type} {f : α → AV} {t : Ty} {n : Nat} (h : ∀ v,t.fits v = true → ∃ a,v = f a) {v : AV} (hv : (Ty.arr n t).fits v = true) : ∃ w : Vector α n,v = encV f w:=by
 cases v with
 | arr k g =>
  simp only [Ty.fits,Bool.and_eq_true,beq_iff_eq,List.all_eq_true] at hv
  obtain ⟨rfl,hg⟩:=hv
  have hc : ∀ i,∃ a,g i = f a:=fun i=>h _ (hg i (List.mem_finRange _))
  refine ⟨Vector.ofFn fun i=>(hc i).choose,?_⟩
  simp only [encV]
  congr 1
  funext i
  simp only [Fin.getElem_fin,Vector.getElem_ofFn]
  exact (hc i).choose_spec
 | _=>simp [Ty.fits] at hv
theorem dec_int {v : AV} (h : tI.fits v = true) : ∃ n,v = .int .i64 n:=by
 cases v <;> simp [tI,Ty.fits,LK.fits,AV.safe] at h
 subst h; exact ⟨_,rfl⟩
theorem dec_bool {v : AV} (h : tB.fits v = true) : ∃ n,v = .bool n:=by
 cases v <;> simp [tB,Ty.fits,LK.fits,AV.safe] at h
 exact ⟨_,rfl⟩
theorem dec_str {v : AV} (h : tS.fits v = true) : ∃ n,v = .str n:=by
 cases v <;> simp [tS,Ty.fits,LK.fits,AV.safe] at h
 exact ⟨_,rfl⟩
theorem dec_cons {a b : Ty} {v : AV} (h : (Ty.cons a b).fits v = true) : ∃ x y,v = .cons x y ∧ a.fits x = true ∧ b.fits y = true:=by
 cases v <;> simp [Ty.fits] at h
 exact ⟨_,_,rfl,h⟩
theorem dec_unit {v : AV} (h : Ty.unit.fits v = true) : v = .unit:=by
 cases v <;> simp [Ty.fits] at h
 rfl
theorem dec_ent {v : AV} (h : tEntry.fits v = true) : ∃ e : Ent,v = e.enc:=by
 obtain ⟨a,v,rfl,ha,h⟩:=dec_cons h
 obtain ⟨b,v,rfl,hb,h⟩:=dec_cons h
 obtain ⟨c,v,rfl,hc,h⟩:=dec_cons h
 obtain rfl:=dec_unit h
 obtain ⟨a,rfl⟩:=dec_str ha
 obtain ⟨b,rfl⟩:=dec_int hb
 obtain ⟨c,rfl⟩:=dec_int hc
 exact ⟨⟨a,b,c⟩,rfl⟩
theorem dec_dat {v : AV} (h : tData.fits v = true) : ∃ e : Dat,v = e.enc:=by
 obtain ⟨a,v,rfl,ha,h⟩:=dec_cons h
 obtain ⟨b,v,rfl,hb,h⟩:=dec_cons h
 obtain rfl:=dec_unit h
 obtain ⟨a,rfl⟩:=dec_int ha
 obtain ⟨b,rfl⟩:=dec_str hb
 exact ⟨⟨a,b⟩,rfl⟩
theorem dec_ino {v : AV} (h : tInode.fits v = true) : ∃ e : Ino,v = e.enc:=by
 obtain ⟨a,v,rfl,ha,h⟩:=dec_cons h
 obtain ⟨b,v,rfl,hb,h⟩:=dec_cons h
 obtain ⟨c,v,rfl,hc,h⟩:=dec_cons h
 obtain ⟨d,v,rfl,hd,h⟩:=dec_cons h
 obtain rfl:=dec_unit h
 obtain ⟨a,rfl⟩:=dec_bool ha
 obtain ⟨b,rfl⟩:=dec_int hb
 obtain ⟨c,rfl⟩:=dec_int hc
 obtain ⟨d,rfl⟩:=dec_encV (f:=AV.int .i64) (fun _=>dec_int) hd
 exact ⟨⟨a,b,c,d⟩,rfl⟩
theorem dec_img {v : AV} (h : tImage.fits v = true) : ∃ e : Img,v = e.enc:=by
 obtain ⟨a,v,rfl,ha,h⟩:=dec_cons h
 obtain ⟨b,v,rfl,hb,h⟩:=dec_cons h
 obtain ⟨c,v,rfl,hc,h⟩:=dec_cons h
 obtain rfl:=dec_unit h
 obtain ⟨a,rfl⟩:=dec_encV (f:=Ino.enc) (fun _=>dec_ino) ha
 obtain ⟨b,rfl⟩:=dec_encV (f:=encV Ent.enc) (fun _=>dec_encV (f:=Ent.enc) fun _=>dec_ent) hb
 obtain ⟨c,rfl⟩:=dec_encV (f:=Dat.enc) (fun _=>dec_dat) hc
 exact ⟨⟨a,b,c⟩,rfl⟩
open Go.RowKit Go.ChangeShapes
def HP.args (f : Nat → Option Blk) : HP:=⟨fun _=>[],fun _=>none,0,f⟩
def betaA (g : Nat → Option Place) : Beta
 | .arg n=>g n
 | _=>none
def elemOk (P : Program) (ks : List LK) (e : TypeId) : Bool :=
 match P.underlying e with
 | some (.struct fs)=>Go.Deep.oneCellFields P fs && (P.cellsOf e == fs.size) && (fs.toList.map (fun f=>kindOf (P.underlying f.type)) == ks.map some)
 | d=>(P.cellsOf e == 1) && (match kindOf d with | some k=>ks == [k] | none=>false)
section
variable {H : Type} {enc : TypeId × Value → H} {P : Program} {w : World} {base : Nat} {spare : Nat → Bool} {held : Bool} {φ : Nat → Option FuncId} {β : Beta}
theorem wf_has {k : IntKind} {n : Int} (h : (Lit.int k n).wf = true) : k.has n:=by
 simp only [Lit.wf,Bool.and_eq_true,decide_eq_true_eq] at h
 exact h
theorem maxLen_le {n : Nat} (h : n ≤ maxLen) : (n : Int) ≤ IntKind.i64.max:=by
 have : IntKind.i64.max = 2 ^ 63 - 1:=by decide
 rw [this]
 unfold maxLen at h
 omega
theorem leaf_trod {u : TypeId} {k : LK} {n : Nat} {cs : List Value} {y : DataW H × List MemPlace} (hk : kindOf (P.underlying u) = some k) (h : DataW.trod enc P w base spare held n u cs = some y) : ∃ x,cs = [x] ∧ okCell k x:=by
 unfold kindOf at hk
 split at hk <;> simp at hk <;> subst hk <;> rename_i hu
 ·cases n with
  | zero=>simp [DataW.trod] at h
  | succ n =>
   unfold DataW.trod at h
   rw [hu] at h
   match cs,h with
   | [.bool b],_=>exact ⟨_,rfl,b,rfl⟩
 ·obtain ⟨s,rfl,_,hs⟩:=DataW.trod_string hu h
  exact ⟨_,rfl,s,rfl,maxLen_le hs⟩
 ·obtain ⟨m,rfl,_,hs⟩:=DataW.trod_int hu h
  exact ⟨_,rfl,m,rfl,wf_has hs⟩
theorem elem_trod {e : TypeId} {ks : List LK} {n : Nat} {cs : List Value} {y : DataW H × List MemPlace} (hk : elemOk P ks e = true) (h : DataW.trod enc P w base spare held n e cs = some y) : All2 okCell ks cs:=by
 unfold elemOk at hk
 split at hk
 ·rename_i fs hu
  simp only [Bool.and_eq_true,beq_iff_eq] at hk
  obtain ⟨⟨h1,h2⟩,h3⟩:=hk
  obtain ⟨xs,m,rfl,rfl,hl,hxl,hf⟩:=DataW.trod_struct hu h
  have hone:=Go.Deep.hone_of h1
  have hkl : ks.length = fs.size:=by simpa using (congrArg List.length h3).symm
  refine ⟨by omega,fun i k x hi hx=>?_⟩
  have hi' : i < fs.size:=by
   rcases Nat.lt_or_ge i ks.length with h | h
   ·omega
   ·rw [List.getElem?_eq_none h] at hi; simp at hi
  have hfi : fs[i]? = some fs[i]:=Array.getElem?_eq_getElem hi'
  obtain ⟨ho,hc1⟩:=hone i _ hfi
  have g:=hf i _ hfi
  rw [ho,hc1,Go.Deep.take1_drop cs i undef (by omega),List.getElem?_eq_getElem (by omega)] at g
  have hki : kindOf (P.underlying fs[i].type) = some k:=by
   have:=congrArg (fun l=>l[i]?) h3
   simp only [List.getElem?_map,hi,Array.getElem?_toList,hfi,Option.map_some] at this
   simpa using this
  obtain ⟨x',e1,e2⟩:=leaf_trod hki g
  have : cs.getD i undef = x:=by simp [List.getD,hx]
  rw [this] at e1
  simp at e1
  subst e1; exact e2
 ·simp only [Bool.and_eq_true,beq_iff_eq] at hk
  obtain ⟨_,hk⟩:=hk
  cases hq : kindOf (P.underlying e) with
  | none=>rw [hq] at hk; simp at hk
  | some k =>
   rw [hq] at hk
   simp at hk
   subst hk
   obtain ⟨x,rfl,hx⟩:=leaf_trod hq h
   exact All2.cons hx All2.nil
structure SliceAt (φ : Nat → Option FuncId) (W : World) (t : Ty) (l : List AV) (x : Value) (pl : Place) : Prop where
 ty : pl.ty = .arr l.length t
 val : ∀ (g : Nat → Option Place) n,g n = some pl → VR φ (betaA g) (.sl (.arg n) 0 l.length) x
 blk : ∀ (g : Nat → Option Place) (O : Nat → Prop) n,g n = some pl → ∃ cs T fr,BR φ (betaA g) O (.arg n) ⟨.arr l.length t,.ofList l⟩ W pl cs T fr
theorem fits_ofList {t : Ty} {l : List AV} (h : ∀ v ∈ l,t.fits v = true) : (Ty.arr l.length t).fits (.ofList l) = true:=by
 simp only [AV.ofList,Ty.fits,beq_self_eq_true,Bool.true_and,List.all_eq_true]
 exact fun i _=>h _ (List.get_mem ..)
theorem given_slice {t : Ty} {U e : TypeId} {r : Reach} {b : Nat} {x : Value} {d : DataW H} {ps : List MemPlace} (hu : P.underlying U = some (.slice e)) (hk : elemOk P t.kinds e = true) (hs : P.cellsOf e = t.size) (hp : 0 < t.size)
  (hok : Value.okWide P w r b U x) (h : DataW.Trod enc P w 0 (fun _=>true) true U x d ps) :
  ∃ l : List AV,(∀ v ∈ l,t.fits v = true ∧ v.ranged) ∧ ((l = [] ∧ (x = .slice none 0 0 ∨ ∃ a cap,x = .slice (some a) 0 cap)) ∨ ∃ pl,SliceAt φ w t l x pl):=by
 obtain ⟨fuel,h⟩:=h
 have hx : Cell.okWide P w r b U x:=by unfold Value.okWide at hok; rw [hu] at hok; exact hok
 have hx' : Cell.ok P w r b U x:=by
  unfold Cell.okWide at hx
  rw [hu] at hx
  cases x <;> exact hx
 have hx'' : x = .slice none 0 0 ∨ ∃ a len cap,x = .slice (some a) len cap ∧ len ≤ cap ∧ a.spot = none:=by
  unfold Cell.ok at hx'
  rw [hu] at hx'
  cases x with
  | slice a len cap =>
   cases a with
   | none =>
    cases len <;> cases cap <;> simp at hx'
    exact .inl rfl
   | some a=>exact .inr ⟨a,len,cap,rfl,hx'.1,hx'.2.2.2.1⟩
  | _=>simp at hx'
 rcases hx'' with rfl | ⟨a,len,cap,rfl,hlc,hspot⟩
 ·exact ⟨[],by simp,.inl ⟨rfl,.inl rfl⟩⟩
 by_cases h0 : len = 0
 ·subst h0
  exact ⟨[],by simp,.inl ⟨rfl,.inr ⟨a,cap,rfl⟩⟩⟩
 rcases Go.Deep.open_slice hu h with ⟨h1,_⟩ | ⟨a',len',cap',m,n,D,Pl,h1,_,_,hcm,hm,_,hel⟩
 ·simp [Value.cells] at h1
 simp [Value.cells] at h1
 obtain ⟨rfl,rfl,rfl⟩:=h1
 simp only [if_true] at hm
 subst hm
 rw [hs] at hel
 obtain ⟨br,off,spot⟩:=a
 simp only at hspot
 subst hspot

 obtain ⟨cs0,hc0,_⟩:=hel 0 (by omega)
 obtain ⟨_,hl0,hcell0⟩:=World.cells?_some hc0
 have hb0:=hcell0 0 hp
 rw [List.getElem?_eq_getElem (by omega)] at hb0
 obtain ⟨cs,T,fr,hheap⟩ : ∃ cs T fr,w.heap[br]? = some (.cells cs T fr):=by
  have hblk : ((Addr.mk br off none).add (0 * t.size)).add 0 = ⟨br,off,none⟩:=by simp [Addr.add]
  rw [hblk] at hb0
  unfold World.cell? at hb0
  split at hb0
  ·exact ⟨_,_,_,by assumption⟩
  ·simp at hb0
 have hcell : ∀ i,i < m → ∀ k,k < t.size → ∀ ci,w.cells? 0 ((Addr.mk br off none).add (i * t.size)) t.size = some ci → cs[off + i * t.size + k]? = ci[k]?:=by
  intro i hi k hkt ci hci
  obtain ⟨_,hl,hcell⟩:=World.cells?_some hci
  rw [← hcell k hkt]
  have : ((Addr.mk br off none).add (i * t.size)).add k = ⟨br,off + i * t.size + k,none⟩:=by
   unfold Addr.add
   by_cases e1 : i * t.size = 0 <;> by_cases e2 : k = 0 <;> simp [e1,e2]
  rw [this]
  simp [World.cell?,hheap]
 obtain ⟨V,hV⟩:=Go.Deep.choose_lt (α:=AV) (n:=len) (p:=fun i v=>t.fits v = true ∧ v.ranged ∧ ∀ (β : Beta) k c,v.flat[k]? = some c → ∃ x,cs[off + i * t.size + k]? = some x ∧ LR φ β c x) (fun i hi=>by
  obtain ⟨ci,hci,hti⟩:=hel i (by omega)
  obtain ⟨_,hlci,_⟩:=World.cells?_some hci
  obtain ⟨v,hf,hl,hr⟩:=build (φ:=φ) (β:=fun _=>none) t ci (elem_trod hk hti)
  refine ⟨v,hf,hr,fun β k c hc=>?_⟩
  have hkt : k < t.size:=by
   rcases Nat.lt_or_ge k v.flat.length with h | h
   ·rw [Ty.fits_length hf] at h; exact h
   ·rw [List.getElem?_eq_none h] at hc; simp at hc
  refine ⟨ci[k]'(by omega),?_,?_⟩
  ·rw [hcell i (by omega) k hkt ci hci,List.getElem?_eq_getElem (by omega)]
  ·have:=hl.2 k c _ hc (List.getElem?_eq_getElem (by omega))
   exact LR_congr (fun i pl _ h=>by simp at h) this)
 refine ⟨(List.range len).map V,fun v hv=>?_,.inr ⟨⟨br,off,.arr len t,m * t.size⟩,by simp,fun g n hg=>?_,fun g O n hg=>⟨cs,T,fr,?_⟩⟩⟩
 ·obtain ⟨i,hi,rfl⟩:=List.mem_map.1 hv
  obtain ⟨h1,h2,_⟩:=hV i (List.mem_range.1 hi)
  exact ⟨h1,h2⟩
 ·refine VR_of_VR1 ?_
  simp only [VR1,AV.isAgg,Bool.false_eq_true,if_false,LR,AV.rel,List.length_map,List.length_range]
  exact ⟨_,len,t,m,hg,rfl,by omega,by omega,by simp,by simp⟩
 ·have hfits : (Ty.arr ((List.range len).map V).length t).fits (.ofList ((List.range len).map V)) = true:=fits_ofList fun v hv=>by
   obtain ⟨i,hi,rfl⟩:=List.mem_map.1 hv
   exact (hV i (List.mem_range.1 hi)).1
  refine ⟨hg,by simp,hfits,hheap,?_,?_,?_,fun h=>by simp [Id.isArg] at h⟩
  ·
   obtain ⟨ci,hci,_⟩:=hel (m - 1) (by omega)
   obtain ⟨_,hlci,_⟩:=World.cells?_some hci
   have:=hcell (m - 1) (by omega) (t.size - 1) (by omega) ci hci
   rw [List.getElem?_eq_getElem (by omega)] at this
   obtain ⟨hlt,_⟩:=Array.getElem?_eq_some_iff.1 this
   show off + m * t.size ≤ cs.size
   have e : m * t.size = (m - 1) * t.size + t.size:=by
    have : m = (m - 1) + 1:=by omega
    calc m * t.size = ((m - 1) + 1) * t.size:=by rw [← this]
     _ = _:=by rw [Nat.add_mul,Nat.one_mul]
   omega
  ·simp only [Ty.size,List.length_map,List.length_range]
   exact Nat.mul_le_mul_right _ hlc
  ·intro k c hc
   have hflat : (AV.ofList ((List.range len).map V)).flat = (List.range len).flatMap fun i=>(V i).flat:=by
    rw [arr_flat,List.flatMap_map]
   rw [hflat] at hc
   have hlen : ∀ i ∈ List.range len,((V i).flat).length = t.size:=fun i hi=>Ty.fits_length (hV i (List.mem_range.1 hi)).1
   have hk : k / t.size < len:=by
    have hkl : k < ((List.range len).flatMap fun i=>(V i).flat).length:=by
     rcases Nat.lt_or_ge k ((List.range len).flatMap fun i=>(V i).flat).length with h | h
     ·exact h
     ·rw [List.getElem?_eq_none h] at hc; simp at hc
    have hll : ((List.range len).flatMap fun i=>(V i).flat).length = len * t.size:=by
     rw [List.length_flatMap,List.map_congr_left hlen,List.map_const',List.sum_replicate_nat,List.length_range]
    rw [hll] at hkl
    exact (Nat.div_lt_iff_lt_mul hp).2 hkl
   have e:=getElem?_flatMap_const (List.range len) (fun i=>(V i).flat) t.size hlen (k / t.size) (by simpa using hk) (k % t.size) (Nat.mod_lt _ hp)
   have ek : k / t.size * t.size + k % t.size = k:=by rw [Nat.mul_comm]; exact Nat.div_add_mod k t.size
   rw [ek] at e
   rw [e] at hc
   simp only [List.getElem_range] at hc
   obtain ⟨y,hy,hyl⟩:=(hV (k / t.size) hk).2.2 (betaA g) (k % t.size) c hc
   refine ⟨y,?_,hyl⟩
   show cs[off + k]? = some y
   rw [← hy]
   congr 1
   omega
end
section
variable {P : Program} {T : Nat → Option MFun}
theorem law_runA {φ : Nat → Option FuncId} {fuel F f : Nat} {fn : MFun} {args : List AV} {rargs : List Value} {v : AV} {hp : HP} {bf : Nat → Option Blk} {g : Nat → Option Place} (hT : TblOk P T φ drawOk) (hmo : P.follows .mixedOrders = true) (hf : T f = some fn) (hF : φ f = some F) (hfree : fn.nfree = 0)
  (hrun : runFn T fuel f args (HP.args bf) = some (v,hp)) (hlen : args.length = fn.params) (ha : All2 (VR φ (betaA g)) args rargs) (W : World)
  (hB : ∀ n b,bf n = some b → ∃ pl cs T fr,BR φ (betaA g) (fun r=>W.heap.size ≤ r) (.arg n) b W pl cs T fr) :
  Calls P F rargs.toArray W fun e W'=>(∃ x β',e = .returned x ∧ VR φ β' v x) ∧ Below W.heap.size W W':=by
 unfold runFn at hrun
 rw [hf] at hrun
 simp only at hrun
 cases hr : run T fuel ⟨0,⟨0,0⟩⟩ [.code fn.body] (St.enter args (HP.args bf)) with
 | none=>simp [hr] at hrun
 | some s2 =>
  simp only [hr,Option.map_eq_some_iff] at hrun
  obtain ⟨v',hv,he⟩:=hrun
  simp at he
  obtain ⟨rfl,_⟩:=he
  have hst : ∀ i b,(HP.args bf).look i = some b → ∃ n,i = .arg n ∧ bf n = some b:=by
   intro i b hb
   cases i with
   | stk l t=>simp [HP.args,HP.look,Own.get] at hb
   | obj n=>simp [HP.args,HP.look] at hb
   | arg n=>exact ⟨n,rfl,hb⟩
  have:=callSim hT (drawSound hT hmo) fuel ⟨0,⟨0,0⟩⟩ fn F args (HP.args bf) s2 v' (betaA g) (fun r=>W.heap.size ≤ r) rargs W (hT f fn F hf hF) hr hv (by simp [hlen,hfree]) ha
   ⟨fun i b hb=>by obtain ⟨n,rfl,h⟩:=hst i b hb; exact hB n b h,fun i j bi bj pi pj hi hj _ _ _ _=>by
    obtain ⟨n,rfl,_⟩:=hst i bi hi
    obtain ⟨m,rfl,_⟩:=hst j bj hj
    exact ⟨rfl,rfl⟩⟩ (fun i pl h=>by cases i <;> simp [betaA] at h <;> trivial) (fun _ _=>rfl) (fun r h=>h)
  refine this.mono fun e W' h=>?_
  obtain ⟨x,β',rfl,hvx,_,hA⟩:=h
  exact ⟨⟨x,β',rfl,hvx⟩,hA.same.os,hA.same.tape,hA.same.output,hA.same.size,fun k hk=>hA.same.block k hk (by omega)⟩
theorem law_callsS {φ : Nat → Option FuncId} {F f : Nat} {fn : MFun} {bf : Nat → Option Blk} {g : Nat → Option Place} (hT : TblOk P T φ drawOk) (hmo : P.follows .mixedOrders = true) (hf : T f = some fn) (hF : φ f = some F) (hfree : fn.nfree = 0)
  {args : Array Value} {avs : List AV} (W : World) (ha : All2 (VR φ (betaA g)) avs args.toList) (hlen : avs.length = fn.params) (hB : ∀ n b,bf n = some b → ∃ pl cs T fr,BR φ (betaA g) (fun r=>W.heap.size ≤ r) (.arg n) b W pl cs T fr)
  (h : Ok T ⟨0,⟨0,0⟩⟩ fn (St.enter avs (HP.args bf)) fun v _=>v = .bool true) :
  Calls P F args W fun e W'=>e = .returned (.bool true) ∧ Below W.heap.size W W':=by
 obtain ⟨n,s',v,hr,hv,rfl⟩:=h
 have hr' : runFn T n f avs (HP.args bf) = some (.bool true,s'.hp):=by simp only [runFn,hf,hr,hv]; rfl
 have:=law_runA hT hmo hf hF hfree hr' hlen ha W hB
 rw [Array.toArray_toList] at this
 refine this.mono fun e W' h=>⟨?_,h.2⟩
 obtain ⟨⟨x,β',rfl,hv⟩,_⟩:=h
 simp [VR,VR1,AV.isAgg,LR,AV.rel] at hv
 rw [hv]
end
open Go.RowKit Go.ChangeShapes
theorem dec_step {v : AV} (h : tStep.fits v = true) : ∃ x : SStep,v = x.enc:=by
 obtain ⟨a,v,rfl,ha,h⟩:=dec_cons h
 obtain ⟨b,v,rfl,hb,h⟩:=dec_cons h
 obtain ⟨c,v,rfl,hc,h⟩:=dec_cons h
 obtain ⟨d,v,rfl,hd,h⟩:=dec_cons h
 obtain ⟨e,v,rfl,he,h⟩:=dec_cons h
 obtain ⟨f,v,rfl,hf,h⟩:=dec_cons h
 obtain ⟨g,v,rfl,hg,h⟩:=dec_cons h
 obtain rfl:=dec_unit h
 obtain ⟨a,rfl⟩:=dec_int ha
 obtain ⟨b,rfl⟩:=dec_int hb
 obtain ⟨c,rfl⟩:=dec_int hc
 obtain ⟨d,rfl⟩:=dec_int hd
 obtain ⟨e,rfl⟩:=dec_str he
 obtain ⟨f,rfl⟩:=dec_str hf
 obtain ⟨g,rfl⟩:=dec_str hg
 exact ⟨⟨a,b,c,d,e,f,g⟩,rfl⟩
theorem dec_list {α : Type} {t : Ty} {f : α → AV} (hd : ∀ v,t.fits v = true → ∃ a,v = f a) : ∀ l : List AV,(∀ v ∈ l,t.fits v = true) → ∃ L : List α,l = L.map f
 | [],_=>⟨[],rfl⟩
 | v :: l,h=>by
  obtain ⟨a,rfl⟩:=hd v (h v List.mem_cons_self)
  obtain ⟨L,rfl⟩:=dec_list hd l fun w hw=>h w (List.mem_cons_of_mem _ hw)
  exact ⟨a :: L,rfl⟩
theorem i64max : IntKind.i64.max = 9223372036854775807:=by decide
theorem step_ranged {x : SStep} (h : x.enc.ranged) : x.ok:=by
 obtain ⟨_,_,_,_,h5,h6,h7,_⟩:=h
 have e:=i64max
 refine ⟨?_,?_,?_⟩
 ·have : ((ByteArray.size x.name : Nat) : Int) ≤ IntKind.i64.max:=h5
  omega
 ·have : ((ByteArray.size x.to : Nat) : Int) ≤ IntKind.i64.max:=h6
  omega
 ·have : ((ByteArray.size x.text : Nat) : Int) ≤ IntKind.i64.max:=h7
  omega
section
variable {H : Type} {enc : TypeId × Value → H} {P : Program} {w : World} {φ : Nat → Option FuncId}
theorem given_steps {U e : TypeId} {r : Reach} {b : Nat} {x : Value} {d : DataW H} {ps : List MemPlace} (hu : P.underlying U = some (.slice e)) (hk : elemOk P tStep.kinds e = true) (hs : P.cellsOf e = tStep.size)
  (hok : Value.okWide P w r b U x) (h : DataW.Trod enc P w 0 (fun _=>true) true U x d ps) (n : Nat) :
  ∃ (L : List SStep) (v : AV) (bf : Option Blk) (pl : Option Place),(∀ k,(stp L k).ok) ∧ (∀ g : Nat → Option Place,g n = pl → VR φ (betaA g) v x) ∧
   (∀ (g : Nat → Option Place) (O : Nat → Prop) (b : Blk),g n = pl → bf = some b → ∃ pl' cs T fr,BR φ (betaA g) O (.arg n) b w pl' cs T fr) ∧ (∀ h : HP,h.arg n = bf → StepsV h v L):=by
 obtain ⟨l,hl,hc⟩:=given_slice (φ:=φ) (t:=tStep) hu hk hs (by decide) hok h
 obtain ⟨L,rfl⟩:=dec_list (fun _=>dec_step) l fun v hv=>(hl v hv).1
 have hokL : ∀ k,(stp L k).ok:=by
  intro k
  by_cases hk : k < L.length
  ·have : stp L k = L[k]:=by simp [stp,hk]
   rw [this]
   exact step_ranged (hl _ (List.mem_map.2 ⟨_,List.getElem_mem hk,rfl⟩)).2
  ·have : stp L k = ⟨0,0,0,0,⟨#[]⟩,⟨#[]⟩,⟨#[]⟩⟩:=by simp only [stp]; rw [List.getD_eq_getElem?_getD,List.getElem?_eq_none (by omega)]; rfl
   rw [this]
   exact ⟨Nat.zero_le _,Nat.zero_le _,Nat.zero_le _⟩
 rcases hc with ⟨h0,hx⟩ | ⟨pl,hp⟩
 ·have hL : L = []:=by simpa using h0
  subst hL
  rcases hx with rfl | ⟨a,cap,rfl⟩
  ·exact ⟨[],.nilsl,none,none,hokL,fun g _=>by simp [VR,VR1,AV.isAgg,LR,AV.rel],fun _ _ b _ hb=>by simp at hb,fun h _=>⟨rfl,fun _ _=>rfl,fun _ _=>rfl,fun k hk=>by simp at hk⟩⟩
  ·exact ⟨[],.slz,none,none,hokL,fun g _=>by simp [VR,VR1,AV.isAgg,LR,AV.rel],fun _ _ b _ hb=>by simp at hb,fun h _=>⟨rfl,fun _ _=>rfl,fun _ _=>rfl,fun k hk=>by simp at hk⟩⟩
 ·have hlen : (L.map SStep.enc).length = L.length:=List.length_map ..
  refine ⟨L,.sl (.arg n) 0 L.length,some ⟨.arr L.length tStep,encSteps L⟩,some pl,hokL,fun g hg=>?_,fun g O b hg hb=>?_,fun h hh=>⟨rfl,fun a b=>fg_args n a b _ _,fun a b=>leads_args n a b _ _,fun k hk=>⟨n,rfl,?_⟩⟩⟩
  ·have:=hp.val g n hg
   rwa [hlen] at this
  ·simp only [Option.some.injEq] at hb
   subst hb
   obtain ⟨cs,T,fr,hB⟩:=hp.blk g O n hg
   rw [hlen] at hB
   exact ⟨pl,cs,T,fr,hB⟩
  ·simp only [HP.look]; exact hh
end
section
variable {P : Program} {φ : Nat → Option FuncId} {β : Beta} {W : World} {r : Reach} {b : Nat} {x : Value} {U : TypeId}
theorem given_intB (hk : kindOf (P.underlying U) = some (.int .i64)) (h : Value.okWide P W r b U x) : ∃ n,VR φ β (.int .i64 n) x:=by
 obtain ⟨v,h1,_,h3⟩:=given_leaf (φ:=φ) (β:=β) hk h
 obtain ⟨n,rfl⟩:=dec_int h1
 exact ⟨n,h3⟩
theorem given_strB (hk : kindOf (P.underlying U) = some .str) (h : Value.okWide P W r b U x) : ∃ n : Str,n.size ≤ 9223372036854775807 ∧ VR φ β (.str n) x:=by
 obtain ⟨v,h1,h2,h3⟩:=given_leaf (φ:=φ) (β:=β) hk h
 obtain ⟨n,rfl⟩:=dec_str h1
 have e:=i64max
 have : ((ByteArray.size n : Nat) : Int) ≤ IntKind.i64.max:=h2
 exact ⟨n,by omega,h3⟩
theorem given_imgB {ts : List TypeId} (hts : P.cellTypes P.depth U = some ts) (hk : (ts.map fun u=>kindOf (P.underlying u)) = tImage.kinds.map some) (hu : ∃ fs,P.underlying U = some (.struct fs)) (hc : P.cellsOf U = tImage.kinds.length)
  (h : Value.okWide P W r b U x) : ∃ m : Img,VR φ β m.enc x:=by
 obtain ⟨v,h1,_,h3⟩:=given_agg (φ:=φ) (β:=β) hts hk rfl (.inl hu) hc h
 obtain ⟨n,rfl⟩:=dec_img h1
 exact ⟨n,h3⟩
theorem given_stepB {ts : List TypeId} (hts : P.cellTypes P.depth U = some ts) (hk : (ts.map fun u=>kindOf (P.underlying u)) = tStep.kinds.map some) (hu : ∃ fs,P.underlying U = some (.struct fs)) (hc : P.cellsOf U = tStep.kinds.length)
  (h : Value.okWide P W r b U x) : ∃ m : SStep,m.ok ∧ VR φ β m.enc x:=by
 obtain ⟨v,h1,h2,h3⟩:=given_agg (φ:=φ) (β:=β) hts hk rfl (.inl hu) hc h
 obtain ⟨n,rfl⟩:=dec_step h1
 exact ⟨n,step_ranged h2,h3⟩
end
theorem lets_top' : ∀ n,(⟨0,⟨0,0⟩⟩ : Cx).prot.lets (.obj n) = true:=fun n=>decide_eq_true (Nat.zero_le n)
def one1 {α : Type} (a : Option α) : Nat → Option α:=fun n=>if n = 0 then a else none
def two2 {α : Type} (a b : Option α) : Nat → Option α:=fun n=>if n = 0 then a else if n = 1 then b else none
@[go_sem] theorem fill_stepD (k : Int) (s t : Str) : fill tStep tStep.zero [(0,.int .i64 k),(4,.str s),(6,.str t)] = some (SStep.enc ⟨k,0,0,0,s,⟨#[]⟩,t⟩):=rfl
@[go_sem] theorem fill_stepE (k d : Int) (s t : Str) : fill tStep tStep.zero [(0,.int .i64 k),(4,.str s),(2,.int .i64 d),(5,.str t)] = some (SStep.enc ⟨k,0,d,0,s,t,⟨#[]⟩⟩):=rfl
def HF (h : HP) (F : Fl) : HP:=(h.nw tCache (encC F.now F.disk)).nw tFiles (encF h.next F.stamp)
section
variable {cx : Cx} {h : HP} {F : Fl}
theorem HF_F : (HF h F).look (.obj (h.next + 1)) = some ⟨tFiles,encF h.next F.stamp⟩:=look_nn1
theorem HF_C : (HF h F).look (.obj h.next) = some ⟨tCache,encC F.now F.disk⟩:=look_nn0
theorem HF_set {a b : Img} {s : Int} : ((HF h F).ob (h.next + 1) tFiles (encF h.next s)).ob h.next tCache (encC a b) = HF h ⟨a,b,s⟩:=by
 simp only [HF,HP.nw,HP.ob,HP.set,HP.mk.injEq,true_and,and_true]
 funext k
 by_cases h1 : k = h.next
 ·subst h1; simp
 ·by_cases h2 : k = h.next + 1 <;> simp [h1,h2]
theorem HF_fr : Fr h (HF h F) []:=Fr.nw.trans Fr.nw
theorem Do_HF {x : SStep} (hl : ∀ n,cx.prot.lets (.obj n) = true) (hw : WF F.now) (hx : x.ok) :
  Ok tblE cx Fn.soft_Files_Do (St.enter [.ptr (.obj (h.next + 1)) [] tFiles,x.enc] (HF h F)) fun v h'=>v = .int .i64 (doC F x) ∧ h' = HF h (doF F x):=by
 refine (Do_ok hl HF_F HF_C (by omega) hw hx.name hx.to hx.text).mono fun v h' e=>?_
 refine ⟨e.1,?_⟩
 rw [e.2,HF_set]
 have:=doF_disk F x
 generalize doF F x = G at this ⊢
 cases G
 simp only at this
 subst this
 rfl
end
def fb0 : Fl:=⟨.blank,.blank,0⟩
def sFx : SStep:=⟨5,0,0,0,⟨#[97]⟩,⟨#[]⟩,⟨#[120]⟩⟩
def sFl : SStep:=⟨2,0,2,0,⟨#[97]⟩,⟨#[98]⟩,⟨#[]⟩⟩
def fb1 : Fl:=doF fb0 sA
def fb2 : Fl:=doF fb1 sFx
def fb3 : Fl:=doF fb2 sFl
theorem fbA : doC fb0 sA = 0:=by decide +kernel
theorem fbB : doC fb1 sFx = 0:=by decide +kernel
theorem fbC : doC fb2 sFl = 0:=by decide +kernel
theorem fbW0 : WF fb0.now:=WF_check (by decide +kernel)
theorem fbW1 : WF fb1.now:=WF_check (by decide +kernel)
theorem fbW2 : WF fb2.now:=WF_check (by decide +kernel)
theorem fbW3 : WF fb3.now:=WF_check (by decide +kernel)
theorem fbR : readT fb3.now 2 ⟨#[98]⟩ 0 = ⟨#[120]⟩ ∧ readB fb3.now 2 ⟨#[98]⟩ 0 = true ∧ readC fb3.now 2 ⟨#[98]⟩ 0 = 0:=by decide +kernel
theorem fbS : sameB fb3.now 0 ⟨#[97]⟩ 2 ⟨#[98]⟩ = true:=by decide +kernel
theorem fbU : sureB fb3.now fb3.disk 0 ⟨#[97]⟩ = false:=by decide +kernel
theorem fbK : (fb3.now.ino 0).links = 2:=by decide +kernel
theorem fbL : listOf fb3.now 2 = [⟨#[98]⟩]:=by
 have : namesL fb3.now 2 4 = [⟨#[98]⟩]:=by decide +kernel
 show (if (2 : Int) < 0 ∨ (3 : Int) ≤ 2 then [] else sortS (namesL fb3.now (2 : Int).toNat 4)) = _
 rw [if_neg (by omega)]
 show sortS (namesL fb3.now 2 4) = _
 rw [this]
 simp [sortS]
section
variable {cx : Cx} {h : HP}
theorem softBegun_ok (hl : ∀ n,cx.prot.lets (.obj n) = true) : Ok tblE cx Fn.w_softBegun (St.enter [] h) fun v h'=>Fr h h' [] ∧ v = .bool true:=by
 rw [Ok_eq]
 simp (maxSteps:=999999) (disch:=omega) only [go_sem]
 refine W_callh (v:=.ptr (.obj (h.next + 1)) [] tFiles) (HF h fb0) rfl ⟨rfl,rfl⟩ rfl (by simp only [go_sem]; exact SNew_ok) ?_
 simp (maxSteps:=999999) (disch:=omega) only [go_sem]
 refine W_callp rfl ⟨rfl,rfl⟩ (by simp only [go_sem]; exact SOf_no (m:=Img.zero) zero_small (by rw [cb11]; decide)) ?_
 simp (maxSteps:=999999) (disch:=omega) only [go_sem]
 refine W_callh (v:=.int .i64 (doC fb0 sA)) (HF h fb1) rfl ⟨rfl,rfl⟩ rfl (by simp only [go_sem]; exact Do_HF (h:=h.push cx.lvl []) (F:=fb0) (x:=sA) (by exact hl) fbW0 (stepOk_short (by decide))) ?_
 rw [fbA]
 simp (maxSteps:=999999) (disch:=omega) only [go_sem]
 refine W_callh (v:=.int .i64 (doC fb1 sFx)) (HF h fb2) rfl ⟨rfl,rfl⟩ rfl (by simp only [go_sem]; exact Do_HF (h:=h.push cx.lvl []) (F:=fb1) (x:=sFx) (by exact hl) fbW1 ⟨by decide,by decide,by decide⟩) ?_
 rw [fbB]
 simp (maxSteps:=999999) (disch:=omega) only [go_sem]
 refine W_callh (v:=.int .i64 (doC fb2 sFl)) (HF h fb3) rfl ⟨rfl,rfl⟩ rfl (by simp only [go_sem]; exact Do_HF (h:=h.push cx.lvl []) (F:=fb2) (x:=sFl) (by exact hl) fbW2 ⟨by decide,by decide,by decide⟩) ?_
 rw [fbC]
 simp (maxSteps:=999999) (disch:=omega) only [go_sem]
 refine W_callp rfl ⟨rfl,rfl⟩ (by simp only [go_sem]; exact Read_ok (h:=(HF h fb3).push cx.lvl []) (f:=h.next + 1) (c:=h.next) (a:=fb3.now) (b:=fb3.disk) (st:=fb3.stamp) HF_F HF_C fbW3 (by decide)) ?_
 rw [fbR.1,fbR.2.1,fbR.2.2]
 simp (maxSteps:=999999) (disch:=omega) only [go_sem,encR]
 refine W_callp rfl ⟨rfl,rfl⟩ (by simp only [go_sem]; exact Same_ok (h:=(HF h fb3).push cx.lvl []) (f:=h.next + 1) (c:=h.next) (a:=fb3.now) (b:=fb3.disk) (st:=fb3.stamp) HF_F HF_C) ?_
 rw [fbS]
 simp (maxSteps:=999999) (disch:=omega) only [go_sem]
 refine W_callp rfl ⟨rfl,rfl⟩ (by simp only [go_sem]; exact Sure_ok (h:=(HF h fb3).push cx.lvl []) (f:=h.next + 1) (c:=h.next) (a:=fb3.now) (b:=fb3.disk) (st:=fb3.stamp) HF_F HF_C) ?_
 rw [fbU]
 simp (maxSteps:=999999) (disch:=omega) only [go_sem]
 refine W_callF (S:=[]) (R:=fun v h'=>SlF (HF h fb3) h' v (listOf fb3.now 2)) rfl ⟨rfl,rfl⟩ (by simp only [go_sem]; exact List_ok (h:=(HF h fb3).push cx.lvl []) (f:=h.next + 1) (c:=h.next) (a:=fb3.now) (b:=fb3.disk) (st:=fb3.stamp) (by exact hl) HF_F HF_C) (fun v h1 e=>e) ?_
 rintro v h7 hF7 hs
 rw [fbL] at hs
 have hlv : fg v (.stk cx.lvl 64) = v:=by
  rcases hs with ⟨rfl,_⟩ | ⟨q,rfl,_⟩ <;> simp only [go_sem]
 simp (maxSteps:=999999) (disch:=omega) only [go_sem,hlv]
 refine W_callp rfl ⟨rfl,rfl⟩ (by simp only [go_sem]; exact SameTexts_ok (m:=[⟨#[98]⟩]) hs.xp (.inr ⟨_,rfl,below_stk _ _,by simp only [HP.push_look_own,go_sem]; rfl⟩) (by decide)) ?_
 have f7 : h7.look (.obj (h.next + 1)) = some ⟨tFiles,encF h.next fb3.stamp⟩:=hF7.look (by show h.next + 1 < h.next + 1 + 1; omega) (by simp) HF_F
 have c7 : h7.look (.obj h.next) = some ⟨tCache,encC fb3.now fb3.disk⟩:=hF7.look (by show h.next < h.next + 1 + 1; omega) (by simp) HF_C
 simp (maxSteps:=999999) (disch:=omega) only [go_sem,f7,c7,fbK]
 exact HF_fr.trans hF7
end
structure FilAt (h : HP) (f c : Nat) (F : Fl) : Prop where
 fi : h.look (.obj f) = some ⟨tFiles,encF c F.stamp⟩
 ca : h.look (.obj c) = some ⟨tCache,encC F.now F.disk⟩
 fc : ¬f = c
 fn : f < h.next
 cn : c < h.next
theorem FilAt.push {h : HP} {f c l : Nat} {o : Own} {F : Fl} (a : FilAt h f c F) : FilAt (h.push l o) f c F:=⟨a.fi,a.ca,a.fc,a.fn,a.cn⟩
theorem FilAt.pop {h : HP} {f c l : Nat} {o : Own} {F : Fl} (a : FilAt (h.push l o) f c F) : FilAt h f c F:=⟨a.fi,a.ca,a.fc,a.fn,a.cn⟩
theorem FilAt.same {h h' : HP} {f c : Nat} {F : Fl} {S : List Nat} (a : FilAt h f c F) (b : Fr h h' S) (hf : f ∉ S) (hc : c ∉ S) : FilAt h' f c F :=
 ⟨b.look a.fn hf a.fi,b.look a.cn hc a.ca,a.fc,Nat.lt_of_lt_of_le a.fn b.next,Nat.lt_of_lt_of_le a.cn b.next⟩
def softF (F : Fl) (x : SStep) : Fl :=
 if x.kind = 7 then { F with disk:=(writeAs F.now F.disk x.p).1 } else
 if x.kind = 8 then { F with disk:=syncTo F.now F.disk } else
 if x.kind = 9 then F else doF F x
def softC (F G : Fl) (x : SStep) : Bool :=
 if x.kind = 7 then decide ((writeAs F.now F.disk x.p).2 = (writeAs G.now G.disk x.p).2) else
 if x.kind = 8 then decide (syncK F.now F.disk = syncK G.now G.disk) else
 if x.kind = 9 then true else decide (doC F x = doC G x)
def softB (B : Bd) (x : SStep) : Bd:={ B with now:=(softF B.fl x).now,disk:=(softF B.fl x).disk,stamp:=(softF B.fl x).stamp }
section
variable {cx : Cx} {h : HP} {f c e : Nat} {F : Fl} {B : Bd}
theorem SoftStep_ok {x : SStep} (hl : ∀ n,cx.prot.lets (.obj n) = true) (hA : FilAt h f c F) (hB : h.look (.obj e) = some ⟨tBed,B.enc⟩) (hef : ¬e = f) (hec : ¬e = c) (en : e < h.next) (hw : WF F.now) (hwB : WF B.now) (hx : x.ok) :
  Ok tblE cx Fn.w_softStep (St.enter [.ptr (.obj f) [] tFiles,.ptr (.obj e) [] tBed,x.enc] h) fun v h' =>
   Fr h h' [f,c,e] ∧ v = .bool (softC F B.fl x) ∧ FilAt h' f c (softF F x) ∧ h'.look (.obj e) = some ⟨tBed,(softB B x).enc⟩:=by
 obtain ⟨fi,ca,fc,fn,cn⟩:=id hA
 have hce : ¬c = e:=fun h=>hec h.symm
 have hfe : ¬f = e:=fun h=>hef h.symm
 have hcf : ¬c = f:=fun h=>fc h.symm
 rw [Ok_eq]
 simp (maxSteps:=999999) (disch:=omega) only [go_sem]
 by_cases c7 : x.kind = 7
 ·have e7 : softF F x = { F with disk:=(writeAs F.now F.disk x.p).1 }:=by simp [softF,c7]
  have b7 : softB B x = { B with disk:=(writeAs B.now B.disk x.p).1 }:=by simp only [softB,softF,c7,if_true]; rfl
  have w7 : softC F B.fl x = decide ((writeAs F.now F.disk x.p).2 = (writeAs B.now B.disk x.p).2):=by simp only [softC,c7,if_true]; exact decide_eq_decide.2 Iff.rfl
  simp (maxSteps:=999999) (disch:=omega) only [go_sem,c7,fi]
  refine W_callS (v:=.bool (writeAs F.now F.disk x.p).2) (h.ob c tCache (encC F.now (writeAs F.now F.disk x.p).1)) rfl ⟨rfl,rfl⟩ rfl (by simp only [go_sem]; exact eWrite (fun n=>hl n) (by simp only [go_sem,ca])) ?_
  simp (maxSteps:=999999) (disch:=omega) only [go_sem]
  refine W_callh (v:=.bool (writeAs B.now B.disk x.p).2) ((h.ob c tCache (encC F.now (writeAs F.now F.disk x.p).1)).ob e tBed (Bd.enc { B with disk:=(writeAs B.now B.disk x.p).1 })) rfl ⟨rfl,rfl⟩ rfl (by simp only [go_sem]; exact rWrite_ok (B:=B) (by exact hl) (by simp only [go_sem,look_ob_ne hec,hB])) ?_
  simp (maxSteps:=999999) (disch:=omega) only [go_sem]
  rw [e7,b7,w7]
  refine ⟨(Fr.ob (by simp)).trans (Fr.ob (by simp)),rfl,⟨?_,?_,fc,fn,cn⟩,by first | rfl | exact look_ob⟩
  ·rw [look_ob_ne hfe,look_ob_ne fc]; exact fi
  ·rw [look_ob_ne hce,look_ob]
 by_cases c8 : x.kind = 8
 ·have e7 : softF F x = { F with disk:=syncTo F.now F.disk }:=by simp [softF,c8]
  have b7 : softB B x = { B with disk:=syncTo B.now B.disk }:=by simp only [softB,softF,c8,if_true]; rfl
  have w7 : softC F B.fl x = decide (syncK F.now F.disk = syncK B.now B.disk):=by
   unfold softC
   rw [if_neg c7,if_pos c8]
   exact decide_eq_decide.2 Iff.rfl
  simp (maxSteps:=999999) (disch:=omega) only [go_sem,c7,c8,fi]
  refine W_callh (v:=.int .i64 (syncK F.now F.disk)) (h.ob c tCache (encC F.now (syncTo F.now F.disk))) rfl ⟨rfl,rfl⟩ rfl (by simp only [go_sem]; exact eSync (by exact hl) (by simp only [go_sem,ca])) ?_
  simp (maxSteps:=999999) (disch:=omega) only [go_sem]
  refine W_callh (v:=.int .i64 (syncK B.now B.disk)) ((h.ob c tCache (encC F.now (syncTo F.now F.disk))).ob e tBed (Bd.enc { B with disk:=syncTo B.now B.disk })) rfl ⟨rfl,rfl⟩ rfl (by simp only [go_sem]; exact rSync_E (B:=B) (by exact hl) (by simp only [go_sem,look_ob_ne hec,hB])) ?_
  simp (maxSteps:=999999) (disch:=omega) only [go_sem]
  rw [e7,b7,w7]
  refine ⟨(Fr.ob (by simp)).trans (Fr.ob (by simp)),?_,⟨?_,?_,fc,fn,cn⟩,by first | rfl | exact look_ob⟩
  ·congr 1; exact decide_eq_decide.2 (by omega)
  ·rw [look_ob_ne hfe,look_ob_ne fc]; exact fi
  ·rw [look_ob_ne hce,look_ob]
 by_cases c9 : x.kind = 9
 ·have e7 : softF F x = F:=by simp [softF,c9]
  have b7 : softB B x = B:=by simp [softB,softF,c9,Bd.fl]
  have w7 : softC F B.fl x = true:=by simp [softC,c9]
  simp (maxSteps:=999999) (disch:=omega) only [go_sem,c7,c8,c9]
  rw [e7,b7,w7]
  exact ⟨Fr.refl _ _,rfl,hA,hB⟩
 ·have e7 : softF F x = doF F x:=by simp [softF,c7,c8,c9]
  have b7 : softB B x = { B with now:=(doF B.fl x).now,stamp:=(doF B.fl x).stamp }:=by
   have:=doF_disk B.fl x
   simp [softB,softF,c7,c8,c9,this]
   rfl
  have w7 : softC F B.fl x = decide (doC F x = doC B.fl x):=by simp [softC,c7,c8,c9]
  simp (maxSteps:=999999) (disch:=omega) only [go_sem,c7,c8,c9]
  refine W_callS (v:=.int .i64 (doC F x)) ((h.ob f tFiles (encF c (doF F x).stamp)).ob c tCache (encC (doF F x).now F.disk)) rfl ⟨rfl,rfl⟩ rfl (by simp only [go_sem]; exact Do_ok (fun n=>hl n) (by simp only [go_sem,fi]) (by simp only [go_sem,ca]) fc hw hx.name hx.to hx.text) ?_
  simp (maxSteps:=999999) (disch:=omega) only [go_sem]
  refine W_callh (v:=.int .i64 (doC B.fl x)) (((h.ob f tFiles (encF c (doF F x).stamp)).ob c tCache (encC (doF F x).now F.disk)).ob e tBed (Bd.enc { B with now:=(doF B.fl x).now,stamp:=(doF B.fl x).stamp })) rfl ⟨rfl,rfl⟩ rfl (by simp only [go_sem]; exact Files0_ok (B:=B) (by exact hl) (by simp only [go_sem,look_ob_ne hec,look_ob_ne hef,hB]) hwB hx.name hx.to hx.text) ?_
  simp (maxSteps:=999999) (disch:=omega) only [go_sem]
  rw [e7,b7,w7]
  refine ⟨((Fr.ob (by simp)).trans (Fr.ob (by simp))).trans (Fr.ob (by simp)),rfl,⟨?_,?_,fc,fn,cn⟩,by first | rfl | exact look_ob⟩
  ·rw [look_ob_ne hfe,look_ob_ne fc,look_ob]
  ·rw [look_ob_ne hce,look_ob,doF_disk]
end
def FilN (h0 h : HP) (f : Nat) (F : Fl) : Prop:=∃ c,FilAt h f c F ∧ (h0.next ≤ f ∧ h0.next ≤ c) ∧ Fr h0 h []
theorem FilN.same {h0 h1 h2 : HP} {f : Nat} {F : Fl} (a : FilN h0 h1 f F) (b : Fr h1 h2 []) : FilN h0 h2 f F:=by
 obtain ⟨c,hA,hb,hF⟩:=a
 exact ⟨c,hA.same b (by simp) (by simp),hb,hF.trans b⟩
theorem FilN.stk {h0 h1 : HP} {f : Nat} {F : Fl} (a : FilN h0 h1 f F) : h1.stk = h0.stk:=by obtain ⟨_,_,_,hF⟩:=a; exact hF.stk
theorem FilN.arg {h0 h1 : HP} {f : Nat} {F : Fl} (a : FilN h0 h1 f F) : h1.arg = h0.arg:=by obtain ⟨_,_,_,hF⟩:=a; exact hF.arg
theorem FilN.new {h : HP} : FilN h (HF h fb0) (h.next + 1) fb0 :=
 ⟨h.next,⟨HF_F,HF_C,by omega,by show h.next + 1 < h.next + 1 + 1; omega,by show h.next < h.next + 1 + 1; omega⟩,⟨by omega,by omega⟩,HF_fr⟩
def softRun (F : Fl) (l : List SStep) : Nat → Fl
 | 0=>F
 | k + 1=>softF (softRun F l k) (stp l k)
theorem softF_life (F : Fl) (x : SStep) (h : ¬x.kind = 9) : softF F x = (lifeF ⟨F,0,0,0,0⟩ x).fl:=by
 unfold softF lifeF
 by_cases c7 : x.kind = 7
 ·rw [if_pos c7,if_pos c7]
 ·rw [if_neg c7,if_neg c7]
  by_cases c8 : x.kind = 8
  ·rw [if_pos c8,if_pos c8]
  ·rw [if_neg c8,if_neg c8,if_neg h,if_neg h]
theorem Inv.softF {F : Fl} (h : Inv F) (hs : F.stamp < 4611686018427387904) (x : SStep) : Inv (softF F x) ∧ (Go.Mini.softF F x).stamp ≤ F.stamp + 1:=by
 by_cases c9 : x.kind = 9
 ·have : Go.Mini.softF F x = F:=by simp [Go.Mini.softF,c9]
  rw [this]; exact ⟨h,by omega⟩
 ·rw [softF_life F x c9]
  exact Inv.lifeF (L:=⟨F,0,0,0,0⟩) h hs x
theorem W_softStep {cx : Cx} {k : List Item} {kill : List Nat} {r : List MOp} {sl : Slots} {own : Own} {h h0 : HP} {Q : St → Prop} {F : Fl} {B : Bd} {x : SStep} {fi f e : Nat} {args : List Opd} {d : Option Nat}
  (hl : ∀ n,cx.prot.lets (.obj n) = true) (hf : tblE fi = some Fn.w_softStep) (ha : args.map (St.opd ⟨sl,own,h⟩) = [.ptr (.obj f) [] tFiles,.ptr (.obj e) [] tBed,x.enc])
  (hN : FilN h0 h f F) (hB : h.look (.obj e) = some ⟨tBed,B.enc⟩) (he : h0.next ≤ e) (en : e < h.next) (hw : WF F.now) (hwB : WF B.now) (hx : x.ok)
  (hq : ∀ h1,FilN h0 h1 f (softF F x) → h1.look (.obj e) = some ⟨tBed,(softB B x).enc⟩ → h.next ≤ h1.next → W tblE cx (.ops r kill :: k) (St.setd ⟨sl,own,h1⟩ d (.bool (softC F B.fl x))) Q) :
  W tblE cx (.ops (⟨d,.call false [] fi args,none⟩ :: r) kill :: k) ⟨sl,own,h⟩ Q:=by
 obtain ⟨c,hA,⟨b1,b2⟩,hF⟩:=hN
 have hef : ¬e = f:=by
  rintro rfl
  have:=hA.fi
  rw [hB] at this
  simp at this
  exact absurd this.1 (by decide)
 have hec : ¬e = c:=by
  rintro rfl
  have:=hA.ca
  rw [hB] at this
  simp at this
  exact absurd this.1 (by decide)
 have hlen : args.length = 3:=by have:=congrArg List.length ha; simpa using this
 refine W_callF (S:=[f,c,e]) (R:=fun v h'=>v = .bool (softC F B.fl x) ∧ FilAt h' f c (softF F x) ∧ h'.look (.obj e) = some ⟨tBed,(softB B x).enc⟩) hf ⟨by rw [hlen],rfl⟩ ?_ (fun v h1 a=>⟨a.1,a.2.1.pop,a.2.2⟩) fun v h1 hF1 hR=>?_
 ·rw [ha]
  exact SoftStep_ok (by exact hl) hA.push hB hef hec en hw hwB hx
 ·obtain ⟨rfl,hA1,hB1⟩:=hR
  exact hq h1 ⟨c,hA1,⟨b1,b2⟩,hF.since hF1 (by simp; omega)⟩ hB1 hF1.next
def SlG (t : Ty) (h0 h : HP) (v : AV) (l : List AV) : Prop:=(v = .nilsl ∧ l = []) ∨ ∃ q,v = .sl (.obj q) 0 l.length ∧ h0.next ≤ q ∧ q < h.next ∧ h.look (.obj q) = some ⟨.arr l.length t,.ofList l⟩ ∧ l ≠ []
theorem SlG.len {t : Ty} {h0 h : HP} {v : AV} {l : List AV} (a : SlG t h0 h v l) : lenV false v = some (.int .i64 l.length):=by
 rcases a with ⟨rfl,rfl⟩ | ⟨q,rfl,_⟩ <;> rfl
theorem SlG.fg {t : Ty} {h0 h : HP} {v : AV} {l : List AV} (a : SlG t h0 h v l) (x y : Nat) : fg v (.stk x y) = v:=by
 rcases a with ⟨rfl,_⟩ | ⟨q,rfl,_⟩ <;> simp only [go_sem]
theorem SlG.ld {t : Ty} {h0 h : HP} {v : AV} {l : List AV} (a : SlG t h0 h v l) (x y : Nat) : v.leads (.stk x y) = false:=by
 rcases a with ⟨rfl,_⟩ | ⟨q,rfl,_⟩ <;> simp only [go_sem]
structure Off (h h' : HP) (v : AV) : Prop where
 stk : h'.stk = h.stk
 arg : h'.arg = h.arg
 next : h.next ≤ h'.next
 same : ∀ n,n < h.next → v.into (.obj n) = false → h'.obj n = h.obj n
theorem Off.refl (h : HP) (v : AV) : Off h h v:=⟨rfl,rfl,Nat.le_refl _,fun _ _ _=>rfl⟩
theorem Off.look {h h' : HP} {v : AV} (a : Off h h' v) {n : Nat} {b : Option Blk} (hn : n < h.next) (hv : v.into (.obj n) = false) (e : h.look (.obj n) = b) : h'.look (.obj n) = b:=by
 rw [← e]; exact a.same n hn hv
theorem Off.fr {h0 h h' : HP} {v : AV} (f : Fr h0 h []) (a : Off h h' v) (hv : ∀ n,n < h0.next → v.into (.obj n) = false) : Fr h0 h' [] :=
 ⟨a.stk.trans f.stk,a.arg.trans f.arg,Nat.le_trans f.next a.next,fun n hn hs=>(a.same n (Nat.lt_of_lt_of_le hn f.next) (hv n hn)).trans (f.same n hn hs)⟩
theorem SlG.into {t : Ty} {h0 h : HP} {v : AV} {l : List AV} (a : SlG t h0 h v l) (n : Nat) (hn : n < h0.next) : v.into (.obj n) = false:=by
 rcases a with ⟨rfl,_⟩ | ⟨q,rfl,hq,_⟩
 ·rfl
 ·simp [AV.into]; omega
theorem SlG.same {t : Ty} {h0 h h' : HP} {v w : AV} {l : List AV} (a : SlG t h0 h v l) (b : Off h h' w) (hw : ∀ n,v.into (.obj n) = true → w.into (.obj n) = false) : SlG t h0 h' v l:=by
 rcases a with a | ⟨q,rfl,hq,hq2,hq3⟩
 ·exact .inl a
 ·exact .inr ⟨q,rfl,hq,Nat.lt_of_lt_of_le hq2 b.next,b.look hq2 (hw q (by simp [AV.into])) hq3.1,hq3.2⟩
theorem SlG.mono {t : Ty} {h0 h1 h : HP} {v : AV} {l : List AV} (a : SlG t h1 h v l) (e : h0.next ≤ h1.next) : SlG t h0 h v l:=by
 rcases a with a | ⟨q,rfl,hq,r⟩
 ·exact .inl a
 ·exact .inr ⟨q,rfl,Nat.le_trans e hq,r⟩
theorem toList_ofList (l : List AV) : (AV.ofList l).toList = some l:=by
 simp only [AV.ofList,AV.toList]
 congr 1
 exact List.ext_getElem (by simp) (by simp)
theorem fits_ofListG {t : Ty} {l : List AV} {n : Nat} (hn : n = l.length) (h : ∀ a ∈ l,t.fits a = true) : (Ty.arr n t).fits (.ofList l) = true:=by
 subst hn
 simp only [AV.ofList,Ty.fits,beq_self_eq_true,Bool.true_and,List.all_eq_true]
 exact fun i _=>h _ (List.get_mem ..)
section
variable {T : Nat → Option MFun} {cx : Cx} {k : List Item} {kill : List Nat} {r : List MOp} {sl : Slots} {own : Own} {h h0 : HP} {Q : St → Prop} {t : Ty}
theorem W_app {ap : List Nat} {d : Nat} {x y : Opd} {v : AV} {l add : List AV} (hx : St.opd ⟨sl,own,h⟩ x = v) (hl : ∀ n,cx.prot.lets (.obj n) = true) (h0n : h0.next ≤ h.next) (hS : SlG t h0 h v l)
  (hy : elems (St.look cx ⟨sl,own,h⟩) t (St.opd ⟨sl,own,h⟩ y) = some add) (hfl : ∀ a ∈ l,t.fits a = true) (hfa : ∀ a ∈ add,t.fits a = true) (hn : l.length + add.length ≤ 1048576)
  (hap : ∀ e,ap.all (apOk (St.opd ⟨sl,own,h⟩) v (St.opd ⟨sl,own,h⟩ y) e) = true)
  (hq : ∀ v' h',SlG t h0 h' v' (l ++ add) → Off h h' v → W T cx (.ops r kill :: k) ⟨sl.set d v',own,h'⟩ Q) :
  W T cx (.ops (⟨some d,.append true ap t x y,none⟩ :: r) kill :: k) ⟨sl,own,h⟩ Q:=by
 rw [W_op rfl,evOp]
 have hev : ∀ e,evAppend (St.look cx ⟨sl,own,h⟩) t v add = some e → evK (St.opd ⟨sl,own,h⟩) (St.look cx ⟨sl,own,h⟩) (.append true ap t x y) = some e:=by
  intro e he
  simp only [evK,hy,hx,he,hap e,if_true]
 rcases hS with ⟨rfl,rfl⟩ | ⟨q,rfl,hq1,hq2,hq3,hne⟩
 ·by_cases ha : add.length = 0
  ·have ha' : add = []:=List.eq_nil_of_length_eq_zero ha
   subst ha'
   rw [hev (.val .nilsl) (by simp [evAppend])]
   exact hq _ h (.inl ⟨rfl,rfl⟩) (Off.refl _ _)
  ·rw [hev (.new (some add.length) ⟨.arr add.length t,.ofList add⟩) (by
    simp only [evAppend]
    rw [if_neg ha,if_pos ⟨fits_ofListG rfl hfa,by simp at hn; omega⟩])]
   refine hq (.sl (.obj h.next) 0 add.length) (h.nw (.arr add.length t) (.ofList add)) (.inr ⟨h.next,by simp,h0n,Nat.lt_succ_self _,by simpa using look_nw,by simp; exact fun e=>ha (by rw [e]; rfl)⟩) ⟨rfl,rfl,Nat.le_succ _,fun n hn _=>?_⟩
   simp [HP.nw,HP.ob,HP.set]; omega
 ·have hlk : St.look cx ⟨sl,own,h⟩ (.obj q) = some ⟨.arr l.length t,.ofList l⟩:=hq3
  by_cases ha : add.length = 0
  ·have ha' : add = []:=List.eq_nil_of_length_eq_zero ha
   subst ha'
   have e0 : l.take l.length ++ [] ++ l.drop (l.length + 0) = l:=by simp
   rw [hev (.wr (.obj q) ⟨.arr l.length t,.ofList l⟩ (.sl (.obj q) 0 (l.length + 0))) (by
    simp only [evAppend,hlk,toList_ofList,if_true,List.length_nil,Nat.zero_add]
    rw [if_pos (by omega),e0,if_pos (fits_ofListG rfl hfl)])]
   simp only [applyEff,St.write,Id.own,hl q,if_true,Option.map_some,onO_some]
   refine hq (.sl (.obj q) 0 (l.length + 0)) (h.ob q (.arr l.length t) (.ofList l)) ?_ ⟨rfl,rfl,Nat.le_refl _,fun n hn hv=>obj_ob_ne fun e=>?_⟩
   ·exact .inr ⟨q,by simp,hq1,hq2,by simpa using look_ob,by simpa using hne⟩
   ·subst e; simp [AV.into] at hv
  ·rw [hev (.grow (.obj q) ⟨.arr (l.length + add.length) t,.ofList (l ++ add)⟩ (l.length + add.length)) (by
    simp only [evAppend,hlk,toList_ofList,if_true,Nat.zero_add,List.drop_zero]
    rw [if_neg (by omega),if_pos (by omega),List.take_of_length_le (Nat.le_refl _),if_pos ⟨fits_ofListG (by simp) (fun a ha=>by
     rcases List.mem_append.1 ha with h | h
     ·exact hfl a h
     ·exact hfa a h),hn⟩])]
   simp only [applyEff,St.drop,Id.own,hl q,if_true,Option.map_some,onO_some]
   refine hq (.sl (.obj h.next) 0 (l.length + add.length)) ((h.dl q).nw (.arr (l.length + add.length) t) (.ofList (l ++ add))) (.inr ⟨h.next,by simp,h0n,Nat.lt_succ_self _,?_,by simp [hne]⟩) ⟨rfl,rfl,Nat.le_succ _,fun n hn hv=>?_⟩
   ·have:=look_nw (h:=h.dl q) (t:=.arr (l.length + add.length) t) (v:=.ofList (l ++ add))
    rw [List.length_append]
    exact this
   ·have hnq : ¬n = q:=fun e=>by subst e; simp [AV.into] at hv
    simp [HP.nw,HP.ob,HP.set,HP.dl,hnq]; omega
theorem W_slc {rt : Option Nat} {d : Nat} {x : Opd} {lo hi : Option Opd} {v : AV} {l : List AV} {a b : Nat} (hx : St.opd ⟨sl,own,h⟩ x = v) (hS : SlG t h0 h v l)
  (hlo : (lo = none ∧ a = 0) ∨ ∃ y kk,lo = some y ∧ St.opd ⟨sl,own,h⟩ y = .int kk a) (hhi : (hi = none ∧ b = l.length) ∨ ∃ y kk,hi = some y ∧ St.opd ⟨sl,own,h⟩ y = .int kk b) (hab : a ≤ b) (hbl : b ≤ l.length)
  (hrt : rt = none ∨ ∃ u,rt = some u ∧ u < 1000000 ∧ Slots.get sl u = v)
  (hq : ∀ v',(∀ q,v'.into q = true → v.into q = true) → (∀ x y,Go.Mini.fg v' (.stk x y) = v') → (∀ sl' : Slots,elems (St.look cx ⟨sl',own,h⟩) t v' = some ((l.drop a).take (b - a))) → W T cx (.ops r kill :: k) ⟨sl.set d v',own,h⟩ Q) :
  W T cx (.ops (⟨some d,.slice rt t x lo hi none,none⟩ :: r) kill :: k) ⟨sl,own,h⟩ Q:=by
 rw [W_op rfl,evOp]
 have e1 : ixOr (St.opd ⟨sl,own,h⟩) lo 0 = some (a : Int):=by
  rcases hlo with ⟨rfl,rfl⟩ | ⟨y,kk,rfl,hy⟩
  ·rfl
  ·simp [ixOr,hy,toIx]
 rcases hS with ⟨rfl,rfl⟩ | ⟨q,rfl,hq1,hq2,hq3,_⟩
 ·obtain rfl : b = 0:=by simpa using hbl
  obtain rfl : a = 0:=by omega
  have e2 : ixOr (St.opd ⟨sl,own,h⟩) hi 0 = some (0 : Int):=by
   rcases hhi with ⟨rfl,_⟩ | ⟨y,kk,rfl,hy⟩
   ·rfl
   ·simp [ixOr,hy,toIx]
  have e3 : rootNil (St.opd ⟨sl,own,h⟩) rt = true:=by
   rcases hrt with rfl | ⟨u,rfl,_,hu⟩
   ·rfl
   ·simp [rootNil,St.opd,hu]
  have e1' : ixOr (St.opd ⟨sl,own,h⟩) lo 0 = some (0 : Int):=e1
  simp only [evK,hx,e1',e2,e3,if_true,applyEff]
  exact hq .nilsl (fun _ h=>h) (fun _ _=>rfl) fun _=>rfl
 ·have e2 : ixOr (St.opd ⟨sl,own,h⟩) hi (l.length : Int) = some (b : Int):=by
   rcases hhi with ⟨rfl,rfl⟩ | ⟨y,kk,rfl,hy⟩
   ·rfl
   ·simp [ixOr,hy,toIx]
  have e3 : rooted (St.opd ⟨sl,own,h⟩) (.obj q) rt = true:=by
   rcases hrt with rfl | ⟨u,rfl,hu,hs⟩
   ·rfl
   ·simp only [rooted]
    rw [if_neg (by omega),if_neg (by omega)]
    simp [St.opd,hs,AV.into]
  have hlk : ∀ sl' : Slots,St.look cx ⟨sl',own,h⟩ (.obj q) = some ⟨.arr l.length t,.ofList l⟩:=fun _=>hq3
  simp only [evK,hx,e1,e2,e3,if_true,evSlice,hlk,Option.map_none,true_and]
  rw [if_pos ⟨by omega,by omega,by omega⟩]
  by_cases hoff : 0 + (a : Int).toNat < l.length ∨ (a : Int) = 0
  ·rw [if_pos hoff]
   simp only [applyEff]
   refine hq (.sl (.obj q) (0 + (a : Int).toNat) ((b : Int) - a).toNat) (fun p hp=>by simpa [AV.into] using hp) (fun x y=>by simp only [go_sem]) fun sl'=>?_
   have h1 : ((b : Int) - a).toNat = b - a:=by omega
   simp only [elems,hlk,toList_ofList,h1]
   rw [if_pos ⟨trivial,by simp; omega⟩]
   simp
  ·rw [if_neg hoff]
   simp only [applyEff]
   refine hq .slz (fun p hp=>by simp [AV.into] at hp) (fun x y=>rfl) fun sl'=>?_
   have : b - a = 0:=by omega
   simp [elems,this]
end
abbrev tTag : Ty:=.cons tI (.cons tS (.cons tI .unit))
abbrev tRFile : Ty:=.cons (.arr 2 tB) (.cons (.arr 2 tS) .unit)
abbrev tRIdeal : Ty:=.cons tSl (.cons tSl .unit)
structure Tag where
 dir : Int
 name : Str
 file : Nat
 deriving DecidableEq
def Tag.enc (x : Tag) : AV:=.cons (.int .i64 x.dir) (.cons (.str x.name) (.cons (.int .i64 x.file) .unit))
@[go_sem] theorem at_tag0 (x : Tag) : x.enc.at [0] = some (.int .i64 x.dir):=rfl
@[go_sem] theorem at_tag1 (x : Tag) : x.enc.at [1] = some (.str x.name):=rfl
@[go_sem] theorem at_tag2 (x : Tag) : x.enc.at [2] = some (.int .i64 x.file):=rfl
@[go_sem] theorem fits_tag (x : Tag) : (tTag.fits x.enc = true) = True:=eq_true rfl
theorem fits_tags (l : List Tag) : ∀ a ∈ l.map Tag.enc,tTag.fits a = true:=fun a ha=>by
 obtain ⟨x,_,rfl⟩:=List.mem_map.1 ha; rfl
def tagN (l : List Tag) (k : Nat) : Tag:=l.getD k ⟨0,⟨#[]⟩,0⟩
theorem tagN_get {l : List Tag} {k : Nat} (h : k < l.length) : tagN l k = l[k]:=by simp [tagN,h]
@[go_sem] theorem tags_at (l : List Tag) {k : Nat} (h : k < l.length) (p : List Nat) : (AV.ofList (l.map Tag.enc)).at (k :: p) = (tagN l k).enc.at p:=by
 simp [AV.ofList,AV.at,h,tagN]
structure RFile where
 h0 : Bool
 h1 : Bool
 t0 : Str
 t1 : Str
def RFile.has (f : RFile) (p : Nat) : Bool:=if p = 0 then f.h0 else f.h1
def RFile.text (f : RFile) (p : Nat) : Str:=if p = 0 then f.t0 else f.t1
def RFile.enc (f : RFile) : AV:=.cons (.arr 2 fun i=>.bool (f.has i.val)) (.cons (.arr 2 fun i=>.str (f.text i.val)) .unit)
def RFile.zero : RFile:=⟨false,false,⟨#[]⟩,⟨#[]⟩⟩
theorem RFile.fits (f : RFile) : tRFile.fits f.enc = true:=by
 simp [RFile.enc,Ty.fits,tB,tS,LK.fits,AV.safe]
@[go_sem] theorem fits_rfile (f : RFile) : (tRFile.fits f.enc = true) = True:=eq_true f.fits
@[go_sem] theorem rfile_at0 (f : RFile) {p : Nat} (hp : p < 2) : f.enc.at [0,p] = some (.bool (f.has p)):=by
 simp [RFile.enc,AV.at,hp]
@[go_sem] theorem rfile_at1 (f : RFile) {p : Nat} (hp : p < 2) : f.enc.at [1,p] = some (.str (f.text p)):=by
 simp [RFile.enc,AV.at,hp]
@[go_sem] theorem fg_rfile (f : RFile) (i : Id) : fg f.enc i = f.enc:=rfl
@[go_sem] theorem leads_rfile (f : RFile) (i : Id) : f.enc.leads i = false:=rfl
@[go_sem] theorem fg_tag (f : Tag) (i : Id) : fg f.enc i = f.enc:=rfl
@[go_sem] theorem leads_tag (f : Tag) (i : Id) : f.enc.leads i = false:=rfl
@[go_sem] theorem rfile_nil (f : RFile) : f.enc.at [] = some f.enc:=rfl
def filN (l : List RFile) (k : Nat) : RFile:=l.getD k RFile.zero
@[go_sem] theorem files_at (l : List RFile) {k : Nat} (h : k < l.length) (p : List Nat) : (AV.ofList (l.map RFile.enc)).at (k :: p) = (filN l k).enc.at p:=by
 simp [AV.ofList,AV.at,h,filN]
def SlR (t : Ty) (h : HP) (v : AV) (l : List AV) : Prop:=(v = .nilsl ∧ l = []) ∨ ∃ q,v = .sl (.obj q) 0 l.length ∧ h.look (.obj q) = some ⟨.arr l.length t,.ofList l⟩
theorem SlG.r {t : Ty} {h0 h : HP} {v : AV} {l : List AV} (a : SlG t h0 h v l) : SlR t h v l:=by
 rcases a with a | ⟨q,h1,_,_,h2,_⟩
 ·exact .inl a
 ·exact .inr ⟨q,h1,h2⟩
theorem SlR.len {t : Ty} {h : HP} {v : AV} {l : List AV} (a : SlR t h v l) : lenV false v = some (.int .i64 l.length):=by
 rcases a with ⟨rfl,rfl⟩ | ⟨q,rfl,_⟩ <;> rfl
theorem SlR.fits {t : Ty} {h : HP} {v : AV} {l : List AV} (a : SlR t h v l) : (tSl.fits v = true) = True:=by
 rcases a with ⟨rfl,rfl⟩ | ⟨q,rfl,_⟩ <;> exact eq_true rfl
theorem SlR.push {t : Ty} {h : HP} {v : AV} {l : List AV} {x : Nat} {o : Own} (a : SlR t h v l) : SlR t (h.push x o) v l:=a
@[go_sem] theorem field_ri0 : tRIdeal.field 0 = some tSl:=rfl
@[go_sem] theorem field_ri1 : tRIdeal.field 1 = some tSl:=rfl
@[go_sem] theorem field_tag0 : tTag.field 0 = some tI:=rfl
@[go_sem] theorem field_tag1 : tTag.field 1 = some tS:=rfl
@[go_sem] theorem field_tag2 : tTag.field 2 = some tI:=rfl
@[go_sem] theorem field_rf0 : tRFile.field 0 = some (.arr 2 tB):=rfl
@[go_sem] theorem field_rf1 : tRFile.field 1 = some (.arr 2 tS):=rfl
def insK (s : Str) (l : List Str) : Nat:=(l.takeWhile fun x=>sLt x s).length
def insS (s : Str) (l : List Str) : List Str:=(l.take (insK s l) ++ [s]) ++ l.drop (insK s l)
def namesT (l : List Tag) (d : Int) : Nat → List Str
 | 0=>[]
 | k + 1=>if (tagN l k).dir = d then namesT l d k ++ [(tagN l k).name] else namesT l d k
def listD (l : List Tag) (d : Int) : Nat → List Str
 | 0=>[]
 | k + 1=>if (tagN l k).dir = d then insS (tagN l k).name (listD l d k) else listD l d k
theorem insK_at {s : Str} : ∀ {l : List Str} {k : Nat},k ≤ l.length → (∀ j,j < k → sLt (txt l j) s = true) → (k = l.length ∨ sLt (txt l k) s = false) → insK s l = k
 | [],k,hk,_,_=>by simp at hk; simp [insK,hk]
 | a :: l,0,_,_,h=>by
  have : sLt a s = false:=by
   rcases h with h | h
   ·simp at h
   ·simpa [txt] using h
  simp [insK,this]
 | a :: l,k + 1,hk,hp,h=>by
  have h0 : sLt a s = true:=by simpa [txt] using hp 0 (by omega)
  have ih:=insK_at (s:=s) (l:=l) (k:=k) (by simpa using hk) (fun j hj=>by simpa [txt] using hp (j + 1) (by omega)) (by
   rcases h with h | h
   ·exact .inl (by simpa using h)
   ·exact .inr (by simpa [txt] using h))
  simp only [insK,List.takeWhile_cons,h0,if_true,List.length_cons]
  simp only [insK] at ih
  rw [ih]
theorem insS_perm (s : Str) (l : List Str) : (insS s l).Perm (s :: l):=by
 unfold insS
 rw [List.append_assoc]
 refine List.perm_middle.trans ?_
 simp
theorem insS_sorted {s : Str} : ∀ {l : List Str},Sorted l → Sorted (insS s l)
 | [],_=>by simp [insS,insK,Sorted]
 | a :: l,h=>by
  obtain ⟨h1,h2⟩:=List.pairwise_cons.1 h
  by_cases c : sLt a s = true
  ·have e : insS s (a :: l) = a :: insS s l:=by
    simp [insS,insK,List.takeWhile_cons,c]
   rw [e]
   refine List.pairwise_cons.2 ⟨fun b hb=>?_,insS_sorted h2⟩
   rcases List.mem_cons.1 ((insS_perm s l).mem_iff.1 hb) with rfl | hb
   ·exact sLe_of_lt c
   ·exact h1 b hb
  ·have e : insS s (a :: l) = s :: a :: l:=by
    simp [insS,insK,List.takeWhile_cons,c]
   rw [e]
   have hsa : sLe s a = true:=by
    have : sLt a s = false:=by simpa using c
    simp [sLe,this]
   refine List.pairwise_cons.2 ⟨fun b hb=>?_,h⟩
   rcases List.mem_cons.1 hb with rfl | hb
   ·exact hsa
   ·exact sLe_trans hsa (h1 b hb)
theorem listD_ok (l : List Tag) (d : Int) : ∀ k,Sorted (listD l d k) ∧ (listD l d k).Perm (namesT l d k)
 | 0=>⟨List.Pairwise.nil,List.Perm.refl _⟩
 | k + 1=>by
  obtain ⟨h1,h2⟩:=listD_ok l d k
  unfold listD namesT
  split
  ·refine ⟨insS_sorted h1,(insS_perm _ _).trans ?_⟩
   exact ((h2.cons _).trans (List.perm_append_singleton _ _).symm)
  ·exact ⟨h1,h2⟩
theorem listD_sort (l : List Tag) (d : Int) (k : Nat) : listD l d k = sortS (namesT l d k):=by
 obtain ⟨h1,h2⟩:=listD_ok l d k
 exact sortS_eq h2 h1
theorem namesT_len (l : List Tag) (d : Int) : ∀ k,(namesT l d k).length ≤ k
 | 0=>Nat.le_refl _
 | k + 1=>by
  have:=namesT_len l d k
  unfold namesT
  split
  ·simp; omega
  ·omega
theorem listD_len (l : List Tag) (d : Int) (k : Nat) : (listD l d k).length ≤ k:=by
 rw [(listD_ok l d k).2.length_eq]; exact namesT_len l d k
theorem SlG.safe {t : Ty} {h0 h : HP} {v : AV} {l : List AV} (a : SlG t h0 h v l) : v.safe = true:=by
 rcases a with ⟨rfl,_⟩ | ⟨q,rfl,_⟩ <;> rfl
theorem SlG.slf {h0 h : HP} {v : AV} {l : List Str} (a : SlG tS h0 h v (l.map .str)) : SlF h0 h v l:=by
 rcases a with ⟨rfl,e⟩ | ⟨q,rfl,h1,h2,h3,_⟩
 ·exact .inl ⟨rfl,by simpa using e⟩
 ·rw [List.length_map] at *
  exact .inr ⟨q,rfl,h1,h2,h3⟩
theorem fits_strs (l : List Str) : ∀ a ∈ l.map AV.str,tS.fits a = true:=fun a ha=>by
 obtain ⟨x,_,rfl⟩:=List.mem_map.1 ha; rfl
section
variable {cx : Cx} {h : HP} {p : Id} {v1 v2 : AV} {l : List Tag}
theorem IList_ok {d : Int} (hl : ∀ n,cx.prot.lets (.obj n) = true) (hb : p.below cx.lvl) (hm : h.rd p [0] = some v1) (hpn : ∀ n,p = .obj n → n < h.next) (hS : SlR tTag h v1 (l.map Tag.enc)) (hqn : ∀ q,v1.into (.obj q) = true → q < h.next) (hn : l.length ≤ 1000000) :
  Ok tblE cx Fn.r_Ideal_List (St.enter [.ptr p [] tRIdeal,.int .i64 d] h) fun v h'=>Fr h h' [] ∧ SlF h h' v (sortS (namesT l d l.length)):=by
 have hlen:=hS.len
 have hfit:=hS.fits
 rw [List.length_map] at hlen
 rw [Ok_eq]
 simp (maxSteps:=999999) (disch:=omega) only [go_sem]
 refine W_forE (α:=AV × HP) l.length (fun i q=>⟨[(0,.ptr p [] tRIdeal),(1,.int .i64 d),(5,q.1),(6,.int .i64 i)],[],q.2⟩) (fun i q=>Fr h q.2 [] ∧ SlG tS h q.2 q.1 ((listD l d i).map .str)) (.nilsl,h) (by simp only [go_sem] <;> rfl) ⟨Fr.refl _ _,.inl ⟨rfl,rfl⟩⟩ fun i q hi hq ih=>?_
 obtain ⟨ov,H⟩:=q
 obtain ⟨hF,hO⟩:=hq
 dsimp only at hF hO ⊢
 have hmH : H.rd p [0] = some v1:=by
  cases p with
  | stk a b=>simp only [HP.rd,HP.look,hF.stk] at hm ⊢; exact hm
  | arg a=>simp only [HP.rd,HP.look,hF.arg] at hm ⊢; exact hm
  | obj a=>simp only [HP.rd,HP.look] at hm ⊢; rw [hF.same a (hpn a rfl) (by simp)]; exact hm
 by_cases hlt : i < l.length
 ·rcases hS with ⟨_,e'⟩ | ⟨q,rfl,hq⟩
  ·have : l = []:=by simpa using e'
   rw [this] at hlt; simp at hlt
  have hqH : H.look (.obj q) = some ⟨.arr (l.map Tag.enc).length tTag,.ofList (l.map Tag.enc)⟩:=hF.look (hqn q (by simp [AV.into])) (by simp) hq
  rw [List.length_map] at hqH hlen hfit hmH
  have hofg:=hO.fg
  have hold:=hO.ld
  by_cases cd : (tagN l i).dir = d
  rotate_left
  ·simp (maxSteps:=999999) (disch:=omega) only [go_sem,hlt,hlen,hfit,rd_ext hb,hmH,fg_ptr hb,leads_ptr hb,apart_ptr hb,hqH,cd,hofg]
   refine ih _ (ov,H) hlt ?_ ⟨hF,?_⟩
   ·simp only [go_sem]
   ·unfold listD; rw [if_neg cd]; exact hO
  simp (maxSteps:=999999) (disch:=omega) only [go_sem,hlt,hlen,hfit,rd_ext hb,hmH,fg_ptr hb,leads_ptr hb,apart_ptr hb,hqH,cd,hofg]
  have hLn:=listD_len l d i
  generalize hL : listD l d i = L at hO hLn
  have hOlen:=hO.len
  rw [List.length_map] at hOlen
  refine W_forP L.length (fun k=>⟨[(0,.ptr p [] tRIdeal),(1,.int .i64 d),(5,ov),(6,.int .i64 i),(7,.str (tagN l i).name),(8,.nilsl),(9,.int .i64 k)],[],H⟩) (fun k=>∀ j,j < k → sLt (txt L j) (tagN l i).name = true) (by simp only [go_sem] <;> rfl) (fun j hj=>by omega) fun k hk hp ih2=>?_
  by_cases hlk : k < L.length
  ·have hO':=hO
   rcases hO' with ⟨_,e0⟩ | ⟨q',rfl,hq1,hq2,hq3,_⟩
   ·have : L = []:=by simpa using e0
    rw [this] at hlk; simp at hlk
   rw [List.length_map] at hq3 hofg hold hOlen hO
   have hq4 : H.look (.obj q') = some ⟨.arr L.length tS,encS L⟩:=hq3
   cases cs : sLt (txt L k) (tagN l i).name with
   | true =>
    simp (maxSteps:=999999) (disch:=omega) only [go_sem,hlk,hOlen,hq4,cs,List.length_map,leads_ptr hb,fg_ptr hb]
    refine ih2 _ hlk (fun j hj=>?_) ?_
    ·by_cases hjk : j = k
     ·subst hjk; exact cs
     ·exact hp j (by omega)
    ·simp only [go_sem,List.length_map]
   | false =>
    simp (maxSteps:=999999) (disch:=omega) only [go_sem,hlk,hOlen,hq4,cs,List.length_map,leads_ptr hb,fg_ptr hb]
    generalize hov : AV.sl (.obj q') 0 L.length = ov at *
    have hik : insK (tagN l i).name L = k:=insK_at (by omega) hp (.inr cs)
    have hk1 : k ≤ L.length:=by omega
    refine W_slc (h0:=h) (v:=ov) (l:=L.map .str) (a:=0) (b:=k) (by simp only [go_sem]) hO (.inl ⟨rfl,rfl⟩) (.inr ⟨_,.i64,rfl,by simp only [go_sem]⟩) (by omega) (by simp; omega) (.inl rfl) fun v54 _ hfg54 hel54=>?_
    simp (maxSteps:=999999) (disch:=omega) only [go_sem]
    refine W_app (h0:=H) (v:=.nilsl) (l:=[]) (by simp only [go_sem]) (fun n=>hl n) (Nat.le_refl _) (.inl ⟨rfl,rfl⟩) (add:=((L.take k).map .str)) (by simp only [go_sem]; rw [hel54]; simp [List.map_take]) (fun _ h=>by simp at h) (fits_strs _) (by simp; omega) (fun e=>by simp [apOk,AV.isNilsl]) fun v55 H1 hS1 hof1=>?_
    have hfg55:=hS1.fg
    have hO1 : SlG tS h H1 ov (L.map .str):=hO.same hof1 (fun n _=>rfl)
    have hne1 : ∀ n,ov.into (.obj n) = true → v55.into (.obj n) = false:=fun n hn=>by
     refine hS1.into n ?_
     rcases hO with ⟨rfl,_⟩ | ⟨q,rfl,_,hq2,_⟩
     ·simp [AV.into] at hn
     ·simp [AV.into] at hn; omega
    simp (maxSteps:=999999) (disch:=omega) only [go_sem,hfg54,hfg55,hofg,leads_ptr hb,fg_ptr hb]
    refine W_app (h0:=H) (v:=v55) (l:=[] ++ (L.take k).map .str) (by simp only [go_sem]) (fun n=>hl n) hof1.next hS1 (add:=[.str (tagN l i).name]) (by simp only [go_sem]) (fun a h=>by rw [List.nil_append] at h; exact fits_strs _ a h) (fun a h=>by simp at h; subst h; rfl) (by simp; omega) (fun e=>?_) fun v58 H2 hS2 hof2=>?_
    ·simp only [List.all_cons,List.all_nil,Bool.and_true,apOk,go_sem]
     rcases hO1 with ⟨rfl,e0⟩ | ⟨q,rfl,_,_,_,_⟩
     ·have : L = []:=by simpa using e0
      have hk0 : k = 0:=by rw [this] at hk1; simpa using hk1
      rw [hk0] at hS1
      rcases hS1 with ⟨rfl,_⟩ | ⟨q,rfl,_,_,_,hne⟩
      ·rfl
      ·simp at hne
     ·rcases hS1 with ⟨rfl,_⟩ | ⟨q',rfl,_,_,_,_⟩
      ·rfl
      ·have:=hne1 q (by simp [AV.into])
       simp [AV.into] at this
       simp [AV.apart]
       exact fun e=>this e.symm
    have hfg58:=hS2.fg
    have hO2 : SlG tS h H2 ov (L.map .str):=hO1.same hof2 hne1
    simp (maxSteps:=999999) (disch:=omega) only [go_sem,hfg54,hfg55,hfg58,hofg,leads_ptr hb,fg_ptr hb]
    refine W_slc (h0:=h) (v:=ov) (l:=L.map .str) (a:=k) (b:=L.length) (by simp only [go_sem]) hO2 (.inr ⟨_,.i64,rfl,by simp only [go_sem]⟩) (.inl ⟨rfl,by simp⟩) (by omega) (by simp) (.inr ⟨5,rfl,by omega,by simp only [go_sem]⟩) fun v61 _ hfg61 hel61=>?_
    refine W_app (h0:=H) (v:=v58) (l:=([] ++ (L.take k).map .str) ++ [.str (tagN l i).name]) (by simp only [go_sem]) (fun n=>hl n) (Nat.le_trans hof1.next hof2.next) hS2 (add:=(L.drop k).map .str) (by simp only [go_sem]; rw [hel61]; simp [List.map_drop,List.take_of_length_le]) (fun a h=>fits_strs (L.take k ++ [(tagN l i).name]) a (by simpa using h)) (fits_strs _) (by simp; omega) (fun e=>by rfl) fun v62 H3 hS3 hof3=>?_
    have hfg62:=hS3.fg
    simp (maxSteps:=999999) (disch:=omega) only [go_sem,hfg62]
    refine ih _ (v62,H3) hlt ?_ ⟨?_,?_⟩
    ·simp only [go_sem]
    ·have f1:=Off.fr hF hof1 (fun n _=>rfl)
     have f2:=Off.fr f1 hof2 (fun n hn=>hS1.into n (Nat.lt_of_lt_of_le hn hF.next))
     exact Off.fr f2 hof3 (fun n hn=>hS2.into n (Nat.lt_of_lt_of_le hn hF.next))
    ·have e1 : (listD l d (i + 1)).map AV.str = (([] ++ (L.take k).map .str) ++ [.str (tagN l i).name]) ++ (L.drop k).map .str:=by
      rw [show listD l d (i + 1) = insS (tagN l i).name L by rw [← hL]; exact if_pos cd]
      simp only [insS,hik,List.map_append,List.nil_append,List.map_cons,List.map_nil]
     rw [e1]
     exact hS3.mono hF.next
  ·obtain rfl : k = L.length:=by omega
   simp (maxSteps:=999999) (disch:=omega) only [go_sem,hOlen,hofg,hold,leads_ptr hb,fg_ptr hb]
   generalize hkk : L.length = k at hp hlk
   have hik : insK (tagN l i).name L = k:=insK_at (by omega) hp (.inl hkk.symm)
   have hk1 : k ≤ L.length:=by omega
   refine W_slc (h0:=h) (v:=ov) (l:=L.map .str) (a:=0) (b:=k) (by simp only [go_sem]) hO (.inl ⟨rfl,rfl⟩) (.inr ⟨_,.i64,rfl,by simp only [go_sem]⟩) (by omega) (by simp; omega) (.inl rfl) fun v54 _ hfg54 hel54=>?_
   simp (maxSteps:=999999) (disch:=omega) only [go_sem]
   refine W_app (h0:=H) (v:=.nilsl) (l:=[]) (by simp only [go_sem]) (fun n=>hl n) (Nat.le_refl _) (.inl ⟨rfl,rfl⟩) (add:=((L.take k).map .str)) (by simp only [go_sem]; rw [hel54]; simp [List.map_take]) (fun _ h=>by simp at h) (fits_strs _) (by simp; omega) (fun e=>by simp [apOk,AV.isNilsl]) fun v55 H1 hS1 hof1=>?_
   have hfg55:=hS1.fg
   have hO1 : SlG tS h H1 ov (L.map .str):=hO.same hof1 (fun n _=>rfl)
   have hne1 : ∀ n,ov.into (.obj n) = true → v55.into (.obj n) = false:=fun n hn=>by
    refine hS1.into n ?_
    rcases hO with ⟨rfl,_⟩ | ⟨q,rfl,_,hq2,_⟩
    ·simp [AV.into] at hn
    ·simp [AV.into] at hn; omega
   simp (maxSteps:=999999) (disch:=omega) only [go_sem,hfg54,hfg55,hofg,leads_ptr hb,fg_ptr hb]
   refine W_app (h0:=H) (v:=v55) (l:=[] ++ (L.take k).map .str) (by simp only [go_sem]) (fun n=>hl n) hof1.next hS1 (add:=[.str (tagN l i).name]) (by simp only [go_sem]) (fun a h=>by rw [List.nil_append] at h; exact fits_strs _ a h) (fun a h=>by simp at h; subst h; rfl) (by simp; omega) (fun e=>?_) fun v58 H2 hS2 hof2=>?_
   ·simp only [List.all_cons,List.all_nil,Bool.and_true,apOk,go_sem]
    rcases hO1 with ⟨rfl,e0⟩ | ⟨q,rfl,_,_,_,_⟩
    ·have : L = []:=by simpa using e0
     have hk0 : k = 0:=by rw [this] at hk1; simpa using hk1
     rw [hk0] at hS1
     rcases hS1 with ⟨rfl,_⟩ | ⟨q,rfl,_,_,_,hne⟩
     ·rfl
     ·simp at hne
    ·rcases hS1 with ⟨rfl,_⟩ | ⟨q',rfl,_,_,_,_⟩
     ·rfl
     ·have:=hne1 q (by simp [AV.into])
      simp [AV.into] at this
      simp [AV.apart]
      exact fun e=>this e.symm
   have hfg58:=hS2.fg
   have hO2 : SlG tS h H2 ov (L.map .str):=hO1.same hof2 hne1
   simp (maxSteps:=999999) (disch:=omega) only [go_sem,hfg54,hfg55,hfg58,hofg,leads_ptr hb,fg_ptr hb]
   refine W_slc (h0:=h) (v:=ov) (l:=L.map .str) (a:=k) (b:=L.length) (by simp only [go_sem]) hO2 (.inr ⟨_,.i64,rfl,by simp only [go_sem]⟩) (.inl ⟨rfl,by simp⟩) (by omega) (by simp) (.inr ⟨5,rfl,by omega,by simp only [go_sem]⟩) fun v61 _ hfg61 hel61=>?_
   refine W_app (h0:=H) (v:=v58) (l:=([] ++ (L.take k).map .str) ++ [.str (tagN l i).name]) (by simp only [go_sem]) (fun n=>hl n) (Nat.le_trans hof1.next hof2.next) hS2 (add:=(L.drop k).map .str) (by simp only [go_sem]; rw [hel61]; simp [List.map_drop,List.take_of_length_le]) (fun a h=>fits_strs (L.take k ++ [(tagN l i).name]) a (by simpa using h)) (fits_strs _) (by simp; omega) (fun e=>by rfl) fun v62 H3 hS3 hof3=>?_
   have hfg62:=hS3.fg
   simp (maxSteps:=999999) (disch:=omega) only [go_sem,hfg62]
   refine ih _ (v62,H3) hlt ?_ ⟨?_,?_⟩
   ·simp only [go_sem]
   ·have f1:=Off.fr hF hof1 (fun n _=>rfl)
    have f2:=Off.fr f1 hof2 (fun n hn=>hS1.into n (Nat.lt_of_lt_of_le hn hF.next))
    exact Off.fr f2 hof3 (fun n hn=>hS2.into n (Nat.lt_of_lt_of_le hn hF.next))
   ·have e1 : (listD l d (i + 1)).map AV.str = (([] ++ (L.take k).map .str) ++ [.str (tagN l i).name]) ++ (L.drop k).map .str:=by
     rw [show listD l d (i + 1) = insS (tagN l i).name L by rw [← hL]; exact if_pos cd]
     simp only [insS,hik,List.map_append,List.nil_append,List.map_cons,List.map_nil]
    rw [e1]
    exact hS3.mono hF.next
 ·obtain rfl : i = l.length:=by omega
  simp (maxSteps:=999999) (disch:=omega) only [go_sem,hlen,hfit,rd_ext hb,hmH,fg_ptr hb,leads_ptr hb,apart_ptr hb,hO.fg,hO.safe]
  exact ⟨hF,by rw [← listD_sort]; exact hO.slf⟩
end
theorem namesT_all {l : List Tag} {d : Int} (h : ∀ t ∈ l,t.dir = d) : ∀ k,k ≤ l.length → namesT l d k = (l.take k).map (·.name)
 | 0,_=>by simp [namesT]
 | k + 1,hk=>by
  have ih:=namesT_all h k (by omega)
  have e : tagN l k = l[k]'(by omega):=tagN_get (by omega)
  have hd : (tagN l k).dir = d:=by rw [e]; exact h _ (List.getElem_mem _)
  unfold namesT
  rw [if_pos hd,ih,e,List.take_succ_eq_append_getElem (by omega),List.map_append]
  rfl
section
variable {T : Nat → Option MFun} {cx : Cx} {k : List Item} {kill : List Nat} {r : List MOp} {sl : Slots} {own : Own} {h h0 : HP} {Q : St → Prop} {t : Ty}
theorem fill1G {v : AV} (hf : t.fits v = true) : fill (.arr 1 t) (Ty.arr 1 t).zero [(0,v)] = some (.ofList [v]):=by
 simp only [fill,Ty.part,Nat.lt_one_iff,if_true,hf,Ty.zero,AV.put,Nat.zero_lt_one,dite_true,put_nil,Option.map_some,AV.ofList]
 congr 2
 funext j
 match j with
 | ⟨0,_⟩=>rfl
theorem W_bsliceG {d : Nat} {x : Opd} {v : AV} (hx : St.opd ⟨sl,own,h⟩ x = v) (hf : t.fits v = true) (hq : W T cx (.ops r kill :: k) ⟨(Slots.forget sl (.stk cx.lvl d)).set d (.sl (.stk cx.lvl d) 0 1),own.set d ⟨.arr 1 t,.ofList [v]⟩,h⟩ Q) :
  W T cx (.ops (⟨some d,.bslice false t 1 [(0,x)],none⟩ :: r) kill :: k) ⟨sl,own,h⟩ Q:=by
 rw [W_op rfl,evOp]
 simp only [evK,List.map_cons,List.map_nil,hx,fill1G hf,Option.map_some,applyEff]
 exact hq
theorem elems_one {L : Id → Option Blk} {j : Id} {v : AV} (hl : L j = some ⟨.arr 1 t,.ofList [v]⟩) : elems L t (.sl j 0 1) = some [v]:=by
 simp [elems,hl,toList_ofList]
end
def encRI (a b : AV) : AV:=.cons a (.cons b .unit)
@[go_sem] theorem at_RI0 (a b : AV) : (encRI a b).at [0] = some a:=by simp [encRI,AV.at]
@[go_sem] theorem at_RI1 (a b : AV) : (encRI a b).at [1] = some b:=by simp [encRI,AV.at]
@[go_sem] theorem put_RI0 (a b x : AV) : (encRI a b).put [0] x = some (encRI x b):=by simp [encRI,AV.put]
@[go_sem] theorem put_RI1 (a b x : AV) : (encRI a b).put [1] x = some (encRI a x):=by simp [encRI,AV.put]
@[go_sem] theorem zero_RI : tRIdeal.zero = encRI .nilsl .nilsl:=rfl
@[go_sem] theorem fits_RI0 : (tRIdeal.fits (encRI .nilsl .nilsl) = true) = True:=eq_true rfl
@[go_sem] theorem safe_nil : (AV.nilsl.safe = true) = True:=eq_true rfl
@[go_sem] theorem fill_tag (d : Int) (s : Str) (n : Nat) : fill tTag tTag.zero [(0,.int .i64 d),(1,.str s),(2,.int .i64 (n : Int))] = some (Tag.enc ⟨d,s,n⟩):=rfl
@[go_sem] theorem fill_tagZ (d : Int) (s : Str) : fill tTag tTag.zero [(0,.int .i64 d),(1,.str s),(2,.int .i64 0)] = some (Tag.enc ⟨d,s,0⟩):=rfl
@[go_sem] theorem fill_RI : fill tRIdeal tRIdeal.zero [] = some (encRI .nilsl .nilsl):=rfl
section
variable {cx : Cx} {h : HP} {n : Nat} {B : Bd}
theorem BList_ok {d : Int} (hl : ∀ n,cx.prot.lets (.obj n) = true) (hB : h.look (.obj n) = some ⟨tBed,B.enc⟩) (hn : n < h.next) :
  Ok tblE cx Fn.r_Bed_List (St.enter [.ptr (.obj n) [] tBed,.int .i64 d] h) fun v h'=>Fr h h' [] ∧ SlF h h' v (listOf B.now d):=by
 rw [Ok_eq]
 simp (maxSteps:=999999) (disch:=omega) only [go_sem,hB]
 by_cases c0 : d < 0
 ·simp (maxSteps:=999999) (disch:=omega) only [go_sem,c0]
  exact ⟨Fr.refl _ _,.inl ⟨rfl,by simp [listOf,c0]⟩⟩
 by_cases c3 : 3 ≤ d
 ·simp (maxSteps:=999999) (disch:=omega) only [go_sem,c0,c3]
  exact ⟨Fr.refl _ _,.inl ⟨rfl,by simp [listOf,c3]⟩⟩
 simp (maxSteps:=999999) (disch:=omega) only [go_sem,c0,c3,hB]
 refine W_forE (α:=AV × HP) 4 (fun i q=>⟨[(0,.ptr (.obj n) [] tBed),(1,.int .i64 d),(5,.ptr (.stk cx.lvl 8) [] tRIdeal),(6,.int .i64 i)],[(8,⟨tRIdeal,encRI q.1 .nilsl⟩)],q.2⟩) (fun i q=>Fr h q.2 [] ∧ SlG tTag h q.2 q.1 (((namesL B.now d.toNat i).map fun s=>(⟨d,s,0⟩ : Tag)).map Tag.enc)) (.nilsl,h) (by simp only [go_sem] <;> rfl) ⟨Fr.refl _ _,.inl ⟨rfl,rfl⟩⟩ fun i q hi hq ih=>?_
 obtain ⟨tv,H⟩:=q
 obtain ⟨hF,hO⟩:=hq
 dsimp only at hF hO ⊢
 have hBH:=hF.look hn (by simp) hB
 have hlen:=namesL_len B.now d.toNat i
 have hfg:=hO.fg
 have hfit:=hO.r.fits
 by_cases hlt : i < 4
 ·by_cases ce : (B.now.ent d.toNat i).name = ⟨#[]⟩
  ·simp (maxSteps:=999999) (disch:=omega) only [go_sem,hlt,c0,c3,hBH,ce]
   refine ih _ (tv,H) hlt ?_ ⟨hF,?_⟩
   ·simp only [go_sem]
   ·simp only [namesL,ce,if_true]; exact hO
  ·have hN : (namesL B.now d.toNat (i + 1)) = namesL B.now d.toNat i ++ [(B.now.ent d.toNat i).name]:=by simp [namesL,ce]
   simp (maxSteps:=999999) (disch:=omega) only [go_sem,hlt,c0,c3,hBH,ce,hfit]
   refine W_bsliceG (t:=tTag) (v:=Tag.enc ⟨d,(B.now.ent d.toNat i).name,0⟩) (by simp only [go_sem]) rfl ?_
   simp (maxSteps:=999999) (disch:=omega) only [go_sem,hfg]
   refine W_app (h0:=h) (v:=tv) (l:=((namesL B.now d.toNat i).map fun s=>(⟨d,s,0⟩ : Tag)).map Tag.enc) (add:=[Tag.enc ⟨d,(B.now.ent d.toNat i).name,0⟩]) (by simp only [go_sem]) (fun n=>hl n) hF.next hO (elems_one (by simp only [go_sem])) (fits_tags _) (fun a h=>by simp at h; subst h; rfl) (by simp; omega) (fun e=>by rfl) fun tv' H' hS' hof=>?_
   have hfg':=hS'.fg
   have hfit':=hS'.r.fits
   simp (maxSteps:=999999) (disch:=omega) only [go_sem,hfg',hfit']
   refine ih _ (tv',H') hlt ?_ ⟨Off.fr hF hof (fun n hn=>hO.into n hn),?_⟩
   ·simp only [go_sem]
   ·rw [hN]; simpa using hS'
 ·obtain rfl : i = 4:=by omega
  simp (maxSteps:=999999) (disch:=omega) only [go_sem]
  have hS:=hO.r
  have hd : ∀ t ∈ (namesL B.now d.toNat 4).map fun s=>(⟨d,s,0⟩ : Tag),t.dir = d:=fun t ht=>by
   obtain ⟨s,_,rfl⟩:=List.mem_map.1 ht; rfl
  refine W_callF (S:=[]) (R:=fun v h'=>SlF H h' v (sortS (namesT ((namesL B.now d.toNat 4).map fun s=>(⟨d,s,0⟩ : Tag)) d ((namesL B.now d.toNat 4).map fun s=>(⟨d,s,0⟩ : Tag)).length))) rfl ⟨rfl,rfl⟩ (by
   simp only [go_sem]
   exact IList_ok (v1:=tv) (l:=(namesL B.now d.toNat 4).map fun s=>(⟨d,s,0⟩ : Tag)) (by exact hl) (below_stk _ _) (by simp only [go_sem,HP.push_rd_own]) (fun n h=>by simp at h) hS.push (fun q hq=>by
    show q < H.next
    rcases hO with ⟨rfl,_⟩ | ⟨q',rfl,_,h2,_⟩
    ·simp [AV.into] at hq
    ·simp [AV.into] at hq; omega) (by simp; omega)) (fun v h1 e=>e) ?_
  rintro v H' hF' hv
  rw [namesT_all hd _ (Nat.le_refl _),List.take_of_length_le (Nat.le_refl _),List.map_map] at hv
  have e1 : ((fun t : Tag=>t.name) ∘ fun s=>(⟨d,s,0⟩ : Tag)) = id:=rfl
  rw [e1,List.map_id] at hv
  have e2 : listOf B.now d = sortS (namesL B.now d.toNat 4):=by unfold listOf; rw [if_neg (by omega)]
  have hsafe : v.safe = true:=by rcases hv with ⟨rfl,_⟩ | ⟨q,rfl,_⟩ <;> rfl
  simp (maxSteps:=999999) (disch:=omega) only [go_sem,hsafe]
  refine ⟨hF.trans hF',?_⟩
  rw [e2]
  rcases hv with hv | ⟨q,hv1,hv2,hv3,hv4⟩
  ·exact .inl hv
  ·exact .inr ⟨q,hv1,Nat.le_trans hF.next hv2,hv3,hv4⟩
end
end Go.Mini
