/- A part of the proof: what Sd computes, step by step. -/
import Derived.Test.YtpkndgkaecamlacSdPd

set_option linter.unusedSimpArgs false
set_option linter.unusedVariables false
set_option maxHeartbeats 4000000
set_option maxRecDepth 100000
namespace Go.Mini
theorem inoFault_of {m : Img} {n : Nat} (h1 : (m.ino n).live = true) (h2 : 1 ≤ (m.ino n).stamp) (h3 : (refs m n : Int) ≤ (m.ino n).links) (h4 : ∀ p,p < 2 → partFault m (m.ino n) p = 0) : inoFault m n = 0:=by
 simp only [inoFault,h1,Bool.true_eq_false,if_false]
 rw [if_neg (by omega)]
 exact firstI_zero.2 h4
theorem partFault_of {m : Img} {i : Ino} {p : Nat} (h : i.prt p = -1 ∨ (0 ≤ i.prt p ∧ i.prt p < 9 ∧ (m.dat (i.prt p).toNat).of = i.stamp)) : partFault m i p = 0:=by
 rcases h with h | ⟨h0,h9,he⟩
 ·simp [partFault,h]
 ·simp only [partFault]
  rw [if_neg (by omega),if_neg (fun h=>h.2 he)]
theorem dead_none {m : Img} (hc : check m = 0) {n : Nat} (hn : n < 8) (hl : (m.ino n).live = false) : m.ino n = Ino.none:=by
 have h:=(check_parts hc).2.1 n hn
 simp only [inoFault,hl,if_true] at h
 split at h
 ·assumption
 ·exact absurd h (by decide)
theorem inoFault_dead {m : Img} {n : Nat} (h : m.ino n = Ino.none) : inoFault m n = 0:=by simp [inoFault,h,show Ino.none.live = false from rfl]
theorem refs_pos {m : Img} {d s : Nat} (hd : d < 3) (hs : s < 4) {i : Int} (h : leads m d s i = true) : 0 < refs m i:=by
 have g2 : refsRow m i d 4 ≤ refs m i:=sumN_ge (f:=fun d=>refsRow m i d 4) hd
 have g3 : b2n (leads m d s i) ≤ refsRow m i d 4:=sumN_ge (f:=fun t=>b2n (leads m d t i)) hs
 rw [h] at g3
 simp only [b2n,if_true] at g3
 omega
theorem leads_at {m : Img} {d s : Nat} (hn : ¬(m.ent d s).name = ⟨#[]⟩) (h0 : 0 ≤ (m.ent d s).ino) : leads m d s ((m.ent d s).ino.toNat : Nat) = true:=by
 have : ((m.ent d s).ino.toNat : Int) = (m.ent d s).ino:=by omega
 simp [leads,hn,this]
theorem inodeAs_live_cases {m m' : Img} {n : Nat} (h : (inodeAs m m' n).live = true) :
  ((m.ino n).live = true ∧ (inodeAs m m' n).stamp = (m.ino n).stamp ∧ ∀ p,p < 2 → (inodeAs m m' n).prt p = part m m' n p) ∨
  ((m.ino n).live = false ∧ (m'.ino n).live = true ∧ 0 < both m m' n ∧ (inodeAs m m' n).stamp = (m'.ino n).stamp ∧ ∀ p,(inodeAs m m' n).prt p = (m'.ino n).prt p):=by
 cases hl : (m.ino n).live with
 | true =>
  left
  refine ⟨rfl,by simp only [inodeAs,if_pos hl],fun p hp=>?_⟩
  simp only [inodeAs,if_pos hl,Ino.prt,hp,dite_true]
  obtain rfl | rfl : p = 0 ∨ p = 1:=by omega
  all_goals rfl
 | false =>
  right
  have hl' : ¬(m.ino n).live = true:=by rw [hl]; simp
  by_cases hd : (m'.ino n).live = true ∧ 0 < both m m' n
  ·have e : inodeAs m m' n = { m'.ino n with links:=both m m' n }:=by simp only [inodeAs,if_neg hl',if_pos hd]
   rw [e]; exact ⟨rfl,hd.1,hd.2,rfl,fun p=>rfl⟩
  ·have e : inodeAs m m' n = Ino.none:=by simp only [inodeAs,if_neg hl',if_neg hd]
   rw [e] at h; simp [Ino.none] at h
theorem part_cases (m m' : Img) (n p : Nat) : part m m' n p = -1 ∨ (part m m' n p = (m.ino n).prt p ∧ 0 ≤ (m.ino n).prt p ∧ (m.ino n).prt p < 9 ∧ (m'.dat ((m.ino n).prt p).toNat).of = (m.ino n).stamp) ∨
  (part m m' n p = (m'.ino n).prt p ∧ (m'.ino n).live = true ∧ (m'.ino n).stamp = (m.ino n).stamp):=by
 by_cases hx : (m.ino n).prt p < 0 ∨ 9 ≤ (m.ino n).prt p
 ·left; simp only [part,if_pos hx]
 by_cases hd : (m'.dat ((m.ino n).prt p).toNat).of = (m.ino n).stamp
 ·right; left
  exact ⟨by simp only [part,if_neg hx,if_pos hd],by omega,by omega,hd⟩
 by_cases ho : (m'.ino n).live = true ∧ (m'.ino n).stamp = (m.ino n).stamp
 ·right; right
  exact ⟨by simp only [part,if_neg hx,if_neg hd,if_pos ho],ho⟩
 ·left; simp only [part,if_neg hx,if_neg hd,if_neg ho]
theorem wrInodes_ino' (m m' : Img) (n : Nat) (hn : n ≤ 4) (i : Nat) : (wrInodes m m' n 4).ino i = if n ≤ i ∧ i < n + 4 then inodeAs m m' i else m'.ino i:=by
 have key : ∀ k,k ≤ 4 → (wrInodes m m' n k).ino i = if n ≤ i ∧ i < n + k then inodeAs m m' i else m'.ino i:=by
  intro k
  induction k with
  | zero=>intro _; rw [if_neg (by omega)]; rfl
  | succ k ih =>
   intro hk
   rw [wrInodes,ino_setIno,ih (by omega)]
   by_cases e : n + k = i
   ·subst e; rw [if_pos ⟨rfl,by omega⟩,if_pos (by omega)]
   ·rw [if_neg (by omega)]
    by_cases h : n ≤ i ∧ i < n + k
    ·rw [if_pos h,if_pos (by omega)]
    ·rw [if_neg h,if_neg (by omega)]
 exact key 4 (Nat.le_refl _)
theorem wrInodes_dat (m m' : Img) (n x : Nat) : ∀ k,(wrInodes m m' n k).dat x = m'.dat x
 | 0=>rfl
 | k + 1=>by rw [wrInodes,dat_setIno,wrInodes_dat m m' n x k]
theorem mends_data {m m' : Img} (hc : check m' = 0) (hf : Fits m m') {x : Nat} (hx : x < 9) : check (m'.setDat x (m.dat x)) = 0:=by
 obtain ⟨h1,h2,h3⟩:=check_parts hc
 have hR : ∀ i,refs (m'.setDat x (m.dat x)) i = refs m' i:=fun i=>refs_congr (fun d s=>ent_setDat ..) i
 refine check_of (fun d hd s hs=>?_) (fun n hn=>?_) ?_
 ·have e' : (m'.setDat x (m.dat x)).ent d s = m'.ent d s:=ent_setDat ..
  rcases entry_parts (h1 d hd s hs) with e0 | ⟨a1,a2,a3,a4,a5,a6,a7⟩
  ·rw [e0] at e'; simp [entryFault,e',show Ent.zero.name = ⟨#[]⟩ from rfl]
  ·exact entry_of (by rw [e']; exact a1) (by rw [e']; exact a2) (by refine Eq.trans (anyN_congr fun k _=>?_) a3; rw [decide_eq_decide]; simp only [ent_setDat]) (by rw [e']; exact a4) (by rw [e']; exact a5) (by rw [e',ino_setDat]; exact a6) (by rw [e',ino_setDat]; exact a7)
 ·cases hl : (m'.ino n).live with
  | false=>exact inoFault_dead (by rw [ino_setDat]; exact dead_none hc hn hl)
  | true =>
   obtain ⟨p1,p2,p3⟩:=ino_parts hc hn hl
   refine inoFault_of (by rw [ino_setDat]; exact hl) (by rw [ino_setDat]; exact p1) (by rw [ino_setDat,hR]; exact p2) fun p hp=>?_
   rw [ino_setDat]
   rcases part_dat (p3 p hp) with hm1 | ⟨h0,h9,ho⟩
   ·exact partFault_of (.inl hm1)
   ·refine partFault_of (.inr ⟨h0,h9,?_⟩)
    rw [dat_setDat]
    split
    ·rename_i hxe
     have hheld : held m' (x : Int) = true:=by
      refine anyN_at hn ?_
      have : (m'.ino n).prt p = (x : Int):=by omega
      obtain rfl | rfl : p = 0 ∨ p = 1:=by omega
      all_goals simp [hl,this]
     have:=hf.2.1 x hx hheld
     rw [this,hxe.1]; exact ho
    ·exact ho
 ·rw [← h3]; exact twice_ino fun n=>ino_setDat ..
theorem mends_inodes {m m' : Img} (hc : check m' = 0) (he : exact m = true) (hf : Fits m m') {n0 : Nat} (hn0 : n0 ≤ 4) : check (wrInodes m m' n0 4) = 0:=by
 obtain ⟨hcm,hem⟩:=exact_parts he
 obtain ⟨h1,h2,h3⟩:=check_parts hc
 obtain ⟨g1,g2,g3⟩:=check_parts hcm
 have hE : ∀ d s,(wrInodes m m' n0 4).ent d s = m'.ent d s:=fun d s=>wrInodes_ent m m' n0 d s 4
 have hI:=wrInodes_ino' m m' n0 hn0
 have hD:=fun x=>wrInodes_dat m m' n0 x 4
 have hR : ∀ i,refs (wrInodes m m' n0 4) i = refs m' i:=fun i=>refs_congr hE i
 generalize wrInodes m m' n0 4 = X at *

 have hL : ∀ n,n < 8 → (X.ino n).live = true → ((m.ino n).live = true ∧ (X.ino n).stamp = (m.ino n).stamp ∧ (refs m' n : Int) ≤ (X.ino n).links ∧ ∀ p,p < 2 → (X.ino n).prt p = part m m' n p) ∨
   ((m'.ino n).live = true ∧ (X.ino n).stamp = (m'.ino n).stamp ∧ (refs m' n : Int) ≤ (X.ino n).links ∧ ∀ p,(X.ino n).prt p = (m'.ino n).prt p):=by
  intro n hn hl
  rw [hI] at hl ⊢
  split at hl
  ·rename_i hr
   rw [if_pos hr]
   have hlk : (refs m' n : Int) ≤ (inodeAs m m' n).links:=by
    rw [inodeAs_links m m' n hl,both_comm]; exact Int.ofNat_le.2 (refs_le_both m' m n)
   rcases inodeAs_live_cases hl with ⟨a1,a2,a3⟩ | ⟨_,a2,_,a4,a5⟩
   ·exact .inl ⟨a1,a2,hlk,a3⟩
   ·exact .inr ⟨a2,a4,hlk,a5⟩
  ·rename_i hr
   rw [if_neg hr]
   exact .inr ⟨hl,rfl,(ino_parts hc hn hl).2.1,fun _=>rfl⟩
 refine check_of (fun d hd s hs=>?_) (fun n hn=>?_) ?_
 ·have e':=hE d s
  rcases entry_parts (h1 d hd s hs) with e0 | ⟨a1,a2,a3,a4,a5,a6,a7⟩
  ·rw [e0] at e'; simp [entryFault,e',show Ent.zero.name = ⟨#[]⟩ from rfl]
  ·have hj : (m'.ent d s).ino.toNat < 8:=by omega
   have hpos:=refs_pos hd hs (leads_at a1 a4)
   have key : (X.ino (m'.ent d s).ino.toNat).live = true ∧ (X.ino (m'.ent d s).ino.toNat).stamp = (m'.ent d s).stamp:=by
    rw [hI]
    split
    ·cases hl : (m.ino (m'.ent d s).ino.toNat).live with
     | true =>
      refine ⟨by simp [inodeAs,hl],?_⟩
      simp only [inodeAs,if_pos hl]
      by_cases hst : (m.ino (m'.ent d s).ino.toNat).stamp = (m'.ino (m'.ent d s).ino.toNat).stamp
      ·rw [hst]; exact a7
      ·have:=(hf.1 _ hj).1 hl a6 hst; omega
     | false =>
      have hl' : ¬(m.ino (m'.ent d s).ino.toNat).live = true:=by rw [hl]; simp
      have hbp : 0 < both m m' ((m'.ent d s).ino.toNat : Nat):=by
       have:=refs_le_both m' m ((m'.ent d s).ino.toNat : Nat)
       rw [both_comm] at this; omega
      simp only [inodeAs,if_neg hl',if_pos (And.intro a6 hbp)]
      exact ⟨a6,a7⟩
    ·exact ⟨a6,a7⟩
   exact entry_of (by rw [e']; exact a1) (by rw [e']; exact a2) (by simpa only [hE] using a3) (by rw [e']; exact a4) (by rw [e']; exact a5) (by rw [e']; exact key.1) (by rw [e']; exact key.2)
 ·cases hl : (X.ino n).live with
  | false =>
   have : X.ino n = Ino.none:=by
    rw [hI] at hl ⊢
    split at hl
    ·rename_i hr; rw [if_pos hr]; exact (inodeAs_dead m m' n hl).1
    ·rename_i hr; rw [if_neg hr]; exact dead_none hc hn hl
   exact inoFault_dead this
  | true =>
   rcases hL n hn hl with ⟨a1,a2,a3,a4⟩ | ⟨a1,a2,a3,a4⟩
   ·obtain ⟨p1,_,p3⟩:=ino_parts hcm hn a1
    refine inoFault_of hl (by rw [a2]; exact p1) (by rw [hR]; exact a3) fun p hp=>partFault_of ?_
    rw [a4 p hp,a2]
    rcases part_cases m m' n p with c | ⟨c1,c2,c3,c4⟩ | ⟨c1,c2,c3⟩
    ·exact .inl c
    ·rw [c1]; right; exact ⟨c2,c3,by rw [hD]; exact c4⟩
    ·rw [c1]
     obtain ⟨_,_,q3⟩:=ino_parts hc hn c2
     rcases part_dat (q3 p hp) with r | ⟨r1,r2,r3⟩
     ·exact .inl r
     ·right; exact ⟨r1,r2,by rw [hD,r3,c3]⟩
   ·obtain ⟨p1,_,p3⟩:=ino_parts hc hn a1
    refine inoFault_of hl (by rw [a2]; exact p1) (by rw [hR]; exact a3) fun p hp=>partFault_of ?_
    rw [a4 p,a2]
    rcases part_dat (p3 p hp) with r | ⟨r1,r2,r3⟩
    ·exact .inl r
    ·right; exact ⟨r1,r2,by rw [hD]; exact r3⟩
 ·
  rw [← twiceR_eq]
  unfold twiceR
  rw [anyN_false]
  intro n hn
  rw [anyN_false]
  intro k hk
  rcases hb : pairBad X n k with _ | _
  ·rfl
  ·exfalso
   rw [pairBad_iff] at hb
   obtain ⟨b1,b2,b3⟩:=hb
   have badm : ∀ {p q},p < 2 → q < 2 → (n ≠ k ∨ p ≠ q) → (m.ino n).live = true → (m.ino k).live = true → 0 ≤ (m.ino n).prt p → (m.ino n).prt p = (m.ino k).prt q → False:=by
    intro p q hp hq hne hl hl' h0 h
    have:=twice_at hn hk (pairBad_iff.2 ⟨hl,hl',.inr ⟨p,q,hp,hq,hne,h0,h⟩⟩)
    rw [g3] at this; exact absurd this (by simp)
   have badd : ∀ {p q},p < 2 → q < 2 → (n ≠ k ∨ p ≠ q) → (m'.ino n).live = true → (m'.ino k).live = true → 0 ≤ (m'.ino n).prt p → (m'.ino n).prt p = (m'.ino k).prt q → False:=by
    intro p q hp hq hne hl hl' h0 h
    have:=twice_at hn hk (pairBad_iff.2 ⟨hl,hl',.inr ⟨p,q,hp,hq,hne,h0,h⟩⟩)
    rw [h3] at this; exact absurd this (by simp)
   rcases b3 with ⟨hne,hst⟩ | ⟨p,q,hp,hq,hne,h0,hpq⟩
   ·rcases hL n hn b1 with ⟨a1,a2,_,_⟩ | ⟨a1,a2,_,_⟩ <;> rcases hL k hk b2 with ⟨c1,c2,_,_⟩ | ⟨c1,c2,_,_⟩
    ·have:=twice_at hn hk (pairBad_iff.2 ⟨a1,c1,.inl ⟨hne,by rw [← a2,← c2]; exact hst⟩⟩)
     rw [g3] at this; exact absurd this (by simp)
    ·exact (hf.1 n hn).2.1 k hk (fun h=>hne h.symm) a1 c1 (by rw [← a2,← c2]; exact hst.symm)
    ·exact (hf.1 k hk).2.1 n hn hne c1 a1 (by rw [← a2,← c2]; exact hst)
    ·have:=twice_at hn hk (pairBad_iff.2 ⟨a1,c1,.inl ⟨hne,by rw [← a2,← c2]; exact hst⟩⟩)
     rw [h3] at this; exact absurd this (by simp)
   ·
    have src : ∀ i a,i < 8 → a < 2 → (X.ino i).live = true → 0 ≤ (X.ino i).prt a → ((m.ino i).live = true ∧ (X.ino i).prt a = (m.ino i).prt a) ∨ ((m'.ino i).live = true ∧ (X.ino i).prt a = (m'.ino i).prt a):=by
     intro i a hi ha hl h0
     rcases hL i hi hl with ⟨a1,_,_,a4⟩ | ⟨a1,_,_,a4⟩
     ·rw [a4 a ha] at h0 ⊢
      rcases part_cases m m' i a with c | ⟨c1,_,_,_⟩ | ⟨c1,c2,_⟩
      ·omega
      ·exact .inl ⟨a1,c1⟩
      ·exact .inr ⟨c2,c1⟩
     ·exact .inr ⟨a1,a4 a⟩
    rcases src n p hn hp b1 h0 with ⟨s1,s2⟩ | ⟨s1,s2⟩ <;> rcases src k q hk hq b2 (by omega) with ⟨t1,t2⟩ | ⟨t1,t2⟩
    ·exact badm hp hq hne s1 t1 (by omega) (by omega)
    ·obtain ⟨u1,u2,_⟩:=(hf.1 n hn).2.2 p hp s1 (by omega) k hk q hq t1 (by omega)
     omega
    ·obtain ⟨u1,u2,_⟩:=(hf.1 k hk).2.2 q hq t1 (by omega) n hn p hp s1 (by omega)
     omega
    ·exact badd hp hq hne s1 t1 (by omega) (by omega)
theorem mends_dir {m m' : Img} (hc : check m' = 0) (he : exact m = true) (hf : Fits m m') {d0 : Nat} (hd0 : d0 < 3) : check (wrDir m m' d0 4) = 0:=by
 obtain ⟨hcm,hem⟩:=exact_parts he
 obtain ⟨h1,h2,h3⟩:=check_parts hc
 obtain ⟨g1,g2,g3⟩:=check_parts hcm
 obtain ⟨i1,i2,i3,i4,i5,i6⟩:=wrDir_ok m m' hd0 4 (Nat.le_refl _)
 generalize wrDir m m' d0 4 = X at *
 refine check_of (fun d hd s hs=>?_) (fun n hn=>?_) ?_
 ·
  have slot : ∀ t,t < 4 → X.ent d t = m'.ent d t ∨ X.ent d t = Ent.zero ∨ (X.ent d t = m.ent d t ∧ 0 ≤ (m.ent d t).ino ∧ (m.ent d t).ino < 8 ∧ (m'.ino (m.ent d t).ino.toNat).live = true ∧ (m'.ino (m.ent d t).ino.toNat).stamp = (m.ent d t).stamp):=by
   intro t ht
   by_cases e : d = d0
   ·subst e; exact i4 t ht
   ·exact .inl (i3 d t hd ht (.inl e))
  have uniq : ∀ k,k < s → ¬(X.ent d s).name = ⟨#[]⟩ → ¬(X.ent d k).name = (X.ent d s).name:=by
   intro k hk hne heq
   have hk4 : k < 4:=by omega
   rcases slot s hs with a | a | ⟨a,_⟩ <;> rcases slot k hk4 with b | b | ⟨b,_⟩ <;> rw [a] at hne heq <;> rw [b] at heq
   ·rcases entry_parts (h1 d hd s hs) with e0 | ⟨_,_,a3,_⟩
    ·rw [e0] at hne; exact hne rfl
    ·have:=anyN_false.1 a3 k hk; simp [heq] at this
   ·exact hne heq.symm
   ·exact (hf.2.2 d hd k hk4).2 s hs (by omega) (by rw [heq]; exact hne) heq.symm
   ·exact absurd rfl hne
   ·exact absurd rfl hne
   ·exact absurd rfl hne
   ·exact (hf.2.2 d hd s hs).2 k hk4 (by omega) hne heq
   ·exact hne heq.symm
   ·rcases entry_parts (g1 d hd s hs) with e0 | ⟨_,_,a3,_⟩
    ·rw [e0] at hne; exact hne rfl
    ·have:=anyN_false.1 a3 k hk; simp [heq] at this
  have any : ¬(X.ent d s).name = ⟨#[]⟩ → anyN s (fun k=>decide ((X.ent d k).name = (X.ent d s).name)) = false:=fun hne=>anyN_false.2 fun k hk=>by simpa using uniq k hk hne
  rcases slot s hs with a | a | ⟨a,b1,b2,b3,b4⟩
  ·rcases entry_parts (h1 d hd s hs) with e0 | ⟨a1,a2,a3,a4,a5,a6,a7⟩
   ·rw [e0] at a; simp [entryFault,a,show Ent.zero.name = ⟨#[]⟩ from rfl]
   ·exact entry_of (by rw [a]; exact a1) (by rw [a]; exact a2) (any (by rw [a]; exact a1)) (by rw [a]; exact a4) (by rw [a]; exact a5) (by rw [a,i1]; exact a6) (by rw [a,i1]; exact a7)
  ·simp [entryFault,a,show Ent.zero.name = ⟨#[]⟩ from rfl]
  ·rcases entry_parts (g1 d hd s hs) with e0 | ⟨a1,a2,a3,a4,a5,a6,a7⟩
   ·rw [e0] at a; simp [entryFault,a,show Ent.zero.name = ⟨#[]⟩ from rfl]
   ·exact entry_of (by rw [a]; exact a1) (by rw [a]; exact a2) (any (by rw [a]; exact a1)) (by rw [a]; exact a4) (by rw [a]; exact a5) (by rw [a,i1]; exact b3) (by rw [a,i1]; exact b4)
 ·cases hl : (m'.ino n).live with
  | false=>exact inoFault_dead (by rw [i1]; exact dead_none hc hn hl)
  | true =>
   obtain ⟨p1,p2,p3⟩:=ino_parts hc hn hl
   refine inoFault_of (by rw [i1]; exact hl) (by rw [i1]; exact p1) ?_ fun p hp=>?_
   ·rw [i1]
    rcases i6 n with h | ⟨_,h⟩
    ·omega
    ·exact h
   ·rw [i1]
    rcases part_dat (p3 p hp) with r | ⟨r1,r2,r3⟩
    ·exact partFault_of (.inl r)
    ·exact partFault_of (.inr ⟨r1,r2,by rw [i2]; exact r3⟩)
 ·rw [← h3]; exact twice_ino i1
theorem write_mends {m m' : Img} (hc : check m' = 0) (he : exact m = true) (hf : Fits m m') (b : Int) : check (writeAs m m' b).1 = 0:=by
 obtain ⟨n,hn,e⟩ | ⟨n,hn,e⟩ | ⟨n,hn,e⟩ | e:=blockOf_cases b
 ·rw [writeAs_i e]; exact mends_inodes hc he hf hn
 ·rw [writeAs_d e]; exact mends_dir hc he hf hn
 ·rw [writeAs_a e]; exact mends_data hc hf hn
 ·rw [writeAs_n e]; exact hc
@[go_sem] theorem st_id : decide (sInodes = ⟨#[100,105,114]⟩) = false:=by decide
@[go_sem] theorem st_ia : decide (sInodes = ⟨#[100,97,116,97]⟩) = false:=by decide
@[go_sem] theorem st_da : decide (sDir = ⟨#[100,97,116,97]⟩) = false:=by decide
def encC (a b : Img) : AV:=.cons a.enc (.cons b.enc .unit)
theorem fits_cache' (a b : Img) : tCache.fits (encC a b) = true:=by
 show (Ty.cons tImage (.cons tImage .unit)).fits (AV.cons _ (.cons _ .unit)) = true
 simp only [fits_cons,fits_unit,fits_img',and_self]
@[go_sem] theorem fits_cache (a b : Img) : (tCache.fits (encC a b) = true) = True:=eq_true (fits_cache' a b)
@[go_sem] theorem at_cache0 (a b : Img) (p : List Nat) : (encC a b).at (0 :: p) = a.enc.at p:=rfl
@[go_sem] theorem at_cache1 (a b : Img) (p : List Nat) : (encC a b).at (1 :: p) = b.enc.at p:=rfl
theorem put_cache0 (a b x : Img) : (encC a b).put [0] x.enc = some (encC x b):=by
 show (AV.put a.enc [] x.enc).map (fun y=>AV.cons y (.cons b.enc .unit)) = _
 rw [put_nil]; rfl
theorem put_cache1 (a b x : Img) : (encC a b).put [1] x.enc = some (encC a x):=by
 show ((AV.put b.enc [] x.enc).map (fun y=>AV.cons y .unit)).map (fun y=>AV.cons a.enc y) = _
 rw [put_nil]; rfl
@[go_sem] theorem field_cache0 : tCache.field 0 = some tImage:=rfl
@[go_sem] theorem field_cache1 : tCache.field 1 = some tImage:=rfl
theorem zero_cache : tCache.zero = encC Img.zero Img.zero:=by
 show AV.cons tImage.zero (.cons tImage.zero .unit) = _
 rw [zero_img]; rfl
@[go_sem] theorem fill_cache (a b : Img) : fill tCache tCache.zero [(0,a.enc),(1,b.enc)] = some (encC a b):=by
 rw [zero_cache]
 simp only [fill]
 show (if tImage.fits a.enc = true then _ else _) = _
 rw [if_pos (fits_img' a),put_cache0]
 show (if tImage.fits b.enc = true then _ else _) = _
 rw [if_pos (fits_img' b),put_cache1]
@[go_sem] theorem fg_cache (a b : Img) (i : Id) : fg (encC a b) i = encC a b:=rfl
@[go_sem] theorem leads_cache (a b : Img) (i : Id) : (encC a b).leads i = false:=rfl
@[go_sem] theorem isAgg_cache (a b : Img) : (encC a b).isAgg = true:=rfl
def HP.cs (h : HP) (n : Nat) (a b : Img) : HP:=h.set (.obj n) ⟨tCache,encC a b⟩
def HP.mk1 (h : HP) (a b : Img) : HP:={ h.cs h.next a b with next:=h.next + 1 }
theorem look_cs (h : HP) (n : Nat) (a b : Img) : (h.cs n a b).look (.obj n) = some ⟨tCache,encC a b⟩:=by simp [HP.cs,HP.set,HP.look]
theorem cs_cs (h : HP) (n : Nat) (a b c d : Img) : (h.cs n a b).cs n c d = h.cs n c d:=by
 simp only [HP.cs,HP.set]; congr 1; funext k; by_cases e : k = n <;> simp [e]
theorem push_cs (h : HP) (l n : Nat) (o : Own) (a b : Img) : (h.push l o).cs n a b = (h.cs n a b).push l o:=rfl
theorem push_look_obj (h : HP) (l n : Nat) (o : Own) : (h.push l o).look (.obj n) = h.look (.obj n):=rfl
theorem HP.rd0 {h : HP} {i : Id} {a : Nat} {v : AV} (hm : h.rd i [a] = some v) (r : List Nat) : h.rd i (a :: r) = v.at r:=HP.rd_app hm r
theorem rd_of {h : HP} {n : Nat} {a b : Img} (h0 : h.look (.obj n) = some ⟨tCache,encC a b⟩) : h.rd (.obj n) [0] = some a.enc ∧ h.rd (.obj n) [1] = some b.enc:=by
 simp only [HP.rd,h0,Option.bind_some,at_cache0,at_cache1,at_nil,and_self]
section
variable {T : Nat → Option MFun} {cx : Cx} {k : List Item} {kill : List Nat} {r : List MOp} {sl : Slots} {own : Own} {h : HP} {Q : St → Prop}
theorem W_callh {prot : Bool} {f : Nat} {args : List Opd} {d : Option Nat} {fn : MFun} {v : AV} (h1 : HP) (hf : T f = some fn) (hp : fn.params = args.length ∧ fn.nfree = 0) (hs : h1.stk = h.stk)
  (hc : Ok T (St.callCx ⟨sl,own,h⟩ cx prot) fn (St.enter (args.map (St.opd ⟨sl,own,h⟩)) (h.push cx.lvl own)) fun v' h'=>v' = v ∧ h' = h1.push cx.lvl own)
  (hq : W T cx (.ops r kill :: k) (St.setd ⟨sl,own,h1⟩ d v) Q) :
  W T cx (.ops (⟨d,.call prot [] f args,none⟩ :: r) kill :: k) ⟨sl,own,h⟩ Q:=by
 refine W_callr hf hp hc ?_
 rintro v h' ⟨rfl,rfl⟩
 have : St.pop ⟨sl,own,h⟩ cx.lvl [] (h1.push cx.lvl own) = ⟨sl,own,h1⟩:=by
  simp only [St.pop,HP.pop,HP.push,Own.unveil,if_true]
  congr 1
  cases h1
  simp only at hs
  subst hs
  simp only [HP.mk.injEq,and_true]
  funext l
  by_cases hl : l = cx.lvl <;> simp [hl]
 rw [this]; exact hq
theorem W_callhide {prot : Bool} {hide : List Nat} {f : Nat} {args : List Opd} {d : Option Nat} {fn : MFun} {v : AV} (hf : T f = some fn) (hp : fn.params = args.length ∧ fn.nfree = 0)
  (hc : Ok T (St.callCx ⟨sl,[],h⟩ cx prot) fn (St.enter (args.map (St.opd ⟨sl,[],h⟩)) (h.push cx.lvl [])) fun v' h'=>v' = v ∧ h' = h.push cx.lvl [])
  (hq : W T cx (.ops r kill :: k) (St.setd ⟨sl,[],h⟩ d v) Q) (hh : has hide 1000000 = false:=by rfl) :
  W T cx (.ops (⟨d,.call prot hide f args,none⟩ :: r) kill :: k) ⟨sl,[],h⟩ Q:=by
 have e : Own.veil [] hide = []:=by cases hide <;> rfl
 refine W_callr (R:=fun v' h'=>v' = v ∧ h' = h.push cx.lvl []) hf hp (by rw [e,callCx_no _ _ hh]; exact hc) ?_
 rintro v h' ⟨rfl,rfl⟩
 have : St.pop ⟨sl,[],h⟩ cx.lvl hide (h.push cx.lvl []) = ⟨sl,[],h⟩:=by
  simp only [St.pop,HP.pop,HP.push,if_true]
  have e2 : Own.unveil [] [] hide = []:=by cases hide <;> rfl
  rw [e2]
  congr 1
  cases h
  simp only [HP.mk.injEq,and_true]
  funext l
  by_cases hl : l = cx.lvl <;> simp [hl]
 rw [this]; exact hq
theorem W_callS {f : Nat} {args : List Opd} {d : Option Nat} {fn : MFun} {v : AV} (h1 : HP) (hf : T f = some fn) (hp : fn.params = args.length ∧ fn.nfree = 0) (hs : h1.stk = h.stk)
  (hc : Ok T (St.callCx ⟨sl,own,h⟩ cx false [1000000]) fn (St.enter (args.map (St.opd ⟨sl,own,h⟩)) (h.push cx.lvl own)) fun v' h'=>v' = v ∧ h' = h1.push cx.lvl own)
  (hq : W T cx (.ops r kill :: k) (St.setd ⟨sl,own,h1⟩ d v) Q) (hv : own.veil [1000000] = own:=by rfl) (hu : own.unveil own [1000000] = own:=by rfl) :
  W T cx (.ops (⟨d,.call false [1000000] f args,none⟩ :: r) kill :: k) ⟨sl,own,h⟩ Q:=by
 refine W_callr hf hp (by rw [hv]; exact hc) ?_
 rintro v h' ⟨rfl,rfl⟩
 have : St.pop ⟨sl,own,h⟩ cx.lvl [1000000] (h1.push cx.lvl own) = ⟨sl,own,h1⟩:=by
  simp only [St.pop,HP.pop,HP.push,if_true,hu]
  congr 1
  cases h1
  simp only at hs
  subst hs
  simp only [HP.mk.injEq,and_true]
  funext l
  by_cases hl : l = cx.lvl <;> simp [hl]
 rw [this]; exact hq
def WBT (T : Nat → Option MFun) (cx : Cx) (v : AV) (d : Nat) (r : List MOp) (kill : List Nat) (k : List Item) (sl : Slots) (own : Own) (h : HP) (Q : St → Prop) : Prop :=
 tCache.fits v = true ∧ W T cx (.ops r kill :: k) ⟨sl.set d (.ptr (.obj h.next) [] tCache),own,{ h with obj:=fun n=>if n = h.next then some ⟨tCache,v⟩ else h.obj n,next:=h.next + 1 }⟩ Q
@[go_sem] theorem WBT_enc {a b : Img} {d : Nat} : WBT T cx (encC a b) d r kill k sl own h Q = W T cx (.ops r kill :: k) ⟨sl.set d (.ptr (.obj h.next) [] tCache),own,h.mk1 a b⟩ Q:=by
 simp only [WBT,fits_cache,true_and]
 rfl
@[go_sem] theorem W_boxT {d : Nat} {x : Opd} : W T cx (.ops (⟨some d,.box true tCache x,none⟩ :: r) kill :: k) ⟨sl,own,h⟩ Q = WBT T cx (St.opd ⟨sl,own,h⟩ x) d r kill k sl own h Q:=by
 rw [W_op rfl,evOp]
 simp only [evK,WBT]
 by_cases h1 : tCache.fits (St.opd ⟨sl,own,h⟩ x) = true
 ·simp only [h1,true_and,if_true]; rfl
 ·simp only [h1,false_and,Bool.false_eq_true,if_false]; rfl
theorem stV_cache1 {n : Nat} {a b x : Img} (hm : h.look (.obj n) = some ⟨tCache,encC a b⟩) (hl : cx.prot.lets (.obj n) = true) : stV cx tImage (.ptr (.obj n) [1] tImage) x.enc ⟨sl,own,h⟩ = some ⟨sl,own,h.cs n a x⟩:=by
 simp only [stV,fits_img',and_self,if_true,St.look,Id.own,hm,put_cache1,St.write,hl]
 rfl
@[go_sem] theorem eqV_nilp (neg : Bool) (n : Nat) (t : Ty) : eqV tP neg (.ptr (.obj n) [] t) .nilp = some (.bool neg):=by cases neg <;> rfl
@[go_sem] theorem eqV_nilnil (neg : Bool) : eqV tP neg .nilp .nilp = some (.bool (!neg)):=by cases neg <;> rfl
@[go_sem] theorem safe_ptrobj (n : Nat) (p : List Nat) (t : Ty) : (AV.ptr (.obj n) p t).safe = true:=rfl
@[go_sem] theorem safe_nilp : AV.nilp.safe = true:=rfl
@[go_sem] theorem callCx_prot (s : St) : (s.callCx cx false).prot = cx.prot:=rfl
end
section
variable {cx : Cx} {h : HP} {n : Nat} {a b : Img}
theorem CNew_ok : Ok tblB cx Fn.cache_New (St.enter [] h) fun v h'=>v = .ptr (.obj h.next) [] tCache ∧ h' = h.mk1 Img.blank Img.blank:=by
 rw [Ok_eq]
 simp (maxSteps:=999999) (disch:=omega) only [go_sem]
 refine W_callp rfl ⟨rfl,rfl⟩ (by simp only [go_sem]; exact up (New_ok)) ?_
 simp (maxSteps:=999999) (disch:=omega) only [go_sem]
 refine W_callp rfl ⟨rfl,rfl⟩ (by simp only [go_sem]; exact up (New_ok)) ?_
 simp (maxSteps:=999999) (disch:=omega) only [go_sem]
theorem COf_ok {m : Img} (hs : m.small) (hc : check m = 0) : Ok tblB cx Fn.cache_Of (St.enter [m.enc] h) fun v h'=>v = .ptr (.obj h.next) [] tCache ∧ h' = h.mk1 m m:=by
 rw [Ok_eq]
 simp (maxSteps:=999999) (disch:=omega) only [go_sem]
 refine W_callp rfl ⟨rfl,rfl⟩ (by simp only [go_sem]; exact up (Check_ok (m:=m) hs (below_stk _ _) (by simp only [go_sem,HP.push_rd_own]))) ?_
 simp (maxSteps:=999999) (disch:=omega) only [go_sem,hc]
theorem COf_no {m : Img} (hs : m.small) (hc : ¬check m = 0) : Ok tblB cx Fn.cache_Of (St.enter [m.enc] h) fun v h'=>v = .nilp ∧ h' = h:=by
 rw [Ok_eq]
 simp (maxSteps:=999999) (disch:=omega) only [go_sem]
 refine W_callp rfl ⟨rfl,rfl⟩ (by simp only [go_sem]; exact up (Check_ok (m:=m) hs (below_stk _ _) (by simp only [go_sem,HP.push_rd_own]))) ?_
 simp (maxSteps:=999999) (disch:=omega) only [go_sem,hc]
theorem CDisk_ok (hm : h.rd (.obj n) [0] = some a.enc) (hm' : h.rd (.obj n) [1] = some b.enc) : Ok tblB cx Fn.cache_Cache_Disk (St.enter [.ptr (.obj n) [] tCache] h) fun v h'=>v = b.enc ∧ h' = h:=by
 rw [Ok_eq]
 simp (maxSteps:=999999) (disch:=omega) only [go_sem,rd_ext (below_obj _ _),HP.rd0 hm,HP.rd0 hm',fg_ptr (below_obj _ _),leads_ptr (below_obj _ _),apart_ptr (below_obj _ _),hm']
theorem CClean_ok (hm : h.rd (.obj n) [0] = some a.enc) (hm' : h.rd (.obj n) [1] = some b.enc) : Ok tblB cx Fn.cache_Cache_Clean (St.enter [.ptr (.obj n) [] tCache] h) fun v h'=>v = .bool (decide (a = b)) ∧ h' = h:=by
 rw [Ok_eq]
 simp (maxSteps:=999999) (disch:=omega) only [go_sem,rd_ext (below_obj _ _),HP.rd0 hm,HP.rd0 hm',fg_ptr (below_obj _ _),leads_ptr (below_obj _ _),apart_ptr (below_obj _ _),hm,hm']
theorem CWrite_ok {x : Int} (h0 : h.look (.obj n) = some ⟨tCache,encC a b⟩) (hl : cx.prot.lets (.obj n) = true) :
  Ok tblB cx Fn.cache_Cache_Write (St.enter [.ptr (.obj n) [] tCache,.int .i64 x] h) fun v h'=>v = .bool (writeAs a b x).2 ∧ h' = h.cs n a (writeAs a b x).1:=by
 obtain ⟨hm,hm'⟩:=rd_of h0
 rw [Ok_eq]
 simp (maxSteps:=999999) (disch:=omega) only [go_sem,rd_ext (below_obj _ _),HP.rd0 hm,HP.rd0 hm',fg_ptr (below_obj _ _),leads_ptr (below_obj _ _),apart_ptr (below_obj _ _)]
 refine W_callhide rfl ⟨rfl,rfl⟩ (by simp only [go_sem]; exact up (Write_ok (m:=a) (m':=b) (p:=.obj n) (p':=.obj n) (q:=[0]) (q':=[1]) (below_obj _ _) (by rw [HP.push_rd_ext (below_obj _ _)]; exact hm) (below_obj _ _) (by rw [HP.push_rd_ext (below_obj _ _)]; exact hm'))) ?_
 simp (maxSteps:=999999) (disch:=omega) only [go_sem,rd_ext (below_obj _ _),HP.rd0 hm,HP.rd0 hm',fg_ptr (below_obj _ _),leads_ptr (below_obj _ _),apart_ptr (below_obj _ _),stV_cache1 h0 hl]
theorem CInode_ok (hm : h.rd (.obj n) [0] = some a.enc) (hm' : h.rd (.obj n) [1] = some b.enc) :
  Ok tblB cx Fn.cache_Cache_Inode (St.enter [.ptr (.obj n) [] tCache] h) fun v h'=>v = .int .i64 (findN 8 fun k=>!(a.ino k).live && decide (refs b k = 0)) ∧ h' = h:=by
 rw [Ok_eq]
 simp (maxSteps:=999999) (disch:=omega) only [go_sem,rd_ext (below_obj _ _),HP.rd0 hm,HP.rd0 hm',fg_ptr (below_obj _ _),leads_ptr (below_obj _ _),apart_ptr (below_obj _ _)]
 refine W_forP 8 (fun k=>⟨[(0,.ptr (.obj n) [] tCache),(9,encV Ino.enc a.inode),(10,.int .i64 k)],[],h⟩) (fun k=>∀ i,i < k → (!(a.ino i).live && decide (refs b i = 0)) = false) (by simp only [go_sem] <;> rfl) (fun i hi=>by omega) fun k hk hp ih=>?_
 by_cases hlt : k < 8
 ·simp (maxSteps:=999999) (disch:=omega) only [go_sem,hlt,rd_ext (below_obj _ _),HP.rd0 hm,HP.rd0 hm',fg_ptr (below_obj _ _),leads_ptr (below_obj _ _),apart_ptr (below_obj _ _)]
  cases c1 : (a.ino k).live with
  | true =>
   simp (maxSteps:=999999) (disch:=omega) only [go_sem,c1]
   refine ih _ hlt (step_all hp (by simp [c1])) ?_
   simp only [go_sem]
  | false =>
   simp (maxSteps:=999999) (disch:=omega) only [go_sem,c1,rd_ext (below_obj _ _),HP.rd0 hm,HP.rd0 hm',fg_ptr (below_obj _ _),leads_ptr (below_obj _ _),apart_ptr (below_obj _ _)]
   refine W_callp rfl ⟨rfl,rfl⟩ (by simp only [go_sem]; exact up (Refs_ok (m:=b) (p:=.obj n) (q:=[1]) (below_obj _ _) (by rw [HP.push_rd_ext (below_obj _ _)]; exact hm'))) ?_
   simp (maxSteps:=999999) (disch:=omega) only [go_sem]
   by_cases c2 : refs b k = 0
   ·simp (maxSteps:=999999) (disch:=omega) only [go_sem,c2]
    rw [findN_at hp (by simp [c1,c2]) hlt]
   ·simp (maxSteps:=999999) (disch:=omega) only [go_sem,c2]
    refine ih _ hlt (step_all hp (by simp [c1,c2])) ?_
    simp only [go_sem]
 ·obtain rfl : k = 8:=by omega
  simp (maxSteps:=999999) (disch:=omega) only [go_sem]
  rw [findN_none hp]
def freeSlot (a b : Img) (d : Int) : Int:=if d < 0 ∨ 3 ≤ d then -1 else findN 4 fun s=>decide ((a.ent d.toNat s).name = ⟨#[]⟩) && decide ((b.ent d.toNat s).name = ⟨#[]⟩)
theorem CSlot_ok {d : Int} (hm : h.rd (.obj n) [0] = some a.enc) (hm' : h.rd (.obj n) [1] = some b.enc) :
  Ok tblB cx Fn.cache_Cache_Slot (St.enter [.ptr (.obj n) [] tCache,.int .i64 d] h) fun v h'=>v = .int .i64 (freeSlot a b d) ∧ h' = h:=by
 rw [Ok_eq]
 simp (maxSteps:=999999) (disch:=omega) only [go_sem,rd_ext (below_obj _ _),HP.rd0 hm,HP.rd0 hm',fg_ptr (below_obj _ _),leads_ptr (below_obj _ _),apart_ptr (below_obj _ _)]
 by_cases c0 : d < 0
 ·simp (maxSteps:=999999) (disch:=omega) only [go_sem,c0]; simp [freeSlot,c0]
 by_cases c3 : 3 ≤ d
 ·simp (maxSteps:=999999) (disch:=omega) only [go_sem,c0,c3]; simp [freeSlot,c3]
 have e : freeSlot a b d = findN 4 fun s=>decide ((a.ent d.toNat s).name = ⟨#[]⟩) && decide ((b.ent d.toNat s).name = ⟨#[]⟩):=by simp only [freeSlot]; rw [if_neg (by omega)]
 simp (maxSteps:=999999) (disch:=omega) only [go_sem,c0,c3]
 refine W_forP 4 (fun s=>⟨[(0,.ptr (.obj n) [] tCache),(1,.int .i64 d),(12,.int .i64 s)],[],h⟩) (fun s=>∀ i,i < s → (decide ((a.ent d.toNat i).name = ⟨#[]⟩) && decide ((b.ent d.toNat i).name = ⟨#[]⟩)) = false) (by simp only [go_sem] <;> rfl) (fun i hi=>by omega) fun s hs hp ih=>?_
 by_cases hlt : s < 4
 ·simp (maxSteps:=999999) (disch:=omega) only [go_sem,hlt,c0,c3,rd_ext (below_obj _ _),HP.rd0 hm,HP.rd0 hm',fg_ptr (below_obj _ _),leads_ptr (below_obj _ _),apart_ptr (below_obj _ _)]
  by_cases c1 : (a.ent d.toNat s).name = ⟨#[]⟩
  ·by_cases c2 : (b.ent d.toNat s).name = ⟨#[]⟩
   ·simp (maxSteps:=999999) (disch:=omega) only [go_sem,hlt,c0,c3,c1,c2,rd_ext (below_obj _ _),HP.rd0 hm,HP.rd0 hm',fg_ptr (below_obj _ _),leads_ptr (below_obj _ _),apart_ptr (below_obj _ _),e]
    rw [findN_at hp (by simp [c1,c2]) hlt]
   ·simp (maxSteps:=999999) (disch:=omega) only [go_sem,hlt,c0,c3,c1,c2,rd_ext (below_obj _ _),HP.rd0 hm,HP.rd0 hm',fg_ptr (below_obj _ _),leads_ptr (below_obj _ _),apart_ptr (below_obj _ _)]
    refine ih _ hlt (step_all hp (by simp [c2])) ?_
    simp only [go_sem]
  ·simp (maxSteps:=999999) (disch:=omega) only [go_sem,c1]
   refine ih _ hlt (step_all hp (by simp [c1])) ?_
   simp only [go_sem]
 ·obtain rfl : s = 4:=by omega
  simp (maxSteps:=999999) (disch:=omega) only [go_sem,e]
  rw [findN_none hp]
theorem CData_ok (hm : h.rd (.obj n) [0] = some a.enc) (hm' : h.rd (.obj n) [1] = some b.enc) :
  Ok tblB cx Fn.cache_Cache_Data (St.enter [.ptr (.obj n) [] tCache] h) fun v h'=>v = .int .i64 (findN 9 fun x=>!held a x && !held b x) ∧ h' = h:=by
 rw [Ok_eq]
 simp (maxSteps:=999999) (disch:=omega) only [go_sem,rd_ext (below_obj _ _),HP.rd0 hm,HP.rd0 hm',fg_ptr (below_obj _ _),leads_ptr (below_obj _ _),apart_ptr (below_obj _ _)]
 refine W_forP 9 (fun k=>⟨[(0,.ptr (.obj n) [] tCache),(4,.int .i64 k)],[],h⟩) (fun k=>∀ i,i < k → (!held a i && !held b i) = false) (by simp only [go_sem] <;> rfl) (fun i hi=>by omega) fun k hk hp ih=>?_
 by_cases hlt : k < 9
 ·simp (maxSteps:=999999) (disch:=omega) only [go_sem,hlt,rd_ext (below_obj _ _),HP.rd0 hm,HP.rd0 hm',fg_ptr (below_obj _ _),leads_ptr (below_obj _ _),apart_ptr (below_obj _ _)]
  refine W_callp rfl ⟨rfl,rfl⟩ (by simp only [go_sem]; exact up (Holds_ok (m:=a) (p:=.obj n) (q:=[0]) (below_obj _ _) (by rw [HP.push_rd_ext (below_obj _ _)]; exact hm))) ?_
  simp (maxSteps:=999999) (disch:=omega) only [go_sem]
  cases c1 : held a k with
  | true =>
   simp (maxSteps:=999999) (disch:=omega) only [go_sem,c1]
   refine ih _ hlt (step_all hp (by simp [c1])) ?_
   simp only [go_sem]
  | false =>
   simp (maxSteps:=999999) (disch:=omega) only [go_sem,c1,rd_ext (below_obj _ _),HP.rd0 hm,HP.rd0 hm',fg_ptr (below_obj _ _),leads_ptr (below_obj _ _),apart_ptr (below_obj _ _)]
   refine W_callp rfl ⟨rfl,rfl⟩ (by simp only [go_sem]; exact up (Holds_ok (m:=b) (p:=.obj n) (q:=[1]) (below_obj _ _) (by rw [HP.push_rd_ext (below_obj _ _)]; exact hm'))) ?_
   simp (maxSteps:=999999) (disch:=omega) only [go_sem]
   cases c2 : held b k with
   | false =>
    simp (maxSteps:=999999) (disch:=omega) only [go_sem,c2]
    rw [findN_at hp (by simp [c1,c2]) hlt]
   | true =>
    simp (maxSteps:=999999) (disch:=omega) only [go_sem,c2]
    refine ih _ hlt (step_all hp (by simp [c1,c2])) ?_
    simp only [go_sem]
 ·obtain rfl : k = 9:=by omega
  simp (maxSteps:=999999) (disch:=omega) only [go_sem]
  rw [findN_none hp]
end
def wrDown (a b : Img) : Nat → Img
 | 0=>b
 | k + 1=>(writeAs a (wrDown a b k) (13 - (k : Int))).1
def syncD (a b : Img) : Nat → Img
 | 0=>b
 | k + 1=>wrDown a (syncD a b k) 14
section
variable {cx : Cx} {h : HP} {n : Nat} {a b : Img}
theorem CSync_ok (hl : cx.prot.lets (.obj n) = true) : Ok tblB cx Fn.cache_Cache_Sync (St.enter [.ptr (.obj n) [] tCache] (h.cs n a b)) fun v h' =>
  ∃ k : Nat,k ≤ 8 ∧ v = .int .i64 k ∧ h' = h.cs n a (syncD a b k) ∧ (k = 8 ∨ a = syncD a b k) ∧ ∀ i,i < k → ¬a = syncD a b i:=by
 rw [Ok_eq]
 simp (maxSteps:=999999) (disch:=omega) only [go_sem]
 refine W_forP 8 (fun j=>⟨[(0,.ptr (.obj n) [] tCache),(3,.int .i64 j)],[],h.cs n a (syncD a b j)⟩) (fun j=>∀ i,i < j → ¬a = syncD a b i) (by simp only [go_sem,syncD] <;> rfl) (fun i hi=>by omega) fun j hj hp ih=>?_
 by_cases hlt : j < 8
 ·obtain ⟨hm,hm'⟩:=rd_of (look_cs h n a (syncD a b j))
  simp (maxSteps:=999999) (disch:=omega) only [go_sem]
  refine W_callp rfl ⟨rfl,rfl⟩ (by simp only [go_sem]; exact CClean_ok (a:=a) (b:=syncD a b j) (by rw [HP.push_rd_ext (below_obj _ _)]; exact hm) (by rw [HP.push_rd_ext (below_obj _ _)]; exact hm')) ?_
  simp (maxSteps:=999999) (disch:=omega) only [go_sem]
  by_cases c : a = syncD a b j
  ·have c' : decide (a = syncD a b j) = true:=decide_eq_true c
   simp (maxSteps:=999999) (disch:=omega) only [go_sem,c']
   exact ⟨j,hj,rfl,rfl,.inr c,hp⟩
  ·simp (maxSteps:=999999) (disch:=omega) only [go_sem,c]
   refine W_for 14 (fun i=>⟨[(0,.ptr (.obj n) [] tCache),(3,.int .i64 j),(4,.int .i64 (13 - (i : Int)))],[],h.cs n a (wrDown a (syncD a b j) i)⟩) (by simp only [go_sem,wrDown] <;> rfl) fun i hi ih2=>?_
   by_cases hlt2 : i < 14
   ·simp (maxSteps:=999999) (disch:=omega) only [go_sem]
    refine W_callh (v:=.bool (writeAs a (wrDown a (syncD a b j) i) (13 - (i : Int))).2) (h.cs n a (wrDown a (syncD a b j) (i + 1))) rfl ⟨rfl,rfl⟩ rfl (by
     simp only [go_sem]
     refine Ok.mono (CWrite_ok (h:=(h.cs n a (wrDown a (syncD a b j) i)).push cx.lvl []) (n:=n) (a:=a) (b:=wrDown a (syncD a b j) i) (by rw [push_look_obj]; exact look_cs h n a _) hl) ?_
     rintro v h' ⟨h1,h2⟩
     exact ⟨h1,by rw [h2,push_cs,cs_cs]; rfl⟩) ?_
    simp (maxSteps:=999999) (disch:=omega) only [go_sem]
    refine ih2 _ hlt2 ?_
    have e2 : (13 : Int) - (i : Int) - 1 = 13 - ((i : Int) + 1):=by omega
    simp only [go_sem,e2]
   ·obtain rfl : i = 14:=by omega
    simp (maxSteps:=999999) (disch:=omega) only [go_sem]
    refine ih _ hlt (step_all hp c) ?_
    simp only [go_sem,syncD]
 ·obtain rfl : j = 8:=by omega
  simp (maxSteps:=999999) (disch:=omega) only [go_sem]
  exact ⟨8,Nat.le_refl _,rfl,rfl,.inl rfl,hp⟩
end
theorem cb11 : check Img.zero = 12:=by decide +kernel
section
variable {cx : Cx} {h : HP} {a b m m' : Img}
theorem W_callhv {T : Nat → Option MFun} {k : List Item} {kill : List Nat} {r : List MOp} {sl : Slots} {own : Own} {Q : St → Prop} {P : AV → Prop} {prot : Bool} {f : Nat} {args : List Opd} {d : Option Nat} {fn : MFun} (h1 : HP) (hf : T f = some fn) (hp : fn.params = args.length ∧ fn.nfree = 0) (hs : h1.stk = h.stk)
  (hc : Ok T (St.callCx ⟨sl,own,h⟩ cx prot) fn (St.enter (args.map (St.opd ⟨sl,own,h⟩)) (h.push cx.lvl own)) fun v' h'=>P v' ∧ h' = h1.push cx.lvl own)
  (hq : ∀ v,P v → W T cx (.ops r kill :: k) (St.setd ⟨sl,own,h1⟩ d v) Q) :
  W T cx (.ops (⟨d,.call prot [] f args,none⟩ :: r) kill :: k) ⟨sl,own,h⟩ Q:=by
 refine W_callr hf hp hc ?_
 rintro v h' ⟨hv,rfl⟩
 have : St.pop ⟨sl,own,h⟩ cx.lvl [] (h1.push cx.lvl own) = ⟨sl,own,h1⟩:=by
  simp only [St.pop,HP.pop,HP.push,Own.unveil,if_true]
  congr 1
  cases h1
  simp only at hs
  subst hs
  simp only [HP.mk.injEq,and_true]
  funext l
  by_cases hl : l = cx.lvl <;> simp [hl]
 rw [this]; exact hq v hv
end
namespace Fn
@[reducible] def r_Bed_Sync.r0 : List MOp:=[⟨some 2,.mov (.c (.int .i64 0)),none⟩]
@[reducible] def r_Bed_Sync.r1 : List MOp:=[⟨some 3,.mov (.c (.int .i64 0)),none⟩]
@[reducible] def r_Bed_Sync.r2 : List MOp:=[⟨some 5,.mov (.s 3),none⟩,⟨some 6,.bin .lss (.s 5) (.c (.int .i64 8)),none⟩]
@[reducible] def r_Bed_Sync.r3 : List MOp:=[⟨some 7,.mov (.s 3),none⟩,⟨some 8,.bin .add (.s 7) (.c (.int .i64 1)),none⟩,⟨some 3,.mov (.s 8),none⟩]
@[reducible] def r_Bed_Sync.r4 : List MOp:=[⟨some 9,.mov (.s 0),none⟩,⟨some 10,.nilck (.s 9),none⟩,⟨some 11,.fld tBed 0 tImage (.s 10),none⟩,⟨some 12,.load false none tImage (.s 11),none⟩,⟨some 13,.mov (.s 0),none⟩,⟨some 14,.nilck (.s 13),none⟩,⟨some 15,.fld tBed 1 tImage (.s 14),none⟩,⟨some 16,.load false none tImage (.s 15),none⟩,⟨some 17,.eq false tImage (.s 12) (.s 16),none⟩]
@[reducible] def r_Bed_Sync.r5 : List MOp:=[⟨some 18,.mov (.s 3),none⟩,⟨some 2,.mov (.s 18),none⟩]
@[reducible] def r_Bed_Sync.r6 : List MOp:=[⟨some 4,.mov (.c (.int .i64 13)),none⟩]
@[reducible] def r_Bed_Sync.r7 : List MOp:=[⟨some 19,.mov (.s 4),none⟩,⟨some 20,.bin .geq (.s 19) (.c (.int .i64 0)),none⟩]
@[reducible] def r_Bed_Sync.r8 : List MOp:=[⟨some 21,.mov (.s 4),none⟩,⟨some 22,.bin .sub (.s 21) (.c (.int .i64 1)),none⟩,⟨some 4,.mov (.s 22),none⟩]
@[reducible] def r_Bed_Sync.r9 : List MOp:=[⟨some 23,.mov (.s 0),none⟩,⟨some 24,.mov (.s 4),none⟩,⟨some 25,.call false [] 213 [(.s 23),(.s 24)],none⟩]
@[reducible] def r_Bed_Sync.r10 : List MOp:=[⟨some 2,.mov (.c (.int .i64 8)),none⟩]
@[reducible] def r_Bed_Sync.body : MC:=(.seq (.reg false r_Bed_Sync.r0 [2]) (.seq (.seq (.reg false r_Bed_Sync.r1 []) (.block 0 (.loop [0,3] [] (.seq (.seq (.reg false r_Bed_Sync.r2 [5]) (.cond (.s 6) .skip (.exit 0))) (.seq (.block 1 (.seq (.seq (.reg true r_Bed_Sync.r4 [9,10,11,12,13,14,15,16]) (.cond (.s 17) (.seq (.reg false r_Bed_Sync.r5 [3,18]) .ret) .skip)) (.seq (.reg false r_Bed_Sync.r6 []) (.block 2 (.loop [0,3,4] [] (.seq (.seq (.reg false r_Bed_Sync.r7 [19]) (.cond (.s 20) .skip (.exit 2))) (.seq (.block 3 (.reg false r_Bed_Sync.r9 [23,24,25])) (.reg false r_Bed_Sync.r8 [21,22])))))))) (.reg false r_Bed_Sync.r3 [7,8])))))) (.seq (.reg false r_Bed_Sync.r10 []) .ret)))
@[reducible] def r_Bed_Sync : MFun:={ params:=1,nfree:=0,res:=[.tmp 2],body:=r_Bed_Sync.body }
@[reducible] def r_Bed_FreeInode.r0 : List MOp:=[⟨some 2,.mov (.c (.int .i64 0)),none⟩]
@[reducible] def r_Bed_FreeInode.r1 : List MOp:=[⟨some 3,.mov (.c (.int .i64 0)),none⟩]
@[reducible] def r_Bed_FreeInode.r2 : List MOp:=[⟨some 4,.mov (.s 3),none⟩,⟨some 5,.bin .lss (.s 4) (.c (.int .i64 8)),none⟩]
@[reducible] def r_Bed_FreeInode.r3 : List MOp:=[⟨some 6,.mov (.s 3),none⟩,⟨some 7,.bin .add (.s 6) (.c (.int .i64 1)),none⟩,⟨some 3,.mov (.s 7),none⟩]
@[reducible] def r_Bed_FreeInode.r4 : List MOp:=[⟨some 8,.mov (.s 0),none⟩,⟨some 9,.mov (.s 3),none⟩,⟨some 10,.nilck (.s 8),none⟩,⟨some 11,.fld tBed 0 tImage (.s 10),none⟩,⟨some 12,.fld tImage 0 tInodes (.s 11),none⟩,⟨some 13,.idx 8 tInode (.s 12) (.s 9),none⟩,⟨some 14,.fld tInode 0 tB (.s 13),none⟩,⟨some 15,.load false none tB (.s 14),none⟩,⟨some 16,.un .not (.s 15),none⟩,⟨some 17,.mov (.s 16),none⟩,⟨some 18,.mov (.s 0),some (17,true)⟩,⟨some 19,.nilck (.s 18),some (17,true)⟩,⟨some 20,.fld tBed 1 tImage (.s 19),some (17,true)⟩,⟨some 21,.mov (.s 3),some (17,true)⟩,⟨some 22,.call false [] 16 [(.s 20),(.s 21)],some (17,true)⟩,⟨some 23,.bin .eql (.s 22) (.c (.int .i64 0)),some (17,true)⟩,⟨some 24,.pick (.s 17) (.s 23) (.c (.bool false)),none⟩]
@[reducible] def r_Bed_FreeInode.r5 : List MOp:=[⟨some 25,.mov (.s 3),none⟩,⟨some 2,.mov (.s 25),none⟩]
@[reducible] def r_Bed_FreeInode.r6 : List MOp:=[⟨some 2,.mov (.c (.int .i64 (-1))),none⟩]
@[reducible] def r_Bed_FreeInode.body : MC:=(.seq (.reg false r_Bed_FreeInode.r0 [2]) (.seq (.seq (.reg false r_Bed_FreeInode.r1 []) (.block 0 (.loop [0,3] [] (.seq (.seq (.reg false r_Bed_FreeInode.r2 [4]) (.cond (.s 5) .skip (.exit 0))) (.seq (.block 1 (.seq (.reg false r_Bed_FreeInode.r4 [8,9,10,11,12,13,14,15,16,17,18,19,20,21,22,23]) (.cond (.s 24) (.seq (.reg false r_Bed_FreeInode.r5 [3,25]) .ret) .skip))) (.reg false r_Bed_FreeInode.r3 [6,7])))))) (.seq (.reg false r_Bed_FreeInode.r6 []) .ret)))
@[reducible] def r_Bed_FreeInode : MFun:={ params:=1,nfree:=0,res:=[.tmp 2],body:=r_Bed_FreeInode.body }
@[reducible] def r_Bed_FreeSlot.r0 : List MOp:=[⟨some 4,.mov (.c (.int .i64 0)),none⟩]
@[reducible] def r_Bed_FreeSlot.r1 : List MOp:=[⟨some 6,.mov (.s 1),none⟩,⟨some 7,.bin .lss (.s 6) (.c (.int .i64 0)),none⟩,⟨some 8,.mov (.s 7),none⟩,⟨some 9,.mov (.s 1),some (8,false)⟩,⟨some 10,.bin .geq (.s 9) (.c (.int .i64 3)),some (8,false)⟩,⟨some 11,.pick (.s 8) (.c (.bool true)) (.s 10),none⟩]
@[reducible] def r_Bed_FreeSlot.r2 : List MOp:=[⟨some 4,.mov (.c (.int .i64 (-1))),none⟩]
@[reducible] def r_Bed_FreeSlot.r3 : List MOp:=[⟨some 5,.mov (.c (.int .i64 0)),none⟩]
@[reducible] def r_Bed_FreeSlot.r4 : List MOp:=[⟨some 12,.mov (.s 5),none⟩,⟨some 13,.bin .lss (.s 12) (.c (.int .i64 4)),none⟩]
@[reducible] def r_Bed_FreeSlot.r5 : List MOp:=[⟨some 14,.mov (.s 5),none⟩,⟨some 15,.bin .add (.s 14) (.c (.int .i64 1)),none⟩,⟨some 5,.mov (.s 15),none⟩]
@[reducible] def r_Bed_FreeSlot.r6 : List MOp:=[⟨some 16,.mov (.s 0),none⟩,⟨some 17,.mov (.s 1),none⟩,⟨some 18,.mov (.s 5),none⟩,⟨some 19,.nilck (.s 16),none⟩,⟨some 20,.fld tBed 0 tImage (.s 19),none⟩,⟨some 21,.fld tImage 1 tDirs (.s 20),none⟩,⟨some 22,.idx 3 tRow (.s 21) (.s 17),none⟩,⟨some 23,.idx 4 tEntry (.s 22) (.s 18),none⟩,⟨some 24,.fld tEntry 0 tS (.s 23),none⟩,⟨some 25,.load false none tS (.s 24),none⟩,⟨some 26,.bin .eql (.s 25) (.c (.str ⟨#[]⟩)),none⟩,⟨some 27,.mov (.s 26),none⟩,⟨some 28,.mov (.s 0),some (27,true)⟩,⟨some 29,.mov (.s 1),some (27,true)⟩,⟨some 30,.mov (.s 5),some (27,true)⟩,⟨some 31,.nilck (.s 28),some (27,true)⟩,⟨some 32,.fld tBed 1 tImage (.s 31),some (27,true)⟩,⟨some 33,.fld tImage 1 tDirs (.s 32),some (27,true)⟩,⟨some 34,.idx 3 tRow (.s 33) (.s 29),some (27,true)⟩,⟨some 35,.idx 4 tEntry (.s 34) (.s 30),some (27,true)⟩,⟨some 36,.fld tEntry 0 tS (.s 35),some (27,true)⟩,⟨some 37,.load false none tS (.s 36),some (27,true)⟩,⟨some 38,.bin .eql (.s 37) (.c (.str ⟨#[]⟩)),some (27,true)⟩,⟨some 39,.pick (.s 27) (.s 38) (.c (.bool false)),none⟩]
@[reducible] def r_Bed_FreeSlot.r7 : List MOp:=[⟨some 40,.mov (.s 5),none⟩,⟨some 4,.mov (.s 40),none⟩]
@[reducible] def r_Bed_FreeSlot.r8 : List MOp:=[⟨some 4,.mov (.c (.int .i64 (-1))),none⟩]
@[reducible] def r_Bed_FreeSlot.body : MC:=(.seq (.reg false r_Bed_FreeSlot.r0 [4]) (.seq (.seq (.reg false r_Bed_FreeSlot.r1 [6,7,8,9,10]) (.cond (.s 11) (.seq (.reg false r_Bed_FreeSlot.r2 []) .ret) .skip)) (.seq (.seq (.reg false r_Bed_FreeSlot.r3 []) (.block 0 (.loop [0,1,5] [] (.seq (.seq (.reg false r_Bed_FreeSlot.r4 [12]) (.cond (.s 13) .skip (.exit 0))) (.seq (.block 1 (.seq (.reg false r_Bed_FreeSlot.r6 [16,17,18,19,20,21,22,23,24,25,26,27,28,29,30,31,32,33,34,35,36,37,38]) (.cond (.s 39) (.seq (.reg false r_Bed_FreeSlot.r7 [5,40]) .ret) .skip))) (.reg false r_Bed_FreeSlot.r5 [14,15])))))) (.seq (.reg false r_Bed_FreeSlot.r8 []) .ret))))
@[reducible] def r_Bed_FreeSlot : MFun:={ params:=2,nfree:=0,res:=[.tmp 4],body:=r_Bed_FreeSlot.body }
@[reducible] def r_Bed_FreeData.r0 : List MOp:=[⟨some 2,.mov (.c (.int .i64 0)),none⟩]
@[reducible] def r_Bed_FreeData.r1 : List MOp:=[⟨some 3,.mov (.c (.int .i64 0)),none⟩]
@[reducible] def r_Bed_FreeData.r2 : List MOp:=[⟨some 4,.mov (.s 3),none⟩,⟨some 5,.bin .lss (.s 4) (.c (.int .i64 9)),none⟩]
@[reducible] def r_Bed_FreeData.r3 : List MOp:=[⟨some 6,.mov (.s 3),none⟩,⟨some 7,.bin .add (.s 6) (.c (.int .i64 1)),none⟩,⟨some 3,.mov (.s 7),none⟩]
@[reducible] def r_Bed_FreeData.r4 : List MOp:=[⟨some 8,.mov (.s 0),none⟩,⟨some 9,.nilck (.s 8),none⟩,⟨some 10,.fld tBed 0 tImage (.s 9),none⟩,⟨some 11,.mov (.s 3),none⟩,⟨some 12,.call false [] 18 [(.s 10),(.s 11)],none⟩,⟨some 13,.un .not (.s 12),none⟩,⟨some 14,.mov (.s 13),none⟩,⟨some 15,.mov (.s 0),some (14,true)⟩,⟨some 16,.nilck (.s 15),some (14,true)⟩,⟨some 17,.fld tBed 1 tImage (.s 16),some (14,true)⟩,⟨some 18,.mov (.s 3),some (14,true)⟩,⟨some 19,.call false [] 18 [(.s 17),(.s 18)],some (14,true)⟩,⟨some 20,.un .not (.s 19),some (14,true)⟩,⟨some 21,.pick (.s 14) (.s 20) (.c (.bool false)),none⟩]
@[reducible] def r_Bed_FreeData.r5 : List MOp:=[⟨some 22,.mov (.s 3),none⟩,⟨some 2,.mov (.s 22),none⟩]
@[reducible] def r_Bed_FreeData.r6 : List MOp:=[⟨some 2,.mov (.c (.int .i64 (-1))),none⟩]
@[reducible] def r_Bed_FreeData.body : MC:=(.seq (.reg false r_Bed_FreeData.r0 [2]) (.seq (.seq (.reg false r_Bed_FreeData.r1 []) (.block 0 (.loop [0,3] [] (.seq (.seq (.reg false r_Bed_FreeData.r2 [4]) (.cond (.s 5) .skip (.exit 0))) (.seq (.block 1 (.seq (.reg false r_Bed_FreeData.r4 [8,9,10,11,12,13,14,15,16,17,18,19,20]) (.cond (.s 21) (.seq (.reg false r_Bed_FreeData.r5 [3,22]) .ret) .skip))) (.reg false r_Bed_FreeData.r3 [6,7])))))) (.seq (.reg false r_Bed_FreeData.r6 []) .ret)))
@[reducible] def r_Bed_FreeData : MFun:={ params:=1,nfree:=0,res:=[.tmp 2],body:=r_Bed_FreeData.body }
@[reducible] def r_Bed_Write.r0 : List MOp:=[⟨some 4,.mov (.c (.bool false)),none⟩]
@[reducible] def r_Bed_Write.r1 : List MOp:=[⟨some 8,.mov (.s 0),none⟩,⟨some 9,.nilck (.s 8),none⟩,⟨some 10,.fld tBed 0 tImage (.s 9),none⟩,⟨some 11,.mov (.s 0),none⟩,⟨some 12,.nilck (.s 11),none⟩,⟨some 13,.fld tBed 1 tImage (.s 12),none⟩,⟨some 14,.mov (.s 1),none⟩,⟨some 15,.call false [5] 8 [(.s 10),(.s 13),(.s 14)],none⟩,⟨some 7,.mov (.s 15),none⟩,⟨some 16,.ext (.s 7) 0,none⟩,⟨some 17,.ext (.s 7) 1,none⟩,⟨some 5,.alloc false tImage,none⟩,⟨none,.store tImage [] (.s 5) (.s 16),none⟩,⟨some 6,.mov (.s 17),none⟩]
@[reducible] def r_Bed_Write.r2 : List MOp:=[⟨some 18,.mov (.s 0),none⟩,⟨some 19,.load false none tImage (.s 5),none⟩,⟨some 20,.nilck (.s 18),none⟩,⟨some 21,.fld tBed 1 tImage (.s 20),none⟩,⟨none,.store tImage [] (.s 21) (.s 19),none⟩]
@[reducible] def r_Bed_Write.r3 : List MOp:=[⟨some 22,.mov (.s 6),none⟩,⟨some 4,.mov (.s 22),none⟩]
@[reducible] def r_Bed_Write.body : MC:=(.seq (.reg false r_Bed_Write.r0 [4]) (.seq (.reg true r_Bed_Write.r1 [1,7,8,9,10,11,12,13,14,15,16,17]) (.seq (.reg false r_Bed_Write.r2 [0,5,18,19,20,21]) (.seq (.reg false r_Bed_Write.r3 [6,22]) .ret))))
@[reducible] def r_Bed_Write : MFun:={ params:=2,nfree:=0,res:=[.tmp 4],body:=r_Bed_Write.body }
end Fn
def tblDL0 : List (Option MFun):=[none,none,some Fn.r_Bed_Sync,none,none,none,some Fn.r_Bed_FreeInode,none,some Fn.r_Bed_FreeSlot,none,some Fn.r_Bed_FreeData,none,none,some Fn.r_Bed_Write,none,none,none,none,none,none,none,none,none,none,none,none,none,none,none,none,none,none,none,none,none,none,none,none,none,none,none,none,none,none,none,none,none,none,none,none,none,none,none,none,none,none,none,none,none,none,none,none,none,none,none]
end Go.Mini
