/- A part of the proof: what Id computes, step by step. -/
import Derived.Test.YtpkndgkaecamlabIdPe

set_option linter.unusedSimpArgs false
set_option linter.unusedVariables false
set_option maxHeartbeats 4000000
set_option maxRecDepth 100000
namespace Go.Mini
theorem W_whileB {T : Nat → Option MFun} {cx : Cx} {α β : Type} {keep ko : List Nat} {b : MC} {id : Nat} {k : List Item} {s : St} {Q : St → Prop} (N : Nat) (S : α → St) (P : Nat → α → Prop) (SE : β → St) (PE : β → Prop) (a0 : α) (h0 : s.keep keep ko = S a0) (p0 : P 0 a0)
  (step : ∀ (k : List Item) (Q : St → Prop),(∀ a,PE a → W T cx k (SE a) Q) → ∀ j a,j ≤ N → P j a → (∀ s' a',j < N → s'.keep keep ko = S a' → P (j + 1) a' → W T cx (.inLoop keep ko b :: .inBlock id :: k) s' Q) → W T cx (.code b :: .inLoop keep ko b :: .inBlock id :: k) (S a) Q)
  (hx : ∀ a,PE a → W T cx k (SE a) Q) : W T cx (.code (.loop keep ko b) :: .inBlock id :: k) s Q :=
 W_forE N (fun _ a=>S a) P a0 h0 p0 fun j a hj hp ih=>step k Q hx j a hj hp ih
def LowB (m : List Str) (a b : Nat) : Prop:=0 < a → ∀ x,a ≤ x → x < b → sLe (txt m (a - 1)) (txt m x) = true
theorem LowB.perm {l m : List Str} {a b : Nat} (h : LowB l a b) (hp : PermIn l m a b) (hab : a ≤ b) (hb : b ≤ l.length) : LowB m a b:=fun h0 x h1 h2=>by
 obtain ⟨j,j1,j2,e⟩:=hp.mid hab hb h1 h2
 rw [e,hp.out (a - 1) (.inl (by omega))]
 exact h h0 j j1 j2
theorem SortedIn.more {m : List Str} {a i : Nat} (h : SortedIn m a i) (hi : a + 1 ≤ i) (hle : sLt (txt m i) (txt m (i - 1)) = false) : SortedIn m a (i + 1):=fun x y h1 h2 h3=>by
 have e0 : sLe (txt m (i - 1)) (txt m i) = true:=by simp [sLe,hle]
 by_cases e : y = i
 ·subst e
  by_cases e2 : x = y - 1
  ·subst e2; exact e0
  ·exact sLe_trans (h x (y - 1) h1 (by omega) (by omega)) e0
 ·exact h x y h1 h2 (by omega)
theorem SortedIn.of {l m : List Str} {a i c d : Nat} (h : SortedIn l a i) (hp : PermIn l m c d) (hd : i ≤ c ∨ d ≤ a) : SortedIn m a i:=fun x y h1 h2 h3=>by
 rw [hp.out x (by omega),hp.out y (by omega)]
 exact h x y h1 h2 h3
section
variable {cx : Cx} {h : HP} {F q n a b : Nat} {l : List Str}
theorem partialIns_ok (hl : ∀ n,cx.prot.lets (.obj n) = true) (hF : IsCmp F) (hn : l.length = n) (hn2 : n ≤ 1000000) (hb : b ≤ n) (hab : a + 1 < b) (hlow : LowB l a b) (hq : h.look (.obj q) = some ⟨.arr n tS,encS l⟩) :
  Ok tblE cx Fn.slices_partialInsertionSortCmpFunc (St.enter [.sl (.obj q) 0 n,.int .i64 a,.int .i64 b,.func F .unit] h) fun v h' =>
   ∃ (t : Bool) (m : List Str),v = .bool t ∧ h' = h.ob q (.arr n tS) (encS m) ∧ PermIn l m a b ∧ (t = true → SortedIn m a b):=by
 obtain ⟨fn,hf1,hf2,hf3⟩:=hF
 have h0 : h.ob q (.arr n tS) (encS l) = h:=ob_self hq
 rw [Ok_eq]
 simp (maxSteps:=999999) (disch:=omega) only [go_sem]
 refine W_forE (α:=List Str × Nat) 5 (fun k m=>⟨[(0,.sl (.obj q) 0 n),(1,.int .i64 a),(2,.int .i64 b),(3,.func F .unit),(9,.int .i64 m.2),(10,.int .i64 k)],[],h.ob q (.arr n tS) (encS m.1)⟩) (fun k m=>PermIn l m.1 a b ∧ SortedIn m.1 a m.2 ∧ a + 1 ≤ m.2 ∧ m.2 ≤ b) (l,a + 1) (by simp only [go_sem,h0] <;> rfl) ⟨PermIn.refl _ _ _,fun x y h1 h2 h3=>by dsimp only at h3; omega,by dsimp only; omega,by dsimp only; omega⟩ fun k m hk hp ih=>?_
 obtain ⟨m,i0⟩:=m
 obtain ⟨hp,hs,hi1,hi2⟩:=hp
 dsimp only at hp hs hi1 hi2 ih ⊢
 by_cases hk5 : k < 5
 rotate_left
 ·obtain rfl : k = 5:=by omega
  simp (maxSteps:=999999) (disch:=omega) only [go_sem]
  exact ⟨false,m,rfl,rfl,hp,by simp⟩
 simp (maxSteps:=999999) (disch:=omega) only [go_sem,hk5]
 have hm:=hp.len
 refine W_whileE (α:=Nat) (n + 1) (fun i=>⟨[(0,.sl (.obj q) 0 n),(1,.int .i64 a),(2,.int .i64 b),(3,.func F .unit),(9,.int .i64 i),(10,.int .i64 k)],[],h.ob q (.arr n tS) (encS m)⟩) (fun k' i=>SortedIn m a i ∧ i0 + k' ≤ i ∧ i ≤ b)
  (fun i=>⟨[(0,.sl (.obj q) 0 n),(1,.int .i64 a),(2,.int .i64 b),(3,.func F .unit),(9,.int .i64 i),(10,.int .i64 k),(36,.bool false)],[],h.ob q (.arr n tS) (encS m)⟩) (fun i=>SortedIn m a i ∧ a + 1 ≤ i ∧ i ≤ b ∧ (i < b → sLt (txt m i) (txt m (i - 1)) = true)) i0 (by simp only [go_sem] <;> rfl) ⟨hs,by omega,hi2⟩ (fun kk QQ hx k' i hk' hp' ih2=>?_) ?_
 ·obtain ⟨hs,hki,hib⟩:=hp'
  by_cases c1 : i < b
  ·obtain ⟨p,rfl⟩ : ∃ p,i = p + 1:=⟨i - 1,by omega⟩
   have e2 : ((p : Int) + 1 - 1) = (p : Int):=by omega
   simp (maxSteps:=999999) (disch:=first | omega | (simp only [List.length_set]; omega)) only [go_sem,c1,e2]
   refine W_callvp (v:=.int .i64 (cmpS (txt m (p + 1)) (txt m p))) (by simp only [go_sem] <;> rfl) hf1 hf2 (by simp only [go_sem]; exact hf3 _ _ _ _) ?_
   simp (maxSteps:=999999) (disch:=first | omega | (simp only [List.length_set]; omega)) only [go_sem]
   cases c : sLt (txt m (p + 1)) (txt m p) with
   | true =>
    have c' : cmpS (txt m (p + 1)) (txt m p) < 0:=(cmpS_lt _ _).2 c
    simp (maxSteps:=999999) (disch:=first | omega | (simp only [List.length_set]; omega)) only [go_sem,c']
    exact hx (p + 1) ⟨hs,by omega,hib,fun _=>c⟩
   | false =>
    have c' : ¬cmpS (txt m (p + 1)) (txt m p) < 0:=fun e=>by rw [cmpS_lt,c] at e; simp at e
    simp (maxSteps:=999999) (disch:=first | omega | (simp only [List.length_set]; omega)) only [go_sem,c']
    exact ih2 _ (p + 1 + 1) (by omega) (by simp only [go_sem]) ⟨hs.more (by omega) c,by omega,by omega⟩
  ·simp (maxSteps:=999999) (disch:=first | omega | (simp only [List.length_set]; omega)) only [go_sem,c1]
   exact hx i ⟨hs,by omega,hib,fun e=>absurd e c1⟩
 rintro i ⟨hs,hi1,hi2,hlt⟩
 by_cases c2 : i = b
 ·subst c2
  simp (maxSteps:=999999) (disch:=omega) only [go_sem]
  exact ⟨true,m,rfl,rfl,hp,fun _=>hs⟩
 simp (maxSteps:=999999) (disch:=omega) only [go_sem,c2]
 by_cases c3 : (b : Int) - a < 50
 ·simp (maxSteps:=999999) (disch:=omega) only [go_sem,c3]
  exact ⟨false,m,rfl,rfl,hp,by simp⟩
 have hlt:=hlt (by omega)
 obtain ⟨p,rfl⟩ : ∃ p,i = p + 1:=⟨i - 1,by omega⟩
 have e2 : ((p : Int) + 1 - 1) = (p : Int):=by omega
 simp (maxSteps:=999999) (disch:=first | omega | (simp only [List.length_set]; omega)) only [go_sem,c3,e2,stV_ob (hl _)]
 rw [show (m.set (p + 1) (txt m p)).set p (txt m (p + 1)) = swapL m (p + 1) p from rfl]
 have hp0 : PermIn l (swapL m (p + 1) p) a b:=hp.trans (PermIn.swap (by omega) (by omega) (by omega) (by omega))
 have hs0 : SortedIn (swapL m (p + 1) p) a p:=SortedIn.of (l:=m) (fun x y h1 h2 h3=>hs x y h1 h2 (by omega)) (PermIn.swap (a:=p) (b:=p + 2) (by omega) (by omega) (by omega) (by omega)) (by omega)
 generalize swapL m (p + 1) p = m0 at hp0 hs0 ⊢
 by_cases d1 : (2 : Int) ≤ (p : Int) + 1 - a
 ·simp (maxSteps:=999999) (disch:=omega) only [go_sem,d1]
  refine W_whileB (α:=List Str × Nat) (β:=List Str × Nat × Bool) (n + 1) (fun m=>⟨[(0,.sl (.obj q) 0 n),(1,.int .i64 a),(2,.int .i64 b),(3,.func F .unit),(9,.int .i64 ((p + 1 : Nat) : Int)),(10,.int .i64 k),(11,.int .i64 m.2)],[],h.ob q (.arr n tS) (encS m.1)⟩) (fun k' m=>PermIn l m.1 a b ∧ SinkIn m.1 a p m.2 ∧ a ≤ m.2 ∧ m.2 + k' ≤ p)
   (fun m=>⟨[(0,.sl (.obj q) 0 n),(1,.int .i64 a),(2,.int .i64 b),(3,.func F .unit),(9,.int .i64 ((p + 1 : Nat) : Int)),(10,.int .i64 k),(11,.int .i64 m.2.1)] ++ (if m.2.2 = true then [(69,.bool true),(84,.bool true)] else [(69,.bool false)]),[],h.ob q (.arr n tS) (encS m.1)⟩) (fun m=>PermIn l m.1 a b ∧ SortedIn m.1 a (p + 1)) (m0,p) (by simp only [go_sem,e2] <;> rfl) ⟨hp0,SinkIn.start hs0,by dsimp only; omega,by dsimp only; omega⟩ (fun kk QQ hx k' m hk' hp' ih2=>?_) ?_
  ·obtain ⟨m,j⟩:=m
   obtain ⟨hp1,hs1,hj1,hj2⟩:=hp'
   dsimp only at hp1 hs1 hj1 hj2 ih2 ⊢
   have hm1:=hp1.len
   by_cases d2 : j = 0
   ·subst d2
    simp (maxSteps:=999999) (disch:=first | omega | (simp only [List.length_set]; omega)) only [go_sem]
    refine hx (m,0,false) ⟨hp1,?_⟩
    have : a = 0:=by omega
    subst this
    exact hs1.low
   obtain ⟨y,rfl⟩ : ∃ y,j = y + 1:=⟨j - 1,by omega⟩
   have e3 : ((y : Int) + 1 - 1) = (y : Int):=by omega
   simp (maxSteps:=999999) (disch:=first | omega | (simp only [List.length_set]; omega)) only [go_sem,e3]
   refine W_callvp (v:=.int .i64 (cmpS (txt m (y + 1)) (txt m y))) (by simp only [go_sem] <;> rfl) hf1 hf2 (by simp only [go_sem]; exact hf3 _ _ _ _) ?_
   simp (maxSteps:=999999) (disch:=first | omega | (simp only [List.length_set]; omega)) only [go_sem]
   cases c : sLt (txt m (y + 1)) (txt m y) with
   | true =>
    have c' : cmpS (txt m (y + 1)) (txt m y) < 0:=(cmpS_lt _ _).2 c
    have hya : a ≤ y:=by
     by_cases q1 : a ≤ y
     ·exact q1
     ·have ea : a = y + 1:=by omega
      have:=(hlow.perm hp1 (by omega) (by omega)) (by omega) a (Nat.le_refl _) (by omega)
      rw [ea] at this
      simp only [Nat.add_sub_cancel] at this
      simp [sLe,c] at this
    simp (maxSteps:=999999) (disch:=first | omega | (simp only [List.length_set]; omega)) only [go_sem,c',e3,stV_ob (hl _)]
    refine ih2 _ (swapL m (y + 1) y,y) (by omega) ?_ ⟨hp1.trans (PermIn.swap (by omega) (by omega) (by omega) (by omega)),hs1.step hya (by omega) (by omega) c,hya,by dsimp only; omega⟩
    simp only [go_sem,swapL]
   | false =>
    have c' : ¬cmpS (txt m (y + 1)) (txt m y) < 0:=fun e=>by rw [cmpS_lt,c] at e; simp at e
    simp (maxSteps:=999999) (disch:=first | omega | (simp only [List.length_set]; omega)) only [go_sem,c']
    refine hx (m,y + 1,true) ⟨hp1,?_⟩
    by_cases q1 : a ≤ y
    ·exact hs1.rest q1 c
    ·have ea : a = y + 1:=by omega
     rw [← ea] at hs1
     exact hs1.low
  ·rintro ⟨m1,j,t⟩ ⟨hp1,hs1⟩
   dsimp only at hp1 hs1 ⊢
   cases t with
   | true =>
    simp only [if_true,List.cons_append,List.nil_append]
    simp (maxSteps:=999999) (disch:=omega) only [go_sem]
    have hm1:=hp1.len
    by_cases d2 : (2 : Int) ≤ (b : Int) - (p + 1)
    ·simp (maxSteps:=999999) (disch:=omega) only [go_sem,d2]
     refine W_forE (α:=List Str × Nat) (n + 1) (fun k' m=>⟨[(0,.sl (.obj q) 0 n),(1,.int .i64 a),(2,.int .i64 b),(3,.func F .unit),(9,.int .i64 ((p + 1 : Nat) : Int)),(10,.int .i64 k),(12,.int .i64 ((m.2 + 1 : Nat) : Int))],[],h.ob q (.arr n tS) (encS m.1)⟩) (fun k' m=>PermIn l m.1 a b ∧ SortedIn m.1 a (p + 1) ∧ p + 1 + k' ≤ m.2 ∧ m.2 + 1 ≤ b) (m1,p + 1) (by simp only [go_sem,Int.add_assoc] <;> rfl) ⟨hp1,hs1,by dsimp only; omega,by dsimp only; omega⟩ fun k' m hk' hp' ih2=>?_
     obtain ⟨m,j⟩:=m
     obtain ⟨hp2,hs2,hj1,hj2⟩:=hp'
     dsimp only at hp2 hs2 hj1 hj2 ih2 ⊢
     have hm2:=hp2.len
     have e3 : ((j : Int) + 1 - 1) = (j : Int):=by omega
     by_cases d3 : j + 1 < b
     ·simp (maxSteps:=999999) (disch:=first | omega | (simp only [List.length_set]; omega)) only [go_sem,d3,e3]
      refine W_callvp (v:=.int .i64 (cmpS (txt m (j + 1)) (txt m j))) (by simp only [go_sem] <;> rfl) hf1 hf2 (by simp only [go_sem]; exact hf3 _ _ _ _) ?_
      simp (maxSteps:=999999) (disch:=first | omega | (simp only [List.length_set]; omega)) only [go_sem]
      cases c : sLt (txt m (j + 1)) (txt m j) with
      | true =>
       have c' : cmpS (txt m (j + 1)) (txt m j) < 0:=(cmpS_lt _ _).2 c
       simp (maxSteps:=999999) (disch:=first | omega | (simp only [List.length_set]; omega)) only [go_sem,c',e3,stV_ob (hl _)]
       refine ih2 _ (swapL m (j + 1) j,j + 1) (by omega) ?_ ⟨hp2.trans (PermIn.swap (by omega) (by omega) (by omega) (by omega)),hs2.of (PermIn.swap (a:=j) (b:=j + 2) (by omega) (by omega) (by omega) (by omega)) (by omega),by dsimp only; omega,by dsimp only; omega⟩
       simp only [go_sem,swapL]
      | false =>
       have c' : ¬cmpS (txt m (j + 1)) (txt m j) < 0:=fun e=>by rw [cmpS_lt,c] at e; simp at e
       simp (maxSteps:=999999) (disch:=first | omega | (simp only [List.length_set]; omega)) only [go_sem,c']
       refine ih _ (m,p + 1) (by omega) ?_ ⟨hp2,hs2,by dsimp only; omega,by dsimp only; omega⟩
       simp only [go_sem]
     ·simp (maxSteps:=999999) (disch:=first | omega | (simp only [List.length_set]; omega)) only [go_sem,d3]
      refine ih _ (m,p + 1) (by omega) ?_ ⟨hp2,hs2,by dsimp only; omega,by dsimp only; omega⟩
      simp only [go_sem]
    ·simp (maxSteps:=999999) (disch:=omega) only [go_sem,d2]
     refine ih _ (m1,p + 1) (by omega) ?_ ⟨hp1,hs1,by dsimp only; omega,by dsimp only; omega⟩
     simp only [go_sem]
   | false =>
    simp only [Bool.false_eq_true,if_false,List.cons_append,List.nil_append]
    simp (maxSteps:=999999) (disch:=omega) only [go_sem]
    have hm1:=hp1.len
    by_cases d2 : (2 : Int) ≤ (b : Int) - (p + 1)
    ·simp (maxSteps:=999999) (disch:=omega) only [go_sem,d2]
     refine W_forE (α:=List Str × Nat) (n + 1) (fun k' m=>⟨[(0,.sl (.obj q) 0 n),(1,.int .i64 a),(2,.int .i64 b),(3,.func F .unit),(9,.int .i64 ((p + 1 : Nat) : Int)),(10,.int .i64 k),(12,.int .i64 ((m.2 + 1 : Nat) : Int))],[],h.ob q (.arr n tS) (encS m.1)⟩) (fun k' m=>PermIn l m.1 a b ∧ SortedIn m.1 a (p + 1) ∧ p + 1 + k' ≤ m.2 ∧ m.2 + 1 ≤ b) (m1,p + 1) (by simp only [go_sem,Int.add_assoc] <;> rfl) ⟨hp1,hs1,by dsimp only; omega,by dsimp only; omega⟩ fun k' m hk' hp' ih2=>?_
     obtain ⟨m,j⟩:=m
     obtain ⟨hp2,hs2,hj1,hj2⟩:=hp'
     dsimp only at hp2 hs2 hj1 hj2 ih2 ⊢
     have hm2:=hp2.len
     have e3 : ((j : Int) + 1 - 1) = (j : Int):=by omega
     by_cases d3 : j + 1 < b
     ·simp (maxSteps:=999999) (disch:=first | omega | (simp only [List.length_set]; omega)) only [go_sem,d3,e3]
      refine W_callvp (v:=.int .i64 (cmpS (txt m (j + 1)) (txt m j))) (by simp only [go_sem] <;> rfl) hf1 hf2 (by simp only [go_sem]; exact hf3 _ _ _ _) ?_
      simp (maxSteps:=999999) (disch:=first | omega | (simp only [List.length_set]; omega)) only [go_sem]
      cases c : sLt (txt m (j + 1)) (txt m j) with
      | true =>
       have c' : cmpS (txt m (j + 1)) (txt m j) < 0:=(cmpS_lt _ _).2 c
       simp (maxSteps:=999999) (disch:=first | omega | (simp only [List.length_set]; omega)) only [go_sem,c',e3,stV_ob (hl _)]
       refine ih2 _ (swapL m (j + 1) j,j + 1) (by omega) ?_ ⟨hp2.trans (PermIn.swap (by omega) (by omega) (by omega) (by omega)),hs2.of (PermIn.swap (a:=j) (b:=j + 2) (by omega) (by omega) (by omega) (by omega)) (by omega),by dsimp only; omega,by dsimp only; omega⟩
       simp only [go_sem,swapL]
      | false =>
       have c' : ¬cmpS (txt m (j + 1)) (txt m j) < 0:=fun e=>by rw [cmpS_lt,c] at e; simp at e
       simp (maxSteps:=999999) (disch:=first | omega | (simp only [List.length_set]; omega)) only [go_sem,c']
       refine ih _ (m,p + 1) (by omega) ?_ ⟨hp2,hs2,by dsimp only; omega,by dsimp only; omega⟩
       simp only [go_sem]
     ·simp (maxSteps:=999999) (disch:=first | omega | (simp only [List.length_set]; omega)) only [go_sem,d3]
      refine ih _ (m,p + 1) (by omega) ?_ ⟨hp2,hs2,by dsimp only; omega,by dsimp only; omega⟩
      simp only [go_sem]
    ·simp (maxSteps:=999999) (disch:=omega) only [go_sem,d2]
     refine ih _ (m1,p + 1) (by omega) ?_ ⟨hp1,hs1,by dsimp only; omega,by dsimp only; omega⟩
     simp only [go_sem]
 ·simp (maxSteps:=999999) (disch:=omega) only [go_sem,d1]
  have hp1:=hp0
  have hs1 : SortedIn m0 a (p + 1):=fun x y h1 h2 h3=>by omega
  generalize m0 = m1 at hp1 hs1 ⊢
  have hm1:=hp1.len
  by_cases d2 : (2 : Int) ≤ (b : Int) - (p + 1)
  ·refine W_forE (α:=List Str × Nat) (n + 1) (fun k' m=>⟨[(0,.sl (.obj q) 0 n),(1,.int .i64 a),(2,.int .i64 b),(3,.func F .unit),(9,.int .i64 ((p + 1 : Nat) : Int)),(10,.int .i64 k),(12,.int .i64 ((m.2 + 1 : Nat) : Int))],[],h.ob q (.arr n tS) (encS m.1)⟩) (fun k' m=>PermIn l m.1 a b ∧ SortedIn m.1 a (p + 1) ∧ p + 1 + k' ≤ m.2 ∧ m.2 + 1 ≤ b) (m1,p + 1) (by simp only [go_sem,Int.add_assoc] <;> rfl) ⟨hp1,hs1,by dsimp only; omega,by dsimp only; omega⟩ fun k' m hk' hp' ih2=>?_
   obtain ⟨m,j⟩:=m
   obtain ⟨hp2,hs2,hj1,hj2⟩:=hp'
   dsimp only at hp2 hs2 hj1 hj2 ih2 ⊢
   have hm2:=hp2.len
   have e3 : ((j : Int) + 1 - 1) = (j : Int):=by omega
   by_cases d3 : j + 1 < b
   ·simp (maxSteps:=999999) (disch:=first | omega | (simp only [List.length_set]; omega)) only [go_sem,d3,e3]
    refine W_callvp (v:=.int .i64 (cmpS (txt m (j + 1)) (txt m j))) (by simp only [go_sem] <;> rfl) hf1 hf2 (by simp only [go_sem]; exact hf3 _ _ _ _) ?_
    simp (maxSteps:=999999) (disch:=first | omega | (simp only [List.length_set]; omega)) only [go_sem]
    cases c : sLt (txt m (j + 1)) (txt m j) with
    | true =>
     have c' : cmpS (txt m (j + 1)) (txt m j) < 0:=(cmpS_lt _ _).2 c
     simp (maxSteps:=999999) (disch:=first | omega | (simp only [List.length_set]; omega)) only [go_sem,c',e3,stV_ob (hl _)]
     refine ih2 _ (swapL m (j + 1) j,j + 1) (by omega) ?_ ⟨hp2.trans (PermIn.swap (by omega) (by omega) (by omega) (by omega)),hs2.of (PermIn.swap (a:=j) (b:=j + 2) (by omega) (by omega) (by omega) (by omega)) (by omega),by dsimp only; omega,by dsimp only; omega⟩
     simp only [go_sem,swapL]
    | false =>
     have c' : ¬cmpS (txt m (j + 1)) (txt m j) < 0:=fun e=>by rw [cmpS_lt,c] at e; simp at e
     simp (maxSteps:=999999) (disch:=first | omega | (simp only [List.length_set]; omega)) only [go_sem,c']
     refine ih _ (m,p + 1) (by omega) ?_ ⟨hp2,hs2,by dsimp only; omega,by dsimp only; omega⟩
     simp only [go_sem]
   ·simp (maxSteps:=999999) (disch:=first | omega | (simp only [List.length_set]; omega)) only [go_sem,d3]
    refine ih _ (m,p + 1) (by omega) ?_ ⟨hp2,hs2,by dsimp only; omega,by dsimp only; omega⟩
    simp only [go_sem]
  ·exact absurd (by omega) d2
end
def HeapAt (m : List Str) (a lo hi : Nat) : Prop:=∀ c,1 ≤ c → c < hi → lo ≤ (c - 1) / 2 → sLe (txt m (a + c)) (txt m (a + (c - 1) / 2)) = true
structure SiftIn (m : List Str) (a lo hi r : Nat) : Prop where
 ge : lo ≤ r
 up : ¬r = lo → lo ≤ (r - 1) / 2
 oth : ∀ c,1 ≤ c → c < hi → lo ≤ (c - 1) / 2 → ¬(c - 1) / 2 = r → sLe (txt m (a + c)) (txt m (a + (c - 1) / 2)) = true
 gra : ¬r = lo → ∀ c,1 ≤ c → c < hi → (c - 1) / 2 = r → sLe (txt m (a + c)) (txt m (a + (r - 1) / 2)) = true
theorem SiftIn.start {m : List Str} {a lo hi : Nat} (h : HeapAt m a (lo + 1) hi) : SiftIn m a lo hi lo :=
 ⟨Nat.le_refl _,fun e=>absurd rfl e,fun c h1 h2 h3 h4=>h c h1 h2 (by omega),fun e=>absurd rfl e⟩
theorem SiftIn.stop {m : List Str} {a lo hi r : Nat} (h : SiftIn m a lo hi r) (hc : hi ≤ 2 * r + 1) : HeapAt m a lo hi :=
 fun c h1 h2 h3=>h.oth c h1 h2 h3 (by omega)
structure MaxCh (m : List Str) (a hi r ch : Nat) : Prop where
 two : ch = 2 * r + 1 ∨ ch = 2 * r + 2
 lt : ch < hi
 l1 : sLe (txt m (a + (2 * r + 1))) (txt m (a + ch)) = true
 l2 : 2 * r + 2 < hi → sLe (txt m (a + (2 * r + 2))) (txt m (a + ch)) = true
theorem MaxCh.all {m : List Str} {a hi r ch c : Nat} (h : MaxCh m a hi r ch) (h1 : 1 ≤ c) (h2 : c < hi) (hp : (c - 1) / 2 = r) : sLe (txt m (a + c)) (txt m (a + ch)) = true:=by
 have : c = 2 * r + 1 ∨ c = 2 * r + 2:=by omega
 rcases this with rfl | rfl
 ·exact h.l1
 ·exact h.l2 h2
theorem SiftIn.rest {m : List Str} {a lo hi r ch : Nat} (h : SiftIn m a lo hi r) (hm : MaxCh m a hi r ch) (hle : sLt (txt m (a + r)) (txt m (a + ch)) = false) : HeapAt m a lo hi:=fun c h1 h2 h3=>by
 by_cases e : (c - 1) / 2 = r
 ·rw [e]
  exact sLe_trans (hm.all h1 h2 e) (by simp [sLe,hle])
 ·exact h.oth c h1 h2 h3 e
theorem SiftIn.step {m : List Str} {a lo hi r ch : Nat} (h : SiftIn m a lo hi r) (hm : MaxCh m a hi r ch) (hlen : a + hi ≤ m.length) (hlt : sLt (txt m (a + r)) (txt m (a + ch)) = true) : SiftIn (swapL m (a + r) (a + ch)) a lo hi ch:=by
 have hch:=hm.lt
 have h2:=hm.two
 have hr : r < ch:=by omega
 have hp : (ch - 1) / 2 = r:=by omega
 have ts:=txt_swap (l:=m) (i:=a + r) (j:=a + ch) (by omega) (by omega)
 have tr : txt (swapL m (a + r) (a + ch)) (a + r) = txt m (a + ch):=by rw [ts,if_neg (by omega),if_pos rfl]
 have tc : txt (swapL m (a + r) (a + ch)) (a + ch) = txt m (a + r):=by rw [ts,if_pos rfl]
 have to : ∀ x,¬x = r → ¬x = ch → txt (swapL m (a + r) (a + ch)) (a + x) = txt m (a + x):=fun x h1 h2=>by rw [ts,if_neg (by omega),if_neg (by omega)]
 have hge:=h.ge
 refine ⟨by omega,fun _=>by omega,fun c c1 c2 c3 c4=>?_,fun _ c c1 c2 c3=>?_⟩
 ·by_cases e : (c - 1) / 2 = r
  ·rw [e,tr]
   by_cases e2 : c = ch
   ·rw [e2,tc]; exact sLe_of_lt hlt
   ·rw [to c (by omega) e2]; exact hm.all c1 c2 e
  ·have e2 : ¬c = ch:=fun e2=>e (by rw [e2]; exact hp)
   rw [to _ e c4]
   by_cases e3 : c = r
   ·subst e3
    rw [tr]
    exact h.gra (by omega) ch (by omega) hch hp
   ·rw [to c e3 e2]
    exact h.oth c c1 c2 c3 e
 ·rw [hp,tr,to c (by omega) (by omega)]
  have:=h.oth c c1 c2 (by omega) (by omega)
  rw [c3] at this; exact this
theorem HeapAt.top {m : List Str} {a hi : Nat} (h : HeapAt m a 0 hi) : ∀ n c,c ≤ n → c < hi → sLe (txt m (a + c)) (txt m a) = true:=by
 intro n
 induction n with
 | zero =>
  intro c h1 h2
  obtain rfl : c = 0:=by omega
  exact sLe_refl _
 | succ n ih =>
  intro c h1 h2
  by_cases e : c = 0
  ·subst e; exact sLe_refl _
  ·exact sLe_trans (h c (by omega) h2 (Nat.zero_le _)) (ih _ (by omega) (by omega))
section
variable {cx : Cx} {h : HP} {F q n a b lo hi : Nat} {l : List Str}
theorem sift_ok (hl : ∀ n,cx.prot.lets (.obj n) = true) (hF : IsCmp F) (hn : l.length = n) (hn2 : n ≤ 1000000) (hlo : lo ≤ 1000000) (hb : a + hi ≤ n) (hH : HeapAt l a (lo + 1) hi) (hq : h.look (.obj q) = some ⟨.arr n tS,encS l⟩) :
  Ok tblE cx Fn.slices_siftDownCmpFunc (St.enter [.sl (.obj q) 0 n,.int .i64 lo,.int .i64 hi,.int .i64 a,.func F .unit] h) fun v h'=>v = .tup .unit ∧ ∃ m,h' = h.ob q (.arr n tS) (encS m) ∧ PermIn l m a (a + hi) ∧ HeapAt m a lo hi:=by
 obtain ⟨fn,hf1,hf2,hf3⟩:=hF
 have h0 : h.ob q (.arr n tS) (encS l) = h:=ob_self hq
 rw [Ok_eq]
 simp (maxSteps:=999999) (disch:=omega) only [go_sem]
 refine W_forE (α:=List Str × Nat) (hi + 1) (fun k m=>⟨[(0,.sl (.obj q) 0 n),(2,.int .i64 hi),(3,.int .i64 a),(4,.func F .unit),(10,.int .i64 m.2)],[],h.ob q (.arr n tS) (encS m.1)⟩) (fun k m=>PermIn l m.1 a (a + hi) ∧ SiftIn m.1 a lo hi m.2 ∧ k ≤ m.2 ∧ m.2 ≤ 2000000) (l,lo) (by simp only [go_sem,h0] <;> rfl) ⟨PermIn.refl _ _ _,SiftIn.start hH,Nat.zero_le _,by dsimp only; omega⟩ fun k m hk hp ih=>?_
 obtain ⟨m,r⟩:=m
 obtain ⟨hp,hs,hkr,hr2⟩:=hp
 dsimp only at hp hs hkr hr2 ih ⊢
 have hm:=hp.len
 obtain ⟨x,hx⟩ : ∃ x : Nat,2 * r + 1 = x:=⟨_,rfl⟩
 obtain ⟨x,hx⟩ : ∃ x : Nat,2 * r + 1 = x:=⟨_,rfl⟩
 obtain ⟨x,hx⟩ : ∃ x : Nat,2 * r + 1 = x:=⟨_,rfl⟩
 obtain ⟨x,hx⟩ : ∃ x : Nat,2 * r + 1 = x:=⟨_,rfl⟩
 have e1 : (2 : Int) * (r : Int) + 1 = (x : Int):=by omega
 by_cases c1 : hi ≤ x
 ·have c1' : (hi : Int) ≤ (x : Int):=by omega
  simp (maxSteps:=999999) (disch:=first | omega | (simp only [List.length_set]; omega)) only [go_sem,e1,c1']
  exact ⟨m,rfl,hp,hs.stop (by omega)⟩
 have c1' : ¬(hi : Int) ≤ (x : Int):=by omega
 have er : ((a : Int) + (r : Int)).toNat = a + r:=by omega
 have ex : ((a : Int) + (x : Int)).toNat = a + x:=by omega
 have ex1 : ((a : Int) + (x : Int) + 1).toNat = a + (x + 1):=by omega
 simp (maxSteps:=999999) (disch:=first | omega | (simp only [List.length_set]; omega)) only [go_sem,e1,c1']
 by_cases c2 : x + 1 < hi
 ·have c2' : (x : Int) + 1 < (hi : Int):=by omega
  simp (maxSteps:=999999) (disch:=first | omega | (simp only [List.length_set]; omega)) only [go_sem,c2',ex,ex1]
  refine W_callvp (v:=.int .i64 (cmpS (txt m (a + x)) (txt m (a + (x + 1))))) (by simp only [go_sem] <;> rfl) hf1 hf2 (by simp only [go_sem]; exact hf3 _ _ _ _) ?_
  simp (maxSteps:=999999) (disch:=first | omega | (simp only [List.length_set]; omega)) only [go_sem]
  cases c : sLt (txt m (a + x)) (txt m (a + (x + 1))) with
  | true =>
   have c' : cmpS (txt m (a + x)) (txt m (a + (x + 1))) < 0:=(cmpS_lt _ _).2 c
   simp (maxSteps:=999999) (disch:=first | omega | (simp only [List.length_set]; omega)) only [go_sem,c']
   obtain ⟨y,hy⟩ : ∃ y : Nat,x + 1 = y:=⟨_,rfl⟩
   have ey : (x : Int) + 1 = (y : Int):=by omega
   rw [hy] at c
   simp (maxSteps:=999999) (disch:=first | omega | (simp only [List.length_set]; omega)) only [go_sem,ey]
   have ey : ((a : Int) + (y : Int)).toNat = a + y:=by omega
   have mx : MaxCh m a hi r y:=⟨by omega,by omega,by rw [hx,← hy]; rw [← hy] at c; exact sLe_of_lt c,fun _=>by rw [show 2 * r + 2 = y by omega]; exact sLe_refl _⟩
   refine W_callvp (v:=.int .i64 (cmpS (txt m (a + r)) (txt m (a + y)))) (by simp only [go_sem] <;> rfl) hf1 hf2 (by simp only [go_sem]; exact hf3 _ _ _ _) ?_
   simp (maxSteps:=999999) (disch:=first | omega | (simp only [List.length_set]; omega)) only [go_sem]
   cases cc : sLt (txt m (a + r)) (txt m (a + y)) with
   | true =>
    have c' : cmpS (txt m (a + r)) (txt m (a + y)) < 0:=(cmpS_lt _ _).2 cc
    simp (maxSteps:=999999) (disch:=first | omega | (simp only [List.length_set]; omega)) only [go_sem,c',ey,er,stV_ob (hl _)]
    have t2:=mx.two
    have tl:=mx.lt
    refine ih _ (swapL m (a + r) (a + y),y) (by omega) ?_ ⟨hp.trans (PermIn.swap (by omega) (by omega) (by omega) (by omega)),hs.step mx (by omega) cc,by dsimp only; omega,by dsimp only; omega⟩
    simp only [go_sem,swapL]
   | false =>
    have c' : ¬cmpS (txt m (a + r)) (txt m (a + y)) < 0:=fun e=>by rw [cmpS_lt,cc] at e; simp at e
    simp (maxSteps:=999999) (disch:=first | omega | (simp only [List.length_set]; omega)) only [go_sem,c']
    exact ⟨m,rfl,hp,hs.rest mx cc⟩
  | false =>
   have c' : ¬cmpS (txt m (a + x)) (txt m (a + (x + 1))) < 0:=fun e=>by rw [cmpS_lt,c] at e; simp at e
   simp (maxSteps:=999999) (disch:=first | omega | (simp only [List.length_set]; omega)) only [go_sem,c']
   have ex : ((a : Int) + (x : Int)).toNat = a + x:=by omega
   have mx : MaxCh m a hi r x:=⟨by omega,by omega,by rw [hx]; exact sLe_refl _,fun _=>by rw [show 2 * r + 2 = x + 1 by omega]; simp [sLe,c]⟩
   refine W_callvp (v:=.int .i64 (cmpS (txt m (a + r)) (txt m (a + x)))) (by simp only [go_sem] <;> rfl) hf1 hf2 (by simp only [go_sem]; exact hf3 _ _ _ _) ?_
   simp (maxSteps:=999999) (disch:=first | omega | (simp only [List.length_set]; omega)) only [go_sem]
   cases cc : sLt (txt m (a + r)) (txt m (a + x)) with
   | true =>
    have c' : cmpS (txt m (a + r)) (txt m (a + x)) < 0:=(cmpS_lt _ _).2 cc
    simp (maxSteps:=999999) (disch:=first | omega | (simp only [List.length_set]; omega)) only [go_sem,c',ex,er,stV_ob (hl _)]
    have t2:=mx.two
    have tl:=mx.lt
    refine ih _ (swapL m (a + r) (a + x),x) (by omega) ?_ ⟨hp.trans (PermIn.swap (by omega) (by omega) (by omega) (by omega)),hs.step mx (by omega) cc,by dsimp only; omega,by dsimp only; omega⟩
    simp only [go_sem,swapL]
   | false =>
    have c' : ¬cmpS (txt m (a + r)) (txt m (a + x)) < 0:=fun e=>by rw [cmpS_lt,cc] at e; simp at e
    simp (maxSteps:=999999) (disch:=first | omega | (simp only [List.length_set]; omega)) only [go_sem,c']
    exact ⟨m,rfl,hp,hs.rest mx cc⟩
 ·have c2' : ¬(x : Int) + 1 < (hi : Int):=by omega
  simp (maxSteps:=999999) (disch:=first | omega | (simp only [List.length_set]; omega)) only [go_sem,c2']
  have ex : ((a : Int) + (x : Int)).toNat = a + x:=by omega
  have mx : MaxCh m a hi r x:=⟨by omega,by omega,by rw [hx]; exact sLe_refl _,fun _=>by omega⟩
  refine W_callvp (v:=.int .i64 (cmpS (txt m (a + r)) (txt m (a + x)))) (by simp only [go_sem] <;> rfl) hf1 hf2 (by simp only [go_sem]; exact hf3 _ _ _ _) ?_
  simp (maxSteps:=999999) (disch:=first | omega | (simp only [List.length_set]; omega)) only [go_sem]
  cases c : sLt (txt m (a + r)) (txt m (a + x)) with
  | true =>
   have c' : cmpS (txt m (a + r)) (txt m (a + x)) < 0:=(cmpS_lt _ _).2 c
   simp (maxSteps:=999999) (disch:=first | omega | (simp only [List.length_set]; omega)) only [go_sem,c',ex,er,stV_ob (hl _)]
   have t2:=mx.two
   have tl:=mx.lt
   refine ih _ (swapL m (a + r) (a + x),x) (by omega) ?_ ⟨hp.trans (PermIn.swap (by omega) (by omega) (by omega) (by omega)),hs.step mx (by omega) c,by dsimp only; omega,by dsimp only; omega⟩
   simp only [go_sem,swapL]
  | false =>
   have c' : ¬cmpS (txt m (a + r)) (txt m (a + x)) < 0:=fun e=>by rw [cmpS_lt,c] at e; simp at e
   simp (maxSteps:=999999) (disch:=first | omega | (simp only [List.length_set]; omega)) only [go_sem,c']
   exact ⟨m,rfl,hp,hs.rest mx c⟩
theorem heap_ok (hl : ∀ n,cx.prot.lets (.obj n) = true) (hF : IsCmp F) (hn : l.length = n) (hn2 : n ≤ 1000000) (hab : a < b) (hb : b ≤ n) (hq : h.look (.obj q) = some ⟨.arr n tS,encS l⟩) :
  Ok tblE cx Fn.slices_heapSortCmpFunc (St.enter [.sl (.obj q) 0 n,.int .i64 a,.int .i64 b,.func F .unit] h) fun v h'=>v = .tup .unit ∧ ∃ m,h' = h.ob q (.arr n tS) (encS m) ∧ PermIn l m a b ∧ SortedIn m a b:=by
 have h0 : h.ob q (.arr n tS) (encS l) = h:=ob_self hq
 obtain ⟨d,hd⟩ : ∃ d : Nat,b = a + (d + 1):=⟨b - a - 1,by omega⟩
 obtain ⟨H,hH⟩ : ∃ H : Nat,d + 1 = H:=⟨_,rfl⟩
 have ed : (b : Int) - (a : Int) = (H : Int):=by omega
 have ed1 : (H : Int) - 1 = (d : Int):=by omega
 have hquo : evInt .quo .i64 (d : Int) 2 = some (.int .i64 ((d / 2 : Nat) : Int)):=by
  have e : Int.tdiv (d : Int) 2 = ((d / 2 : Nat) : Int):=by rfl
  simp only [evInt]
  rw [if_neg (by omega),e,wrap64 (by omega) (by omega)]
 rw [Ok_eq]
 simp (maxSteps:=999999) (disch:=omega) only [go_sem,ed,ed1,hquo]
 generalize hi0 : d / 2 = i0
 refine W_whileB (α:=List Str × Int) (β:=List Str) (i0 + 1) (fun m=>⟨[(0,.sl (.obj q) 0 n),(3,.func F .unit),(8,.int .i64 a),(9,.int .i64 0),(10,.int .i64 H),(11,.int .i64 m.2)],[],h.ob q (.arr n tS) (encS m.1)⟩)
  (fun k m=>PermIn l m.1 a b ∧ m.2 = (i0 : Int) - k ∧ HeapAt m.1 a (i0 + 1 - k) H)
  (fun m=>⟨[(0,.sl (.obj q) 0 n),(3,.func F .unit),(8,.int .i64 a),(9,.int .i64 0),(10,.int .i64 H),(11,.int .i64 (-1)),(21,.bool false)],[],h.ob q (.arr n tS) (encS m)⟩) (fun m=>PermIn l m a b ∧ HeapAt m a 0 H)
  (l,(i0 : Int)) (by simp only [go_sem,h0] <;> rfl) ⟨PermIn.refl _ _ _,by simp,fun c h1 h2 h3=>by omega⟩ (fun kk QQ hx k m hk hp ih=>?_) ?_
 ·obtain ⟨m,i⟩:=m
  obtain ⟨hp,hi,hs⟩:=hp
  dsimp only at hp hi hs ih ⊢
  have hm:=hp.len
  by_cases c0 : 0 ≤ i
  ·obtain ⟨x,rfl⟩ : ∃ x : Nat,i = x:=⟨i.toNat,by omega⟩
   simp (maxSteps:=999999) (disch:=first | omega | (simp only [List.length_set]; omega)) only [go_sem,c0]
   refine W_callR (R:=fun v h1=>v = .tup .unit ∧ ∃ m',h1 = h.ob q (.arr n tS) (encS m') ∧ PermIn m m' a (a + H) ∧ HeapAt m' a x H) rfl ⟨rfl,rfl⟩ (by
    simp only [go_sem]
    refine Ok.mono (sift_ok (q:=q) (n:=n) (a:=a) (lo:=x) (hi:=H) (l:=m) (by exact hl) hF (by omega) hn2 (by omega) (by omega) (by rw [show x + 1 = i0 + 1 - k by omega]; exact hs) (by simp only [go_sem,])) ?_
    rintro v h' ⟨rfl,m',rfl,hp',hs'⟩
    exact ⟨h.ob q (.arr n tS) (encS m'),by simp only [go_sem],rfl,rfl,m',rfl,hp',hs'⟩) ?_
   rintro v h1 ⟨rfl,m',rfl,hp',hs'⟩
   simp (maxSteps:=999999) (disch:=first | omega | (simp only [List.length_set]; omega)) only [go_sem]
   have eb : a + H = b:=by omega
   rw [eb] at hp'
   refine ih _ (m',(x : Int) - 1) (by omega) (by simp only [go_sem]) ⟨hp.trans hp',by dsimp only; omega,?_⟩
   rw [show i0 + 1 - (k + 1) = x by omega]; exact hs'
  ·obtain rfl : i = -1:=by omega
   simp (maxSteps:=999999) (disch:=first | omega | (simp only [List.length_set]; omega)) only [go_sem,c0]
   refine hx m ⟨hp,?_⟩
   rw [show i0 + 1 - k = 0 by omega] at hs; exact hs
 rintro m0 ⟨hp0,hs0⟩
 simp (maxSteps:=999999) (disch:=omega) only [go_sem,ed1]
 refine W_whileB (α:=List Str × Int) (β:=List Str) H (fun m=>⟨[(0,.sl (.obj q) 0 n),(3,.func F .unit),(8,.int .i64 a),(9,.int .i64 0),(12,.int .i64 m.2)],[],h.ob q (.arr n tS) (encS m.1)⟩)
  (fun k m=>PermIn l m.1 a b ∧ m.2 = (d : Int) - k ∧ HeapAt m.1 a 0 (H - k) ∧ SortedIn m.1 (a + (H - k)) b ∧ ∀ x y,x < H - k → a + (H - k) ≤ y → y < b → sLe (txt m.1 (a + x)) (txt m.1 y) = true)
  (fun m=>⟨[(0,.sl (.obj q) 0 n),(3,.func F .unit),(8,.int .i64 a),(9,.int .i64 0),(12,.int .i64 (-1)),(33,.bool false)],[],h.ob q (.arr n tS) (encS m)⟩) (fun m=>PermIn l m a b ∧ SortedIn m a b)
  (m0,(d : Int)) (by simp only [go_sem] <;> rfl) ⟨hp0,by simp,hs0,fun x y h1 h2 h3=>by omega,fun x y h1 h2 h3=>by omega⟩ (fun kk QQ hx k m hk hp ih=>?_) ?_
 ·obtain ⟨m,i⟩:=m
  obtain ⟨hp,hi,hs,hso,hle⟩:=hp
  dsimp only at hp hi hs hso hle ih ⊢
  have hm:=hp.len
  by_cases c0 : 0 ≤ i
  ·obtain ⟨x,rfl⟩ : ∃ x : Nat,i = x:=⟨i.toNat,by omega⟩
   have ex : H - k = x + 1:=by omega
   rw [ex] at hs hso hle
   simp (maxSteps:=999999) (disch:=first | omega | (simp only [List.length_set]; omega)) only [go_sem,c0,stV_ob (hl _)]
   have hpS : PermIn m (swapL m a (a + x)) a (a + (x + 1)):=PermIn.swap (by omega) (by omega) (by omega) (by omega)
   have ts:=txt_swap (l:=m) (i:=a) (j:=a + x) (by omega) (by omega)
   have hH1 : HeapAt (swapL m a (a + x)) a (0 + 1) x:=fun c h1 h2 h3=>by
    rw [ts,ts,if_neg (by omega),if_neg (by omega),if_neg (by omega),if_neg (by omega)]
    exact hs c h1 (by omega) (by omega)
   have htop : txt (swapL m a (a + x)) (a + x) = txt m a:=by rw [ts,if_pos rfl]
   have hmS : (swapL m a (a + x)).length = n:=by rw [swapL_len]; omega
   rw [show (m.set a (txt m (a + x))).set (a + x) (txt m a) = swapL m a (a + x) from rfl]
   generalize swapL m a (a + x) = m1 at hpS hH1 htop hmS ts ⊢
   refine W_callR (R:=fun v h1=>v = .tup .unit ∧ ∃ m',h1 = h.ob q (.arr n tS) (encS m') ∧ PermIn m1 m' a (a + x) ∧ HeapAt m' a 0 x) rfl ⟨rfl,rfl⟩ (by
    simp only [go_sem]
    refine Ok.mono (sift_ok (q:=q) (n:=n) (a:=a) (lo:=0) (hi:=x) (l:=m1) (by exact hl) hF (by omega) hn2 (by omega) (by omega) hH1 (by simp only [go_sem,])) ?_
    rintro v h' ⟨rfl,m',rfl,hp',hs'⟩
    exact ⟨h.ob q (.arr n tS) (encS m'),by simp only [go_sem],rfl,rfl,m',rfl,hp',hs'⟩) ?_
   rintro v h1 ⟨rfl,m',rfl,hp',hs'⟩
   simp (maxSteps:=999999) (disch:=first | omega | (simp only [List.length_set]; omega)) only [go_sem]
   refine ih _ (m',(x : Int) - 1) (by omega) (by simp only [go_sem]) ⟨(hp.trans (hpS.wide (Nat.le_refl _) (by omega))).trans (hp'.wide (Nat.le_refl _) (by omega)),by dsimp only; omega,?_,?_,?_⟩
   ·rw [show H - (k + 1) = x by omega]; exact hs'
   ·rw [show H - (k + 1) = x by omega]
    intro u y h1 h2 h3
    have ey : txt m' y = txt m y:=by rw [hp'.out y (.inr (by omega)),ts,if_neg (by omega),if_neg (by omega)]
    by_cases eu : u = a + x
    ·subst eu
     rw [hp'.out _ (.inr (by omega)),htop,ey]
     exact hle 0 y (by omega) (by omega) h3
    ·rw [hp'.out u (.inr (by omega)),ts,if_neg (by omega),if_neg (by omega),ey]
     exact hso u y (by omega) h2 h3
   ·rw [show H - (k + 1) = x by omega]
    intro u y h1 h2 h3
    obtain ⟨j,j1,j2,ej⟩:=(hpS.trans (hp'.wide (Nat.le_refl _) (by omega))).mid (by omega) (by omega) (i:=a + u) (by omega) (by omega)
    have : sLe (txt m' (a + u)) (txt m a) = true:=by
     rw [ej]
     have:=hs.top (x + 1) (j - a) (by omega) (by omega)
     rwa [show a + (j - a) = j by omega] at this
    by_cases ey : y = a + x
    ·subst ey
     have e2 : txt m' (a + x) = txt m a:=by rw [hp'.out (a + x) (.inr (by omega)),htop]
     show sLe (txt m' (a + u)) (txt m' (a + x)) = true
     rw [e2]; exact this
    ·rw [hp'.out y (.inr (by omega)),ts,if_neg (by omega),if_neg (by omega)]
     exact sLe_trans this (hle 0 y (by omega) (by omega) h3)
  ·obtain rfl : i = -1:=by omega
   simp (maxSteps:=999999) (disch:=first | omega | (simp only [List.length_set]; omega)) only [go_sem,c0]
   refine hx m ⟨hp,?_⟩
   rw [show H - k = 0 by omega] at hso; exact hso
 rintro m1 ⟨hp1,hs1⟩
 simp (maxSteps:=999999) (disch:=omega) only [go_sem]
 exact ⟨m1,rfl,hp1,hs1⟩
end
abbrev tU : Ty:=.leaf (.int .u64)
@[go_sem] theorem fits_u64 (z : Int) : (tU.fits (.int .u64 z) = true) = True:=eq_true (by simp [Ty.fits,LK.fits,AV.safe])
@[go_sem] theorem zero_u64 : tU.zero = .int .u64 0:=rfl
def XAt (h : HP) (x u : Nat) (s : Int) : Prop:=h.look (.stk x u) = some ⟨tU,.int .u64 s⟩
theorem rd_x {h : HP} {x u : Nat} {s : Int} (a : XAt h x u s) : h.rd (.stk x u) [] = some (.int .u64 s):=by
 unfold XAt at a
 simp only [HP.rd,a]; rfl
theorem stV_x {cx : Cx} {sl : Slots} {own : Own} {h : HP} {x u : Nat} {s t : Int} (hx : x < cx.lvl) (hls : cx.prot.lets (.stk x u) = true) (hm : XAt h x u s) :
  stV cx tU (.ptr (.stk x u) [] tU) (.int .u64 t) ⟨sl,own,h⟩ = some ⟨sl,own,h.set (.stk x u) ⟨tU,.int .u64 t⟩⟩:=by
 have e : (Id.stk x u).own cx.lvl = none:=by simp [Id.own]; omega
 have e2 : St.look cx ⟨sl,own,h⟩ (.stk x u) = some ⟨tU,.int .u64 s⟩:=by simp only [St.look,e]; exact hm
 simp only [stV,e2]
 simp [AV.put,St.write,e,hls,Ty.fits,tU,LK.fits,AV.safe]
theorem W_callX {cx : Cx} {k : List Item} {kill : List Nat} {r : List MOp} {sl : Slots} {h : HP} {Q : St → Prop} {u f : Nat} {args : List Opd} {d : Option Nat} {fn : MFun} {R : AV → Int → Prop} {prot : Bool} {B0 : Blk}
  (hf : tblE f = some fn) (hp : fn.params = args.length ∧ fn.nfree = 0)
  (hc : Ok tblE (St.callCx ⟨sl,[(u,B0)],h⟩ cx prot) fn (St.enter (args.map (St.opd ⟨sl,[(u,B0)],h⟩)) (h.push cx.lvl [(u,B0)])) fun v' h'=>StkTo (h.push cx.lvl [(u,B0)]) h' cx.lvl u ∧ ∃ s,XAt h' cx.lvl u s ∧ R v' s)
  (hq : ∀ v s,R v s → W tblE cx (.ops r kill :: k) (St.setd ⟨sl,[(u,⟨tU,.int .u64 s⟩)],h⟩ d v) Q) :
  W tblE cx (.ops (⟨d,.call prot [] f args,none⟩ :: r) kill :: k) ⟨sl,[(u,B0)],h⟩ Q:=by
 refine W_callr hf hp hc ?_
 rintro v h' ⟨hS,s,hs,hR⟩
 have e2 : St.pop ⟨sl,[(u,B0)],h⟩ cx.lvl [] h' = ⟨sl,[(u,⟨tU,.int .u64 s⟩)],h⟩:=by
  have e3 : h'.stk cx.lvl = [(u,⟨tU,.int .u64 s⟩)]:=by
   unfold XAt at hs
   rcases hS with rfl | ⟨B,rfl⟩
   ·simp [HP.look,HP.push,Own.get] at hs
    simp [HP.push,hs]
   ·simp [HP.look,HP.push,HP.set,Own.set,Own.get] at hs
    simp [HP.push,HP.set,Own.set,hs]
  simp only [St.pop,HP.pop,Own.unveil,e3]
  congr 1
  rcases hS with rfl | ⟨B,rfl⟩
  ·cases h
   simp only [HP.push,HP.mk.injEq,and_true]
   funext l
   by_cases e1 : l = cx.lvl <;> simp [e1]
  ·cases h
   simp only [HP.push,HP.set,HP.mk.injEq,and_true]
   funext l
   by_cases e1 : l = cx.lvl <;> simp [e1]
 rw [e2]
 exact hq v s hR
theorem xorE (a b : Int) : ∃ z,evInt .xor .u64 a b = some (.int .u64 z):=⟨_,rfl⟩
theorem shlE (a n : Int) (hn : 0 ≤ n) : ∃ z,evInt .shl .u64 a n = some (.int .u64 z):=by
 refine ⟨IntKind.u64.wrap (a * 2 ^ (min n.toNat IntKind.u64.bits)),?_⟩
 simp only [evInt,evShift]
 rw [if_neg (by omega)]
theorem shrE (a n : Int) (hn : 0 ≤ n) : ∃ z,evInt .shr .u64 a n = some (.int .u64 z):=by
 refine ⟨a.fdiv (2 ^ (min n.toNat IntKind.u64.bits)),?_⟩
 simp only [evInt,evShift]
 rw [if_neg (by omega)]
section
variable {cx : Cx} {h : HP} {F q n a b x u : Nat} {l : List Str} {s : Int}
theorem xor_ok (hls : cx.prot.lets (.stk x u) = true) (hx : x < cx.lvl) (hs : XAt h x u s) :
  Ok tblE cx Fn.slices_xorshift_Next (St.enter [.ptr (.stk x u) [] tU] h) fun v h'=>StkTo h h' x u ∧ ∃ s',XAt h' x u s' ∧ ∃ z,v = .int .u64 z:=by
 have hb : (Id.stk x u).below cx.lvl:=hx
 obtain ⟨z1,e1⟩:=shlE s 13 (by omega)
 obtain ⟨z2,e2⟩:=xorE s z1
 obtain ⟨z3,e3⟩:=shrE z2 7 (by omega)
 obtain ⟨z4,e4⟩:=xorE z2 z3
 obtain ⟨z5,e5⟩:=shlE z4 17 (by omega)
 obtain ⟨z6,e6⟩:=xorE z4 z5
 have a1 : XAt (h.set (.stk x u) ⟨tU,.int .u64 z2⟩) x u z2:=stk_look_set ..
 have a2 : XAt (h.set (.stk x u) ⟨tU,.int .u64 z4⟩) x u z4:=stk_look_set ..
 have a3 : XAt (h.set (.stk x u) ⟨tU,.int .u64 z6⟩) x u z6:=stk_look_set ..
 rw [Ok_eq]
 simp (maxSteps:=999999) (disch:=omega) only [go_sem,rd_ext hb,rd_x hs,fg_ptr hb,leads_ptr hb,apart_ptr hb,e1,e2,stV_x hx hls hs,rd_x a1,e3,e4,stV_x hx hls a1,stk_set_set,rd_x a2,e5,e6,stV_x hx hls a2,rd_x a3]
 exact ⟨.inr ⟨_,rfl⟩,z6,a3,_,rfl⟩
theorem lenTab_pow {x : Nat} (hx : x < 256) (h8 : 8 ≤ x) : ∃ c : UInt8,lenTab[x]? = some c ∧ c.toNat ≤ 8 ∧ x < 2 ^ c.toNat ∧ 2 ^ c.toNat ≤ 2 * x:=by
 have h : ∀ x : Fin 256,(match lenTab[x.val]? with | some c=>decide (c.toNat ≤ 8) && (decide (x.val < 8) || (decide (x.val < 2 ^ c.toNat) && decide (2 ^ c.toNat ≤ 2 * x.val))) | none=>false) = true:=by decide +kernel
 have:=h ⟨x,hx⟩
 cases e : lenTab[x]? with
 | none=>rw [e] at this; simp at this
 | some c =>
  rw [e] at this
  simp only [Bool.and_eq_true,Bool.or_eq_true,decide_eq_true_eq] at this
  exact ⟨c,rfl,this.1,by omega,by omega⟩
theorem LenP64_ok {x : Nat} (hx : x < 256) (h8 : 8 ≤ x) : Ok tblE cx Fn.math_bits_Len64 (St.enter [.int .u64 x] h) fun v h'=>(∃ z : Nat,z ≤ 8 ∧ x < 2 ^ z ∧ 2 ^ z ≤ 2 * x ∧ v = .int .i64 z) ∧ h' = h:=by
 obtain ⟨c,hc,hc8,hp1,hp2⟩:=lenTab_pow hx h8
 have e1 : IntKind.u8.wrap (x : Int) = x:=by
  have e1 : (IntKind.u8).bits = 8:=rfl
  have e2 : (IntKind.u8).signed = false:=rfl
  have p1 : (2 : Int) ^ 8 = 256:=rfl
  simp only [IntKind.wrap,e1,e2,Bool.false_and,Bool.false_eq_true,if_false,p1]
  omega
 have e2 : stridxV (.str lenTab) (.int .u8 (x : Int)) = some (.int .u8 c.toNat):=by
  simp only [stridxV,toIx,Int.toNat_natCast,hc,Option.map_some]
  rw [if_pos (by omega)]
 have e3 : IntKind.i64.wrap (c.toNat : Int) = c.toNat:=wrap64 (by omega) (by omega)
 rw [Ok_eq]
 rw [lenTab] at e2
 simp (maxSteps:=999999) (disch:=omega) only [go_sem,e1,e2,e3]
 exact ⟨_,hc8,hp1,hp2,by rw [Int.zero_add]⟩
theorem LenP_ok {x : Nat} (hx : x < 256) (h8 : 8 ≤ x) : Ok tblE cx Fn.math_bits_Len (St.enter [.int .u64 x] h) fun v h'=>(∃ z : Nat,z ≤ 8 ∧ x < 2 ^ z ∧ 2 ^ z ≤ 2 * x ∧ v = .int .i64 z) ∧ h' = h:=by
 rw [Ok_eq]
 simp (maxSteps:=999999) (disch:=omega) only [go_sem]
 refine W_callhv (P:=fun v=>∃ z : Nat,z ≤ 8 ∧ x < 2 ^ z ∧ 2 ^ z ≤ 2 * x ∧ v = .int .i64 z) h rfl ⟨rfl,rfl⟩ rfl (by simp only [go_sem]; exact LenP64_ok hx h8) ?_
 rintro v ⟨z,z0,z8,z9,rfl⟩
 simp (maxSteps:=999999) (disch:=omega) only [go_sem]
 exact ⟨_,z0,z8,z9,rfl⟩
theorem wrapU {x : Nat} (hx : x < 1000000) : IntKind.u64.wrap (x : Int) = x:=by
 have e1 : (IntKind.u64).bits = 64:=rfl
 have e2 : (IntKind.u64).signed = false:=rfl
 have p1 : (2 : Int) ^ 64 = 18446744073709551616:=rfl
 simp only [IntKind.wrap,e1,e2,Bool.false_and,Bool.false_eq_true,if_false,p1]
 omega
theorem npow_ok {x : Nat} (hx : x < 256) (h8 : 8 ≤ x) : Ok tblE cx Fn.slices_nextPowerOfTwo (St.enter [.int .i64 x] h) fun v h'=>(∃ z : Nat,x < z ∧ z ≤ 2 * x ∧ v = .int .u64 z) ∧ h' = h:=by
 rw [Ok_eq]
 simp (maxSteps:=999999) (disch:=omega) only [go_sem,wrapU (x:=x) (by omega)]
 refine W_callhv (P:=fun v=>∃ z : Nat,z ≤ 8 ∧ x < 2 ^ z ∧ 2 ^ z ≤ 2 * x ∧ v = .int .i64 z) h rfl ⟨rfl,rfl⟩ rfl (by simp only [go_sem]; exact LenP_ok hx h8) ?_
 rintro v ⟨z,z0,z8,z9,rfl⟩
 have e : evBin .shl (.int .u64 1) (.int .i64 (z : Int)) = some (.int .u64 ((2 ^ z : Nat) : Int)):=by
  simp only [evBin,show ¬(IntKind.u64 = IntKind.i64) from by decide,if_false,evShift]
  rw [if_neg (by omega)]
  have e1 : min (z : Int).toNat IntKind.u64.bits = z:=by
   have : IntKind.u64.bits = 64:=rfl
   rw [this]; omega
  rw [e1,Int.one_mul]
  have e2 : ((2 : Int) ^ z) = ((2 ^ z : Nat) : Int):=by simp
  rw [e2,wrapU (by omega)]
 simp (maxSteps:=999999) (disch:=omega) only [go_sem,e]
 exact ⟨2 ^ z,z8,z9,rfl⟩
theorem andE (a : Int) {m : Nat} (hm : m < 1000000) : ∃ z : Nat,z ≤ m ∧ evInt .and .u64 a m = some (.int .u64 z):=by
 have hb : IntKind.u64.bits = 64:=rfl
 refine ⟨(BitVec.ofInt 64 a &&& BitVec.ofInt 64 m).toNat,?_,?_⟩
 ·rw [BitVec.toNat_and]
  refine Nat.le_trans Nat.and_le_right ?_
  rw [BitVec.toNat_ofInt]
  omega
 ·have hle : (BitVec.ofInt 64 a &&& BitVec.ofInt 64 m).toNat ≤ m:=by
   rw [BitVec.toNat_and]
   refine Nat.le_trans Nat.and_le_right ?_
   rw [BitVec.toNat_ofInt]
   omega
  show some (AV.int .u64 (IntKind.u64.wrap (BitVec.ofInt 64 a &&& BitVec.ofInt 64 m).toNat)) = _
  rw [wrapU (by omega)]
theorem break_ok (hl : ∀ n,cx.prot.lets (.obj n) = true) (hls : ∀ u,cx.prot.lets (.stk cx.lvl u) = true) (hn : l.length = n) (hn2 : n ≤ 255) (hab : a + 8 ≤ b) (hb : b ≤ n) (hq : h.look (.obj q) = some ⟨.arr n tS,encS l⟩) :
  Ok tblE cx Fn.slices_breakPatternsCmpFunc (St.enter [.sl (.obj q) 0 n,.int .i64 a,.int .i64 b,.func F .unit] h) fun v h'=>v = .tup .unit ∧ ∃ m,h' = h.ob q (.arr n tS) (encS m) ∧ PermIn l m a b:=by
 have h0 : h.ob q (.arr n tS) (encS l) = h:=ob_self hq
 obtain ⟨L,hL⟩ : ∃ L : Nat,b = a + L:=⟨b - a,by omega⟩
 obtain ⟨d,hd⟩ : ∃ d : Nat,L / 4 = d:=⟨_,rfl⟩
 have hquo : evInt .quo .i64 (L : Int) 4 = some (.int .i64 (d : Int)):=by
  have e : Int.tdiv (L : Int) 4 = d:=by rw [← hd]; rfl
  simp only [evInt]
  rw [if_neg (by omega),e,wrap64 (by omega) (by omega)]
 have eL : (b : Int) - (a : Int) = (L : Int):=by omega
 have c8 : (8 : Int) ≤ (L : Int):=by omega
 rw [Ok_eq]
 simp (maxSteps:=999999) (disch:=omega) only [go_sem,eL,c8,wrapU (x:=L) (by omega)]
 refine W_callhv (P:=fun v=>∃ z : Nat,L < z ∧ z ≤ 2 * L ∧ v = .int .u64 z) h rfl ⟨rfl,rfl⟩ rfl (by simp only [go_sem]; exact npow_ok (by omega) (by omega)) ?_
 rintro v ⟨z,z1,z2,rfl⟩
 simp (maxSteps:=999999) (disch:=omega) only [go_sem,hquo]
 obtain ⟨e,he⟩ : ∃ e : Nat,a + 2 * d - 1 = e:=⟨_,rfl⟩
 have ee0 : (a : Int) + (d : Int) * 2 - 1 = (e : Int):=by omega
 have ee1 : (a : Int) + (d : Int) * 2 + 1 = (e : Int) + 2:=by omega
 have ez : IntKind.u64.wrap ((z : Int) - 1) = ((z - 1 : Nat) : Int):=by
  rw [show (z : Int) - 1 = ((z - 1 : Nat) : Int) by omega,wrapU (by omega)]
 refine W_forE (α:=List Str × Int) 3 (fun k m=>⟨[(0,.sl (.obj q) 0 n),(1,.int .i64 a),(8,.int .i64 L),(9,.ptr (.stk cx.lvl 9) [] tU),(10,.int .u64 z),(11,.int .i64 ((e : Int) + (k : Int)))],[(9,⟨tU,.int .u64 m.2⟩)],h.ob q (.arr n tS) (encS m.1)⟩) (fun k m=>PermIn l m.1 a b) (l,(L : Int)) (by simp only [go_sem,h0,ee0] <;> rfl) (PermIn.refl _ _ _) fun k m hk hp ih=>?_
 obtain ⟨m,w⟩:=m
 dsimp only at hp ih ⊢
 have hm:=hp.len
 by_cases c3 : k < 3
 rotate_left
 ·have c3' : ¬(e : Int) + (k : Int) ≤ (e : Int) + 2:=by omega
  simp (maxSteps:=999999) (disch:=first | omega | (simp only [List.length_set]; omega)) only [go_sem,hquo,ee1,c3']
  exact ⟨m,rfl,hp⟩
 have c3' : (e : Int) + (k : Int) ≤ (e : Int) + 2:=by omega
 simp (maxSteps:=999999) (disch:=first | omega | (simp only [List.length_set]; omega)) only [go_sem,hquo,ee1,c3']
 refine W_callX (R:=fun v s=>∃ y,v = .int .u64 y) rfl ⟨rfl,rfl⟩ (by
  simp only [go_sem]
  exact (xor_ok (by exact hls 9) (Nat.lt_succ_self _) (by simp [XAt,HP.look,HP.push,Own.get] <;> rfl)).mono fun v h' hh=>hh) ?_
 rintro _ w' ⟨y0,rfl⟩
 obtain ⟨y,hy,ey⟩:=andE y0 (m:=z - 1) (by omega)
 have ey2 : IntKind.i64.wrap (y : Int) = y:=wrap64 (by omega) (by omega)
 simp (maxSteps:=999999) (disch:=first | omega | (simp only [List.length_set]; omega)) only [go_sem,ez,ey,ey2]
 have ee : ((e : Int) + (k : Int)).toNat = e + k:=by omega
 by_cases c4 : L ≤ y
 ·obtain ⟨u,hu⟩ : ∃ u : Nat,y - L = u:=⟨_,rfl⟩
  have c4' : (L : Int) ≤ (y : Int):=by omega
  have eu : (y : Int) - (L : Int) = (u : Int):=by omega
  simp (maxSteps:=999999) (disch:=first | omega | (simp only [List.length_set]; omega)) only [go_sem,c4',eu]
  have ea : ((a : Int) + (u : Int)).toNat = a + u:=by omega
  simp (maxSteps:=999999) (disch:=first | omega | (simp only [List.length_set]; omega)) only [go_sem,ee,stV_ob (hl _)]
  refine ih _ (swapL m (e + k) (a + u),w') (by omega) ?_ (hp.trans (PermIn.swap (by omega) (by omega) (by omega) (by omega)))
  simp only [go_sem,swapL,Int.add_assoc]
 ·have c4' : ¬(L : Int) ≤ (y : Int):=by omega
  simp (maxSteps:=999999) (disch:=first | omega | (simp only [List.length_set]; omega)) only [go_sem,c4']
  have ea : ((a : Int) + (y : Int)).toNat = a + y:=by omega
  simp (maxSteps:=999999) (disch:=first | omega | (simp only [List.length_set]; omega)) only [go_sem,ee,stV_ob (hl _)]
  refine ih _ (swapL m (e + k) (a + y),w') (by omega) ?_ (hp.trans (PermIn.swap (by omega) (by omega) (by omega) (by omega)))
  simp only [go_sem,swapL,Int.add_assoc]
def Done (m : List Str) (a b c d : Nat) : Prop:=∀ x y,a ≤ x → x < y → y < b → (x < c ∨ d ≤ y) → sLe (txt m x) (txt m y) = true
theorem Done.perm {m m' : List Str} {a b c d : Nat} (h : Done m a b c d) (hp : PermIn m m' c d) (hcd : c ≤ d) (hd : d ≤ b) (hac : a ≤ c) (hb : b ≤ m.length) : Done m' a b c d:=fun x y h1 h2 h3 h4=>by
 by_cases ex : x < c
 ·rw [hp.out x (.inl ex)]
  by_cases ey : c ≤ y ∧ y < d
  ·obtain ⟨j,j1,j2,e⟩:=hp.mid hcd (by omega) ey.1 ey.2
   rw [e]; exact h x j h1 (by omega) (by omega) (.inl ex)
  ·rw [hp.out y (by omega)]; exact h x y h1 h2 h3 (.inl ex)
 ·have hy : d ≤ y:=by omega
  rw [hp.out y (.inr hy)]
  by_cases ex2 : x < d
  ·obtain ⟨j,j1,j2,e⟩:=hp.mid hcd (by omega) (i:=x) (by omega) ex2
   rw [e]; exact h j y (by omega) (by omega) h3 (.inr hy)
  ·rw [hp.out x (.inr (by omega))]; exact h x y h1 h2 h3 (.inr hy)
theorem Done.all {m : List Str} {a b c d : Nat} (h : Done m a b c d) (hs : SortedIn m c d) : SortedIn m a b:=fun x y h1 h2 h3=>by
 by_cases e : x < c ∨ d ≤ y
 ·exact h x y h1 h2 h3 e
 ·exact hs x y (by omega) h2 (by omega)
structure PS (l m : List Str) (a b c d : Nat) : Prop where
 hp : PermIn l m a b
 ac : a ≤ c
 cd : c ≤ d
 db : d ≤ b
 low : LowB m c d
 don : Done m a b c d
theorem PS.perm {l m m' : List Str} {a b c d : Nat} (h : PS l m a b c d) (hb : b ≤ l.length) (hp : PermIn m m' c d) : PS l m' a b c d:=by
 have hm:=h.hp.len
 have h1:=h.db
 exact ⟨h.hp.trans (hp.wide h.ac h.db),h.ac,h.cd,h.db,h.low.perm hp h.cd (by omega),h.don.perm hp h.cd h.db h.ac (by omega)⟩
theorem PS.fin {l m m' : List Str} {a b c d : Nat} (h : PS l m a b c d) (hb : b ≤ l.length) (hp : PermIn m m' c d) (hs : SortedIn m' c d) : PermIn l m' a b ∧ SortedIn m' a b :=
 ⟨(h.perm hb hp).hp,(h.perm hb hp).don.all hs⟩
theorem PS.eq {l m m' : List Str} {a b c d e : Nat} (h : PS l m a b c d) (hb : b ≤ l.length) (hp : PartEq m m' c d e) (hlow : ∀ x,c ≤ x → x < d → sLe (txt m' c) (txt m' x) = true) : PS l m' a b e d:=by
 have h':=h.perm hb hp.hp
 have h1:=hp.ac
 have h2:=hp.cb
 have h3:=h.ac
 have same : ∀ x,c ≤ x → x < e → txt m' x = txt m' c:=fun x x1 x2=>by
  have a1:=hp.lo x x1 x2
  have a2:=hlow x x1 (by omega)
  exact sLe_antisymm (by simp [sLe,a1]) a2
 refine ⟨h'.hp,by omega,h2,h.db,fun h0 x x1 x2=>?_,fun x y x1 x2 x3 x4=>?_⟩
 ·rw [same (e - 1) (by omega) (by omega)]
  exact hlow x (by omega) x2
 ·by_cases q1 : x < c ∨ d ≤ y
  ·exact h'.don x y x1 x2 x3 q1
  ·rw [same x (by omega) (by omega)]
   exact hlow y (by omega) (by omega)
theorem PS.left {l m m' : List Str} {a b c d e : Nat} (h : PS l m a b c d) (hb : b ≤ l.length) (hce : c ≤ e) (hed : e < d) (hm : PermIn m m' c e) (hs : SortedIn m' c e) (lo : ∀ x,c ≤ x → x < e → sLt (txt m x) (txt m e) = true) (up : ∀ x,e < x → x < d → sLt (txt m x) (txt m e) = false) : PS l m' a b (e + 1) d:=by
 have hl:=h.hp.len
 have h1:=h.db
 have h3:=h.ac
 have h':=h.perm hb (hm.wide (Nat.le_refl _) (by omega))
 have pe : txt m' e = txt m e:=hm.out e (.inr (Nat.le_refl _))
 have lo' : ∀ x,c ≤ x → x < e → sLe (txt m' x) (txt m' e) = true:=fun x x1 x2=>by
  obtain ⟨j,j1,j2,ej⟩:=hm.mid hce (by omega) x1 x2
  rw [ej,pe]; exact sLe_of_lt (lo j j1 j2)
 have up' : ∀ x,e < x → x < d → sLe (txt m' e) (txt m' x) = true:=fun x x1 x2=>by
  rw [pe,hm.out x (.inr (by omega))]
  simp [sLe,up x x1 x2]
 refine ⟨h'.hp,by omega,hed,h1,fun h0 x x1 x2=>up' x (by omega) x2,fun x y x1 x2 x3 x4=>?_⟩
 by_cases q1 : x < c ∨ d ≤ y
 ·exact h'.don x y x1 x2 x3 q1
 ·by_cases q2 : x = e
  ·subst q2; exact up' y x2 (by omega)
  ·by_cases q3 : y = e
   ·subst q3; exact lo' x (by omega) x2
   ·by_cases q4 : y < e
    ·exact hs x y (by omega) x2 q4
    ·exact sLe_trans (lo' x (by omega) (by omega)) (up' y (by omega) (by omega))
theorem PS.right {l m m' : List Str} {a b c d e : Nat} (h : PS l m a b c d) (hb : b ≤ l.length) (hce : c ≤ e) (hed : e < d) (hm : PermIn m m' (e + 1) d) (hs : SortedIn m' (e + 1) d) (lo : ∀ x,c ≤ x → x < e → sLt (txt m x) (txt m e) = true) (up : ∀ x,e < x → x < d → sLt (txt m x) (txt m e) = false) : PS l m' a b c e:=by
 have hl:=h.hp.len
 have h1:=h.db
 have h3:=h.ac
 have h':=h.perm hb (hm.wide (by omega) (Nat.le_refl _))
 have pe : txt m' e = txt m e:=hm.out e (.inl (Nat.lt_succ_self _))
 have lo' : ∀ x,c ≤ x → x < e → sLe (txt m' x) (txt m' e) = true:=fun x x1 x2=>by
  rw [pe,hm.out x (.inl (by omega))]; exact sLe_of_lt (lo x x1 x2)
 have up' : ∀ x,e < x → x < d → sLe (txt m' e) (txt m' x) = true:=fun x x1 x2=>by
  obtain ⟨j,j1,j2,ej⟩:=hm.mid (by omega) (by omega) (i:=x) (by omega) x2
  rw [ej,pe]; simp [sLe,up j (by omega) j2]
 refine ⟨h'.hp,h3,hce,by omega,fun h0 x x1 x2=>h'.low h0 x x1 (by omega),fun x y x1 x2 x3 x4=>?_⟩
 by_cases q1 : x < c ∨ d ≤ y
 ·exact h'.don x y x1 x2 x3 q1
 ·by_cases q2 : x = e
  ·subst q2; exact up' y x2 (by omega)
  ·by_cases q3 : y = e
   ·subst q3; exact lo' x (by omega) x2
   ·by_cases q4 : e < x
    ·exact hs x y (by omega) x2 (by omega)
    ·exact sLe_trans (lo' x (by omega) (by omega)) (up' y (by omega) (by omega))
theorem pdq_ok (hl : ∀ n,cx.prot.lets (.obj n) = true) (hls : ∀ x u,cx.lvl ≤ x → cx.prot.lets (.stk x u) = true) (hF : IsCmp F) (hn2 : n ≤ 255) : ∀ (N : Nat) {cx : Cx} {h : HP} {l : List Str} {a b : Nat} {z : Int} (hl : ∀ n,cx.prot.lets (.obj n) = true) (hls : ∀ x u,cx.lvl ≤ x → cx.prot.lets (.stk x u) = true) (hn : l.length = n) (hN : b ≤ a + N) (hab : a ≤ b) (hb : b ≤ n) (hz : 0 ≤ z ∧ z ≤ 1000) (hlow : LowB l a b) (hq : h.look (.obj q) = some ⟨.arr n tS,encS l⟩),
  Ok tblE cx Fn.slices_pdqsortCmpFunc (St.enter [.sl (.obj q) 0 n,.int .i64 a,.int .i64 b,.int .i64 z,.func F .unit] h) fun v h'=>v = .tup .unit ∧ ∃ m,h' = h.ob q (.arr n tS) (encS m) ∧ PermIn l m a b ∧ SortedIn m a b:=by
 clear hl hls
 intro N
 induction N using Nat.strongRecOn with
 | _ N IH=>?_
 intro cx h l a b z hl hls hn hN hab hb hz hlow hq
 have hF':=hF
 obtain ⟨fn,hf1,hf2,hf3⟩:=hF'
 have h0 : h.ob q (.arr n tS) (encS l) = h:=ob_self hq
 rw [Ok_eq]
 simp (maxSteps:=999999) (disch:=omega) only [go_sem]
 refine W_forE (α:=List Str × Nat × Nat × Int × Bool × Bool) N (fun k m=>⟨[(0,.sl (.obj q) 0 n),(1,.int .i64 m.2.1),(2,.int .i64 m.2.2.1),(3,.int .i64 m.2.2.2.1),(4,.func F .unit),(10,.bool m.2.2.2.2.1),(11,.bool m.2.2.2.2.2)],[],h.ob q (.arr n tS) (encS m.1)⟩)
  (fun k m=>PS l m.1 a b m.2.1 m.2.2.1 ∧ m.2.2.1 + k ≤ m.2.1 + N ∧ 0 ≤ m.2.2.2.1 ∧ m.2.2.2.1 ≤ 1000) (l,a,b,z,true,true) (by simp only [go_sem,h0] <;> rfl) ⟨⟨PermIn.refl _ _ _,Nat.le_refl _,hab,Nat.le_refl _,hlow,fun x y x1 x2 x3 x4=>by dsimp only at x4; omega⟩,by dsimp only; omega,hz.1,hz.2⟩ fun k m hk hp ih=>?_
 obtain ⟨m,c,d,z,wb,wp⟩:=m
 obtain ⟨hP,hkN,z0,z1⟩:=hp
 dsimp only at hP hkN z0 z1 ih ⊢
 have hac:=hP.ac
 have hcd:=hP.cd
 have hdb:=hP.db
 have hbl : b ≤ l.length:=by omega
 have hm:=hP.hp.len
 obtain ⟨L,hL⟩ : ∃ L : Nat,d = c + L:=⟨d - c,by omega⟩
 have eL : (d : Int) - (c : Int) = (L : Int):=by omega
 by_cases c12 : L ≤ 12
 ·have c12' : (L : Int) ≤ 12:=by omega
  simp (maxSteps:=999999) (disch:=omega) only [go_sem,eL,c12']
  refine W_callR (R:=fun v h1=>v = .tup .unit ∧ ∃ m',h1 = h.ob q (.arr n tS) (encS m') ∧ PermIn m m' c d ∧ SortedIn m' c d) rfl ⟨rfl,rfl⟩ (by
   simp only [go_sem]
   refine Ok.mono (insSort_ok (q:=q) (n:=n) (a:=c) (b:=d) (l:=m) (by exact hl) hF (by omega) (by omega) (by omega) hcd (by simp only [go_sem,])) ?_
   rintro v h' ⟨rfl,m',rfl,hp',hs'⟩
   exact ⟨h.ob q (.arr n tS) (encS m'),by simp only [go_sem],rfl,rfl,m',rfl,hp',hs'⟩) ?_
  rintro v h1 ⟨rfl,m',rfl,hp',hs'⟩
  simp (maxSteps:=999999) (disch:=omega) only [go_sem]
  exact ⟨m',rfl,hP.fin hbl hp' hs'⟩
 have c12' : ¬(L : Int) ≤ 12:=by omega
 by_cases cz : z = 0
 ·simp (maxSteps:=999999) (disch:=omega) only [go_sem,eL,c12',cz]
  refine W_callR (R:=fun v h1=>v = .tup .unit ∧ ∃ m',h1 = h.ob q (.arr n tS) (encS m') ∧ PermIn m m' c d ∧ SortedIn m' c d) rfl ⟨rfl,rfl⟩ (by
   simp only [go_sem]
   refine Ok.mono (heap_ok (q:=q) (n:=n) (a:=c) (b:=d) (l:=m) (by exact hl) hF (by omega) (by omega) (by omega) (by omega) (by simp only [go_sem,])) ?_
   rintro v h' ⟨rfl,m',rfl,hp',hs'⟩
   exact ⟨h.ob q (.arr n tS) (encS m'),by simp only [go_sem],rfl,rfl,m',rfl,hp',hs'⟩) ?_
  rintro v h1 ⟨rfl,m',rfl,hp',hs'⟩
  simp (maxSteps:=999999) (disch:=omega) only [go_sem]
  exact ⟨m',rfl,hP.fin hbl hp' hs'⟩
 have hquo8 : evInt .quo .i64 (L : Int) 8 = some (.int .i64 ((L / 8 : Nat) : Int)):=by
  have e : Int.tdiv (L : Int) 8 = ((L / 8 : Nat) : Int):=by rfl
  simp only [evInt]
  rw [if_neg (by omega),e,wrap64 (by omega) (by omega)]
 have extQ0 : ∀ (e : Nat) (t : Bool),extV (.tup (.cons (.int .i64 (e : Int)) (.cons (.bool t) .unit))) 0 = some (.int .i64 (e : Int)):=fun _ _=>rfl
 have extQ1 : ∀ (e : Nat) (t : Bool),extV (.tup (.cons (.int .i64 (e : Int)) (.cons (.bool t) .unit))) 1 = some (.bool t):=fun _ _=>rfl
 cases wb with
 | false =>
  simp (maxSteps:=999999) (disch:=omega) only [go_sem,eL,c12',cz]
  refine W_callR (R:=fun v h1=>v = .tup .unit ∧ ∃ m',h1 = h.ob q (.arr n tS) (encS m') ∧ PermIn m m' c d) rfl ⟨rfl,rfl⟩ (by
   simp only [go_sem]
   refine Ok.mono (break_ok (q:=q) (n:=n) (a:=c) (b:=d) (l:=m) (by exact hl) (by exact fun u=>hls _ u (Nat.le_succ _)) (by omega) (by omega) (by omega) (by omega) (by simp only [go_sem,])) ?_
   rintro v h' ⟨rfl,m',rfl,hp'⟩
   exact ⟨h.ob q (.arr n tS) (encS m'),by simp only [go_sem],rfl,rfl,m',rfl,hp'⟩) ?_
  rintro v h1 ⟨rfl,m',rfl,hp'⟩
  replace hP:=hP.perm hbl hp'
  replace hm:=hP.hp.len
  clear hp'
  generalize m' = m at hP hm ⊢
  simp (maxSteps:=999999) (disch:=omega) only [go_sem]
  refine W_callR (R:=fun v h1=>h1 = h.ob q (.arr n tS) (encS m) ∧ ∃ (p : Nat) (t : Int),v = encP p t ∧ c ≤ p ∧ p < d ∧ (t = 0 ∨ t = 1 ∨ t = 2)) rfl ⟨rfl,rfl⟩ (by
   simp only [go_sem]
   refine Ok.mono (pivot_ok (q:=q) (n:=n) (a:=c) (b:=d) (l:=m) (by exact fun u=>hls _ u (Nat.le_succ _)) hF (by omega) (by omega) (by omega) (by omega) (by simp only [go_sem,])) ?_
   rintro v h' ⟨rfl,hh⟩
   exact ⟨_,rfl,rfl,rfl,hh⟩) ?_
  rintro v h1 ⟨rfl,p,t,rfl,p1,p2,ht⟩
  simp (maxSteps:=999999) (disch:=omega) only [go_sem,extP0,extP1]
  by_cases ct : t = 2
  ·simp (maxSteps:=999999) (disch:=omega) only [go_sem,ct]
   refine W_callR (R:=fun v h1=>v = .tup .unit ∧ ∃ m',h1 = h.ob q (.arr n tS) (encS m') ∧ PermIn m m' c d) rfl ⟨rfl,rfl⟩ (by
    simp only [go_sem]
    refine Ok.mono (reverse_ok (q:=q) (n:=n) (a:=c) (b:=d) (l:=m) (by exact hl) (by omega) (by omega) (by omega) hcd (by simp only [go_sem,])) ?_
    rintro v h' ⟨rfl,m',rfl,hp'⟩
    exact ⟨h.ob q (.arr n tS) (encS m'),by simp only [go_sem],rfl,rfl,m',rfl,hp'⟩) ?_
   rintro v h1 ⟨rfl,m',rfl,hp'⟩
   obtain ⟨p',hpp⟩ : ∃ p' : Nat,(d : Int) - 1 - ((p : Int) - (c : Int)) = (p' : Int):=⟨d - 1 - (p - c),by omega⟩
   replace hP:=hP.perm hbl hp'
   have p1' : c ≤ p':=by omega
   have p2' : p' < d:=by omega
   clear p1 p2
   have p1:=p1'
   have p2:=p2'
   replace hm:=hP.hp.len
   clear hp'
   generalize m' = m at hP hm ⊢
   simp (maxSteps:=999999) (disch:=omega) only [go_sem,hpp]
   clear hpp p1' p2'
   generalize p' = p at p1 p2 ⊢
   by_cases ca : 0 < c
   rotate_left
   ·have ca' : ¬(0 : Int) < (c : Int):=by omega
    simp (maxSteps:=999999) (disch:=omega) only [go_sem,ca']
    refine W_callR (R:=fun v h1=>∃ (e : Nat) (t : Bool) (m' : List Str),v = .tup (.cons (.int .i64 e) (.cons (.bool t) .unit)) ∧ h1 = h.ob q (.arr n tS) (encS m') ∧ Parted m m' c d e) rfl ⟨rfl,rfl⟩ (by
     simp only [go_sem]
     refine Ok.mono (partition_ok (q:=q) (n:=n) (a:=c) (b:=d) (p:=p) (l:=m) (by exact hl) hF (by omega) (by omega) (by omega) p1 p2 (by simp only [go_sem,])) ?_
     rintro v h' ⟨e,t,m',rfl,rfl,hpt⟩
     exact ⟨h.ob q (.arr n tS) (encS m'),by simp only [go_sem],rfl,e,t,m',rfl,rfl,hpt⟩) ?_
    rintro v h1 ⟨e,tp,m',rfl,rfl,hpt⟩
    replace hP:=hP.perm hbl hpt.hp
    have g1:=hpt.ca
    have g2:=hpt.cb
    have hm':=hP.hp.len
    simp (maxSteps:=999999) (disch:=omega) only [go_sem,extQ0,extQ1,hquo8]
    by_cases c5 : (e : Int) - (c : Int) < (d : Int) - (e : Int)
    ·simp (maxSteps:=999999) (disch:=omega) only [go_sem,c5]
     refine W_callR (R:=fun v h1=>v = .tup .unit ∧ ∃ m2,h1 = h.ob q (.arr n tS) (encS m2) ∧ PermIn m' m2 c e ∧ SortedIn m2 c e) rfl ⟨rfl,rfl⟩ (by
      simp only [go_sem]
      refine Ok.mono (IH (e - c) (by omega) (l:=m') (a:=c) (b:=e) (by exact hl) (by exact fun x u hx=>hls x u (Nat.le_trans (Nat.le_succ _) hx)) (by omega) (by omega) g1 (by omega) ⟨by omega,by omega⟩ (fun h0 x x1 x2=>hP.low h0 x x1 (by omega)) (by simp only [go_sem,])) ?_
      rintro v h' ⟨rfl,m2,rfl,hp',hs'⟩
      exact ⟨h.ob q (.arr n tS) (encS m2),by simp only [go_sem],rfl,rfl,m2,rfl,hp',hs'⟩) ?_
     rintro v h1 ⟨rfl,m2,rfl,hp',hs'⟩
     simp (maxSteps:=999999) (disch:=omega) only [go_sem]
     refine ih _ (m2,e + 1,d,(z - 1),decide (((L / 8 : Nat) : Int) ≤ (e : Int) - (c : Int)),tp) (by omega) ?_ ⟨hP.left hbl g1 g2 hp' hs' hpt.lo hpt.up,by dsimp only; omega,by dsimp only; omega,by dsimp only; omega⟩
     simp only [go_sem]
    ·simp (maxSteps:=999999) (disch:=omega) only [go_sem,c5]
     refine W_callR (R:=fun v h1=>v = .tup .unit ∧ ∃ m2,h1 = h.ob q (.arr n tS) (encS m2) ∧ PermIn m' m2 (e + 1) d ∧ SortedIn m2 (e + 1) d) rfl ⟨rfl,rfl⟩ (by
      simp only [go_sem]
      refine Ok.mono (IH (d - (e + 1)) (by omega) (l:=m') (a:=e + 1) (b:=d) (by exact hl) (by exact fun x u hx=>hls x u (Nat.le_trans (Nat.le_succ _) hx)) (by omega) (by omega) g2 (by omega) ⟨by omega,by omega⟩ (fun h0 x x1 x2=>by rw [Nat.add_sub_cancel]; simp [sLe,hpt.up x (by omega) x2]) (by simp only [go_sem,])) ?_
      rintro v h' ⟨rfl,m2,rfl,hp',hs'⟩
      exact ⟨h.ob q (.arr n tS) (encS m2),by simp only [go_sem],rfl,rfl,m2,rfl,hp',hs'⟩) ?_
     rintro v h1 ⟨rfl,m2,rfl,hp',hs'⟩
     simp (maxSteps:=999999) (disch:=omega) only [go_sem]
     refine ih _ (m2,c,e,(z - 1),decide (((L / 8 : Nat) : Int) ≤ (d : Int) - (e : Int)),tp) (by omega) ?_ ⟨hP.right hbl g1 g2 hp' hs' hpt.lo hpt.up,by dsimp only; omega,by dsimp only; omega,by dsimp only; omega⟩
     simp only [go_sem]
   have ec : ((c : Int) - 1).toNat = c - 1:=by omega
   have ca' : (0 : Int) < (c : Int):=by omega
   simp (maxSteps:=999999) (disch:=omega) only [go_sem,ec,ca']
   refine W_callvp (v:=.int .i64 (cmpS (txt m (c - 1)) (txt m p))) (by simp only [go_sem] <;> rfl) hf1 hf2 (by simp only [go_sem]; exact hf3 _ _ _ _) ?_
   simp (maxSteps:=999999) (disch:=omega) only [go_sem]
   cases cc : sLt (txt m (c - 1)) (txt m p) with
   | true =>
    have cc' : cmpS (txt m (c - 1)) (txt m p) < 0:=(cmpS_lt _ _).2 cc
    simp (maxSteps:=999999) (disch:=omega) only [go_sem,cc']
    refine W_callR (R:=fun v h1=>∃ (e : Nat) (t : Bool) (m' : List Str),v = .tup (.cons (.int .i64 e) (.cons (.bool t) .unit)) ∧ h1 = h.ob q (.arr n tS) (encS m') ∧ Parted m m' c d e) rfl ⟨rfl,rfl⟩ (by
     simp only [go_sem]
     refine Ok.mono (partition_ok (q:=q) (n:=n) (a:=c) (b:=d) (p:=p) (l:=m) (by exact hl) hF (by omega) (by omega) (by omega) p1 p2 (by simp only [go_sem,])) ?_
     rintro v h' ⟨e,t,m',rfl,rfl,hpt⟩
     exact ⟨h.ob q (.arr n tS) (encS m'),by simp only [go_sem],rfl,e,t,m',rfl,rfl,hpt⟩) ?_
    rintro v h1 ⟨e,tp,m',rfl,rfl,hpt⟩
    replace hP:=hP.perm hbl hpt.hp
    have g1:=hpt.ca
    have g2:=hpt.cb
    have hm':=hP.hp.len
    simp (maxSteps:=999999) (disch:=omega) only [go_sem,extQ0,extQ1,hquo8]
    by_cases c5 : (e : Int) - (c : Int) < (d : Int) - (e : Int)
    ·simp (maxSteps:=999999) (disch:=omega) only [go_sem,c5]
     refine W_callR (R:=fun v h1=>v = .tup .unit ∧ ∃ m2,h1 = h.ob q (.arr n tS) (encS m2) ∧ PermIn m' m2 c e ∧ SortedIn m2 c e) rfl ⟨rfl,rfl⟩ (by
      simp only [go_sem]
      refine Ok.mono (IH (e - c) (by omega) (l:=m') (a:=c) (b:=e) (by exact hl) (by exact fun x u hx=>hls x u (Nat.le_trans (Nat.le_succ _) hx)) (by omega) (by omega) g1 (by omega) ⟨by omega,by omega⟩ (fun h0 x x1 x2=>hP.low h0 x x1 (by omega)) (by simp only [go_sem,])) ?_
      rintro v h' ⟨rfl,m2,rfl,hp',hs'⟩
      exact ⟨h.ob q (.arr n tS) (encS m2),by simp only [go_sem],rfl,rfl,m2,rfl,hp',hs'⟩) ?_
     rintro v h1 ⟨rfl,m2,rfl,hp',hs'⟩
     simp (maxSteps:=999999) (disch:=omega) only [go_sem]
     refine ih _ (m2,e + 1,d,(z - 1),decide (((L / 8 : Nat) : Int) ≤ (e : Int) - (c : Int)),tp) (by omega) ?_ ⟨hP.left hbl g1 g2 hp' hs' hpt.lo hpt.up,by dsimp only; omega,by dsimp only; omega,by dsimp only; omega⟩
     simp only [go_sem]
    ·simp (maxSteps:=999999) (disch:=omega) only [go_sem,c5]
     refine W_callR (R:=fun v h1=>v = .tup .unit ∧ ∃ m2,h1 = h.ob q (.arr n tS) (encS m2) ∧ PermIn m' m2 (e + 1) d ∧ SortedIn m2 (e + 1) d) rfl ⟨rfl,rfl⟩ (by
      simp only [go_sem]
      refine Ok.mono (IH (d - (e + 1)) (by omega) (l:=m') (a:=e + 1) (b:=d) (by exact hl) (by exact fun x u hx=>hls x u (Nat.le_trans (Nat.le_succ _) hx)) (by omega) (by omega) g2 (by omega) ⟨by omega,by omega⟩ (fun h0 x x1 x2=>by rw [Nat.add_sub_cancel]; simp [sLe,hpt.up x (by omega) x2]) (by simp only [go_sem,])) ?_
      rintro v h' ⟨rfl,m2,rfl,hp',hs'⟩
      exact ⟨h.ob q (.arr n tS) (encS m2),by simp only [go_sem],rfl,rfl,m2,rfl,hp',hs'⟩) ?_
     rintro v h1 ⟨rfl,m2,rfl,hp',hs'⟩
     simp (maxSteps:=999999) (disch:=omega) only [go_sem]
     refine ih _ (m2,c,e,(z - 1),decide (((L / 8 : Nat) : Int) ≤ (d : Int) - (e : Int)),tp) (by omega) ?_ ⟨hP.right hbl g1 g2 hp' hs' hpt.lo hpt.up,by dsimp only; omega,by dsimp only; omega,by dsimp only; omega⟩
     simp only [go_sem]
   | false =>
    have cc' : ¬cmpS (txt m (c - 1)) (txt m p) < 0:=fun e=>by rw [cmpS_lt,cc] at e; simp at e
    simp (maxSteps:=999999) (disch:=omega) only [go_sem,cc']
    refine W_callR (R:=fun v h1=>∃ (e : Nat) (m' : List Str),v = .int .i64 e ∧ h1 = h.ob q (.arr n tS) (encS m') ∧ PartEq m m' c d e ∧ txt m' c = txt m p) rfl ⟨rfl,rfl⟩ (by
     simp only [go_sem]
     refine Ok.mono (partEq_ok (q:=q) (n:=n) (a:=c) (b:=d) (p:=p) (l:=m) (by exact hl) hF (by omega) (by omega) (by omega) p1 p2 (by simp only [go_sem,])) ?_
     rintro v h' ⟨e,m',rfl,rfl,hpt⟩
     exact ⟨h.ob q (.arr n tS) (encS m'),by simp only [go_sem],rfl,e,m',rfl,rfl,hpt⟩) ?_
    rintro v h1 ⟨e,m',rfl,rfl,hpt,hpv⟩
    have hP':=hP.eq hbl hpt (fun x x1 x2=>by
     obtain ⟨j,j1,j2,ej⟩:=hpt.hp.mid hcd (by omega) x1 x2
     rw [hpv,ej]
     exact sLe_trans (by simp [sLe,cc]) (hP.low ca j j1 j2))
    have g1:=hpt.ac
    have g2:=hpt.cb
    simp (maxSteps:=999999) (disch:=omega) only [go_sem]
    refine ih _ (m',e,d,(z - 1),false,wp) (by omega) ?_ ⟨hP',by dsimp only; omega,by dsimp only; omega,by dsimp only; omega⟩
    simp only [go_sem]
  ·simp (maxSteps:=999999) (disch:=omega) only [go_sem,ct]
   by_cases ca : 0 < c
   rotate_left
   ·have ca' : ¬(0 : Int) < (c : Int):=by omega
    simp (maxSteps:=999999) (disch:=omega) only [go_sem,ca']
    refine W_callR (R:=fun v h1=>∃ (e : Nat) (t : Bool) (m' : List Str),v = .tup (.cons (.int .i64 e) (.cons (.bool t) .unit)) ∧ h1 = h.ob q (.arr n tS) (encS m') ∧ Parted m m' c d e) rfl ⟨rfl,rfl⟩ (by
     simp only [go_sem]
     refine Ok.mono (partition_ok (q:=q) (n:=n) (a:=c) (b:=d) (p:=p) (l:=m) (by exact hl) hF (by omega) (by omega) (by omega) p1 p2 (by simp only [go_sem,])) ?_
     rintro v h' ⟨e,t,m',rfl,rfl,hpt⟩
     exact ⟨h.ob q (.arr n tS) (encS m'),by simp only [go_sem],rfl,e,t,m',rfl,rfl,hpt⟩) ?_
    rintro v h1 ⟨e,tp,m',rfl,rfl,hpt⟩
    replace hP:=hP.perm hbl hpt.hp
    have g1:=hpt.ca
    have g2:=hpt.cb
    have hm':=hP.hp.len
    simp (maxSteps:=999999) (disch:=omega) only [go_sem,extQ0,extQ1,hquo8]
    by_cases c5 : (e : Int) - (c : Int) < (d : Int) - (e : Int)
    ·simp (maxSteps:=999999) (disch:=omega) only [go_sem,c5]
     refine W_callR (R:=fun v h1=>v = .tup .unit ∧ ∃ m2,h1 = h.ob q (.arr n tS) (encS m2) ∧ PermIn m' m2 c e ∧ SortedIn m2 c e) rfl ⟨rfl,rfl⟩ (by
      simp only [go_sem]
      refine Ok.mono (IH (e - c) (by omega) (l:=m') (a:=c) (b:=e) (by exact hl) (by exact fun x u hx=>hls x u (Nat.le_trans (Nat.le_succ _) hx)) (by omega) (by omega) g1 (by omega) ⟨by omega,by omega⟩ (fun h0 x x1 x2=>hP.low h0 x x1 (by omega)) (by simp only [go_sem,])) ?_
      rintro v h' ⟨rfl,m2,rfl,hp',hs'⟩
      exact ⟨h.ob q (.arr n tS) (encS m2),by simp only [go_sem],rfl,rfl,m2,rfl,hp',hs'⟩) ?_
     rintro v h1 ⟨rfl,m2,rfl,hp',hs'⟩
     simp (maxSteps:=999999) (disch:=omega) only [go_sem]
     refine ih _ (m2,e + 1,d,(z - 1),decide (((L / 8 : Nat) : Int) ≤ (e : Int) - (c : Int)),tp) (by omega) ?_ ⟨hP.left hbl g1 g2 hp' hs' hpt.lo hpt.up,by dsimp only; omega,by dsimp only; omega,by dsimp only; omega⟩
     simp only [go_sem]
    ·simp (maxSteps:=999999) (disch:=omega) only [go_sem,c5]
     refine W_callR (R:=fun v h1=>v = .tup .unit ∧ ∃ m2,h1 = h.ob q (.arr n tS) (encS m2) ∧ PermIn m' m2 (e + 1) d ∧ SortedIn m2 (e + 1) d) rfl ⟨rfl,rfl⟩ (by
      simp only [go_sem]
      refine Ok.mono (IH (d - (e + 1)) (by omega) (l:=m') (a:=e + 1) (b:=d) (by exact hl) (by exact fun x u hx=>hls x u (Nat.le_trans (Nat.le_succ _) hx)) (by omega) (by omega) g2 (by omega) ⟨by omega,by omega⟩ (fun h0 x x1 x2=>by rw [Nat.add_sub_cancel]; simp [sLe,hpt.up x (by omega) x2]) (by simp only [go_sem,])) ?_
      rintro v h' ⟨rfl,m2,rfl,hp',hs'⟩
      exact ⟨h.ob q (.arr n tS) (encS m2),by simp only [go_sem],rfl,rfl,m2,rfl,hp',hs'⟩) ?_
     rintro v h1 ⟨rfl,m2,rfl,hp',hs'⟩
     simp (maxSteps:=999999) (disch:=omega) only [go_sem]
     refine ih _ (m2,c,e,(z - 1),decide (((L / 8 : Nat) : Int) ≤ (d : Int) - (e : Int)),tp) (by omega) ?_ ⟨hP.right hbl g1 g2 hp' hs' hpt.lo hpt.up,by dsimp only; omega,by dsimp only; omega,by dsimp only; omega⟩
     simp only [go_sem]
   have ec : ((c : Int) - 1).toNat = c - 1:=by omega
   have ca' : (0 : Int) < (c : Int):=by omega
   simp (maxSteps:=999999) (disch:=omega) only [go_sem,ec,ca']
   refine W_callvp (v:=.int .i64 (cmpS (txt m (c - 1)) (txt m p))) (by simp only [go_sem] <;> rfl) hf1 hf2 (by simp only [go_sem]; exact hf3 _ _ _ _) ?_
   simp (maxSteps:=999999) (disch:=omega) only [go_sem]
   cases cc : sLt (txt m (c - 1)) (txt m p) with
   | true =>
    have cc' : cmpS (txt m (c - 1)) (txt m p) < 0:=(cmpS_lt _ _).2 cc
    simp (maxSteps:=999999) (disch:=omega) only [go_sem,cc']
    refine W_callR (R:=fun v h1=>∃ (e : Nat) (t : Bool) (m' : List Str),v = .tup (.cons (.int .i64 e) (.cons (.bool t) .unit)) ∧ h1 = h.ob q (.arr n tS) (encS m') ∧ Parted m m' c d e) rfl ⟨rfl,rfl⟩ (by
     simp only [go_sem]
     refine Ok.mono (partition_ok (q:=q) (n:=n) (a:=c) (b:=d) (p:=p) (l:=m) (by exact hl) hF (by omega) (by omega) (by omega) p1 p2 (by simp only [go_sem,])) ?_
     rintro v h' ⟨e,t,m',rfl,rfl,hpt⟩
     exact ⟨h.ob q (.arr n tS) (encS m'),by simp only [go_sem],rfl,e,t,m',rfl,rfl,hpt⟩) ?_
    rintro v h1 ⟨e,tp,m',rfl,rfl,hpt⟩
    replace hP:=hP.perm hbl hpt.hp
    have g1:=hpt.ca
    have g2:=hpt.cb
    have hm':=hP.hp.len
    simp (maxSteps:=999999) (disch:=omega) only [go_sem,extQ0,extQ1,hquo8]
    by_cases c5 : (e : Int) - (c : Int) < (d : Int) - (e : Int)
    ·simp (maxSteps:=999999) (disch:=omega) only [go_sem,c5]
     refine W_callR (R:=fun v h1=>v = .tup .unit ∧ ∃ m2,h1 = h.ob q (.arr n tS) (encS m2) ∧ PermIn m' m2 c e ∧ SortedIn m2 c e) rfl ⟨rfl,rfl⟩ (by
      simp only [go_sem]
      refine Ok.mono (IH (e - c) (by omega) (l:=m') (a:=c) (b:=e) (by exact hl) (by exact fun x u hx=>hls x u (Nat.le_trans (Nat.le_succ _) hx)) (by omega) (by omega) g1 (by omega) ⟨by omega,by omega⟩ (fun h0 x x1 x2=>hP.low h0 x x1 (by omega)) (by simp only [go_sem,])) ?_
      rintro v h' ⟨rfl,m2,rfl,hp',hs'⟩
      exact ⟨h.ob q (.arr n tS) (encS m2),by simp only [go_sem],rfl,rfl,m2,rfl,hp',hs'⟩) ?_
     rintro v h1 ⟨rfl,m2,rfl,hp',hs'⟩
     simp (maxSteps:=999999) (disch:=omega) only [go_sem]
     refine ih _ (m2,e + 1,d,(z - 1),decide (((L / 8 : Nat) : Int) ≤ (e : Int) - (c : Int)),tp) (by omega) ?_ ⟨hP.left hbl g1 g2 hp' hs' hpt.lo hpt.up,by dsimp only; omega,by dsimp only; omega,by dsimp only; omega⟩
     simp only [go_sem]
    ·simp (maxSteps:=999999) (disch:=omega) only [go_sem,c5]
     refine W_callR (R:=fun v h1=>v = .tup .unit ∧ ∃ m2,h1 = h.ob q (.arr n tS) (encS m2) ∧ PermIn m' m2 (e + 1) d ∧ SortedIn m2 (e + 1) d) rfl ⟨rfl,rfl⟩ (by
      simp only [go_sem]
      refine Ok.mono (IH (d - (e + 1)) (by omega) (l:=m') (a:=e + 1) (b:=d) (by exact hl) (by exact fun x u hx=>hls x u (Nat.le_trans (Nat.le_succ _) hx)) (by omega) (by omega) g2 (by omega) ⟨by omega,by omega⟩ (fun h0 x x1 x2=>by rw [Nat.add_sub_cancel]; simp [sLe,hpt.up x (by omega) x2]) (by simp only [go_sem,])) ?_
      rintro v h' ⟨rfl,m2,rfl,hp',hs'⟩
      exact ⟨h.ob q (.arr n tS) (encS m2),by simp only [go_sem],rfl,rfl,m2,rfl,hp',hs'⟩) ?_
     rintro v h1 ⟨rfl,m2,rfl,hp',hs'⟩
     simp (maxSteps:=999999) (disch:=omega) only [go_sem]
     refine ih _ (m2,c,e,(z - 1),decide (((L / 8 : Nat) : Int) ≤ (d : Int) - (e : Int)),tp) (by omega) ?_ ⟨hP.right hbl g1 g2 hp' hs' hpt.lo hpt.up,by dsimp only; omega,by dsimp only; omega,by dsimp only; omega⟩
     simp only [go_sem]
   | false =>
    have cc' : ¬cmpS (txt m (c - 1)) (txt m p) < 0:=fun e=>by rw [cmpS_lt,cc] at e; simp at e
    simp (maxSteps:=999999) (disch:=omega) only [go_sem,cc']
    refine W_callR (R:=fun v h1=>∃ (e : Nat) (m' : List Str),v = .int .i64 e ∧ h1 = h.ob q (.arr n tS) (encS m') ∧ PartEq m m' c d e ∧ txt m' c = txt m p) rfl ⟨rfl,rfl⟩ (by
     simp only [go_sem]
     refine Ok.mono (partEq_ok (q:=q) (n:=n) (a:=c) (b:=d) (p:=p) (l:=m) (by exact hl) hF (by omega) (by omega) (by omega) p1 p2 (by simp only [go_sem,])) ?_
     rintro v h' ⟨e,m',rfl,rfl,hpt⟩
     exact ⟨h.ob q (.arr n tS) (encS m'),by simp only [go_sem],rfl,e,m',rfl,rfl,hpt⟩) ?_
    rintro v h1 ⟨e,m',rfl,rfl,hpt,hpv⟩
    have hP':=hP.eq hbl hpt (fun x x1 x2=>by
     obtain ⟨j,j1,j2,ej⟩:=hpt.hp.mid hcd (by omega) x1 x2
     rw [hpv,ej]
     exact sLe_trans (by simp [sLe,cc]) (hP.low ca j j1 j2))
    have g1:=hpt.ac
    have g2:=hpt.cb
    simp (maxSteps:=999999) (disch:=omega) only [go_sem]
    refine ih _ (m',e,d,(z - 1),false,wp) (by omega) ?_ ⟨hP',by dsimp only; omega,by dsimp only; omega,by dsimp only; omega⟩
    simp only [go_sem]
 | true =>
  simp (maxSteps:=999999) (disch:=omega) only [go_sem,eL,c12',cz]
  refine W_callR (R:=fun v h1=>h1 = h.ob q (.arr n tS) (encS m) ∧ ∃ (p : Nat) (t : Int),v = encP p t ∧ c ≤ p ∧ p < d ∧ (t = 0 ∨ t = 1 ∨ t = 2)) rfl ⟨rfl,rfl⟩ (by
   simp only [go_sem]
   refine Ok.mono (pivot_ok (q:=q) (n:=n) (a:=c) (b:=d) (l:=m) (by exact fun u=>hls _ u (Nat.le_succ _)) hF (by omega) (by omega) (by omega) (by omega) (by simp only [go_sem,])) ?_
   rintro v h' ⟨rfl,hh⟩
   exact ⟨_,rfl,rfl,rfl,hh⟩) ?_
  rintro v h1 ⟨rfl,p,t,rfl,p1,p2,ht⟩
  simp (maxSteps:=999999) (disch:=omega) only [go_sem,extP0,extP1]
  by_cases ct : t = 2
  ·simp (maxSteps:=999999) (disch:=omega) only [go_sem,ct]
   refine W_callR (R:=fun v h1=>v = .tup .unit ∧ ∃ m',h1 = h.ob q (.arr n tS) (encS m') ∧ PermIn m m' c d) rfl ⟨rfl,rfl⟩ (by
    simp only [go_sem]
    refine Ok.mono (reverse_ok (q:=q) (n:=n) (a:=c) (b:=d) (l:=m) (by exact hl) (by omega) (by omega) (by omega) hcd (by simp only [go_sem,])) ?_
    rintro v h' ⟨rfl,m',rfl,hp'⟩
    exact ⟨h.ob q (.arr n tS) (encS m'),by simp only [go_sem],rfl,rfl,m',rfl,hp'⟩) ?_
   rintro v h1 ⟨rfl,m',rfl,hp'⟩
   obtain ⟨p',hpp⟩ : ∃ p' : Nat,(d : Int) - 1 - ((p : Int) - (c : Int)) = (p' : Int):=⟨d - 1 - (p - c),by omega⟩
   replace hP:=hP.perm hbl hp'
   have p1' : c ≤ p':=by omega
   have p2' : p' < d:=by omega
   clear p1 p2
   have p1:=p1'
   have p2:=p2'
   replace hm:=hP.hp.len
   clear hp'
   generalize m' = m at hP hm ⊢
   simp (maxSteps:=999999) (disch:=omega) only [go_sem,hpp]
   clear hpp p1' p2'
   generalize p' = p at p1 p2 ⊢
   cases wp with
   | true =>
    simp (maxSteps:=999999) (disch:=omega) only [go_sem]
    refine W_callR (R:=fun v h1=>∃ (t : Bool) (m' : List Str),v = .bool t ∧ h1 = h.ob q (.arr n tS) (encS m') ∧ PermIn m m' c d ∧ (t = true → SortedIn m' c d)) rfl ⟨rfl,rfl⟩ (by
     simp only [go_sem]
     refine Ok.mono (partialIns_ok (q:=q) (n:=n) (a:=c) (b:=d) (l:=m) (by exact hl) hF (by omega) (by omega) (by omega) (by omega) hP.low (by simp only [go_sem,])) ?_
     rintro v h' ⟨t,m',rfl,rfl,hp',hs'⟩
     exact ⟨h.ob q (.arr n tS) (encS m'),by simp only [go_sem],rfl,t,m',rfl,rfl,hp',hs'⟩) ?_
    rintro v h1 ⟨tt,m',rfl,rfl,hp',hs'⟩
    cases tt with
    | true =>
     simp (maxSteps:=999999) (disch:=omega) only [go_sem]
     exact ⟨m',rfl,hP.fin hbl hp' (hs' rfl)⟩
    | false =>
    simp (maxSteps:=999999) (disch:=omega) only [go_sem]
    replace hP:=hP.perm hbl hp'
    replace hm:=hP.hp.len
    clear hp' hs'
    generalize m' = m at hP hm ⊢
    by_cases ca : 0 < c
    rotate_left
    ·have ca' : ¬(0 : Int) < (c : Int):=by omega
     simp (maxSteps:=999999) (disch:=omega) only [go_sem,ca']
     refine W_callR (R:=fun v h1=>∃ (e : Nat) (t : Bool) (m' : List Str),v = .tup (.cons (.int .i64 e) (.cons (.bool t) .unit)) ∧ h1 = h.ob q (.arr n tS) (encS m') ∧ Parted m m' c d e) rfl ⟨rfl,rfl⟩ (by
      simp only [go_sem]
      refine Ok.mono (partition_ok (q:=q) (n:=n) (a:=c) (b:=d) (p:=p) (l:=m) (by exact hl) hF (by omega) (by omega) (by omega) p1 p2 (by simp only [go_sem,])) ?_
      rintro v h' ⟨e,t,m',rfl,rfl,hpt⟩
      exact ⟨h.ob q (.arr n tS) (encS m'),by simp only [go_sem],rfl,e,t,m',rfl,rfl,hpt⟩) ?_
     rintro v h1 ⟨e,tp,m',rfl,rfl,hpt⟩
     replace hP:=hP.perm hbl hpt.hp
     have g1:=hpt.ca
     have g2:=hpt.cb
     have hm':=hP.hp.len
     simp (maxSteps:=999999) (disch:=omega) only [go_sem,extQ0,extQ1,hquo8]
     by_cases c5 : (e : Int) - (c : Int) < (d : Int) - (e : Int)
     ·simp (maxSteps:=999999) (disch:=omega) only [go_sem,c5]
      refine W_callR (R:=fun v h1=>v = .tup .unit ∧ ∃ m2,h1 = h.ob q (.arr n tS) (encS m2) ∧ PermIn m' m2 c e ∧ SortedIn m2 c e) rfl ⟨rfl,rfl⟩ (by
       simp only [go_sem]
       refine Ok.mono (IH (e - c) (by omega) (l:=m') (a:=c) (b:=e) (by exact hl) (by exact fun x u hx=>hls x u (Nat.le_trans (Nat.le_succ _) hx)) (by omega) (by omega) g1 (by omega) ⟨by omega,by omega⟩ (fun h0 x x1 x2=>hP.low h0 x x1 (by omega)) (by simp only [go_sem,])) ?_
       rintro v h' ⟨rfl,m2,rfl,hp',hs'⟩
       exact ⟨h.ob q (.arr n tS) (encS m2),by simp only [go_sem],rfl,rfl,m2,rfl,hp',hs'⟩) ?_
      rintro v h1 ⟨rfl,m2,rfl,hp',hs'⟩
      simp (maxSteps:=999999) (disch:=omega) only [go_sem]
      refine ih _ (m2,e + 1,d,z,decide (((L / 8 : Nat) : Int) ≤ (e : Int) - (c : Int)),tp) (by omega) ?_ ⟨hP.left hbl g1 g2 hp' hs' hpt.lo hpt.up,by dsimp only; omega,by dsimp only; omega,by dsimp only; omega⟩
      simp only [go_sem]
     ·simp (maxSteps:=999999) (disch:=omega) only [go_sem,c5]
      refine W_callR (R:=fun v h1=>v = .tup .unit ∧ ∃ m2,h1 = h.ob q (.arr n tS) (encS m2) ∧ PermIn m' m2 (e + 1) d ∧ SortedIn m2 (e + 1) d) rfl ⟨rfl,rfl⟩ (by
       simp only [go_sem]
       refine Ok.mono (IH (d - (e + 1)) (by omega) (l:=m') (a:=e + 1) (b:=d) (by exact hl) (by exact fun x u hx=>hls x u (Nat.le_trans (Nat.le_succ _) hx)) (by omega) (by omega) g2 (by omega) ⟨by omega,by omega⟩ (fun h0 x x1 x2=>by rw [Nat.add_sub_cancel]; simp [sLe,hpt.up x (by omega) x2]) (by simp only [go_sem,])) ?_
       rintro v h' ⟨rfl,m2,rfl,hp',hs'⟩
       exact ⟨h.ob q (.arr n tS) (encS m2),by simp only [go_sem],rfl,rfl,m2,rfl,hp',hs'⟩) ?_
      rintro v h1 ⟨rfl,m2,rfl,hp',hs'⟩
      simp (maxSteps:=999999) (disch:=omega) only [go_sem]
      refine ih _ (m2,c,e,z,decide (((L / 8 : Nat) : Int) ≤ (d : Int) - (e : Int)),tp) (by omega) ?_ ⟨hP.right hbl g1 g2 hp' hs' hpt.lo hpt.up,by dsimp only; omega,by dsimp only; omega,by dsimp only; omega⟩
      simp only [go_sem]
    have ec : ((c : Int) - 1).toNat = c - 1:=by omega
    have ca' : (0 : Int) < (c : Int):=by omega
    simp (maxSteps:=999999) (disch:=omega) only [go_sem,ec,ca']
    refine W_callvp (v:=.int .i64 (cmpS (txt m (c - 1)) (txt m p))) (by simp only [go_sem] <;> rfl) hf1 hf2 (by simp only [go_sem]; exact hf3 _ _ _ _) ?_
    simp (maxSteps:=999999) (disch:=omega) only [go_sem]
    cases cc : sLt (txt m (c - 1)) (txt m p) with
    | true =>
     have cc' : cmpS (txt m (c - 1)) (txt m p) < 0:=(cmpS_lt _ _).2 cc
     simp (maxSteps:=999999) (disch:=omega) only [go_sem,cc']
     refine W_callR (R:=fun v h1=>∃ (e : Nat) (t : Bool) (m' : List Str),v = .tup (.cons (.int .i64 e) (.cons (.bool t) .unit)) ∧ h1 = h.ob q (.arr n tS) (encS m') ∧ Parted m m' c d e) rfl ⟨rfl,rfl⟩ (by
      simp only [go_sem]
      refine Ok.mono (partition_ok (q:=q) (n:=n) (a:=c) (b:=d) (p:=p) (l:=m) (by exact hl) hF (by omega) (by omega) (by omega) p1 p2 (by simp only [go_sem,])) ?_
      rintro v h' ⟨e,t,m',rfl,rfl,hpt⟩
      exact ⟨h.ob q (.arr n tS) (encS m'),by simp only [go_sem],rfl,e,t,m',rfl,rfl,hpt⟩) ?_
     rintro v h1 ⟨e,tp,m',rfl,rfl,hpt⟩
     replace hP:=hP.perm hbl hpt.hp
     have g1:=hpt.ca
     have g2:=hpt.cb
     have hm':=hP.hp.len
     simp (maxSteps:=999999) (disch:=omega) only [go_sem,extQ0,extQ1,hquo8]
     by_cases c5 : (e : Int) - (c : Int) < (d : Int) - (e : Int)
     ·simp (maxSteps:=999999) (disch:=omega) only [go_sem,c5]
      refine W_callR (R:=fun v h1=>v = .tup .unit ∧ ∃ m2,h1 = h.ob q (.arr n tS) (encS m2) ∧ PermIn m' m2 c e ∧ SortedIn m2 c e) rfl ⟨rfl,rfl⟩ (by
       simp only [go_sem]
       refine Ok.mono (IH (e - c) (by omega) (l:=m') (a:=c) (b:=e) (by exact hl) (by exact fun x u hx=>hls x u (Nat.le_trans (Nat.le_succ _) hx)) (by omega) (by omega) g1 (by omega) ⟨by omega,by omega⟩ (fun h0 x x1 x2=>hP.low h0 x x1 (by omega)) (by simp only [go_sem,])) ?_
       rintro v h' ⟨rfl,m2,rfl,hp',hs'⟩
       exact ⟨h.ob q (.arr n tS) (encS m2),by simp only [go_sem],rfl,rfl,m2,rfl,hp',hs'⟩) ?_
      rintro v h1 ⟨rfl,m2,rfl,hp',hs'⟩
      simp (maxSteps:=999999) (disch:=omega) only [go_sem]
      refine ih _ (m2,e + 1,d,z,decide (((L / 8 : Nat) : Int) ≤ (e : Int) - (c : Int)),tp) (by omega) ?_ ⟨hP.left hbl g1 g2 hp' hs' hpt.lo hpt.up,by dsimp only; omega,by dsimp only; omega,by dsimp only; omega⟩
      simp only [go_sem]
     ·simp (maxSteps:=999999) (disch:=omega) only [go_sem,c5]
      refine W_callR (R:=fun v h1=>v = .tup .unit ∧ ∃ m2,h1 = h.ob q (.arr n tS) (encS m2) ∧ PermIn m' m2 (e + 1) d ∧ SortedIn m2 (e + 1) d) rfl ⟨rfl,rfl⟩ (by
       simp only [go_sem]
       refine Ok.mono (IH (d - (e + 1)) (by omega) (l:=m') (a:=e + 1) (b:=d) (by exact hl) (by exact fun x u hx=>hls x u (Nat.le_trans (Nat.le_succ _) hx)) (by omega) (by omega) g2 (by omega) ⟨by omega,by omega⟩ (fun h0 x x1 x2=>by rw [Nat.add_sub_cancel]; simp [sLe,hpt.up x (by omega) x2]) (by simp only [go_sem,])) ?_
       rintro v h' ⟨rfl,m2,rfl,hp',hs'⟩
       exact ⟨h.ob q (.arr n tS) (encS m2),by simp only [go_sem],rfl,rfl,m2,rfl,hp',hs'⟩) ?_
      rintro v h1 ⟨rfl,m2,rfl,hp',hs'⟩
      simp (maxSteps:=999999) (disch:=omega) only [go_sem]
      refine ih _ (m2,c,e,z,decide (((L / 8 : Nat) : Int) ≤ (d : Int) - (e : Int)),tp) (by omega) ?_ ⟨hP.right hbl g1 g2 hp' hs' hpt.lo hpt.up,by dsimp only; omega,by dsimp only; omega,by dsimp only; omega⟩
      simp only [go_sem]
    | false =>
     have cc' : ¬cmpS (txt m (c - 1)) (txt m p) < 0:=fun e=>by rw [cmpS_lt,cc] at e; simp at e
     simp (maxSteps:=999999) (disch:=omega) only [go_sem,cc']
     refine W_callR (R:=fun v h1=>∃ (e : Nat) (m' : List Str),v = .int .i64 e ∧ h1 = h.ob q (.arr n tS) (encS m') ∧ PartEq m m' c d e ∧ txt m' c = txt m p) rfl ⟨rfl,rfl⟩ (by
      simp only [go_sem]
      refine Ok.mono (partEq_ok (q:=q) (n:=n) (a:=c) (b:=d) (p:=p) (l:=m) (by exact hl) hF (by omega) (by omega) (by omega) p1 p2 (by simp only [go_sem,])) ?_
      rintro v h' ⟨e,m',rfl,rfl,hpt⟩
      exact ⟨h.ob q (.arr n tS) (encS m'),by simp only [go_sem],rfl,e,m',rfl,rfl,hpt⟩) ?_
     rintro v h1 ⟨e,m',rfl,rfl,hpt,hpv⟩
     have hP':=hP.eq hbl hpt (fun x x1 x2=>by
      obtain ⟨j,j1,j2,ej⟩:=hpt.hp.mid hcd (by omega) x1 x2
      rw [hpv,ej]
      exact sLe_trans (by simp [sLe,cc]) (hP.low ca j j1 j2))
     have g1:=hpt.ac
     have g2:=hpt.cb
     simp (maxSteps:=999999) (disch:=omega) only [go_sem]
     refine ih _ (m',e,d,z,true,true) (by omega) ?_ ⟨hP',by dsimp only; omega,by dsimp only; omega,by dsimp only; omega⟩
     simp only [go_sem]
   | false =>
    simp (maxSteps:=999999) (disch:=omega) only [go_sem]
    by_cases ca : 0 < c
    rotate_left
    ·have ca' : ¬(0 : Int) < (c : Int):=by omega
     simp (maxSteps:=999999) (disch:=omega) only [go_sem,ca']
     refine W_callR (R:=fun v h1=>∃ (e : Nat) (t : Bool) (m' : List Str),v = .tup (.cons (.int .i64 e) (.cons (.bool t) .unit)) ∧ h1 = h.ob q (.arr n tS) (encS m') ∧ Parted m m' c d e) rfl ⟨rfl,rfl⟩ (by
      simp only [go_sem]
      refine Ok.mono (partition_ok (q:=q) (n:=n) (a:=c) (b:=d) (p:=p) (l:=m) (by exact hl) hF (by omega) (by omega) (by omega) p1 p2 (by simp only [go_sem,])) ?_
      rintro v h' ⟨e,t,m',rfl,rfl,hpt⟩
      exact ⟨h.ob q (.arr n tS) (encS m'),by simp only [go_sem],rfl,e,t,m',rfl,rfl,hpt⟩) ?_
     rintro v h1 ⟨e,tp,m',rfl,rfl,hpt⟩
     replace hP:=hP.perm hbl hpt.hp
     have g1:=hpt.ca
     have g2:=hpt.cb
     have hm':=hP.hp.len
     simp (maxSteps:=999999) (disch:=omega) only [go_sem,extQ0,extQ1,hquo8]
     by_cases c5 : (e : Int) - (c : Int) < (d : Int) - (e : Int)
     ·simp (maxSteps:=999999) (disch:=omega) only [go_sem,c5]
      refine W_callR (R:=fun v h1=>v = .tup .unit ∧ ∃ m2,h1 = h.ob q (.arr n tS) (encS m2) ∧ PermIn m' m2 c e ∧ SortedIn m2 c e) rfl ⟨rfl,rfl⟩ (by
       simp only [go_sem]
       refine Ok.mono (IH (e - c) (by omega) (l:=m') (a:=c) (b:=e) (by exact hl) (by exact fun x u hx=>hls x u (Nat.le_trans (Nat.le_succ _) hx)) (by omega) (by omega) g1 (by omega) ⟨by omega,by omega⟩ (fun h0 x x1 x2=>hP.low h0 x x1 (by omega)) (by simp only [go_sem,])) ?_
       rintro v h' ⟨rfl,m2,rfl,hp',hs'⟩
       exact ⟨h.ob q (.arr n tS) (encS m2),by simp only [go_sem],rfl,rfl,m2,rfl,hp',hs'⟩) ?_
      rintro v h1 ⟨rfl,m2,rfl,hp',hs'⟩
      simp (maxSteps:=999999) (disch:=omega) only [go_sem]
      refine ih _ (m2,e + 1,d,z,decide (((L / 8 : Nat) : Int) ≤ (e : Int) - (c : Int)),tp) (by omega) ?_ ⟨hP.left hbl g1 g2 hp' hs' hpt.lo hpt.up,by dsimp only; omega,by dsimp only; omega,by dsimp only; omega⟩
      simp only [go_sem]
     ·simp (maxSteps:=999999) (disch:=omega) only [go_sem,c5]
      refine W_callR (R:=fun v h1=>v = .tup .unit ∧ ∃ m2,h1 = h.ob q (.arr n tS) (encS m2) ∧ PermIn m' m2 (e + 1) d ∧ SortedIn m2 (e + 1) d) rfl ⟨rfl,rfl⟩ (by
       simp only [go_sem]
       refine Ok.mono (IH (d - (e + 1)) (by omega) (l:=m') (a:=e + 1) (b:=d) (by exact hl) (by exact fun x u hx=>hls x u (Nat.le_trans (Nat.le_succ _) hx)) (by omega) (by omega) g2 (by omega) ⟨by omega,by omega⟩ (fun h0 x x1 x2=>by rw [Nat.add_sub_cancel]; simp [sLe,hpt.up x (by omega) x2]) (by simp only [go_sem,])) ?_
       rintro v h' ⟨rfl,m2,rfl,hp',hs'⟩
       exact ⟨h.ob q (.arr n tS) (encS m2),by simp only [go_sem],rfl,rfl,m2,rfl,hp',hs'⟩) ?_
      rintro v h1 ⟨rfl,m2,rfl,hp',hs'⟩
      simp (maxSteps:=999999) (disch:=omega) only [go_sem]
      refine ih _ (m2,c,e,z,decide (((L / 8 : Nat) : Int) ≤ (d : Int) - (e : Int)),tp) (by omega) ?_ ⟨hP.right hbl g1 g2 hp' hs' hpt.lo hpt.up,by dsimp only; omega,by dsimp only; omega,by dsimp only; omega⟩
      simp only [go_sem]
    have ec : ((c : Int) - 1).toNat = c - 1:=by omega
    have ca' : (0 : Int) < (c : Int):=by omega
    simp (maxSteps:=999999) (disch:=omega) only [go_sem,ec,ca']
    refine W_callvp (v:=.int .i64 (cmpS (txt m (c - 1)) (txt m p))) (by simp only [go_sem] <;> rfl) hf1 hf2 (by simp only [go_sem]; exact hf3 _ _ _ _) ?_
    simp (maxSteps:=999999) (disch:=omega) only [go_sem]
    cases cc : sLt (txt m (c - 1)) (txt m p) with
    | true =>
     have cc' : cmpS (txt m (c - 1)) (txt m p) < 0:=(cmpS_lt _ _).2 cc
     simp (maxSteps:=999999) (disch:=omega) only [go_sem,cc']
     refine W_callR (R:=fun v h1=>∃ (e : Nat) (t : Bool) (m' : List Str),v = .tup (.cons (.int .i64 e) (.cons (.bool t) .unit)) ∧ h1 = h.ob q (.arr n tS) (encS m') ∧ Parted m m' c d e) rfl ⟨rfl,rfl⟩ (by
      simp only [go_sem]
      refine Ok.mono (partition_ok (q:=q) (n:=n) (a:=c) (b:=d) (p:=p) (l:=m) (by exact hl) hF (by omega) (by omega) (by omega) p1 p2 (by simp only [go_sem,])) ?_
      rintro v h' ⟨e,t,m',rfl,rfl,hpt⟩
      exact ⟨h.ob q (.arr n tS) (encS m'),by simp only [go_sem],rfl,e,t,m',rfl,rfl,hpt⟩) ?_
     rintro v h1 ⟨e,tp,m',rfl,rfl,hpt⟩
     replace hP:=hP.perm hbl hpt.hp
     have g1:=hpt.ca
     have g2:=hpt.cb
     have hm':=hP.hp.len
     simp (maxSteps:=999999) (disch:=omega) only [go_sem,extQ0,extQ1,hquo8]
     by_cases c5 : (e : Int) - (c : Int) < (d : Int) - (e : Int)
     ·simp (maxSteps:=999999) (disch:=omega) only [go_sem,c5]
      refine W_callR (R:=fun v h1=>v = .tup .unit ∧ ∃ m2,h1 = h.ob q (.arr n tS) (encS m2) ∧ PermIn m' m2 c e ∧ SortedIn m2 c e) rfl ⟨rfl,rfl⟩ (by
       simp only [go_sem]
       refine Ok.mono (IH (e - c) (by omega) (l:=m') (a:=c) (b:=e) (by exact hl) (by exact fun x u hx=>hls x u (Nat.le_trans (Nat.le_succ _) hx)) (by omega) (by omega) g1 (by omega) ⟨by omega,by omega⟩ (fun h0 x x1 x2=>hP.low h0 x x1 (by omega)) (by simp only [go_sem,])) ?_
       rintro v h' ⟨rfl,m2,rfl,hp',hs'⟩
       exact ⟨h.ob q (.arr n tS) (encS m2),by simp only [go_sem],rfl,rfl,m2,rfl,hp',hs'⟩) ?_
      rintro v h1 ⟨rfl,m2,rfl,hp',hs'⟩
      simp (maxSteps:=999999) (disch:=omega) only [go_sem]
      refine ih _ (m2,e + 1,d,z,decide (((L / 8 : Nat) : Int) ≤ (e : Int) - (c : Int)),tp) (by omega) ?_ ⟨hP.left hbl g1 g2 hp' hs' hpt.lo hpt.up,by dsimp only; omega,by dsimp only; omega,by dsimp only; omega⟩
      simp only [go_sem]
     ·simp (maxSteps:=999999) (disch:=omega) only [go_sem,c5]
      refine W_callR (R:=fun v h1=>v = .tup .unit ∧ ∃ m2,h1 = h.ob q (.arr n tS) (encS m2) ∧ PermIn m' m2 (e + 1) d ∧ SortedIn m2 (e + 1) d) rfl ⟨rfl,rfl⟩ (by
       simp only [go_sem]
       refine Ok.mono (IH (d - (e + 1)) (by omega) (l:=m') (a:=e + 1) (b:=d) (by exact hl) (by exact fun x u hx=>hls x u (Nat.le_trans (Nat.le_succ _) hx)) (by omega) (by omega) g2 (by omega) ⟨by omega,by omega⟩ (fun h0 x x1 x2=>by rw [Nat.add_sub_cancel]; simp [sLe,hpt.up x (by omega) x2]) (by simp only [go_sem,])) ?_
       rintro v h' ⟨rfl,m2,rfl,hp',hs'⟩
       exact ⟨h.ob q (.arr n tS) (encS m2),by simp only [go_sem],rfl,rfl,m2,rfl,hp',hs'⟩) ?_
      rintro v h1 ⟨rfl,m2,rfl,hp',hs'⟩
      simp (maxSteps:=999999) (disch:=omega) only [go_sem]
      refine ih _ (m2,c,e,z,decide (((L / 8 : Nat) : Int) ≤ (d : Int) - (e : Int)),tp) (by omega) ?_ ⟨hP.right hbl g1 g2 hp' hs' hpt.lo hpt.up,by dsimp only; omega,by dsimp only; omega,by dsimp only; omega⟩
      simp only [go_sem]
    | false =>
     have cc' : ¬cmpS (txt m (c - 1)) (txt m p) < 0:=fun e=>by rw [cmpS_lt,cc] at e; simp at e
     simp (maxSteps:=999999) (disch:=omega) only [go_sem,cc']
     refine W_callR (R:=fun v h1=>∃ (e : Nat) (m' : List Str),v = .int .i64 e ∧ h1 = h.ob q (.arr n tS) (encS m') ∧ PartEq m m' c d e ∧ txt m' c = txt m p) rfl ⟨rfl,rfl⟩ (by
      simp only [go_sem]
      refine Ok.mono (partEq_ok (q:=q) (n:=n) (a:=c) (b:=d) (p:=p) (l:=m) (by exact hl) hF (by omega) (by omega) (by omega) p1 p2 (by simp only [go_sem,])) ?_
      rintro v h' ⟨e,m',rfl,rfl,hpt⟩
      exact ⟨h.ob q (.arr n tS) (encS m'),by simp only [go_sem],rfl,e,m',rfl,rfl,hpt⟩) ?_
     rintro v h1 ⟨e,m',rfl,rfl,hpt,hpv⟩
     have hP':=hP.eq hbl hpt (fun x x1 x2=>by
      obtain ⟨j,j1,j2,ej⟩:=hpt.hp.mid hcd (by omega) x1 x2
      rw [hpv,ej]
      exact sLe_trans (by simp [sLe,cc]) (hP.low ca j j1 j2))
     have g1:=hpt.ac
     have g2:=hpt.cb
     simp (maxSteps:=999999) (disch:=omega) only [go_sem]
     refine ih _ (m',e,d,z,true,false) (by omega) ?_ ⟨hP',by dsimp only; omega,by dsimp only; omega,by dsimp only; omega⟩
     simp only [go_sem]
  ·simp (maxSteps:=999999) (disch:=omega) only [go_sem,ct]
   by_cases ct1 : t = 1
   ·cases wp with
    | true =>
     simp (maxSteps:=999999) (disch:=omega) only [go_sem,ct1]
     refine W_callR (R:=fun v h1=>∃ (t : Bool) (m' : List Str),v = .bool t ∧ h1 = h.ob q (.arr n tS) (encS m') ∧ PermIn m m' c d ∧ (t = true → SortedIn m' c d)) rfl ⟨rfl,rfl⟩ (by
      simp only [go_sem]
      refine Ok.mono (partialIns_ok (q:=q) (n:=n) (a:=c) (b:=d) (l:=m) (by exact hl) hF (by omega) (by omega) (by omega) (by omega) hP.low (by simp only [go_sem,])) ?_
      rintro v h' ⟨t,m',rfl,rfl,hp',hs'⟩
      exact ⟨h.ob q (.arr n tS) (encS m'),by simp only [go_sem],rfl,t,m',rfl,rfl,hp',hs'⟩) ?_
     rintro v h1 ⟨tt,m',rfl,rfl,hp',hs'⟩
     cases tt with
     | true =>
      simp (maxSteps:=999999) (disch:=omega) only [go_sem]
      exact ⟨m',rfl,hP.fin hbl hp' (hs' rfl)⟩
     | false =>
     simp (maxSteps:=999999) (disch:=omega) only [go_sem]
     replace hP:=hP.perm hbl hp'
     replace hm:=hP.hp.len
     clear hp' hs'
     generalize m' = m at hP hm ⊢
     by_cases ca : 0 < c
     rotate_left
     ·have ca' : ¬(0 : Int) < (c : Int):=by omega
      simp (maxSteps:=999999) (disch:=omega) only [go_sem,ca']
      refine W_callR (R:=fun v h1=>∃ (e : Nat) (t : Bool) (m' : List Str),v = .tup (.cons (.int .i64 e) (.cons (.bool t) .unit)) ∧ h1 = h.ob q (.arr n tS) (encS m') ∧ Parted m m' c d e) rfl ⟨rfl,rfl⟩ (by
       simp only [go_sem]
       refine Ok.mono (partition_ok (q:=q) (n:=n) (a:=c) (b:=d) (p:=p) (l:=m) (by exact hl) hF (by omega) (by omega) (by omega) p1 p2 (by simp only [go_sem,])) ?_
       rintro v h' ⟨e,t,m',rfl,rfl,hpt⟩
       exact ⟨h.ob q (.arr n tS) (encS m'),by simp only [go_sem],rfl,e,t,m',rfl,rfl,hpt⟩) ?_
      rintro v h1 ⟨e,tp,m',rfl,rfl,hpt⟩
      replace hP:=hP.perm hbl hpt.hp
      have g1:=hpt.ca
      have g2:=hpt.cb
      have hm':=hP.hp.len
      simp (maxSteps:=999999) (disch:=omega) only [go_sem,extQ0,extQ1,hquo8]
      by_cases c5 : (e : Int) - (c : Int) < (d : Int) - (e : Int)
      ·simp (maxSteps:=999999) (disch:=omega) only [go_sem,c5]
       refine W_callR (R:=fun v h1=>v = .tup .unit ∧ ∃ m2,h1 = h.ob q (.arr n tS) (encS m2) ∧ PermIn m' m2 c e ∧ SortedIn m2 c e) rfl ⟨rfl,rfl⟩ (by
        simp only [go_sem]
        refine Ok.mono (IH (e - c) (by omega) (l:=m') (a:=c) (b:=e) (by exact hl) (by exact fun x u hx=>hls x u (Nat.le_trans (Nat.le_succ _) hx)) (by omega) (by omega) g1 (by omega) ⟨by omega,by omega⟩ (fun h0 x x1 x2=>hP.low h0 x x1 (by omega)) (by simp only [go_sem,])) ?_
        rintro v h' ⟨rfl,m2,rfl,hp',hs'⟩
        exact ⟨h.ob q (.arr n tS) (encS m2),by simp only [go_sem],rfl,rfl,m2,rfl,hp',hs'⟩) ?_
       rintro v h1 ⟨rfl,m2,rfl,hp',hs'⟩
       simp (maxSteps:=999999) (disch:=omega) only [go_sem]
       refine ih _ (m2,e + 1,d,z,decide (((L / 8 : Nat) : Int) ≤ (e : Int) - (c : Int)),tp) (by omega) ?_ ⟨hP.left hbl g1 g2 hp' hs' hpt.lo hpt.up,by dsimp only; omega,by dsimp only; omega,by dsimp only; omega⟩
       simp only [go_sem]
      ·simp (maxSteps:=999999) (disch:=omega) only [go_sem,c5]
       refine W_callR (R:=fun v h1=>v = .tup .unit ∧ ∃ m2,h1 = h.ob q (.arr n tS) (encS m2) ∧ PermIn m' m2 (e + 1) d ∧ SortedIn m2 (e + 1) d) rfl ⟨rfl,rfl⟩ (by
        simp only [go_sem]
        refine Ok.mono (IH (d - (e + 1)) (by omega) (l:=m') (a:=e + 1) (b:=d) (by exact hl) (by exact fun x u hx=>hls x u (Nat.le_trans (Nat.le_succ _) hx)) (by omega) (by omega) g2 (by omega) ⟨by omega,by omega⟩ (fun h0 x x1 x2=>by rw [Nat.add_sub_cancel]; simp [sLe,hpt.up x (by omega) x2]) (by simp only [go_sem,])) ?_
        rintro v h' ⟨rfl,m2,rfl,hp',hs'⟩
        exact ⟨h.ob q (.arr n tS) (encS m2),by simp only [go_sem],rfl,rfl,m2,rfl,hp',hs'⟩) ?_
       rintro v h1 ⟨rfl,m2,rfl,hp',hs'⟩
       simp (maxSteps:=999999) (disch:=omega) only [go_sem]
       refine ih _ (m2,c,e,z,decide (((L / 8 : Nat) : Int) ≤ (d : Int) - (e : Int)),tp) (by omega) ?_ ⟨hP.right hbl g1 g2 hp' hs' hpt.lo hpt.up,by dsimp only; omega,by dsimp only; omega,by dsimp only; omega⟩
       simp only [go_sem]
     have ec : ((c : Int) - 1).toNat = c - 1:=by omega
     have ca' : (0 : Int) < (c : Int):=by omega
     simp (maxSteps:=999999) (disch:=omega) only [go_sem,ec,ca']
     refine W_callvp (v:=.int .i64 (cmpS (txt m (c - 1)) (txt m p))) (by simp only [go_sem] <;> rfl) hf1 hf2 (by simp only [go_sem]; exact hf3 _ _ _ _) ?_
     simp (maxSteps:=999999) (disch:=omega) only [go_sem]
     cases cc : sLt (txt m (c - 1)) (txt m p) with
     | true =>
      have cc' : cmpS (txt m (c - 1)) (txt m p) < 0:=(cmpS_lt _ _).2 cc
      simp (maxSteps:=999999) (disch:=omega) only [go_sem,cc']
      refine W_callR (R:=fun v h1=>∃ (e : Nat) (t : Bool) (m' : List Str),v = .tup (.cons (.int .i64 e) (.cons (.bool t) .unit)) ∧ h1 = h.ob q (.arr n tS) (encS m') ∧ Parted m m' c d e) rfl ⟨rfl,rfl⟩ (by
       simp only [go_sem]
       refine Ok.mono (partition_ok (q:=q) (n:=n) (a:=c) (b:=d) (p:=p) (l:=m) (by exact hl) hF (by omega) (by omega) (by omega) p1 p2 (by simp only [go_sem,])) ?_
       rintro v h' ⟨e,t,m',rfl,rfl,hpt⟩
       exact ⟨h.ob q (.arr n tS) (encS m'),by simp only [go_sem],rfl,e,t,m',rfl,rfl,hpt⟩) ?_
      rintro v h1 ⟨e,tp,m',rfl,rfl,hpt⟩
      replace hP:=hP.perm hbl hpt.hp
      have g1:=hpt.ca
      have g2:=hpt.cb
      have hm':=hP.hp.len
      simp (maxSteps:=999999) (disch:=omega) only [go_sem,extQ0,extQ1,hquo8]
      by_cases c5 : (e : Int) - (c : Int) < (d : Int) - (e : Int)
      ·simp (maxSteps:=999999) (disch:=omega) only [go_sem,c5]
       refine W_callR (R:=fun v h1=>v = .tup .unit ∧ ∃ m2,h1 = h.ob q (.arr n tS) (encS m2) ∧ PermIn m' m2 c e ∧ SortedIn m2 c e) rfl ⟨rfl,rfl⟩ (by
        simp only [go_sem]
        refine Ok.mono (IH (e - c) (by omega) (l:=m') (a:=c) (b:=e) (by exact hl) (by exact fun x u hx=>hls x u (Nat.le_trans (Nat.le_succ _) hx)) (by omega) (by omega) g1 (by omega) ⟨by omega,by omega⟩ (fun h0 x x1 x2=>hP.low h0 x x1 (by omega)) (by simp only [go_sem,])) ?_
        rintro v h' ⟨rfl,m2,rfl,hp',hs'⟩
        exact ⟨h.ob q (.arr n tS) (encS m2),by simp only [go_sem],rfl,rfl,m2,rfl,hp',hs'⟩) ?_
       rintro v h1 ⟨rfl,m2,rfl,hp',hs'⟩
       simp (maxSteps:=999999) (disch:=omega) only [go_sem]
       refine ih _ (m2,e + 1,d,z,decide (((L / 8 : Nat) : Int) ≤ (e : Int) - (c : Int)),tp) (by omega) ?_ ⟨hP.left hbl g1 g2 hp' hs' hpt.lo hpt.up,by dsimp only; omega,by dsimp only; omega,by dsimp only; omega⟩
       simp only [go_sem]
      ·simp (maxSteps:=999999) (disch:=omega) only [go_sem,c5]
       refine W_callR (R:=fun v h1=>v = .tup .unit ∧ ∃ m2,h1 = h.ob q (.arr n tS) (encS m2) ∧ PermIn m' m2 (e + 1) d ∧ SortedIn m2 (e + 1) d) rfl ⟨rfl,rfl⟩ (by
        simp only [go_sem]
        refine Ok.mono (IH (d - (e + 1)) (by omega) (l:=m') (a:=e + 1) (b:=d) (by exact hl) (by exact fun x u hx=>hls x u (Nat.le_trans (Nat.le_succ _) hx)) (by omega) (by omega) g2 (by omega) ⟨by omega,by omega⟩ (fun h0 x x1 x2=>by rw [Nat.add_sub_cancel]; simp [sLe,hpt.up x (by omega) x2]) (by simp only [go_sem,])) ?_
        rintro v h' ⟨rfl,m2,rfl,hp',hs'⟩
        exact ⟨h.ob q (.arr n tS) (encS m2),by simp only [go_sem],rfl,rfl,m2,rfl,hp',hs'⟩) ?_
       rintro v h1 ⟨rfl,m2,rfl,hp',hs'⟩
       simp (maxSteps:=999999) (disch:=omega) only [go_sem]
       refine ih _ (m2,c,e,z,decide (((L / 8 : Nat) : Int) ≤ (d : Int) - (e : Int)),tp) (by omega) ?_ ⟨hP.right hbl g1 g2 hp' hs' hpt.lo hpt.up,by dsimp only; omega,by dsimp only; omega,by dsimp only; omega⟩
       simp only [go_sem]
     | false =>
      have cc' : ¬cmpS (txt m (c - 1)) (txt m p) < 0:=fun e=>by rw [cmpS_lt,cc] at e; simp at e
      simp (maxSteps:=999999) (disch:=omega) only [go_sem,cc']
      refine W_callR (R:=fun v h1=>∃ (e : Nat) (m' : List Str),v = .int .i64 e ∧ h1 = h.ob q (.arr n tS) (encS m') ∧ PartEq m m' c d e ∧ txt m' c = txt m p) rfl ⟨rfl,rfl⟩ (by
       simp only [go_sem]
       refine Ok.mono (partEq_ok (q:=q) (n:=n) (a:=c) (b:=d) (p:=p) (l:=m) (by exact hl) hF (by omega) (by omega) (by omega) p1 p2 (by simp only [go_sem,])) ?_
       rintro v h' ⟨e,m',rfl,rfl,hpt⟩
       exact ⟨h.ob q (.arr n tS) (encS m'),by simp only [go_sem],rfl,e,m',rfl,rfl,hpt⟩) ?_
      rintro v h1 ⟨e,m',rfl,rfl,hpt,hpv⟩
      have hP':=hP.eq hbl hpt (fun x x1 x2=>by
       obtain ⟨j,j1,j2,ej⟩:=hpt.hp.mid hcd (by omega) x1 x2
       rw [hpv,ej]
       exact sLe_trans (by simp [sLe,cc]) (hP.low ca j j1 j2))
      have g1:=hpt.ac
      have g2:=hpt.cb
      simp (maxSteps:=999999) (disch:=omega) only [go_sem]
      refine ih _ (m',e,d,z,true,true) (by omega) ?_ ⟨hP',by dsimp only; omega,by dsimp only; omega,by dsimp only; omega⟩
      simp only [go_sem]
    | false =>
     simp (maxSteps:=999999) (disch:=omega) only [go_sem,ct1]
     by_cases ca : 0 < c
     rotate_left
     ·have ca' : ¬(0 : Int) < (c : Int):=by omega
      simp (maxSteps:=999999) (disch:=omega) only [go_sem,ca']
      refine W_callR (R:=fun v h1=>∃ (e : Nat) (t : Bool) (m' : List Str),v = .tup (.cons (.int .i64 e) (.cons (.bool t) .unit)) ∧ h1 = h.ob q (.arr n tS) (encS m') ∧ Parted m m' c d e) rfl ⟨rfl,rfl⟩ (by
       simp only [go_sem]
       refine Ok.mono (partition_ok (q:=q) (n:=n) (a:=c) (b:=d) (p:=p) (l:=m) (by exact hl) hF (by omega) (by omega) (by omega) p1 p2 (by simp only [go_sem,])) ?_
       rintro v h' ⟨e,t,m',rfl,rfl,hpt⟩
       exact ⟨h.ob q (.arr n tS) (encS m'),by simp only [go_sem],rfl,e,t,m',rfl,rfl,hpt⟩) ?_
      rintro v h1 ⟨e,tp,m',rfl,rfl,hpt⟩
      replace hP:=hP.perm hbl hpt.hp
      have g1:=hpt.ca
      have g2:=hpt.cb
      have hm':=hP.hp.len
      simp (maxSteps:=999999) (disch:=omega) only [go_sem,extQ0,extQ1,hquo8]
      by_cases c5 : (e : Int) - (c : Int) < (d : Int) - (e : Int)
      ·simp (maxSteps:=999999) (disch:=omega) only [go_sem,c5]
       refine W_callR (R:=fun v h1=>v = .tup .unit ∧ ∃ m2,h1 = h.ob q (.arr n tS) (encS m2) ∧ PermIn m' m2 c e ∧ SortedIn m2 c e) rfl ⟨rfl,rfl⟩ (by
        simp only [go_sem]
        refine Ok.mono (IH (e - c) (by omega) (l:=m') (a:=c) (b:=e) (by exact hl) (by exact fun x u hx=>hls x u (Nat.le_trans (Nat.le_succ _) hx)) (by omega) (by omega) g1 (by omega) ⟨by omega,by omega⟩ (fun h0 x x1 x2=>hP.low h0 x x1 (by omega)) (by simp only [go_sem,])) ?_
        rintro v h' ⟨rfl,m2,rfl,hp',hs'⟩
        exact ⟨h.ob q (.arr n tS) (encS m2),by simp only [go_sem],rfl,rfl,m2,rfl,hp',hs'⟩) ?_
       rintro v h1 ⟨rfl,m2,rfl,hp',hs'⟩
       simp (maxSteps:=999999) (disch:=omega) only [go_sem]
       refine ih _ (m2,e + 1,d,z,decide (((L / 8 : Nat) : Int) ≤ (e : Int) - (c : Int)),tp) (by omega) ?_ ⟨hP.left hbl g1 g2 hp' hs' hpt.lo hpt.up,by dsimp only; omega,by dsimp only; omega,by dsimp only; omega⟩
       simp only [go_sem]
      ·simp (maxSteps:=999999) (disch:=omega) only [go_sem,c5]
       refine W_callR (R:=fun v h1=>v = .tup .unit ∧ ∃ m2,h1 = h.ob q (.arr n tS) (encS m2) ∧ PermIn m' m2 (e + 1) d ∧ SortedIn m2 (e + 1) d) rfl ⟨rfl,rfl⟩ (by
        simp only [go_sem]
        refine Ok.mono (IH (d - (e + 1)) (by omega) (l:=m') (a:=e + 1) (b:=d) (by exact hl) (by exact fun x u hx=>hls x u (Nat.le_trans (Nat.le_succ _) hx)) (by omega) (by omega) g2 (by omega) ⟨by omega,by omega⟩ (fun h0 x x1 x2=>by rw [Nat.add_sub_cancel]; simp [sLe,hpt.up x (by omega) x2]) (by simp only [go_sem,])) ?_
        rintro v h' ⟨rfl,m2,rfl,hp',hs'⟩
        exact ⟨h.ob q (.arr n tS) (encS m2),by simp only [go_sem],rfl,rfl,m2,rfl,hp',hs'⟩) ?_
       rintro v h1 ⟨rfl,m2,rfl,hp',hs'⟩
       simp (maxSteps:=999999) (disch:=omega) only [go_sem]
       refine ih _ (m2,c,e,z,decide (((L / 8 : Nat) : Int) ≤ (d : Int) - (e : Int)),tp) (by omega) ?_ ⟨hP.right hbl g1 g2 hp' hs' hpt.lo hpt.up,by dsimp only; omega,by dsimp only; omega,by dsimp only; omega⟩
       simp only [go_sem]
     have ec : ((c : Int) - 1).toNat = c - 1:=by omega
     have ca' : (0 : Int) < (c : Int):=by omega
     simp (maxSteps:=999999) (disch:=omega) only [go_sem,ec,ca']
     refine W_callvp (v:=.int .i64 (cmpS (txt m (c - 1)) (txt m p))) (by simp only [go_sem] <;> rfl) hf1 hf2 (by simp only [go_sem]; exact hf3 _ _ _ _) ?_
     simp (maxSteps:=999999) (disch:=omega) only [go_sem]
     cases cc : sLt (txt m (c - 1)) (txt m p) with
     | true =>
      have cc' : cmpS (txt m (c - 1)) (txt m p) < 0:=(cmpS_lt _ _).2 cc
      simp (maxSteps:=999999) (disch:=omega) only [go_sem,cc']
      refine W_callR (R:=fun v h1=>∃ (e : Nat) (t : Bool) (m' : List Str),v = .tup (.cons (.int .i64 e) (.cons (.bool t) .unit)) ∧ h1 = h.ob q (.arr n tS) (encS m') ∧ Parted m m' c d e) rfl ⟨rfl,rfl⟩ (by
       simp only [go_sem]
       refine Ok.mono (partition_ok (q:=q) (n:=n) (a:=c) (b:=d) (p:=p) (l:=m) (by exact hl) hF (by omega) (by omega) (by omega) p1 p2 (by simp only [go_sem,])) ?_
       rintro v h' ⟨e,t,m',rfl,rfl,hpt⟩
       exact ⟨h.ob q (.arr n tS) (encS m'),by simp only [go_sem],rfl,e,t,m',rfl,rfl,hpt⟩) ?_
      rintro v h1 ⟨e,tp,m',rfl,rfl,hpt⟩
      replace hP:=hP.perm hbl hpt.hp
      have g1:=hpt.ca
      have g2:=hpt.cb
      have hm':=hP.hp.len
      simp (maxSteps:=999999) (disch:=omega) only [go_sem,extQ0,extQ1,hquo8]
      by_cases c5 : (e : Int) - (c : Int) < (d : Int) - (e : Int)
      ·simp (maxSteps:=999999) (disch:=omega) only [go_sem,c5]
       refine W_callR (R:=fun v h1=>v = .tup .unit ∧ ∃ m2,h1 = h.ob q (.arr n tS) (encS m2) ∧ PermIn m' m2 c e ∧ SortedIn m2 c e) rfl ⟨rfl,rfl⟩ (by
        simp only [go_sem]
        refine Ok.mono (IH (e - c) (by omega) (l:=m') (a:=c) (b:=e) (by exact hl) (by exact fun x u hx=>hls x u (Nat.le_trans (Nat.le_succ _) hx)) (by omega) (by omega) g1 (by omega) ⟨by omega,by omega⟩ (fun h0 x x1 x2=>hP.low h0 x x1 (by omega)) (by simp only [go_sem,])) ?_
        rintro v h' ⟨rfl,m2,rfl,hp',hs'⟩
        exact ⟨h.ob q (.arr n tS) (encS m2),by simp only [go_sem],rfl,rfl,m2,rfl,hp',hs'⟩) ?_
       rintro v h1 ⟨rfl,m2,rfl,hp',hs'⟩
       simp (maxSteps:=999999) (disch:=omega) only [go_sem]
       refine ih _ (m2,e + 1,d,z,decide (((L / 8 : Nat) : Int) ≤ (e : Int) - (c : Int)),tp) (by omega) ?_ ⟨hP.left hbl g1 g2 hp' hs' hpt.lo hpt.up,by dsimp only; omega,by dsimp only; omega,by dsimp only; omega⟩
       simp only [go_sem]
      ·simp (maxSteps:=999999) (disch:=omega) only [go_sem,c5]
       refine W_callR (R:=fun v h1=>v = .tup .unit ∧ ∃ m2,h1 = h.ob q (.arr n tS) (encS m2) ∧ PermIn m' m2 (e + 1) d ∧ SortedIn m2 (e + 1) d) rfl ⟨rfl,rfl⟩ (by
        simp only [go_sem]
        refine Ok.mono (IH (d - (e + 1)) (by omega) (l:=m') (a:=e + 1) (b:=d) (by exact hl) (by exact fun x u hx=>hls x u (Nat.le_trans (Nat.le_succ _) hx)) (by omega) (by omega) g2 (by omega) ⟨by omega,by omega⟩ (fun h0 x x1 x2=>by rw [Nat.add_sub_cancel]; simp [sLe,hpt.up x (by omega) x2]) (by simp only [go_sem,])) ?_
        rintro v h' ⟨rfl,m2,rfl,hp',hs'⟩
        exact ⟨h.ob q (.arr n tS) (encS m2),by simp only [go_sem],rfl,rfl,m2,rfl,hp',hs'⟩) ?_
       rintro v h1 ⟨rfl,m2,rfl,hp',hs'⟩
       simp (maxSteps:=999999) (disch:=omega) only [go_sem]
       refine ih _ (m2,c,e,z,decide (((L / 8 : Nat) : Int) ≤ (d : Int) - (e : Int)),tp) (by omega) ?_ ⟨hP.right hbl g1 g2 hp' hs' hpt.lo hpt.up,by dsimp only; omega,by dsimp only; omega,by dsimp only; omega⟩
       simp only [go_sem]
     | false =>
      have cc' : ¬cmpS (txt m (c - 1)) (txt m p) < 0:=fun e=>by rw [cmpS_lt,cc] at e; simp at e
      simp (maxSteps:=999999) (disch:=omega) only [go_sem,cc']
      refine W_callR (R:=fun v h1=>∃ (e : Nat) (m' : List Str),v = .int .i64 e ∧ h1 = h.ob q (.arr n tS) (encS m') ∧ PartEq m m' c d e ∧ txt m' c = txt m p) rfl ⟨rfl,rfl⟩ (by
       simp only [go_sem]
       refine Ok.mono (partEq_ok (q:=q) (n:=n) (a:=c) (b:=d) (p:=p) (l:=m) (by exact hl) hF (by omega) (by omega) (by omega) p1 p2 (by simp only [go_sem,])) ?_
       rintro v h' ⟨e,m',rfl,rfl,hpt⟩
       exact ⟨h.ob q (.arr n tS) (encS m'),by simp only [go_sem],rfl,e,m',rfl,rfl,hpt⟩) ?_
      rintro v h1 ⟨e,m',rfl,rfl,hpt,hpv⟩
      have hP':=hP.eq hbl hpt (fun x x1 x2=>by
       obtain ⟨j,j1,j2,ej⟩:=hpt.hp.mid hcd (by omega) x1 x2
       rw [hpv,ej]
       exact sLe_trans (by simp [sLe,cc]) (hP.low ca j j1 j2))
      have g1:=hpt.ac
      have g2:=hpt.cb
      simp (maxSteps:=999999) (disch:=omega) only [go_sem]
      refine ih _ (m',e,d,z,true,false) (by omega) ?_ ⟨hP',by dsimp only; omega,by dsimp only; omega,by dsimp only; omega⟩
      simp only [go_sem]
   ·cases wp with
    | true =>
     simp (maxSteps:=999999) (disch:=omega) only [go_sem,ct1]
     by_cases ca : 0 < c
     rotate_left
     ·have ca' : ¬(0 : Int) < (c : Int):=by omega
      simp (maxSteps:=999999) (disch:=omega) only [go_sem,ca']
      refine W_callR (R:=fun v h1=>∃ (e : Nat) (t : Bool) (m' : List Str),v = .tup (.cons (.int .i64 e) (.cons (.bool t) .unit)) ∧ h1 = h.ob q (.arr n tS) (encS m') ∧ Parted m m' c d e) rfl ⟨rfl,rfl⟩ (by
       simp only [go_sem]
       refine Ok.mono (partition_ok (q:=q) (n:=n) (a:=c) (b:=d) (p:=p) (l:=m) (by exact hl) hF (by omega) (by omega) (by omega) p1 p2 (by simp only [go_sem,])) ?_
       rintro v h' ⟨e,t,m',rfl,rfl,hpt⟩
       exact ⟨h.ob q (.arr n tS) (encS m'),by simp only [go_sem],rfl,e,t,m',rfl,rfl,hpt⟩) ?_
      rintro v h1 ⟨e,tp,m',rfl,rfl,hpt⟩
      replace hP:=hP.perm hbl hpt.hp
      have g1:=hpt.ca
      have g2:=hpt.cb
      have hm':=hP.hp.len
      simp (maxSteps:=999999) (disch:=omega) only [go_sem,extQ0,extQ1,hquo8]
      by_cases c5 : (e : Int) - (c : Int) < (d : Int) - (e : Int)
      ·simp (maxSteps:=999999) (disch:=omega) only [go_sem,c5]
       refine W_callR (R:=fun v h1=>v = .tup .unit ∧ ∃ m2,h1 = h.ob q (.arr n tS) (encS m2) ∧ PermIn m' m2 c e ∧ SortedIn m2 c e) rfl ⟨rfl,rfl⟩ (by
        simp only [go_sem]
        refine Ok.mono (IH (e - c) (by omega) (l:=m') (a:=c) (b:=e) (by exact hl) (by exact fun x u hx=>hls x u (Nat.le_trans (Nat.le_succ _) hx)) (by omega) (by omega) g1 (by omega) ⟨by omega,by omega⟩ (fun h0 x x1 x2=>hP.low h0 x x1 (by omega)) (by simp only [go_sem,])) ?_
        rintro v h' ⟨rfl,m2,rfl,hp',hs'⟩
        exact ⟨h.ob q (.arr n tS) (encS m2),by simp only [go_sem],rfl,rfl,m2,rfl,hp',hs'⟩) ?_
       rintro v h1 ⟨rfl,m2,rfl,hp',hs'⟩
       simp (maxSteps:=999999) (disch:=omega) only [go_sem]
       refine ih _ (m2,e + 1,d,z,decide (((L / 8 : Nat) : Int) ≤ (e : Int) - (c : Int)),tp) (by omega) ?_ ⟨hP.left hbl g1 g2 hp' hs' hpt.lo hpt.up,by dsimp only; omega,by dsimp only; omega,by dsimp only; omega⟩
       simp only [go_sem]
      ·simp (maxSteps:=999999) (disch:=omega) only [go_sem,c5]
       refine W_callR (R:=fun v h1=>v = .tup .unit ∧ ∃ m2,h1 = h.ob q (.arr n tS) (encS m2) ∧ PermIn m' m2 (e + 1) d ∧ SortedIn m2 (e + 1) d) rfl ⟨rfl,rfl⟩ (by
        simp only [go_sem]
        refine Ok.mono (IH (d - (e + 1)) (by omega) (l:=m') (a:=e + 1) (b:=d) (by exact hl) (by exact fun x u hx=>hls x u (Nat.le_trans (Nat.le_succ _) hx)) (by omega) (by omega) g2 (by omega) ⟨by omega,by omega⟩ (fun h0 x x1 x2=>by rw [Nat.add_sub_cancel]; simp [sLe,hpt.up x (by omega) x2]) (by simp only [go_sem,])) ?_
        rintro v h' ⟨rfl,m2,rfl,hp',hs'⟩
        exact ⟨h.ob q (.arr n tS) (encS m2),by simp only [go_sem],rfl,rfl,m2,rfl,hp',hs'⟩) ?_
       rintro v h1 ⟨rfl,m2,rfl,hp',hs'⟩
       simp (maxSteps:=999999) (disch:=omega) only [go_sem]
       refine ih _ (m2,c,e,z,decide (((L / 8 : Nat) : Int) ≤ (d : Int) - (e : Int)),tp) (by omega) ?_ ⟨hP.right hbl g1 g2 hp' hs' hpt.lo hpt.up,by dsimp only; omega,by dsimp only; omega,by dsimp only; omega⟩
       simp only [go_sem]
     have ec : ((c : Int) - 1).toNat = c - 1:=by omega
     have ca' : (0 : Int) < (c : Int):=by omega
     simp (maxSteps:=999999) (disch:=omega) only [go_sem,ec,ca']
     refine W_callvp (v:=.int .i64 (cmpS (txt m (c - 1)) (txt m p))) (by simp only [go_sem] <;> rfl) hf1 hf2 (by simp only [go_sem]; exact hf3 _ _ _ _) ?_
     simp (maxSteps:=999999) (disch:=omega) only [go_sem]
     cases cc : sLt (txt m (c - 1)) (txt m p) with
     | true =>
      have cc' : cmpS (txt m (c - 1)) (txt m p) < 0:=(cmpS_lt _ _).2 cc
      simp (maxSteps:=999999) (disch:=omega) only [go_sem,cc']
      refine W_callR (R:=fun v h1=>∃ (e : Nat) (t : Bool) (m' : List Str),v = .tup (.cons (.int .i64 e) (.cons (.bool t) .unit)) ∧ h1 = h.ob q (.arr n tS) (encS m') ∧ Parted m m' c d e) rfl ⟨rfl,rfl⟩ (by
       simp only [go_sem]
       refine Ok.mono (partition_ok (q:=q) (n:=n) (a:=c) (b:=d) (p:=p) (l:=m) (by exact hl) hF (by omega) (by omega) (by omega) p1 p2 (by simp only [go_sem,])) ?_
       rintro v h' ⟨e,t,m',rfl,rfl,hpt⟩
       exact ⟨h.ob q (.arr n tS) (encS m'),by simp only [go_sem],rfl,e,t,m',rfl,rfl,hpt⟩) ?_
      rintro v h1 ⟨e,tp,m',rfl,rfl,hpt⟩
      replace hP:=hP.perm hbl hpt.hp
      have g1:=hpt.ca
      have g2:=hpt.cb
      have hm':=hP.hp.len
      simp (maxSteps:=999999) (disch:=omega) only [go_sem,extQ0,extQ1,hquo8]
      by_cases c5 : (e : Int) - (c : Int) < (d : Int) - (e : Int)
      ·simp (maxSteps:=999999) (disch:=omega) only [go_sem,c5]
       refine W_callR (R:=fun v h1=>v = .tup .unit ∧ ∃ m2,h1 = h.ob q (.arr n tS) (encS m2) ∧ PermIn m' m2 c e ∧ SortedIn m2 c e) rfl ⟨rfl,rfl⟩ (by
        simp only [go_sem]
        refine Ok.mono (IH (e - c) (by omega) (l:=m') (a:=c) (b:=e) (by exact hl) (by exact fun x u hx=>hls x u (Nat.le_trans (Nat.le_succ _) hx)) (by omega) (by omega) g1 (by omega) ⟨by omega,by omega⟩ (fun h0 x x1 x2=>hP.low h0 x x1 (by omega)) (by simp only [go_sem,])) ?_
        rintro v h' ⟨rfl,m2,rfl,hp',hs'⟩
        exact ⟨h.ob q (.arr n tS) (encS m2),by simp only [go_sem],rfl,rfl,m2,rfl,hp',hs'⟩) ?_
       rintro v h1 ⟨rfl,m2,rfl,hp',hs'⟩
       simp (maxSteps:=999999) (disch:=omega) only [go_sem]
       refine ih _ (m2,e + 1,d,z,decide (((L / 8 : Nat) : Int) ≤ (e : Int) - (c : Int)),tp) (by omega) ?_ ⟨hP.left hbl g1 g2 hp' hs' hpt.lo hpt.up,by dsimp only; omega,by dsimp only; omega,by dsimp only; omega⟩
       simp only [go_sem]
      ·simp (maxSteps:=999999) (disch:=omega) only [go_sem,c5]
       refine W_callR (R:=fun v h1=>v = .tup .unit ∧ ∃ m2,h1 = h.ob q (.arr n tS) (encS m2) ∧ PermIn m' m2 (e + 1) d ∧ SortedIn m2 (e + 1) d) rfl ⟨rfl,rfl⟩ (by
        simp only [go_sem]
        refine Ok.mono (IH (d - (e + 1)) (by omega) (l:=m') (a:=e + 1) (b:=d) (by exact hl) (by exact fun x u hx=>hls x u (Nat.le_trans (Nat.le_succ _) hx)) (by omega) (by omega) g2 (by omega) ⟨by omega,by omega⟩ (fun h0 x x1 x2=>by rw [Nat.add_sub_cancel]; simp [sLe,hpt.up x (by omega) x2]) (by simp only [go_sem,])) ?_
        rintro v h' ⟨rfl,m2,rfl,hp',hs'⟩
        exact ⟨h.ob q (.arr n tS) (encS m2),by simp only [go_sem],rfl,rfl,m2,rfl,hp',hs'⟩) ?_
       rintro v h1 ⟨rfl,m2,rfl,hp',hs'⟩
       simp (maxSteps:=999999) (disch:=omega) only [go_sem]
       refine ih _ (m2,c,e,z,decide (((L / 8 : Nat) : Int) ≤ (d : Int) - (e : Int)),tp) (by omega) ?_ ⟨hP.right hbl g1 g2 hp' hs' hpt.lo hpt.up,by dsimp only; omega,by dsimp only; omega,by dsimp only; omega⟩
       simp only [go_sem]
     | false =>
      have cc' : ¬cmpS (txt m (c - 1)) (txt m p) < 0:=fun e=>by rw [cmpS_lt,cc] at e; simp at e
      simp (maxSteps:=999999) (disch:=omega) only [go_sem,cc']
      refine W_callR (R:=fun v h1=>∃ (e : Nat) (m' : List Str),v = .int .i64 e ∧ h1 = h.ob q (.arr n tS) (encS m') ∧ PartEq m m' c d e ∧ txt m' c = txt m p) rfl ⟨rfl,rfl⟩ (by
       simp only [go_sem]
       refine Ok.mono (partEq_ok (q:=q) (n:=n) (a:=c) (b:=d) (p:=p) (l:=m) (by exact hl) hF (by omega) (by omega) (by omega) p1 p2 (by simp only [go_sem,])) ?_
       rintro v h' ⟨e,m',rfl,rfl,hpt⟩
       exact ⟨h.ob q (.arr n tS) (encS m'),by simp only [go_sem],rfl,e,m',rfl,rfl,hpt⟩) ?_
      rintro v h1 ⟨e,m',rfl,rfl,hpt,hpv⟩
      have hP':=hP.eq hbl hpt (fun x x1 x2=>by
       obtain ⟨j,j1,j2,ej⟩:=hpt.hp.mid hcd (by omega) x1 x2
       rw [hpv,ej]
       exact sLe_trans (by simp [sLe,cc]) (hP.low ca j j1 j2))
      have g1:=hpt.ac
      have g2:=hpt.cb
      simp (maxSteps:=999999) (disch:=omega) only [go_sem]
      refine ih _ (m',e,d,z,true,true) (by omega) ?_ ⟨hP',by dsimp only; omega,by dsimp only; omega,by dsimp only; omega⟩
      simp only [go_sem]
    | false =>
     simp (maxSteps:=999999) (disch:=omega) only [go_sem,ct1]
     by_cases ca : 0 < c
     rotate_left
     ·have ca' : ¬(0 : Int) < (c : Int):=by omega
      simp (maxSteps:=999999) (disch:=omega) only [go_sem,ca']
      refine W_callR (R:=fun v h1=>∃ (e : Nat) (t : Bool) (m' : List Str),v = .tup (.cons (.int .i64 e) (.cons (.bool t) .unit)) ∧ h1 = h.ob q (.arr n tS) (encS m') ∧ Parted m m' c d e) rfl ⟨rfl,rfl⟩ (by
       simp only [go_sem]
       refine Ok.mono (partition_ok (q:=q) (n:=n) (a:=c) (b:=d) (p:=p) (l:=m) (by exact hl) hF (by omega) (by omega) (by omega) p1 p2 (by simp only [go_sem,])) ?_
       rintro v h' ⟨e,t,m',rfl,rfl,hpt⟩
       exact ⟨h.ob q (.arr n tS) (encS m'),by simp only [go_sem],rfl,e,t,m',rfl,rfl,hpt⟩) ?_
      rintro v h1 ⟨e,tp,m',rfl,rfl,hpt⟩
      replace hP:=hP.perm hbl hpt.hp
      have g1:=hpt.ca
      have g2:=hpt.cb
      have hm':=hP.hp.len
      simp (maxSteps:=999999) (disch:=omega) only [go_sem,extQ0,extQ1,hquo8]
      by_cases c5 : (e : Int) - (c : Int) < (d : Int) - (e : Int)
      ·simp (maxSteps:=999999) (disch:=omega) only [go_sem,c5]
       refine W_callR (R:=fun v h1=>v = .tup .unit ∧ ∃ m2,h1 = h.ob q (.arr n tS) (encS m2) ∧ PermIn m' m2 c e ∧ SortedIn m2 c e) rfl ⟨rfl,rfl⟩ (by
        simp only [go_sem]
        refine Ok.mono (IH (e - c) (by omega) (l:=m') (a:=c) (b:=e) (by exact hl) (by exact fun x u hx=>hls x u (Nat.le_trans (Nat.le_succ _) hx)) (by omega) (by omega) g1 (by omega) ⟨by omega,by omega⟩ (fun h0 x x1 x2=>hP.low h0 x x1 (by omega)) (by simp only [go_sem,])) ?_
        rintro v h' ⟨rfl,m2,rfl,hp',hs'⟩
        exact ⟨h.ob q (.arr n tS) (encS m2),by simp only [go_sem],rfl,rfl,m2,rfl,hp',hs'⟩) ?_
       rintro v h1 ⟨rfl,m2,rfl,hp',hs'⟩
       simp (maxSteps:=999999) (disch:=omega) only [go_sem]
       refine ih _ (m2,e + 1,d,z,decide (((L / 8 : Nat) : Int) ≤ (e : Int) - (c : Int)),tp) (by omega) ?_ ⟨hP.left hbl g1 g2 hp' hs' hpt.lo hpt.up,by dsimp only; omega,by dsimp only; omega,by dsimp only; omega⟩
       simp only [go_sem]
      ·simp (maxSteps:=999999) (disch:=omega) only [go_sem,c5]
       refine W_callR (R:=fun v h1=>v = .tup .unit ∧ ∃ m2,h1 = h.ob q (.arr n tS) (encS m2) ∧ PermIn m' m2 (e + 1) d ∧ SortedIn m2 (e + 1) d) rfl ⟨rfl,rfl⟩ (by
        simp only [go_sem]
        refine Ok.mono (IH (d - (e + 1)) (by omega) (l:=m') (a:=e + 1) (b:=d) (by exact hl) (by exact fun x u hx=>hls x u (Nat.le_trans (Nat.le_succ _) hx)) (by omega) (by omega) g2 (by omega) ⟨by omega,by omega⟩ (fun h0 x x1 x2=>by rw [Nat.add_sub_cancel]; simp [sLe,hpt.up x (by omega) x2]) (by simp only [go_sem,])) ?_
        rintro v h' ⟨rfl,m2,rfl,hp',hs'⟩
        exact ⟨h.ob q (.arr n tS) (encS m2),by simp only [go_sem],rfl,rfl,m2,rfl,hp',hs'⟩) ?_
       rintro v h1 ⟨rfl,m2,rfl,hp',hs'⟩
       simp (maxSteps:=999999) (disch:=omega) only [go_sem]
       refine ih _ (m2,c,e,z,decide (((L / 8 : Nat) : Int) ≤ (d : Int) - (e : Int)),tp) (by omega) ?_ ⟨hP.right hbl g1 g2 hp' hs' hpt.lo hpt.up,by dsimp only; omega,by dsimp only; omega,by dsimp only; omega⟩
       simp only [go_sem]
     have ec : ((c : Int) - 1).toNat = c - 1:=by omega
     have ca' : (0 : Int) < (c : Int):=by omega
     simp (maxSteps:=999999) (disch:=omega) only [go_sem,ec,ca']
     refine W_callvp (v:=.int .i64 (cmpS (txt m (c - 1)) (txt m p))) (by simp only [go_sem] <;> rfl) hf1 hf2 (by simp only [go_sem]; exact hf3 _ _ _ _) ?_
     simp (maxSteps:=999999) (disch:=omega) only [go_sem]
     cases cc : sLt (txt m (c - 1)) (txt m p) with
     | true =>
      have cc' : cmpS (txt m (c - 1)) (txt m p) < 0:=(cmpS_lt _ _).2 cc
      simp (maxSteps:=999999) (disch:=omega) only [go_sem,cc']
      refine W_callR (R:=fun v h1=>∃ (e : Nat) (t : Bool) (m' : List Str),v = .tup (.cons (.int .i64 e) (.cons (.bool t) .unit)) ∧ h1 = h.ob q (.arr n tS) (encS m') ∧ Parted m m' c d e) rfl ⟨rfl,rfl⟩ (by
       simp only [go_sem]
       refine Ok.mono (partition_ok (q:=q) (n:=n) (a:=c) (b:=d) (p:=p) (l:=m) (by exact hl) hF (by omega) (by omega) (by omega) p1 p2 (by simp only [go_sem,])) ?_
       rintro v h' ⟨e,t,m',rfl,rfl,hpt⟩
       exact ⟨h.ob q (.arr n tS) (encS m'),by simp only [go_sem],rfl,e,t,m',rfl,rfl,hpt⟩) ?_
      rintro v h1 ⟨e,tp,m',rfl,rfl,hpt⟩
      replace hP:=hP.perm hbl hpt.hp
      have g1:=hpt.ca
      have g2:=hpt.cb
      have hm':=hP.hp.len
      simp (maxSteps:=999999) (disch:=omega) only [go_sem,extQ0,extQ1,hquo8]
      by_cases c5 : (e : Int) - (c : Int) < (d : Int) - (e : Int)
      ·simp (maxSteps:=999999) (disch:=omega) only [go_sem,c5]
       refine W_callR (R:=fun v h1=>v = .tup .unit ∧ ∃ m2,h1 = h.ob q (.arr n tS) (encS m2) ∧ PermIn m' m2 c e ∧ SortedIn m2 c e) rfl ⟨rfl,rfl⟩ (by
        simp only [go_sem]
        refine Ok.mono (IH (e - c) (by omega) (l:=m') (a:=c) (b:=e) (by exact hl) (by exact fun x u hx=>hls x u (Nat.le_trans (Nat.le_succ _) hx)) (by omega) (by omega) g1 (by omega) ⟨by omega,by omega⟩ (fun h0 x x1 x2=>hP.low h0 x x1 (by omega)) (by simp only [go_sem,])) ?_
        rintro v h' ⟨rfl,m2,rfl,hp',hs'⟩
        exact ⟨h.ob q (.arr n tS) (encS m2),by simp only [go_sem],rfl,rfl,m2,rfl,hp',hs'⟩) ?_
       rintro v h1 ⟨rfl,m2,rfl,hp',hs'⟩
       simp (maxSteps:=999999) (disch:=omega) only [go_sem]
       refine ih _ (m2,e + 1,d,z,decide (((L / 8 : Nat) : Int) ≤ (e : Int) - (c : Int)),tp) (by omega) ?_ ⟨hP.left hbl g1 g2 hp' hs' hpt.lo hpt.up,by dsimp only; omega,by dsimp only; omega,by dsimp only; omega⟩
       simp only [go_sem]
      ·simp (maxSteps:=999999) (disch:=omega) only [go_sem,c5]
       refine W_callR (R:=fun v h1=>v = .tup .unit ∧ ∃ m2,h1 = h.ob q (.arr n tS) (encS m2) ∧ PermIn m' m2 (e + 1) d ∧ SortedIn m2 (e + 1) d) rfl ⟨rfl,rfl⟩ (by
        simp only [go_sem]
        refine Ok.mono (IH (d - (e + 1)) (by omega) (l:=m') (a:=e + 1) (b:=d) (by exact hl) (by exact fun x u hx=>hls x u (Nat.le_trans (Nat.le_succ _) hx)) (by omega) (by omega) g2 (by omega) ⟨by omega,by omega⟩ (fun h0 x x1 x2=>by rw [Nat.add_sub_cancel]; simp [sLe,hpt.up x (by omega) x2]) (by simp only [go_sem,])) ?_
        rintro v h' ⟨rfl,m2,rfl,hp',hs'⟩
        exact ⟨h.ob q (.arr n tS) (encS m2),by simp only [go_sem],rfl,rfl,m2,rfl,hp',hs'⟩) ?_
       rintro v h1 ⟨rfl,m2,rfl,hp',hs'⟩
       simp (maxSteps:=999999) (disch:=omega) only [go_sem]
       refine ih _ (m2,c,e,z,decide (((L / 8 : Nat) : Int) ≤ (d : Int) - (e : Int)),tp) (by omega) ?_ ⟨hP.right hbl g1 g2 hp' hs' hpt.lo hpt.up,by dsimp only; omega,by dsimp only; omega,by dsimp only; omega⟩
       simp only [go_sem]
     | false =>
      have cc' : ¬cmpS (txt m (c - 1)) (txt m p) < 0:=fun e=>by rw [cmpS_lt,cc] at e; simp at e
      simp (maxSteps:=999999) (disch:=omega) only [go_sem,cc']
      refine W_callR (R:=fun v h1=>∃ (e : Nat) (m' : List Str),v = .int .i64 e ∧ h1 = h.ob q (.arr n tS) (encS m') ∧ PartEq m m' c d e ∧ txt m' c = txt m p) rfl ⟨rfl,rfl⟩ (by
       simp only [go_sem]
       refine Ok.mono (partEq_ok (q:=q) (n:=n) (a:=c) (b:=d) (p:=p) (l:=m) (by exact hl) hF (by omega) (by omega) (by omega) p1 p2 (by simp only [go_sem,])) ?_
       rintro v h' ⟨e,m',rfl,rfl,hpt⟩
       exact ⟨h.ob q (.arr n tS) (encS m'),by simp only [go_sem],rfl,e,m',rfl,rfl,hpt⟩) ?_
      rintro v h1 ⟨e,m',rfl,rfl,hpt,hpv⟩
      have hP':=hP.eq hbl hpt (fun x x1 x2=>by
       obtain ⟨j,j1,j2,ej⟩:=hpt.hp.mid hcd (by omega) x1 x2
       rw [hpv,ej]
       exact sLe_trans (by simp [sLe,cc]) (hP.low ca j j1 j2))
      have g1:=hpt.ac
      have g2:=hpt.cb
      simp (maxSteps:=999999) (disch:=omega) only [go_sem]
      refine ih _ (m',e,d,z,true,false) (by omega) ?_ ⟨hP',by dsimp only; omega,by dsimp only; omega,by dsimp only; omega⟩
      simp only [go_sem]
end
def OUp (O : Nat → Prop) (n : Nat) : Prop:=∀ m,n ≤ m → O m
theorem OUp.lt {O : Nat → Prop} {n m : Nat} (h : OUp O m) (e : ¬O n) : n < m:=Nat.lt_of_not_le fun hm=>e (h n hm)
theorem OUp.le {O : Nat → Prop} {n m : Nat} (h : OUp O n) (e : n ≤ m) : OUp O m:=fun k hk=>h k (Nat.le_trans e hk)
def SlO (t : Ty) (O : Nat → Prop) (h : HP) (v : AV) (l : List AV) : Prop:=(v = .nilsl ∧ l = []) ∨ ∃ q,v = .sl (.obj q) 0 l.length ∧ O q ∧ q < h.next ∧ h.look (.obj q) = some ⟨.arr l.length t,.ofList l⟩ ∧ l ≠ []
theorem SlO.len {t : Ty} {O : Nat → Prop} {h : HP} {v : AV} {l : List AV} (a : SlO t O h v l) : lenV false v = some (.int .i64 l.length):=by
 rcases a with ⟨rfl,rfl⟩ | ⟨q,rfl,_⟩ <;> rfl
theorem SlO.fg {t : Ty} {O : Nat → Prop} {h : HP} {v : AV} {l : List AV} (a : SlO t O h v l) (x y : Nat) : fg v (.stk x y) = v:=by
 rcases a with ⟨rfl,_⟩ | ⟨q,rfl,_⟩ <;> simp only [go_sem]
theorem SlO.ld {t : Ty} {O : Nat → Prop} {h : HP} {v : AV} {l : List AV} (a : SlO t O h v l) (x y : Nat) : v.leads (.stk x y) = false:=by
 rcases a with ⟨rfl,_⟩ | ⟨q,rfl,_⟩ <;> simp only [go_sem]
theorem SlO.into {t : Ty} {O : Nat → Prop} {h : HP} {v : AV} {l : List AV} (a : SlO t O h v l) (n : Nat) (hn : ¬O n) : v.into (.obj n) = false:=by
 rcases a with ⟨rfl,_⟩ | ⟨q,rfl,hq,_⟩
 ·rfl
 ·have : ¬q = n:=fun e=>hn (e ▸ hq)
  simp [AV.into,this]
theorem SlO.same {t : Ty} {O : Nat → Prop} {h h' : HP} {v w : AV} {l : List AV} (a : SlO t O h v l) (b : Off h h' w) (hw : ∀ n,v.into (.obj n) = true → w.into (.obj n) = false) : SlO t O h' v l:=by
 rcases a with a | ⟨q,rfl,hq,hq2,hq3⟩
 ·exact .inl a
 ·exact .inr ⟨q,rfl,hq,Nat.lt_of_lt_of_le hq2 b.next,b.look hq2 (hw q (by simp [AV.into])) hq3.1,hq3.2⟩
theorem SlO.mono {t : Ty} {O O1 : Nat → Prop} {h : HP} {v : AV} {l : List AV} (a : SlO t O1 h v l) (e : ∀ n,O1 n → O n) : SlO t O h v l:=by
 rcases a with a | ⟨q,rfl,hq,r⟩
 ·exact .inl a
 ·exact .inr ⟨q,rfl,e _ hq,r⟩
section
variable {T : Nat → Option MFun} {cx : Cx} {k : List Item} {kill : List Nat} {r : List MOp} {sl : Slots} {own : Own} {h : HP} {O : Nat → Prop} {Q : St → Prop} {t : Ty}
theorem W_appO {ap : List Nat} {d : Nat} {x y : Opd} {v : AV} {l add : List AV} (hx : St.opd ⟨sl,own,h⟩ x = v) (hl : ∀ n,cx.prot.lets (.obj n) = true) (h0n : OUp O h.next) (hS : SlO t O h v l)
  (hy : elems (St.look cx ⟨sl,own,h⟩) t (St.opd ⟨sl,own,h⟩ y) = some add) (hfl : ∀ a ∈ l,t.fits a = true) (hfa : ∀ a ∈ add,t.fits a = true) (hn : l.length + add.length ≤ 1048576)
  (hap : ∀ e,ap.all (apOk (St.opd ⟨sl,own,h⟩) v (St.opd ⟨sl,own,h⟩ y) e) = true)
  (hq : ∀ v' h',SlO t O h' v' (l ++ add) → Off h h' v → W T cx (.ops r kill :: k) ⟨sl.set d v',own,h'⟩ Q) :
  W T cx (.ops (⟨some d,.append true ap t x y,none⟩ :: r) kill :: k) ⟨sl,own,h⟩ Q:=by
 rw [W_op rfl,evOp]
 have hev : ∀ e,evAppend (St.look cx ⟨sl,own,h⟩) t v add = some e → evK (St.opd ⟨sl,own,h⟩) (St.look cx ⟨sl,own,h⟩) (.append true ap t x y) = some e:=by
  intro e he
  simp only [evK,hy,hx,he,hap e,if_true]
 rcases hS with ⟨rfl,rfl⟩ | ⟨q,rfl,hq1,hq2,hq3,hne⟩
 ·by_cases ha : add.length = 0
  ·have ha' : add = []:=List.eq_nil_of_length_eq_zero ha
   subst ha'
   rw [hev (.val .nilsl) (by simp [evAppend])]
   exact hq _ h (.inl ⟨rfl,rfl⟩) (Off.refl _ _)
  ·rw [hev (.new (some add.length) ⟨.arr add.length t,.ofList add⟩) (by
    simp only [evAppend]
    rw [if_neg ha,if_pos ⟨fits_ofListG rfl hfa,by simp at hn; omega⟩])]
   refine hq (.sl (.obj h.next) 0 add.length) (h.nw (.arr add.length t) (.ofList add)) (.inr ⟨h.next,by simp,h0n _ (Nat.le_refl _),Nat.lt_succ_self _,by simpa using look_nw,by simp; exact fun e=>ha (by rw [e]; rfl)⟩) ⟨rfl,rfl,Nat.le_succ _,fun n hn _=>?_⟩
   simp [HP.nw,HP.ob,HP.set]; omega
 ·have hlk : St.look cx ⟨sl,own,h⟩ (.obj q) = some ⟨.arr l.length t,.ofList l⟩:=hq3
  by_cases ha : add.length = 0
  ·have ha' : add = []:=List.eq_nil_of_length_eq_zero ha
   subst ha'
   have e0 : l.take l.length ++ [] ++ l.drop (l.length + 0) = l:=by simp
   rw [hev (.wr (.obj q) ⟨.arr l.length t,.ofList l⟩ (.sl (.obj q) 0 (l.length + 0))) (by
    simp only [evAppend,hlk,toList_ofList,if_true,List.length_nil,Nat.zero_add]
    rw [if_pos (by omega),e0,if_pos (fits_ofListG rfl hfl)])]
   simp only [applyEff,St.write,Id.own,hl q,if_true,Option.map_some,onO_some]
   refine hq (.sl (.obj q) 0 (l.length + 0)) (h.ob q (.arr l.length t) (.ofList l)) ?_ ⟨rfl,rfl,Nat.le_refl _,fun n hn hv=>obj_ob_ne fun e=>?_⟩
   ·exact .inr ⟨q,by simp,hq1,hq2,by simpa using look_ob,by simpa using hne⟩
   ·subst e; simp [AV.into] at hv
  ·rw [hev (.grow (.obj q) ⟨.arr (l.length + add.length) t,.ofList (l ++ add)⟩ (l.length + add.length)) (by
    simp only [evAppend,hlk,toList_ofList,if_true,Nat.zero_add,List.drop_zero]
    rw [if_neg (by omega),if_pos (by omega),List.take_of_length_le (Nat.le_refl _),if_pos ⟨fits_ofListG (by simp) (fun a ha=>by
     rcases List.mem_append.1 ha with h | h
     ·exact hfl a h
     ·exact hfa a h),hn⟩])]
   simp only [applyEff,St.drop,Id.own,hl q,if_true,Option.map_some,onO_some]
   refine hq (.sl (.obj h.next) 0 (l.length + add.length)) ((h.dl q).nw (.arr (l.length + add.length) t) (.ofList (l ++ add))) (.inr ⟨h.next,by simp,h0n _ (Nat.le_refl _),Nat.lt_succ_self _,?_,by simp [hne]⟩) ⟨rfl,rfl,Nat.le_succ _,fun n hn hv=>?_⟩
   ·have:=look_nw (h:=h.dl q) (t:=.arr (l.length + add.length) t) (v:=.ofList (l ++ add))
    rw [List.length_append]
    exact this
   ·have hnq : ¬n = q:=fun e=>by subst e; simp [AV.into] at hv
    simp [HP.nw,HP.ob,HP.set,HP.dl,hnq]; omega
theorem W_slcO {rt : Option Nat} {d : Nat} {x : Opd} {lo hi : Option Opd} {v : AV} {l : List AV} {a b : Nat} (hx : St.opd ⟨sl,own,h⟩ x = v) (hS : SlO t O h v l)
  (hlo : (lo = none ∧ a = 0) ∨ ∃ y kk,lo = some y ∧ St.opd ⟨sl,own,h⟩ y = .int kk a) (hhi : (hi = none ∧ b = l.length) ∨ ∃ y kk,hi = some y ∧ St.opd ⟨sl,own,h⟩ y = .int kk b) (hab : a ≤ b) (hbl : b ≤ l.length)
  (hrt : rt = none ∨ ∃ u,rt = some u ∧ u < 1000000 ∧ Slots.get sl u = v)
  (hq : ∀ v',(∀ q,v'.into q = true → v.into q = true) → (∀ x y,Go.Mini.fg v' (.stk x y) = v') → (∀ sl' : Slots,elems (St.look cx ⟨sl',own,h⟩) t v' = some ((l.drop a).take (b - a))) → W T cx (.ops r kill :: k) ⟨sl.set d v',own,h⟩ Q) :
  W T cx (.ops (⟨some d,.slice rt t x lo hi none,none⟩ :: r) kill :: k) ⟨sl,own,h⟩ Q:=by
 rw [W_op rfl,evOp]
 have e1 : ixOr (St.opd ⟨sl,own,h⟩) lo 0 = some (a : Int):=by
  rcases hlo with ⟨rfl,rfl⟩ | ⟨y,kk,rfl,hy⟩
  ·rfl
  ·simp [ixOr,hy,toIx]
 rcases hS with ⟨rfl,rfl⟩ | ⟨q,rfl,hq1,hq2,hq3,_⟩
 ·obtain rfl : b = 0:=by simpa using hbl
  obtain rfl : a = 0:=by omega
  have e2 : ixOr (St.opd ⟨sl,own,h⟩) hi 0 = some (0 : Int):=by
   rcases hhi with ⟨rfl,_⟩ | ⟨y,kk,rfl,hy⟩
   ·rfl
   ·simp [ixOr,hy,toIx]
  have e3 : rootNil (St.opd ⟨sl,own,h⟩) rt = true:=by
   rcases hrt with rfl | ⟨u,rfl,_,hu⟩
   ·rfl
   ·simp [rootNil,St.opd,hu]
  have e1' : ixOr (St.opd ⟨sl,own,h⟩) lo 0 = some (0 : Int):=e1
  simp only [evK,hx,e1',e2,e3,if_true,applyEff]
  exact hq .nilsl (fun _ h=>h) (fun _ _=>rfl) fun _=>rfl
 ·have e2 : ixOr (St.opd ⟨sl,own,h⟩) hi (l.length : Int) = some (b : Int):=by
   rcases hhi with ⟨rfl,rfl⟩ | ⟨y,kk,rfl,hy⟩
   ·rfl
   ·simp [ixOr,hy,toIx]
  have e3 : rooted (St.opd ⟨sl,own,h⟩) (.obj q) rt = true:=by
   rcases hrt with rfl | ⟨u,rfl,hu,hs⟩
   ·rfl
   ·simp only [rooted]
    rw [if_neg (by omega),if_neg (by omega)]
    simp [St.opd,hs,AV.into]
  have hlk : ∀ sl' : Slots,St.look cx ⟨sl',own,h⟩ (.obj q) = some ⟨.arr l.length t,.ofList l⟩:=fun _=>hq3
  simp only [evK,hx,e1,e2,e3,if_true,evSlice,hlk,Option.map_none,true_and]
  rw [if_pos ⟨by omega,by omega,by omega⟩]
  by_cases hoff : 0 + (a : Int).toNat < l.length ∨ (a : Int) = 0
  ·rw [if_pos hoff]
   simp only [applyEff]
   refine hq (.sl (.obj q) (0 + (a : Int).toNat) ((b : Int) - a).toNat) (fun p hp=>by simpa [AV.into] using hp) (fun x y=>by simp only [go_sem]) fun sl'=>?_
   have h1 : ((b : Int) - a).toNat = b - a:=by omega
   simp only [elems,hlk,toList_ofList,h1]
   rw [if_pos ⟨trivial,by simp; omega⟩]
   simp
  ·rw [if_neg hoff]
   simp only [applyEff]
   refine hq .slz (fun p hp=>by simp [AV.into] at hp) (fun x y=>rfl) fun sl'=>?_
   have : b - a = 0:=by omega
   simp [elems,this]
end
theorem SlO.r {t : Ty} {O : Nat → Prop} {h : HP} {v : AV} {l : List AV} (a : SlO t O h v l) : SlR t h v l:=by
 rcases a with a | ⟨q,h1,_,_,h2,_⟩
 ·exact .inl a
 ·exact .inr ⟨q,h1,h2⟩
theorem SlO.safe {t : Ty} {O : Nat → Prop} {h : HP} {v : AV} {l : List AV} (a : SlO t O h v l) : v.safe = true:=by
 rcases a with ⟨rfl,_⟩ | ⟨q,rfl,_⟩ <;> rfl
def RIAtO (O : Nat → Prop) (h : HP) (l u : Nat) (T : List Tag) (F : List RFile) : Prop :=
 ∃ v1 v2,h.look (.stk l u) = some ⟨tRIdeal,encRI v1 v2⟩ ∧ SlO tTag O h v1 (T.map Tag.enc) ∧ SlO tRFile O h v2 (F.map RFile.enc)
structure FrO (O : Nat → Prop) (h h' : HP) (l u : Nat) : Prop where
 arg : h'.arg = h.arg
 next : h.next ≤ h'.next
 same : ∀ n,¬O n → h'.obj n = h.obj n
 stk : h'.stk = h.stk ∨ ∃ B,h'.stk = (h.set (.stk l u) B).stk
theorem FrO.refl (O : Nat → Prop) (h : HP) (l u : Nat) : FrO O h h l u:=⟨rfl,Nat.le_refl _,fun _ _=>rfl,.inl rfl⟩
theorem FrO.off {O : Nat → Prop} {h h1 h2 : HP} {l u : Nat} {v : AV} (a : FrO O h h1 l u) (b : Off h1 h2 v) (h0n : OUp O h1.next) (hv : ∀ n,¬O n → v.into (.obj n) = false) : FrO O h h2 l u :=
 ⟨b.arg.trans a.arg,Nat.le_trans a.next b.next,fun n hn=>(b.same n (h0n.lt hn) (hv n hn)).trans (a.same n hn),by
  rcases a.stk with e | ⟨B,e⟩
  ·exact .inl (b.stk.trans e)
  ·exact .inr ⟨B,b.stk.trans e⟩⟩
theorem FrO.set {O : Nat → Prop} {h h1 : HP} {l u : Nat} (a : FrO O h h1 l u) (B : Blk) : FrO O h (h1.set (.stk l u) B) l u :=
 ⟨a.arg,a.next,a.same,.inr ⟨B,by
  rcases a.stk with e | ⟨C,e⟩
  ·show (fun l'=>if l' = l then (h1.stk l).set u B else h1.stk l') = fun l'=>if l' = l then (h.stk l).set u B else h.stk l'
   rw [e]
  ·have e2 : (h1.set (.stk l u) B).stk = ((h.set (.stk l u) C).set (.stk l u) B).stk:=by
    show (fun l'=>if l' = l then (h1.stk l).set u B else h1.stk l') = fun l'=>if l' = l then ((h.set (.stk l u) C).stk l).set u B else (h.set (.stk l u) C).stk l'
    rw [e]
   rw [e2,stk_set_set]⟩⟩
theorem FrO.ob {O : Nat → Prop} {h h1 : HP} {l u q : Nat} {t : Ty} {v : AV} (a : FrO O h h1 l u) (hq : O q) : FrO O h (h1.ob q t v) l u :=
 ⟨a.arg,a.next,fun n hn=>(obj_ob_ne (fun e : n = q=>hn (e ▸ hq))).trans (a.same n hn),a.stk⟩
theorem SlO.apart {O O1 : Nat → Prop} {h : HP} {v w : AV} {l m : List AV} (a : SlO tTag O h v l) (b : SlO tRFile O1 h w m) (n : Nat) (hn : v.into (.obj n) = true) : w.into (.obj n) = false:=by
 rcases a with ⟨rfl,_⟩ | ⟨q,rfl,_,_,hq,_⟩
 ·simp [AV.into] at hn
 rcases b with ⟨rfl,_⟩ | ⟨q',rfl,_,_,hq',_⟩
 ·rfl
 have : q = n:=by simpa [AV.into] using hn
 subst this
 by_cases e : q' = q
 ·subst e
  rw [hq] at hq'
  simp [tTag,tRFile,tI,tB] at hq'
 ·simp [AV.into,e]
theorem SlO.apart' {O O1 : Nat → Prop} {h : HP} {v w : AV} {l m : List AV} (a : SlO tTag O h v l) (b : SlO tRFile O1 h w m) (n : Nat) (hn : w.into (.obj n) = true) : v.into (.obj n) = false:=by
 cases e : v.into (.obj n) with
 | false=>rfl
 | true=>exact absurd hn (by rw [a.apart b n e]; simp)
section
variable {cx : Cx} {h : HP} {O : Nat → Prop} {l u : Nat} {T : List Tag} {F : List RFile}
theorem RIDoO_ok {x : SStep} (hl : ∀ n,cx.prot.lets (.obj n) = true) (hls : cx.prot.lets (.stk l u) = true) (hlu : l < cx.lvl) (h0n : OUp O h.next) (hR : RIAtO O h l u T F) (hT : T.length ≤ 1000000) (hFl : F.length ≤ 1000000) (hfo : FilesOk T F) (hx : x.ok) :
  Ok tblE cx Fn.r_Ideal_Do (St.enter [.ptr (.stk l u) [] tRIdeal,x.enc] h) fun v h'=>v = .int .i64 (rdoC T x) ∧ FrO O h h' l u ∧ RIAtO O h' l u (rdoT T F x) (rdoF T F x):=by
 have hR0:=hR
 obtain ⟨v1,v2,hm0,hS,hG⟩:=hR
 have hb : (Id.stk l u).below cx.lvl:=hlu
 have hm : h.rd (.stk l u) [0] = some v1:=by simp [HP.rd,hm0,at_RI0]
 have hm2 : h.rd (.stk l u) [1] = some v2:=by simp [HP.rd,hm0,at_RI1]
 have hlen:=hS.len
 have hfit:=hS.r.fits
 have hlen2:=hG.len
 have hfit2:=hG.r.fits
 have hfg1:=hS.fg
 have hfg2:=hG.fg
 have hld1:=hS.ld
 have hld2:=hG.ld
 rw [List.length_map] at hlen hlen2
 rw [Ok_eq]
 simp (maxSteps:=999999) (disch:=omega) only [go_sem,rd_ext hb,hm,fg_ptr hb,leads_ptr hb,apart_ptr hb]
 refine W_callp rfl ⟨rfl,rfl⟩ (by simp only [go_sem]; exact StepFault_ok (x:=x) hx.name hx.to hx.text) ?_
 simp (maxSteps:=999999) (disch:=omega) only [go_sem,rd_ext hb,hm,fg_ptr hb,leads_ptr hb,apart_ptr hb]
 by_cases c0 : stepFault x = 0
 rotate_left
 ·simp (maxSteps:=999999) (disch:=omega) only [go_sem,c0]
  have hc : rdoC T x = stepFault x:=by simp [rdoC,c0]
  have hc' : ¬rdoC T x = 0:=by rw [hc]; exact c0
  refine ⟨by rw [hc],FrO.refl ..,?_⟩
  simp only [rdoT,rdoF,hc',ne_eq,not_false_eq_true,if_true]
  exact hR0
 simp (maxSteps:=999999) (disch:=omega) only [go_sem,c0,rd_ext hb,hm,fg_ptr hb,leads_ptr hb,apart_ptr hb]
 refine W_callp rfl ⟨rfl,rfl⟩ (by simp only [go_sem]; exact at_ok (l:=T) hb.succ (by simp only [HP.push_rd_ext hb,hm]) hS.r.push hT) ?_
 simp (maxSteps:=999999) (disch:=omega) only [go_sem,rd_ext hb,hm,fg_ptr hb,leads_ptr hb,apart_ptr hb]
 by_cases k1 : x.kind = 1
 ·by_cases ca : 0 ≤ atT T x.dir x.name
  ·simp (maxSteps:=999999) (disch:=omega) only [go_sem,k1,ca]
   have hc : rdoC T x = 4:=by simp [rdoC,c0,k1,ca]
   refine ⟨by rw [hc],FrO.refl ..,?_⟩
   simp only [rdoT,rdoF,hc]
   exact hR0
  have hc : rdoC T x = 0:=by simp [rdoC,c0,k1,ca]
  simp (maxSteps:=999999) (disch:=omega) only [go_sem,k1,ca,rd_ext hb,hm,fg_ptr hb,leads_ptr hb,apart_ptr hb,hm2,hfit,hfit2,hlen2,hfg1,hfg2,hld1,hld2]
  refine W_bsliceG (t:=tTag) (v:=Tag.enc ⟨x.dir,x.name,F.length⟩) (by simp only [go_sem]) rfl ?_
  simp (maxSteps:=999999) (disch:=omega) only [go_sem,hfg1,hfg2,leads_ptr hb,fg_ptr hb]
  refine W_appO (O:=O) (v:=v1) (l:=T.map Tag.enc) (add:=[Tag.enc ⟨x.dir,x.name,F.length⟩]) (by simp only [go_sem]) (fun n=>hl n) h0n hS (elems_one (by simp only [go_sem])) (fits_tags _) (fun a h=>by simp at h; subst h; rfl) (by simp; omega) (fun e=>by rfl) fun v1' h1 hS1 hof1=>?_
  have hm1 : h1.look (.stk l u) = some ⟨tRIdeal,encRI v1 v2⟩:=by rw [← hm0]; simp only [HP.look,hof1.stk]
  have hf1' : tSl.fits v1' = true:=by have:=hS1.r.fits; simpa using this
  simp (maxSteps:=999999) (disch:=omega) only [go_sem,stV_RI0 hlu hls hm1 hf1',rd_ext hb,rd_RI0,rd_RI1,fg_ptr hb,leads_ptr hb,apart_ptr hb,hfit2,hfg2,hld2]
  refine W_bsliceG (t:=tRFile) (v:=RFile.zero.enc) (by simp only [go_sem,zero_rf]) RFile.zero.fits ?_
  simp (maxSteps:=999999) (disch:=omega) only [go_sem,hfg1,hfg2,leads_ptr hb,fg_ptr hb]
  have hG1 : SlO tRFile O h1 v2 (F.map RFile.enc):=hG.same hof1 (hS.apart' hG)
  refine W_appO (O:=O) (v:=v2) (l:=F.map RFile.enc) (add:=[RFile.zero.enc]) (by simp only [go_sem]) (fun n=>hl n) (h0n.le hof1.next) hG1 (elems_one (by simp only [go_sem])) (fits_rfiles _) (fun a h=>by simp at h; subst h; exact RFile.zero.fits) (by simp; omega) (fun e=>by rfl) fun v2' h2 hG2 hof2=>?_
  have hm3 : h2.look (.stk l u) = some ⟨tRIdeal,encRI v1' v2⟩:=by
   have:=stk_look_set h1 l u ⟨tRIdeal,encRI v1' v2⟩
   rw [← this]; simp only [HP.look,hof2.stk]
  have hf2' : tSl.fits v2' = true:=by have:=hG2.r.fits; simpa using this
  have hS2 : SlO tTag O h2 v1' (T.map Tag.enc ++ [Tag.enc ⟨x.dir,x.name,F.length⟩]):=SlO.same (h:=h1.set (.stk l u) ⟨tRIdeal,encRI v1' v2⟩) hS1 hof2 (fun n hn=>hS1.apart hG1 n hn)
  simp (maxSteps:=999999) (disch:=omega) only [go_sem,stV_RI1 hlu hls hm3 hf2',fg_ptr hb,leads_ptr hb,apart_ptr hb]
  have fr:=(((FrO.refl O h l u).off hof1 h0n (fun n hn=>hS.into n hn)).set ⟨tRIdeal,encRI v1' v2⟩).off hof2 (h0n.le hof1.next) (fun n hn=>hG.into n hn)
  refine ⟨by rw [hc],fr.set _,v1',v2',stk_look_set ..,?_,?_⟩
  ·show SlO tTag O h2 v1' _
   have e : (rdoT T F x).map Tag.enc = T.map Tag.enc ++ [Tag.enc ⟨x.dir,x.name,F.length⟩]:=by simp [rdoT,hc,k1]
   rw [e]; exact hS2
  ·show SlO tRFile O h2 v2' _
   have e : (rdoF T F x).map RFile.enc = F.map RFile.enc ++ [RFile.zero.enc]:=by simp [rdoF,hc,k1]
   rw [e]; exact hG2
 rcases atT_cases T x.dir x.name with e | ⟨i,hi,e,hid,hin⟩
 ·simp (maxSteps:=999999) (disch:=omega) only [go_sem,k1,e]
  have hc : rdoC T x = 5:=by simp [rdoC,c0,k1,e]
  refine ⟨by rw [hc],FrO.refl ..,?_⟩
  simp only [rdoT,rdoF,hc]
  exact hR0
 obtain ⟨⟨kd1,kd6⟩,⟨d0,d3⟩,_,hto,hpp,_⟩:=stepFault_zero c0
 have i0 : ¬(i : Int) < 0:=by omega
 have en : rdoN T x = (tagN T i).file:=by unfold rdoN; rw [e]; rfl
 have hnF:=hfo i hi
 rw [← en] at hnF
 have hSv : ∃ q,v1 = .sl (.obj q) 0 T.length ∧ h.look (.obj q) = some ⟨.arr T.length tTag,.ofList (T.map Tag.enc)⟩:=by
  rcases hS with ⟨_,e'⟩ | ⟨q,rfl,_,_,hq,_⟩
  ·have : T = []:=by simpa using e'
   rw [this] at hi; simp at hi
  ·rw [List.length_map] at hq ⊢; exact ⟨q,rfl,hq⟩
 obtain ⟨q1,ev1,hq1⟩:=hSv
 subst ev1
 simp (maxSteps:=999999) (disch:=omega) only [go_sem,k1,e,i0,rd_ext hb,hm,fg_ptr hb,leads_ptr hb,apart_ptr hb,hfit,hq1,hi,hfg1,hld1]
 rw [← en]
 by_cases k2 : x.kind = 2
 ·have k3 : ¬x.kind = 3:=by omega
  simp (maxSteps:=999999) (disch:=omega) only [go_sem,k1,k2,rd_ext hb,hm,fg_ptr hb,leads_ptr hb,apart_ptr hb]
  refine W_callp rfl ⟨rfl,rfl⟩ (by simp only [go_sem]; exact at_ok (l:=T) hb.succ (by simp only [HP.push_rd_ext hb,hm]) hS.r.push hT) ?_
  simp (maxSteps:=999999) (disch:=omega) only [go_sem,rd_ext hb,hm,fg_ptr hb,leads_ptr hb,apart_ptr hb]
  by_cases ca : 0 ≤ atT T x.toDir x.to
  ·simp (maxSteps:=999999) (disch:=omega) only [go_sem,ca]
   have hc : rdoC T x = 4:=by simp [rdoC,c0,k1,e,k2,ca]
   refine ⟨by rw [hc],FrO.refl ..,?_⟩
   simp only [rdoT,rdoF,hc]
   exact hR0
  have hc : rdoC T x = 0:=by simp [rdoC,c0,k1,e,k2,ca]
  simp (maxSteps:=999999) (disch:=omega) only [go_sem,ca,rd_ext hb,hm,fg_ptr hb,leads_ptr hb,apart_ptr hb,hfit,hfg1,hld1]
  refine W_bsliceG (t:=tTag) (v:=Tag.enc ⟨x.toDir,x.to,rdoN T x⟩) (by simp only [go_sem]) rfl ?_
  simp (maxSteps:=999999) (disch:=omega) only [go_sem,hfg1,fg_ptr hb,leads_ptr hb,apart_ptr hb]
  refine W_appO (O:=O) (v:=.sl (.obj q1) 0 T.length) (l:=T.map Tag.enc) (add:=[Tag.enc ⟨x.toDir,x.to,rdoN T x⟩]) (by simp only [go_sem]) (fun n=>hl n) h0n hS (elems_one (by simp only [go_sem])) (fits_tags _) (fun a h=>by simp at h; subst h; rfl) (by simp; omega) (fun e=>by rfl) fun v1' h1 hS1 hof1=>?_
  have hm1 : h1.look (.stk l u) = some ⟨tRIdeal,encRI (.sl (.obj q1) 0 T.length) v2⟩:=by rw [← hm0]; simp only [HP.look,hof1.stk]
  have hf1' : tSl.fits v1' = true:=by have:=hS1.r.fits; simpa using this
  have hG1 : SlO tRFile O h1 v2 (F.map RFile.enc):=hG.same hof1 (hS.apart' hG)
  have fr : FrO O h (h1.set (.stk l u) ⟨tRIdeal,encRI v1' v2⟩) l u:=((FrO.refl O h l u).off hof1 h0n (fun n hn=>hS.into n hn)).set _
  have hSL : SlO tTag O (h1.set (.stk l u) ⟨tRIdeal,encRI v1' v2⟩) v1' ((T ++ [(⟨x.toDir,x.to,rdoN T x⟩ : Tag)]).map Tag.enc):=by
   rw [List.map_append]; exact hS1
  have hfgv:=hSL.fg
  have hldv:=hSL.ld
  simp (maxSteps:=999999) (disch:=omega) only [go_sem,k2,stV_RI0 hlu hls hm1 hf1',rd_ext hb,rd_RI0,rd_RI1,fg_ptr hb,leads_ptr hb,apart_ptr hb,hfit2,hfg2,hld2,hf1',hfgv,hldv]
  refine ⟨by rw [hc],fr,v1',v2,stk_look_set ..,?_,?_⟩
  ·have et : rdoT T F x = T ++ [(⟨x.toDir,x.to,rdoN T x⟩ : Tag)]:=by simp [rdoT,hc,k1,k2]
   rw [et]; exact hSL
  ·have et : rdoF T F x = F:=by simp [rdoF,hc,k1,k2]
   rw [et]; exact hG1
 by_cases k4 : x.kind = 4
 ·have k3 : ¬x.kind = 3:=by omega
  simp (maxSteps:=999999) (disch:=omega) only [go_sem,k1,k4,rd_ext hb,hm,fg_ptr hb,leads_ptr hb,apart_ptr hb]
  refine W_callp rfl ⟨rfl,rfl⟩ (by simp only [go_sem]; exact at_ok (l:=T) hb.succ (by simp only [HP.push_rd_ext hb,hm]) hS.r.push hT) ?_
  simp (maxSteps:=999999) (disch:=omega) only [go_sem,rd_ext hb,hm,fg_ptr hb,leads_ptr hb,apart_ptr hb]
  by_cases ca : 0 ≤ atT T x.toDir x.to
  ·simp (maxSteps:=999999) (disch:=omega) only [go_sem,ca]
   have hc : rdoC T x = 4:=by simp [rdoC,c0,k1,e,k4,ca]
   refine ⟨by rw [hc],FrO.refl ..,?_⟩
   simp only [rdoT,rdoF,hc]
   exact hR0
  have hc : rdoC T x = 0:=by simp [rdoC,c0,k1,e,k4,ca]
  simp (maxSteps:=999999) (disch:=omega) only [go_sem,ca,rd_ext hb,hm,fg_ptr hb,leads_ptr hb,apart_ptr hb,hfit,hfg1,hld1]
  refine W_bsliceG (t:=tTag) (v:=Tag.enc ⟨x.toDir,x.to,rdoN T x⟩) (by simp only [go_sem]) rfl ?_
  simp (maxSteps:=999999) (disch:=omega) only [go_sem,hfg1,fg_ptr hb,leads_ptr hb,apart_ptr hb]
  refine W_appO (O:=O) (v:=.sl (.obj q1) 0 T.length) (l:=T.map Tag.enc) (add:=[Tag.enc ⟨x.toDir,x.to,rdoN T x⟩]) (by simp only [go_sem]) (fun n=>hl n) h0n hS (elems_one (by simp only [go_sem])) (fits_tags _) (fun a h=>by simp at h; subst h; rfl) (by simp; omega) (fun e=>by rfl) fun v1' h1 hS1 hof1=>?_
  have hm1 : h1.look (.stk l u) = some ⟨tRIdeal,encRI (.sl (.obj q1) 0 T.length) v2⟩:=by rw [← hm0]; simp only [HP.look,hof1.stk]
  have hf1' : tSl.fits v1' = true:=by have:=hS1.r.fits; simpa using this
  have hG1 : SlO tRFile O h1 v2 (F.map RFile.enc):=hG.same hof1 (hS.apart' hG)
  have fr : FrO O h (h1.set (.stk l u) ⟨tRIdeal,encRI v1' v2⟩) l u:=((FrO.refl O h l u).off hof1 h0n (fun n hn=>hS.into n hn)).set _
  have hSL : SlO tTag O (h1.set (.stk l u) ⟨tRIdeal,encRI v1' v2⟩) v1' ((T ++ [(⟨x.toDir,x.to,rdoN T x⟩ : Tag)]).map Tag.enc):=by
   rw [List.map_append]; exact hS1
  have hfgv:=hSL.fg
  have hldv:=hSL.ld
  simp (maxSteps:=999999) (disch:=omega) only [go_sem,k4,stV_RI0 hlu hls hm1 hf1',rd_ext hb,rd_RI0,rd_RI1,fg_ptr hb,leads_ptr hb,apart_ptr hb,hfit2,hfg2,hld2,hf1',hfgv,hldv]
  have h0m : OUp O h1.next:=h0n.le hof1.next
  have hGs : SlO tRFile O (h1.set (.stk l u) ⟨tRIdeal,encRI v1' v2⟩) v2 (F.map RFile.enc):=hG1
  have hVr:=hSL.r.fits
  have hVf:=hSL.fg
  have hVl:=hSL.ld
  have hiL : i + 1 ≤ (T ++ [(⟨x.toDir,x.to,rdoN T x⟩ : Tag)]).length:=by first | omega | (simp; omega)
  refine W_slcO (O:=O) (v:=v1') (l:=(T ++ [(⟨x.toDir,x.to,rdoN T x⟩ : Tag)]).map Tag.enc) (a:=0) (b:=i) (by simp only [go_sem]) hSL (.inl ⟨rfl,rfl⟩) (.inr ⟨_,.i64,rfl,by simp only [go_sem]⟩) (by omega) (by simp; omega) (.inl rfl) fun v108 _ hfg108 hel108=>?_
  refine W_appO (O:=fun n=>h1.next ≤ n) (v:=.nilsl) (l:=[]) (by simp only [go_sem]) (fun n=>hl n) (fun _ hm=>hm) (.inl ⟨rfl,rfl⟩) (add:=((T ++ [(⟨x.toDir,x.to,rdoN T x⟩ : Tag)]).take i).map Tag.enc) (by simp only [go_sem]; rw [hel108,List.map_take]; simp) (fun _ h=>by simp at h) (fits_tags _) (by simp; omega) (fun e=>by simp [apOk,AV.isNilsl]) fun v109 H1 hS1 hof1=>?_
  have hf109:=hS1.fg
  have hSa : SlO tTag O H1 (v1') ((T ++ [(⟨x.toDir,x.to,rdoN T x⟩ : Tag)]).map Tag.enc):=SlO.same hSL hof1 (fun _ _=>rfl)
  have hGa : SlO tRFile O H1 v2 (F.map RFile.enc):=SlO.same hGs hof1 (fun _ _=>rfl)
  have hMa : H1.look (.stk l u) = some ⟨tRIdeal,encRI (v1') v2⟩:=by
   have:=stk_look_set h1 l u ⟨tRIdeal,encRI v1' v2⟩
   rw [← this]; simp only [HP.look,hof1.stk]
  have hmA : H1.rd (.stk l u) [0] = some (v1'):=by simp [HP.rd,hMa,at_RI0]
  simp (maxSteps:=999999) (disch:=omega) only [go_sem,rd_ext hb,hmA,fg_ptr hb,leads_ptr hb,apart_ptr hb,hVr,hVf,hVl,hfg108,hf109]
  refine W_slcO (O:=O) (v:=v1') (l:=(T ++ [(⟨x.toDir,x.to,rdoN T x⟩ : Tag)]).map Tag.enc) (a:=i + 1) (b:=(T ++ [(⟨x.toDir,x.to,rdoN T x⟩ : Tag)]).length) (by simp only [go_sem]) hSa (.inr ⟨_,.i64,rfl,by first | (simp only [go_sem]; done) | (simp only [go_sem]; rfl)⟩) (.inl ⟨rfl,by simp⟩) hiL (by simp) (.inl rfl) fun v116 _ hfg116 hel116=>?_
  refine W_appO (O:=fun n=>h1.next ≤ n) (v:=v109) (l:=[] ++ ((T ++ [(⟨x.toDir,x.to,rdoN T x⟩ : Tag)]).take i).map Tag.enc) (by simp only [go_sem]) (fun n=>hl n) (fun _ hm=>Nat.le_trans hof1.next hm) hS1 (add:=((T ++ [(⟨x.toDir,x.to,rdoN T x⟩ : Tag)]).drop (i + 1)).map Tag.enc) (by simp only [go_sem]; rw [hel116,List.map_drop]; simp [List.take_of_length_le]) (fun a h=>by rw [List.nil_append] at h; exact fits_tags _ a h) (fits_tags _) (by simp; omega) (fun e=>by rfl) fun v117 H2 hS2 hof2=>?_
  have hf117:=hS2.fg
  have hl117:=hS2.ld
  have hfit117 : tSl.fits v117 = true:=by have:=hS2.r.fits; simpa using this
  have hMb : H2.look (.stk l u) = some ⟨tRIdeal,encRI (v1') v2⟩:=by rw [← hMa]; simp only [HP.look,hof2.stk]
  have hGb : SlO tRFile O H2 v2 (F.map RFile.enc):=hGa.same hof2 (hS1.apart' hGa)
  simp (maxSteps:=999999) (disch:=omega) only [go_sem,hf117,hl117,hfit117,stV_RI0 hlu hls hMb hfit117,k4]
  refine ⟨by rw [hc],(((fr).off hof1 h0m (fun _ _=>rfl)).off hof2 (h0m.le hof1.next) (fun n hn=>hS1.into n (fun hm=>hn (h0m _ hm)))).set _,v117,v2,stk_look_set ..,?_,?_⟩
  ·show SlO tTag O H2 v117 _
   have et : (rdoT T F x).map Tag.enc = ([] ++ ((T ++ [(⟨x.toDir,x.to,rdoN T x⟩ : Tag)]).take i).map Tag.enc) ++ ((T ++ [(⟨x.toDir,x.to,rdoN T x⟩ : Tag)]).drop (i + 1)).map Tag.enc:=by
    simp [rdoT,hc,e,k1,k4]
   rw [et]; exact hS2.mono h0m
  ·show SlO tRFile O H2 v2 _
   have et : rdoF T F x = F:=by simp [rdoF,hc,k1,k4]
   rw [et]; exact hGb
 by_cases k3 : x.kind = 3
 ·have hc : rdoC T x = 0:=by simp [rdoC,c0,e,k3]
  simp (maxSteps:=999999) (disch:=omega) only [go_sem,k1,k3,rd_ext hb,hm,fg_ptr hb,leads_ptr hb,apart_ptr hb,hfit,hfg1,hld1]
  have hVr:=hS.r.fits
  have hVf:=hS.fg
  have hVl:=hS.ld
  have hiL : i + 1 ≤ (T).length:=by first | omega | (simp; omega)
  refine W_slcO (O:=O) (v:=.sl (.obj q1) 0 T.length) (l:=(T).map Tag.enc) (a:=0) (b:=i) (by simp only [go_sem]) hS (.inl ⟨rfl,rfl⟩) (.inr ⟨_,.i64,rfl,by simp only [go_sem]⟩) (by omega) (by simp; omega) (.inl rfl) fun v108 _ hfg108 hel108=>?_
  refine W_appO (O:=fun n=>h.next ≤ n) (v:=.nilsl) (l:=[]) (by simp only [go_sem]) (fun n=>hl n) (fun _ hm=>hm) (.inl ⟨rfl,rfl⟩) (add:=((T).take i).map Tag.enc) (by simp only [go_sem]; rw [hel108,List.map_take]; simp) (fun _ h=>by simp at h) (fits_tags _) (by simp; omega) (fun e=>by simp [apOk,AV.isNilsl]) fun v109 H1 hS1 hof1=>?_
  have hf109:=hS1.fg
  have hSa : SlO tTag O H1 (.sl (.obj q1) 0 T.length) ((T).map Tag.enc):=SlO.same hS hof1 (fun _ _=>rfl)
  have hGa : SlO tRFile O H1 v2 (F.map RFile.enc):=SlO.same hG hof1 (fun _ _=>rfl)
  have hMa : H1.look (.stk l u) = some ⟨tRIdeal,encRI (.sl (.obj q1) 0 T.length) v2⟩:=by
   have:=hm0
   rw [← this]; simp only [HP.look,hof1.stk]
  have hmA : H1.rd (.stk l u) [0] = some (.sl (.obj q1) 0 T.length):=by simp [HP.rd,hMa,at_RI0]
  simp (maxSteps:=999999) (disch:=omega) only [go_sem,rd_ext hb,hmA,fg_ptr hb,leads_ptr hb,apart_ptr hb,hVr,hVf,hVl,hfg108,hf109]
  refine W_slcO (O:=O) (v:=.sl (.obj q1) 0 T.length) (l:=(T).map Tag.enc) (a:=i + 1) (b:=(T).length) (by simp only [go_sem]) hSa (.inr ⟨_,.i64,rfl,by first | (simp only [go_sem]; done) | (simp only [go_sem]; rfl)⟩) (.inl ⟨rfl,by simp⟩) hiL (by simp) (.inl rfl) fun v116 _ hfg116 hel116=>?_
  refine W_appO (O:=fun n=>h.next ≤ n) (v:=v109) (l:=[] ++ ((T).take i).map Tag.enc) (by simp only [go_sem]) (fun n=>hl n) (fun _ hm=>Nat.le_trans hof1.next hm) hS1 (add:=((T).drop (i + 1)).map Tag.enc) (by simp only [go_sem]; rw [hel116,List.map_drop]; simp [List.take_of_length_le]) (fun a h=>by rw [List.nil_append] at h; exact fits_tags _ a h) (fits_tags _) (by simp; omega) (fun e=>by rfl) fun v117 H2 hS2 hof2=>?_
  have hf117:=hS2.fg
  have hl117:=hS2.ld
  have hfit117 : tSl.fits v117 = true:=by have:=hS2.r.fits; simpa using this
  have hMb : H2.look (.stk l u) = some ⟨tRIdeal,encRI (.sl (.obj q1) 0 T.length) v2⟩:=by rw [← hMa]; simp only [HP.look,hof2.stk]
  have hGb : SlO tRFile O H2 v2 (F.map RFile.enc):=hGa.same hof2 (hS1.apart' hGa)
  simp (maxSteps:=999999) (disch:=omega) only [go_sem,hf117,hl117,hfit117,stV_RI0 hlu hls hMb hfit117,k3]
  refine ⟨by rw [hc],((((FrO.refl O h l u)).off hof1 h0n (fun _ _=>rfl)).off hof2 (h0n.le hof1.next) (fun n hn=>hS1.into n (fun hm=>hn (h0n _ hm)))).set _,v117,v2,stk_look_set ..,?_,?_⟩
  ·show SlO tTag O H2 v117 _
   have et : (rdoT T F x).map Tag.enc = ([] ++ ((T).take i).map Tag.enc) ++ ((T).drop (i + 1)).map Tag.enc:=by
    simp [rdoT,hc,e,k3]
   rw [et]; exact hS2.mono h0n
  ·show SlO tRFile O H2 v2 _
   have et : rdoF T F x = F:=by simp [rdoF,hc,k3]
   rw [et]; exact hGb
 have hGv : ∃ q,v2 = .sl (.obj q) 0 F.length ∧ O q ∧ q < h.next ∧ h.look (.obj q) = some ⟨.arr F.length tRFile,.ofList (F.map RFile.enc)⟩:=by
  rcases hG with ⟨_,e'⟩ | ⟨q,rfl,h1,h2,hq,_⟩
  ·have : F = []:=by simpa using e'
   rw [this] at hnF; simp at hnF
  ·rw [List.length_map] at hq ⊢; exact ⟨q,rfl,h1,h2,hq⟩
 obtain ⟨q2,ev2,hq0,hqn,hq2⟩:=hGv
 subst ev2
 by_cases k5 : x.kind = 5
 ·obtain ⟨p0,p2⟩:=hpp (.inl k5)
  obtain ⟨pp,hp'⟩ : ∃ pp : Nat,x.p = pp:=⟨x.p.toNat,(Int.toNat_of_nonneg p0).symm⟩
  have pp2 : pp < 2:=by omega
  have put1:=files_put hnF (rfile_put0 (filN F (rdoN T x)) pp2 true)
  have put2:=files_put (F:=F.set (rdoN T x) ((filN F (rdoN T x)).setH pp true)) (by rw [List.length_set]; exact hnF) (by rw [filN_set hnF]; exact rfile_put1 ((filN F (rdoN T x)).setH pp true) pp2 x.text)
  rw [List.set_set] at put2
  have hc : rdoC T x = 0:=by simp [rdoC,c0,e,k5]
  simp (maxSteps:=999999) (disch:=omega) only [go_sem,k5,rd_ext hb,hm,fg_ptr hb,leads_ptr hb,apart_ptr hb,hm2,hfit,hfit2,hfg1,hfg2,hld1,hld2,hq2,hp',pp2,hnF,stV_ob (hl _),put1,put2,look_ob,Option.bind_some,Option.map_some]
  have ob2 : Off h (h.ob q2 (.arr F.length tRFile) (AV.ofList ((F.set (rdoN T x) ((filN F (rdoN T x)).setP pp true x.text)).map RFile.enc))) (.sl (.obj q2) 0 F.length) :=
   ⟨rfl,rfl,Nat.le_refl _,fun n _ hv=>by
    have hne : ¬n = q2:=fun e=>by subst e; simp [AV.into] at hv
    exact obj_ob_ne hne⟩
  refine ⟨by rw [hc],(FrO.refl O h l u).ob hq0,_,_,hm0,?_,?_⟩
  ·have et : rdoT T F x = T:=by simp [rdoT,k5]
   rw [et]
   exact hS.same ob2 (hS.apart hG)
  ·have et : rdoF T F x = F.set (rdoN T x) ((filN F (rdoN T x)).setP pp true x.text):=by simp [rdoF,hc,k5,hp']
   rw [et]
   refine .inr ⟨q2,by simp,hq0,hqn,?_,?_⟩
   ·rw [List.length_map,List.length_set]; exact look_ob
   ·have : F ≠ []:=fun e=>by rw [e] at hnF; simp at hnF
    simpa using this
 have k6 : x.kind = 6:=by omega
 obtain ⟨p0,p2⟩:=hpp (.inr k6)
 obtain ⟨pp,hp'⟩ : ∃ pp : Nat,x.p = pp:=⟨x.p.toNat,(Int.toNat_of_nonneg p0).symm⟩
 have pp2 : pp < 2:=by omega
 have put1:=files_put hnF (rfile_put0 (filN F (rdoN T x)) pp2 false)
 have put2:=files_put (F:=F.set (rdoN T x) ((filN F (rdoN T x)).setH pp false)) (by rw [List.length_set]; exact hnF) (by rw [filN_set hnF]; exact rfile_put1 ((filN F (rdoN T x)).setH pp false) pp2 ⟨#[]⟩)
 rw [List.set_set] at put2
 have hc : rdoC T x = 0:=by simp [rdoC,c0,e,k6]
 simp (maxSteps:=999999) (disch:=omega) only [go_sem,k6,rd_ext hb,hm,fg_ptr hb,leads_ptr hb,apart_ptr hb,hm2,hfit,hfit2,hfg1,hfg2,hld1,hld2,hq2,hp',pp2,hnF,stV_ob (hl _),put1,put2,look_ob,Option.bind_some,Option.map_some]
 have ob2 : Off h (h.ob q2 (.arr F.length tRFile) (AV.ofList ((F.set (rdoN T x) ((filN F (rdoN T x)).setP pp false ⟨#[]⟩)).map RFile.enc))) (.sl (.obj q2) 0 F.length) :=
  ⟨rfl,rfl,Nat.le_refl _,fun n _ hv=>by
   have hne : ¬n = q2:=fun e=>by subst e; simp [AV.into] at hv
   exact obj_ob_ne hne⟩
 refine ⟨by rw [hc],(FrO.refl O h l u).ob hq0,_,_,hm0,?_,?_⟩
 ·have et : rdoT T F x = T:=by simp [rdoT,k6]
  rw [et]
  exact hS.same ob2 (hS.apart hG)
 ·have et : rdoF T F x = F.set (rdoN T x) ((filN F (rdoN T x)).setP pp false ⟨#[]⟩):=by simp [rdoF,hc,k6,hp']
  rw [et]
  refine .inr ⟨q2,by simp,hq0,hqn,?_,?_⟩
  ·rw [List.length_map,List.length_set]; exact look_ob
  ·have : F ≠ []:=fun e=>by rw [e] at hnF; simp at hnF
   simpa using this
end
abbrev tName : Ty:=.cons tI (.cons tS (.cons tP .unit))
abbrev tPFile : Ty:=.cons (.arr 2 tP) .unit
abbrev tWorld : Ty:=.cons tSl .unit
def encN (ad : Nat → Nat) (x : Tag) : AV:=.cons (.int .i64 x.dir) (.cons (.str x.name) (.cons (.ptr (.obj (ad x.file)) [] tPFile) .unit))
def encPF (a b : AV) : AV:=.cons (.arr 2 fun i=>if i.val = 0 then a else b) .unit
def encW (v : AV) : AV:=.cons v .unit
@[go_sem] theorem at_name0 (ad : Nat → Nat) (x : Tag) : (encN ad x).at [0] = some (.int .i64 x.dir):=rfl
@[go_sem] theorem at_name1 (ad : Nat → Nat) (x : Tag) : (encN ad x).at [1] = some (.str x.name):=rfl
@[go_sem] theorem at_name2 (ad : Nat → Nat) (x : Tag) : (encN ad x).at [2] = some (.ptr (.obj (ad x.file)) [] tPFile):=rfl
@[go_sem] theorem at_nameA (ad : Nat → Nat) (x : Tag) : (encN ad x).at [] = some (encN ad x):=rfl
@[go_sem] theorem fits_name (ad : Nat → Nat) (x : Tag) : (tName.fits (encN ad x) = true) = True:=eq_true rfl
@[go_sem] theorem fg_name (ad : Nat → Nat) (x : Tag) (i : Id) : fg (encN ad x) i = encN ad x:=rfl
@[go_sem] theorem leads_name (ad : Nat → Nat) (x : Tag) (i : Id) : (encN ad x).leads i = false:=rfl
@[go_sem] theorem field_n0 : tName.field 0 = some tI:=rfl
@[go_sem] theorem field_n1 : tName.field 1 = some tS:=rfl
@[go_sem] theorem field_n2 : tName.field 2 = some tP:=rfl
@[go_sem] theorem field_pf0 : tPFile.field 0 = some (.arr 2 tP):=rfl
@[go_sem] theorem field_w0 : tWorld.field 0 = some tSl:=rfl
@[go_sem] theorem fill_name (ad : Nat → Nat) (d : Int) (s : Str) (n : Nat) : fill tName tName.zero [(0,.int .i64 d),(1,.str s),(2,.ptr (.obj (ad n)) [] tPFile)] = some (encN ad ⟨d,s,n⟩):=rfl
@[go_sem] theorem fill_pf : fill tPFile tPFile.zero [] = some (encPF .nilp .nilp):=by
 simp only [fill,encPF,Ty.zero,LK.zero]
 congr 3
 funext i
 split <;> rfl
@[go_sem] theorem fill_world : fill tWorld tWorld.zero [] = some (encW .nilsl):=rfl
@[go_sem] theorem zero_W : tWorld.zero = encW .nilsl:=rfl
@[go_sem] theorem zero_PF : tPFile.zero = encPF .nilp .nilp:=by
 simp only [encPF,Ty.zero,LK.zero]
 congr 2
 funext i
 split <;> rfl
@[go_sem] theorem at_W0 (v : AV) : (encW v).at [0] = some v:=by simp [encW,AV.at]
@[go_sem] theorem put_W0 (v x : AV) : (encW v).put [0] x = some (encW x):=by simp [encW,AV.put]
@[go_sem] theorem fits_W : (tWorld.fits (encW .nilsl) = true) = True:=eq_true rfl
@[go_sem] theorem fits_PF : (tPFile.fits (encPF .nilp .nilp) = true) = True:=by
 refine eq_true ?_
 have : tP.fits .nilp = true:=rfl
 simp [encPF,Ty.fits,this]
theorem at_PF (a b : AV) {p : Nat} (hp : p < 2) : (encPF a b).at [0,p] = some (if p = 0 then a else b):=by
 simp only [encPF,AV.at,hp,dite_true]
theorem put_PF (a b x : AV) {p : Nat} (hp : p < 2) : (encPF a b).put [0,p] x = some (encPF (if p = 0 then x else a) (if p = 0 then b else x)):=by
 match p,hp with
 | 0,_ =>
  simp only [encPF,AV.put,dite_true,show 0 < 2 by omega,Option.map_some]
  congr 3; funext j; match j with
   | ⟨0,_⟩=>rfl
   | ⟨1,_⟩=>rfl
 | 1,_ =>
  simp only [encPF,AV.put,dite_true,show 1 < 2 by omega,Option.map_some]
  congr 3; funext j; match j with
   | ⟨0,_⟩=>rfl
   | ⟨1,_⟩=>rfl
@[go_sem] theorem names_at (ad : Nat → Nat) (l : List Tag) (rest : List AV) {k : Nat} (h : k < l.length) (p : List Nat) : (AV.ofList (l.map (encN ad) ++ rest)).at (k :: p) = (encN ad (tagN l k)).at p:=by
 have h' : k < l.length + rest.length:=by omega
 have h2 : k < (l.map (encN ad)).length:=by simpa using h
 simp only [AV.ofList,AV.at,List.length_append,List.length_map,h',dite_true,List.get_eq_getElem,tagN_get h]
 rw [List.getElem_append_left h2,List.getElem_map]
section
variable {T : Nat → Option MFun} {cx : Cx} {k : List Item} {kill : List Nat} {r : List MOp} {sl : Slots} {own : Own} {h : HP} {Q : St → Prop}
@[go_sem] theorem W_boxWorld {d : Nat} {x : Opd} : W T cx (.ops (⟨some d,.box true tWorld x,none⟩ :: r) kill :: k) ⟨sl,own,h⟩ Q = WBX T cx tWorld (St.opd ⟨sl,own,h⟩ x) d r kill k sl own h Q:=W_boxX
@[go_sem] theorem W_boxPF {d : Nat} {x : Opd} : W T cx (.ops (⟨some d,.box true tPFile x,none⟩ :: r) kill :: k) ⟨sl,own,h⟩ Q = WBX T cx tPFile (St.opd ⟨sl,own,h⟩ x) d r kill k sl own h Q:=W_boxX
@[go_sem] theorem W_boxStepE {d : Nat} {x : Opd} : W T cx (.ops (⟨some d,.box true tStep x,none⟩ :: r) kill :: k) ⟨sl,own,h⟩ Q = WBX T cx tStep (St.opd ⟨sl,own,h⟩ x) d r kill k sl own h Q:=W_boxX
end
@[go_sem] theorem WBX_world {T : Nat → Option MFun} {cx : Cx} {k : List Item} {kill : List Nat} {r : List MOp} {sl : Slots} {own : Own} {h : HP} {Q : St → Prop} {d : Nat} : WBX T cx tWorld (encW .nilsl) d r kill k sl own h Q = W T cx (.ops r kill :: k) ⟨sl.set d (.ptr (.obj h.next) [] tWorld),own,h.nw tWorld (encW .nilsl)⟩ Q:=by
 simp only [WBX,fits_W,true_and]
@[go_sem] theorem WBX_pf {T : Nat → Option MFun} {cx : Cx} {k : List Item} {kill : List Nat} {r : List MOp} {sl : Slots} {own : Own} {h : HP} {Q : St → Prop} {d : Nat} : WBX T cx tPFile (encPF .nilp .nilp) d r kill k sl own h Q = W T cx (.ops r kill :: k) ⟨sl.set d (.ptr (.obj h.next) [] tPFile),own,h.nw tPFile (encPF .nilp .nilp)⟩ Q:=by
 simp only [WBX,fits_PF,true_and]
@[go_sem] theorem WBX_step {T : Nat → Option MFun} {cx : Cx} {k : List Item} {kill : List Nat} {r : List MOp} {sl : Slots} {own : Own} {h : HP} {Q : St → Prop} {d : Nat} {x : SStep} : WBX T cx tStep x.enc d r kill k sl own h Q = W T cx (.ops r kill :: k) ⟨sl.set d (.ptr (.obj h.next) [] tStep),own,h.nw tStep x.enc⟩ Q:=by
 simp only [WBX,fits_step,true_and]
@[go_sem] theorem safe_slo (n a b : Nat) : ((AV.sl (.obj n) a b).safe = true) = True:=eq_true rfl
def NSl (O : Nat → Prop) (h : HP) (v : AV) (l : List AV) : Prop :=
 (v = .nilsl ∧ l = []) ∨ ∃ q rest,v = .sl (.obj q) 0 l.length ∧ O q ∧ q < h.next ∧ h.look (.obj q) = some ⟨.arr (l.length + List.length rest) tName,.ofList (l ++ rest)⟩ ∧ (∀ a ∈ rest,tName.fits a = true)
def PartAt (O : Nat → Prop) (h : HP) (has : Bool) (t : Str) (c : AV) : Prop :=
 (has = false ∧ t = ⟨#[]⟩ ∧ c = .nilp) ∨ (has = true ∧ ∃ b x,c = .ptr (.obj b) [6] tS ∧ O b ∧ b < h.next ∧ h.look (.obj b) = some ⟨tStep,SStep.enc x⟩ ∧ x.text = t)
structure FilA (O : Nat → Prop) (h : HP) (n : Nat) (f : RFile) : Prop where
 o : O n
 nn : n < h.next
 at' : ∃ c0 c1,h.look (.obj n) = some ⟨tPFile,encPF c0 c1⟩ ∧ PartAt O h f.h0 f.t0 c0 ∧ PartAt O h f.h1 f.t1 c1
structure WIn (O : Nat → Prop) (h : HP) (w : Nat) (sv : AV) (ad : Nat → Nat) (T : List Tag) (F : List RFile) : Prop where
 ow : O w
 wn : w < h.next
 wl : h.look (.obj w) = some ⟨tWorld,encW sv⟩
 sl : NSl O h sv (T.map (encN ad))
 fil : ∀ k,k < F.length → FilA O h (ad k) (filN F k)
 inj : ∀ j k,j < F.length → k < F.length → ad j = ad k → j = k
 ok : FilesOk T F
theorem NSl.keep {O O' : Nat → Prop} {h h' : HP} {v : AV} {l : List AV} (a : NSl O h v l) (hO : ∀ n,O n → n < h.next → O' n) (hn : h.next ≤ h'.next) (hs : ∀ n,n < h.next → v.into (.obj n) = true → h'.obj n = h.obj n) : NSl O' h' v l:=by
 rcases a with a | ⟨q,rest,rfl,ho,hq,hl,hf⟩
 ·exact .inl a
 ·refine .inr ⟨q,rest,rfl,hO q ho hq,Nat.lt_of_lt_of_le hq hn,?_,hf⟩
  rw [← hl]; exact hs q hq (by simp [AV.into])
theorem PartAt.keep {O O' : Nat → Prop} {h h' : HP} {b : Bool} {t : Str} {c : AV} (a : PartAt O h b t c) (hO : ∀ n,O n → n < h.next → O' n) (hn : h.next ≤ h'.next) (hs : ∀ n,n < h.next → O n → (∃ x : SStep,h.look (.obj n) = some ⟨tStep,x.enc⟩) → h'.obj n = h.obj n) : PartAt O' h' b t c:=by
 rcases a with a | ⟨e,b,x,rfl,ho,hb,hl,ht⟩
 ·exact .inl a
 ·refine .inr ⟨e,b,x,rfl,hO b ho hb,Nat.lt_of_lt_of_le hb hn,?_,ht⟩
  rw [← hl]; exact hs b hb ho ⟨x,hl⟩
theorem FilA.keep {O O' : Nat → Prop} {h h' : HP} {n : Nat} {f : RFile} (a : FilA O h n f) (hO : ∀ n,O n → n < h.next → O' n) (hn : h.next ≤ h'.next) (hs : ∀ n,n < h.next → O n → (∃ x : SStep,h.look (.obj n) = some ⟨tStep,x.enc⟩) → h'.obj n = h.obj n) (hs2 : h'.obj n = h.obj n) : FilA O' h' n f:=by
 obtain ⟨o,hn',c0,c1,hl,h0,h1⟩:=a
 refine ⟨hO _ o hn',Nat.lt_of_lt_of_le hn' hn,c0,c1,?_,h0.keep hO hn hs,h1.keep hO hn hs⟩
 rw [← hl]; exact hs2
theorem WIn.keep {O O' : Nat → Prop} {h h' : HP} {w : Nat} {sv : AV} {ad : Nat → Nat} {T : List Tag} {F : List RFile} (a : WIn O h w sv ad T F) (hO : ∀ n,O n → n < h.next → O' n) (hn : h.next ≤ h'.next) (hs : ∀ n,n < h.next → O n → h'.obj n = h.obj n) : WIn O' h' w sv ad T F:=by
 refine ⟨hO _ a.ow a.wn,Nat.lt_of_lt_of_le a.wn hn,?_,?_,fun k hk=>?_,a.inj,a.ok⟩
 ·rw [← a.wl]; exact hs _ a.wn a.ow
 ·have hsl:=a.sl
  rcases hsl with h1 | ⟨q,rest,rfl,ho,hq,hl,hf⟩
  ·exact .inl h1
  ·exact .inr ⟨q,rest,rfl,hO _ ho hq,Nat.lt_of_lt_of_le hq hn,by rw [← hl]; exact hs q hq ho,hf⟩
 ·have hk':=a.fil k hk
  exact hk'.keep hO hn (fun n h1 h2 _=>hs n h1 h2) (hs _ hk'.nn hk'.o)
theorem NSl.len {O : Nat → Prop} {h : HP} {v : AV} {l : List AV} (a : NSl O h v l) : lenV false v = some (.int .i64 l.length):=by
 rcases a with ⟨rfl,rfl⟩ | ⟨q,_,rfl,_⟩ <;> rfl
theorem NSl.fits {O : Nat → Prop} {h : HP} {v : AV} {l : List AV} (a : NSl O h v l) : (tSl.fits v = true) = True:=by
 rcases a with ⟨rfl,rfl⟩ | ⟨q,_,rfl,_⟩ <;> exact eq_true rfl
theorem NSl.fg {O : Nat → Prop} {h : HP} {v : AV} {l : List AV} (a : NSl O h v l) (x y : Nat) : fg v (.stk x y) = v:=by
 rcases a with ⟨rfl,rfl⟩ | ⟨q,_,rfl,_⟩ <;> simp only [go_sem]
theorem NSl.ld {O : Nat → Prop} {h : HP} {v : AV} {l : List AV} (a : NSl O h v l) (x y : Nat) : v.leads (.stk x y) = false:=by
 rcases a with ⟨rfl,rfl⟩ | ⟨q,_,rfl,_⟩ <;> simp only [go_sem]
theorem fits_names (ad : Nat → Nat) (l : List Tag) : ∀ a ∈ l.map (encN ad),tName.fits a = true:=fun a ha=>by
 obtain ⟨x,_,rfl⟩:=List.mem_map.1 ha; rfl
structure FrW (O : Nat → Prop) (h h' : HP) : Prop where
 stk : h'.stk = h.stk
 arg : h'.arg = h.arg
 next : h.next ≤ h'.next
 same : ∀ n,¬O n → h'.obj n = h.obj n
theorem FrW.refl (O : Nat → Prop) (h : HP) : FrW O h h:=⟨rfl,rfl,Nat.le_refl _,fun _ _=>rfl⟩
theorem FrW.trans {O : Nat → Prop} {h h1 h2 : HP} (a : FrW O h h1) (b : FrW O h1 h2) : FrW O h h2 :=
 ⟨b.stk.trans a.stk,b.arg.trans a.arg,Nat.le_trans a.next b.next,fun n hn=>(b.same n hn).trans (a.same n hn)⟩
theorem FrW.ob {O : Nat → Prop} {h : HP} {n : Nat} {t : Ty} {v : AV} (hn : O n) : FrW O h (h.ob n t v) :=
 ⟨rfl,rfl,Nat.le_refl _,fun k hk=>obj_ob_ne fun e=>hk (e ▸ hn)⟩
theorem FrW.nw {O : Nat → Prop} {h : HP} {t : Ty} {v : AV} (hn : OUp O h.next) : FrW O h (h.nw t v) :=
 ⟨rfl,rfl,Nat.le_succ _,fun k hk=>by
  have:=hn.lt hk
  simp [HP.nw,HP.ob,HP.set]; omega⟩
theorem FrW.off {O : Nat → Prop} {h h' : HP} {v : AV} (b : Off h h' v) (hn : OUp O h.next) (hv : ∀ n,¬O n → v.into (.obj n) = false) : FrW O h h' :=
 ⟨b.stk,b.arg,b.next,fun n h1=>b.same n (hn.lt h1) (hv n h1)⟩
section
variable {T : Nat → Option MFun} {cx : Cx} {k : List Item} {kill : List Nat} {r : List MOp} {sl : Slots} {own : Own} {h : HP} {Q : St → Prop}
theorem W_callW {O : Nat → Prop} {R : AV → HP → Prop} {prot : Bool} {f : Nat} {args : List Opd} {d : Option Nat} {fn : MFun} (hf : T f = some fn) (hp : fn.params = args.length ∧ fn.nfree = 0)
  (hc : Ok T (St.callCx ⟨sl,own,h⟩ cx prot) fn (St.enter (args.map (St.opd ⟨sl,own,h⟩)) (h.push cx.lvl own)) fun v' h'=>FrW O (h.push cx.lvl own) h' ∧ R v' h')
  (hR : ∀ v h1,R v (HP.push h1 cx.lvl own) → R v h1)
  (hq : ∀ v h1,FrW O h h1 → R v h1 → W T cx (.ops r kill :: k) (St.setd ⟨sl,own,h1⟩ d v) Q) :
  W T cx (.ops (⟨d,.call prot [] f args,none⟩ :: r) kill :: k) ⟨sl,own,h⟩ Q:=by
 refine W_callR (R:=fun v h1=>FrW O h h1 ∧ R v h1) hf hp (hc.mono fun v h' e=>?_) fun v h1 e=>hq v h1 e.1 e.2
 obtain ⟨e1,e2⟩:=e
 have hh : h' = HP.push ⟨h.stk,h'.obj,h'.next,h'.arg⟩ cx.lvl own:=by
  have:=e1.stk
  cases h'
  simp only at this
  subst this
  rfl
 refine ⟨⟨h.stk,h'.obj,h'.next,h'.arg⟩,hh,rfl,⟨rfl,e1.arg,e1.next,e1.same⟩,hR _ _ (hh ▸ e2)⟩
theorem W_callvc {prot : Bool} {f : Nat} {cap : AV} {x : Opd} {args : List Opd} {d : Option Nat} {fn : MFun} {v : AV} (hx : St.opd ⟨sl,own,h⟩ x = .func f cap) (hf : T f = some fn) (hp : fn.params = args.length ∧ fn.nfree = (capList cap).length)
  (hc : Ok T (St.callCx ⟨sl,own,h⟩ cx prot) fn (St.enter (args.map (St.opd ⟨sl,own,h⟩) ++ capList cap) (h.push cx.lvl own)) fun v' h'=>v' = v ∧ h' = h.push cx.lvl own)
  (hq : W T cx (.ops r kill :: k) (St.setd ⟨sl,own,h⟩ d v) Q) :
  W T cx (.ops (⟨d,.callv prot [] x args,none⟩ :: r) kill :: k) ⟨sl,own,h⟩ Q:=by
 refine W_call (R:=fun v' h'=>v' = v ∧ h' = h.push cx.lvl own) (cx':=St.callCx ⟨sl,own,h⟩ cx prot) (hide:=[]) (e:=St.enter (args.map (St.opd ⟨sl,own,h⟩) ++ capList cap) (h.push cx.lvl own)) (fn:=fn) (d:=d) (k1:=.ops r kill :: k) (s1:=⟨sl,own,h⟩) ?_ hc ?_
 ·simp only [next,St.wanted,opCmd,hx,enterCmd,hf,List.length_map,veil_nil]
  rw [if_pos hp]
 ·rintro v' h' ⟨rfl,rfl⟩
  rw [pop_push]; exact hq
theorem W_mkfn {d : Option Nat} {f : Nat} {caps : List Opd} {s : St} (hc : caps.all (fun y=>(s.opd y).isLeaf) = true) (hq : W T cx (.ops r kill :: k) (s.setd d (.func f (caps.foldr (fun x acc=>.cons (s.opd x) acc) .unit))) Q) :
  W T cx (.ops (⟨d,.mkfn f caps,none⟩ :: r) kill :: k) s Q:=by
 rw [W_op rfl,evOp]
 simp only [evK,hc,if_true,applyEff]
 exact hq
theorem W_eqp {d : Option Nat} {neg : Bool} {x y : Opd} {s : St} {b : Bool} (hc : eqPtr (s.look cx) (s.opd x) (s.opd y) = some b) (hq : W T cx (.ops r kill :: k) (s.setd d (.bool (if neg then !b else b))) Q) :
  W T cx (.ops (⟨d,.eqp neg x y,none⟩ :: r) kill :: k) s Q:=by
 rw [W_op rfl,evOp]
 simp only [evK,hc,Option.map_some,applyEff]
 exact hq
end
section
variable {cx : Cx} {h : HP} {O : Nat → Prop} {w : Nat} {sv : AV} {ad : Nat → Nat} {T : List Tag} {F : List RFile}
theorem INew_ok : Ok tblE cx Fn.ideal_New (St.enter [] h) fun v h'=>v = .ptr (.obj h.next) [] tWorld ∧ h' = h.nw tWorld (encW .nilsl):=by
 rw [Ok_eq]
 simp (maxSteps:=999999) (disch:=omega) only [go_sem]
theorem WIn.new (hO : O h.next) : WIn O (h.nw tWorld (encW .nilsl)) h.next .nilsl ad [] [] :=
 ⟨hO,Nat.lt_succ_self _,look_nw,.inl ⟨rfl,rfl⟩,fun k hk=>by simp at hk,fun j k hj=>by simp at hj,fun k hk=>by simp at hk⟩
theorem find1_ok {x : Tag} {d : Int} {s : Str} {p1 p2 : Id} (h1 : h.rd p1 [] = some (.int .i64 d)) (h2 : h.rd p2 [] = some (.str s)) (hb1 : p1.below cx.lvl) (hb2 : p2.below cx.lvl) :
  Ok tblE cx Fn.ideal_World_find_1 (St.enter [encN ad x,.ptr p1 [] tI,.ptr p2 [] tS] h) fun v h'=>v = .bool (decide (x.dir = d) && decide (x.name = s)) ∧ h' = h:=by
 rw [Ok_eq]
 simp (maxSteps:=999999) (disch:=omega) only [go_sem,rd_ext hb1,h1,fg_ptr hb1,leads_ptr hb1,apart_ptr hb1,rd_ext hb2,h2,fg_ptr hb2,leads_ptr hb2,apart_ptr hb2]
 by_cases c1 : x.dir = d
 ·simp (maxSteps:=999999) (disch:=omega) only [go_sem,c1,rd_ext hb1,h1,fg_ptr hb1,leads_ptr hb1,apart_ptr hb1,rd_ext hb2,h2,fg_ptr hb2,leads_ptr hb2,apart_ptr hb2]
 ·simp (maxSteps:=999999) (disch:=omega) only [go_sem,c1]
theorem IndexFunc_ok {v : AV} {l : List Tag} {d : Int} {s : Str} {p1 p2 : Id} (hS : NSl O h v (l.map (encN ad))) (hn : l.length ≤ 1000000) (h1 : h.rd p1 [] = some (.int .i64 d)) (h2 : h.rd p2 [] = some (.str s)) (hb1 : p1.below cx.lvl) (hb2 : p2.below cx.lvl) :
  Ok tblE cx Fn.slices_IndexFunc (St.enter [v,.func 329 (.cons (.ptr p1 [] tI) (.cons (.ptr p2 [] tS) .unit))] h) fun v h'=>v = .int .i64 (atT l d s) ∧ h' = h:=by
 have hlen:=hS.len
 have hfit:=hS.fits
 rw [List.length_map] at hlen
 rw [Ok_eq]
 simp (maxSteps:=999999) (disch:=omega) only [go_sem,hlen]
 refine W_forP l.length (fun i=>⟨[(0,v),(1,.func 329 (.cons (.ptr p1 [] tI) (.cons (.ptr p2 [] tS) .unit))),(7,.int .i64 l.length),(8,.int .i64 i)],[],h⟩) (fun i=>∀ j,j < i → (decide ((tagN l j).dir = d) && decide ((tagN l j).name = s)) = false) (by simp only [go_sem] <;> rfl) (fun j hj=>by omega) fun i hi hp ih=>?_
 by_cases hlt : i < l.length
 ·rcases hS with ⟨_,e⟩ | ⟨q,rest,rfl,_,_,hq,_⟩
  ·have : l = []:=by simpa using e
   rw [this] at hlt; simp at hlt
  rw [List.length_map] at hq hlen hfit ih ⊢
  simp (maxSteps:=999999) (disch:=omega) only [go_sem,hlt,hq]
  refine W_callvc (v:=.bool (decide ((tagN l i).dir = d) && decide ((tagN l i).name = s))) (by simp only [go_sem] <;> rfl) rfl ⟨rfl,rfl⟩ (by simp only [go_sem]; exact find1_ok (by rw [HP.push_rd_ext hb1]; exact h1) (by rw [HP.push_rd_ext hb2]; exact h2) hb1.succ hb2.succ) ?_
  cases c : (decide ((tagN l i).dir = d) && decide ((tagN l i).name = s)) with
  | true =>
   simp (maxSteps:=999999) (disch:=omega) only [go_sem]
   rw [atT,findN_at hp c hlt]
  | false =>
   simp (maxSteps:=999999) (disch:=omega) only [go_sem]
   refine ih _ hlt (step_all hp c) ?_
   simp only [go_sem]
 ·obtain rfl : i = l.length:=by omega
  simp (maxSteps:=999999) (disch:=omega) only [go_sem]
  rw [atT,findN_none hp]
theorem find_ok {w : Id} {v : AV} {l : List Tag} {d : Int} {s : Str} (hb : w.below cx.lvl) (hm : h.rd w [0] = some v) (hS : NSl O h v (l.map (encN ad))) (hn : l.length ≤ 1000000) :
  Ok tblE cx Fn.ideal_World_find (St.enter [.ptr w [] tWorld,.int .i64 d,.str s] h) fun v h'=>v = .int .i64 (atT l d s) ∧ h' = h:=by
 have hfit:=hS.fits
 have hfg:=hS.fg
 have hld:=hS.ld
 rw [Ok_eq]
 simp (maxSteps:=999999) (disch:=omega) only [go_sem,rd_ext hb,hm,fg_ptr hb,leads_ptr hb,apart_ptr hb,hfit,hfg,hld]
 refine W_mkfn (by simp only [go_sem]; rfl) ?_
 simp (maxSteps:=999999) (disch:=omega) only [go_sem,List.foldr_cons,List.foldr_nil]
 refine W_callp rfl ⟨rfl,rfl⟩ (by simp only [go_sem]; exact IndexFunc_ok (O:=O) (ad:=ad) (l:=l) (d:=d) (s:=s) hS hn (by simp [HP.rd,HP.look,HP.push,Own.get,AV.at]) (by simp [HP.rd,HP.look,HP.push,Own.get,AV.at]) (Nat.lt_succ_self _) (Nat.lt_succ_self _)) ?_
 simp (maxSteps:=999999) (disch:=omega) only [go_sem]
section
variable {T : Nat → Option MFun} {kill : List Nat} {k : List Item} {r : List MOp} {sl : Slots} {own : Own} {Q : St → Prop} {t : Ty} {d : Option Nat}
theorem W_sl3 {q len N : Nat} {x lo hi mx : Opd} {k1 k2 k3 : IntKind} {a b c : Int} {w : AV} (hx : St.opd ⟨sl,own,h⟩ x = .sl (.obj q) 0 len) (hlo : St.opd ⟨sl,own,h⟩ lo = .int k1 a) (hhi : St.opd ⟨sl,own,h⟩ hi = .int k2 b) (hmx : St.opd ⟨sl,own,h⟩ mx = .int k3 c) (hlk : h.look (.obj q) = some ⟨.arr N t,w⟩)
  (h0 : 0 ≤ a) (hab : a ≤ b) (hbc : b ≤ c) (hcN : c ≤ N) (hq : W T cx (.ops r kill :: k) (St.setd ⟨sl,own,h⟩ d .bot) Q) :
  W T cx (.ops (⟨d,.slice none t x (some lo) (some hi) (some mx),none⟩ :: r) kill :: k) ⟨sl,own,h⟩ Q:=by
 have hL : St.look cx ⟨sl,own,h⟩ (.obj q) = some ⟨.arr N t,w⟩:=hlk
 rw [W_op rfl,evOp]
 simp only [evK,hx,ixOr,hlo,hhi,toIx,rooted,if_true,evSlice,hL,Option.map_some,hmx,true_and]
 rw [if_pos ⟨h0,hab,by omega⟩,if_pos ⟨hbc,by omega⟩]
 exact hq
def sliceV (q off N : Nat) (a b : Nat) : AV:=if off + a < N ∨ a = 0 then .sl (.obj q) (off + a) (b - a) else .slz
theorem W_sl2 {q len N : Nat} {x : Opd} {lo hi : Option Opd} {a b : Nat} {w : AV} (hx : St.opd ⟨sl,own,h⟩ x = .sl (.obj q) 0 len) (hlo : ixOr (St.opd ⟨sl,own,h⟩) lo 0 = some (a : Int)) (hhi : ixOr (St.opd ⟨sl,own,h⟩) hi (len : Int) = some (b : Int)) (hlk : h.look (.obj q) = some ⟨.arr N t,w⟩)
  (hab : a ≤ b) (hbN : b ≤ N) (hq : W T cx (.ops r kill :: k) (St.setd ⟨sl,own,h⟩ d (sliceV q 0 N a b)) Q) :
  W T cx (.ops (⟨d,.slice none t x lo hi none,none⟩ :: r) kill :: k) ⟨sl,own,h⟩ Q:=by
 have hL : St.look cx ⟨sl,own,h⟩ (.obj q) = some ⟨.arr N t,w⟩:=hlk
 rw [W_op rfl,evOp]
 simp only [evK,hx,hlo,hhi,rooted,if_true,evSlice,hL,Option.map_none,true_and]
 rw [if_pos ⟨by omega,by omega,by omega⟩]
 by_cases c : 0 + a < N ∨ a = 0
 ·have e : sliceV q 0 N a b = .sl (.obj q) (0 + a) (b - a):=if_pos c
  rw [e] at hq
  rw [if_pos (by omega)]
  simp only [applyEff]
  rw [show ((a : Int)).toNat = a by omega,show ((b : Int) - (a : Int)).toNat = b - a by omega]
  exact hq
 ·have e : sliceV q 0 N a b = .slz:=if_neg c
  rw [e] at hq
  rw [if_neg (by omega)]
  exact hq
theorem fg_sliceV (q off N a b x y : Nat) : fg (sliceV q off N a b) (.stk x y) = sliceV q off N a b:=by
 unfold sliceV; split <;> simp only [go_sem]
theorem W_appIn {q n N : Nat} {x y : Opd} {l add : List AV} (hx : St.opd ⟨sl,own,h⟩ x = .sl (.obj q) 0 n) (hl : ∀ n,cx.prot.lets (.obj n) = true) (hy : elems (St.look cx ⟨sl,own,h⟩) t (St.opd ⟨sl,own,h⟩ y) = some add) (hlk : h.look (.obj q) = some ⟨.arr N t,.ofList l⟩) (hN : l.length = N)
  (hle : n + add.length ≤ N) (hf : ∀ a ∈ l,t.fits a = true) (hfa : ∀ a ∈ add,t.fits a = true) {dd : Nat}
  (hq : W T cx (.ops r kill :: k) ⟨sl.set dd (.sl (.obj q) 0 (n + add.length)),own,h.ob q (.arr N t) (.ofList (l.take n ++ add ++ l.drop (n + add.length)))⟩ Q) :
  W T cx (.ops (⟨some dd,.append true [] t x y,none⟩ :: r) kill :: k) ⟨sl,own,h⟩ Q:=by
 have hL : St.look cx ⟨sl,own,h⟩ (.obj q) = some ⟨.arr N t,.ofList l⟩:=hlk
 subst hN
 rw [W_op rfl,evOp]
 simp only [evK,hy,hx,evAppend,hL,toList_ofList,if_true,Nat.zero_add]
 rw [if_pos hle,if_pos (fits_ofListG (by simp; omega) (fun a ha=>by
  rcases List.mem_append.1 ha with h1 | h1
  ·rcases List.mem_append.1 h1 with h2 | h2
   ·exact hf a (List.mem_of_mem_take h2)
   ·exact hfa a h2
  ·exact hf a (List.mem_of_mem_drop h1)))]
 simp only [List.all_nil,if_true,applyEff,St.write,Id.own,hl q,Option.map_some]
 exact hq
theorem W_clear {q off len N : Nat} {x : Opd} {l : List AV} (hx : St.opd ⟨sl,own,h⟩ x = .sl (.obj q) off len) (hl : ∀ n,cx.prot.lets (.obj n) = true) (hlk : h.look (.obj q) = some ⟨.arr N t,.ofList l⟩) (hN : l.length = N) (hle : off + len ≤ N) (hf : ∀ a ∈ l,t.fits a = true) (hz : t.fits t.zero = true)
  (hq : W T cx (.ops r kill :: k) ⟨sl,own,h.ob q (.arr N t) (.ofList (l.take off ++ List.replicate len t.zero ++ l.drop (off + len)))⟩ Q) :
  W T cx (.ops (⟨none,.clear t x,none⟩ :: r) kill :: k) ⟨sl,own,h⟩ Q:=by
 have hL : St.look cx ⟨sl,own,h⟩ (.obj q) = some ⟨.arr N t,.ofList l⟩:=hlk
 subst hN
 rw [W_op rfl,evOp]
 simp only [evK,hx,evClear,hL,toList_ofList,true_and]
 rw [if_pos hle,if_pos (fits_ofListG (by simp; omega) (fun a ha=>by
  rcases List.mem_append.1 ha with h1 | h1
  ·rcases List.mem_append.1 h1 with h2 | h2
   ·exact hf a (List.mem_of_mem_take h2)
   ·rw [(List.mem_replicate.1 h2).2]; exact hz
  ·exact hf a (List.mem_of_mem_drop h1)))]
 simp only [applyEff,St.write,Id.own,hl q,if_true,Option.map_some]
 exact hq
end
theorem del_ok {q i n r : Nat} {L rest : List AV} (hl : ∀ n,cx.prot.lets (.obj n) = true) (hL : L.length = n) (hr : rest.length = r) (hi : i < n) (hn : n ≤ 1000000) (hfL : ∀ a ∈ L,tName.fits a = true) (hfr : ∀ a ∈ rest,tName.fits a = true) (hq : h.look (.obj q) = some ⟨.arr (n + r) tName,.ofList (L ++ rest)⟩) :
  Ok tblE cx Fn.slices_Delete (St.enter [.sl (.obj q) 0 n,.int .i64 i,.int .i64 ((i : Int) + 1)] h) fun v h'=>v = .sl (.obj q) 0 (n - 1) ∧ h' = h.ob q (.arr (n + r) tName) (.ofList (L.take i ++ L.drop (i + 1) ++ (tName.zero :: rest))):=by
 rw [Ok_eq]
 have hz : tName.fits tName.zero = true:=rfl
 have hLr : (L ++ rest).length = n + r:=by simp [hL,hr]
 have hfa : ∀ a ∈ L ++ rest,tName.fits a = true:=fun a ha=>by
  rcases List.mem_append.1 ha with h1 | h1
  ·exact hfL a h1
  ·exact hfr a h1
 simp (maxSteps:=999999) (disch:=omega) only [go_sem]
 refine W_sl3 (q:=q) (len:=n) (N:=n + r) (a:=i) (b:=(i : Int) + 1) (c:=n) (by simp only [go_sem]) (by simp only [go_sem] <;> rfl) (by simp only [go_sem] <;> rfl) (by simp only [go_sem] <;> rfl) hq (by omega) (by omega) (by omega) (by omega) ?_
 have e1 : ¬(i : Int) = (i : Int) + 1:=by omega
 simp (maxSteps:=999999) (disch:=omega) only [go_sem,e1]
 refine W_sl2 (q:=q) (len:=n) (N:=n + r) (a:=0) (b:=i) (by simp only [go_sem]) (by simp only [go_sem,ixOr] <;> rfl) (by simp only [go_sem,ixOr,toIx] <;> rfl) hq (by omega) (by omega) ?_
 rw [show sliceV q 0 (n + r) 0 i = .sl (.obj q) 0 i from if_pos (.inr rfl)]
 simp (maxSteps:=999999) (disch:=omega) only [go_sem]
 refine W_sl2 (q:=q) (len:=n) (N:=n + r) (a:=i + 1) (b:=n) (by simp only [go_sem]) (by simp only [go_sem,ixOr,toIx] <;> rfl) (by simp only [go_sem,ixOr] <;> rfl) hq (by omega) (by omega) ?_
 have hel : ∀ sl' own',elems (St.look cx ⟨sl',own',h⟩) tName (sliceV q 0 (n + r) (i + 1) n) = some (L.drop (i + 1)):=fun sl' own'=>by
  have hlk : St.look cx ⟨sl',own',h⟩ (.obj q) = some ⟨.arr (n + r) tName,.ofList (L ++ rest)⟩:=hq
  unfold sliceV
  split
  ·simp only [elems,hlk,toList_ofList]
   rw [if_pos ⟨trivial,by rw [hLr]; omega⟩]
   congr 1
   rw [Nat.zero_add,List.drop_append_of_le_length (by omega),List.take_left' (by simp; omega)]
  ·have : i + 1 = n:=by omega
   simp only [elems]
   rw [List.drop_eq_nil_of_le (by omega)]
 simp (maxSteps:=999999) (disch:=omega) only [go_sem,fg_sliceV]
 refine W_appIn (q:=q) (n:=i) (N:=n + r) (l:=L ++ rest) (add:=L.drop (i + 1)) (by simp only [go_sem]) hl (by simp only [go_sem]; exact hel _ _) hq hLr (by simp; omega) hfa (fun a ha=>hfL a (List.mem_of_mem_drop ha)) ?_
 have eadd : i + (L.drop (i + 1)).length = n - 1:=by simp; omega
 rw [eadd]
 have etk : (L ++ rest).take i = L.take i:=List.take_append_of_le_length (by omega)
 rw [etk]
 have edr : (L ++ rest).drop (n - 1) = L.drop (n - 1) ++ rest:=List.drop_append_of_le_length (by omega)
 rw [edr]
 have en1 : (((n - 1 : Nat)) : Int) = (n : Int) - 1:=by omega
 simp (maxSteps:=999999) (disch:=omega) only [go_sem]
 have hl2 : (L.take i ++ L.drop (i + 1) ++ (L.drop (n - 1) ++ rest)).length = n + r:=by simp; omega
 have hf2 : ∀ a ∈ L.take i ++ L.drop (i + 1) ++ (L.drop (n - 1) ++ rest),tName.fits a = true:=fun a ha=>by
  simp only [List.mem_append] at ha
  rcases ha with (h1 | h1) | h1 | h1
  ·exact hfL a (List.mem_of_mem_take h1)
  ·exact hfL a (List.mem_of_mem_drop h1)
  ·exact hfL a (List.mem_of_mem_drop h1)
  ·exact hfr a h1
 refine W_sl2 (q:=q) (len:=n - 1) (N:=n + r) (a:=n - 1) (b:=n) (w:=AV.ofList (L.take i ++ L.drop (i + 1) ++ (L.drop (n - 1) ++ rest))) (by simp only [go_sem]) (by simp only [go_sem,ixOr,toIx] <;> rfl) (by simp only [go_sem,ixOr,toIx] <;> rfl) (by simp only [go_sem]) (by omega) (by omega) ?_
 rw [show sliceV q 0 (n + r) (n - 1) n = .sl (.obj q) (0 + (n - 1)) (n - (n - 1)) from if_pos (.inl (by omega))]
 rw [Nat.zero_add,show n - (n - 1) = 1 by omega]
 simp (maxSteps:=999999) (disch:=omega) only [go_sem]
 refine W_clear (q:=q) (off:=n - 1) (len:=1) (N:=n + r) (l:=L.take i ++ L.drop (i + 1) ++ (L.drop (n - 1) ++ rest)) (by simp only [go_sem]) hl (by simp only [go_sem]) hl2 (by omega) hf2 hz ?_
 have e3 : (L.take i ++ L.drop (i + 1) ++ (L.drop (n - 1) ++ rest)).take (n - 1) = L.take i ++ L.drop (i + 1):=List.take_left' (by simp; omega)
 have e4 : (L.take i ++ L.drop (i + 1) ++ (L.drop (n - 1) ++ rest)).drop (n - 1 + 1) = rest:=by
  rw [← List.append_assoc]
  exact List.drop_left' (by simp; omega)
 rw [e3,e4]
 simp (maxSteps:=999999) (disch:=omega) only [go_sem]
 simp only [List.replicate_one,List.append_assoc,List.singleton_append,List.cons_append,List.nil_append]
end
end Go.Mini
