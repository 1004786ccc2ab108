/- A part of the proof: the statement IdealBack, over the model of its code. -/
import Derived.Test.YtpkndgkaecamlabIdS

set_option linter.unusedSimpArgs false
set_option linter.unusedVariables false
set_option maxHeartbeats 4000000
set_option maxRecDepth 100000
namespace Go.Mini
theorem W_for {T : Nat → Option MFun} {cx : Cx} {keep ko : List Nat} {b : MC} {k : List Item} {s : St} {Q : St → Prop} (N : Nat) (S : Nat → St) (h0 : s.keep keep ko = S 0)
  (step : ∀ j,j ≤ N → (∀ s',j < N → s'.keep keep ko = S (j + 1) → W T cx (.inLoop keep ko b :: k) s' Q) → W T cx (.code b :: .inLoop keep ko b :: k) (S j) Q) :
  W T cx (.code (.loop keep ko b) :: k) s Q :=
 W_loop N (fun j s=>s = S j) h0 fun j s hj hs ih=>by subst hs; exact step j hj ih
theorem findN_neg {f : Nat → Bool} {n : Nat} (h : findN n f = -1) : ∀ i,i < n → f i = false:=by
 apply anyN_false.1
 rw [← Bool.not_eq_true]
 intro ha
 obtain ⟨j,_,e,_⟩:=findN_any ha
 omega
section
variable {h : HP} {n m l : Nat} {t u : Ty} {v w : AV} {o : Own}
theorem look_nw_lt (e : m < h.next) : (h.nw t v).look (.obj m) = h.look (.obj m):=look_nw_ne (by omega)
end
theorem SlF.ixW {h h1 : HP} {v : AV} {l : List Str} (a : SlF h h1 v l) (i : Nat) (hi : i < l.length) : ∃ q,v = .sl (.obj q) 0 l.length ∧ h.next ≤ q ∧ q < h1.next ∧ h1.look (.obj q) = some ⟨.arr l.length tS,encS l⟩:=by
 rcases a with ⟨_,rfl⟩ | ⟨q,rfl,h1,h2,h3⟩
 ·simp at hi
 ·exact ⟨q,rfl,h1,h2,h3⟩
section
variable {cx : Cx} {h : HP} {v : AV} {l : List SStep}
theorem rdo_len {T : List Tag} {F : List RFile} {x : SStep} : (rdoT T F x).length ≤ T.length + 1 ∧ (rdoF T F x).length ≤ F.length + 1:=by
 constructor
 ·unfold rdoT
  repeat' split
  all_goals simp
  all_goals omega
 ·unfold rdoF
  repeat' split
  all_goals simp
end
theorem lets_topS : ∀ x u,(⟨0,⟨0,0⟩⟩ : Cx).lvl ≤ x → (⟨0,⟨0,0⟩⟩ : Cx).prot.lets (.stk x u) = true:=fun x u _=>decide_eq_true (Nat.zero_le x)
theorem name_size {d : Int} {s : Str} (h : dirFaultN d s = 0) : (0 ≤ d ∧ d < 3) ∧ s.size ≤ 6:=by
 unfold dirFaultN at h
 split at h
 ·omega
 ·split at h
  ·rename_i h1 h2
   refine ⟨by omega,?_⟩
   unfold isName at h2
   simp at h2
   omega
  ·omega
structure GoodT (T : List Tag) : Prop where
 va : ∀ t ∈ T,dirFaultN t.dir t.name = 0
 nd : T.Pairwise fun x y=>¬(x.dir = y.dir ∧ x.name = y.name)
theorem GoodT.nil : GoodT []:=⟨fun t h=>by simp at h,List.Pairwise.nil⟩
theorem atW_pos {T : List Tag} {d : Int} {s : Str} (h : 0 ≤ atT T d s) : ∃ t ∈ T,t.dir = d ∧ t.name = s ∧ (tagN T (atT T d s).toNat) = t:=by
 rcases atT_cases T d s with e | ⟨k,hk,e,h1,h2⟩
 ·omega
 ·rw [e,Int.toNat_natCast]
  exact ⟨_,by rw [tagN_get hk]; exact List.getElem_mem _,h1,h2,rfl⟩
theorem atW_of {T : List Tag} {t : Tag} (h : t ∈ T) : 0 ≤ atT T t.dir t.name:=by
 obtain ⟨k,hk,e⟩:=List.getElem_of_mem h
 unfold atT
 rcases findN_lt (f:=fun i=>decide ((tagN T i).dir = t.dir) && decide ((tagN T i).name = t.name)) (n:=T.length) with e1 | ⟨j,_,e1,_⟩
 ·exfalso
  have:=findN_neg e1 k hk
  rw [tagN_get hk,e] at this
  simp at this
 ·rw [e1]; omega
theorem GoodT.uniq {T : List Tag} (h : GoodT T) {x y : Tag} (hx : x ∈ T) (hy : y ∈ T) (e : x.dir = y.dir ∧ x.name = y.name) : x = y:=by
 obtain ⟨i,hi,rfl⟩:=List.getElem_of_mem hx
 obtain ⟨j,hj,rfl⟩:=List.getElem_of_mem hy
 have hp:=List.pairwise_iff_getElem.1 h.nd
 by_cases c : i < j
 ·exact absurd e (hp i j hi hj c)
 by_cases c2 : j < i
 ·exact absurd ⟨e.1.symm,e.2.symm⟩ (hp j i hj hi c2)
 have : i = j:=by omega
 subst this; rfl
theorem GoodT.at {T : List Tag} (h : GoodT T) {t : Tag} (ht : t ∈ T) : 0 ≤ atT T t.dir t.name ∧ tagN T (atT T t.dir t.name).toNat = t:=by
 have h0:=atW_of ht
 obtain ⟨u,hu,e1,e2,e3⟩:=atW_pos h0
 exact ⟨h0,by rw [e3]; exact h.uniq hu ht ⟨e1,e2⟩⟩
theorem namesT_eq (T : List Tag) (d : Int) : namesT T d T.length = (T.filter fun t=>decide (t.dir = d)).map (·.name):=by
 have key : ∀ k,k ≤ T.length → namesT T d k = ((T.take k).filter fun t=>decide (t.dir = d)).map (·.name):=by
  intro k
  induction k with
  | zero=>intro _; simp [namesT]
  | succ k ih =>
   intro hk
   have e : T.take (k + 1) = T.take k ++ [tagN T k]:=by
    rw [List.take_succ_eq_append_getElem (by omega),tagN_get (by omega)]
   unfold namesT
   rw [ih (by omega),e,List.filter_append,List.map_append]
   split
   ·rename_i h; simp [h]
   ·rename_i h; simp [h]
 rw [key _ (Nat.le_refl _),List.take_length]
theorem in_list {T : List Tag} {d : Int} {i : Nat} (hi : i < (sortS (namesT T d T.length)).length) : ∃ t ∈ T,t.dir = d ∧ t.name = txt (sortS (namesT T d T.length)) i:=by
 have h1 : txt (sortS (namesT T d T.length)) i ∈ sortS (namesT T d T.length):=by rw [txt_get hi]; exact List.getElem_mem _
 have h2:=(sortS_perm _).mem_iff.1 h1
 rw [namesT_eq] at h2
 obtain ⟨t,ht,e⟩:=List.mem_map.1 h2
 obtain ⟨h3,h4⟩:=List.mem_filter.1 ht
 exact ⟨t,h3,by simpa using h4,by rw [namesT_eq]; exact e⟩
theorem rReadC_name {T : List Tag} (h : GoodT T) {t : Tag} (ht : t ∈ T) {p : Nat} (hp : p < 2) : rReadC T t.dir t.name (p : Int) = 0:=by
 have hv:=h.va t ht
 have ha:=(h.at ht).1
 have e : stepFault ⟨6,t.dir,0,(p : Int),t.name,⟨#[]⟩,⟨#[]⟩⟩ = 0:=by
  simp only [stepFault,hv]
  simp; omega
 simp only [rReadC,e]
 simp; omega
theorem rReadF_name {T : List Tag} {F : List RFile} (h : GoodT T) {t : Tag} (ht : t ∈ T) : rReadF T F t.dir t.name = filN F t.file:=by
 unfold rReadF; rw [(h.at ht).2]
theorem rSame_name {T : List Tag} (h : GoodT T) {t u : Tag} (ht : t ∈ T) (hu : u ∈ T) : rSameB T t.dir t.name u.dir u.name = decide (t.file = u.file):=by
 unfold rSameB
 rw [(h.at ht).2,(h.at hu).2,decide_eq_true (h.at ht).1,decide_eq_true (h.at hu).1]; rfl
theorem rSame_comm (T : List Tag) (d : Int) (s : Str) (e : Int) (t : Str) : rSameB T d s e t = rSameB T e t d s:=by
 unfold rSameB
 have : decide ((tagN T (atT T d s).toNat).file = (tagN T (atT T e t).toNat).file) = decide ((tagN T (atT T e t).toNat).file = (tagN T (atT T d s).toNat).file):=by
  congr 1; exact propext eq_comm
 rw [this,Bool.and_comm (decide (0 ≤ atT T d s))]
theorem rRead_same {T T' : List Tag} {F F' : List RFile} (h : GoodT T) (h' : GoodT T') {t t' : Tag} (ht : t ∈ T) (ht' : t' ∈ T') {p : Nat} (hp : p < 2) (he : filN F t.file = filN F' t'.file) :
  rReadT T F t.dir t.name (p : Int) = rReadT T' F' t'.dir t'.name (p : Int) ∧ rReadB T F t.dir t.name (p : Int) = rReadB T' F' t'.dir t'.name (p : Int):=by
 unfold rReadT rReadB
 rw [rReadC_name h ht hp,rReadC_name h' ht' hp,rReadF_name h ht,rReadF_name h' ht',he]
 exact ⟨rfl,rfl⟩
theorem GoodT.sub {T T' : List Tag} (h : GoodT T) (hs : T'.Sublist T) : GoodT T':=⟨fun t ht=>h.va t (hs.subset ht),h.nd.sublist hs⟩
theorem GoodT.add {T : List Tag} (h : GoodT T) {d : Int} {s : Str} {n : Nat} (hv : dirFaultN d s = 0) (hn : ¬0 ≤ atT T d s) : GoodT (T ++ [(⟨d,s,n⟩ : Tag)]):=by
 refine ⟨fun t ht=>?_,?_⟩
 ·rcases List.mem_append.1 ht with h1 | h1
  ·exact h.va t h1
  ·have : t = ⟨d,s,n⟩:=by simpa using h1
   rw [this]; exact hv
 ·rw [List.pairwise_append]
  refine ⟨h.nd,List.pairwise_singleton _ _,fun x hx y hy e=>?_⟩
  have : y = ⟨d,s,n⟩:=by simpa using hy
  subst this
  have:=atW_of hx
  rw [e.1,e.2] at this
  exact hn this
theorem drop_sub {α : Type} (l : List α) (i : Nat) : (l.take i ++ l.drop (i + 1)).Sublist l:=by
 have : l.eraseIdx i = l.take i ++ l.drop (i + 1):=List.eraseIdx_eq_take_drop_succ ..
 rw [← this]; exact List.eraseIdx_sublist ..
theorem fault_to {x : SStep} (h : stepFault x = 0) : dirFaultN x.dir x.name = 0 ∧ (x.kind = 2 ∨ x.kind = 4 → dirFaultN x.toDir x.to = 0):=by
 obtain ⟨_,⟨d0,d3⟩,hn,hto,_⟩:=stepFault_zero h
 refine ⟨?_,fun hk=>?_⟩
 ·unfold dirFaultN; rw [if_neg (by omega),if_pos hn]
 ·obtain ⟨⟨e0,e3⟩,hn2⟩:=hto hk
  unfold dirFaultN; rw [if_neg (by omega),if_pos hn2]
theorem rdoC_zero {T : List Tag} {x : SStep} (h : rdoC T x = 0) : stepFault x = 0 ∧ (x.kind = 1 → ¬0 ≤ atT T x.dir x.name) ∧ (¬x.kind = 1 → 0 ≤ atT T x.dir x.name) ∧ (x.kind = 2 ∨ x.kind = 4 → ¬0 ≤ atT T x.toDir x.to):=by
 unfold rdoC at h
 by_cases c0 : stepFault x = 0
 ·rw [if_neg (by simp [c0])] at h
  refine ⟨c0,fun k1=>?_,fun k1=>?_,fun k24=>?_⟩
  ·rw [if_pos k1] at h
   split at h
   ·omega
   ·assumption
  ·rw [if_neg k1] at h
   split at h
   ·omega
   ·omega
  ·rw [if_neg (by omega)] at h
   split at h
   ·omega
   ·split at h
    ·omega
    ·rename_i h2; exact fun h3=>h2 ⟨k24,h3⟩
 ·rw [if_pos c0] at h; exact absurd h c0
theorem GoodT.step {T : List Tag} (h : GoodT T) (F : List RFile) (x : SStep) : GoodT (rdoT T F x):=by
 unfold rdoT
 split
 ·exact h
 rename_i hc
 have hc' : rdoC T x = 0:=by simpa using hc
 obtain ⟨c0,c1,c2,c3⟩:=rdoC_zero hc'
 obtain ⟨f1,f2⟩:=fault_to c0
 split
 ·rename_i k; exact h.add f1 (c1 k)
 split
 ·rename_i k; exact h.add (f2 (.inl k)) (c3 (.inl k))
 split
 ·exact h.sub (drop_sub _ _)
 split
 ·rename_i k; exact (h.add (f2 (.inr k)) (c3 (.inr k))).sub (drop_sub _ _)
 ·exact h
structure Pair (h1 h : HP) (w v : Nat) (T : List Tag) (F : List RFile) (T' : List Tag) (F' : List RFile) : Prop where
 ex : ∃ (O1 O2 : Nat → Prop) (sv : AV) (ad : Nat → Nat) (sv' : AV) (ad' : Nat → Nat),WIn O1 h w sv ad T F ∧ WIn O2 h v sv' ad' T' F' ∧ (∀ n,O1 n → n < h.next) ∧ (∀ n,O2 n → n < h.next) ∧ ∀ n,O1 n → ¬O2 n
 arg : h.arg = h1.arg
theorem Pair.swap {h1 h : HP} {w v : Nat} {T : List Tag} {F : List RFile} {T' : List Tag} {F' : List RFile} (a : Pair h1 h w v T F T' F') : Pair h1 h v w T' F' T F:=by
 obtain ⟨O1,O2,sv,ad,sv',ad',x1,x2,x3,x4,x5⟩:=a.ex
 exact ⟨⟨O2,O1,sv',ad',sv,ad,x2,x1,x4,x3,fun n h2 h1=>x5 n h1 h2⟩,a.arg⟩
theorem Pair.fr {h1 h h' : HP} {w v : Nat} {T : List Tag} {F : List RFile} {T' : List Tag} {F' : List RFile} (a : Pair h1 h w v T F T' F') (b : Fr h h' []) : Pair h1 h' w v T F T' F':=by
 obtain ⟨O1,O2,sv,ad,sv',ad',x1,x2,x3,x4,x5⟩:=a.ex
 exact ⟨⟨O1,O2,sv,ad,sv',ad',x1.fr b,x2.fr b,fun n h=>Nat.lt_of_lt_of_le (x3 n h) b.next,fun n h=>Nat.lt_of_lt_of_le (x4 n h) b.next,x5⟩,b.arg.trans a.arg⟩
theorem Pair.left {h1 h : HP} {w v : Nat} {T : List Tag} {F : List RFile} {T' : List Tag} {F' : List RFile} (a : Pair h1 h w v T F T' F') : ∃ O sv ad,WIn O h w sv ad T F:=by
 obtain ⟨O1,O2,sv,ad,sv',ad',x1,x2,x3,x4,x5⟩:=a.ex
 exact ⟨O1,sv,ad,x1⟩
theorem Pair.new {h1 : HP} : Pair h1 ((h1.nw tWorld (encW .nilsl)).nw tWorld (encW .nilsl)) h1.next (h1.next + 1) [] [] [] []:=by
 have hn : (h1.nw tWorld (encW .nilsl)).next = h1.next + 1:=rfl
 refine ⟨⟨fun n=>n = h1.next,fun n=>n = h1.next + 1,.nilsl,fun _=>0,.nilsl,fun _=>0,?_,WIn.new (h:=h1.nw tWorld (encW .nilsl)) rfl,fun n h=>?_,fun n h=>?_,fun n h h'=>?_⟩,rfl⟩
 ·exact (WIn.new (h:=h1) (O:=fun n=>n = h1.next) rfl).keep (fun _ h _=>h) (Nat.le_succ _) (fun n hn' _=>look_nw_lt (h:=h1.nw tWorld (encW .nilsl)) hn')
 ·have h' : n = h1.next:=h
  show n < h1.next + 1 + 1; omega
 ·have h' : n = h1.next + 1:=h
  show n < h1.next + 1 + 1; omega
 ·have e1 : n = h1.next:=h
  have e2 : n = h1.next + 1:=h'
  omega
section
variable {cx : Cx} {kill : List Nat} {k : List Item} {r : List MOp} {sl : Slots} {own : Own} {h h1 : HP} {Q : St → Prop} {w v : Nat} {T : List Tag} {F : List RFile} {T' : List Tag} {F' : List RFile}
theorem W_PDo {d : Option Nat} {x y : Opd} {X : SStep} (hx : St.opd ⟨sl,own,h⟩ x = .ptr (.obj w) [] tWorld) (hy : St.opd ⟨sl,own,h⟩ y = X.enc) (hl : ∀ n,cx.prot.lets (.obj n) = true) (hP : Pair h1 h w v T F T' F') (hT : T.length ≤ 100000) (hF : F.length ≤ 100000) (hX : X.ok)
  (hq : ∀ h2,Pair h1 h2 w v (rdoT T F X) (rdoF T F X) T' F' → h2.arg = h.arg → W tblE cx (.ops r kill :: k) (St.setd ⟨sl,own,h2⟩ d (.int .i64 (rdoC T X))) Q) :
  W tblE cx (.ops (⟨d,.call false [] 323 [x,y],none⟩ :: r) kill :: k) ⟨sl,own,h⟩ Q:=by
 obtain ⟨O1,O2,sv,ad,sv',ad',x1,x2,x3,x4,x5⟩:=hP.ex
 have x1' : WIn (fun n=>O1 n ∨ h.next ≤ n) h w sv ad T F:=x1.keep (fun _ h _=>.inl h) (Nat.le_refl _) (fun _ _ _=>rfl)
 refine W_IDo (X:=X) hx hy hl (fun m hm=>.inr hm) x1' hT hF hX fun h2 sv2 ad2 hF2 hW2=>?_
 refine hq h2 ⟨⟨fun n=>(O1 n ∨ h.next ≤ n) ∧ n < h2.next,O2,sv2,ad2,sv',ad',hW2.keep (fun n h1 h2=>⟨h1,h2⟩) (Nat.le_refl _) (fun _ _ _=>rfl),?_,fun n h=>h.2,fun n h=>Nat.lt_of_lt_of_le (x4 n h) hF2.next,fun n h h'=>?_⟩,hF2.arg.trans hP.arg⟩ hF2.arg
 ·exact x2.keep (fun _ h _=>h) hF2.next (fun n hn ho=>hF2.same n (fun h=>by
   rcases h with h | h
   ·exact x5 n h ho
   ·omega))
 ·rcases h.1 with h0 | h0
  ·exact x5 n h0 h'
  ·have:=x4 n h'; omega
end
theorem take_drop_mem {α : Type} {l : List α} {i : Nat} {a b : α} (ha : a ∈ l) (hi : i < l.length) (hb : l[i] = b) (hne : ¬a = b) : a ∈ l.take i ++ l.drop (i + 1):=by
 have e : l = l.take i ++ (l[i] :: l.drop (i + 1)):=by simp
 rw [e] at ha
 rcases List.mem_append.1 ha with h | h
 ·exact List.mem_append_left _ h
 ·rcases List.mem_cons.1 h with h | h
  ·exact absurd (h.trans hb) hne
  ·exact List.mem_append_right _ h
theorem step_keeps {T : List Tag} {F : List RFile} {x : SStep} (hg : GoodT T) {t : Tag} (ht : t ∈ T) (hne : ¬(t.dir = x.dir ∧ t.name = x.name)) : t ∈ rdoT T F x:=by
 unfold rdoT
 split
 ·exact ht
 rename_i hc
 have hc' : rdoC T x = 0:=by simpa using hc
 obtain ⟨c0,c1,c2,c3⟩:=rdoC_zero hc'
 split
 ·exact List.mem_append_left _ ht
 rename_i k1
 obtain ⟨u,hu,u1,u2,u3⟩:=atW_pos (c2 k1)
 have hut : ¬t = u:=fun e=>hne (by rw [e]; exact ⟨u1,u2⟩)
 obtain ⟨i,hi,e,_,_⟩ : ∃ i : Nat,i < T.length ∧ atT T x.dir x.name = i ∧ True ∧ True:=by
  rcases atT_cases T x.dir x.name with e | ⟨i,hi,e,_⟩
  ·have:=c2 k1; omega
  ·exact ⟨i,hi,e,trivial,trivial⟩
 rw [e,Int.toNat_natCast] at u3
 have hTi : T[i] = u:=by rw [← tagN_get hi]; exact u3
 rw [e,Int.toNat_natCast]
 split
 ·exact List.mem_append_left _ ht
 split
 ·exact take_drop_mem ht hi hTi hut
 split
 ·refine take_drop_mem (List.mem_append_left _ ht) (by simp; omega) ?_ hut
  rw [List.getElem_append_left hi]; exact hTi
 ·exact ht
theorem filN_app {F : List RFile} {f : RFile} {n : Nat} (h : n < F.length) : filN (F ++ [f]) n = filN F n:=by
 simp [filN,List.getElem?_append_left h]
theorem filN_set_ne {F : List RFile} {f : RFile} {m n : Nat} (h : ¬n = m) : filN (F.set m f) n = filN F n:=by
 simp only [filN,List.getD_eq_getElem?_getD,List.getElem?_set]
 rw [if_neg (fun e=>h e.symm)]
theorem step_file {T : List Tag} {F : List RFile} {x : SStep} {n : Nat} (hn : n < F.length) (hne : rdoC T x = 0 → ¬x.kind = 1 → ¬n = rdoN T x) : filN (rdoF T F x) n = filN F n:=by
 unfold rdoF
 split
 ·rfl
 rename_i hc
 have hc' : rdoC T x = 0:=by simpa using hc
 split
 ·exact filN_app hn
 rename_i k1
 split
 ·exact filN_set_ne (hne hc' k1)
 split
 ·exact filN_set_ne (hne hc' k1)
 ·rfl
theorem names_count (T : List Tag) (d : Int) : (sortS (namesT T d T.length)).length = (T.filter fun t=>decide (t.dir = d)).length:=by
 rw [(sortS_perm _).length_eq,namesT_eq,List.length_map]
theorem filter_drop {α : Type} (p : α → Bool) (l : List α) (i : Nat) : ((l.take i ++ l.drop (i + 1)).filter p).length ≤ (l.filter p).length ∧ (l.filter p).length ≤ ((l.take i ++ l.drop (i + 1)).filter p).length + 1:=by
 refine ⟨((drop_sub l i).filter p).length_le,?_⟩
 by_cases hi : i < l.length
 ·have e : l = l.take i ++ (l[i] :: l.drop (i + 1)):=by simp
  have e2 : (l.filter p).length = ((l.take i).filter p).length + ((l[i] :: l.drop (i + 1)).filter p).length:=by
   conv=>lhs; rw [e]
   rw [List.filter_append,List.length_append]
  rw [e2,List.filter_append,List.length_append]
  by_cases hp : p l[i] = true
  ·rw [List.filter_cons_of_pos hp]; simp; omega
  ·rw [List.filter_cons_of_neg hp]; omega
 ·rw [List.take_of_length_le (by omega),List.drop_eq_nil_of_le (by omega),List.append_nil]; omega
theorem names_step {T : List Tag} {F : List RFile} {x : SStep} (d : Int) : (rdoC T x ≠ 0 → (sortS (namesT (rdoT T F x) d (rdoT T F x).length)).length = (sortS (namesT T d T.length)).length) ∧
  (sortS (namesT (rdoT T F x) d (rdoT T F x).length)).length ≤ (sortS (namesT T d T.length)).length + 1 ∧ (sortS (namesT T d T.length)).length ≤ (sortS (namesT (rdoT T F x) d (rdoT T F x).length)).length + 1:=by
 simp only [names_count]
 refine ⟨fun h=>by rw [show rdoT T F x = T from by unfold rdoT; rw [if_pos h]],?_⟩
 have app : ∀ t : Tag,((T ++ [t]).filter fun t=>decide (t.dir = d)).length ≤ (T.filter fun t=>decide (t.dir = d)).length + 1 ∧ (T.filter fun t=>decide (t.dir = d)).length ≤ ((T ++ [t]).filter fun t=>decide (t.dir = d)).length:=fun t=>by
  rw [List.filter_append,List.length_append]
  have : ([t].filter fun t=>decide (t.dir = d)).length ≤ 1:=List.length_filter_le _ _
  omega
 unfold rdoT
 split
 ·omega
 split
 ·have:=app ⟨x.dir,x.name,F.length⟩; omega
 split
 ·have:=app ⟨x.toDir,x.to,rdoN T x⟩; omega
 split
 ·have:=filter_drop (fun t : Tag=>decide (t.dir = d)) T (atT T x.dir x.name).toNat; omega
 split
 ·have h1:=app ⟨x.toDir,x.to,rdoN T x⟩
  have h2:=filter_drop (fun t : Tag=>decide (t.dir = d)) (T ++ [(⟨x.toDir,x.to,rdoN T x⟩ : Tag)]) (atT T x.dir x.name).toNat
  omega
 ·omega
theorem take_perm {α : Type} {l : List α} {i : Nat} (hi : i < l.length) : l.Perm (l[i] :: (l.take i ++ l.drop (i + 1))):=by
 have e : l = l.take i ++ (l[i] :: l.drop (i + 1)):=by simp
 conv=>lhs; rw [e]
 exact List.perm_middle
theorem at_ix {T : List Tag} {d : Int} {s : Str} (h : 0 ≤ atT T d s) : ∃ i,∃ hi : i < T.length,atT T d s = i ∧ T[i] = ⟨d,s,(T[i]).file⟩:=by
 rcases atT_cases T d s with e | ⟨i,hi,e,h1,h2⟩
 ·omega
 ·refine ⟨i,hi,e,?_⟩
  rw [tagN_get hi] at h1 h2
  rw [← h1,← h2]
theorem rename_to {T : List Tag} {F : List RFile} {x : SStep} (hk : x.kind = 4) (hc : rdoC T x = 0) : ∃ R,T.Perm (⟨x.dir,x.name,rdoN T x⟩ :: R) ∧ rdoT T F x = R ++ [⟨x.toDir,x.to,rdoN T x⟩]:=by
 obtain ⟨c0,c1,c2,c3⟩:=rdoC_zero hc
 obtain ⟨i,hi,e,e2⟩:=at_ix (c2 (by omega))
 have en : rdoN T x = (T[i]).file:=by unfold rdoN; rw [e,Int.toNat_natCast,tagN_get hi]
 refine ⟨T.take i ++ T.drop (i + 1),?_,?_⟩
 ·rw [en,← e2]; exact take_perm hi
 ·unfold rdoT
  rw [if_neg (by simp [hc]),if_neg (by omega),if_neg (by omega),if_neg (by omega),if_pos hk,e,Int.toNat_natCast]
  rw [List.take_append_of_le_length (by omega),List.drop_append_of_le_length (by omega),List.append_assoc]
theorem unlink_to {T : List Tag} {F : List RFile} {x : SStep} (hk : x.kind = 3) (hc : rdoC T x = 0) : T.Perm (⟨x.dir,x.name,rdoN T x⟩ :: rdoT T F x):=by
 obtain ⟨c0,c1,c2,c3⟩:=rdoC_zero hc
 obtain ⟨i,hi,e,e2⟩:=at_ix (c2 (by omega))
 have en : rdoN T x = (T[i]).file:=by unfold rdoN; rw [e,Int.toNat_natCast,tagN_get hi]
 have et : rdoT T F x = T.take i ++ T.drop (i + 1):=by
  unfold rdoT
  rw [if_neg (by simp [hc]),if_neg (by omega),if_neg (by omega),if_pos hk,e,Int.toNat_natCast]
 rw [et,en,← e2]; exact take_perm hi
theorem link_to {T : List Tag} {F : List RFile} {x : SStep} (hk : x.kind = 2) (hc : rdoC T x = 0) : rdoT T F x = T ++ [⟨x.toDir,x.to,rdoN T x⟩]:=by
 unfold rdoT
 rw [if_neg (by simp [hc]),if_neg (by omega),if_pos hk]
theorem rdoF_names {T : List Tag} {F : List RFile} {x : SStep} (hk : x.kind = 2 ∨ x.kind = 3 ∨ x.kind = 4) : rdoF T F x = F:=by
 unfold rdoF
 split
 ·rfl
 ·rw [if_neg (by omega),if_neg (by omega),if_neg (by omega)]
theorem fault_of {x : SStep} (h1 : 1 ≤ x.kind ∧ x.kind ≤ 4) (h2 : dirFaultN x.dir x.name = 0) (h3 : x.kind = 2 ∨ x.kind = 4 → dirFaultN x.toDir x.to = 0) : stepFault x = 0:=by
 unfold stepFault
 rw [if_neg (by omega),if_neg (by simp [h2])]
 split
 ·rename_i h; exact h3 h
 ·rw [if_neg (by omega),if_neg (by omega)]
theorem rdoC_of {T : List Tag} {x : SStep} (h1 : stepFault x = 0) (h0 : ¬x.kind = 1) (h2 : 0 ≤ atT T x.dir x.name) (h3 : x.kind = 2 ∨ x.kind = 4 → ¬0 ≤ atT T x.toDir x.to) : rdoC T x = 0:=by
 unfold rdoC
 rw [if_neg (by simp [h1]),if_neg h0,if_neg (by omega)]
 split
 ·rename_i h; exact absurd h.2 (h3 h.1)
 ·rfl
theorem GoodT.perm {T T' : List Tag} (h : GoodT T) (hp : T'.Perm T) : GoodT T' :=
 ⟨fun t ht=>h.va t (hp.mem_iff.1 ht),(hp.pairwise_iff (fun {x y} hxy e=>hxy ⟨e.1.symm,e.2.symm⟩)).2 h.nd⟩
def stepY (x : SStep) : SStep:=⟨4,x.toDir,x.dir,0,x.to,x.name,⟨#[]⟩⟩
def stepZ (x : SStep) : SStep:=⟨3,x.toDir,0,0,x.to,⟨#[]⟩,⟨#[]⟩⟩
theorem rename_back {T : List Tag} {F : List RFile} {x : SStep} (hg : GoodT T) (hk : x.kind = 4) (hc : rdoC T x = 0) : rdoC (rdoT T F x) (stepY x) = 0 ∧ (rdoT (rdoT T F x) F (stepY x)).Perm T:=by
 obtain ⟨c0,c1,c2,c3⟩:=rdoC_zero hc
 obtain ⟨f1,f2⟩:=fault_to c0
 obtain ⟨R,p1,e1⟩:=rename_to (F:=F) hk hc
 have hg1:=hg.step F x
 have hb : (⟨x.toDir,x.to,rdoN T x⟩ : Tag) ∈ rdoT T F x:=by rw [e1]; simp
 have hcY : rdoC (rdoT T F x) (stepY x) = 0:=by
  refine rdoC_of (fault_of ⟨by show (1 : Int) ≤ 4; omega,by show (4 : Int) ≤ 4; omega⟩ (f2 (.inr hk)) (fun _=>f1)) (by show ¬(4 : Int) = 1; omega) (hg1.at hb).1 (fun _=>?_)
  intro h0
  obtain ⟨u,hu,u1,u2,_⟩:=atW_pos h0
  have u1' : u.dir = x.dir:=u1
  have u2' : u.name = x.name:=u2
  rw [e1] at hu
  have hgp:=hg.perm p1.symm
  rcases List.mem_append.1 hu with h | h
  ·exact (List.pairwise_cons.1 hgp.nd).1 u h ⟨u1'.symm,u2'.symm⟩
  ·have : u = ⟨x.toDir,x.to,rdoN T x⟩:=by simpa using h
   have h3:=c3 (.inr hk)
   rw [this] at u1' u2'
   have e5 : x.toDir = x.dir:=u1'
   have e6 : x.to = x.name:=u2'
   rw [e5,e6] at h3
   exact h3 (c2 (by omega))
 refine ⟨hcY,?_⟩
 obtain ⟨R1,p2,e2⟩:=rename_to (T:=rdoT T F x) (F:=F) (x:=stepY x) rfl hcY
 have en : rdoN (rdoT T F x) (stepY x) = rdoN T x:=by
  have:=(hg1.at hb).2
  show (tagN (rdoT T F x) (atT (rdoT T F x) x.toDir x.to).toNat).file = _
  rw [this]
 rw [en] at p2 e2
 have p2' : (rdoT T F x).Perm (⟨x.toDir,x.to,rdoN T x⟩ :: R1):=p2
 have p3 : (⟨x.toDir,x.to,rdoN T x⟩ :: R : List Tag).Perm (⟨x.toDir,x.to,rdoN T x⟩ :: R1):=by
  refine List.Perm.trans ?_ p2'
  rw [e1]; exact (List.perm_append_singleton _ _).symm
 have p4 : R.Perm R1:=List.Perm.cons_inv p3
 rw [e2]
 have p5 : (R1 ++ [(⟨x.dir,x.name,rdoN T x⟩ : Tag)]).Perm (⟨x.dir,x.name,rdoN T x⟩ :: R1):=List.perm_append_singleton _ _
 exact (p5.trans (p4.symm.cons _)).trans p1.symm
theorem link_back {T : List Tag} {F : List RFile} {x : SStep} (hg : GoodT T) (hk : x.kind = 2) (hc : rdoC T x = 0) : rSameB (rdoT T F x) x.dir x.name x.toDir x.to = true ∧ rdoC (rdoT T F x) (stepZ x) = 0 ∧ (rdoT (rdoT T F x) F (stepZ x)).Perm T:=by
 obtain ⟨c0,c1,c2,c3⟩:=rdoC_zero hc
 obtain ⟨f1,f2⟩:=fault_to c0
 have e1:=link_to (F:=F) hk hc
 have hg1:=hg.step F x
 have hb : (⟨x.toDir,x.to,rdoN T x⟩ : Tag) ∈ rdoT T F x:=by rw [e1]; simp
 obtain ⟨t,ht,t1,t2,t3⟩:=atW_pos (c2 (by omega))
 have ht' : t ∈ rdoT T F x:=by rw [e1]; exact List.mem_append_left _ ht
 have hn : t.file = rdoN T x:=by unfold rdoN; rw [t3]
 have hs : rSameB (rdoT T F x) x.dir x.name x.toDir x.to = true:=by
  have:=rSame_name hg1 ht' hb
  rw [t1,t2] at this
  rw [this,hn]; simp
 have hcZ : rdoC (rdoT T F x) (stepZ x) = 0 :=
  rdoC_of (fault_of ⟨by show (1 : Int) ≤ 3; omega,by show (3 : Int) ≤ 4; omega⟩ (f2 (.inl hk)) (fun h=>by rcases h with h | h; exact absurd h (by show ¬(3 : Int) = 2; omega); exact absurd h (by show ¬(3 : Int) = 4; omega))) (by show ¬(3 : Int) = 1; omega) (hg1.at hb).1 (fun h=>by rcases h with h | h; exact absurd h (by show ¬(3 : Int) = 2; omega); exact absurd h (by show ¬(3 : Int) = 4; omega))
 refine ⟨hs,hcZ,?_⟩
 have p2:=unlink_to (T:=rdoT T F x) (F:=F) (x:=stepZ x) rfl hcZ
 have en : rdoN (rdoT T F x) (stepZ x) = rdoN T x:=by
  have:=(hg1.at hb).2
  show (tagN (rdoT T F x) (atT (rdoT T F x) x.toDir x.to).toNat).file = _
  rw [this]
 rw [en] at p2
 have p2' : (rdoT T F x).Perm (⟨x.toDir,x.to,rdoN T x⟩ :: rdoT (rdoT T F x) F (stepZ x)):=p2
 rw [e1] at p2' ⊢
 exact (List.Perm.cons_inv ((List.perm_append_singleton _ _).symm.trans p2')).symm
theorem sort_perm_eq {T T' : List Tag} (hp : T'.Perm T) (d : Int) : sortS (namesT T' d T'.length) = sortS (namesT T d T.length):=by
 refine sortS_eq ((sortS_perm _).trans ?_) (sortS_sorted _)
 rw [namesT_eq,namesT_eq]
 exact (hp.filter _).map _
def SStep.withK (x : SStep) (k : Int) : SStep:={ x with kind:=k }
theorem put_k (x : SStep) (k : Int) : x.enc.put [0] (.int .i64 k) = some (x.withK k).enc:=by
 simp [SStep.enc,SStep.withK,AV.put]
theorem put_k2 (x : SStep) (j k : Int) : (x.withK j).enc.put [0] (.int .i64 k) = some (x.withK k).enc:=by
 simp [SStep.enc,SStep.withK,AV.put]
@[go_sem] theorem wkk (x : SStep) (j k : Int) : (x.withK j).withK k = x.withK k:=rfl
@[go_sem] theorem wk1 (x : SStep) (k : Int) : (x.withK k).dir = x.dir:=rfl
@[go_sem] theorem wk2 (x : SStep) (k : Int) : (x.withK k).toDir = x.toDir:=rfl
@[go_sem] theorem wk3 (x : SStep) (k : Int) : (x.withK k).name = x.name:=rfl
@[go_sem] theorem wk4 (x : SStep) (k : Int) : (x.withK k).to = x.to:=rfl
theorem fillY (x : SStep) : fill tStep tStep.zero [(0,.int .i64 4),(1,.int .i64 x.toDir),(4,.str x.to),(2,.int .i64 x.dir),(5,.str x.name)] = some (stepY x).enc:=rfl
theorem fillZ (x : SStep) : fill tStep tStep.zero [(0,.int .i64 3),(1,.int .i64 x.toDir),(4,.str x.to)] = some (stepZ x).enc:=rfl
section
variable {cx : Cx} {h : HP} {v : AV} {l : List SStep}
theorem IdealBack_walk {x : SStep} (hl : ∀ n,cx.prot.lets (.obj n) = true) (hls : ∀ x u,cx.lvl ≤ x → cx.prot.lets (.stk x u) = true) (hv : StepsV h v l) (hsz : ∀ k,(stp l k).ok) (hx : x.ok) : Ok tblE cx Fn.w_IdealBack (St.enter [v,x.enc] h) fun v h'=>v = .bool true:=by
 have hx1 : (x.withK 4).ok:=⟨hx.name,hx.to,hx.text⟩
 have hx2 : (x.withK 2).ok:=⟨hx.name,hx.to,hx.text⟩
 have hxY : (stepY x).ok:=⟨hx.to,hx.name,Nat.zero_le _⟩
 have hxZ : (stepZ x).ok:=⟨hx.to,Nat.zero_le _,Nat.zero_le _⟩
 rw [Ok_eq]
 have hvlen:=hv.len
 have hvfg:=hv.fg
 have hvld:=hv.ld
 simp (maxSteps:=999999) (disch:=omega) only [go_sem,hvfg]
 refine W_callW (O:=fun n=>h.next ≤ n) (R:=fun v _=>v = .bool true) rfl ⟨rfl,rfl⟩ (by simp only [go_sem]; exact idealBegun_ok (h:=h.push cx.lvl [(3,⟨tStep,x.enc⟩)]) (by exact hl) (by exact fun x u hx=>hls x u (Nat.le_trans (Nat.le_succ _) hx))) (fun _ _ e=>e) ?_
 rintro _ h1 hF1 rfl
 simp (maxSteps:=999999) (disch:=omega) only [go_sem,hvlen,hvfg,hvld]
 refine W_callhv (P:=fun x=>∃ b,x = .bool b ∧ (b = false → l.length ≤ 200)) h1 rfl ⟨rfl,rfl⟩ rfl (by simp only [go_sem]; exact greatSteps_ok ((hv.to hF1.arg).push)) ?_
 rintro _ ⟨great,rfl,hgr⟩
 cases great with
 | true=>simp (maxSteps:=999999) (disch:=omega) only [go_sem]
 | false =>
 have h200:=hgr rfl
 simp (maxSteps:=999999) (disch:=omega) only [go_sem,hvlen,hvfg,hvld]
 refine W_callhv (P:=fun x=>∃ b,x = .bool b) h1 rfl ⟨rfl,rfl⟩ rfl (by simp only [go_sem]; exact greatStep_ok) ?_
 rintro _ ⟨great,rfl⟩
 cases great with
 | true=>simp (maxSteps:=999999) (disch:=omega) only [go_sem]
 | false =>
 simp (maxSteps:=999999) (disch:=omega) only [go_sem,hvlen,hvfg,hvld]
 refine W_callh (v:=.ptr (.obj h1.next) [] tWorld) (h1.nw tWorld (encW .nilsl)) rfl ⟨rfl,rfl⟩ rfl (by simp only [go_sem]; exact INew_ok) ?_
 simp (maxSteps:=999999) (disch:=omega) only [go_sem]
 refine W_callh (v:=.ptr (.obj (h1.next + 1)) [] tWorld) ((h1.nw tWorld (encW .nilsl)).nw tWorld (encW .nilsl)) rfl ⟨rfl,rfl⟩ rfl (by simp only [go_sem]; exact INew_ok) ?_
 have hP0 : Pair h1 ((h1.nw tWorld (encW .nilsl)).nw tWorld (encW .nilsl)) h1.next (h1.next + 1) [] [] [] []:=Pair.new
 generalize (h1.nw tWorld (encW .nilsl)).nw tWorld (encW .nilsl) = h2 at hP0 ⊢
 generalize h1.next + 1 = u at hP0 ⊢
 generalize h1.next = w at hP0 ⊢
 simp (maxSteps:=999999) (disch:=omega) only [go_sem,hvlen,hvfg,hvld]
 refine W_forE (α:=HP) l.length (fun k q=>⟨[(0,v),(3,.ptr (.stk cx.lvl 3) [] tStep),(5,.ptr (.obj w) [] tWorld),(6,.ptr (.obj u) [] tWorld),(7,.int .i64 k)],[(3,⟨tStep,x.enc⟩)],q⟩)
  (fun k q=>∃ T F,Pair h1 q w u T F T F ∧ GoodT T ∧ T.length ≤ k ∧ F.length ≤ k) h2 (by simp only [go_sem,hvfg] <;> rfl) ⟨[],[],hP0,GoodT.nil,by simp,by simp⟩ fun k h3 hk hq ih=>?_
 obtain ⟨T,F,hP,hgo,hTl,hFl⟩:=hq
 by_cases hlt : k < l.length
 ·obtain ⟨n,rfl,hn⟩:=(hv.to (hP.arg.trans hF1.arg)).ix k hlt
  have hX:=hsz k
  simp (maxSteps:=999999) (disch:=omega) only [go_sem,hlt,hn]
  refine W_PDo (X:=stp l k) (by simp only [go_sem]) (by simp only [go_sem]) hl hP (by omega) (by omega) hX fun h4 hP4 ha4=>?_
  have hn4 : h4.look (.arg n) = some ⟨.arr l.length tStep,encSteps l⟩:=by rw [← hn]; simp only [HP.look,ha4]
  simp (maxSteps:=999999) (disch:=omega) only [go_sem,hlt,hn4]
  refine W_PDo (X:=stp l k) (by simp only [go_sem]) (by simp only [go_sem]) hl hP4.swap (by omega) (by omega) hX fun h5 hP5 ha5=>?_
  simp (maxSteps:=999999) (disch:=omega) only [go_sem]
  have hlen:=rdo_len (T:=T) (F:=F) (x:=stp l k)
  refine ih _ h5 hlt ?_ ⟨_,_,hP5.swap,hgo.step F (stp l k),by omega,by omega⟩
  simp only [go_sem]
 obtain rfl : k = l.length:=by omega
 clear ih
 simp (maxSteps:=999999) (disch:=omega) only [go_sem,hvlen,put_k,Option.map_some]
 refine W_PDo (X:=x.withK 4) (by simp only [go_sem]) (by simp only [go_sem]) hl hP (by omega) (by omega) hx1 fun h4 hP4 ha4=>?_
 have hlen1:=(rdo_len (T:=T) (F:=F) (x:=x.withK 4)).1
 rw [rdoF_names (.inr (.inr rfl))] at hP4
 by_cases c1 : rdoC T (x.withK 4) = 0
 ·obtain ⟨bc,bp⟩:=rename_back (F:=F) hgo (x:=x.withK 4) rfl c1
  rw [c1]
  simp (maxSteps:=999999) (disch:=omega) only [go_sem,fillY]
  refine W_PDo (X:=stepY x) (by simp only [go_sem]) (by simp only [go_sem]) hl hP4 (by omega) (by omega) hxY fun h5 hP5 ha5=>?_
  have bc' : rdoC (rdoT T F (x.withK 4)) (stepY x) = 0:=bc
  rw [bc']
  rw [rdoF_names (x:=stepY x) (.inr (.inr rfl))] at hP5
  have hp2 : (rdoT (rdoT T F (x.withK 4)) F (stepY x)).Perm T:=bp
  generalize rdoT (rdoT T F (x.withK 4)) F (stepY x) = T2 at hP5 hp2
  have hP2:=hP5
  have hgo2:=hgo.perm hp2
  have hl2 : T2.length ≤ 255:=by rw [hp2.length_eq]; omega
  simp (maxSteps:=999999) (disch:=omega) only [go_sem,put_k,Option.map_some]
  refine W_PDo (X:=x.withK 2) (by simp only [go_sem]) (by simp only [go_sem]) hl hP2 (by omega) (by omega) hx2 fun h6 hP6 ha6=>?_
  by_cases c2 : rdoC T2 (x.withK 2) = 0
  ·obtain ⟨bs,bc,bp⟩:=link_back (F:=F) hgo2 (x:=x.withK 2) rfl c2
   rw [rdoF_names (.inl rfl)] at hP6
   have hl3:=(rdo_len (T:=T2) (F:=F) (x:=x.withK 2)).1
   obtain ⟨O6,sv6,ad6,hW6⟩:=hP6.left
   rw [c2]
   simp (maxSteps:=999999) (disch:=omega) only [go_sem]
   refine W_callp rfl ⟨rfl,rfl⟩ (by simp only [go_sem]; exact ISame_ok (T:=rdoT T2 F (x.withK 2)) (F:=F) hW6.push (by omega)) ?_
   have bs' : rSameB (rdoT T2 F (x.withK 2)) x.dir x.name x.toDir x.to = true:=bs
   rw [bs']
   simp (maxSteps:=999999) (disch:=omega) only [go_sem,fillZ]
   refine W_PDo (X:=stepZ x) (by simp only [go_sem]) (by simp only [go_sem]) hl hP6 (by omega) (by omega) hxZ fun h7 hP7 ha7=>?_
   have bc' : rdoC (rdoT T2 F (x.withK 2)) (stepZ x) = 0:=bc
   rw [bc']
   rw [rdoF_names (x:=stepZ x) (.inr (.inl rfl))] at hP7
   have bp' : (rdoT (rdoT T2 F (x.withK 2)) F (stepZ x)).Perm T2:=bp
   have hp4:=bp'.trans hp2
   generalize rdoT (rdoT T2 F (x.withK 2)) F (stepZ x) = T4 at hP7 hp4
   have hPz:=hP7
   generalize h7 = hz at hPz
   have hgo4:=hgo.perm hp4
   have hl4 : T4.length ≤ 255:=by rw [hp4.length_eq]; omega
   clear hsz
   try simp (maxSteps:=999999) (disch:=omega) only [go_sem]
   refine W_forE (α:=HP) 3 (fun d q=>⟨[(5,.ptr (.obj w) [] tWorld),(6,.ptr (.obj u) [] tWorld),(9,.int .i64 d)],[],q⟩) (fun d q=>Pair h1 q w u T4 F T F) hz (by simp only [go_sem] <;> rfl) hPz fun d h5 hd hP5 ih=>?_
   by_cases hd3 : d < 3
   rotate_left
   ·obtain rfl : d = 3:=by omega
    simp (maxSteps:=999999) (disch:=omega) only [go_sem]
   simp (maxSteps:=999999) (disch:=omega) only [go_sem,hd3]
   obtain ⟨O5,sv5,ad5,hW5⟩:=hP5.left
   refine W_IList (dd:=(d : Int)) (by simp only [go_sem]) (by simp only [go_sem]) hl (fun x u hx=>hls x u (Nat.le_of_lt hx)) hW5 hl4 fun va h6 hf6 hsa hW6=>?_
   have hvna:=hsa.vnW
   have hlna:=hsa.lenW
   have hP6:=hP5.fr hf6
   simp (maxSteps:=999999) (disch:=omega) only [go_sem,hvna]
   obtain ⟨O6,sv6,ad6,hW6'⟩:=hP6.swap.left
   refine W_IList (dd:=(d : Int)) (by simp only [go_sem]) (by simp only [go_sem]) hl (fun x u hx=>hls x u (Nat.le_of_lt hx)) hW6' (by omega) fun vb h7 hf7 hsb hW7=>?_
   have hvnb:=hsb.vnW
   have hlnb:=hsb.lenW
   have hP7:=hP6.fr hf7
   have esort:=sort_perm_eq hp4 (d : Int)
   have hsla : (sortS (namesT T4 (d : Int) T4.length)).length ≤ 255:=by rw [(sortS_perm _).length_eq]; exact Nat.le_trans (namesT_len _ _ _) hl4
   simp (maxSteps:=999999) (disch:=omega) only [go_sem,hvna,hvnb]
   refine W_callp rfl ⟨rfl,rfl⟩ (by simp only [go_sem]; exact SameTexts_ok (l:=sortS (namesT T4 (d : Int) T4.length)) (m:=sortS (namesT T (d : Int) T.length)) (SlX_ofq hsa hf7) (SlX_ofq hsb (Fr.refl _ [])) (by omega)) ?_
   rw [decide_eq_true esort]
   have hixa : ∀ i,i < (sortS (namesT T4 (d : Int) T4.length)).length → ∃ q,va = .sl (.obj q) 0 (sortS (namesT T4 (d : Int) T4.length)).length ∧ h7.look (.obj q) = some ⟨.arr (sortS (namesT T4 (d : Int) T4.length)).length tS,encS (sortS (namesT T4 (d : Int) T4.length))⟩:=fun i hi=>by
    obtain ⟨q,e1,_,e2,e3⟩:=hsa.ixW i hi
    exact ⟨q,e1,hf7.look e2 (by simp) e3⟩
   have hina : ∀ i,i < (sortS (namesT T4 (d : Int) T4.length)).length → ∃ t ∈ T4,t.dir = d ∧ t.name = txt (sortS (namesT T4 (d : Int) T4.length)) i:=fun i hi=>in_list hi
   clear esort
   generalize sortS (namesT T4 (d : Int) T4.length) = L at hlna hixa hina hsla
   clear hsa hsb
   obtain ⟨Ow,svw,adw,hWw⟩:=hP7.left
   obtain ⟨Ou,svu,adu,hWu⟩:=hP7.swap.left
   simp (maxSteps:=999999) (disch:=omega) only [go_sem,hvna,hvnb]
   refine W_for L.length (fun i=>⟨[(5,.ptr (.obj w) [] tWorld),(6,.ptr (.obj u) [] tWorld),(9,.int .i64 d),(10,va),(11,.int .i64 i)],[],h7⟩) (by simp only [go_sem,hvna] <;> rfl) fun i hi ih3=>?_
   by_cases hil : i < L.length
   rotate_left
   ·obtain rfl : i = L.length:=by omega
    simp (maxSteps:=999999) (disch:=omega) only [go_sem,hlna]
    refine ih _ h7 hd3 ?_ hP7
    simp only [go_sem]
   obtain ⟨qa,eva,hqa⟩:=hixa i hil
   obtain ⟨ta,mta,ta1,ta2⟩:=hina i hil
   have mta' : ta ∈ T:=hp4.mem_iff.1 mta
   have hva:=name_size (hgo4.va ta mta)
   simp (maxSteps:=999999) (disch:=omega) only [go_sem,hlna,hil]
   refine W_for 2 (fun p=>⟨[(5,.ptr (.obj w) [] tWorld),(6,.ptr (.obj u) [] tWorld),(9,.int .i64 d),(10,va),(11,.int .i64 i),(12,.int .i64 p)],[],h7⟩) (by simp only [go_sem,hvna] <;> rfl) fun p hp ih4=>?_
   by_cases hp2 : p < 2
   rotate_left
   ·obtain rfl : p = 2:=by omega
    simp (maxSteps:=999999) (disch:=omega) only [go_sem]
    refine ih3 _ hil ?_
    simp only [go_sem]
   have r1:=rRead_same hgo4 hgo mta mta' hp2 (F:=F) (F':=F) rfl
   have r2:=rReadC_name hgo4 mta hp2
   have r3:=rReadC_name hgo mta' hp2
   rw [ta1,ta2] at r1 r2 r3
   rw [eva]
   simp (maxSteps:=999999) (disch:=omega) only [go_sem,hp2,hqa,hil]
   refine W_callp rfl ⟨rfl,rfl⟩ (by simp only [go_sem]; exact IRead_ok (T:=T4) (F:=F) hWw.push (by omega) (by rw [← ta2]; omega)) ?_
   simp (maxSteps:=999999) (disch:=omega) only [go_sem,extW0,extW1,extW2,hqa,hil]
   refine W_callp rfl ⟨rfl,rfl⟩ (by simp only [go_sem]; exact IRead_ok (T:=T) (F:=F) hWu.push (by omega) (by rw [← ta2]; omega)) ?_
   rw [r1.1,r1.2,r2,r3]
   simp (maxSteps:=999999) (disch:=omega) only [go_sem,extW0,extW1,extW2]
   refine ih4 _ hp2 ?_
   simp only [go_sem,eva]
  ·have e1 : rdoT T2 F (x.withK 2) = T2:=by unfold rdoT; rw [if_pos c2]
   have e2 : rdoF T2 F (x.withK 2) = F:=by unfold rdoF; rw [if_pos c2]
   rw [e1,e2] at hP6
   simp (maxSteps:=999999) (disch:=omega) only [go_sem,c2]
   have hPz:=hP6
   have hp4:=hp2
   generalize T2 = T4 at hPz hp4
   generalize h6 = hz at hPz
   have hgo4:=hgo.perm hp4
   have hl4 : T4.length ≤ 255:=by rw [hp4.length_eq]; omega
   clear hsz
   try simp (maxSteps:=999999) (disch:=omega) only [go_sem]
   refine W_forE (α:=HP) 3 (fun d q=>⟨[(5,.ptr (.obj w) [] tWorld),(6,.ptr (.obj u) [] tWorld),(9,.int .i64 d)],[],q⟩) (fun d q=>Pair h1 q w u T4 F T F) hz (by simp only [go_sem] <;> rfl) hPz fun d h5 hd hP5 ih=>?_
   by_cases hd3 : d < 3
   rotate_left
   ·obtain rfl : d = 3:=by omega
    simp (maxSteps:=999999) (disch:=omega) only [go_sem]
   simp (maxSteps:=999999) (disch:=omega) only [go_sem,hd3]
   obtain ⟨O5,sv5,ad5,hW5⟩:=hP5.left
   refine W_IList (dd:=(d : Int)) (by simp only [go_sem]) (by simp only [go_sem]) hl (fun x u hx=>hls x u (Nat.le_of_lt hx)) hW5 hl4 fun va h6 hf6 hsa hW6=>?_
   have hvna:=hsa.vnW
   have hlna:=hsa.lenW
   have hP6:=hP5.fr hf6
   simp (maxSteps:=999999) (disch:=omega) only [go_sem,hvna]
   obtain ⟨O6,sv6,ad6,hW6'⟩:=hP6.swap.left
   refine W_IList (dd:=(d : Int)) (by simp only [go_sem]) (by simp only [go_sem]) hl (fun x u hx=>hls x u (Nat.le_of_lt hx)) hW6' (by omega) fun vb h7 hf7 hsb hW7=>?_
   have hvnb:=hsb.vnW
   have hlnb:=hsb.lenW
   have hP7:=hP6.fr hf7
   have esort:=sort_perm_eq hp4 (d : Int)
   have hsla : (sortS (namesT T4 (d : Int) T4.length)).length ≤ 255:=by rw [(sortS_perm _).length_eq]; exact Nat.le_trans (namesT_len _ _ _) hl4
   simp (maxSteps:=999999) (disch:=omega) only [go_sem,hvna,hvnb]
   refine W_callp rfl ⟨rfl,rfl⟩ (by simp only [go_sem]; exact SameTexts_ok (l:=sortS (namesT T4 (d : Int) T4.length)) (m:=sortS (namesT T (d : Int) T.length)) (SlX_ofq hsa hf7) (SlX_ofq hsb (Fr.refl _ [])) (by omega)) ?_
   rw [decide_eq_true esort]
   have hixa : ∀ i,i < (sortS (namesT T4 (d : Int) T4.length)).length → ∃ q,va = .sl (.obj q) 0 (sortS (namesT T4 (d : Int) T4.length)).length ∧ h7.look (.obj q) = some ⟨.arr (sortS (namesT T4 (d : Int) T4.length)).length tS,encS (sortS (namesT T4 (d : Int) T4.length))⟩:=fun i hi=>by
    obtain ⟨q,e1,_,e2,e3⟩:=hsa.ixW i hi
    exact ⟨q,e1,hf7.look e2 (by simp) e3⟩
   have hina : ∀ i,i < (sortS (namesT T4 (d : Int) T4.length)).length → ∃ t ∈ T4,t.dir = d ∧ t.name = txt (sortS (namesT T4 (d : Int) T4.length)) i:=fun i hi=>in_list hi
   clear esort
   generalize sortS (namesT T4 (d : Int) T4.length) = L at hlna hixa hina hsla
   clear hsa hsb
   obtain ⟨Ow,svw,adw,hWw⟩:=hP7.left
   obtain ⟨Ou,svu,adu,hWu⟩:=hP7.swap.left
   simp (maxSteps:=999999) (disch:=omega) only [go_sem,hvna,hvnb]
   refine W_for L.length (fun i=>⟨[(5,.ptr (.obj w) [] tWorld),(6,.ptr (.obj u) [] tWorld),(9,.int .i64 d),(10,va),(11,.int .i64 i)],[],h7⟩) (by simp only [go_sem,hvna] <;> rfl) fun i hi ih3=>?_
   by_cases hil : i < L.length
   rotate_left
   ·obtain rfl : i = L.length:=by omega
    simp (maxSteps:=999999) (disch:=omega) only [go_sem,hlna]
    refine ih _ h7 hd3 ?_ hP7
    simp only [go_sem]
   obtain ⟨qa,eva,hqa⟩:=hixa i hil
   obtain ⟨ta,mta,ta1,ta2⟩:=hina i hil
   have mta' : ta ∈ T:=hp4.mem_iff.1 mta
   have hva:=name_size (hgo4.va ta mta)
   simp (maxSteps:=999999) (disch:=omega) only [go_sem,hlna,hil]
   refine W_for 2 (fun p=>⟨[(5,.ptr (.obj w) [] tWorld),(6,.ptr (.obj u) [] tWorld),(9,.int .i64 d),(10,va),(11,.int .i64 i),(12,.int .i64 p)],[],h7⟩) (by simp only [go_sem,hvna] <;> rfl) fun p hp ih4=>?_
   by_cases hp2 : p < 2
   rotate_left
   ·obtain rfl : p = 2:=by omega
    simp (maxSteps:=999999) (disch:=omega) only [go_sem]
    refine ih3 _ hil ?_
    simp only [go_sem]
   have r1:=rRead_same hgo4 hgo mta mta' hp2 (F:=F) (F':=F) rfl
   have r2:=rReadC_name hgo4 mta hp2
   have r3:=rReadC_name hgo mta' hp2
   rw [ta1,ta2] at r1 r2 r3
   rw [eva]
   simp (maxSteps:=999999) (disch:=omega) only [go_sem,hp2,hqa,hil]
   refine W_callp rfl ⟨rfl,rfl⟩ (by simp only [go_sem]; exact IRead_ok (T:=T4) (F:=F) hWw.push (by omega) (by rw [← ta2]; omega)) ?_
   simp (maxSteps:=999999) (disch:=omega) only [go_sem,extW0,extW1,extW2,hqa,hil]
   refine W_callp rfl ⟨rfl,rfl⟩ (by simp only [go_sem]; exact IRead_ok (T:=T) (F:=F) hWu.push (by omega) (by rw [← ta2]; omega)) ?_
   rw [r1.1,r1.2,r2,r3]
   simp (maxSteps:=999999) (disch:=omega) only [go_sem,extW0,extW1,extW2]
   refine ih4 _ hp2 ?_
   simp only [go_sem,eva]
 ·have e1 : rdoT T F (x.withK 4) = T:=by unfold rdoT; rw [if_pos c1]
  rw [e1] at hP4
  simp (maxSteps:=999999) (disch:=omega) only [go_sem,c1]
  have hp2 : T.Perm T:=List.Perm.refl _
  have hP2:=hP4
  have hTT : ∃ T2 : List Tag,T2.Perm T ∧ Pair h1 h4 w u T2 F T F:=⟨T,hp2,hP2⟩
  clear hP2 hp2
  obtain ⟨T2,hp2,hP2⟩:=hTT
  have hgo2:=hgo.perm hp2
  have hl2 : T2.length ≤ 255:=by rw [hp2.length_eq]; omega
  simp (maxSteps:=999999) (disch:=omega) only [go_sem,put_k,Option.map_some]
  refine W_PDo (X:=x.withK 2) (by simp only [go_sem]) (by simp only [go_sem]) hl hP2 (by omega) (by omega) hx2 fun h6 hP6 ha6=>?_
  by_cases c2 : rdoC T2 (x.withK 2) = 0
  ·obtain ⟨bs,bc,bp⟩:=link_back (F:=F) hgo2 (x:=x.withK 2) rfl c2
   rw [rdoF_names (.inl rfl)] at hP6
   have hl3:=(rdo_len (T:=T2) (F:=F) (x:=x.withK 2)).1
   obtain ⟨O6,sv6,ad6,hW6⟩:=hP6.left
   rw [c2]
   simp (maxSteps:=999999) (disch:=omega) only [go_sem]
   refine W_callp rfl ⟨rfl,rfl⟩ (by simp only [go_sem]; exact ISame_ok (T:=rdoT T2 F (x.withK 2)) (F:=F) hW6.push (by omega)) ?_
   have bs' : rSameB (rdoT T2 F (x.withK 2)) x.dir x.name x.toDir x.to = true:=bs
   rw [bs']
   simp (maxSteps:=999999) (disch:=omega) only [go_sem,fillZ]
   refine W_PDo (X:=stepZ x) (by simp only [go_sem]) (by simp only [go_sem]) hl hP6 (by omega) (by omega) hxZ fun h7 hP7 ha7=>?_
   have bc' : rdoC (rdoT T2 F (x.withK 2)) (stepZ x) = 0:=bc
   rw [bc']
   rw [rdoF_names (x:=stepZ x) (.inr (.inl rfl))] at hP7
   have bp' : (rdoT (rdoT T2 F (x.withK 2)) F (stepZ x)).Perm T2:=bp
   have hp4:=bp'.trans hp2
   generalize rdoT (rdoT T2 F (x.withK 2)) F (stepZ x) = T4 at hP7 hp4
   have hPz:=hP7
   generalize h7 = hz at hPz
   have hgo4:=hgo.perm hp4
   have hl4 : T4.length ≤ 255:=by rw [hp4.length_eq]; omega
   clear hsz
   try simp (maxSteps:=999999) (disch:=omega) only [go_sem]
   refine W_forE (α:=HP) 3 (fun d q=>⟨[(5,.ptr (.obj w) [] tWorld),(6,.ptr (.obj u) [] tWorld),(9,.int .i64 d)],[],q⟩) (fun d q=>Pair h1 q w u T4 F T F) hz (by simp only [go_sem] <;> rfl) hPz fun d h5 hd hP5 ih=>?_
   by_cases hd3 : d < 3
   rotate_left
   ·obtain rfl : d = 3:=by omega
    simp (maxSteps:=999999) (disch:=omega) only [go_sem]
   simp (maxSteps:=999999) (disch:=omega) only [go_sem,hd3]
   obtain ⟨O5,sv5,ad5,hW5⟩:=hP5.left
   refine W_IList (dd:=(d : Int)) (by simp only [go_sem]) (by simp only [go_sem]) hl (fun x u hx=>hls x u (Nat.le_of_lt hx)) hW5 hl4 fun va h6 hf6 hsa hW6=>?_
   have hvna:=hsa.vnW
   have hlna:=hsa.lenW
   have hP6:=hP5.fr hf6
   simp (maxSteps:=999999) (disch:=omega) only [go_sem,hvna]
   obtain ⟨O6,sv6,ad6,hW6'⟩:=hP6.swap.left
   refine W_IList (dd:=(d : Int)) (by simp only [go_sem]) (by simp only [go_sem]) hl (fun x u hx=>hls x u (Nat.le_of_lt hx)) hW6' (by omega) fun vb h7 hf7 hsb hW7=>?_
   have hvnb:=hsb.vnW
   have hlnb:=hsb.lenW
   have hP7:=hP6.fr hf7
   have esort:=sort_perm_eq hp4 (d : Int)
   have hsla : (sortS (namesT T4 (d : Int) T4.length)).length ≤ 255:=by rw [(sortS_perm _).length_eq]; exact Nat.le_trans (namesT_len _ _ _) hl4
   simp (maxSteps:=999999) (disch:=omega) only [go_sem,hvna,hvnb]
   refine W_callp rfl ⟨rfl,rfl⟩ (by simp only [go_sem]; exact SameTexts_ok (l:=sortS (namesT T4 (d : Int) T4.length)) (m:=sortS (namesT T (d : Int) T.length)) (SlX_ofq hsa hf7) (SlX_ofq hsb (Fr.refl _ [])) (by omega)) ?_
   rw [decide_eq_true esort]
   have hixa : ∀ i,i < (sortS (namesT T4 (d : Int) T4.length)).length → ∃ q,va = .sl (.obj q) 0 (sortS (namesT T4 (d : Int) T4.length)).length ∧ h7.look (.obj q) = some ⟨.arr (sortS (namesT T4 (d : Int) T4.length)).length tS,encS (sortS (namesT T4 (d : Int) T4.length))⟩:=fun i hi=>by
    obtain ⟨q,e1,_,e2,e3⟩:=hsa.ixW i hi
    exact ⟨q,e1,hf7.look e2 (by simp) e3⟩
   have hina : ∀ i,i < (sortS (namesT T4 (d : Int) T4.length)).length → ∃ t ∈ T4,t.dir = d ∧ t.name = txt (sortS (namesT T4 (d : Int) T4.length)) i:=fun i hi=>in_list hi
   clear esort
   generalize sortS (namesT T4 (d : Int) T4.length) = L at hlna hixa hina hsla
   clear hsa hsb
   obtain ⟨Ow,svw,adw,hWw⟩:=hP7.left
   obtain ⟨Ou,svu,adu,hWu⟩:=hP7.swap.left
   simp (maxSteps:=999999) (disch:=omega) only [go_sem,hvna,hvnb]
   refine W_for L.length (fun i=>⟨[(5,.ptr (.obj w) [] tWorld),(6,.ptr (.obj u) [] tWorld),(9,.int .i64 d),(10,va),(11,.int .i64 i)],[],h7⟩) (by simp only [go_sem,hvna] <;> rfl) fun i hi ih3=>?_
   by_cases hil : i < L.length
   rotate_left
   ·obtain rfl : i = L.length:=by omega
    simp (maxSteps:=999999) (disch:=omega) only [go_sem,hlna]
    refine ih _ h7 hd3 ?_ hP7
    simp only [go_sem]
   obtain ⟨qa,eva,hqa⟩:=hixa i hil
   obtain ⟨ta,mta,ta1,ta2⟩:=hina i hil
   have mta' : ta ∈ T:=hp4.mem_iff.1 mta
   have hva:=name_size (hgo4.va ta mta)
   simp (maxSteps:=999999) (disch:=omega) only [go_sem,hlna,hil]
   refine W_for 2 (fun p=>⟨[(5,.ptr (.obj w) [] tWorld),(6,.ptr (.obj u) [] tWorld),(9,.int .i64 d),(10,va),(11,.int .i64 i),(12,.int .i64 p)],[],h7⟩) (by simp only [go_sem,hvna] <;> rfl) fun p hp ih4=>?_
   by_cases hp2 : p < 2
   rotate_left
   ·obtain rfl : p = 2:=by omega
    simp (maxSteps:=999999) (disch:=omega) only [go_sem]
    refine ih3 _ hil ?_
    simp only [go_sem]
   have r1:=rRead_same hgo4 hgo mta mta' hp2 (F:=F) (F':=F) rfl
   have r2:=rReadC_name hgo4 mta hp2
   have r3:=rReadC_name hgo mta' hp2
   rw [ta1,ta2] at r1 r2 r3
   rw [eva]
   simp (maxSteps:=999999) (disch:=omega) only [go_sem,hp2,hqa,hil]
   refine W_callp rfl ⟨rfl,rfl⟩ (by simp only [go_sem]; exact IRead_ok (T:=T4) (F:=F) hWw.push (by omega) (by rw [← ta2]; omega)) ?_
   simp (maxSteps:=999999) (disch:=omega) only [go_sem,extW0,extW1,extW2,hqa,hil]
   refine W_callp rfl ⟨rfl,rfl⟩ (by simp only [go_sem]; exact IRead_ok (T:=T) (F:=F) hWu.push (by omega) (by rw [← ta2]; omega)) ?_
   rw [r1.1,r1.2,r2,r3]
   simp (maxSteps:=999999) (disch:=omega) only [go_sem,extW0,extW1,extW2]
   refine ih4 _ hp2 ?_
   simp only [go_sem,eva]
  ·have e1 : rdoT T2 F (x.withK 2) = T2:=by unfold rdoT; rw [if_pos c2]
   have e2 : rdoF T2 F (x.withK 2) = F:=by unfold rdoF; rw [if_pos c2]
   rw [e1,e2] at hP6
   simp (maxSteps:=999999) (disch:=omega) only [go_sem,c2]
   have hPz:=hP6
   have hp4:=hp2
   generalize T2 = T4 at hPz hp4
   generalize h6 = hz at hPz
   have hgo4:=hgo.perm hp4
   have hl4 : T4.length ≤ 255:=by rw [hp4.length_eq]; omega
   clear hsz
   try simp (maxSteps:=999999) (disch:=omega) only [go_sem]
   refine W_forE (α:=HP) 3 (fun d q=>⟨[(5,.ptr (.obj w) [] tWorld),(6,.ptr (.obj u) [] tWorld),(9,.int .i64 d)],[],q⟩) (fun d q=>Pair h1 q w u T4 F T F) hz (by simp only [go_sem] <;> rfl) hPz fun d h5 hd hP5 ih=>?_
   by_cases hd3 : d < 3
   rotate_left
   ·obtain rfl : d = 3:=by omega
    simp (maxSteps:=999999) (disch:=omega) only [go_sem]
   simp (maxSteps:=999999) (disch:=omega) only [go_sem,hd3]
   obtain ⟨O5,sv5,ad5,hW5⟩:=hP5.left
   refine W_IList (dd:=(d : Int)) (by simp only [go_sem]) (by simp only [go_sem]) hl (fun x u hx=>hls x u (Nat.le_of_lt hx)) hW5 hl4 fun va h6 hf6 hsa hW6=>?_
   have hvna:=hsa.vnW
   have hlna:=hsa.lenW
   have hP6:=hP5.fr hf6
   simp (maxSteps:=999999) (disch:=omega) only [go_sem,hvna]
   obtain ⟨O6,sv6,ad6,hW6'⟩:=hP6.swap.left
   refine W_IList (dd:=(d : Int)) (by simp only [go_sem]) (by simp only [go_sem]) hl (fun x u hx=>hls x u (Nat.le_of_lt hx)) hW6' (by omega) fun vb h7 hf7 hsb hW7=>?_
   have hvnb:=hsb.vnW
   have hlnb:=hsb.lenW
   have hP7:=hP6.fr hf7
   have esort:=sort_perm_eq hp4 (d : Int)
   have hsla : (sortS (namesT T4 (d : Int) T4.length)).length ≤ 255:=by rw [(sortS_perm _).length_eq]; exact Nat.le_trans (namesT_len _ _ _) hl4
   simp (maxSteps:=999999) (disch:=omega) only [go_sem,hvna,hvnb]
   refine W_callp rfl ⟨rfl,rfl⟩ (by simp only [go_sem]; exact SameTexts_ok (l:=sortS (namesT T4 (d : Int) T4.length)) (m:=sortS (namesT T (d : Int) T.length)) (SlX_ofq hsa hf7) (SlX_ofq hsb (Fr.refl _ [])) (by omega)) ?_
   rw [decide_eq_true esort]
   have hixa : ∀ i,i < (sortS (namesT T4 (d : Int) T4.length)).length → ∃ q,va = .sl (.obj q) 0 (sortS (namesT T4 (d : Int) T4.length)).length ∧ h7.look (.obj q) = some ⟨.arr (sortS (namesT T4 (d : Int) T4.length)).length tS,encS (sortS (namesT T4 (d : Int) T4.length))⟩:=fun i hi=>by
    obtain ⟨q,e1,_,e2,e3⟩:=hsa.ixW i hi
    exact ⟨q,e1,hf7.look e2 (by simp) e3⟩
   have hina : ∀ i,i < (sortS (namesT T4 (d : Int) T4.length)).length → ∃ t ∈ T4,t.dir = d ∧ t.name = txt (sortS (namesT T4 (d : Int) T4.length)) i:=fun i hi=>in_list hi
   clear esort
   generalize sortS (namesT T4 (d : Int) T4.length) = L at hlna hixa hina hsla
   clear hsa hsb
   obtain ⟨Ow,svw,adw,hWw⟩:=hP7.left
   obtain ⟨Ou,svu,adu,hWu⟩:=hP7.swap.left
   simp (maxSteps:=999999) (disch:=omega) only [go_sem,hvna,hvnb]
   refine W_for L.length (fun i=>⟨[(5,.ptr (.obj w) [] tWorld),(6,.ptr (.obj u) [] tWorld),(9,.int .i64 d),(10,va),(11,.int .i64 i)],[],h7⟩) (by simp only [go_sem,hvna] <;> rfl) fun i hi ih3=>?_
   by_cases hil : i < L.length
   rotate_left
   ·obtain rfl : i = L.length:=by omega
    simp (maxSteps:=999999) (disch:=omega) only [go_sem,hlna]
    refine ih _ h7 hd3 ?_ hP7
    simp only [go_sem]
   obtain ⟨qa,eva,hqa⟩:=hixa i hil
   obtain ⟨ta,mta,ta1,ta2⟩:=hina i hil
   have mta' : ta ∈ T:=hp4.mem_iff.1 mta
   have hva:=name_size (hgo4.va ta mta)
   simp (maxSteps:=999999) (disch:=omega) only [go_sem,hlna,hil]
   refine W_for 2 (fun p=>⟨[(5,.ptr (.obj w) [] tWorld),(6,.ptr (.obj u) [] tWorld),(9,.int .i64 d),(10,va),(11,.int .i64 i),(12,.int .i64 p)],[],h7⟩) (by simp only [go_sem,hvna] <;> rfl) fun p hp ih4=>?_
   by_cases hp2 : p < 2
   rotate_left
   ·obtain rfl : p = 2:=by omega
    simp (maxSteps:=999999) (disch:=omega) only [go_sem]
    refine ih3 _ hil ?_
    simp only [go_sem]
   have r1:=rRead_same hgo4 hgo mta mta' hp2 (F:=F) (F':=F) rfl
   have r2:=rReadC_name hgo4 mta hp2
   have r3:=rReadC_name hgo mta' hp2
   rw [ta1,ta2] at r1 r2 r3
   rw [eva]
   simp (maxSteps:=999999) (disch:=omega) only [go_sem,hp2,hqa,hil]
   refine W_callp rfl ⟨rfl,rfl⟩ (by simp only [go_sem]; exact IRead_ok (T:=T4) (F:=F) hWw.push (by omega) (by rw [← ta2]; omega)) ?_
   simp (maxSteps:=999999) (disch:=omega) only [go_sem,extW0,extW1,extW2,hqa,hil]
   refine W_callp rfl ⟨rfl,rfl⟩ (by simp only [go_sem]; exact IRead_ok (T:=T) (F:=F) hWu.push (by omega) (by rw [← ta2]; omega)) ?_
   rw [r1.1,r1.2,r2,r3]
   simp (maxSteps:=999999) (disch:=omega) only [go_sem,extW0,extW1,extW2]
   refine ih4 _ hp2 ?_
   simp only [go_sem,eva]
end
theorem IdealBack_ok {h : HP} {v : AV} {l : List SStep} {x : SStep} (hl : ∀ n,(⟨0,⟨0,0⟩⟩ : Cx).prot.lets (.obj n) = true) (hv : StepsV h v l) (hsz : ∀ k,(stp l k).ok) (hx : x.ok) : Ok tblE ⟨0,⟨0,0⟩⟩ Fn.w_IdealBack (St.enter [v,x.enc] h) fun v h'=>v = .bool true :=
 IdealBack_walk hl lets_topS hv hsz hx
end Go.Mini
