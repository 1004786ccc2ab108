/- A part of the proof: the statement IdealLinks, over the model of its code. -/
import Derived.Test.YtpkndgkaecamlabIdS

set_option linter.unusedSimpArgs false
set_option linter.unusedVariables false
set_option maxHeartbeats 4000000
set_option maxRecDepth 100000
namespace Go.Mini
theorem W_for {T : Nat → Option MFun} {cx : Cx} {keep ko : List Nat} {b : MC} {k : List Item} {s : St} {Q : St → Prop} (N : Nat) (S : Nat → St) (h0 : s.keep keep ko = S 0)
  (step : ∀ j,j ≤ N → (∀ s',j < N → s'.keep keep ko = S (j + 1) → W T cx (.inLoop keep ko b :: k) s' Q) → W T cx (.code b :: .inLoop keep ko b :: k) (S j) Q) :
  W T cx (.code (.loop keep ko b) :: k) s Q :=
 W_loop N (fun j s=>s = S j) h0 fun j s hj hs ih=>by subst hs; exact step j hj ih
theorem findN_neg {f : Nat → Bool} {n : Nat} (h : findN n f = -1) : ∀ i,i < n → f i = false:=by
 apply anyN_false.1
 rw [← Bool.not_eq_true]
 intro ha
 obtain ⟨j,_,e,_⟩:=findN_any ha
 omega
theorem SlF.ixW {h h1 : HP} {v : AV} {l : List Str} (a : SlF h h1 v l) (i : Nat) (hi : i < l.length) : ∃ q,v = .sl (.obj q) 0 l.length ∧ h.next ≤ q ∧ q < h1.next ∧ h1.look (.obj q) = some ⟨.arr l.length tS,encS l⟩:=by
 rcases a with ⟨_,rfl⟩ | ⟨q,rfl,h1,h2,h3⟩
 ·simp at hi
 ·exact ⟨q,rfl,h1,h2,h3⟩
theorem SlO.keepR {t : Ty} {O O' : Nat → Prop} {h h' : HP} {v : AV} {l : List AV} (a : SlO t O h v l) (hn : h.next ≤ h'.next) (hO : ∀ n,n < h.next → O n → O' n) (hs : ∀ n,n < h.next → O n → h'.obj n = h.obj n) : SlO t O' h' v l:=by
 rcases a with a | ⟨q,rfl,ho,hq,hl,hne⟩
 ·exact .inl a
 ·exact .inr ⟨q,rfl,hO _ hq ho,Nat.lt_of_lt_of_le hq hn,by rw [← hl]; exact hs q hq ho,hne⟩
structure Two (h1 h : HP) (w : Nat) (v1 v2 : AV) (OW : Nat → Prop) (T : List Tag) (F : List RFile) : Prop where
 win : ∃ sv ad,WIn OW h w sv ad T F
 lt : ∀ n,OW n → n < h.next
 tags : SlO tTag (fun n=>¬OW n) h v1 (T.map Tag.enc)
 files : SlO tRFile (fun n=>¬OW n) h v2 (F.map RFile.enc)
 stk : h.stk = h1.stk
 arg : h.arg = h1.arg
theorem Two.fr {h1 h h' : HP} {w : Nat} {v1 v2 : AV} {OW : Nat → Prop} {T : List Tag} {F : List RFile} (a : Two h1 h w v1 v2 OW T F) (b : Fr h h' []) : Two h1 h' w v1 v2 OW T F:=by
 obtain ⟨sv,ad,hw⟩:=a.win
 exact ⟨⟨sv,ad,hw.fr b⟩,fun n hn=>Nat.lt_of_lt_of_le (a.lt n hn) b.next,a.tags.keepR b.next (fun _ _ h=>h) (fun n hn _=>b.same n hn (by simp)),a.files.keepR b.next (fun _ _ h=>h) (fun n hn _=>b.same n hn (by simp)),b.stk.trans a.stk,b.arg.trans a.arg⟩
section
variable {cx : Cx} {h : HP} {v : AV} {l : List SStep}
theorem rdo_len {T : List Tag} {F : List RFile} {x : SStep} : (rdoT T F x).length ≤ T.length + 1 ∧ (rdoF T F x).length ≤ F.length + 1:=by
 constructor
 ·unfold rdoT
  repeat' split
  all_goals simp
  all_goals omega
 ·unfold rdoF
  repeat' split
  all_goals simp
end
theorem lets_topS : ∀ x u,(⟨0,⟨0,0⟩⟩ : Cx).lvl ≤ x → (⟨0,⟨0,0⟩⟩ : Cx).prot.lets (.stk x u) = true:=fun x u _=>decide_eq_true (Nat.zero_le x)
structure GoodT (T : List Tag) : Prop where
 va : ∀ t ∈ T,dirFaultN t.dir t.name = 0
 nd : T.Pairwise fun x y=>¬(x.dir = y.dir ∧ x.name = y.name)
theorem GoodT.nil : GoodT []:=⟨fun t h=>by simp at h,List.Pairwise.nil⟩
theorem atW_pos {T : List Tag} {d : Int} {s : Str} (h : 0 ≤ atT T d s) : ∃ t ∈ T,t.dir = d ∧ t.name = s ∧ (tagN T (atT T d s).toNat) = t:=by
 rcases atT_cases T d s with e | ⟨k,hk,e,h1,h2⟩
 ·omega
 ·rw [e,Int.toNat_natCast]
  exact ⟨_,by rw [tagN_get hk]; exact List.getElem_mem _,h1,h2,rfl⟩
theorem atW_of {T : List Tag} {t : Tag} (h : t ∈ T) : 0 ≤ atT T t.dir t.name:=by
 obtain ⟨k,hk,e⟩:=List.getElem_of_mem h
 unfold atT
 rcases findN_lt (f:=fun i=>decide ((tagN T i).dir = t.dir) && decide ((tagN T i).name = t.name)) (n:=T.length) with e1 | ⟨j,_,e1,_⟩
 ·exfalso
  have:=findN_neg e1 k hk
  rw [tagN_get hk,e] at this
  simp at this
 ·rw [e1]; omega
theorem GoodT.uniq {T : List Tag} (h : GoodT T) {x y : Tag} (hx : x ∈ T) (hy : y ∈ T) (e : x.dir = y.dir ∧ x.name = y.name) : x = y:=by
 obtain ⟨i,hi,rfl⟩:=List.getElem_of_mem hx
 obtain ⟨j,hj,rfl⟩:=List.getElem_of_mem hy
 have hp:=List.pairwise_iff_getElem.1 h.nd
 by_cases c : i < j
 ·exact absurd e (hp i j hi hj c)
 by_cases c2 : j < i
 ·exact absurd ⟨e.1.symm,e.2.symm⟩ (hp j i hj hi c2)
 have : i = j:=by omega
 subst this; rfl
theorem GoodT.at {T : List Tag} (h : GoodT T) {t : Tag} (ht : t ∈ T) : 0 ≤ atT T t.dir t.name ∧ tagN T (atT T t.dir t.name).toNat = t:=by
 have h0:=atW_of ht
 obtain ⟨u,hu,e1,e2,e3⟩:=atW_pos h0
 exact ⟨h0,by rw [e3]; exact h.uniq hu ht ⟨e1,e2⟩⟩
theorem namesT_eq (T : List Tag) (d : Int) : namesT T d T.length = (T.filter fun t=>decide (t.dir = d)).map (·.name):=by
 have key : ∀ k,k ≤ T.length → namesT T d k = ((T.take k).filter fun t=>decide (t.dir = d)).map (·.name):=by
  intro k
  induction k with
  | zero=>intro _; simp [namesT]
  | succ k ih =>
   intro hk
   have e : T.take (k + 1) = T.take k ++ [tagN T k]:=by
    rw [List.take_succ_eq_append_getElem (by omega),tagN_get (by omega)]
   unfold namesT
   rw [ih (by omega),e,List.filter_append,List.map_append]
   split
   ·rename_i h; simp [h]
   ·rename_i h; simp [h]
 rw [key _ (Nat.le_refl _),List.take_length]
theorem in_list {T : List Tag} {d : Int} {i : Nat} (hi : i < (sortS (namesT T d T.length)).length) : ∃ t ∈ T,t.dir = d ∧ t.name = txt (sortS (namesT T d T.length)) i:=by
 have h1 : txt (sortS (namesT T d T.length)) i ∈ sortS (namesT T d T.length):=by rw [txt_get hi]; exact List.getElem_mem _
 have h2:=(sortS_perm _).mem_iff.1 h1
 rw [namesT_eq] at h2
 obtain ⟨t,ht,e⟩:=List.mem_map.1 h2
 obtain ⟨h3,h4⟩:=List.mem_filter.1 ht
 exact ⟨t,h3,by simpa using h4,by rw [namesT_eq]; exact e⟩
theorem rReadC_name {T : List Tag} (h : GoodT T) {t : Tag} (ht : t ∈ T) {p : Nat} (hp : p < 2) : rReadC T t.dir t.name (p : Int) = 0:=by
 have hv:=h.va t ht
 have ha:=(h.at ht).1
 have e : stepFault ⟨6,t.dir,0,(p : Int),t.name,⟨#[]⟩,⟨#[]⟩⟩ = 0:=by
  simp only [stepFault,hv]
  simp; omega
 simp only [rReadC,e]
 simp; omega
theorem rReadF_name {T : List Tag} {F : List RFile} (h : GoodT T) {t : Tag} (ht : t ∈ T) : rReadF T F t.dir t.name = filN F t.file:=by
 unfold rReadF; rw [(h.at ht).2]
theorem rSame_name {T : List Tag} (h : GoodT T) {t u : Tag} (ht : t ∈ T) (hu : u ∈ T) : rSameB T t.dir t.name u.dir u.name = decide (t.file = u.file):=by
 unfold rSameB
 rw [(h.at ht).2,(h.at hu).2,decide_eq_true (h.at ht).1,decide_eq_true (h.at hu).1]; rfl
theorem rSame_comm (T : List Tag) (d : Int) (s : Str) (e : Int) (t : Str) : rSameB T d s e t = rSameB T e t d s:=by
 unfold rSameB
 have : decide ((tagN T (atT T d s).toNat).file = (tagN T (atT T e t).toNat).file) = decide ((tagN T (atT T e t).toNat).file = (tagN T (atT T d s).toNat).file):=by
  congr 1; exact propext eq_comm
 rw [this,Bool.and_comm (decide (0 ≤ atT T d s))]
theorem rRead_same {T T' : List Tag} {F F' : List RFile} (h : GoodT T) (h' : GoodT T') {t t' : Tag} (ht : t ∈ T) (ht' : t' ∈ T') {p : Nat} (hp : p < 2) (he : filN F t.file = filN F' t'.file) :
  rReadT T F t.dir t.name (p : Int) = rReadT T' F' t'.dir t'.name (p : Int) ∧ rReadB T F t.dir t.name (p : Int) = rReadB T' F' t'.dir t'.name (p : Int):=by
 unfold rReadT rReadB
 rw [rReadC_name h ht hp,rReadC_name h' ht' hp,rReadF_name h ht,rReadF_name h' ht',he]
 exact ⟨rfl,rfl⟩
theorem GoodT.sub {T T' : List Tag} (h : GoodT T) (hs : T'.Sublist T) : GoodT T':=⟨fun t ht=>h.va t (hs.subset ht),h.nd.sublist hs⟩
theorem GoodT.add {T : List Tag} (h : GoodT T) {d : Int} {s : Str} {n : Nat} (hv : dirFaultN d s = 0) (hn : ¬0 ≤ atT T d s) : GoodT (T ++ [(⟨d,s,n⟩ : Tag)]):=by
 refine ⟨fun t ht=>?_,?_⟩
 ·rcases List.mem_append.1 ht with h1 | h1
  ·exact h.va t h1
  ·have : t = ⟨d,s,n⟩:=by simpa using h1
   rw [this]; exact hv
 ·rw [List.pairwise_append]
  refine ⟨h.nd,List.pairwise_singleton _ _,fun x hx y hy e=>?_⟩
  have : y = ⟨d,s,n⟩:=by simpa using hy
  subst this
  have:=atW_of hx
  rw [e.1,e.2] at this
  exact hn this
theorem drop_sub {α : Type} (l : List α) (i : Nat) : (l.take i ++ l.drop (i + 1)).Sublist l:=by
 have : l.eraseIdx i = l.take i ++ l.drop (i + 1):=List.eraseIdx_eq_take_drop_succ ..
 rw [← this]; exact List.eraseIdx_sublist ..
theorem fault_to {x : SStep} (h : stepFault x = 0) : dirFaultN x.dir x.name = 0 ∧ (x.kind = 2 ∨ x.kind = 4 → dirFaultN x.toDir x.to = 0):=by
 obtain ⟨_,⟨d0,d3⟩,hn,hto,_⟩:=stepFault_zero h
 refine ⟨?_,fun hk=>?_⟩
 ·unfold dirFaultN; rw [if_neg (by omega),if_pos hn]
 ·obtain ⟨⟨e0,e3⟩,hn2⟩:=hto hk
  unfold dirFaultN; rw [if_neg (by omega),if_pos hn2]
theorem rdoC_zero {T : List Tag} {x : SStep} (h : rdoC T x = 0) : stepFault x = 0 ∧ (x.kind = 1 → ¬0 ≤ atT T x.dir x.name) ∧ (¬x.kind = 1 → 0 ≤ atT T x.dir x.name) ∧ (x.kind = 2 ∨ x.kind = 4 → ¬0 ≤ atT T x.toDir x.to):=by
 unfold rdoC at h
 by_cases c0 : stepFault x = 0
 ·rw [if_neg (by simp [c0])] at h
  refine ⟨c0,fun k1=>?_,fun k1=>?_,fun k24=>?_⟩
  ·rw [if_pos k1] at h
   split at h
   ·omega
   ·assumption
  ·rw [if_neg k1] at h
   split at h
   ·omega
   ·omega
  ·rw [if_neg (by omega)] at h
   split at h
   ·omega
   ·split at h
    ·omega
    ·rename_i h2; exact fun h3=>h2 ⟨k24,h3⟩
 ·rw [if_pos c0] at h; exact absurd h c0
theorem GoodT.step {T : List Tag} (h : GoodT T) (F : List RFile) (x : SStep) : GoodT (rdoT T F x):=by
 unfold rdoT
 split
 ·exact h
 rename_i hc
 have hc' : rdoC T x = 0:=by simpa using hc
 obtain ⟨c0,c1,c2,c3⟩:=rdoC_zero hc'
 obtain ⟨f1,f2⟩:=fault_to c0
 split
 ·rename_i k; exact h.add f1 (c1 k)
 split
 ·rename_i k; exact h.add (f2 (.inl k)) (c3 (.inl k))
 split
 ·exact h.sub (drop_sub _ _)
 split
 ·rename_i k; exact (h.add (f2 (.inr k)) (c3 (.inr k))).sub (drop_sub _ _)
 ·exact h
structure OneW (h1 h : HP) (w : Nat) (T : List Tag) (F : List RFile) : Prop where
 win : ∃ sv ad,WIn (fun n=>h1.next ≤ n) h w sv ad T F
 arg : h.arg = h1.arg
 nx : h1.next ≤ h.next
 good : GoodT T
theorem OneW.fr {h1 h h' : HP} {w : Nat} {T : List Tag} {F : List RFile} (a : OneW h1 h w T F) (b : Fr h h' []) : OneW h1 h' w T F:=by
 obtain ⟨sv,ad,hw⟩:=a.win
 exact ⟨⟨sv,ad,hw.fr b⟩,b.arg.trans a.arg,Nat.le_trans a.nx b.next,a.good⟩
theorem setP_has (f : RFile) {p : Nat} (hp : p < 2) (b : Bool) (t : Str) : (f.setP p b t).has p = b ∧ (f.setP p b t).text p = t:=by
 match p,hp with
 | 0,_=>exact ⟨rfl,rfl⟩
 | 1,_=>exact ⟨rfl,rfl⟩
theorem uint_rem (p : Int) : ∃ n : Nat,n < 2 ∧ evInt .rem .u64 (IntKind.u64.wrap p) 2 = some (.int .u64 (n : Int)):=by
 have e1 : (IntKind.u64).bits = 64:=rfl
 have e2 : (IntKind.u64).signed = false:=rfl
 have p1 : (2 : Int) ^ 64 = 18446744073709551616:=rfl
 have hu : 0 ≤ IntKind.u64.wrap p:=by
  simp only [IntKind.wrap,e1,e2,Bool.false_and,Bool.false_eq_true,if_false,p1]
  omega
 generalize IntKind.u64.wrap p = u at hu ⊢
 obtain ⟨m,rfl⟩ : ∃ m : Nat,u = m:=⟨u.toNat,by omega⟩
 refine ⟨m % 2,Nat.mod_lt _ (by omega),?_⟩
 simp only [evInt]
 rw [if_neg (by omega)]
 rfl
theorem name_size {d : Int} {s : Str} (h : dirFaultN d s = 0) : (0 ≤ d ∧ d < 3) ∧ s.size ≤ 6:=by
 unfold dirFaultN at h
 split at h
 ·omega
 ·split at h
  ·rename_i h1 h2
   refine ⟨by omega,?_⟩
   unfold isName at h2
   simp at h2
   omega
  ·omega
section
variable {cx : Cx} {h : HP} {v : AV} {l : List SStep}
theorem IdealLinks_walk {p : Int} {text : Str} (hl : ∀ n,cx.prot.lets (.obj n) = true) (hls : ∀ x u,cx.lvl ≤ x → cx.prot.lets (.stk x u) = true) (hv : StepsV h v l) (hsz : ∀ k,(stp l k).ok) (htx : text.size ≤ 9223372036854775807) : Ok tblE cx Fn.w_IdealLinks (St.enter [v,.int .i64 p,.str text] h) fun v h'=>v = .bool true:=by
 rw [Ok_eq]
 have hvlen:=hv.len
 have hvfg:=hv.fg
 have hvld:=hv.ld
 simp (maxSteps:=999999) (disch:=omega) only [go_sem,hvfg]
 refine W_callW (O:=fun n=>h.next ≤ n) (R:=fun v _=>v = .bool true) rfl ⟨rfl,rfl⟩ (by simp only [go_sem]; exact idealBegun_ok (h:=h.push cx.lvl []) (by exact hl) (by exact fun x u hx=>hls x u (Nat.le_trans (Nat.le_succ _) hx))) (fun _ _ e=>e) ?_
 rintro _ h1 hF1 rfl
 simp (maxSteps:=999999) (disch:=omega) only [go_sem,hvlen,hvfg,hvld]
 refine W_callhv (P:=fun x=>∃ b,x = .bool b ∧ (b = false → l.length ≤ 200)) h1 rfl ⟨rfl,rfl⟩ rfl (by simp only [go_sem]; exact greatSteps_ok ((hv.to hF1.arg).push)) ?_
 rintro _ ⟨great,rfl,hgr⟩
 cases great with
 | true=>simp (maxSteps:=999999) (disch:=omega) only [go_sem]
 | false =>
 have h200:=hgr rfl
 by_cases ct : text.size ≤ 8
 rotate_left
 ·have ct' : (8 : Int) < (text.size : Int):=by omega
  simp (maxSteps:=999999) (disch:=omega) only [go_sem,ct']
 have ct' : ¬(8 : Int) < (text.size : Int):=by omega
 simp (maxSteps:=999999) (disch:=omega) only [go_sem,ct',hvlen,hvfg,hvld]
 refine W_callh (v:=.ptr (.obj h1.next) [] tWorld) (h1.nw tWorld (encW .nilsl)) rfl ⟨rfl,rfl⟩ rfl (by simp only [go_sem]; exact INew_ok) ?_
 have hT0 : OneW h1 (h1.nw tWorld (encW .nilsl)) h1.next [] []:=⟨⟨.nilsl,fun _=>0,WIn.new (Nat.le_refl _)⟩,rfl,Nat.le_succ _,GoodT.nil⟩
 generalize h1.nw tWorld (encW .nilsl) = h2 at hT0 ⊢
 generalize hw1 : h1.next = w at hT0 ⊢
 simp (maxSteps:=999999) (disch:=omega) only [go_sem,hvlen,hvfg,hvld]
 refine W_forE (α:=HP) l.length (fun k q=>⟨[(0,v),(1,.int .i64 p),(2,.str text),(7,.ptr (.obj w) [] tWorld),(8,.int .i64 k)],[],q⟩)
  (fun k q=>∃ T F,OneW h1 q w T F ∧ T.length ≤ k ∧ F.length ≤ k) h2 (by simp only [go_sem,hvfg] <;> rfl) ⟨[],[],hT0,by simp,by simp⟩ fun k h3 hk hq ih=>?_
 obtain ⟨T,F,hT,hTl,hFl⟩:=hq
 by_cases hlt : k < l.length
 ·obtain ⟨n,rfl,hn⟩:=(hv.to (hT.arg.trans hF1.arg)).ix k hlt
  have hX:=hsz k
  obtain ⟨sv,ad,hW⟩:=hT.win
  simp (maxSteps:=999999) (disch:=omega) only [go_sem,hlt,hn]
  refine W_IDo (X:=stp l k) (by simp only [go_sem]) (by simp only [go_sem]) hl (fun m hm=>Nat.le_trans hT.nx hm) hW (by omega) (by omega) hX fun h4 sv4 ad4 hF4 hW4=>?_
  simp (maxSteps:=999999) (disch:=omega) only [go_sem]
  have hlen:=rdo_len (T:=T) (F:=F) (x:=stp l k)
  refine ih _ h4 hlt ?_ ⟨_,_,⟨⟨sv4,ad4,hW4⟩,hF4.arg.trans hT.arg,Nat.le_trans hT.nx hF4.next,hT.good.step F (stp l k)⟩,by omega,by omega⟩
  simp only [go_sem]
 obtain rfl : k = l.length:=by omega
 clear ih
 obtain ⟨pn,pn2,hrem⟩:=uint_rem p
 have hwp : IntKind.i64.wrap (pn : Int) = pn:=wrap64 (by omega) (by omega)
 simp (maxSteps:=999999) (disch:=omega) only [go_sem,hvlen,hrem,hwp]
 refine W_whileB (α:=HP × Nat) (β:=HP) 3 (fun q=>⟨[(1,.int .i64 pn),(2,.str text),(7,.ptr (.obj w) [] tWorld),(9,.int .i64 q.2)],[],q.1⟩) (fun k q=>OneW h1 q.1 w T F ∧ q.2 = k)
  (fun q=>⟨[(1,.int .i64 pn),(2,.str text),(7,.ptr (.obj w) [] tWorld),(9,.int .i64 3),(57,.bool false)],[],q⟩) (fun q=>OneW h1 q w T F) (h3,0) (by simp only [go_sem] <;> rfl) ⟨hT,rfl⟩ (fun kk QQ hx0 d q hd hq ih=>?_) ?_
 ·obtain ⟨h4,d'⟩:=q
  obtain ⟨hT4,rfl⟩:=hq
  dsimp only at hT4 ih ⊢
  by_cases hd3 : d' < 3
  rotate_left
  ·obtain rfl : d' = 3:=by omega
   simp (maxSteps:=999999) (disch:=omega) only [go_sem]
   exact hx0 h4 hT4
  simp (maxSteps:=999999) (disch:=omega) only [go_sem,hd3]
  refine W_forE (α:=HP) 3 (fun e q=>⟨[(1,.int .i64 pn),(2,.str text),(7,.ptr (.obj w) [] tWorld),(9,.int .i64 d'),(10,.int .i64 e)],[],q⟩) (fun e q=>OneW h1 q w T F) h4 (by simp only [go_sem] <;> rfl) hT4 fun e h5 he hT5 ih2=>?_
  by_cases he3 : e < 3
  rotate_left
  ·obtain rfl : e = 3:=by omega
   simp (maxSteps:=999999) (disch:=omega) only [go_sem]
   refine ih _ (h5,d' + 1) hd3 ?_ ⟨hT5,rfl⟩
   simp only [go_sem]
  simp (maxSteps:=999999) (disch:=omega) only [go_sem,he3]
  obtain ⟨sv5,ad5,hW5⟩:=hT5.win
  refine W_IList (dd:=(d' : Int)) (by simp only [go_sem]) (by simp only [go_sem]) hl (fun x u hx=>hls x u (Nat.le_of_lt hx)) hW5 (by omega) fun va h6 hf6 hsa hW6=>?_
  have hvna:=hsa.vnW
  have hlna:=hsa.lenW
  have hT6:=hT5.fr hf6
  simp (maxSteps:=999999) (disch:=omega) only [go_sem,hvna]
  refine W_IList (dd:=(e : Int)) (by simp only [go_sem]) (by simp only [go_sem]) hl (fun x u hx=>hls x u (Nat.le_of_lt hx)) hW6 (by omega) fun vb h7 hf7 hsb hW7=>?_
  have hvnb:=hsb.vnW
  have hlnb:=hsb.lenW
  have hT7:=hT6.fr hf7
  have hixa : ∀ i,i < (sortS (namesT T (d' : Int) T.length)).length → ∃ q,va = .sl (.obj q) 0 (sortS (namesT T (d' : Int) T.length)).length ∧ h7.look (.obj q) = some ⟨.arr (sortS (namesT T (d' : Int) T.length)).length tS,encS (sortS (namesT T (d' : Int) T.length))⟩:=fun i hi=>by
   obtain ⟨q,e1,_,e2,e3⟩:=hsa.ixW i hi
   exact ⟨q,e1,hf7.look e2 (by simp) e3⟩
  have hixb : ∀ i,i < (sortS (namesT T (e : Int) T.length)).length → ∃ q,vb = .sl (.obj q) 0 (sortS (namesT T (e : Int) T.length)).length ∧ h7.look (.obj q) = some ⟨.arr (sortS (namesT T (e : Int) T.length)).length tS,encS (sortS (namesT T (e : Int) T.length))⟩:=fun i hi=>by
   obtain ⟨q,e1,_,e2,e3⟩:=hsb.ixW i hi
   exact ⟨q,e1,e3⟩
  have hina : ∀ i,i < (sortS (namesT T (d' : Int) T.length)).length → ∃ t ∈ T,t.dir = d' ∧ t.name = txt (sortS (namesT T (d' : Int) T.length)) i:=fun i hi=>in_list hi
  have hinb : ∀ i,i < (sortS (namesT T (e : Int) T.length)).length → ∃ t ∈ T,t.dir = e ∧ t.name = txt (sortS (namesT T (e : Int) T.length)) i:=fun i hi=>in_list hi
  have hab : d' = e → sortS (namesT T (d' : Int) T.length) = sortS (namesT T (e : Int) T.length):=fun h=>by rw [h]
  have hsla : (sortS (namesT T (d' : Int) T.length)).length ≤ 255:=by rw [(sortS_perm _).length_eq]; exact Nat.le_trans (namesT_len _ _ _) (by omega)
  have hslb : (sortS (namesT T (e : Int) T.length)).length ≤ 255:=by rw [(sortS_perm _).length_eq]; exact Nat.le_trans (namesT_len _ _ _) (by omega)
  generalize sortS (namesT T (d' : Int) T.length) = LA at hlna hixa hina hab hsla
  generalize sortS (namesT T (e : Int) T.length) = LB at hlnb hixb hinb hab hslb
  clear hsa hsb
  simp (maxSteps:=999999) (disch:=omega) only [go_sem,hvna,hvnb]
  refine W_for LA.length (fun i=>⟨[(1,.int .i64 pn),(2,.str text),(7,.ptr (.obj w) [] tWorld),(9,.int .i64 d'),(10,.int .i64 e),(11,va),(12,vb),(13,.int .i64 i)],[],h7⟩) (by simp only [go_sem,hvna,hvnb] <;> rfl) fun i hi ih3=>?_
  by_cases hil : i < LA.length
  rotate_left
  ·obtain rfl : i = LA.length:=by omega
   simp (maxSteps:=999999) (disch:=omega) only [go_sem,hlna]
   refine ih2 _ h7 he3 ?_ hT7
   simp only [go_sem]
  simp (maxSteps:=999999) (disch:=omega) only [go_sem,hlna,hil]
  refine W_for LB.length (fun k=>⟨[(1,.int .i64 pn),(2,.str text),(7,.ptr (.obj w) [] tWorld),(9,.int .i64 d'),(10,.int .i64 e),(11,va),(12,vb),(13,.int .i64 i),(14,.int .i64 k)],[],h7⟩) (by simp only [go_sem,hvna,hvnb] <;> rfl) fun k hk ih4=>?_
  by_cases hkl : k < LB.length
  rotate_left
  ·obtain rfl : k = LB.length:=by omega
   simp (maxSteps:=999999) (disch:=omega) only [go_sem,hlnb]
   refine ih3 _ hil ?_
   simp only [go_sem]
  obtain ⟨qa,eva,hqa⟩:=hixa i hil
  obtain ⟨qb,evb,hqb⟩:=hixb k hkl
  obtain ⟨ta,mta,ta1,ta2⟩:=hina i hil
  obtain ⟨tb,mtb,tb1,tb2⟩:=hinb k hkl
  have hgo:=hT7.good
  have hva:=name_size (hgo.va ta mta)
  have hvb:=name_size (hgo.va tb mtb)
  rw [eva,evb]
  simp (maxSteps:=999999) (disch:=omega) only [go_sem,hlnb,hkl,hil,hqa,hqb]
  refine W_callp rfl ⟨rfl,rfl⟩ (by simp only [go_sem]; exact ISame_ok (O:=fun n=>h1.next ≤ n) (T:=T) (F:=F) hW7.push (by omega)) ?_
  simp (maxSteps:=999999) (disch:=omega) only [go_sem,hlnb,hkl,hil,hqa,hqb]
  refine W_callp rfl ⟨rfl,rfl⟩ (by simp only [go_sem]; exact ISame_ok (O:=fun n=>h1.next ≤ n) (T:=T) (F:=F) hW7.push (by omega)) ?_
  have es : rSameB T d' (txt LA i) e (txt LB k) = decide (ta.file = tb.file):=by rw [← ta1,← ta2,← tb1,← tb2]; exact rSame_name hgo mta mtb
  have es2 : rSameB T e (txt LB k) d' (txt LA i) = decide (ta.file = tb.file):=by rw [rSame_comm]; exact es
  have hself : d' = e → i = k → ta.file = tb.file:=fun h1 h2=>by
   have : ta = tb:=hgo.uniq mta mtb ⟨by rw [ta1,tb1,h1],by rw [ta2,tb2,hab h1,h2]⟩
   rw [this]
  rw [es,es2]
  by_cases cs : ta.file = tb.file
  ·have rr:=rRead_same hgo hgo mta mtb pn2 (F:=F) (F':=F) (by rw [cs])
   rw [ta1,ta2,tb1,tb2] at rr
   rw [decide_eq_true cs]
   simp (maxSteps:=999999) (disch:=omega) only [go_sem]
   refine WG_dec (fun hde=>?_) (fun hde=>?_)
   ·simp (maxSteps:=999999) (disch:=omega) only [go_sem]
    refine WG_dec (fun hik=>?_) (fun hik=>?_)
    ·simp (maxSteps:=999999) (disch:=omega) only [go_sem,hlnb,hkl,hil,hqa,hqb]
     refine W_callp rfl ⟨rfl,rfl⟩ (by simp only [go_sem]; exact IRead_ok (O:=fun n=>h1.next ≤ n) (T:=T) (F:=F) hW7.push (by omega) (by rw [← ta2]; omega)) ?_
     simp (maxSteps:=999999) (disch:=omega) only [go_sem,extW0,extW1,extW2,hlnb,hkl,hil,hqa,hqb]
     refine W_callp rfl ⟨rfl,rfl⟩ (by simp only [go_sem]; exact IRead_ok (O:=fun n=>h1.next ≤ n) (T:=T) (F:=F) hW7.push (by omega) (by rw [← tb2]; omega)) ?_
     rw [rr.1,rr.2]
     simp (maxSteps:=999999) (disch:=omega) only [go_sem,extW0,extW1,extW2]
     refine ih4 _ hkl ?_
     simp only [go_sem,eva,evb]
    ·simp (maxSteps:=999999) (disch:=omega) only [go_sem,hlnb,hkl,hil,hqa,hqb]
     refine W_callp rfl ⟨rfl,rfl⟩ (by simp only [go_sem]; exact IRead_ok (O:=fun n=>h1.next ≤ n) (T:=T) (F:=F) hW7.push (by omega) (by rw [← ta2]; omega)) ?_
     simp (maxSteps:=999999) (disch:=omega) only [go_sem,extW0,extW1,extW2,hlnb,hkl,hil,hqa,hqb]
     refine W_callp rfl ⟨rfl,rfl⟩ (by simp only [go_sem]; exact IRead_ok (O:=fun n=>h1.next ≤ n) (T:=T) (F:=F) hW7.push (by omega) (by rw [← tb2]; omega)) ?_
     rw [rr.1,rr.2]
     simp (maxSteps:=999999) (disch:=omega) only [go_sem,extW0,extW1,extW2]
     refine ih4 _ hkl ?_
     simp only [go_sem,eva,evb]
   ·simp (maxSteps:=999999) (disch:=omega) only [go_sem,hlnb,hkl,hil,hqa,hqb]
    refine W_callp rfl ⟨rfl,rfl⟩ (by simp only [go_sem]; exact IRead_ok (O:=fun n=>h1.next ≤ n) (T:=T) (F:=F) hW7.push (by omega) (by rw [← ta2]; omega)) ?_
    simp (maxSteps:=999999) (disch:=omega) only [go_sem,extW0,extW1,extW2,hlnb,hkl,hil,hqa,hqb]
    refine W_callp rfl ⟨rfl,rfl⟩ (by simp only [go_sem]; exact IRead_ok (O:=fun n=>h1.next ≤ n) (T:=T) (F:=F) hW7.push (by omega) (by rw [← tb2]; omega)) ?_
    rw [rr.1,rr.2]
    simp (maxSteps:=999999) (disch:=omega) only [go_sem,extW0,extW1,extW2]
    refine ih4 _ hkl ?_
    simp only [go_sem,eva,evb]
  ·rw [decide_eq_false cs]
   simp (maxSteps:=999999) (disch:=omega) only [go_sem]
   refine WG_dec (fun hde=>?_) (fun hde=>?_)
   ·simp (maxSteps:=999999) (disch:=omega) only [go_sem,hlnb,hkl,hil,hqa,hqb]
    refine W_callp rfl ⟨rfl,rfl⟩ (by simp only [go_sem]; exact IRead_ok (O:=fun n=>h1.next ≤ n) (T:=T) (F:=F) hW7.push (by omega) (by rw [← ta2]; omega)) ?_
    simp (maxSteps:=999999) (disch:=omega) only [go_sem,extW0,extW1,extW2,hlnb,hkl,hil,hqa,hqb]
    refine W_callp rfl ⟨rfl,rfl⟩ (by simp only [go_sem]; exact IRead_ok (O:=fun n=>h1.next ≤ n) (T:=T) (F:=F) hW7.push (by omega) (by rw [← tb2]; omega)) ?_
    simp (maxSteps:=999999) (disch:=omega) only [go_sem,extW0,extW1,extW2]
    refine ih4 _ hkl ?_
    simp only [go_sem,eva,evb]
   ·simp (maxSteps:=999999) (disch:=omega) only [go_sem,hlnb,hkl,hil,hqa,hqb]
    refine W_callp rfl ⟨rfl,rfl⟩ (by simp only [go_sem]; exact IRead_ok (O:=fun n=>h1.next ≤ n) (T:=T) (F:=F) hW7.push (by omega) (by rw [← ta2]; omega)) ?_
    simp (maxSteps:=999999) (disch:=omega) only [go_sem,extW0,extW1,extW2,hlnb,hkl,hil,hqa,hqb]
    refine W_callp rfl ⟨rfl,rfl⟩ (by simp only [go_sem]; exact IRead_ok (O:=fun n=>h1.next ≤ n) (T:=T) (F:=F) hW7.push (by omega) (by rw [← tb2]; omega)) ?_
    simp (maxSteps:=999999) (disch:=omega) only [go_sem,extW0,extW1,extW2]
    refine ih4 _ hkl ?_
    simp only [go_sem,eva,evb]
 intro h4 hT4
 simp (maxSteps:=999999) (disch:=omega) only [go_sem]
 refine W_forE (α:=HP) 3 (fun d q=>⟨[(1,.int .i64 pn),(2,.str text),(7,.ptr (.obj w) [] tWorld),(22,.int .i64 d)],[],q⟩) (fun d q=>OneW h1 q w T F) h4 (by simp only [go_sem] <;> rfl) hT4 fun d h5 hd hT5 ih=>?_
 by_cases hd3 : d < 3
 rotate_left
 ·obtain rfl : d = 3:=by omega
  simp (maxSteps:=999999) (disch:=omega) only [go_sem]
 simp (maxSteps:=999999) (disch:=omega) only [go_sem,hd3]
 obtain ⟨sv5,ad5,hW5⟩:=hT5.win
 have hW5' : WIn (fun n=>n < h5.next) h5 w sv5 ad5 T F:=hW5.keep (fun _ _ h=>h) (Nat.le_refl _) (fun _ _ _=>rfl)
 refine W_IList (dd:=(d : Int)) (by simp only [go_sem]) (by simp only [go_sem]) hl (fun x u hx=>hls x u (Nat.le_of_lt hx)) hW5' (by omega) fun va h6 hf6 hsa hW6=>?_
 have hvna:=hsa.vnW
 have hlna:=hsa.lenW
 have hT6:=hT5.fr hf6
 have hgo:=hT6.good
 simp (maxSteps:=999999) (disch:=omega) only [go_sem,hvna,hlna]
 refine WC_dec (fun c0=>?_) (fun c0=>?_)
 ·simp (maxSteps:=999999) (disch:=omega) only [go_sem,hvna]
  refine ih _ h6 hd3 ?_ hT6
  simp only [go_sem]
 have hlen0 : 0 < (sortS (namesT T (d : Int) T.length)).length:=by omega
 obtain ⟨qa,eva,hqm,hqn,hqa⟩:=hsa.ixW 0 hlen0
 obtain ⟨ta,mta,ta1,ta2⟩:=in_list hlen0
 have hsl255 : (sortS (namesT T (d : Int) T.length)).length ≤ 255:=by rw [(sortS_perm _).length_eq]; exact Nat.le_trans (namesT_len _ _ _) (by omega)
 generalize sortS (namesT T (d : Int) T.length) = LA at hlna hlen0 eva hqa ta2 hsl255
 clear hsa
 subst eva
 have hva:=name_size (hgo.va ta mta)
 have hat0 : (encS LA).at [0] = some (.str (txt LA 0)):=encS_at LA hlen0
 have ef : fill tStep tStep.zero [(0,.int .i64 5),(1,.int .i64 d),(4,.str (txt LA 0)),(3,.int .i64 pn),(6,.str text)] = some (SStep.enc ⟨5,d,0,pn,txt LA 0,⟨#[]⟩,text⟩):=rfl
 have hlen0' : (0 : Int) < (LA.length : Int):=by omega
 simp (maxSteps:=999999) (disch:=omega) only [go_sem,hqa,hlen0,hlen0',hat0,ef]
 generalize hX : (⟨5,d,0,pn,txt LA 0,⟨#[]⟩,text⟩ : SStep) = X at ef
 have hXok : X.ok:=by
  rw [← hX]; exact ⟨by show (txt LA 0).size ≤ _; rw [← ta2]; omega,Nat.zero_le _,htx⟩
 have hXf : stepFault X = 0:=by
  have h0:=hgo.va ta mta
  rw [ta1,ta2] at h0
  rw [← hX]
  simp only [stepFault,h0]
  simp; omega
 have hat:=hgo.at mta
 rw [ta1,ta2] at hat
 have hXc : rdoC T X = 0:=by
  rw [← hX] at hXf ⊢
  simp only [rdoC,hXf]
  have:=hat.1
  simp; omega
 have hXn : rdoN T X = ta.file:=by
  rw [← hX]; unfold rdoN
  simp only [hat.2]
 have hXT : rdoT T F X = T:=by
  have k5 : X.kind = 5:=by rw [← hX]
  unfold rdoT; simp [hXc,k5]
 have hXF : rdoF T F X = F.set ta.file ((filN F ta.file).setP pn true text):=by
  have k5 : X.kind = 5:=by rw [← hX]
  have k6 : X.p.toNat = pn:=by rw [← hX]; simp
  have k7 : X.text = text:=by rw [← hX]
  unfold rdoF; rw [hXn,k6,k7]; simp [hXc,k5]
 have hW6' : WIn (fun n=>n < h5.next ∨ h6.next ≤ n) h6 w sv5 ad5 T F:=hW6.keep (fun _ h _=>.inl h) (Nat.le_refl _) (fun _ _ _=>rfl)
 refine W_IDo (X:=X) (by simp only [go_sem]) (by simp only [go_sem,← hX]) hl (fun m hm=>.inr hm) hW6' (by omega) (by omega) hXok fun h8 sv8 ad8 hF8 hW8=>?_
 rw [hXT,hXF] at hW8
 rw [hXc]
 have hfile : ta.file < F.length:=hW6.ok.mem mta
 have hqa8 : h8.look (.obj qa) = some ⟨.arr LA.length tS,encS LA⟩:=by
  rw [← hqa]; exact hF8.same qa (by omega)
 have hlen' : T.length ≤ 255:=by omega
 clear ih hX ef
 generalize (fun n=>n < h5.next ∨ h6.next ≤ n) = OX at hW8
 generalize hFF : F.set ta.file ((filN F ta.file).setP pn true text) = FX at hW8
 simp (maxSteps:=999999) (disch:=omega) only [go_sem]
 refine W_forE (α:=HP) 3 (fun e q=>⟨[(1,.int .i64 pn),(2,.str text),(7,.ptr (.obj w) [] tWorld),(22,.int .i64 d),(23,.sl (.obj qa) 0 LA.length),(24,.int .i64 e)],[],q⟩) (fun e q=>Fr h8 q []) h8 (by simp only [go_sem] <;> rfl) (Fr.refl _ _) fun e h9 he hf9 ih2=>?_
 by_cases he3 : e < 3
 rotate_left
 ·obtain rfl : e = 3:=by omega
  simp (maxSteps:=999999) (disch:=omega) only [go_sem]
 simp (maxSteps:=999999) (disch:=omega) only [go_sem,he3]
 have hqn8 : qa < h8.next:=Nat.lt_of_lt_of_le hqn hF8.next
 refine W_IList (dd:=(e : Int)) (by simp only [go_sem]) (by simp only [go_sem]) hl (fun x u hx=>hls x u (Nat.le_of_lt hx)) (hW8.fr hf9) hlen' fun vb h10 hf10 hsb hW10=>?_
 have hvnb:=hsb.vnW
 have hlnb:=hsb.lenW
 have hf89:=hf9.trans hf10
 have hqa10 : h10.look (.obj qa) = some ⟨.arr LA.length tS,encS LA⟩:=hf89.look hqn8 (by simp) hqa8
 have hslb : (sortS (namesT T (e : Int) T.length)).length ≤ 255:=by rw [(sortS_perm _).length_eq]; exact Nat.le_trans (namesT_len _ _ _) (by omega)
 have hixb : ∀ i,i < (sortS (namesT T (e : Int) T.length)).length → ∃ q,vb = .sl (.obj q) 0 (sortS (namesT T (e : Int) T.length)).length ∧ h10.look (.obj q) = some ⟨.arr (sortS (namesT T (e : Int) T.length)).length tS,encS (sortS (namesT T (e : Int) T.length))⟩:=fun i hi=>by
  obtain ⟨q,e1,_,e2,e3⟩:=hsb.ixW i hi
  exact ⟨q,e1,e3⟩
 have hinb : ∀ i,i < (sortS (namesT T (e : Int) T.length)).length → ∃ t ∈ T,t.dir = e ∧ t.name = txt (sortS (namesT T (e : Int) T.length)) i:=fun i hi=>in_list hi
 generalize sortS (namesT T (e : Int) T.length) = LB at hlnb hixb hinb hslb
 clear hsb
 simp (maxSteps:=999999) (disch:=omega) only [go_sem,hvnb]
 refine W_for LB.length (fun k=>⟨[(1,.int .i64 pn),(2,.str text),(7,.ptr (.obj w) [] tWorld),(22,.int .i64 d),(23,.sl (.obj qa) 0 LA.length),(24,.int .i64 e),(25,vb),(26,.int .i64 k)],[],h10⟩) (by simp only [go_sem,hvnb] <;> rfl) fun k hk ih3=>?_
 by_cases hkl : k < LB.length
 rotate_left
 ·obtain rfl : k = LB.length:=by omega
  simp (maxSteps:=999999) (disch:=omega) only [go_sem,hlnb]
  refine ih2 _ h10 he3 ?_ hf89
  simp only [go_sem]
 obtain ⟨qb,evb,hqb⟩:=hixb k hkl
 obtain ⟨tb,mtb,tb1,tb2⟩:=hinb k hkl
 have hvb:=name_size (hgo.va tb mtb)
 rw [evb]
 simp (maxSteps:=999999) (disch:=omega) only [go_sem,hlnb,hkl,hqb]
 refine W_callp rfl ⟨rfl,rfl⟩ (by simp only [go_sem]; exact IRead_ok (O:=OX) (T:=T) (F:=FX) hW10.push (by omega) (by rw [← tb2]; omega)) ?_
 simp (maxSteps:=999999) (disch:=omega) only [go_sem,extW0,extW1,extW2,hqb,hkl,hqa10,hlen0,hlen0',hat0]
 refine W_callp rfl ⟨rfl,rfl⟩ (by simp only [go_sem]; exact ISame_ok (O:=OX) (T:=T) (F:=FX) hW10.push (by omega)) ?_
 have es : rSameB T d (txt LA 0) e (txt LB k) = decide (ta.file = tb.file):=by rw [← ta1,← ta2,← tb1,← tb2]; exact rSame_name hgo mta mtb
 rw [es]
 by_cases cs : ta.file = tb.file
 ·have hc0:=rReadC_name hgo mtb pn2
  have hff : filN FX tb.file = (filN F ta.file).setP pn true text:=by rw [← hFF,← cs]; exact filN_set hfile _
  have hsp:=setP_has (filN F ta.file) pn2 true text
  have hr1 : rReadB T FX tb.dir tb.name (pn : Int) = true:=by
   unfold rReadB; rw [if_pos hc0,rReadF_name hgo mtb,hff]; simpa using hsp.1
  have hr2 : rReadT T FX tb.dir tb.name (pn : Int) = text:=by
   unfold rReadT; rw [if_pos hc0,rReadF_name hgo mtb,hff]; simpa using hsp.2
  rw [tb1,tb2] at hc0 hr1 hr2
  rw [decide_eq_true cs,hc0,hr1,hr2]
  simp (maxSteps:=999999) (disch:=omega) only [go_sem]
  refine ih3 _ hkl ?_
  simp only [go_sem,evb]
 ·rw [decide_eq_false cs]
  simp (maxSteps:=999999) (disch:=omega) only [go_sem]
  refine ih3 _ hkl ?_
  simp only [go_sem,evb]
end
theorem IdealLinks_ok {h : HP} {v : AV} {l : List SStep} {p : Int} {text : Str} (hl : ∀ n,(⟨0,⟨0,0⟩⟩ : Cx).prot.lets (.obj n) = true) (hv : StepsV h v l) (hsz : ∀ k,(stp l k).ok) (htx : text.size ≤ 9223372036854775807) : Ok tblE ⟨0,⟨0,0⟩⟩ Fn.w_IdealLinks (St.enter [v,.int .i64 p,.str text] h) fun v h'=>v = .bool true :=
 IdealLinks_walk hl lets_topS hv hsz htx
end Go.Mini
