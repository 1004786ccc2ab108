/- A part of the proof: what Tx computes, step by step. -/
import Derived.Test.YtpkndgkaecamlacDoorTxPb
import Derived.Attr

set_option linter.unusedSimpArgs false
set_option linter.unusedVariables false
set_option maxHeartbeats 4000000
set_option maxRecDepth 100000
set_option linter.unusedSectionVars false
set_option linter.unnecessarySimpa false
namespace Go.Mini
section
variable {cx cx' : Cx} {s s' s1 s2 : St} {T : Nat → Option MFun} {n : Nat} {o : MOp} {g : Opd → AV} {look : Id → Option Blk}
theorem resOf_leads {r : MRes} {v : AV} {l u : Nat} (h : resOf cx s r = some v) : v.leads (.stk l u) = false:=by
 cases r with
 | tmp t =>
  simp only [resOf] at h
  split at h
  ·rename_i hs; simp at h; subst h; exact safe_leads hs
  ·simp at h
 | cell t ty =>
  simp only [resOf] at h
  split at h
  ·split at h
   ·cases hl : s.look cx _ with
    | none=>rw [hl] at h; simp at h
    | some b =>
     rw [hl] at h
     simp only [Option.bind_some] at h
     split at h
     ·rename_i hb
      simp at h
      subst h
      have:=hb.2
      simp only [Bool.or_eq_true] at this
      rcases this with h | h
      ·exact agg_leads h
      ·exact safe_leads h
     ·simp at h
   ·simp at h
  ·simp at h
theorem results_leads {l : List MRes} {v : AV} {k u : Nat} (h : results cx s l = some v) : v.leads (.stk k u) = false:=by
 unfold results at h
 split at h
 ·exact resOf_leads h
 ·simp only [Option.map_eq_some_iff] at h
  obtain ⟨w,_,rfl⟩:=h
  rfl
theorem mem_setd {d : Option Nat} {v : AV} {p : Nat × AV} (h : p ∈ (s.setd d v).sl) : p ∈ s.sl ∨ p.2 = v:=by
 cases d with
 | none=>exact .inl h
 | some t =>
  rcases Slots.mem_set h with h | h
  ·exact .inr (by rw [h])
  ·exact .inl h
theorem write_own {i : Id} {b : Blk} {u : Nat} (h : s.write cx i b = some s') (hn : s.own.get u = none) (hi : i ≠ .stk cx.lvl u) : s'.own.get u = none ∧ s'.sl = s.sl:=by
 unfold St.write at h
 cases ho : i.own cx.lvl with
 | some t =>
  have:=own_some ho
  subst this
  simp [ho] at h
  subst h
  exact ⟨by simp only [Own.get_set]; rw [if_neg (fun e=>hi (by rw [e]))]; exact hn,rfl⟩
 | none =>
  simp only [ho] at h
  split at h
  ·simp at h; subst h; exact ⟨hn,rfl⟩
  ·simp at h
theorem drop_own {i : Id} {u : Nat} (h : s.drop cx i = some s') (hn : s.own.get u = none) : s'.own.get u = none ∧ s'.sl = s.sl:=by
 unfold St.drop at h
 cases ho : i.own cx.lvl with
 | some t =>
  simp [ho] at h
  subst h
  exact ⟨by simp only [Own.get_rid]; split <;> simp [hn],rfl⟩
 | none =>
  simp only [ho] at h
  cases i with
  | obj m =>
   simp only at h
   split at h
   ·simp at h; subst h; exact ⟨hn,rfl⟩
   ·simp at h
  | _=>simp at h
theorem fresh_own {esc : Bool} {t u : Nat} {b : Blk} (hn : s.own.get u = none) (ht : esc = false → t ≠ u) : (s.fresh cx esc t b).2.own.get u = none:=by
 cases esc with
 | true=>exact hn
 | false =>
  simp only [St.fresh,Bool.false_eq_true,if_false,Own.get_set]
  rw [if_neg (ht rfl)]; exact hn
theorem fresh_mem {esc : Bool} {t : Nat} {b : Blk} {p : Nat × AV} (h : p ∈ (s.fresh cx esc t b).2.sl) : p ∈ s.sl ∨ p.2 = .bot:=by
 cases esc with
 | true=>exact .inl h
 | false=>exact Slots.mem_forget h
theorem newVal_leads {esc : Bool} {t u : Nat} {b b' : Blk} {sl : Option Nat} (ht : esc = false → t ≠ u) : (newVal (s.fresh cx esc t b).1 sl b').leads (.stk cx.lvl u) = false:=by
 cases esc with
 | true=>cases sl <;> rfl
 | false =>
  have:=ht rfl
  cases sl <;> simp [St.fresh,newVal,AV.leads,AV.names,AV.isAgg] <;> exact fun e=>this e.symm
theorem Step_fresh {u : Nat} (h : Step T n cx o s s1) (hf : Fresh cx u s) (hp : ∀ x ∈ o.k.ops,x.plain = true) (hs : o.site ≠ some u) (hh : o.k.isCall = true → has o.k.hide u = true) : Fresh cx u s1:=by
 rw [Step_iff] at h
 cases h with
 | skip hw =>
  refine ⟨by cases o.d <;> exact hf.1,fun p hp=>?_⟩
  rcases mem_setd hp with h | h
  ·exact hf.2 p h
  ·rw [h]; rfl
 | op hw hc he ha =>
  rename_i e v s'
  have hlv : ∀ v,(e = .val v ∨ ∃ i b,e = .wr i b v) → v.leads (.stk cx.lvl u) = false:=fun v h=>evK_leads he h fun x hx=>opd_fresh (hp x hx) hf
  have key : s'.own.get u = none ∧ (∀ p ∈ s'.sl,(p.2 : AV).leads (.stk cx.lvl u) = false) ∧ v.leads (.stk cx.lvl u) = false:=by
   cases e with
   | val w =>
    simp [applyEff] at ha
    obtain ⟨rfl,rfl⟩:=ha
    exact ⟨hf.1,hf.2,hlv _ (.inl rfl)⟩
   | new sl b =>
    cases hd : o.d with
    | none=>rw [hd] at ha; simp [applyEff] at ha
    | some t =>
     rw [hd] at ha
     have ht : o.k.esc = false → t ≠ u:=fun hes e=>hs (by rw [site_lays he rfl hes,hd,e])
     simp [applyEff] at ha
     obtain ⟨rfl,rfl⟩:=ha
     refine ⟨fresh_own hf.1 ht,fun p hp=>?_,newVal_leads ht⟩
     rcases fresh_mem hp with h | h
     ·exact hf.2 p h
     ·rw [h]; rfl
   | wr i b w =>
    simp only [applyEff,Option.map_eq_some_iff] at ha
    obtain ⟨s2,hw2,heq⟩:=ha
    simp at heq
    obtain ⟨rfl,rfl⟩:=heq
    obtain ⟨x,hx,hi⟩:=evK_at he rfl
    obtain ⟨h1,h2⟩:=write_own hw2 hf.1 (into_fresh (hp x hx) hf hi)
    exact ⟨h1,by rw [h2]; exact hf.2,hlv _ (.inr ⟨_,_,rfl⟩)⟩
   | del j =>
    simp only [applyEff,Option.map_eq_some_iff] at ha
    obtain ⟨s2,hw2,heq⟩:=ha
    simp at heq
    obtain ⟨rfl,rfl⟩:=heq
    obtain ⟨h1,h2⟩:=drop_own hw2 hf.1
    exact ⟨h1,by rw [h2]; exact hf.2,rfl⟩
   | grow j b m =>
    cases hd : o.d with
    | none=>rw [hd] at ha; simp [applyEff] at ha
    | some t =>
     rw [hd] at ha
     have ht : o.k.esc = false → t ≠ u:=fun hes e=>hs (by rw [site_lays he rfl hes,hd,e])
     simp only [applyEff,Option.map_eq_some_iff] at ha
     obtain ⟨s2,hw2,heq⟩:=ha
     simp at heq
     obtain ⟨rfl,rfl⟩:=heq
     obtain ⟨h1,h2⟩:=drop_own hw2 hf.1
     refine ⟨fresh_own h1 ht,fun p hp=>?_,newVal_leads ht⟩
     rcases fresh_mem hp with h | h
     ·rw [h2] at h; exact hf.2 p h
     ·rw [h]; rfl
  refine ⟨by cases o.d <;> exact key.1,fun p hp=>?_⟩
  rcases mem_setd hp with h | h
  ·exact key.2.1 p h
  ·rw [h]; exact key.2.2
 | call hw hc hco hm hr hb =>
  unfold back at hb
  simp only [Option.map_eq_some_iff] at hb
  obtain ⟨v,hv,rfl⟩:=hb
  have:=callOf_hide hco
  subst this
  refine ⟨?_,fun p hp=>?_⟩
  ·have : (s.pop cx.lvl o.k.hide (‹St›).hp).own.get u = none:=by
    simp only [St.pop,Own.get_unveil]
    rw [if_pos (hh hc)]; exact hf.1
   cases o.d <;> exact this
  ·rcases mem_setd hp with h | h
   ·exact hf.2 p h
   ·rw [h]; exact results_leads hv
theorem fresh_slots {u : Nat} (hf : Fresh cx u s) : s.sl.forget (.stk cx.lvl u) = s.sl:=Slots.forget_id hf.2
theorem fresh_sl {esc : Bool} {t : Nat} {b : Blk} (hf : esc = false → ∀ p ∈ s.sl,(p.2 : AV).leads (.stk cx.lvl t) = false) : (s.fresh cx esc t b).2.sl = s.sl:=by
 cases esc with
 | true=>rfl
 | false=>exact Slots.forget_id (hf rfl)
theorem Step_slots (h : Step T n cx o s s1) (hf : ∀ u,o.site = some u → Fresh cx u s) {t : Nat} (ht : o.d ≠ some t) : Slots.get s1.sl t = Slots.get s.sl t:=by
 rw [Step_iff] at h
 cases h with
 | skip hw=>exact get_setd ht
 | op hw hc he hap =>
  rename_i e v s'
  rw [get_setd ht]
  cases e with
  | val w =>
   simp [applyEff] at hap
   rw [← hap.2]
  | new sl b =>
   cases hd : o.d with
   | none=>rw [hd] at hap; simp [applyEff] at hap
   | some u =>
    rw [hd] at hap
    simp [applyEff] at hap
    rw [← hap.2,fresh_sl fun hes=>(hf u (by rw [site_lays he rfl hes,hd])).2]
  | wr i b w =>
   simp only [applyEff,Option.map_eq_some_iff] at hap
   obtain ⟨s2,hw2,heq⟩:=hap
   simp at heq
   rw [← heq.2,(look_write hw2).2.1]
  | del j =>
   simp only [applyEff,Option.map_eq_some_iff] at hap
   obtain ⟨s2,hw2,heq⟩:=hap
   simp at heq
   rw [← heq.2,(look_drop hw2).2.1]
  | grow j b m =>
   cases hd : o.d with
   | none=>rw [hd] at hap; simp [applyEff] at hap
   | some u =>
    rw [hd] at hap
    simp only [applyEff,Option.map_eq_some_iff] at hap
    obtain ⟨s2,hw2,heq⟩:=hap
    simp at heq
    have hsl:=(look_drop hw2).2.1
    rw [← heq.2,fresh_sl fun hes=>(by rw [hsl]; exact (hf u (by rw [site_lays he rfl hes,hd])).2),hsl]
 | call hw hc hco hm hr hb =>
  unfold back at hb
  simp only [Option.map_eq_some_iff] at hb
  obtain ⟨v,hv,rfl⟩:=hb
  rw [get_setd ht]; rfl
def MK.isLook : MK → Bool
 | .load ..=>true
 | .tostr ..=>true
 | .primS ..=>true
 | .sidx ..=>true
 | .slice ..=>true
 | .eqp ..=>true
 | _=>false
def MK.ro : MK → Bool
 | .load r _ _ _=>r
 | .sidx r _ _ _=>r
 | _=>false
def MK.two : MK → Bool
 | .eqp ..=>true
 | _=>false
def MK.root : MK → Option Nat
 | .load _ rt _ _=>rt
 | .slice rt _ _ _ _ _=>rt
 | _=>none
structure Eye (g : Opd → AV) (k : MK) (i : Id) : Prop where
 one : ∀ x ∈ k.ops,∀ j,(g x).into j = true → j = i
 ro : k.ro = true → i.isArg = true
 root : rooted g i k.root = true ∨ ∀ x ∈ k.ops,∀ j,(g x).into j = false
theorem toIx_into {v : AV} {z : Int} {i : Id} (h : toIx v = some z) : v.into i = false:=by
 cases v <;> simp [toIx] at h <;> rfl
theorem ixOr_into {o : Option Opd} {d z : Int} (h : ixOr g o d = some z) {y : Opd} (hy : y ∈ o.toList) {i : Id} : (g y).into i = false:=by
 cases o with
 | none=>simp at hy
 | some x=>simp at hy; subst hy; exact toIx_into h
theorem eye {e : Eff} {k : MK} (he : evK g look k = some e) (hk : k.isLook = true) (h2 : k.two = false) : ∃ i,Eye g k i:=by
 cases k <;> simp [MK.isLook] at hk <;> simp [MK.two] at h2
 case load ro rt t x =>
  simp only [evK] at he
  split at he <;> try (simp at he; done)
  rename_i i p t' hx
  split at he <;> try (simp at he; done)
  rename_i hc
  refine ⟨i,fun y hy j hj=>?_,fun h=>hc.2.1 h,.inl hc.2.2⟩
  ·simp only [MK.ops,List.mem_cons] at hy
   rcases hy with rfl | hy
   ·rw [hx] at hj; exact into_inj hj into_ptr
   ·cases rt with
    | none=>simp at hy
    | some r =>
     simp only [Option.toList_some,List.mem_map,List.mem_filter,List.mem_singleton,Bool.not_eq_true',Bool.or_eq_false_iff,beq_eq_false_iff_ne] at hy
     obtain ⟨r',⟨rfl,hr,hr'⟩,rfl⟩:=hy
     have h3:=hc.2.2
     simp only [rooted] at h3
     rw [if_neg hr,if_neg hr'] at h3
     exact into_inj hj h3
 case tostr x =>
  obtain ⟨i,hi⟩ : ∃ i,∀ j,(g x).into j = true → j = i:=by
   by_cases h : ∃ i,(g x).into i = true
   ·obtain ⟨i,hi⟩:=h
    exact ⟨i,fun j hj=>into_inj hj hi⟩
   ·exact ⟨.obj 0,fun j hj=>absurd ⟨j,hj⟩ h⟩
  refine ⟨i,fun y hy j hj=>?_,fun h=>by simp [MK.ro] at h,.inl rfl⟩
  simp only [MK.ops,List.mem_singleton] at hy
  subst hy
  exact hi j hj
 case primS f t x y =>
  simp only [evK] at he
  split at he <;> try (simp at he; done)
  rename_i l b hl hy
  obtain ⟨i,hi⟩ : ∃ i,∀ j,(g x).into j = true → j = i:=by
   by_cases h : ∃ i,(g x).into i = true
   ·obtain ⟨i,hi⟩:=h
    exact ⟨i,fun j hj=>into_inj hj hi⟩
   ·exact ⟨.obj 0,fun j hj=>absurd ⟨j,hj⟩ h⟩
  refine ⟨i,fun z hz j hj=>?_,fun h=>by simp [MK.ro] at h,.inl rfl⟩
  simp only [MK.ops,List.mem_cons,List.not_mem_nil,or_false] at hz
  rcases hz with rfl | rfl
  ·exact hi j hj
  ·rw [hy] at hj; simp [AV.into] at hj
 case sidx ro t x y =>
  simp only [evK] at he
  split at he <;> try (simp at he; done)
  rename_i j off len z hx hz
  split at he <;> try (simp at he; done)
  rename_i hc
  refine ⟨j,fun y' hy i hi=>?_,fun h=>hc.2.2 h,.inl rfl⟩
  simp only [MK.ops,List.mem_cons,List.mem_singleton,List.not_mem_nil,or_false] at hy
  rcases hy with rfl | rfl
  ·rw [hx] at hi; exact into_inj hi into_sl
  ·rw [toIx_into hz] at hi; simp at hi
 case slice rt t x lo hi mx =>
  have mem : ∀ {j : Id} {y : Opd} {i : Id},rooted g j rt = true → (∀ y ∈ mx.toList,∀ i,(g y).into i = false) → (∀ y ∈ lo.toList,∀ i,(g y).into i = false) → (∀ y ∈ hi.toList,∀ i,(g y).into i = false) → y ∈ (MK.slice rt t x lo hi mx).ops → (g y).into i = true → (y = x ∨ i = j):=by
   intro j y i hr h1 h2 h3 hy hi
   simp only [MK.ops,List.mem_cons,List.mem_append,List.mem_map,List.mem_filter] at hy
   rcases hy with rfl | ⟨r,⟨hr1,hr2⟩,rfl⟩ | hy | hy | hy
   ·exact .inl rfl
   ·cases rt with
    | none=>simp at hr1
    | some r' =>
     simp at hr1
     subst hr1
     simp only [Bool.not_eq_true',Bool.or_eq_false_iff,beq_eq_false_iff_ne] at hr2
     simp only [rooted] at hr
     rw [if_neg hr2.1,if_neg hr2.2] at hr
     exact .inr (into_inj hi hr)
   ·rw [h2 y hy] at hi; simp at hi
   ·rw [h3 y hy] at hi; simp at hi
   ·rw [h1 y hy] at hi; simp at hi
  rcases slice_inv he with ⟨j,off,len,a,b,hx,hlo,hhi,hr,hev⟩ | ⟨hx,hlo,hhi,rfl,_,hrn⟩
  ·have hmx : ∀ y ∈ mx.toList,∀ i,(g y).into i = false:=by
    intro y hy i
    cases mx with
    | none=>simp at hy
    | some m =>
     simp at hy
     subst hy
     cases hz : toIx (g y) with
     | none=>simp only [Option.map_some,hz] at hev; rw [evSlice_none] at hev; simp at hev
     | some z=>exact toIx_into hz
   refine ⟨j,fun y hy i hi=>?_,fun h=>by simp [MK.ro] at h,.inl hr⟩
   rcases mem hr hmx (fun y hy i=>ixOr_into hlo hy) (fun y hy i=>ixOr_into hhi hy) hy hi with rfl | h
   ·rw [hx] at hi; exact into_inj hi into_sl
   ·exact h
  ·have none : ∀ y ∈ (MK.slice rt t x lo hi none).ops,∀ i,(g y).into i = false:=by
    intro y hy i
    simp only [MK.ops,List.mem_cons,List.mem_append,List.mem_map,List.mem_filter] at hy
    rcases hy with rfl | ⟨r,⟨hr1,hr2⟩,rfl⟩ | hy | hy | hy
    ·rcases hx with h | h <;> rw [h] <;> rfl
    ·cases rt with
     | none=>simp at hr1
     | some r' =>
      simp at hr1
      subst hr1
      simp only [Bool.not_eq_true',Bool.or_eq_false_iff,beq_eq_false_iff_ne] at hr2
      simp only [rootNil,Bool.or_eq_true,beq_iff_eq,hr2.1,hr2.2,false_or] at hrn
      cases hv : g (.s r) <;> rw [hv] at hrn <;> first | rfl | (simp at hrn; done)
    ·exact ixOr_into hlo hy
    ·exact ixOr_into hhi hy
    ·simp at hy
   exact ⟨.arg 0,fun y hy j hj=>by rw [none y hy] at hj; simp at hj,fun h=>by simp [MK.ro] at h,.inr none⟩
end
def MK.onStk (k : MK) : Bool:=k.root == some 1000001
def rootIn (ap : List Nat) (k : MK) : Bool :=
 match k.root with
 | some r=>has ap r && decide (r < 1000000)
 | none=>false
def rootIn0 (ap : List Nat) (k : MK) : Bool :=
 match k.root with
 | some r=>has ap r && !(r == 1000001)
 | none=>false
def pairLE (e k : MK) : Bool :=
 !k.two && match e with
 | .alloc esc _=>esc
 | .box esc _ _=>esc
 | .bslice esc _ _ _=>esc
 | .store _ ap _ _=>k.shape || rootIn0 ap k
 | .append _ ap _ _ _=>has ap 1000002 || rootIn ap k
 | .call p hd _ _=>p || k.ro || (has hd 1000000 && k.onStk)
 | .callv p _ _ _=>p || k.ro
 | _=>false
def MOp.isSite (o : MOp) : Bool:=o.site.isSome && !o.k.isAppend
def hides (e o : MOp) : Bool:=(!e.k.isAppend || e.k.offOwn) && (!e.k.isCall || (match o.site with | some u=>has e.k.hide u | none=>false))
def pairAA (a b : MK) : Bool :=
 match a,b with
 | .append false ap _ _ _,.append false ap' _ _ _=>has ap 1000003 && has ap' 1000003
 | _,_=>false
def pairOk (a b : MOp) : Bool :=
 (match a.d with | some t=>!(b.uses.contains t) && b.d != some t | none=>true) && (match b.d with | some t=>!(a.uses.contains t) | none=>true) &&
 (if a.k.quiet then !a.k.isLook || b.k.quiet || b.isSite || pairLE b.k a.k
 else if b.k.quiet then !b.k.isLook || a.isSite || pairLE a.k b.k
 else if a.isSite then hides b a
 else if b.isSite then hides a b
 else a.d.isSome && b.d.isSome && pairAA a.k b.k)
section
variable {cx cx' : Cx} {s s' s1 s2 : St} {T : Nat → Option MFun} {n : Nat} {o a b e : MOp} {g : Opd → AV} {look : Id → Option Blk}
def Lows (cx : Cx) (s : St) : Prop:=∀ t i,(Slots.get s.sl t).into i = true → i.under (cx.lvl + 1) s.hp.next
theorem Lows.opd {x : Opd} {i : Id} (h : Lows cx s) (hp : x.plain = true) (hi : (s.opd x).into i = true) : i.under (cx.lvl + 1) s.hp.next:=by
 cases x with
 | s t=>exact h t i hi
 | c v=>have:=plain_into (i:=i) hp; simp only [St.opd] at hi; rw [this] at hi; simp at hi
 | f m=>simp [St.opd,AV.into] at hi
theorem site_d {u : Nat} (h : o.site = some u) : o.d = some u:=by
 unfold MOp.site at h
 split at h <;> first | exact h | simp at h
theorem site_notcall {u : Nat} (h : o.site = some u) : o.k.isCall = false:=by
 unfold MOp.site at h
 split at h <;> first | (simp at h; done) | (rename_i hk; rw [hk]; rfl)
theorem store_facts {t : Ty} {ap : List Nat} {x v : Opd} {i : Id} {bl : Blk} {w : AV} (h : evK g look (.store t ap x v) = some (.wr i bl w)) :
  ∃ old,look i = some old ∧ bl.ty = old.ty ∧ ∀ r ∈ ap,apartU g i r = true:=by
 simp only [evK] at h
 split at h <;> try (simp at h; done)
 split at h <;> try (simp at h; done)
 rename_i hc
 split at h <;> try (simp at h; done)
 rename_i old hl
 split at h <;> try (simp at h; done)
 simp at h
 obtain ⟨rfl,rfl,_⟩:=h
 exact ⟨old,hl,rfl,by simpa [List.all_eq_true] using hc.2.2⟩
theorem apart_into {v : AV} {i j : Id} (h : v.apart i = true) (hj : v.into j = true) : j ≠ i:=by
 rintro rfl
 cases v <;> simp [AV.apart] at h <;> simp [AV.into] at hj <;> exact h hj
theorem agree_shape {k : MK} {x y : Option Blk} (hk : k.shape = true) (h : x.map (·.ty) = y.map (·.ty)) : k.agree x y:=by unfold MK.agree; rw [if_pos hk]; exact h
theorem agree_eq {k : MK} {x y : Option Blk} (h : x = y) : k.agree x y:=by subst h; exact MK.agree_refl
theorem look_any (h : Step T n cx e s s1) (hp : ∀ x ∈ o.k.ops,x.plain = true) (hb : Lows cx s) (hf : ∀ u,e.site = some u → Fresh cx u s)
  (hc : e.k.quiet = true ∨ e.isSite = true ∨ s.wanted e.g = some false ∨ (pairLE e.k o.k = true ∧ ∃ i,Eye s.opd o.k i)) :
  ∀ x ∈ o.k.ops,∀ i,(s.opd x).into i = true → o.k.agree (s.look cx i) (s1.look cx i):=by
 intro x hx i hi
 have hun:=hb.opd (hp x hx) hi
 rw [Step_iff] at h
 cases h with
 | skip hw=>rw [look_setd]; exact MK.agree_refl
 | op hw hcl he ha =>
  rename_i ef v s'
  rw [look_setd]
  rcases hc with hc | hc | hc | hc
  ·obtain ⟨w,rfl⟩:=evK_quiet he hc
   simp [applyEff] at ha
   rw [← ha.2]; exact MK.agree_refl
  ·simp only [MOp.isSite,Bool.and_eq_true,Bool.not_eq_true'] at hc
   cases hs : e.site with
   | none=>rw [hs] at hc; simp at hc
   | some u =>
    have hd:=site_d hs
    have hfr:=hf u hs
    have hne:=into_fresh (hp x hx) hfr hi
    obtain ⟨ed,ek,eg⟩:=e
    simp only at hd he ha hs hc
    subst hd
    have hes : ek.esc = false:=by
     unfold MOp.site at hs
     split at hs <;> first | (simp at hs; done) | (rename_i hk; simp only at hk; rw [hk]; rfl)
    cases ef with
    | val w=>simp [applyEff] at ha; rw [← ha.2]; exact MK.agree_refl
    | new sl bl =>
     simp [applyEff] at ha
     rw [← ha.2,hes,look_fresh_stk,if_neg hne]; exact MK.agree_refl
    | wr j bl w =>
     exfalso
     unfold MOp.site at hs
     split at hs <;> first | (simp at hs; done) | (rename_i hk; simp only at hk; subst hk; simp [evK] at he; done) | (rename_i hk; simp only at hk; subst hk; simp [MK.isAppend] at hc; done) | (rename_i hk; simp only at hk; subst hk; simp only [evK] at he; split at he <;> simp at he)
    | del j=>exact (not_del he (.inl hc.2)).elim
    | grow j bl m=>exact (not_grow he hc.2).elim
  ·rw [hw] at hc; simp at hc
  ·obtain ⟨hpl,i0,hE⟩:=hc
   obtain rfl:=hE.one x hx i hi
   have hrt : rooted s.opd i o.k.root = true:=by
    rcases hE.root with h | h
    ·exact h
    ·rw [h x hx i] at hi; simp at hi
   obtain ⟨ed,ek,eg⟩:=e
   simp only at he ha hpl hf
   cases ek <;> simp only [pairLE,Bool.and_eq_true] at hpl <;> try (simp at hpl; done)
   all_goals (replace hpl:=hpl.2)
   case alloc esc t =>
    subst hpl
    simp only [evK,Option.some.injEq] at he
    subst he
    cases ed with
    | none=>simp [applyEff] at ha
    | some d =>
     simp [applyEff] at ha
     rw [← ha.2,show (MK.alloc true t).esc = true from rfl,look_fresh_obj,if_neg (by rintro rfl; simp [Id.under] at hun)]; exact MK.agree_refl
   case box esc t y =>
    subst hpl
    simp only [evK] at he
    split at he <;> try (simp at he; done)
    simp only [Option.some.injEq] at he
    subst he
    cases ed with
    | none=>simp [applyEff] at ha
    | some d =>
     simp [applyEff] at ha
     rw [← ha.2,show (MK.box true t y).esc = true from rfl,look_fresh_obj,if_neg (by rintro rfl; simp [Id.under] at hun)]; exact MK.agree_refl
   case bslice esc t m ps =>
    subst hpl
    simp only [evK,Option.map_eq_some_iff] at he
    obtain ⟨w,_,he⟩:=he
    subst he
    cases ed with
    | none=>simp [applyEff] at ha
    | some d =>
     simp [applyEff] at ha
     rw [← ha.2,show (MK.bslice true t m ps).esc = true from rfl,look_fresh_obj,if_neg (by rintro rfl; simp [Id.under] at hun)]; exact MK.agree_refl
   case store t ap y w =>
    have hwr : ∃ j bl u,ef = .wr j bl u:=by
     simp only [evK] at he
     split at he <;> try (simp at he; done)
     split at he <;> try (simp at he; done)
     split at he <;> try (simp at he; done)
     split at he <;> try (simp at he; done)
     injection he with he
     exact ⟨_,_,_,he.symm⟩
    obtain ⟨j,bl,u,rfl⟩:=hwr
    obtain ⟨old,ho,hty,hap⟩:=store_facts he
    simp only [applyEff,Option.map_eq_some_iff] at ha
    obtain ⟨s3,hw3,heq⟩:=ha
    simp at heq
    obtain ⟨_,rfl⟩:=heq
    have hlk:=(look_write hw3).2.2.2.1 i
    rw [hlk]
    by_cases hij : i = j
    ·subst hij
     rw [if_pos rfl]
     rcases Bool.or_eq_true _ _ ▸ hpl with hsh | hri
     ·exact agree_shape hsh (by rw [ho]; simp [hty])
     ·exfalso
      unfold rootIn0 at hri
      split at hri
      ·rename_i r hk
       simp only [Bool.and_eq_true,Bool.not_eq_true',beq_eq_false_iff_ne] at hri
       have h1:=hap r (has_mem.1 hri.1)
       have h2:=hrt
       rw [hk] at h2
       unfold apartU at h1
       simp only [rooted] at h2
       split at h1
       ·rename_i hm; rw [if_pos hm,h1] at h2; simp at h2
       ·rename_i hm
        rw [if_neg hm,if_neg hri.2] at h2
        exact apart_into h1 h2 rfl
      ·simp at hri
    ·rw [if_neg hij]; exact MK.agree_refl
   case append esc ap t y w =>
    obtain ⟨add,_,hev,hap⟩:=append_inv he
    have hne : ∀ j,ef.at = some j → i ≠ j:=by
     rintro j hj rfl
     have hin:=evAppend_at hev hj
     rcases Bool.or_eq_true _ _ ▸ hpl with h | h
     ·have:=hap _ (has_mem.1 h)
      simp only [apOk,if_true] at this
      cases hv : s.opd y <;> rw [hv] at this hin <;> simp [AV.isNilsl] at this
      simp [AV.into] at hin
     ·unfold rootIn at h
      split at h
      ·rename_i r hk
       simp only [Bool.and_eq_true,decide_eq_true_eq] at h
       have h2:=hrt
       rw [hk] at h2
       simp only [rooted] at h2
       rw [if_neg (by omega),if_neg (by omega)] at h2
       have h1:=hap r (has_mem.1 h.1)
       unfold apOk at h1
       rw [if_neg (by omega),if_neg (by omega)] at h1
       cases hv : s.opd y <;> rw [hv] at h1 hin hev <;> simp [AV.into] at hin
       ·simp [evAppend] at hev
       ·subst hin
        exact apart_into h1 h2 rfl
      ·simp at h
    have hfresh : ∀ (s' : St) (d : Nat) (b : Blk),ed = some d → ef.lays = true → s'.hp.next = s.hp.next → (s'.fresh cx esc d b).2.look cx i = s'.look cx i:=by
     intro s' d b hd hlay hnx
     cases esc with
     | true=>rw [look_fresh_obj,hnx,if_neg (by rintro rfl; simp [Id.under] at hun)]
     | false =>
      have hs : (MOp.mk ed (.append false ap t y w) eg).site = some d:=hd
      have hne:=into_fresh (hp x hx) (hf d hs) hi
      rw [look_fresh_stk,if_neg hne]
    cases ef with
    | val u=>simp [applyEff] at ha; rw [← ha.2]; exact MK.agree_refl
    | new sl bl =>
     cases ed with
     | none=>simp [applyEff] at ha
     | some d =>
      simp [applyEff] at ha
      rw [← ha.2]
      exact agree_eq (hfresh s d bl rfl rfl rfl).symm
    | wr j bl u =>
     simp only [applyEff,Option.map_eq_some_iff] at ha
     obtain ⟨s3,hw3,heq⟩:=ha
     simp at heq
     rw [← heq.2]
     exact agree_eq (by rw [(look_write hw3).2.2.2.1 i,if_neg (hne j rfl)])
    | del j=>exact (evAppend_noDel hev).elim
    | grow j bl m =>
     cases ed with
     | none=>simp [applyEff] at ha
     | some d =>
      simp only [applyEff,Option.map_eq_some_iff] at ha
      obtain ⟨s3,hw3,heq⟩:=ha
      simp at heq
      obtain ⟨_,_,hnx,_,hlk⟩:=look_drop hw3
      rw [← heq.2]
      exact agree_eq (by rw [show (MK.append esc ap t y w).esc = esc from rfl,hfresh s3 d bl rfl rfl hnx,hlk i,if_neg (hne j rfl)])
   case call p hd f args=>simp [MK.isCall] at hcl
   case callv p hd f args=>simp [MK.isCall] at hcl
 | call hw hcl hco hm hr hbk =>
  rename_i prot hide fn l m s3
  rcases hc with hc | hc | hc | hc
  ·exfalso; cases hk : e.k <;> simp [hk,MK.isCall] at hcl <;> simp [hk,MK.quiet] at hc
  ·exfalso
   simp only [MOp.isSite,Bool.and_eq_true] at hc
   cases hs : e.site with
   | none=>rw [hs] at hc; simp at hc
   | some u=>rw [site_notcall hs] at hcl; simp at hcl
  ·rw [hw] at hc; simp at hc
  ·obtain ⟨hpl,i0,hE⟩:=hc
   obtain rfl:=hE.one x hx i hi
   have hpr : prot = true ∨ o.k.ro = true ∨ (has hide 1000000 = true ∧ o.k.onStk = true):=by
    cases hk : e.k <;> simp [hk,MK.isCall] at hcl <;> simp only [hk,pairLE,Bool.or_eq_true,Bool.and_eq_true] at hpl <;> replace hpl:=hpl.2 <;> rw [hk] at hco <;> simp only [callOf] at hco
    ·split at hco <;> try (simp at hco; done)
     split at hco <;> simp at hco
     rcases hpl with (h | h) | h
     ·exact .inl (by rw [← hco.1]; exact h)
     ·exact .inr (.inl h)
     ·exact .inr (.inr ⟨by rw [← hco.2.1]; exact h.1,h.2⟩)
    ·split at hco <;> try (simp at hco; done)
     split at hco <;> try (simp at hco; done)
     split at hco <;> simp at hco
     rcases hpl with h | h
     ·exact .inl (by rw [← hco.1]; exact h)
     ·exact .inr (.inl h)
   have hheld : Held (s.callCx cx prot hide) (s.hp.push cx.lvl (s.own.veil hide)).next i:=by
    rcases hpr with rfl | hro | ⟨hh,hs⟩
    ·cases i with
     | stk l' t=>simp only [Id.under] at hun; simp only [Held,St.callCx,if_true]; exact ⟨hun,Nat.le_refl _⟩
     | obj m=>simp only [Id.under] at hun; simp only [Held,St.callCx,if_true]; exact ⟨hun,Nat.le_refl _⟩
     | arg m=>trivial
    ·have:=hE.ro hro
     cases i <;> simp [Id.isArg] at this
     trivial
    ·have hst : i.isStk = true:=by
      have hr:=hE.root
      rcases hr with hr | hr
      ·unfold MK.onStk at hs
       rw [eq_of_beq hs] at hr
       simpa [rooted] using hr
      ·rw [hr x hx i] at hi; simp at hi
     cases i with
     | stk l' t =>
      simp only [Id.under] at hun
      cases prot <;> simp only [Held,St.callCx,hh,if_true,Bool.false_eq_true,if_false] <;> exact ⟨hun,Nat.le_refl _⟩
     | obj m=>simp [Id.isStk] at hst
     | arg m=>trivial
   have hsame:=(run_frame hr hheld).1
   unfold back at hbk
   simp only [Option.map_eq_some_iff] at hbk
   obtain ⟨v,hv,rfl⟩:=hbk
   rw [look_setd]
   refine agree_eq ?_
   have hpush : (s.hp.push cx.lvl (s.own.veil hide)).look i = match i.own cx.lvl with | some t=>if has hide t then none else s.look cx i | none=>s.look cx i:=congrFun push_look_veil i
   have hsame : s3.hp.look i = (s.hp.push cx.lvl (s.own.veil hide)).look i:=hsame
   rw [hpush] at hsame
   cases ho : i.own cx.lvl with
   | some t =>
    have:=own_some ho
    subst this
    simp only [ho] at hsame
    simp only [look_stk,St.pop,Own.get_unveil]
    split
    ·rfl
    ·rename_i hh
     rw [if_neg hh] at hsame
     rw [look_stk] at hsame
     exact hsame.symm
   | none =>
    simp only [ho] at hsame
    rw [← hsame]
    simp only [St.look,ho,St.pop]
    cases i with
    | stk l' t =>
     simp [Id.own] at ho
     simp only [HP.look,HP.pop]
     rw [if_neg ho]
    | _=>rfl
end
section
variable {cx cx' : Cx} {s s' s1 s2 : St} {T : Nat → Option MFun} {n : Nat} {o a b e : MOp} {g : Opd → AV} {look : Id → Option Blk}
theorem evK_nolook {look' : Id → Option Blk} {k : MK} (hq : k.quiet = true) (hl : k.isLook = false) : evK g look k = evK g look' k:=by
 cases k <;> first | rfl | (simp [MK.isLook] at hl; done) | (simp [MK.quiet] at hq; done)
theorem Eye.congr {g' : Opd → AV} {k : MK} {i : Id} (h : ∀ x ∈ k.ops,g x = g' x) (hE : Eye g k i) : Eye g' k i :=
 ⟨fun x hx j hj=>hE.one x hx j (by rw [h x hx]; exact hj),hE.ro,by
  rcases hE.root with h2 | h2
  ·refine .inl ?_
   cases hk : k.root with
   | none=>rfl
   | some r =>
    rw [hk] at h2
    simp only [rooted] at h2 ⊢
    by_cases hr : r = 1000000
    ·rw [if_pos hr] at h2 ⊢; exact h2
    ·rw [if_neg hr] at h2 ⊢
     by_cases hr' : r = 1000001
     ·rw [if_pos hr'] at h2 ⊢; exact h2
     ·rw [if_neg hr'] at h2 ⊢
      rw [← h (.s r) (by cases k <;> simp [MK.root] at hk <;> subst hk <;> simp [MK.ops,hr,hr'])]; exact h2
  ·exact .inr fun x hx j=>by rw [← h x hx]; exact h2 x hx j⟩
theorem agree_symm {k : MK} {x y : Option Blk} (h : k.agree x y) : k.agree y x:=by
 unfold MK.agree at h ⊢
 split at h
 ·rename_i hk; rw [if_pos hk]; exact h.symm
 ·rename_i hk; rw [if_neg hk]; exact h.symm
theorem pairLE_two {e k : MK} (h : pairLE e k = true) : k.two = false:=by
 simp only [pairLE,Bool.and_eq_true,Bool.not_eq_true'] at h
 exact h.1
theorem quiet_step (h : Step T n cx o s s1) (hq : o.k.quiet = true ∨ s.wanted o.g = some false) (hp : ∀ x ∈ o.k.ops,x.plain = true) :
  ∃ v,s1 = s.setd o.d v ∧ (∀ u,Fresh cx u s → v.leads (.stk cx.lvl u) = false) ∧
   (∀ s',(∀ t ∈ o.uses,Slots.get s.sl t = Slots.get s'.sl t) → (s.wanted o.g = some false ∨ (o.k.quiet = true ∧ o.k.isLook = false) ∨ ∀ x ∈ o.k.ops,∀ j,(s.opd x).into j = true → o.k.agree (s.look cx j) (s'.look cx j)) → Step T n cx o s' (s'.setd o.d v) ∧ ∀ u,Fresh cx u s' → v.leads (.stk cx.lvl u) = false) ∧
   (s.wanted o.g = some false ∨ ∃ e,evK s.opd (s.look cx) o.k = some e):=by
 rw [Step_iff] at h
 cases h with
 | skip hw=>exact ⟨_,rfl,fun u _=>rfl,fun s' hu _=>⟨Step_iff.2 (.skip (by rw [← wanted_uses hu]; exact hw)),fun _ _=>rfl⟩,.inl hw⟩
 | op hw hc he ha =>
  rename_i e v s'
  have hq' : o.k.quiet = true:=by
   rcases hq with h | h
   ·exact h
   ·rw [hw] at h; simp at h
  obtain ⟨w,rfl⟩:=evK_quiet he hq'
  simp [applyEff] at ha
  obtain ⟨rfl,rfl⟩:=ha
  refine ⟨w,rfl,fun u hf=>evK_leads he (.inl rfl) fun x hx=>opd_fresh (hp x hx) hf,fun s' hu hl=>?_,.inr ⟨_,he⟩⟩
  have he' : evK s'.opd (s'.look cx) o.k = some (.val w):=by
   rcases hl with hl | hl | hl
   ·rw [hw] at hl; simp at hl
   ·rw [evK_nolook hl.1 hl.2 (look':=s.look cx),← evK_congr (opd_uses hu) (fun _ _ _ _=>MK.agree_refl)]; exact he
   ·rw [← evK_congr (opd_uses hu) hl]; exact he
  exact ⟨Step_iff.2 (.op (by rw [← wanted_uses hu]; exact hw) hc he' rfl),fun u hf=>evK_leads he' (.inl rfl) fun x hx=>opd_fresh (hp x hx) hf⟩
 | call hw hc hco hm hr hb =>
  exfalso
  rcases hq with h | h
  ·cases hk : o.k <;> simp [hk,MK.isCall] at hc <;> simp [hk,MK.quiet] at h
  ·rw [hw] at h; simp at h
theorem site_step (h : Step T n cx o s s1) (hs : o.isSite = true) (hw0 : s.wanted o.g ≠ some false) {u : Nat} (hu : o.site = some u) (hf : Fresh cx u s) :
  ∃ bl v,s1 = (s.setO u bl).setd (some u) v ∧ (∀ u',u' ≠ u → v.leads (.stk cx.lvl u') = false) ∧
   ∀ s',(∀ t ∈ o.uses,Slots.get s.sl t = Slots.get s'.sl t) → Fresh cx u s' → Step T n cx o s' ((s'.setO u bl).setd (some u) v):=by
 have hd:=site_d hu
 simp only [MOp.isSite,Bool.and_eq_true,Bool.not_eq_true'] at hs
 rw [Step_iff] at h
 cases h with
 | skip hw=>exact absurd hw hw0
 | op hw hc he ha =>
  rename_i e v s'
  have hes : o.k.esc = false:=by
   unfold MOp.site at hu
   split at hu <;> first | (simp at hu; done) | (rename_i hk; rw [hk]; rfl)
  have hnl : ∀ g look look',evK g look o.k = evK g look' o.k:=by
   intro g look look'
   unfold MOp.site at hu
   split at hu <;> first | (simp at hu; done) | (rename_i hk; rw [hk]; rfl) | (rename_i hk; rw [hk] at hs; simp [MK.isAppend] at hs)
  have hnew : ∃ sl bl,e = .new sl bl:=by
   unfold MOp.site at hu
   split at hu <;> first | (simp at hu; done) | skip
   ·rename_i hk; rw [hk] at he; simp only [evK,Option.some.injEq] at he; exact ⟨_,_,he.symm⟩
   ·rename_i hk; rw [hk] at he; simp only [evK] at he; split at he <;> simp at he; exact ⟨_,_,he.symm⟩
   ·rename_i hk; rw [hk] at he; simp only [evK,Option.map_eq_some_iff] at he; obtain ⟨w,_,he⟩:=he; exact ⟨_,_,he.symm⟩
   ·rename_i hk; rw [hk] at hs; simp [MK.isAppend] at hs
  obtain ⟨sl,bl,rfl⟩:=hnew
  rw [hd,hes] at ha
  simp [applyEff] at ha
  obtain ⟨rfl,rfl⟩:=ha
  have hfr : ∀ s',Fresh cx u s' → s'.fresh cx false u bl = (.stk cx.lvl u,s'.setO u bl):=by
   intro s' hf'
   simp only [St.fresh,Bool.false_eq_true,if_false,St.setO,fresh_slots hf']
  refine ⟨bl,newVal (.stk cx.lvl u) sl bl,by rw [hfr s hf,hd],fun u' hu'=>?_,fun s' hus hf'=>?_⟩
  ·cases sl <;> simp [newVal,AV.leads,AV.names,AV.isAgg] <;> exact fun e=>hu' e
  ·have:=Step_iff.2 (StepIs.op (T:=T) (n:=n) (cx:=cx) (o:=o) (s:=s') (e:=.new sl bl) (v:=newVal (.stk cx.lvl u) sl bl) (s':=s'.setO u bl) (by rw [← wanted_uses hus]; exact hw) hc (by rw [← evK_congr (g:=s.opd) (look:=s'.look cx) (opd_uses hus) (fun _ _ _ _=>MK.agree_refl),hnl _ _ (s.look cx)]; exact he)
    (by rw [hd,hes]; simp only [applyEff,hfr s' hf']))
   rw [hd] at this
   exact this
 | call hw hc hco hm hr hb=>rw [site_notcall hu] at hc; simp at hc
theorem isSite_site (h : o.isSite = true) : ∃ u,o.site = some u ∧ o.k.isAppend = false:=by
 simp only [MOp.isSite,Bool.and_eq_true,Bool.not_eq_true'] at h
 cases hs : o.site with
 | none=>rw [hs] at h; simp at h
 | some u=>exact ⟨u,rfl,h.2⟩
def St.dropM (s : St) (o : Option Nat) : St:=match o with
 | none=>s
 | some m=>{ s with hp:={ s.hp with obj:=fun n=>if n = m then none else s.hp.obj n } }
def St.setM (s : St) (u : Nat) (o : Option Blk) : St:=match o with
 | none=>s
 | some b=>s.setO u b
theorem look_dropM {o : Option Nat} {i : Id} : (s.dropM o).look cx i = if (∃ m,o = some m ∧ i = .obj m) then none else s.look cx i:=by
 cases o with
 | none=>simp [St.dropM]
 | some m =>
  simp only [St.dropM,St.look,Option.some.injEq,exists_eq_left']
  cases ho : i.own cx.lvl with
  | some t =>
   have:=own_some ho
   subst this
   simp
  | none =>
   cases i with
   | obj n=>simp only [HP.look,Id.obj.injEq]
   | _=>simp [HP.look]
theorem look_setM {u : Nat} {o : Option Blk} {i : Id} (h : i ≠ .stk cx.lvl u) : (s.setM u o).look cx i = s.look cx i:=by
 cases o with
 | none=>rfl
 | some b=>exact look_setO h
theorem swapAA_states {om om' : Option Nat} {ob ob' : Option Blk} {u u' : Nat} {v v' : AV} (h : u ≠ u') :
  (((((s.dropM om).setM u ob).setd (some u) v).dropM om').setM u' ob').setd (some u') v' = (((((s.dropM om').setM u' ob').setd (some u') v').dropM om).setM u ob).setd (some u) v:=by
 cases om <;> cases om' <;> cases ob <;> cases ob' <;> simp only [St.dropM,St.setM,St.setO,St.setd,Slots.set_comm h,Own.set_comm h]
 all_goals
  congr 2
  funext n
  split <;> split <;> rfl
theorem append_congr {look look' : Id → Option Blk} {esc : Bool} {ap : List Nat} {t : Ty} {x y : Opd} {g' : Opd → AV} (hg : ∀ z ∈ (MK.append esc ap t x y).ops,g z = g' z) (hl : ∀ i,(g x).into i = true ∨ (g y).into i = true → look i = look' i) :
  evK g look (.append esc ap t x y) = evK g' look' (.append esc ap t x y):=by
 have h1 : evK g look (.append esc ap t x y) = evK g look' (.append esc ap t x y):=by
  simp only [evK]
  rw [elems_congr (look':=look') (fun i hi=>hl i (.inr hi))]
  split
  ·rw [evAppend_congr (look':=look') (fun i hi=>hl i (.inl hi))]
  ·rfl
 rw [h1]
 exact evK_congr hg fun _ _ _ _=>MK.agree_refl
theorem app_step {ap : List Nat} {ty : Ty} {x y : Opd} {u : Nat} {gd : Option (Nat × Bool)} (h : Step T n cx ⟨some u,.append false ap ty x y,gd⟩ s s1) (hm : has ap 1000003 = true) (hw0 : s.wanted gd ≠ some false) (hf : Fresh cx u s) :
  ∃ om ob v,s1 = ((s.dropM om).setM u ob).setd (some u) v ∧ (om = none → ∀ i,(s.opd x).into i = false) ∧ (∀ m,om = some m → (s.opd x).into (.obj m) = true) ∧ (∀ i,(s.opd x).into i = true ∨ (s.opd y).into i = true → (s.look cx i).isSome = true) ∧
   (∀ m,(s.opd y).into (.obj m) = false) ∧
   ∀ s',(∀ t ∈ (MOp.mk (some u) (.append false ap ty x y) gd).uses,Slots.get s.sl t = Slots.get s'.sl t) → (∀ i,(s.opd x).into i = true ∨ (s.opd y).into i = true → s.look cx i = s'.look cx i) → Fresh cx u s' →
    Step T n cx ⟨some u,.append false ap ty x y,gd⟩ s' (((s'.dropM om).setM u ob).setd (some u) v):=by
 rw [Step_iff] at h
 cases h with
 | skip hw=>exact absurd hw hw0
 | call hw hc hco hm hr hb=>simp [MK.isCall] at hc
 | op hw hc he ha =>
  rename_i e v s'
  simp only at he ha
  obtain ⟨add,hel,hev,hap⟩:=append_inv he
  have hmk:=hap _ (has_mem.1 hm)
  simp only [apOk,show ¬(1000003 : Nat) = 1000002 by decide,if_false,if_true,Bool.and_eq_true,Bool.not_eq_true'] at hmk
  obtain ⟨⟨hnw,hoff⟩,hobj⟩:=hmk
  have hlive : ∀ i,(s.opd x).into i = true ∨ (s.opd y).into i = true → (s.look cx i).isSome = true:=by
   intro i hi
   rcases hi with hi | hi
   ·cases hv : s.opd x <;> rw [hv] at hi hev <;> simp [AV.into] at hi
    ·simp [evAppend] at hev
    ·subst hi
     simp only [evAppend] at hev
     split at hev <;> try (simp at hev; done)
     rename_i hlk; rw [hlk]; rfl
   ·cases hv : s.opd y <;> rw [hv] at hi hel <;> simp [AV.into] at hi
    ·simp [elems] at hel
    ·subst hi
     simp only [elems] at hel
     split at hel <;> try (simp at hel; done)
     rename_i hlk; rw [hlk]; rfl
  have hy : ∀ m,(s.opd y).into (.obj m) = false:=by
   intro m
   cases hv : s.opd y <;> rw [hv] at hobj hel <;> try rfl
   ·simp [elems] at hel
   ·rename_i i _ _
    cases i <;> simp [AV.offObj] at hobj <;> simp [AV.into]
  have hfr : ∀ (s' : St) (b : Blk),Fresh cx u s' → s'.fresh cx false u b = (.stk cx.lvl u,s'.setO u b):=by
   intro s' b hf'
   simp only [St.fresh,Bool.false_eq_true,if_false,St.setO,fresh_slots hf']
  have replay : ∀ (s' : St),(∀ t ∈ (MOp.mk (some u) (.append false ap ty x y) gd).uses,Slots.get s.sl t = Slots.get s'.sl t) → (∀ i,(s.opd x).into i = true ∨ (s.opd y).into i = true → s.look cx i = s'.look cx i) →
    s'.wanted gd = some true ∧ evK s'.opd (s'.look cx) (.append false ap ty x y) = some e:=by
   intro s' hu hl
   have ho:=opd_uses (o:=⟨some u,.append false ap ty x y,gd⟩) hu
   have hwu:=wanted_uses (o:=⟨some u,.append false ap ty x y,gd⟩) hu
   exact ⟨by rw [← hwu]; exact hw,by rw [← append_congr ho hl]; exact he⟩
  cases e with
  | val w =>
   simp [applyEff] at ha
   obtain ⟨rfl,rfl⟩:=ha
   refine ⟨none,none,w,rfl,fun _ i=>?_,fun m hm=>by simp at hm,hlive,hy,fun s' hu hl hf'=>?_⟩
   ·cases hv : s.opd x <;> rw [hv] at hev <;> try rfl
    ·simp [evAppend] at hev
    ·exfalso
     simp only [evAppend] at hev
     repeat' (split at hev)
     all_goals (simp at hev)
   ·obtain ⟨h1,h2⟩:=replay s' hu hl
    exact Step_iff.2 (.op h1 rfl h2 rfl)
  | new sl b =>
   simp only [MK.esc,applyEff,hfr s b hf,Option.some.injEq,Prod.mk.injEq] at ha
   obtain ⟨rfl,rfl⟩:=ha
   refine ⟨none,some b,_,rfl,fun _ i=>?_,fun m hm=>by simp at hm,hlive,hy,fun s' hu hl hf'=>?_⟩
   ·cases hv : s.opd x <;> rw [hv] at hev <;> try rfl
    ·simp [evAppend] at hev
    ·exfalso
     simp only [evAppend] at hev
     repeat' (split at hev)
     all_goals (simp at hev)
   ·obtain ⟨h1,h2⟩:=replay s' hu hl
    exact Step_iff.2 (.op h1 rfl h2 (by simp only [MK.esc,applyEff,hfr s' b hf']; rfl))
  | wr j b w=>simp [Eff.isWr] at hnw
  | del j=>exact (evAppend_noDel hev).elim
  | grow j b m =>
   have hin : (s.opd x).into j = true:=evAppend_at hev rfl
   obtain ⟨q,rfl⟩ : ∃ q,j = .obj q:=by
    cases hv : s.opd x <;> rw [hv] at hoff hin <;> simp [AV.into] at hin <;> simp [AV.offStk] at hoff
    subst hin
    rename_i i _ _
    cases i with
    | stk l t=>simp [AV.offStk] at hoff
    | obj q=>exact ⟨q,rfl⟩
    | arg q =>
     exfalso
     simp only [MK.esc,applyEff,Option.map_eq_some_iff] at ha
     obtain ⟨s3,hd,_⟩:=ha
     simp [St.drop,Id.own] at hd
   simp only [MK.esc,applyEff,Option.map_eq_some_iff] at ha
   obtain ⟨s3,hd,heq⟩:=ha
   simp only [St.drop,Id.own] at hd
   split at hd
   rotate_left
   ·simp at hd
   rename_i hlets
   simp only [Option.some.injEq] at hd
   subst hd
   have hfd : ∀ s' : St,Fresh cx u s' → Fresh cx u (s'.dropM (some q)):=fun s' hf'=>⟨hf'.1,hf'.2⟩
   have e1:=hfr _ b (hfd s hf)
   simp only [St.dropM] at e1
   simp only [e1,Prod.mk.injEq] at heq
   obtain ⟨rfl,rfl⟩:=heq
   refine ⟨some q,some b,_,rfl,fun h=>by simp at h,fun m' hm'=>by simp at hm'; subst hm'; exact hin,hlive,hy,fun s' hu hl hf'=>?_⟩
   obtain ⟨h1,h2⟩:=replay s' hu hl
   refine Step_iff.2 (.op (s':=(s'.dropM (some q)).setO u b) h1 rfl h2 ?_)
   have e2:=hfr _ b (hfd s' hf')
   simp only [St.dropM] at e2
   simp only [MK.esc,applyEff,St.drop,Id.own,hlets,if_true,Option.map_some,e2,St.dropM]
theorem swap (ha : Step T n cx a s s1) (hb : Step T n cx b s1 s2) (hok : pairOk a b = true) (hL : Lows cx s) (hpa : ∀ x ∈ a.k.ops,x.plain = true) (hpb : ∀ x ∈ b.k.ops,x.plain = true)
  (hfa : ∀ u,a.site = some u → Fresh cx u s) (hfb : ∀ u,b.site = some u → Fresh cx u s) :
  ∃ t,Step T n cx b s t ∧ Step T n cx a t s2:=by
 simp only [pairOk,Bool.and_eq_true] at hok
 obtain ⟨⟨hD1,hD2⟩,hok⟩:=hok
 have h1 : ∀ t,a.d = some t → t ∉ b.uses ∧ b.d ≠ some t:=by
  intro t ht
  rw [ht] at hD1
  simpa [bne_iff_ne] using hD1
 have h2 : ∀ t,b.d = some t → t ∉ a.uses ∧ a.d ≠ some t:=by
  intro t ht
  rw [ht] at hD2
  refine ⟨by simpa using hD2,fun e=>(h1 t e).2 ht⟩
 have hsd : ∀ u,a.site = some u → b.site ≠ some u:=fun u hu hu'=>(h1 u (site_d hu)).2 (site_d hu')

 have hub : ∀ t ∈ b.uses,Slots.get s1.sl t = Slots.get s.sl t:=fun t ht=>Step_slots ha hfa fun e=>(h1 t e).1 ht
 by_cases hqa : a.k.quiet = true ∨ s.wanted a.g = some false
 ·
  obtain ⟨v,rfl,hv,hrep,hev⟩:=quiet_step ha hqa hpa
  obtain ⟨t,ht,rfl⟩:=(Step_setd (td:=a.d) (v:=v) (fun t ht=>h1 t ht) (fun u hu=>hv u (hfb u hu))).1 hb
  refine ⟨t,ht,(hrep t (fun r hr=>(Step_slots ht hfb fun e=>(h2 r e).1 hr).symm) ?_).1⟩
  rcases hev with hev | ⟨e,he⟩
  ·exact .inl hev
  ·rcases hqa with hqa | hqa
   ·refine .inr ?_
    rw [if_pos hqa] at hok
    by_cases hlk : a.k.isLook = true
    ·refine .inr (look_any ht hpa hL hfb ?_)
     simp only [hlk,Bool.not_true,Bool.false_or,Bool.or_eq_true] at hok
     rcases hok with (hok | hok) | hok
     ·exact .inl hok
     ·exact .inr (.inl hok)
     ·exact .inr (.inr (.inr ⟨hok,eye he hlk (pairLE_two hok)⟩))
    ·exact .inl ⟨hqa,by simpa using hlk⟩
   ·exact .inl hqa
 ·have hqa1 : a.k.quiet = false:=by
   cases h : a.k.quiet with
   | false=>rfl
   | true=>exact absurd (.inl h) hqa
  have hqa2 : s.wanted a.g ≠ some false:=fun h=>hqa (.inr h)
  rw [hqa1] at hok
  simp only [Bool.false_eq_true,if_false] at hok
  by_cases hqb : b.k.quiet = true ∨ s1.wanted b.g = some false
  ·
   obtain ⟨v,rfl,hv,hrep,hev⟩:=quiet_step hb hqb hpb
   have hob : ∀ x ∈ b.k.ops,s1.opd x = s.opd x:=opd_uses hub
   obtain ⟨hbs,hvs⟩:=hrep s hub (by
    rcases hev with hev | ⟨e,he⟩
    ·exact .inl hev
    ·rcases hqb with hqb | hqb
     ·refine .inr ?_
      rw [if_pos hqb] at hok
      by_cases hlk : b.k.isLook = true
      ·refine .inr fun x hx j hj=>agree_symm (look_any ha hpb hL hfa ?_ x hx j (by rw [← hob x hx]; exact hj))
       simp only [hlk,Bool.not_true,Bool.false_or,Bool.or_eq_true] at hok
       rcases hok with hok | hok
       ·exact .inr (.inl hok)
       ·obtain ⟨i,hE⟩:=eye he hlk (pairLE_two hok)
        exact .inr (.inr (.inr ⟨hok,i,hE.congr hob⟩))
      ·exact .inl ⟨hqb,by simpa using hlk⟩
     ·exact .inl hqb)
   exact ⟨_,hbs,(Step_setd (td:=b.d) (v:=v) (fun t ht=>h2 t ht) (fun u hu=>hvs u (hfa u hu))).2 ⟨s1,ha,rfl⟩⟩
  ·have hqb1 : b.k.quiet = false:=by
    cases h : b.k.quiet with
    | false=>rfl
    | true=>exact absurd (.inl h) hqb
   have hqb2 : s1.wanted b.g ≠ some false:=fun h=>hqb (.inr h)
   rw [hqb1] at hok
   simp only [Bool.false_eq_true,if_false] at hok
   have hides_ok : ∀ {e o : MOp} {u : Nat},hides e o = true → o.site = some u → (e.k.isAppend = false ∨ e.k.offOwn = true) ∧ (e.k.isCall = true → has e.k.hide u = true):=by
    intro e o u h hu
    simp only [hides,Bool.and_eq_true,Bool.not_eq_true',Bool.or_eq_true] at h
    refine ⟨h.1,fun hc=>?_⟩
    rcases h.2 with h2 | h2
    ·rw [hc] at h2; simp at h2
    ·rw [hu] at h2; exact h2
   by_cases hsa : a.isSite = true
   ·rw [if_pos hsa] at hok
    obtain ⟨u,hu,_⟩:=isSite_site hsa
    obtain ⟨hap,hh⟩:=hides_ok hok hu
    have hf:=hfa u hu
    obtain ⟨bl,v,rfl,hv,hrep⟩:=site_step ha hsa hqa2 hu hf
    obtain ⟨t2,ht2,rfl⟩:=(Step_setd (td:=some u) (v:=v) (fun t ht=>by simp at ht; subst ht; exact h1 u (site_d hu)) (fun u' hu'=>hv u' fun e=>hsd u hu (by rw [← e]; exact hu'))).1 hb
    obtain ⟨t,ht,rfl⟩:=(Step_setO hf hpb (hsd u hu) hap hh).1 ht2
    exact ⟨t,ht,hrep t (fun r hr=>(Step_slots ht hfb fun e=>(h2 r e).1 hr).symm) (Step_fresh ht hf hpb (hsd u hu) hh)⟩
   ·rw [if_neg hsa] at hok
    by_cases hsb : b.isSite = true
    ·rw [if_pos hsb] at hok
     obtain ⟨u,hu,_⟩:=isSite_site hsb
     obtain ⟨hap,hh⟩:=hides_ok hok hu
     have hf:=hfb u hu
     have hsu : a.site ≠ some u:=fun e=>hsd u e hu
     obtain ⟨bl,v,rfl,hv,hrep⟩:=site_step hb hsb hqb2 hu (Step_fresh ha hf hpa hsu hh)
     refine ⟨_,hrep s hub hf,(Step_setd (td:=some u) (v:=v) (fun t ht=>by simp at ht; subst ht; exact h2 u (site_d hu)) (fun u' hu'=>hv u' fun e=>hsu (by rw [← e]; exact hu'))).2 ⟨_,(Step_setO hf hpa hsu hap hh).2 ⟨s1,ha,rfl⟩,rfl⟩⟩
    ·rw [if_neg hsb] at hok
     obtain ⟨ad,ak,ag⟩:=a
     obtain ⟨bd,bk,bg⟩:=b
     simp only [pairAA] at hok
     split at hok
     rotate_left
     ·simp at hok
     rename_i ap ty x y ap' ty' x' y'
     simp only [Bool.and_eq_true] at hok
     simp only at hqa2 hqb2 hpa hpb hfa hfb h1 h2 hsd hub
     cases ad with
     | none=>simp at hok
     | some u =>
     cases bd with
     | none=>simp at hok
     | some u' =>
     have hfu:=hfa u rfl
     have hfu':=hfb u' rfl
     have huu : u ≠ u':=fun e=>(h1 u rfl).2 (by rw [e])
     obtain ⟨om,ob,v,rfl,a1,a2,a3,a4,arep⟩:=app_step ha hok.2.1 hqa2 hfu
     have hfs1 : Fresh cx u' (((s.dropM om).setM u ob).setd (some u) v):=Step_fresh ha hfu' hpa (fun e=>huu (by simpa [MOp.site] using e)) (fun h=>by simp [MK.isCall] at h)
     obtain ⟨om',ob',v',rfl,b1,b2,b3,b4,brep⟩:=app_step hb hok.2.2 hqb2 hfs1
     have hobx : ∀ z ∈ (MK.append false ap' ty' x' y').ops,(((s.dropM om).setM u ob).setd (some u) v).opd z = s.opd z:=opd_uses (o:=⟨some u',.append false ap' ty' x' y',bg⟩) hub
     have hx':=hobx x' (by simp [MK.ops])
     have hy':=hobx y' (by simp [MK.ops])
     have hplx':=hpb x' (by simp [MK.ops])
     have hply':=hpb y' (by simp [MK.ops])
     have hplx:=hpa x (by simp [MK.ops])
     have hply:=hpa y (by simp [MK.ops])
     have hlk1 : ∀ i,i ≠ .stk cx.lvl u → (((s.dropM om).setM u ob).setd (some u) v).look cx i = if (∃ m,om = some m ∧ i = .obj m) then none else s.look cx i:=fun i hi=>by
      rw [look_setd,look_setM hi,look_dropM]
     have hsame : ∀ i,(s.opd x').into i = true ∨ (s.opd y').into i = true → i ≠ .stk cx.lvl u ∧ ¬∃ m,om = some m ∧ i = .obj m:=by
      intro i hi
      have hne : i ≠ .stk cx.lvl u:=by
       rcases hi with h | h
       ·exact into_fresh hplx' hfu h
       ·exact into_fresh hply' hfu h
      refine ⟨hne,fun hex=>?_⟩
      have:=b3 i (by rw [hx',hy']; exact hi)
      rw [hlk1 i hne,if_pos hex] at this
      simp at this
     have hbs:=brep s hub (by
      intro i hi
      rw [hx',hy'] at hi
      obtain ⟨hne,hno⟩:=hsame i hi
      rw [hlk1 i hne,if_neg hno]) hfu'
     refine ⟨_,hbs,?_⟩
     have hua : ∀ t ∈ (MOp.mk (some u) (.append false ap ty x y) ag).uses,Slots.get s.sl t = Slots.get (((s.dropM om').setM u' ob').setd (some u') v').sl t:=fun r hr=>(Step_slots hbs hfb fun e=>(h2 r e).1 hr).symm
     have:=arep _ hua (by
      intro i hi
      have hne : i ≠ .stk cx.lvl u':=by
       rcases hi with h | h
       ·exact into_fresh hplx hfu' h
       ·exact into_fresh hply hfu' h
      rw [look_setd,look_setM hne,look_dropM,if_neg]
      rintro ⟨m,hm,rfl⟩
      rcases hi with h | h
      ·have h3:=b2 m hm
       rw [hx'] at h3
       have h4:=hsame (.obj m) (.inl h3)
       cases om with
       | none=>rw [a1 rfl] at h; simp at h
       | some q =>
        have:=into_inj h (a2 q rfl)
        exact h4.2 ⟨q,rfl,this⟩
      ·rw [a4 m] at h; simp at h) (Step_fresh hbs hfu hpb (fun e=>huu (by simpa [MOp.site] using e.symm)) (fun h=>by simp [MK.isCall] at h))
     rw [swapAA_states huu]
     exact this
end
open Go.RowKit
def mask (B : List Nat) (o : Oper) : Nat:=o.after.toList.foldr (fun e m=>if Region.binds .any e then m ||| (2 ^ e.on ||| B.getD e.on 0) else m) 0
def masks : List Oper → List Nat → List Nat
 | [],B=>B
 | o :: os,B=>masks os (B ++ [mask B o])
def MOp.dummy : MOp:=⟨none,.mov (.c .bot),none⟩
def opAt (l : List MOp) (i : Nat) : MOp:=(l[i]?).getD .dummy
def siteOk (B : List Nat) (l : List MOp) (i j : Nat) : Bool :=
 j == i || match (opAt l j).site with
  | some u=>(opAt l i).site != some u && (!(opAt l i).k.isCall || has (opAt l i).k.hide u || (decide (j < i) && (B.getD i 0).testBit j))
  | none=>true
def drawRow (B : List Nat) (n : Nat) (l : List MOp) (o : Oper) (i : Nat) : Bool :=
 B.getD i 0 == mask B o && o.after.toList.all (fun e=>!Region.binds .any e || decide (e.on < i)) && (opAt l i).k.ops.all Opd.plain &&
 (List.range i).all (fun j=>(B.getD i 0).testBit j || pairOk (opAt l j) (opAt l i)) && (List.range n).all (siteOk B l i)
def drawRows (B : List Nat) (n : Nat) (l : List MOp) : List Oper → Nat → Bool
 | [],_=>true
 | o :: os,i=>drawRow B n l o i && drawRows B n l os (i + 1)
def drawOk (ops : Array Oper) (l : List MOp) : Bool:=drawRows (masks ops.toList []) l.length l ops.toList 0
theorem drawRows_get {B : List Nat} {n : Nat} {l : List MOp} : ∀ {os : List Oper} {k : Nat},drawRows B n l os k = true → ∀ i (h : i < os.length),drawRow B n l os[i] (k + i) = true
 | [],k,_,i,h=>by simp at h
 | o :: os,k,hd,i,h=>by
  simp only [drawRows,Bool.and_eq_true] at hd
  cases i with
  | zero=>exact hd.1
  | succ i =>
   have:=drawRows_get hd.2 i (by simpa using h)
   rw [show k + (i + 1) = k + 1 + i by omega]
   exact this
theorem mask_bit {B : List Nat} {o : Oper} {j : Nat} (h : (mask B o).testBit j = true) : ∃ e ∈ o.after,Region.binds .any e = true ∧ (e.on = j ∨ (B.getD e.on 0).testBit j = true):=by
 unfold mask at h
 have key : ∀ l : List Edge,(l.foldr (fun e m=>if Region.binds .any e then m ||| (2 ^ e.on ||| B.getD e.on 0) else m) 0).testBit j = true → ∃ e ∈ l,Region.binds .any e = true ∧ (e.on = j ∨ (B.getD e.on 0).testBit j = true):=by
  intro l
  induction l with
  | nil=>intro h; simp at h
  | cons e l ih =>
   intro h
   simp only [List.foldr] at h
   split at h
   ·rename_i hb
    simp only [Nat.testBit_or,Bool.or_eq_true,Nat.testBit_two_pow,decide_eq_true_eq] at h
    rcases h with h | h
    ·obtain ⟨e',he',h'⟩:=ih h
     exact ⟨e',List.mem_cons_of_mem _ he',h'⟩
    ·exact ⟨e,List.mem_cons_self ..,hb,h⟩
   ·obtain ⟨e',he',h'⟩:=ih h
    exact ⟨e',List.mem_cons_of_mem _ he',h'⟩
 obtain ⟨e,he,h'⟩:=key _ h
 exact ⟨e,by simpa using he,h'⟩
section
variable [Fix] {φ : Nat → Option FuncId} {β : Beta} {P : Program} {O : Nat → Prop} {w w' : World} {nt n : Nat} {cx : Cx} {s s' s1 sN : St} {a : Act} {T : Nat → Option MFun} {draw : Array Oper → List MOp → Bool} {l : List MOp}
theorem step_exists {oper : Oper} {o : MOp} {ops : Array Oper} (hT : TblOk P T φ draw) (ih : ∀ m,m < n → CallSim P T φ draw m) (h : Rel φ β O nt cx s a w) (hs : Step T n cx o s s1) (hm : matchOp P φ nt ops oper o = true) :
  ∃ β' a' w',Rel φ β' O nt cx s1 a' w':=by
 have:=step_sound (K:=fun a' w'=>∃ β',Rel φ β' O nt cx s1 a' w') (Q:=fun _ _ _=>False) hT ih h hs hm fun a' w' β' hr _ _ _=>⟨β',hr⟩
 split at this
 ·unfold Oper.wp at this
  generalize (execOp a.eval oper).run P w = r at this
  cases r with
  | ok nx w1 =>
   cases nx <;> simp only [Oper.upon] at this
   case value v=>obtain ⟨β',h⟩:=this; exact ⟨β',_,_,h⟩
   case skip=>obtain ⟨β',h⟩:=this; exact ⟨β',_,_,h⟩
   case defer d=>obtain ⟨β',h⟩:=this; exact ⟨β',_,_,h⟩
   case enter f args =>
    obtain ⟨e,w2,fr,hR,_⟩:=this []
    cases e <;> simp only at hR
    ·obtain ⟨β',h⟩:=hR; exact ⟨β',_,_,h⟩
    ·obtain ⟨_,_,hR⟩:=hR; exact hR.elim
   case row rw args =>
    obtain ⟨v,w2,hR,_⟩:=this default []
    obtain ⟨β',h⟩:=hR; exact ⟨β',_,_,h⟩
  | halt x w1=>cases x <;> simp only [Oper.upon] at this
 ·obtain ⟨β',h⟩:=this; exact ⟨β',_,_,h⟩
theorem Rel.lows (h : Rel φ β O nt cx s a w) : Lows cx s:=by
 intro t i hi
 have hv:=h.slots t
 cases hg : Slots.get s.sl t <;> rw [hg] at hi hv <;> simp [AV.into] at hi
 ·subst hi
  obtain ⟨pl,o,hb,_⟩:=LR_ptr hv
  exact h.dom _ _ hb
 ·subst hi
  obtain ⟨pl,m,t',cap,hb,_⟩:=LR_sl hv
  exact h.dom _ _ hb
def Chain (T : Nat → Option MFun) (n : Nat) (cx : Cx) (l : List MOp) : List Nat → St → St → Prop
 | [],s,sN=>s = sN
 | i :: r,s,sN=>∃ s1,Step T n cx (opAt l i) s s1 ∧ Chain T n cx l r s1 sN
theorem chain_range {tr : Nat → St} (h : ∀ i (hi : i < l.length),Step T n cx l[i] (tr i) (tr (i + 1))) : ∀ d k,k + d = l.length → Chain T n cx l (List.range' k d) (tr k) (tr l.length):=by
 intro d
 induction d with
 | zero=>intro k hk; simp only [List.range'_zero,Chain]; congr
 | succ d ih =>
  intro k hk
  simp only [List.range'_succ,Chain]
  refine ⟨tr (k + 1),?_,ih (k + 1) (by omega)⟩
  have : opAt l k = l[k]'(by omega):=by simp [opAt,List.getElem?_eq_getElem (show k < l.length by omega)]
  rw [this]
  exact h k (by omega)
theorem bubble {i : Nat} {post : List Nat} {ops : Array Oper} (hT : TblOk P T φ draw) (ih : ∀ m,m < n → CallSim P T φ draw m) : ∀ {pre : List Nat} {s : St},(∃ β a w,Rel φ β O nt cx s a w) → Chain T n cx l (pre ++ i :: post) s sN →
  (∀ j ∈ pre,pairOk (opAt l j) (opAt l i) = true ∧ ∃ oper,matchOp P φ nt ops oper (opAt l j) = true) → (∀ j ∈ pre ++ [i],∀ x ∈ (opAt l j).k.ops,x.plain = true) →
  (∀ j ∈ pre ++ [i],∀ u,(opAt l j).site = some u → Fresh cx u s) →
  (pre ++ [i]).Pairwise (fun j k=>∀ u,(opAt l k).site = some u → (opAt l j).site ≠ some u ∧ ((opAt l j).k.isCall = true → has (opAt l j).k.hide u = true)) →
  ∃ s1,Step T n cx (opAt l i) s s1 ∧ Chain T n cx l (pre ++ post) s1 sN
 | [],s,_,hc,_,_,_,_=>hc
 | j :: pre,s,⟨β,a,w,hR⟩,hc,hpr,hpl,hfr,hpw=>by
  obtain ⟨t,hj,hc⟩:=hc
  obtain ⟨hok,oper,hm⟩:=hpr j (List.mem_cons_self ..)
  rw [List.cons_append,List.pairwise_cons] at hpw
  have hplj:=hpl j (by simp)
  obtain ⟨t1,ht1,hc1⟩:=bubble hT ih (pre:=pre) (step_exists hT ih hR hj hm) hc (fun k hk=>hpr k (List.mem_cons_of_mem _ hk)) (fun k hk=>hpl k (by rw [List.cons_append]; exact List.mem_cons_of_mem _ hk))
   (fun k hk u hu=>Step_fresh hj (hfr k (by rw [List.cons_append]; exact List.mem_cons_of_mem _ hk) u hu) hplj (hpw.1 k hk u hu).1 (hpw.1 k hk u hu).2) hpw.2
  obtain ⟨s1,h1,h2⟩:=swap hj ht1 hok hR.lows hplj (hpl i (by simp)) (hfr j (by simp)) (hfr i (by simp))
  exact ⟨s1,h1,t1,h2,hc1⟩
theorem getD_false {L : Array Bool} {i : Nat} (h : i < L.size) : L.getD i true = L.getD i false:=by simp [h]
theorem Rel_drawn (h : Rel φ β O nt cx s a w) : Rel φ β O nt cx s a { w with drawn:=w.drawn + 1 } :=
 ⟨h.slots,⟨fun i b hb=>by
  obtain ⟨pl,cs,Ty,fr,hB⟩:=h.mem.live i b hb
  exact ⟨pl,cs,Ty,fr,hB.place,hB.ty,hB.fits,hB.heap,hB.room,hB.size,hB.cells,hB.own⟩,h.mem.apart⟩,h.dom,h.top,h.fresh,h.defers,h.size,h.inv⟩
theorem drawSound (hT : TblOk P T φ drawOk) (hmo : P.follows .mixedOrders = true) : DrawSound P T φ drawOk:=by
 intro n id ops l β0 O nt cx tr a0 w0 ih hdr hmat hst hR0 hhead
 obtain ⟨hlen,hget⟩:=matchOps_get hmat
 have hsz : ops.size = l.length:=by simpa using hlen

 let B:=masks ops.toList []
 have hrow : ∀ i (h : i < l.length),drawRow B l.length l (ops[i]'(by omega)) i = true:=by
  intro i h
  have:=drawRows_get hdr i (by simpa using (show i < ops.size by omega))
  simpa using this
 have hat : ∀ i (h : i < l.length),opAt l i = l[i]:=by
  intro i h
  simp [opAt,List.getElem?_eq_getElem h]
 have hmatch : ∀ i (h : i < l.length),matchOp P φ nt ops (ops[i]'(by omega)) (opAt l i) = true:=by
  intro i h
  rw [hat i h]
  have:=hget i h (by simpa using (show i < ops.size by omega))
  simpa using this
 have hacyc : ∀ i (h : i < l.length),∀ e ∈ (ops[i]'(by omega)).after,Region.binds .any e = true → e.on < i:=by
  intro i h e he hb
  have:=hrow i h
  simp only [drawRow,Bool.and_eq_true,List.all_eq_true] at this
  have:=this.1.1.1.2 e (by simpa using he)
  simpa [hb] using this
 have hmask : ∀ i (h : i < l.length),B.getD i 0 = mask B (ops[i]'(by omega)):=by
  intro i h
  have:=hrow i h
  simp only [drawRow,Bool.and_eq_true,beq_iff_eq] at this
  exact this.1.1.1.1
 have hplain : ∀ i,i < l.length → ∀ x ∈ (opAt l i).k.ops,x.plain = true:=by
  intro i h x hx
  have:=hrow i h
  simp only [drawRow,Bool.and_eq_true,List.all_eq_true] at this
  exact this.1.1.2 x hx
 have hpair : ∀ i j,i < l.length → j < i → (B.getD i 0).testBit j = false → pairOk (opAt l j) (opAt l i) = true:=by
  intro i j h hj hb
  have:=hrow i h
  simp only [drawRow,Bool.and_eq_true,List.all_eq_true] at this
  have:=this.1.2 j (by simpa using hj)
  rw [hb] at this
  simpa using this
 have hsite : ∀ i j,i < l.length → j < l.length → j ≠ i → ∀ u,(opAt l j).site = some u → (opAt l i).site ≠ some u ∧ ((opAt l i).k.isCall = true → has (opAt l i).k.hide u = true ∨ (j < i ∧ (B.getD i 0).testBit j = true)):=by
  intro i j h hj hne u hu
  have:=hrow i h
  simp only [drawRow,Bool.and_eq_true,List.all_eq_true] at this
  have:=this.2 j (by simpa using hj)
  simp only [siteOk,hu,Bool.or_eq_true,beq_iff_eq,hne,false_or,Bool.and_eq_true,bne_iff_ne,Bool.not_eq_true',decide_eq_true_eq] at this
  refine ⟨this.1,fun hc=>?_⟩
  rcases this.2 with (h1 | h1) | h1
  ·rw [hc] at h1; simp at h1
  ·exact .inl h1
  ·exact .inr h1

 have hclos : ∀ (L : Array Bool),(∀ k (h : k < l.length),L.getD k false = true → ∀ e ∈ (ops[k]'(by omega)).after,Region.binds .any e = true → L.getD e.on false = true) →
   ∀ i (h : i < l.length),(∀ e ∈ (ops[i]'(by omega)).after,Region.binds .any e = true → L.getD e.on false = true) → ∀ j,(B.getD i 0).testBit j = true → L.getD j false = true:=by
  intro L hdown i
  induction i using Nat.strongRecOn with
  | _ i ihi =>
   intro h hpre j hj
   rw [hmask i h] at hj
   obtain ⟨e,he,hb,hor⟩:=mask_bit hj
   have hlt:=hacyc i h e he hb
   rcases hor with rfl | hor
   ·exact hpre e he hb
   ·exact ihi e.on hlt (by omega) (hdown e.on (by omega) (hpre e he hb)) j hor
 apply wp_region_any hmo
 have main : ∀ fuel (L : Array Bool) (rem : List Nat) (s : St) (a : Act) (w : World) (β : Beta),rem.length = fuel → L.size = l.length → Left φ O nt cx β0 (tr 0).hp.next w0 s β a w → Chain T n cx l rem s (tr l.length) →
   (∀ i,i ∈ rem ↔ i < l.length ∧ L.getD i true = false) → rem.Pairwise (· < ·) → (∀ i ∈ rem,∀ u,(opAt l i).site = some u → Fresh cx u s) →
   (∀ k (h : k < l.length),L.getD k false = true → ∀ e ∈ (ops[k]'(by omega)).after,Region.binds .any e = true → L.getD e.on false = true) →
   wpAny P .any ops (RegPost φ O nt cx β0 (tr 0).hp.next w0 (tr l.length)) fuel L a w:=by
  intro fuel
  induction fuel with
  | zero =>
   intro L rem s a w β hfu hLs hL hC hrem hsort hfr hdown
   have : rem = []:=List.eq_nil_of_length_eq_zero hfu
   subst this
   simp only [Chain] at hC
   subst hC
   refine ⟨?_,β,hL⟩
   refine List.eq_nil_iff_forall_not_mem.2 fun j hj=>?_
   obtain ⟨h1,o,ho,_⟩:=mem_ready.1 hj
   have hj' : j < l.length:=by rw [← hsz]; exact (Array.getElem?_eq_some_iff.1 ho).1
   have:=(hrem j).2 ⟨hj',h1⟩
   simp at this
  | succ fuel ihf =>
   intro L rem s a w β hfu hLs hL hC hrem hsort hfr hdown
   refine ⟨fun hnil=>?_,fun i hi=>?_⟩
   ·exfalso
    cases rem with
    | nil=>simp at hfu
    | cons i0 r =>
     have hi0:=(hrem i0).1 (List.mem_cons_self ..)
     have : i0 ∈ Region.ready .any ops L:=by
      refine mem_ready.2 ⟨hi0.2,ops[i0]'(by omega),Array.getElem?_eq_getElem _,fun e he hb=>?_⟩
      have hlt:=hacyc i0 hi0.1 e he hb
      cases hg : L.getD e.on true with
      | true=>rw [← getD_false (by omega)]; exact hg
      | false =>
       have:=(hrem e.on).2 ⟨by omega,hg⟩
       rcases List.mem_cons.1 this with h | h
       ·omega
       ·have:=(List.pairwise_cons.1 hsort).1 e.on h
        omega
     rw [hnil] at this
     simp at this
   ·obtain ⟨h1,o,ho,hpre⟩:=mem_ready.1 hi
    have hil : i < l.length:=by rw [← hsz]; exact (Array.getElem?_eq_some_iff.1 ho).1
    have hio : o = ops[i]'(by omega):=(Array.getElem?_eq_some_iff.1 ho).2.symm
    subst hio
    have hmem:=(hrem i).2 ⟨hil,h1⟩
    obtain ⟨pre,post,rfl⟩:=List.append_of_mem hmem
    have hpw:=List.pairwise_append.1 hsort
    have hprelt : ∀ j ∈ pre,j < i:=fun j hj=>hpw.2.2 j hj i (List.mem_cons_self ..)
    have hprel : ∀ j ∈ pre ++ [i],j < l.length:=by
     intro j hj
     rcases List.mem_append.1 hj with h | h
     ·exact ((hrem j).1 (List.mem_append_left _ h)).1
     ·simp at h; subst h; exact hil
    have hunl : ∀ j ∈ pre ++ i :: post,L.getD j false = false:=by
     intro j hj
     have:=(hrem j).1 hj
     rw [← getD_false (by omega)]; exact this.2
    have hbit : ∀ j ∈ pre ++ i :: post,(B.getD i 0).testBit j = false:=by
     intro j hj
     cases hb : (B.getD i 0).testBit j with
     | false=>rfl
     | true =>
      have:=hclos L hdown i hil hpre j hb
      rw [hunl j hj] at this
      simp at this
    obtain ⟨s1,hs1,hC1⟩:=bubble (φ:=φ) (O:=O) (nt:=nt) (ops:=ops) hT ih (pre:=pre) (post:=post) (i:=i) ⟨β,a,w,hL.rel⟩ hC
     (fun j hj=>⟨hpair i j hil (hprelt j hj) (hbit j (List.mem_append_left _ hj)),_,hmatch j (hprel j (List.mem_append_left _ hj))⟩)
     (fun j hj=>hplain j (hprel j hj))
     (fun j hj=>hfr j (by
      rcases List.mem_append.1 hj with h | h
      ·exact List.mem_append_left _ h
      ·simp at h; subst h; exact List.mem_append_right _ (List.mem_cons_self ..)))
     (by
      have hsrt : (pre ++ [i]).Pairwise (· < ·):=by
       refine List.pairwise_append.2 ⟨hpw.1,by simp,fun j hj k hk=>?_⟩
       simp at hk; subst hk; exact hprelt j hj
      refine hsrt.imp_of_mem fun {j k} hj hk hlt u hu=>?_
      obtain ⟨h1,h2⟩:=hsite j k (hprel j hj) (hprel k hk) (by omega) u hu
      refine ⟨h1,fun hc=>?_⟩
      rcases h2 hc with h | h
      ·exact h
      ·omega)
    have hstep:=step_sound (K:=wpAny P .any ops (RegPost φ O nt cx β0 (tr 0).hp.next w0 (tr l.length)) fuel (L.setIfInBounds i true)) (Q:=RegPost φ O nt cx β0 (tr 0).hp.next w0 (tr l.length)) (ops:=ops) hT ih hL.rel hs1 (hmatch i hil)
     fun a' w' β' hr hsame hext hn=>by
      have hset : ∀ j,j < l.length → (L.setIfInBounds i true).getD j true = if j = i then true else L.getD j true:=by
       intro j hj
       by_cases e : j = i
       ·subst e; simp [hLs,hj]
       ·rw [if_neg e]; exact getD_set_ne true (Ne.symm e)
      refine ihf (L.setIfInBounds i true) (pre ++ post) s1 a' w' β' (by simp at hfu ⊢; omega) (by simpa using hLs) (hL.step hr hsame hext hn) hC1 (fun j=>?_) (hsort.sublist ?_) (fun k hk u hu=>?_) (fun k hk hkl e he hb=>?_)
      ·constructor
       ·intro hj
        have hj' : j ∈ pre ++ i :: post:=by
         rcases List.mem_append.1 hj with h | h
         ·exact List.mem_append_left _ h
         ·exact List.mem_append_right _ (List.mem_cons_of_mem _ h)
        have hjl:=(hrem j).1 hj'
        have hne : j ≠ i:=by
         rcases List.mem_append.1 hj with h | h
         ·have:=hprelt j h; omega
         ·have:=(List.pairwise_cons.1 hpw.2.1).1 j h; omega
        rw [hset j hjl.1,if_neg hne]
        exact hjl
       ·rintro ⟨hjl,hj⟩
        rw [hset j hjl] at hj
        by_cases e : j = i
        ·rw [if_pos e] at hj; simp at hj
        ·rw [if_neg e] at hj
         have:=(hrem j).2 ⟨hjl,hj⟩
         rcases List.mem_append.1 this with h | h
         ·exact List.mem_append_left _ h
         ·rcases List.mem_cons.1 h with h | h
          ·exact absurd h e
          ·exact List.mem_append_right _ h
      ·exact List.Sublist.append (List.Sublist.refl _) (List.sublist_cons_self ..)
      ·have hk' : k ∈ pre ++ i :: post:=by
        rcases List.mem_append.1 hk with h | h
        ·exact List.mem_append_left _ h
        ·exact List.mem_append_right _ (List.mem_cons_of_mem _ h)
       have hkl:=((hrem k).1 hk').1
       have hne : k ≠ i:=by
        rcases List.mem_append.1 hk with h | h
        ·have:=hprelt k h; omega
        ·have:=(List.pairwise_cons.1 hpw.2.1).1 k h; omega
       obtain ⟨h1,h2⟩:=hsite i k hil hkl hne u hu
       refine Step_fresh hs1 (hfr k hk' u hu) (hplain i hil) h1 fun hc=>?_
       rcases h2 hc with h | ⟨_,h⟩
       ·exact h
       ·rw [hbit k hk'] at h; simp at h
      ·by_cases e' : k = i
       ·subst e'; exact getD_set_true (hpre e he hb)
       ·rw [getD_set_ne false (Ne.symm e')] at hkl
        exact getD_set_true (hdown k hk hkl e he hb)
    unfold wpOp
    rw [ho]
    simp only
    split
    ·rename_i hw; rw [if_pos (by simpa using hw)] at hstep; exact .inl (by simpa using hstep)
    ·rename_i hw; rw [if_neg (by simpa using hw)] at hstep; simpa using hstep
 have hsz' : ops.size = (List.range' 0 l.length).length:=by simp [hsz]
 have hR1:=Rel_drawn hR0
 refine main ops.size (Array.replicate ops.size false) (List.range' 0 l.length) (tr 0) a0 _ β0 (by simp [hsz]) (by simp [hsz]) ⟨hR1,⟨rfl,rfl,rfl,Nat.le_refl _,fun _ _ _=>rfl⟩,.refl,Nat.le_refl _⟩ (chain_range hst l.length 0 (by omega)) (fun i=>?_) (List.pairwise_lt_range' ..) (fun i hi u hu=>?_) (fun k hk hkl=>?_)
 ·simp only [List.mem_range'_1,Nat.zero_le,Nat.zero_add,true_and]
  constructor
  ·intro h; exact ⟨h,by simp [hsz,h]⟩
  ·exact fun h=>h.1
 ·simp only [List.mem_range'_1,Nat.zero_le,Nat.zero_add,true_and] at hi
  rw [hat i hi] at hu
  simp only [drawHead,List.all_eq_true] at hhead
  have:=hhead _ (List.getElem_mem hi)
  rw [hu] at this
  simp only [Bool.and_eq_true,Option.isNone_iff_eq_none,List.all_eq_true,Bool.not_eq_true'] at this
  exact ⟨this.1,this.2⟩
 ·rw [← getD_false (by simp [hsz,hk])] at hkl
  simp [hsz,hk] at hkl
end
open Go.RowKit
def Ty.kinds : Ty → List LK
 | .leaf k=>[k]
 | .arr n t=>(List.replicate n t.kinds).flatten
 | .unit=>[]
 | .cons a b=>a.kinds ++ b.kinds
def AV.ranged : AV → Prop
 | .int k n=>k.has n
 | .str s=>(s.size : Int) ≤ IntKind.i64.max
 | .cons a b=>a.ranged ∧ b.ranged
 | .arr _ f=>∀ i,(f i).ranged
 | _=>True
def okCell : LK → Value → Prop
 | .bool,x=>∃ b,x = .bool b
 | .int k,x=>∃ n,x = .int k n ∧ k.has n
 | .str,x=>∃ s,x = .string s ∧ (s.size : Int) ≤ IntKind.i64.max
 | _,_=>False
def kindOf : Option TypeDesc → Option LK
 | some .bool=>some .bool
 | some .string=>some .str
 | some (.int k)=>some (.int k)
 | _=>none
section
variable {φ : Nat → Option FuncId} {β : Beta} {P : Program} {T : Nat → Option MFun} {draw : Array Oper → List MOp → Bool}
theorem okCell_leaf {k : LK} {x : Value} (h : okCell k x) : ∃ v,k.fits v = true ∧ v.safe = true ∧ v.isAgg = false ∧ LR φ β v x ∧ v.ranged:=by
 cases k <;> simp only [okCell] at h
 ·obtain ⟨b,rfl⟩:=h; exact ⟨.bool b,rfl,rfl,rfl,rfl,trivial⟩
 ·obtain ⟨n,rfl,hn⟩:=h; exact ⟨.int _ n,by simp [LK.fits],rfl,rfl,rfl,hn⟩
 ·obtain ⟨s,rfl,hs⟩:=h; exact ⟨.str s,rfl,rfl,rfl,rfl,hs⟩
theorem build_arr {t : Ty} (ih : ∀ cs : List Value,All2 okCell t.kinds cs → ∃ v,t.fits v = true ∧ All2 (LR φ β) v.flat cs ∧ v.ranged) : ∀ (n : Nat) (cs : List Value),All2 okCell (List.replicate n t.kinds).flatten cs →
  ∃ l : List AV,l.length = n ∧ (∀ v ∈ l,t.fits v = true ∧ v.ranged) ∧ All2 (LR φ β) (l.flatMap AV.flat) cs
 | 0,cs,h=>by
  have:=h.1
  simp at this
  cases cs with
  | nil=>exact ⟨[],rfl,by simp,All2.nil⟩
  | cons=>simp at this
 | n + 1,cs,h=>by
  simp only [List.replicate_succ,List.flatten_cons] at h
  obtain ⟨a,b,rfl,ha,hb⟩ : ∃ a b,cs = a ++ b ∧ All2 okCell t.kinds a ∧ All2 okCell (List.replicate n t.kinds).flatten b:=by
   have h1:=h.seg 0 t.kinds.length
   have h2:=h.seg t.kinds.length cs.length
   have hl:=h.1
   rw [List.length_append] at hl
   refine ⟨cs.take t.kinds.length,cs.drop t.kinds.length,(List.take_append_drop _ _).symm,?_,?_⟩
   ·simpa using h1
   ·rw [List.drop_left,List.take_of_length_le (by omega),List.take_of_length_le (by rw [List.length_drop]; omega)] at h2
    exact h2
  obtain ⟨v,hv,hvl,hvr⟩:=ih a ha
  obtain ⟨l,hl,hlf,hll⟩:=build_arr ih n b hb
  refine ⟨v :: l,by simp [hl],fun w hw=>?_,?_⟩
  ·rcases List.mem_cons.1 hw with rfl | hw
   ·exact ⟨hv,hvr⟩
   ·exact hlf w hw
  ·simp only [List.flatMap_cons]
   exact hvl.append hll
theorem arr_flat (l : List AV) : (AV.ofList l).flat = l.flatMap AV.flat:=by
 simp only [AV.ofList,AV.flat]
 have h : (List.finRange l.length).map l.get = l:=List.ext_getElem (by simp) (by simp)
 have h2 : ((List.finRange l.length).map l.get).flatMap AV.flat = (List.finRange l.length).flatMap fun i=>(l.get i).flat:=List.flatMap_map ..
 rw [← h2,h]
theorem build : ∀ (t : Ty) (cs : List Value),All2 okCell t.kinds cs → ∃ v,t.fits v = true ∧ All2 (LR φ β) v.flat cs ∧ v.ranged
 | .leaf k,cs,h=>by
  have hl:=h.1
  simp only [Ty.kinds,List.length_singleton] at hl
  match cs,hl with
  | [x],_ =>
   obtain ⟨v,h1,h2,h3,h4,h5⟩:=okCell_leaf (φ:=φ) (β:=β) h.head
   refine ⟨v,by simp [Ty.fits,h1,h2],?_,h5⟩
   rw [(LK.fits_flat h1).1]
   exact All2.cons h4 All2.nil
 | .unit,cs,h=>by
  have hl:=h.1
  simp only [Ty.kinds,List.length_nil] at hl
  match cs,hl with
  | [],_=>exact ⟨.unit,rfl,All2.nil,trivial⟩
 | .cons a b,cs,h=>by
  simp only [Ty.kinds] at h
  have h1:=h.seg 0 a.kinds.length
  have h2:=h.seg a.kinds.length b.kinds.length
  have hl:=h.1
  simp only [List.length_append] at hl
  obtain ⟨v,hv,hvl,hvr⟩:=build a (cs.take a.kinds.length) (by simpa using h1)
  obtain ⟨w,hw,hwl,hwr⟩:=build b (cs.drop a.kinds.length) (by
   rw [List.drop_left,List.take_length] at h2
   rw [List.take_of_length_le (by simp; omega)] at h2
   exact h2)
  refine ⟨.cons v w,by simp [Ty.fits,hv,hw],?_,hvr,hwr⟩
  rw [← List.take_append_drop a.kinds.length cs]
  exact hvl.append hwl
 | .arr n t,cs,h=>by
  obtain ⟨l,hl,hlf,hll⟩:=build_arr (t:=t) (fun cs h=>build t cs h) n cs h
  subst hl
  refine ⟨.ofList l,?_,by rw [arr_flat]; exact hll,fun i=>(hlf _ (List.get_mem ..)).2⟩
  simp only [AV.ofList,Ty.fits,beq_self_eq_true,Bool.true_and,List.all_eq_true]
  exact fun i _=>(hlf _ (List.get_mem ..)).1
def Given (φ : Nat → Option FuncId) (β : Beta) (t : Ty) (v : AV) (x : Value) : Prop:=t.fits v = true ∧ v.ranged ∧ VR φ β v x
theorem cell_ok {w : World} {r : Reach} {b : Nat} {u : TypeId} {x : Value} {k : LK} (hk : kindOf (P.underlying u) = some k) (h : Cell.okWide P w r b u x) : okCell k x:=by
 unfold kindOf at hk
 unfold Cell.okWide Cell.ok at h
 split at hk <;> simp at hk <;> subst hk <;> rename_i hu <;> simp only [hu] at h
 ·cases x <;> simp at h; exact ⟨_,rfl⟩
 ·cases x <;> simp at h; exact ⟨_,rfl,h⟩
 ·cases x <;> simp at h
  obtain ⟨rfl,h⟩:=h
  exact ⟨_,rfl,h⟩
theorem given_agg {t : Ty} {U : TypeId} {ts : List TypeId} {w : World} {r : Reach} {b : Nat} {x : Value} (hts : P.cellTypes P.depth U = some ts) (hk : (ts.map fun u=>kindOf (P.underlying u)) = t.kinds.map some)
  (ha : t.isAgg = true) (hu : (∃ fs,P.underlying U = some (.struct fs)) ∨ ∃ n e,P.underlying U = some (.array n e)) (hc : P.cellsOf U = t.kinds.length) (h : Value.okWide P w r b U x) : ∃ v,Given φ β t v x:=by
 have h' : ∃ cs : Array Value,x = .agg cs ∧ cs.size = P.cellsOf U ∧ Row.okWide P w r b U cs:=by
  unfold Value.okWide at h
  rcases hu with ⟨fs,hu⟩ | ⟨n,e,hu⟩ <;> rw [hu] at h <;> exact h
 obtain ⟨cs,rfl,hsz,ts',hts',_,hrow⟩:=h'
 rw [hts] at hts'
 obtain rfl:=Option.some.inj hts'
 have hlen : ts.length = t.kinds.length:=by simpa using congrArg List.length hk
 obtain ⟨v,hf,hl,hr⟩:=build (φ:=φ) (β:=β) t cs.toList ⟨by simp [hsz,hc],fun i k y hi hy=>by
  obtain ⟨u,hu,hcell⟩:=hrow i y (by simpa using hy)
  have hi' : i < t.kinds.length:=by
   rcases Nat.lt_or_ge i t.kinds.length with h | h
   ·exact h
   ·rw [List.getElem?_eq_none h] at hi; simp at hi
  rw [Nat.mod_eq_of_lt (by omega)] at hu
  refine cell_ok (u:=u) ?_ hcell
  have:=congrArg (fun l=>l[i]?) hk
  simp only [List.getElem?_map,hu,hi,Option.map] at this
  simpa using this⟩
 refine ⟨v,hf,hr,VR_of_VR1 ?_⟩
 unfold VR1
 rw [if_pos (by rw [Ty.fits_isAgg hf]; exact ha)]
 exact ⟨Ty.fits_safe hf,cs.toList,by simp,hl⟩
@[reducible] def fixAt (W : World) : Fix:=⟨W,fun r=>r < W.heap.size⟩
theorem fixAt_I (W : World) : @Fix.I (fixAt W) (fun r=>W.heap.size ≤ r) W:=fun r hr=>⟨Nat.not_le.2 hr,hr,rfl⟩
theorem law_run {φ : Nat → Option FuncId} {fuel F f : Nat} {fn : MFun} {args : List AV} {rargs : List Value} {v : AV} {hp : HP} (hT : ∀ X : Fix,@TblOk X P T φ drawOk) (hmo : P.follows .mixedOrders = true) (hf : T f = some fn) (hF : φ f = some F) (hfree : fn.nfree = 0)
  (hrun : runFn T fuel f args HP.empty = some (v,hp)) (hlen : args.length = fn.params) (ha : All2 (VR φ (fun _=>none)) args rargs) (W : World) :
  Calls P F rargs.toArray W fun e W'=>(∃ x β',e = .returned x ∧ VR φ β' v x) ∧ Below W.heap.size W W':=by
 unfold runFn at hrun
 rw [hf] at hrun
 simp only at hrun
 cases hr : run T fuel ⟨0,⟨0,0⟩⟩ [.code fn.body] (St.enter args HP.empty) with
 | none=>simp [hr] at hrun
 | some s2 =>
  simp only [hr,Option.map_eq_some_iff] at hrun
  obtain ⟨v',hv,he⟩:=hrun
  simp at he
  obtain ⟨rfl,_⟩:=he
  have hno : ∀ i,HP.empty.look i = none:=by intro i; cases i <;> rfl
  letI : Fix:=fixAt W
  have:=callSim (hT _) (drawSound (hT _) hmo) fuel fn F (hT _ f fn F hf hF) ⟨0,⟨0,0⟩⟩ args HP.empty s2 v' (fun _=>none) (fun r=>W.heap.size ≤ r) rargs W hr hv (by simp [hlen,hfree]) ha
   ⟨fun i b hb=>by rw [hno] at hb; simp at hb,fun i j bi bj pi pj hi=>by rw [hno] at hi; simp at hi⟩ (fun i pl h=>by simp at h) (fun _ _=>rfl) (fun r h=>h) (fixAt_I W)
  refine this.mono fun e W' h=>?_
  obtain ⟨x,β',rfl,hvx,_,hA⟩:=h
  exact ⟨⟨x,β',rfl,hvx⟩,hA.same.os,hA.same.tape,hA.same.output,hA.same.size,fun k hk=>hA.same.block k hk (by omega)⟩
end
def allOk (P : Program) (φ : Nat → Option FuncId) : List (Option MFun) → Nat → Bool
 | [],_=>true
 | none :: r,i=>allOk P φ r (i + 1)
 | some fn :: r,i=>(match φ i with | some F=>matchFn P φ drawOk F fn | none=>true) && allOk P φ r (i + 1)
theorem allOk_get {P : Program} {φ : Nat → Option FuncId} : ∀ {l : List (Option MFun)} {k : Nat},allOk P φ l k = true → ∀ i fn F,l.getD i none = some fn → φ (k + i) = some F → matchFn P φ drawOk F fn = true
 | [],k,_,i,fn,F,h,_=>by simp at h
 | none :: r,k,ha,i,fn,F,h,hF=>by
  cases i with
  | zero=>simp at h
  | succ i=>exact allOk_get (l:=r) (k:=k + 1) ha i fn F (by simpa using h) (by rw [← hF]; congr 1; omega)
 | some g :: r,k,ha,i,fn,F,h,hF=>by
  simp only [allOk,Bool.and_eq_true] at ha
  cases i with
  | zero =>
   simp at h
   subst h
   have h1:=ha.1
   rw [show k = k + 0 by rfl,hF] at h1
   exact h1
  | succ i=>exact allOk_get (l:=r) (k:=k + 1) ha.2 i fn F (by simpa using h) (by rw [← hF]; congr 1; omega)
def skipL (skip : List Nat) : List (Option MFun) → Nat → List (Option MFun)
 | [],_=>[]
 | a :: r,k=>(if has skip k then none else a) :: skipL skip r (k + 1)
theorem skipL_get {skip : List Nat} : ∀ (l : List (Option MFun)) (k f : Nat),(skipL skip l k).getD f none = if has skip (k + f) then none else l.getD f none
 | [],k,f=>by simp [skipL]
 | a :: r,k,0=>by simp [skipL]
 | a :: r,k,f + 1=>by
  have:=skipL_get (skip:=skip) r (k + 1) f
  simp only [skipL,List.getD_cons_succ]
  rw [this,show k + 1 + f = k + (f + 1) by omega]
theorem tblOk_ofX [Fix] {P : Program} {φ : Nat → Option FuncId} {l : List (Option MFun)} {T : Nat → Option MFun} (skip : List Nat) (hT : ∀ f,T f = l.getD f none) (h : allOk P φ (skipL skip l 0) 0 = true)
  (hx : ∀ f fn F,has skip f = true → T f = some fn → φ f = some F → ExtOk P T φ F fn) : TblOk P T φ drawOk:=fun f fn F h1 h2=>by
 by_cases hs : has skip f = true
 ·exact .inr (hx f fn F hs h1 h2)
 ·refine .inl (allOk_get h f fn F ?_ (by simpa using h2))
  rw [skipL_get,Nat.zero_add,if_neg hs,← hT]; exact h1
def tI : Ty:=(.leaf (.int .i64))
def tB : Ty:=(.leaf (.bool))
def tS : Ty:=(.leaf (.str))
def tP : Ty:=(.leaf (.ptr))
def tU8 : Ty:=(.leaf (.int .u8))
def tParts : Ty:=(.arr 2 tI)
def tK3 : Ty:=(.arr 3 tI)
def tHeld : Ty:=(.arr 9 tI)
def tData : Ty:=(.cons tI (.cons tS .unit))
def tFiles : Ty:=(.cons tP (.cons tI .unit))
def tDatas : Ty:=(.arr 9 tData)
def tEntry : Ty:=(.cons tS (.cons tI (.cons tI .unit)))
def tLost : Ty:=(.cons tI (.cons tI (.cons tI .unit)))
def tRow : Ty:=(.arr 4 tEntry)
def tDirs : Ty:=(.arr 3 tRow)
def tInode : Ty:=(.cons tB (.cons tI (.cons tI (.cons tParts .unit))))
def tInodes : Ty:=(.arr 8 tInode)
def tLife : Ty:=(.cons tP (.cons tLost (.cons tI .unit)))
def tStep : Ty:=(.cons tI (.cons tI (.cons tI (.cons tI (.cons tS (.cons tS (.cons tS .unit)))))))
def tImage : Ty:=(.cons tInodes (.cons tDirs (.cons tDatas .unit)))
def tCache : Ty:=(.cons tImage (.cons tImage .unit))
def tBed : Ty:=(.cons tImage (.cons tImage (.cons tI (.cons tI (.cons tI (.cons tI (.cons tI .unit)))))))
namespace Fn
@[reducible] def r_Great.r0 : List MOp:=[⟨some 1,.box false tImage (.s 0),none⟩,⟨some 2,.mov (.c (.bool false)),none⟩]
@[reducible] def r_Great.r1 : List MOp:=[⟨some 3,.mov (.c (.int .i64 0)),none⟩]
@[reducible] def r_Great.r2 : List MOp:=[⟨some 4,.mov (.c (.int .i64 0)),none⟩]
@[reducible] def r_Great.r3 : List MOp:=[⟨some 7,.mov (.s 4),none⟩,⟨some 8,.bin .lss (.s 7) (.c (.int .i64 3)),none⟩]
@[reducible] def r_Great.r4 : List MOp:=[⟨some 9,.mov (.s 4),none⟩,⟨some 10,.bin .add (.s 9) (.c (.int .i64 1)),none⟩,⟨some 4,.mov (.s 10),none⟩]
@[reducible] def r_Great.r5 : List MOp:=[⟨some 5,.mov (.c (.int .i64 0)),none⟩]
@[reducible] def r_Great.r6 : List MOp:=[⟨some 11,.mov (.s 5),none⟩,⟨some 12,.bin .lss (.s 11) (.c (.int .i64 4)),none⟩]
@[reducible] def r_Great.r7 : List MOp:=[⟨some 13,.mov (.s 5),none⟩,⟨some 14,.bin .add (.s 13) (.c (.int .i64 1)),none⟩,⟨some 5,.mov (.s 14),none⟩]
@[reducible] def r_Great.r8 : List MOp:=[⟨some 15,.mov (.s 3),none⟩,⟨some 16,.mov (.s 4),none⟩,⟨some 17,.mov (.s 5),none⟩,⟨some 18,.fld tImage 1 tDirs (.s 1),none⟩,⟨some 19,.idx 3 tRow (.s 18) (.s 16),none⟩,⟨some 20,.idx 4 tEntry (.s 19) (.s 17),none⟩,⟨some 21,.fld tEntry 0 tS (.s 20),none⟩,⟨some 22,.load false none tS (.s 21),none⟩,⟨some 23,.len true (.s 22),none⟩,⟨some 24,.min (.s 23) (.c (.int .i64 10000)),none⟩,⟨some 25,.bin .add (.s 15) (.s 24),none⟩,⟨some 3,.mov (.s 25),none⟩]
@[reducible] def r_Great.r9 : List MOp:=[⟨some 6,.mov (.c (.int .i64 0)),none⟩]
@[reducible] def r_Great.r10 : List MOp:=[⟨some 26,.mov (.s 6),none⟩,⟨some 27,.bin .lss (.s 26) (.c (.int .i64 9)),none⟩]
@[reducible] def r_Great.r11 : List MOp:=[⟨some 28,.mov (.s 6),none⟩,⟨some 29,.bin .add (.s 28) (.c (.int .i64 1)),none⟩,⟨some 6,.mov (.s 29),none⟩]
@[reducible] def r_Great.r12 : List MOp:=[⟨some 30,.mov (.s 3),none⟩,⟨some 31,.mov (.s 6),none⟩,⟨some 32,.fld tImage 2 tDatas (.s 1),none⟩,⟨some 33,.idx 9 tData (.s 32) (.s 31),none⟩,⟨some 34,.fld tData 1 tS (.s 33),none⟩,⟨some 35,.load false none tS (.s 34),none⟩,⟨some 36,.len true (.s 35),none⟩,⟨some 37,.min (.s 36) (.c (.int .i64 10000)),none⟩,⟨some 38,.bin .add (.s 30) (.s 37),none⟩,⟨some 3,.mov (.s 38),none⟩]
@[reducible] def r_Great.r13 : List MOp:=[⟨some 39,.mov (.s 3),none⟩,⟨some 40,.bin .gtr (.s 39) (.c (.int .i64 3000)),none⟩,⟨some 2,.mov (.s 40),none⟩]
@[reducible] def r_Great.body : MC:=(.seq (.reg false r_Great.r0 [0,2]) (.seq (.reg false r_Great.r1 []) (.seq (.seq (.reg false r_Great.r2 []) (.block 0 (.loop [1,3,4] [1] (.seq (.seq (.reg false r_Great.r3 [7]) (.cond (.s 8) .skip (.exit 0))) (.seq (.block 1 (.seq (.reg false r_Great.r5 []) (.block 2 (.loop [1,3,4,5] [1] (.seq (.seq (.reg false r_Great.r6 [11]) (.cond (.s 12) .skip (.exit 2))) (.seq (.block 3 (.reg false r_Great.r8 [15,16,17,18,19,20,21,22,23,24,25])) (.reg false r_Great.r7 [13,14]))))))) (.reg false r_Great.r4 [9,10])))))) (.seq (.seq (.reg false r_Great.r9 []) (.block 4 (.loop [1,3,6] [1] (.seq (.seq (.reg false r_Great.r10 [26]) (.cond (.s 27) .skip (.exit 4))) (.seq (.block 5 (.reg false r_Great.r12 [30,31,32,33,34,35,36,37,38])) (.reg false r_Great.r11 [28,29])))))) (.seq (.reg false r_Great.r13 [3,39,40]) .ret)))))
@[reducible] def r_Great : MFun:={ params:=1,nfree:=0,res:=[.tmp 2],body:=r_Great.body }
@[reducible] def r_None.r0 : List MOp:=[⟨some 0,.alloc false tInode,none⟩]
@[reducible] def r_None.r1 : List MOp:=[⟨some 3,.build tInode [],none⟩,⟨some 1,.alloc false tInode,none⟩,⟨none,.store tInode [] (.s 1) (.s 3),none⟩]
@[reducible] def r_None.r2 : List MOp:=[⟨some 2,.mov (.c (.int .i64 0)),none⟩]
@[reducible] def r_None.r3 : List MOp:=[⟨some 4,.mov (.s 2),none⟩,⟨some 5,.bin .lss (.s 4) (.c (.int .i64 2)),none⟩]
@[reducible] def r_None.r4 : List MOp:=[⟨some 6,.mov (.s 2),none⟩,⟨some 7,.bin .add (.s 6) (.c (.int .i64 1)),none⟩,⟨some 2,.mov (.s 7),none⟩]
@[reducible] def r_None.r5 : List MOp:=[⟨some 8,.mov (.s 2),none⟩,⟨some 9,.fld tInode 3 tParts (.s 1),none⟩,⟨some 10,.idx 2 tI (.s 9) (.s 8),none⟩,⟨none,.store tI [] (.s 10) (.c (.int .i64 (-1))),none⟩]
@[reducible] def r_None.r6 : List MOp:=[⟨some 11,.load false none tInode (.s 1),none⟩,⟨none,.store tInode [] (.s 0) (.s 11),none⟩]
@[reducible] def r_None.body : MC:=(.seq (.reg false r_None.r0 []) (.seq (.reg false r_None.r1 [3]) (.seq (.seq (.reg false r_None.r2 []) (.block 0 (.loop [0,1,2] [0,1] (.seq (.seq (.reg false r_None.r3 [4]) (.cond (.s 5) .skip (.exit 0))) (.seq (.block 1 (.reg false r_None.r5 [8,9,10])) (.reg false r_None.r4 [6,7])))))) (.seq (.reg false r_None.r6 [1,11]) .ret))))
@[reducible] def r_None : MFun:={ params:=0,nfree:=0,res:=[.cell 0 tInode],body:=r_None.body }
@[reducible] def r_IsName.r0 : List MOp:=[⟨some 2,.mov (.c (.bool false)),none⟩]
@[reducible] def r_IsName.r1 : List MOp:=[⟨some 4,.mov (.s 0),none⟩,⟨some 5,.len true (.s 4),none⟩,⟨some 6,.bin .lss (.s 5) (.c (.int .i64 1)),none⟩,⟨some 7,.mov (.s 6),none⟩,⟨some 8,.mov (.s 0),some (7,false)⟩,⟨some 9,.len true (.s 8),some (7,false)⟩,⟨some 10,.bin .gtr (.s 9) (.c (.int .i64 6)),some (7,false)⟩,⟨some 11,.pick (.s 7) (.c (.bool true)) (.s 10),none⟩]
@[reducible] def r_IsName.r2 : List MOp:=[⟨some 2,.mov (.c (.bool false)),none⟩]
@[reducible] def r_IsName.r3 : List MOp:=[⟨some 3,.mov (.c (.int .i64 0)),none⟩]
@[reducible] def r_IsName.r4 : List MOp:=[⟨some 12,.mov (.s 3),none⟩,⟨some 13,.mov (.s 0),none⟩,⟨some 14,.len true (.s 13),none⟩,⟨some 15,.bin .lss (.s 12) (.s 14),none⟩]
@[reducible] def r_IsName.r5 : List MOp:=[⟨some 16,.mov (.s 3),none⟩,⟨some 17,.bin .add (.s 16) (.c (.int .i64 1)),none⟩,⟨some 3,.mov (.s 17),none⟩]
@[reducible] def r_IsName.r6 : List MOp:=[⟨some 18,.mov (.s 0),none⟩,⟨some 19,.mov (.s 3),none⟩,⟨some 20,.stridx (.s 18) (.s 19),none⟩,⟨some 21,.bin .lss (.s 20) (.c (.int .u8 97)),none⟩,⟨some 22,.mov (.s 21),none⟩,⟨some 23,.mov (.s 0),some (22,false)⟩,⟨some 24,.mov (.s 3),some (22,false)⟩,⟨some 25,.stridx (.s 23) (.s 24),some (22,false)⟩,⟨some 26,.bin .gtr (.s 25) (.c (.int .u8 122)),some (22,false)⟩,⟨some 27,.pick (.s 22) (.c (.bool true)) (.s 26),none⟩]
@[reducible] def r_IsName.r7 : List MOp:=[⟨some 2,.mov (.c (.bool false)),none⟩]
@[reducible] def r_IsName.r8 : List MOp:=[⟨some 2,.mov (.c (.bool true)),none⟩]
@[reducible] def r_IsName.body : MC:=(.seq (.reg false r_IsName.r0 [2]) (.seq (.seq (.reg false r_IsName.r1 [4,5,6,7,8,9,10]) (.cond (.s 11) (.seq (.reg false r_IsName.r2 []) .ret) .skip)) (.seq (.seq (.reg false r_IsName.r3 []) (.block 0 (.loop [0,3] [] (.seq (.seq (.reg false r_IsName.r4 [12,13,14]) (.cond (.s 15) .skip (.exit 0))) (.seq (.block 1 (.seq (.reg false r_IsName.r6 [18,19,20,21,22,23,24,25,26]) (.cond (.s 27) (.seq (.reg false r_IsName.r7 []) .ret) .skip))) (.reg false r_IsName.r5 [16,17])))))) (.seq (.reg false r_IsName.r8 []) .ret))))
@[reducible] def r_IsName : MFun:={ params:=1,nfree:=0,res:=[.tmp 2],body:=r_IsName.body }
@[reducible] def r_Leads.r0 : List MOp:=[⟨some 4,.mov (.c (.int .i64 0)),none⟩]
@[reducible] def r_Leads.r1 : List MOp:=[⟨some 5,.mov (.c (.int .i64 0)),none⟩]
@[reducible] def r_Leads.r2 : List MOp:=[⟨some 6,.mov (.c (.int .i64 0)),none⟩]
@[reducible] def r_Leads.r3 : List MOp:=[⟨some 8,.mov (.s 6),none⟩,⟨some 9,.bin .lss (.s 8) (.c (.int .i64 3)),none⟩]
@[reducible] def r_Leads.r4 : List MOp:=[⟨some 10,.mov (.s 6),none⟩,⟨some 11,.bin .add (.s 10) (.c (.int .i64 1)),none⟩,⟨some 6,.mov (.s 11),none⟩]
@[reducible] def r_Leads.r5 : List MOp:=[⟨some 7,.mov (.c (.int .i64 0)),none⟩]
@[reducible] def r_Leads.r6 : List MOp:=[⟨some 12,.mov (.s 7),none⟩,⟨some 13,.bin .lss (.s 12) (.c (.int .i64 4)),none⟩]
@[reducible] def r_Leads.r7 : List MOp:=[⟨some 14,.mov (.s 7),none⟩,⟨some 15,.bin .add (.s 14) (.c (.int .i64 1)),none⟩,⟨some 7,.mov (.s 15),none⟩]
@[reducible] def r_Leads.r8 : List MOp:=[⟨some 16,.mov (.s 0),none⟩,⟨some 17,.mov (.s 6),none⟩,⟨some 18,.mov (.s 7),none⟩,⟨some 19,.mov (.s 1),none⟩,⟨some 20,.call false [] 31 [(.s 16),(.s 17),(.s 18),(.s 19)],none⟩]
@[reducible] def r_Leads.r9 : List MOp:=[⟨some 21,.mov (.s 5),none⟩,⟨some 22,.bin .add (.s 21) (.c (.int .i64 1)),none⟩,⟨some 5,.mov (.s 22),none⟩]
@[reducible] def r_Leads.r10 : List MOp:=[⟨some 23,.mov (.s 5),none⟩,⟨some 4,.mov (.s 23),none⟩]
@[reducible] def r_Leads.body : MC:=(.seq (.reg false r_Leads.r0 [4]) (.seq (.reg false r_Leads.r1 []) (.seq (.seq (.reg false r_Leads.r2 []) (.block 0 (.loop [0,1,5,6] [] (.seq (.seq (.reg false r_Leads.r3 [8]) (.cond (.s 9) .skip (.exit 0))) (.seq (.block 1 (.seq (.reg false r_Leads.r5 []) (.block 2 (.loop [0,1,5,6,7] [] (.seq (.seq (.reg false r_Leads.r6 [12]) (.cond (.s 13) .skip (.exit 2))) (.seq (.block 3 (.seq (.reg false r_Leads.r8 [16,17,18,19]) (.cond (.s 20) (.reg false r_Leads.r9 [21,22]) .skip))) (.reg false r_Leads.r7 [14,15]))))))) (.reg false r_Leads.r4 [10,11])))))) (.seq (.reg false r_Leads.r10 [5,23]) .ret))))
@[reducible] def r_Leads : MFun:={ params:=2,nfree:=0,res:=[.tmp 4],body:=r_Leads.body }
@[reducible] def r_SlotOf.r0 : List MOp:=[⟨some 6,.mov (.c (.int .i64 0)),none⟩]
@[reducible] def r_SlotOf.r1 : List MOp:=[⟨some 8,.mov (.s 1),none⟩,⟨some 9,.bin .lss (.s 8) (.c (.int .i64 0)),none⟩,⟨some 10,.mov (.s 9),none⟩,⟨some 11,.mov (.s 1),some (10,false)⟩,⟨some 12,.bin .geq (.s 11) (.c (.int .i64 3)),some (10,false)⟩,⟨some 13,.pick (.s 10) (.c (.bool true)) (.s 12),none⟩,⟨some 14,.mov (.s 13),none⟩,⟨some 15,.mov (.s 2),some (14,false)⟩,⟨some 16,.bin .eql (.s 15) (.c (.str ⟨#[]⟩)),some (14,false)⟩,⟨some 17,.pick (.s 14) (.c (.bool true)) (.s 16),none⟩]
@[reducible] def r_SlotOf.r2 : List MOp:=[⟨some 6,.mov (.c (.int .i64 (-1))),none⟩]
@[reducible] def r_SlotOf.r3 : List MOp:=[⟨some 7,.mov (.c (.int .i64 0)),none⟩]
@[reducible] def r_SlotOf.r4 : List MOp:=[⟨some 18,.mov (.s 7),none⟩,⟨some 19,.bin .lss (.s 18) (.c (.int .i64 4)),none⟩]
@[reducible] def r_SlotOf.r5 : List MOp:=[⟨some 20,.mov (.s 7),none⟩,⟨some 21,.bin .add (.s 20) (.c (.int .i64 1)),none⟩,⟨some 7,.mov (.s 21),none⟩]
@[reducible] def r_SlotOf.r6 : List MOp:=[⟨some 22,.mov (.s 0),none⟩,⟨some 23,.mov (.s 1),none⟩,⟨some 24,.mov (.s 7),none⟩,⟨some 25,.nilck (.s 22),none⟩,⟨some 26,.fld tImage 1 tDirs (.s 25),none⟩,⟨some 27,.idx 3 tRow (.s 26) (.s 23),none⟩,⟨some 28,.idx 4 tEntry (.s 27) (.s 24),none⟩,⟨some 29,.fld tEntry 0 tS (.s 28),none⟩,⟨some 30,.load false none tS (.s 29),none⟩,⟨some 31,.mov (.s 2),none⟩,⟨some 32,.bin .eql (.s 30) (.s 31),none⟩]
@[reducible] def r_SlotOf.r7 : List MOp:=[⟨some 33,.mov (.s 7),none⟩,⟨some 6,.mov (.s 33),none⟩]
@[reducible] def r_SlotOf.r8 : List MOp:=[⟨some 6,.mov (.c (.int .i64 (-1))),none⟩]
@[reducible] def r_SlotOf.body : MC:=(.seq (.reg false r_SlotOf.r0 [6]) (.seq (.seq (.reg false r_SlotOf.r1 [8,9,10,11,12,13,14,15,16]) (.cond (.s 17) (.seq (.reg false r_SlotOf.r2 []) .ret) .skip)) (.seq (.seq (.reg false r_SlotOf.r3 []) (.block 0 (.loop [0,1,2,7] [] (.seq (.seq (.reg false r_SlotOf.r4 [18]) (.cond (.s 19) .skip (.exit 0))) (.seq (.block 1 (.seq (.reg false r_SlotOf.r6 [22,23,24,25,26,27,28,29,30,31]) (.cond (.s 32) (.seq (.reg false r_SlotOf.r7 [7,33]) .ret) .skip))) (.reg false r_SlotOf.r5 [20,21])))))) (.seq (.reg false r_SlotOf.r8 []) .ret))))
@[reducible] def r_SlotOf : MFun:={ params:=3,nfree:=0,res:=[.tmp 6],body:=r_SlotOf.body }
@[reducible] def r_ImageFault.r0 : List MOp:=[⟨some 2,.mov (.c (.int .i64 0)),none⟩]
@[reducible] def r_ImageFault.r1 : List MOp:=[⟨some 3,.mov (.c (.int .i64 0)),none⟩]
@[reducible] def r_ImageFault.r2 : List MOp:=[⟨some 14,.mov (.s 3),none⟩,⟨some 15,.bin .lss (.s 14) (.c (.int .i64 3)),none⟩]
@[reducible] def r_ImageFault.r3 : List MOp:=[⟨some 16,.mov (.s 3),none⟩,⟨some 17,.bin .add (.s 16) (.c (.int .i64 1)),none⟩,⟨some 3,.mov (.s 17),none⟩]
@[reducible] def r_ImageFault.r4 : List MOp:=[⟨some 4,.mov (.c (.int .i64 0)),none⟩]
@[reducible] def r_ImageFault.r5 : List MOp:=[⟨some 18,.mov (.s 4),none⟩,⟨some 19,.bin .lss (.s 18) (.c (.int .i64 4)),none⟩]
@[reducible] def r_ImageFault.r6 : List MOp:=[⟨some 20,.mov (.s 4),none⟩,⟨some 21,.bin .add (.s 20) (.c (.int .i64 1)),none⟩,⟨some 4,.mov (.s 21),none⟩]
@[reducible] def r_ImageFault.r7 : List MOp:=[⟨some 22,.mov (.s 0),none⟩,⟨some 23,.mov (.s 3),none⟩,⟨some 24,.mov (.s 4),none⟩,⟨some 25,.nilck (.s 22),none⟩,⟨some 26,.fld tImage 1 tDirs (.s 25),none⟩,⟨some 27,.idx 3 tRow (.s 26) (.s 23),none⟩,⟨some 28,.idx 4 tEntry (.s 27) (.s 24),none⟩,⟨some 29,.load false none tEntry (.s 28),none⟩,⟨some 5,.alloc false tEntry,none⟩,⟨none,.store tEntry [] (.s 5) (.s 29),none⟩]
@[reducible] def r_ImageFault.r8 : List MOp:=[⟨some 30,.fld tEntry 0 tS (.s 5),none⟩,⟨some 31,.load false none tS (.s 30),none⟩,⟨some 32,.bin .eql (.s 31) (.c (.str ⟨#[]⟩)),none⟩]
@[reducible] def r_ImageFault.r9 : List MOp:=[⟨some 33,.fld tEntry 1 tI (.s 5),none⟩,⟨some 34,.load false none tI (.s 33),none⟩,⟨some 35,.bin .neq (.s 34) (.c (.int .i64 0)),none⟩,⟨some 36,.mov (.s 35),none⟩,⟨some 37,.fld tEntry 2 tI (.s 5),some (36,false)⟩,⟨some 38,.load false none tI (.s 37),some (36,false)⟩,⟨some 39,.bin .neq (.s 38) (.c (.int .i64 0)),some (36,false)⟩,⟨some 40,.pick (.s 36) (.c (.bool true)) (.s 39),none⟩]
@[reducible] def r_ImageFault.r10 : List MOp:=[⟨some 2,.mov (.c (.int .i64 12)),none⟩]
@[reducible] def r_ImageFault.r11 : List MOp:=[⟨some 41,.fld tEntry 0 tS (.s 5),none⟩,⟨some 42,.load false none tS (.s 41),none⟩,⟨some 43,.call false [] 15 [(.s 42)],none⟩,⟨some 44,.un .not (.s 43),none⟩]
@[reducible] def r_ImageFault.r12 : List MOp:=[⟨some 2,.mov (.c (.int .i64 2)),none⟩]
@[reducible] def r_ImageFault.r13 : List MOp:=[⟨some 45,.mov (.s 0),none⟩,⟨some 46,.mov (.s 3),none⟩,⟨some 47,.fld tEntry 0 tS (.s 5),none⟩,⟨some 48,.load false none tS (.s 47),none⟩,⟨some 49,.call false [] 20 [(.s 45),(.s 46),(.s 48)],none⟩,⟨some 50,.mov (.s 4),none⟩,⟨some 51,.bin .lss (.s 49) (.s 50),none⟩]
@[reducible] def r_ImageFault.r14 : List MOp:=[⟨some 2,.mov (.c (.int .i64 4)),none⟩]
@[reducible] def r_ImageFault.r15 : List MOp:=[⟨some 52,.fld tEntry 1 tI (.s 5),none⟩,⟨some 53,.load false none tI (.s 52),none⟩,⟨some 54,.bin .lss (.s 53) (.c (.int .i64 0)),none⟩,⟨some 55,.mov (.s 54),none⟩,⟨some 56,.fld tEntry 1 tI (.s 5),some (55,false)⟩,⟨some 57,.load false none tI (.s 56),some (55,false)⟩,⟨some 58,.bin .geq (.s 57) (.c (.int .i64 8)),some (55,false)⟩,⟨some 59,.pick (.s 55) (.c (.bool true)) (.s 58),none⟩]
@[reducible] def r_ImageFault.r16 : List MOp:=[⟨some 2,.mov (.c (.int .i64 1)),none⟩]
@[reducible] def r_ImageFault.r17 : List MOp:=[⟨some 60,.mov (.s 0),none⟩,⟨some 61,.fld tEntry 1 tI (.s 5),none⟩,⟨some 62,.load false none tI (.s 61),none⟩,⟨some 63,.nilck (.s 60),none⟩,⟨some 64,.fld tImage 0 tInodes (.s 63),none⟩,⟨some 65,.idx 8 tInode (.s 64) (.s 62),none⟩,⟨some 66,.fld tInode 0 tB (.s 65),none⟩,⟨some 67,.load false none tB (.s 66),none⟩,⟨some 68,.un .not (.s 67),none⟩,⟨some 69,.mov (.s 68),none⟩,⟨some 70,.mov (.s 0),some (69,false)⟩,⟨some 71,.fld tEntry 1 tI (.s 5),some (69,false)⟩,⟨some 72,.load false none tI (.s 71),some (69,false)⟩,⟨some 73,.nilck (.s 70),some (69,false)⟩,⟨some 74,.fld tImage 0 tInodes (.s 73),some (69,false)⟩,⟨some 75,.idx 8 tInode (.s 74) (.s 72),some (69,false)⟩,⟨some 76,.fld tInode 1 tI (.s 75),some (69,false)⟩,⟨some 77,.load false none tI (.s 76),some (69,false)⟩,⟨some 78,.fld tEntry 2 tI (.s 5),some (69,false)⟩,⟨some 79,.load false none tI (.s 78),some (69,false)⟩,⟨some 80,.bin .neq (.s 77) (.s 79),some (69,false)⟩,⟨some 81,.pick (.s 69) (.c (.bool true)) (.s 80),none⟩]
@[reducible] def r_ImageFault.r18 : List MOp:=[⟨some 2,.mov (.c (.int .i64 8)),none⟩]
@[reducible] def r_ImageFault.r19 : List MOp:=[⟨some 6,.mov (.c (.int .i64 0)),none⟩]
@[reducible] def r_ImageFault.r20 : List MOp:=[⟨some 82,.mov (.s 6),none⟩,⟨some 83,.bin .lss (.s 82) (.c (.int .i64 8)),none⟩]
@[reducible] def r_ImageFault.r21 : List MOp:=[⟨some 84,.mov (.s 6),none⟩,⟨some 85,.bin .add (.s 84) (.c (.int .i64 1)),none⟩,⟨some 6,.mov (.s 85),none⟩]
@[reducible] def r_ImageFault.r22 : List MOp:=[⟨some 86,.mov (.s 0),none⟩,⟨some 87,.mov (.s 6),none⟩,⟨some 88,.nilck (.s 86),none⟩,⟨some 89,.fld tImage 0 tInodes (.s 88),none⟩,⟨some 90,.idx 8 tInode (.s 89) (.s 87),none⟩,⟨some 91,.load false none tInode (.s 90),none⟩,⟨some 7,.alloc false tInode,none⟩,⟨none,.store tInode [] (.s 7) (.s 91),none⟩]
@[reducible] def r_ImageFault.r23 : List MOp:=[⟨some 92,.fld tInode 0 tB (.s 7),none⟩,⟨some 93,.load false none tB (.s 92),none⟩,⟨some 94,.un .not (.s 93),none⟩]
@[reducible] def r_ImageFault.r24 : List MOp:=[⟨some 95,.load false none tInode (.s 7),none⟩,⟨some 96,.call true [] 13 [],none⟩,⟨some 97,.eq true tInode (.s 95) (.s 96),none⟩]
@[reducible] def r_ImageFault.r25 : List MOp:=[⟨some 2,.mov (.c (.int .i64 12)),none⟩]
@[reducible] def r_ImageFault.r26 : List MOp:=[⟨some 98,.fld tInode 1 tI (.s 7),none⟩,⟨some 99,.load false none tI (.s 98),none⟩,⟨some 100,.bin .lss (.s 99) (.c (.int .i64 1)),none⟩,⟨some 101,.mov (.s 100),none⟩,⟨some 102,.fld tInode 2 tI (.s 7),some (101,false)⟩,⟨some 103,.load false none tI (.s 102),some (101,false)⟩,⟨some 104,.mov (.s 0),some (101,false)⟩,⟨some 105,.mov (.s 6),some (101,false)⟩,⟨some 106,.call true [] 16 [(.s 104),(.s 105)],some (101,false)⟩,⟨some 107,.bin .lss (.s 103) (.s 106),some (101,false)⟩,⟨some 108,.pick (.s 101) (.c (.bool true)) (.s 107),none⟩]
@[reducible] def r_ImageFault.r27 : List MOp:=[⟨some 2,.mov (.c (.int .i64 9)),none⟩]
@[reducible] def r_ImageFault.r28 : List MOp:=[⟨some 8,.mov (.c (.int .i64 0)),none⟩]
@[reducible] def r_ImageFault.r29 : List MOp:=[⟨some 109,.mov (.s 8),none⟩,⟨some 110,.bin .lss (.s 109) (.c (.int .i64 2)),none⟩]
@[reducible] def r_ImageFault.r30 : List MOp:=[⟨some 111,.mov (.s 8),none⟩,⟨some 112,.bin .add (.s 111) (.c (.int .i64 1)),none⟩,⟨some 8,.mov (.s 112),none⟩]
@[reducible] def r_ImageFault.r31 : List MOp:=[⟨some 113,.mov (.s 8),none⟩,⟨some 114,.fld tInode 3 tParts (.s 7),none⟩,⟨some 115,.idx 2 tI (.s 114) (.s 113),none⟩,⟨some 116,.load false none tI (.s 115),none⟩,⟨some 9,.mov (.s 116),none⟩]
@[reducible] def r_ImageFault.r32 : List MOp:=[⟨some 117,.mov (.s 9),none⟩,⟨some 118,.bin .neq (.s 117) (.c (.int .i64 (-1))),none⟩,⟨some 119,.mov (.s 118),none⟩,⟨some 120,.mov (.s 9),some (119,true)⟩,⟨some 121,.bin .lss (.s 120) (.c (.int .i64 0)),some (119,true)⟩,⟨some 122,.mov (.s 121),some (119,true)⟩,⟨some 123,.mov (.s 9),some (122,false)⟩,⟨some 124,.bin .geq (.s 123) (.c (.int .i64 9)),some (122,false)⟩,⟨some 125,.pick (.s 122) (.c (.bool true)) (.s 124),some (119,true)⟩,⟨some 126,.pick (.s 119) (.s 125) (.c (.bool false)),none⟩]
@[reducible] def r_ImageFault.r33 : List MOp:=[⟨some 2,.mov (.c (.int .i64 1)),none⟩]
@[reducible] def r_ImageFault.r34 : List MOp:=[⟨some 127,.mov (.s 9),none⟩,⟨some 128,.bin .neq (.s 127) (.c (.int .i64 (-1))),none⟩,⟨some 129,.mov (.s 128),none⟩,⟨some 130,.mov (.s 0),some (129,true)⟩,⟨some 131,.mov (.s 9),some (129,true)⟩,⟨some 132,.nilck (.s 130),some (129,true)⟩,⟨some 133,.fld tImage 2 tDatas (.s 132),some (129,true)⟩,⟨some 134,.idx 9 tData (.s 133) (.s 131),some (129,true)⟩,⟨some 135,.fld tData 0 tI (.s 134),some (129,true)⟩,⟨some 136,.load false none tI (.s 135),some (129,true)⟩,⟨some 137,.fld tInode 1 tI (.s 7),some (129,true)⟩,⟨some 138,.load false none tI (.s 137),some (129,true)⟩,⟨some 139,.bin .neq (.s 136) (.s 138),some (129,true)⟩,⟨some 140,.pick (.s 129) (.s 139) (.c (.bool false)),none⟩]
@[reducible] def r_ImageFault.r35 : List MOp:=[⟨some 2,.mov (.c (.int .i64 10)),none⟩]
@[reducible] def r_ImageFault.r36 : List MOp:=[⟨some 10,.mov (.c (.int .i64 0)),none⟩]
@[reducible] def r_ImageFault.r37 : List MOp:=[⟨some 141,.mov (.s 10),none⟩,⟨some 142,.bin .lss (.s 141) (.c (.int .i64 8)),none⟩]
@[reducible] def r_ImageFault.r38 : List MOp:=[⟨some 143,.mov (.s 10),none⟩,⟨some 144,.bin .add (.s 143) (.c (.int .i64 1)),none⟩,⟨some 10,.mov (.s 144),none⟩]
@[reducible] def r_ImageFault.r39 : List MOp:=[⟨some 11,.mov (.c (.int .i64 0)),none⟩]
@[reducible] def r_ImageFault.r40 : List MOp:=[⟨some 145,.mov (.s 11),none⟩,⟨some 146,.bin .lss (.s 145) (.c (.int .i64 8)),none⟩]
@[reducible] def r_ImageFault.r41 : List MOp:=[⟨some 147,.mov (.s 11),none⟩,⟨some 148,.bin .add (.s 147) (.c (.int .i64 1)),none⟩,⟨some 11,.mov (.s 148),none⟩]
@[reducible] def r_ImageFault.r42 : List MOp:=[⟨some 149,.mov (.s 0),none⟩,⟨some 150,.mov (.s 10),none⟩,⟨some 151,.nilck (.s 149),none⟩,⟨some 152,.fld tImage 0 tInodes (.s 151),none⟩,⟨some 153,.idx 8 tInode (.s 152) (.s 150),none⟩,⟨some 154,.fld tInode 0 tB (.s 153),none⟩,⟨some 155,.load false none tB (.s 154),none⟩,⟨some 156,.un .not (.s 155),none⟩,⟨some 157,.mov (.s 156),none⟩,⟨some 158,.mov (.s 0),some (157,false)⟩,⟨some 159,.mov (.s 11),some (157,false)⟩,⟨some 160,.nilck (.s 158),some (157,false)⟩,⟨some 161,.fld tImage 0 tInodes (.s 160),some (157,false)⟩,⟨some 162,.idx 8 tInode (.s 161) (.s 159),some (157,false)⟩,⟨some 163,.fld tInode 0 tB (.s 162),some (157,false)⟩,⟨some 164,.load false none tB (.s 163),some (157,false)⟩,⟨some 165,.un .not (.s 164),some (157,false)⟩,⟨some 166,.pick (.s 157) (.c (.bool true)) (.s 165),none⟩]
@[reducible] def r_ImageFault.r43 : List MOp:=[⟨some 167,.mov (.s 10),none⟩,⟨some 168,.mov (.s 11),none⟩,⟨some 169,.bin .neq (.s 167) (.s 168),none⟩,⟨some 170,.mov (.s 169),none⟩,⟨some 171,.mov (.s 0),some (170,true)⟩,⟨some 172,.mov (.s 10),some (170,true)⟩,⟨some 173,.nilck (.s 171),some (170,true)⟩,⟨some 174,.fld tImage 0 tInodes (.s 173),some (170,true)⟩,⟨some 175,.idx 8 tInode (.s 174) (.s 172),some (170,true)⟩,⟨some 176,.fld tInode 1 tI (.s 175),some (170,true)⟩,⟨some 177,.load false none tI (.s 176),some (170,true)⟩,⟨some 178,.mov (.s 0),some (170,true)⟩,⟨some 179,.mov (.s 11),some (170,true)⟩,⟨some 180,.nilck (.s 178),some (170,true)⟩,⟨some 181,.fld tImage 0 tInodes (.s 180),some (170,true)⟩,⟨some 182,.idx 8 tInode (.s 181) (.s 179),some (170,true)⟩,⟨some 183,.fld tInode 1 tI (.s 182),some (170,true)⟩,⟨some 184,.load false none tI (.s 183),some (170,true)⟩,⟨some 185,.bin .eql (.s 177) (.s 184),some (170,true)⟩,⟨some 186,.pick (.s 170) (.s 185) (.c (.bool false)),none⟩]
@[reducible] def r_ImageFault.r44 : List MOp:=[⟨some 2,.mov (.c (.int .i64 11)),none⟩]
@[reducible] def r_ImageFault.r45 : List MOp:=[⟨some 12,.mov (.c (.int .i64 0)),none⟩]
@[reducible] def r_ImageFault.r46 : List MOp:=[⟨some 187,.mov (.s 12),none⟩,⟨some 188,.bin .lss (.s 187) (.c (.int .i64 2)),none⟩]
@[reducible] def r_ImageFault.r47 : List MOp:=[⟨some 189,.mov (.s 12),none⟩,⟨some 190,.bin .add (.s 189) (.c (.int .i64 1)),none⟩,⟨some 12,.mov (.s 190),none⟩]
@[reducible] def r_ImageFault.r48 : List MOp:=[⟨some 13,.mov (.c (.int .i64 0)),none⟩]
@[reducible] def r_ImageFault.r49 : List MOp:=[⟨some 191,.mov (.s 13),none⟩,⟨some 192,.bin .lss (.s 191) (.c (.int .i64 2)),none⟩]
@[reducible] def r_ImageFault.r50 : List MOp:=[⟨some 193,.mov (.s 13),none⟩,⟨some 194,.bin .add (.s 193) (.c (.int .i64 1)),none⟩,⟨some 13,.mov (.s 194),none⟩]
@[reducible] def r_ImageFault.r51 : List MOp:=[⟨some 195,.mov (.s 10),none⟩,⟨some 196,.mov (.s 11),none⟩,⟨some 197,.bin .neq (.s 195) (.s 196),none⟩,⟨some 198,.mov (.s 197),none⟩,⟨some 199,.mov (.s 12),some (198,false)⟩,⟨some 200,.mov (.s 13),some (198,false)⟩,⟨some 201,.bin .neq (.s 199) (.s 200),some (198,false)⟩,⟨some 202,.pick (.s 198) (.c (.bool true)) (.s 201),none⟩,⟨some 203,.mov (.s 202),none⟩,⟨some 204,.mov (.s 0),some (203,true)⟩,⟨some 205,.mov (.s 10),some (203,true)⟩,⟨some 206,.mov (.s 12),some (203,true)⟩,⟨some 207,.nilck (.s 204),some (203,true)⟩,⟨some 208,.fld tImage 0 tInodes (.s 207),some (203,true)⟩,⟨some 209,.idx 8 tInode (.s 208) (.s 205),some (203,true)⟩,⟨some 210,.fld tInode 3 tParts (.s 209),some (203,true)⟩,⟨some 211,.idx 2 tI (.s 210) (.s 206),some (203,true)⟩,⟨some 212,.load false none tI (.s 211),some (203,true)⟩,⟨some 213,.bin .geq (.s 212) (.c (.int .i64 0)),some (203,true)⟩,⟨some 214,.pick (.s 203) (.s 213) (.c (.bool false)),none⟩,⟨some 215,.mov (.s 214),none⟩,⟨some 216,.mov (.s 0),some (215,true)⟩,⟨some 217,.mov (.s 10),some (215,true)⟩,⟨some 218,.mov (.s 12),some (215,true)⟩,⟨some 219,.nilck (.s 216),some (215,true)⟩,⟨some 220,.fld tImage 0 tInodes (.s 219),some (215,true)⟩,⟨some 221,.idx 8 tInode (.s 220) (.s 217),some (215,true)⟩,⟨some 222,.fld tInode 3 tParts (.s 221),some (215,true)⟩,⟨some 223,.idx 2 tI (.s 222) (.s 218),some (215,true)⟩,⟨some 224,.load false none tI (.s 223),some (215,true)⟩,⟨some 225,.mov (.s 0),some (215,true)⟩,⟨some 226,.mov (.s 11),some (215,true)⟩,⟨some 227,.mov (.s 13),some (215,true)⟩,⟨some 228,.nilck (.s 225),some (215,true)⟩,⟨some 229,.fld tImage 0 tInodes (.s 228),some (215,true)⟩,⟨some 230,.idx 8 tInode (.s 229) (.s 226),some (215,true)⟩,⟨some 231,.fld tInode 3 tParts (.s 230),some (215,true)⟩,⟨some 232,.idx 2 tI (.s 231) (.s 227),some (215,true)⟩,⟨some 233,.load false none tI (.s 232),some (215,true)⟩,⟨some 234,.bin .eql (.s 224) (.s 233),some (215,true)⟩,⟨some 235,.pick (.s 215) (.s 234) (.c (.bool false)),none⟩]
@[reducible] def r_ImageFault.r52 : List MOp:=[⟨some 2,.mov (.c (.int .i64 11)),none⟩]
@[reducible] def r_ImageFault.r53 : List MOp:=[⟨some 2,.mov (.c (.int .i64 0)),none⟩]
@[reducible] def r_ImageFault.body : MC:=(.seq (.reg false r_ImageFault.r0 [2]) (.seq (.seq (.reg false r_ImageFault.r1 []) (.block 0 (.loop [0,3] [] (.seq (.seq (.reg false r_ImageFault.r2 [14]) (.cond (.s 15) .skip (.exit 0))) (.seq (.block 1 (.seq (.reg false r_ImageFault.r4 []) (.block 2 (.loop [0,3,4] [] (.seq (.seq (.reg false r_ImageFault.r5 [18]) (.cond (.s 19) .skip (.exit 2))) (.seq (.block 3 (.seq (.reg false r_ImageFault.r7 [22,23,24,25,26,27,28,29]) (.seq (.seq (.reg false r_ImageFault.r8 [30,31]) (.cond (.s 32) (.seq (.seq (.reg false r_ImageFault.r9 [5,33,34,35,36,37,38,39]) (.cond (.s 40) (.seq (.reg false r_ImageFault.r10 []) .ret) .skip)) (.exit 3)) .skip)) (.seq (.seq (.reg false r_ImageFault.r11 [41,42,43]) (.cond (.s 44) (.seq (.reg false r_ImageFault.r12 []) .ret) .skip)) (.seq (.seq (.reg false r_ImageFault.r13 [45,46,47,48,49,50]) (.cond (.s 51) (.seq (.reg false r_ImageFault.r14 []) .ret) .skip)) (.seq (.seq (.reg false r_ImageFault.r15 [52,53,54,55,56,57,58]) (.cond (.s 59) (.seq (.reg false r_ImageFault.r16 []) .ret) .skip)) (.seq (.reg true r_ImageFault.r17 [5,60,61,62,63,64,65,66,67,68,69,70,71,72,73,74,75,76,77,78,79,80]) (.cond (.s 81) (.seq (.reg false r_ImageFault.r18 []) .ret) .skip)))))))) (.reg false r_ImageFault.r6 [20,21]))))))) (.reg false r_ImageFault.r3 [16,17])))))) (.seq (.seq (.reg false r_ImageFault.r19 []) (.block 4 (.loop [0,6] [] (.seq (.seq (.reg false r_ImageFault.r20 [82]) (.cond (.s 83) .skip (.exit 4))) (.seq (.block 5 (.seq (.reg false r_ImageFault.r22 [86,87,88,89,90,91]) (.seq (.seq (.reg false r_ImageFault.r23 [92,93]) (.cond (.s 94) (.seq (.seq (.reg true r_ImageFault.r24 [7,95,96]) (.cond (.s 97) (.seq (.reg false r_ImageFault.r25 []) .ret) .skip)) (.exit 5)) .skip)) (.seq (.seq (.reg true r_ImageFault.r26 [98,99,100,101,102,103,104,105,106,107]) (.cond (.s 108) (.seq (.reg false r_ImageFault.r27 []) .ret) .skip)) (.seq (.reg false r_ImageFault.r28 []) (.block 6 (.loop [0,6,7,8] [7] (.seq (.seq (.reg false r_ImageFault.r29 [109]) (.cond (.s 110) .skip (.exit 6))) (.seq (.block 7 (.seq (.reg false r_ImageFault.r31 [113,114,115,116]) (.seq (.seq (.reg false r_ImageFault.r32 [117,118,119,120,121,122,123,124,125]) (.cond (.s 126) (.seq (.reg false r_ImageFault.r33 []) .ret) .skip)) (.seq (.reg true r_ImageFault.r34 [9,127,128,129,130,131,132,133,134,135,136,137,138,139]) (.cond (.s 140) (.seq (.reg false r_ImageFault.r35 []) .ret) .skip))))) (.reg false r_ImageFault.r30 [111,112])))))))))) (.reg false r_ImageFault.r21 [84,85])))))) (.seq (.seq (.reg false r_ImageFault.r36 []) (.block 8 (.loop [0,10] [] (.seq (.seq (.reg false r_ImageFault.r37 [141]) (.cond (.s 142) .skip (.exit 8))) (.seq (.block 9 (.seq (.reg false r_ImageFault.r39 []) (.block 10 (.loop [0,10,11] [] (.seq (.seq (.reg false r_ImageFault.r40 [145]) (.cond (.s 146) .skip (.exit 10))) (.seq (.block 11 (.seq (.seq (.reg false r_ImageFault.r42 [149,150,151,152,153,154,155,156,157,158,159,160,161,162,163,164,165]) (.cond (.s 166) (.exit 11) .skip)) (.seq (.seq (.reg true r_ImageFault.r43 [167,168,169,170,171,172,173,174,175,176,177,178,179,180,181,182,183,184,185]) (.cond (.s 186) (.seq (.reg false r_ImageFault.r44 []) .ret) .skip)) (.seq (.reg false r_ImageFault.r45 []) (.block 12 (.loop [0,10,11,12] [] (.seq (.seq (.reg false r_ImageFault.r46 [187]) (.cond (.s 188) .skip (.exit 12))) (.seq (.block 13 (.seq (.reg false r_ImageFault.r48 []) (.block 14 (.loop [0,10,11,12,13] [] (.seq (.seq (.reg false r_ImageFault.r49 [191]) (.cond (.s 192) .skip (.exit 14))) (.seq (.block 15 (.seq (.reg true r_ImageFault.r51 [195,196,197,198,199,200,201,202,203,204,205,206,207,208,209,210,211,212,213,214,215,216,217,218,219,220,221,222,223,224,225,226,227,228,229,230,231,232,233,234]) (.cond (.s 235) (.seq (.reg false r_ImageFault.r52 []) .ret) .skip))) (.reg false r_ImageFault.r50 [193,194]))))))) (.reg false r_ImageFault.r47 [189,190]))))))))) (.reg false r_ImageFault.r41 [147,148]))))))) (.reg false r_ImageFault.r38 [143,144])))))) (.seq (.reg false r_ImageFault.r53 []) .ret)))))
@[reducible] def r_ImageFault : MFun:={ params:=1,nfree:=0,res:=[.tmp 2],body:=r_ImageFault.body }
@[reducible] def w_one.r0 : List MOp:=[⟨some 0,.alloc false tImage,none⟩]
@[reducible] def w_one.r1 : List MOp:=[⟨some 2,.call false [] 30 [],none⟩,⟨some 1,.alloc false tImage,none⟩,⟨none,.store tImage [] (.s 1) (.s 2),none⟩]
@[reducible] def w_one.r2 : List MOp:=[⟨some 3,.fld tImage 0 tInodes (.s 1),none⟩,⟨some 4,.idx 8 tInode (.s 3) (.c (.int .i64 2)),none⟩,⟨some 5,.fld tInode 0 tB (.s 4),none⟩,⟨none,.store tB [] (.s 5) (.c (.bool true)),none⟩,⟨some 6,.fld tImage 0 tInodes (.s 1),none⟩,⟨some 7,.idx 8 tInode (.s 6) (.c (.int .i64 2)),none⟩,⟨some 8,.fld tInode 1 tI (.s 7),none⟩,⟨none,.store tI [] (.s 8) (.c (.int .i64 5)),none⟩,⟨some 9,.fld tImage 0 tInodes (.s 1),none⟩,⟨some 10,.idx 8 tInode (.s 9) (.c (.int .i64 2)),none⟩,⟨some 11,.fld tInode 2 tI (.s 10),none⟩,⟨none,.store tI [] (.s 11) (.c (.int .i64 1)),none⟩]
@[reducible] def w_one.r3 : List MOp:=[⟨some 12,.fld tImage 0 tInodes (.s 1),none⟩,⟨some 13,.idx 8 tInode (.s 12) (.c (.int .i64 2)),none⟩,⟨some 14,.fld tInode 3 tParts (.s 13),none⟩,⟨some 15,.idx 2 tI (.s 14) (.c (.int .i64 1)),none⟩,⟨none,.store tI [] (.s 15) (.c (.int .i64 3)),none⟩]
@[reducible] def w_one.r4 : List MOp:=[⟨some 16,.build tData [(0,(.c (.int .i64 5))),(1,(.c (.str ⟨#[120]⟩)))],none⟩,⟨some 17,.fld tImage 2 tDatas (.s 1),none⟩,⟨some 18,.idx 9 tData (.s 17) (.c (.int .i64 3)),none⟩,⟨none,.store tData [] (.s 18) (.s 16),none⟩]
@[reducible] def w_one.r5 : List MOp:=[⟨some 19,.build tEntry [(0,(.c (.str ⟨#[97]⟩))),(1,(.c (.int .i64 2))),(2,(.c (.int .i64 5)))],none⟩,⟨some 20,.fld tImage 1 tDirs (.s 1),none⟩,⟨some 21,.idx 3 tRow (.s 20) (.c (.int .i64 1)),none⟩,⟨some 22,.idx 4 tEntry (.s 21) (.c (.int .i64 2)),none⟩,⟨none,.store tEntry [] (.s 22) (.s 19),none⟩]
@[reducible] def w_one.r6 : List MOp:=[⟨some 23,.load false none tImage (.s 1),none⟩,⟨none,.store tImage [] (.s 0) (.s 23),none⟩]
@[reducible] def w_one.body : MC:=(.seq (.reg false w_one.r0 []) (.seq (.reg false w_one.r1 [2]) (.seq (.reg false w_one.r2 [3,4,5,6,7,8,9,10,11]) (.seq (.reg false w_one.r3 [12,13,14,15]) (.seq (.reg false w_one.r4 [16,17,18]) (.seq (.reg false w_one.r5 [19,20,21,22]) (.seq (.reg false w_one.r6 [1,23]) .ret)))))))
@[reducible] def w_one : MFun:={ params:=0,nfree:=0,res:=[.cell 0 tImage],body:=w_one.body }
@[reducible] def r_Blank.r0 : List MOp:=[⟨some 0,.alloc false tImage,none⟩]
@[reducible] def r_Blank.r1 : List MOp:=[⟨some 3,.build tImage [],none⟩,⟨some 1,.alloc false tImage,none⟩,⟨none,.store tImage [] (.s 1) (.s 3),none⟩]
@[reducible] def r_Blank.r2 : List MOp:=[⟨some 2,.mov (.c (.int .i64 0)),none⟩]
@[reducible] def r_Blank.r3 : List MOp:=[⟨some 4,.mov (.s 2),none⟩,⟨some 5,.bin .lss (.s 4) (.c (.int .i64 8)),none⟩]
@[reducible] def r_Blank.r4 : List MOp:=[⟨some 6,.mov (.s 2),none⟩,⟨some 7,.bin .add (.s 6) (.c (.int .i64 1)),none⟩,⟨some 2,.mov (.s 7),none⟩]
@[reducible] def r_Blank.r5 : List MOp:=[⟨some 8,.mov (.s 2),none⟩,⟨some 9,.call false [] 13 [],none⟩,⟨some 10,.fld tImage 0 tInodes (.s 1),none⟩,⟨some 11,.idx 8 tInode (.s 10) (.s 8),none⟩,⟨none,.store tInode [] (.s 11) (.s 9),none⟩]
@[reducible] def r_Blank.r6 : List MOp:=[⟨some 12,.load false none tImage (.s 1),none⟩,⟨none,.store tImage [] (.s 0) (.s 12),none⟩]
@[reducible] def r_Blank.body : MC:=(.seq (.reg false r_Blank.r0 []) (.seq (.reg false r_Blank.r1 [3]) (.seq (.seq (.reg false r_Blank.r2 []) (.block 0 (.loop [0,1,2] [0,1] (.seq (.seq (.reg false r_Blank.r3 [4]) (.cond (.s 5) .skip (.exit 0))) (.seq (.block 1 (.reg false r_Blank.r5 [8,9,10,11])) (.reg false r_Blank.r4 [6,7])))))) (.seq (.reg false r_Blank.r6 [1,12]) .ret))))
@[reducible] def r_Blank : MFun:={ params:=0,nfree:=0,res:=[.cell 0 tImage],body:=r_Blank.body }
@[reducible] def r_leads.r0 : List MOp:=[⟨some 8,.mov (.c (.bool false)),none⟩]
@[reducible] def r_leads.r1 : List MOp:=[⟨some 9,.mov (.s 0),none⟩,⟨some 10,.mov (.s 1),none⟩,⟨some 11,.mov (.s 2),none⟩,⟨some 12,.nilck (.s 9),none⟩,⟨some 13,.fld tImage 1 tDirs (.s 12),none⟩,⟨some 14,.idx 3 tRow (.s 13) (.s 10),none⟩,⟨some 15,.idx 4 tEntry (.s 14) (.s 11),none⟩,⟨some 16,.fld tEntry 0 tS (.s 15),none⟩,⟨some 17,.load false none tS (.s 16),none⟩,⟨some 18,.bin .neq (.s 17) (.c (.str ⟨#[]⟩)),none⟩,⟨some 19,.mov (.s 18),none⟩,⟨some 20,.mov (.s 0),some (19,true)⟩,⟨some 21,.mov (.s 1),some (19,true)⟩,⟨some 22,.mov (.s 2),some (19,true)⟩,⟨some 23,.nilck (.s 20),some (19,true)⟩,⟨some 24,.fld tImage 1 tDirs (.s 23),some (19,true)⟩,⟨some 25,.idx 3 tRow (.s 24) (.s 21),some (19,true)⟩,⟨some 26,.idx 4 tEntry (.s 25) (.s 22),some (19,true)⟩,⟨some 27,.fld tEntry 1 tI (.s 26),some (19,true)⟩,⟨some 28,.load false none tI (.s 27),some (19,true)⟩,⟨some 29,.mov (.s 3),some (19,true)⟩,⟨some 30,.bin .eql (.s 28) (.s 29),some (19,true)⟩,⟨some 31,.pick (.s 19) (.s 30) (.c (.bool false)),none⟩,⟨some 8,.mov (.s 31),none⟩]
@[reducible] def r_leads.body : MC:=(.seq (.reg false r_leads.r0 [8]) (.seq (.reg false r_leads.r1 [0,1,2,3,9,10,11,12,13,14,15,16,17,18,19,20,21,22,23,24,25,26,27,28,29,30,31]) .ret))
@[reducible] def r_leads : MFun:={ params:=4,nfree:=0,res:=[.tmp 8],body:=r_leads.body }
end Fn
def tblL : List (Option MFun):=[none,none,none,none,none,none,none,none,none,none,some Fn.r_Great,none,none,some Fn.r_None,none,some Fn.r_IsName,some Fn.r_Leads,none,none,none,some Fn.r_SlotOf,none,some Fn.r_ImageFault,none,none,none,none,none,none,some Fn.w_one,some Fn.r_Blank,some Fn.r_leads,none,none,none,none,none,none,none,none,none,none,none,none,none,none,none,none,none,none,none,none,none,none,none,none,none,none,none,none,none,none,none,none,none,none,none,none,none,none,none,none,none,none,none,none,none,none,none,none,none,none,none,none,none,none,none,none,none,none,none,none,none,none,none,none,none,none,none,none,none,none,none,none,none,none,none,none,none,none,none,none,none,none,none,none,none,none,none,none,none,none,none,none,none,none,none,none,none,none,none,none,none,none,none,none,none,none,none,none,none,none,none,none,none,none,none,none,none,none,none,none,none,none,none,none,none,none,none,none,none,none,none,none,none,none,none,none,none,none,none,none,none,none,none,none,none,none,none,none,none,none,none,none,none,none,none,none,none,none,none]
def tbl (f : Nat) : Option MFun:=tblL.getD f none
def onO {α : Type} (o : Option α) (f : α → Prop) : Prop:=match o with | some a=>f a | none=>False
@[go_sem] theorem onO_some {α : Type} (a : α) (f : α → Prop) : onO (some a) f = f a:=rfl
@[go_sem] theorem onO_none {α : Type} (f : α → Prop) : onO none f = False:=rfl
section
variable {T : Nat → Option MFun} {cx : Cx} {k : List Item} {kill : List Nat} {r : List MOp} {sl : Slots} {own : Own} {h : HP} {Q : St → Prop}
def W1 (T : Nat → Option MFun) (cx : Cx) (o : Option AV) (d : Option Nat) (r : List MOp) (kill : List Nat) (k : List Item) (s : St) (Q : St → Prop) : Prop:=onO o fun v=>W T cx (.ops r kill :: k) (s.setd d v) Q
@[go_sem] theorem W1_some {v : AV} {d : Option Nat} {s : St} : W1 T cx (some v) d r kill k s Q = W T cx (.ops r kill :: k) (s.setd d v) Q:=rfl
@[go_sem] theorem W1_none {d : Option Nat} {s : St} : W1 T cx none d r kill k s Q = False:=rfl
def W2 (T : Nat → Option MFun) (cx : Cx) (o : Option St) (r : List MOp) (kill : List Nat) (k : List Item) (Q : St → Prop) : Prop:=onO o fun s'=>W T cx (.ops r kill :: k) s' Q
@[go_sem] theorem W2_some {s : St} : W2 T cx (some s) r kill k Q = W T cx (.ops r kill :: k) s Q:=rfl
@[go_sem] theorem W2_none : W2 T cx none r kill k Q = False:=rfl
def WX (T : Nat → Option MFun) (cx : Cx) (o : Option (List Item)) (s : St) (Q : St → Prop) : Prop:=onO o fun k'=>W T cx k' s Q
@[go_sem] theorem WX_some {s : St} : WX T cx (some k) s Q = W T cx k s Q:=rfl
@[go_sem] theorem WX_none {s : St} : WX T cx none s Q = False:=rfl
theorem W_iff {s s1 : St} {k k1 : List Item} (hn : next T cx k s = .go k1 s1) : W T cx k s Q = W T cx k1 s1 Q:=by
 apply propext
 constructor
 ·rintro ⟨n,s',hr,hq⟩
  cases n with
  | zero=>simp [run] at hr
  | succ n=>rw [run,hn] at hr; exact ⟨n,s',hr,hq⟩
 ·exact W_go hn
theorem W_fail {s : St} {k : List Item} (hn : next T cx k s = .fail) : W T cx k s Q = False:=by
 apply propext
 constructor
 ·rintro ⟨n,s',hr,hq⟩
  cases n with
  | zero=>simp [run] at hr
  | succ n=>rw [run,hn] at hr; simp at hr
 ·exact False.elim
theorem W_iff_done {s s1 : St} {k : List Item} (hn : next T cx k s = .done s1) : W T cx k s Q = Q s1:=by
 apply propext
 constructor
 ·rintro ⟨n,s',hr,hq⟩
  cases n with
  | zero=>simp [run] at hr
  | succ n=>rw [run,hn] at hr; simp at hr; subst hr; exact hq
 ·exact W_done hn
@[go_sem] theorem W_nil {s : St} : W T cx [] s Q = Q s:=W_iff_done rfl
@[go_sem] theorem W_inBlock {i : Nat} {s : St} : W T cx (.inBlock i :: k) s Q = W T cx k s Q:=W_iff rfl
@[go_sem] theorem W_skip {s : St} : W T cx (.code .skip :: k) s Q = W T cx k s Q:=W_iff rfl
@[go_sem] theorem W_seq {a b : MC} {s : St} : W T cx (.code (.seq a b) :: k) s Q = W T cx (.code a :: .code b :: k) s Q:=W_iff rfl
@[go_sem] theorem W_block {i : Nat} {b : MC} {s : St} : W T cx (.code (.block i b) :: k) s Q = W T cx (.code b :: .inBlock i :: k) s Q:=W_iff rfl
@[go_sem] theorem W_ret {s : St} : W T cx (.code .ret :: k) s Q = Q s:=W_iff_done rfl
@[go_sem] theorem W_regF {ops : List MOp} {s : St} : W T cx (.code (.reg false ops kill) :: k) s Q = W T cx (.ops ops kill :: k) s Q:=W_iff rfl
@[go_sem] theorem W_exit {i : Nat} {s : St} : W T cx (.code (.exit i) :: k) s Q = WX T cx (exitTo i k) s Q:=by
 cases hk : exitTo i k with
 | none=>exact W_fail (by simp [next,hk])
 | some k'=>exact W_iff (by simp [next,hk])
@[go_sem] theorem exitTo_here {j : Nat} : exitTo j (.inBlock j :: k) = some k:=by simp [exitTo]
@[go_sem] theorem exitTo_block {i j : Nat} : exitTo i (.inBlock j :: k) = if j = i then some k else exitTo i k:=rfl
@[go_sem] theorem exitTo_code {i : Nat} {c : MC} : exitTo i (.code c :: k) = exitTo i k:=rfl
@[go_sem] theorem exitTo_ops {i : Nat} {l : List MOp} : exitTo i (.ops l kill :: k) = exitTo i k:=rfl
@[go_sem] theorem exitTo_loop {i : Nat} {a b : List Nat} {c : MC} : exitTo i (.inLoop a b c :: k) = exitTo i k:=rfl
def bCond (v : AV) (A B : Prop) : Prop:=match v with | .bool b=>if b = true then A else B | _=>False
def WC (T : Nat → Option MFun) (cx : Cx) (v : AV) (t e : MC) (k : List Item) (s : St) (Q : St → Prop) : Prop:=bCond v (W T cx (.code t :: k) s Q) (W T cx (.code e :: k) s Q)
@[go_sem] theorem WC_true {t e : MC} {s : St} : WC T cx (.bool true) t e k s Q = W T cx (.code t :: k) s Q:=rfl
@[go_sem] theorem WC_false {t e : MC} {s : St} : WC T cx (.bool false) t e k s Q = W T cx (.code e :: k) s Q:=rfl
theorem WC_intro {b : Bool} {t e : MC} {s : St} (h1 : b = true → W T cx (.code t :: k) s Q) (h2 : b = false → W T cx (.code e :: k) s Q) : WC T cx (.bool b) t e k s Q:=by
 cases b
 ·exact h2 rfl
 ·exact h1 rfl
@[go_sem] theorem W_cond {c : Opd} {t e : MC} {s : St} : W T cx (.code (.cond c t e) :: k) s Q = WC T cx (s.opd c) t e k s Q:=by
 show _ = bCond (s.opd c) (W T cx (.code t :: k) s Q) (W T cx (.code e :: k) s Q)
 cases hc : s.opd c with
 | bool b=>cases b <;> simp only [bCond] <;> exact W_iff (by simp [next,hc])
 | _=>exact W_fail (by simp [next,hc])
@[go_sem] theorem W_opsnil : W T cx (.ops [] kill :: k) ⟨sl,own,h⟩ Q = W T cx k ⟨sl.without kill,own,h⟩ Q:=W_iff rfl
def gCond (v : AV) (b : Bool) (A B : Prop) : Prop:=match v with
 | .bool c=>if (c == b) = true then A else B
 | .tup .unit=>B
 | _=>False
def WG (T : Nat → Option MFun) (cx : Cx) (v : AV) (b : Bool) (d : Option Nat) (o : MK) (r : List MOp) (kill : List Nat) (k : List Item) (s : St) (Q : St → Prop) : Prop :=
 gCond v b (W T cx (.ops (⟨d,o,none⟩ :: r) kill :: k) s Q) (W T cx (.ops r kill :: k) (s.setd d .undef) Q)
@[go_sem] theorem WG_tt {d : Option Nat} {o : MK} {s : St} : WG T cx (.bool true) true d o r kill k s Q = W T cx (.ops (⟨d,o,none⟩ :: r) kill :: k) s Q:=rfl
@[go_sem] theorem WG_ff {d : Option Nat} {o : MK} {s : St} : WG T cx (.bool false) false d o r kill k s Q = W T cx (.ops (⟨d,o,none⟩ :: r) kill :: k) s Q:=rfl
@[go_sem] theorem WG_tf {d : Option Nat} {o : MK} {s : St} : WG T cx (.bool true) false d o r kill k s Q = W T cx (.ops r kill :: k) (s.setd d .undef) Q:=rfl
@[go_sem] theorem WG_ft {d : Option Nat} {o : MK} {s : St} : WG T cx (.bool false) true d o r kill k s Q = W T cx (.ops r kill :: k) (s.setd d .undef) Q:=rfl
@[go_sem] theorem WG_undef {b : Bool} {d : Option Nat} {o : MK} {s : St} : WG T cx .undef b d o r kill k s Q = W T cx (.ops r kill :: k) (s.setd d .undef) Q:=rfl
theorem WG_intro {b c : Bool} {d : Option Nat} {o : MK} {s : St} (h1 : b = c → W T cx (.ops (⟨d,o,none⟩ :: r) kill :: k) s Q) (h2 : b = (!c) → W T cx (.ops r kill :: k) (s.setd d .undef) Q) : WG T cx (.bool b) c d o r kill k s Q:=by
 cases b <;> cases c
 ·exact h1 rfl
 ·exact h2 rfl
 ·exact h2 rfl
 ·exact h1 rfl
@[go_sem] theorem W_guard {d : Option Nat} {o : MK} {t : Nat} {b : Bool} {s : St} : W T cx (.ops (⟨d,o,some (t,b)⟩ :: r) kill :: k) s Q = WG T cx (Slots.get s.sl t) b d o r kill k s Q:=by
 show _ = gCond (Slots.get s.sl t) b (W T cx (.ops (⟨d,o,none⟩ :: r) kill :: k) s Q) (W T cx (.ops r kill :: k) (s.setd d .undef) Q)
 have key : ∀ (o' : MOp),o'.d = d → o'.k = o → s.wanted o'.g = some true → next T cx (.ops (o' :: r) kill :: k) s = opCmd T cx d o (.ops r kill :: k) s:=by
  intro o' h1 h2 h3; subst h1; subst h2; simp [next,h3]
 have e : s.wanted (some (t,b)) = some true → W T cx (.ops (⟨d,o,some (t,b)⟩ :: r) kill :: k) s Q = W T cx (.ops (⟨d,o,none⟩ :: r) kill :: k) s Q:=by
  intro hw
  have h1:=key ⟨d,o,some (t,b)⟩ rfl rfl hw
  have h2:=key ⟨d,o,none⟩ rfl rfl rfl
  apply propext
  constructor <;> rintro ⟨n,s',hr,hq⟩ <;> refine ⟨n,s',?_,hq⟩ <;> cases n <;> simp only [run] at hr ⊢
  ·exact absurd hr (by simp)
  ·rw [h2]; rw [h1] at hr; exact hr
  ·exact absurd hr (by simp)
  ·rw [h1]; rw [h2] at hr; exact hr
 have e2 : s.wanted (some (t,b)) = some false → W T cx (.ops (⟨d,o,some (t,b)⟩ :: r) kill :: k) s Q = W T cx (.ops r kill :: k) (s.setd d .undef) Q:=by
  intro hw; exact W_iff (by simp [next,hw])
 have e3 : s.wanted (some (t,b)) = none → W T cx (.ops (⟨d,o,some (t,b)⟩ :: r) kill :: k) s Q = False:=by
  intro hw; exact W_fail (by simp [next,hw])
 cases hv : Slots.get s.sl t with
 | bool c =>
  simp only [gCond]
  split
  ·exact e (by simp_all [St.wanted])
  ·exact e2 (by simp_all [St.wanted])
 | tup v=>cases v with
  | unit=>exact e2 (by simp [St.wanted,hv])
  | _=>exact e3 (by simp [St.wanted,hv])
 | _=>exact e3 (by simp [St.wanted,hv])
def MK.isCallK : MK → Bool
 | .call ..=>true
 | .callv ..=>true
 | _=>false
theorem W_op {d : Option Nat} {o : MK} (hc : o.isCallK = false) {s : St} : W T cx (.ops (⟨d,o,none⟩ :: r) kill :: k) s Q =
  onO (evOp cx d o s) fun p=>W T cx (.ops r kill :: k) (p.2.setd d p.1) Q:=by
 have hn : next T cx (.ops (⟨d,o,none⟩ :: r) kill :: k) s = match evOp cx d o s with
  | some (v,s')=>.go (.ops r kill :: k) (s'.setd d v)
  | none=>.fail:=by
  simp only [next,St.wanted]
  cases o <;> first | rfl | simp [MK.isCallK] at hc
 cases he : evOp cx d o s with
 | none=>rw [he] at hn; exact W_fail hn
 | some p=>rw [he] at hn; exact W_iff hn
theorem W_val {d : Option Nat} {o : MK} (hc : o.isCallK = false) {s : St} {f : Option AV} (he : evK s.opd (s.look cx) o = f.map .val) : W T cx (.ops (⟨d,o,none⟩ :: r) kill :: k) s Q =
  onO f fun v=>W T cx (.ops r kill :: k) (s.setd d v) Q:=by
 rw [W_op hc,evOp,he]
 cases f <;> rfl
@[go_sem] theorem W_mov {d : Option Nat} {x : Opd} {s : St} : W T cx (.ops (⟨d,.mov x,none⟩ :: r) kill :: k) s Q = W T cx (.ops r kill :: k) (s.setd d (s.opd x)) Q :=
 W_val (f:=some (s.opd x)) rfl rfl
def pickV : AV → AV → AV → Option AV
 | .bool true,a,_=>some a
 | .bool false,_,b=>some b
 | _,_,_=>none
@[go_sem] theorem pickV_t (a b : AV) : pickV (.bool true) a b = some a:=rfl
@[go_sem] theorem pickV_f (a b : AV) : pickV (.bool false) a b = some b:=rfl
@[go_sem] theorem pickV_bb (c x y : Bool) : pickV (.bool c) (.bool x) (.bool y) = some (.bool (if c = true then x else y)):=by cases c <;> rfl
@[go_sem] theorem W_pick {d : Option Nat} {c x y : Opd} {s : St} : W T cx (.ops (⟨d,.pick c x y,none⟩ :: r) kill :: k) s Q = W1 T cx (pickV (s.opd c) (s.opd x) (s.opd y)) d r kill k s Q :=
 W_val rfl (by simp only [evK]; split <;> simp_all [pickV])
@[go_sem] theorem W_bin {d : Option Nat} {op : BinOp} {x y : Opd} {s : St} : W T cx (.ops (⟨d,.bin op x y,none⟩ :: r) kill :: k) s Q = W1 T cx (evBin op (s.opd x) (s.opd y)) d r kill k s Q :=
 W_val rfl rfl
@[go_sem] theorem W_un {d : Option Nat} {op : UnOp} {x : Opd} {s : St} : W T cx (.ops (⟨d,.un op x,none⟩ :: r) kill :: k) s Q = W1 T cx (evUn op (s.opd x)) d r kill k s Q :=
 W_val rfl rfl
def eqV (t : Ty) (neg : Bool) (x y : AV) : Option AV:=if t.eqOk x && t.eqOk y then (x.eq y).map fun b=>.bool (if neg then !b else b) else none
@[go_sem] theorem W_eq {d : Option Nat} {neg : Bool} {t : Ty} {x y : Opd} {s : St} : W T cx (.ops (⟨d,.eq neg t x y,none⟩ :: r) kill :: k) s Q = W1 T cx (eqV t neg (s.opd x) (s.opd y)) d r kill k s Q :=
 W_val rfl (by simp only [evK,eqV]; split <;> simp [Function.comp_def])
@[go_sem] theorem W_alloc {d : Nat} {t : Ty} : W T cx (.ops (⟨some d,.alloc false t,none⟩ :: r) kill :: k) ⟨sl,own,h⟩ Q =
  W T cx (.ops r kill :: k) ⟨(Slots.forget sl (.stk cx.lvl d)).set d (.ptr (.stk cx.lvl d) [] t),own.set d ⟨t,t.zero⟩,h⟩ Q:=by
 rw [W_op rfl]; rfl
@[go_sem] theorem W_box {d : Nat} {t : Ty} {x : Opd} : W T cx (.ops (⟨some d,.box false t x,none⟩ :: r) kill :: k) ⟨sl,own,h⟩ Q =
  (t.fits (St.opd ⟨sl,own,h⟩ x) = true ∧ W T cx (.ops r kill :: k) ⟨(Slots.forget sl (.stk cx.lvl d)).set d (.ptr (.stk cx.lvl d) [] t),own.set d ⟨t,St.opd ⟨sl,own,h⟩ x⟩,h⟩ Q):=by
 rw [W_op rfl,evOp]
 simp only [evK]
 by_cases h1 : t.fits (St.opd ⟨sl,own,h⟩ x) = true
 ·simp only [h1,true_and,if_true]; rfl
 ·simp only [h1,false_and,Bool.false_eq_true,if_false]; rfl
@[go_sem] theorem W_build {d : Option Nat} {t : Ty} {ps : List (Nat × Opd)} {s : St} : W T cx (.ops (⟨d,.build t ps,none⟩ :: r) kill :: k) s Q = W1 T cx (fill t t.zero (ps.map fun p=>(p.1,s.opd p.2))) d r kill k s Q :=
 W_val rfl rfl
def ldV (t : Ty) (x : AV) (R : Id → List Nat → Option AV) : Option AV:=match x with
 | .ptr i p t'=>if t = t' then match R i p with | some v=>if t.fits v then some v else none | none=>none else none
 | _=>none
def fitO (t : Ty) : Option AV → Option AV | some v=>if t.fits v = true then some v else none | none=>none
@[go_sem] theorem ldV_ptr (t : Ty) (i : Id) (p : List Nat) (R : Id → List Nat → Option AV) : ldV t (.ptr i p t) R = fitO t (R i p):=by simp only [ldV,if_true,fitO]
theorem fitO_some {t : Ty} {v : AV} (hv : t.fits v = true) : fitO t (some v) = some v:=by simp [fitO,hv]
@[go_sem] theorem fitO_int (k : IntKind) (n : Int) : fitO (.leaf (.int k)) (some (.int k n)) = some (.int k n):=fitO_some (by simp [Ty.fits,LK.fits,AV.safe])
@[go_sem] theorem fitO_str (s : ByteArray) : fitO (.leaf .str) (some (.str s)) = some (.str s):=rfl
@[go_sem] theorem fitO_bool (b : Bool) : fitO (.leaf .bool) (some (.bool b)) = some (.bool b):=rfl
@[go_sem] theorem W_load {d : Option Nat} {t : Ty} {x : Opd} {s : St} : W T cx (.ops (⟨d,.load false none t x,none⟩ :: r) kill :: k) s Q = W1 T cx (ldV t (s.opd x) (s.rd cx)) d r kill k s Q :=
 W_val rfl (by
  simp only [evK]
  cases s.opd x <;> simp only [ldV,rooted,Bool.false_eq_true,false_implies,true_and,and_true,Option.map_none] <;> try rfl
  rename_i i p t'
  by_cases ht : t = t'
  ·simp only [ht,if_true,St.rd]
   cases (s.look cx i).bind fun b=>b.val.at p with
   | none=>rfl
   | some v=>by_cases hf : t'.fits v = true <;> simp [hf]
  ·simp only [ht,if_false,Option.map_none])
def intoV (x v : AV) : Bool:=match x with | .ptr i _ _=>v.into i | _=>false
@[go_sem] theorem intoV_ptr (i : Id) (p : List Nat) (t : Ty) (v : AV) : intoV (.ptr i p t) v = v.into i:=rfl
def apartV (x v : AV) : Bool:=match x with | .ptr i _ _=>v.apart i | _=>false
@[go_sem] theorem apartV_ptr (i : Id) (p : List Nat) (t : Ty) (v : AV) : apartV (.ptr i p t) v = v.apart i:=rfl
@[go_sem] theorem isStk_stk (l t : Nat) : (Id.stk l t).isStk = true:=rfl
@[go_sem] theorem isStk_obj (n : Nat) : (Id.obj n).isStk = false:=rfl
@[go_sem] theorem isStk_arg (n : Nat) : (Id.arg n).isStk = false:=rfl
def stkV (x : AV) : Bool:=match x with | .ptr i _ _=>i.isStk | _=>false
@[go_sem] theorem stkV_ptr (i : Id) (p : List Nat) (t : Ty) : stkV (.ptr i p t) = i.isStk:=rfl
def heapV (x : AV) : Bool:=match x with | .ptr i _ _=>!i.isStk | _=>false
@[go_sem] theorem heapV_ptr (i : Id) (p : List Nat) (t : Ty) : heapV (.ptr i p t) = !i.isStk:=rfl
def apU (s : St) (x : AV) (u : Nat) : Bool:=if u = 1000000 then stkV x else apartV x (Slots.get s.sl u)
def apAll (s : St) (x : AV) : List Nat → Prop
 | []=>True
 | u :: l=>apU s x u = true ∧ apAll s x l
@[go_sem] theorem apAll_nil (s : St) (x : AV) : apAll s x [] = True:=rfl
@[go_sem] theorem apAll_mark (x : AV) (l : List Nat) : apAll ⟨sl,own,h⟩ x (1000000 :: l) = (stkV x = true ∧ apAll ⟨sl,own,h⟩ x l):=rfl
@[go_sem] theorem apAll_cons (x : AV) (u : Nat) (l : List Nat) (hu : ¬u = 1000000) : apAll ⟨sl,own,h⟩ x (u :: l) = (apartV x (Slots.get sl u) = true ∧ apAll ⟨sl,own,h⟩ x l):=by
 simp only [apAll,apU]; rw [if_neg hu]
theorem apAll_iff (s : St) (x : AV) : ∀ l,apAll s x l = ∀ u ∈ l,apU s x u = true
 | []=>by simp [apAll]
 | u :: l=>by simp [apAll,apAll_iff s x l]
def nilV : AV → Option AV
 | .ptr i p t=>some (.ptr i p t)
 | _=>none
@[go_sem] theorem nilV_ptr (i : Id) (p : List Nat) (t : Ty) : nilV (.ptr i p t) = some (.ptr i p t):=rfl
@[go_sem] theorem W_loadh {d : Option Nat} {t : Ty} {x : Opd} {s : St} : W T cx (.ops (⟨d,.load false (some 1000000) t x,none⟩ :: r) kill :: k) s Q =
  (heapV (s.opd x) = true ∧ W1 T cx (ldV t (s.opd x) (s.rd cx)) d r kill k s Q):=by
 rw [W_op rfl,evOp]
 simp only [evK]
 cases hx : s.opd x <;> simp only [heapV,ldV,rooted,Bool.false_eq_true,false_implies,true_and,and_true,false_and] <;> try rfl
 rename_i i p t'
 simp only [if_true]
 by_cases h1 : (!i.isStk) = true
 ·simp only [h1,and_true,true_and]
  by_cases ht : t = t'
  ·simp only [ht,if_true,St.rd]
   cases (s.look cx i).bind fun b=>b.val.at p with
   | none=>rfl
   | some v=>by_cases hf : t'.fits v = true <;> simp [hf,onO,applyEff,W1]
  ·simp only [ht,if_false]; rfl
 ·simp only [h1,and_false,false_and,if_false,Bool.false_eq_true,onO,W1]
@[go_sem] theorem W_loads {d : Option Nat} {t : Ty} {x : Opd} {s : St} : W T cx (.ops (⟨d,.load false (some 1000001) t x,none⟩ :: r) kill :: k) s Q =
  (stkV (s.opd x) = true ∧ W1 T cx (ldV t (s.opd x) (s.rd cx)) d r kill k s Q):=by
 rw [W_op rfl,evOp]
 simp only [evK]
 cases hx : s.opd x <;> simp only [stkV,ldV,rooted,Bool.false_eq_true,false_implies,true_and,and_true,false_and] <;> try rfl
 rename_i i p t'
 simp only [if_true,show ¬(1000001 : Nat) = 1000000 from by decide,if_false]
 by_cases h1 : i.isStk = true
 ·simp only [h1,and_true,true_and]
  by_cases ht : t = t'
  ·simp only [ht,if_true,St.rd]
   cases (s.look cx i).bind fun b=>b.val.at p with
   | none=>rfl
   | some v=>by_cases hf : t'.fits v = true <;> simp [hf,onO,applyEff,W1]
  ·simp only [ht,if_false]; rfl
 ·simp only [h1,and_false,false_and,if_false,Bool.false_eq_true,onO,W1]
@[go_sem] theorem W_loadr {d : Option Nat} {u : Nat} {t : Ty} {x : Opd} {s : St} (hu : ¬u = 1000000) (hu2 : ¬u = 1000001) : W T cx (.ops (⟨d,.load false (some u) t x,none⟩ :: r) kill :: k) s Q =
  (intoV (s.opd x) (Slots.get s.sl u) = true ∧ W1 T cx (ldV t (s.opd x) (s.rd cx)) d r kill k s Q):=by
 rw [W_op rfl,evOp]
 simp only [evK]
 cases hx : s.opd x <;> simp only [intoV,ldV,rooted,Bool.false_eq_true,false_implies,true_and,and_true,false_and] <;> try rfl
 rename_i i p t'
 rw [if_neg hu,if_neg hu2]
 by_cases h1 : (Slots.get s.sl u).into i = true
 ·have h1' : (s.opd (.s u)).into i = true:=h1
  simp only [h1,h1',and_true,true_and]
  by_cases ht : t = t'
  ·simp only [ht,if_true,St.rd]
   cases (s.look cx i).bind fun b=>b.val.at p with
   | none=>rfl
   | some v=>by_cases hf : t'.fits v = true <;> simp [hf,onO,applyEff,W1]
  ·simp only [ht,if_false]; rfl
 ·have h1' : ¬(s.opd (.s u)).into i = true:=h1
  simp only [h1,h1',and_false,false_and,if_false,Bool.false_eq_true,onO,W1]
@[go_sem] theorem W_nilck {d : Option Nat} {x : Opd} {s : St} : W T cx (.ops (⟨d,.nilck x,none⟩ :: r) kill :: k) s Q = W1 T cx (nilV (s.opd x)) d r kill k s Q :=
 W_val rfl (by simp only [evK,nilV]; split <;> simp_all)
def fldV (st : Ty) (i : Nat) (ft : Ty) (x : AV) : Option AV:=match x with
 | .ptr j p t=>if t = st ∧ st.field i = some ft then some (.ptr j (p ++ [i]) ft) else none
 | _=>none
@[go_sem] theorem fldV_ptr (st : Ty) (i : Nat) (ft : Ty) (j : Id) (p : List Nat) : fldV st i ft (.ptr j p st) = if st.field i = some ft then some (.ptr j (p ++ [i]) ft) else none:=by simp [fldV]
@[go_sem] theorem W_fld {d : Option Nat} {i : Nat} {st ft : Ty} {x : Opd} {s : St} : W T cx (.ops (⟨d,.fld st i ft x,none⟩ :: r) kill :: k) s Q = W1 T cx (fldV st i ft (s.opd x)) d r kill k s Q :=
 W_val rfl (by simp only [evK,fldV]; cases s.opd x <;> simp only [Option.map_none] <;> split <;> rfl)
def idxV (n : Nat) (t : Ty) (x i : AV) : Option AV:=match x,toIx i with
 | .ptr j p t',some z=>if t' = .arr n t ∧ 0 ≤ z ∧ z < (n : Int) then some (.ptr j (p ++ [z.toNat]) t) else none
 | _,_=>none
@[go_sem] theorem idxV_nat {n : Nat} {t : Ty} {j : Id} {p : List Nat} {k : IntKind} {m : Nat} (hm : m < n) : idxV n t (.ptr j p (.arr n t)) (.int k (m : Int)) = some (.ptr j (p ++ [m]) t):=by
 simp only [idxV,toIx]; rw [if_pos ⟨trivial,by omega,by omega⟩]; rfl
@[go_sem] theorem idxV_int {n : Nat} {t : Ty} {j : Id} {p : List Nat} {k : IntKind} {z : Int} (h0 : 0 ≤ z) (hm : z < n) : idxV n t (.ptr j p (.arr n t)) (.int k z) = some (.ptr j (p ++ [z.toNat]) t):=by
 simp only [idxV,toIx]; rw [if_pos ⟨trivial,by omega,by omega⟩]
@[go_sem] theorem W_idx {d : Option Nat} {n : Nat} {t : Ty} {x i : Opd} {s : St} : W T cx (.ops (⟨d,.idx n t x i,none⟩ :: r) kill :: k) s Q = W1 T cx (idxV n t (s.opd x) (s.opd i)) d r kill k s Q :=
 W_val rfl (by
  simp only [evK,idxV]
  cases s.opd x <;> try rfl
  cases toIx (s.opd i) <;> try rfl
  simp only
  split <;> rfl)
def aidxV (n : Nat) (t : Ty) (x i : AV) : Option AV:=match x,toIx i with
 | .arr m f,some z=>if h : 0 ≤ z ∧ z < (m : Int) then if (Ty.arr n t).fits (.arr m f) then some (f ⟨z.toNat,by omega⟩) else none else none
 | _,_=>none
@[go_sem] theorem aidxV_nat {n : Nat} {t : Ty} {f : Fin n → AV} {k : IntKind} {m : Nat} (hm : m < n) (hf : (Ty.arr n t).fits (.arr n f) = true) : aidxV n t (.arr n f) (.int k (m : Int)) = some (f ⟨m,hm⟩):=by
 simp only [aidxV,toIx]; rw [dif_pos ⟨by omega,by omega⟩,if_pos hf]; rfl
@[go_sem] theorem W_aidx {d : Option Nat} {n : Nat} {t : Ty} {x i : Opd} {s : St} : W T cx (.ops (⟨d,.aidx n t x i,none⟩ :: r) kill :: k) s Q = W1 T cx (aidxV n t (s.opd x) (s.opd i)) d r kill k s Q :=
 W_val rfl (by
  simp only [evK,aidxV]
  cases s.opd x <;> try rfl
  cases toIx (s.opd i) <;> try rfl
  simp only
  split <;> try rfl
  split <;> rfl)
def stridxV (x i : AV) : Option AV:=match x,toIx i with
 | .str b,some z=>if 0 ≤ z then (b[z.toNat]?).map fun c=>.int .u8 c.toNat else none
 | _,_=>none
@[go_sem] theorem W_stridx {d : Option Nat} {x i : Opd} {s : St} : W T cx (.ops (⟨d,.stridx x i,none⟩ :: r) kill :: k) s Q = W1 T cx (stridxV (s.opd x) (s.opd i)) d r kill k s Q :=
 W_val rfl (by
  simp only [evK,stridxV]
  cases s.opd x <;> try rfl
  cases toIx (s.opd i) <;> try rfl
  simp only
  split <;> simp [Function.comp_def])
def fieldV (t : Ty) (x : AV) (i : Nat) : Option AV:=if t.fits x then x.field i else none
@[go_sem] theorem W_field {d : Option Nat} {t : Ty} {x : Opd} {i : Nat} {s : St} : W T cx (.ops (⟨d,.field t x i,none⟩ :: r) kill :: k) s Q = W1 T cx (fieldV t (s.opd x) i) d r kill k s Q :=
 W_val rfl (by simp only [evK,fieldV]; split <;> simp)
def extV (x : AV) (i : Nat) : Option AV:=match x with
 | .tup v=>match v.field i with
  | some u=>if u.safe then some u else none
  | none=>none
 | _=>none
@[go_sem] theorem W_ext {d : Option Nat} {x : Opd} {i : Nat} {s : St} : W T cx (.ops (⟨d,.ext x i,none⟩ :: r) kill :: k) s Q = W1 T cx (extV (s.opd x) i) d r kill k s Q :=
 W_val rfl (by
  simp only [evK,extV]
  cases s.opd x <;> try rfl
  rename_i w
  simp only
  cases w.field i with
  | none=>rfl
  | some u=>by_cases hu : u.safe = true <;> simp [hu])
def convV (k : IntKind) (x : AV) : Option AV:=match x with | .int _ n=>some (.int k (k.wrap n)) | _=>none
@[go_sem] theorem convV_int (k k' : IntKind) (n : Int) : convV k (.int k' n) = some (.int k (k.wrap n)):=rfl
@[go_sem] theorem W_conv {d : Option Nat} {kk : IntKind} {x : Opd} {s : St} : W T cx (.ops (⟨d,.conv kk x,none⟩ :: r) kill :: k) s Q = W1 T cx (convV kk (s.opd x)) d r kill k s Q :=
 W_val rfl (by simp only [evK,convV]; cases s.opd x <;> rfl)
def lenV (str : Bool) (x : AV) : Option AV:=match str,x with
 | true,.str b=>some (.int .i64 b.size)
 | false,.nilsl=>some (.int .i64 0)
 | false,.sl _ _ n=>some (.int .i64 n)
 | false,.slz=>some (.int .i64 0)
 | _,_=>none
@[go_sem] theorem lenV_str (b : ByteArray) : lenV true (.str b) = some (.int .i64 b.size):=rfl
@[go_sem] theorem lenV_nil : lenV false .nilsl = some (.int .i64 0):=rfl
@[go_sem] theorem lenV_slz : lenV false .slz = some (.int .i64 0):=rfl
@[go_sem] theorem lenV_sl (i : Id) (o n : Nat) : lenV false (.sl i o n) = some (.int .i64 n):=rfl
@[go_sem] theorem W_len {d : Option Nat} {b : Bool} {x : Opd} {s : St} : W T cx (.ops (⟨d,.len b x,none⟩ :: r) kill :: k) s Q = W1 T cx (lenV b (s.opd x)) d r kill k s Q :=
 W_val rfl (by simp only [evK,lenV]; cases b <;> cases s.opd x <;> rfl)
def minV (x y : AV) : Option AV:=match x,y with
 | .int k a,.int k' b=>if k = k' then some (.int k (if b < a then b else a)) else none
 | _,_=>none
@[go_sem] theorem W_min {d : Option Nat} {x y : Opd} {s : St} : W T cx (.ops (⟨d,.min x y,none⟩ :: r) kill :: k) s Q = W1 T cx (minV (s.opd x) (s.opd y)) d r kill k s Q :=
 W_val rfl (by simp only [evK,minV]; cases s.opd x <;> try rfl
               cases s.opd y <;> try rfl
               simp only; split <;> rfl)
def maxV (x y : AV) : Option AV:=match x,y with
 | .int k a,.int k' b=>if k = k' then some (.int k (if a < b then b else a)) else none
 | _,_=>none
@[go_sem] theorem W_max {d : Option Nat} {x y : Opd} {s : St} : W T cx (.ops (⟨d,.max x y,none⟩ :: r) kill :: k) s Q = W1 T cx (maxV (s.opd x) (s.opd y)) d r kill k s Q :=
 W_val rfl (by simp only [evK,maxV]; cases s.opd x <;> try rfl
               cases s.opd y <;> try rfl
               simp only; split <;> rfl)
def HP.wr (h : HP) (i : Id) (p : List Nat) (v : AV) : HP:=match h.look i with
 | some b=>match b.val.put p v with
  | some u=>h.set i ⟨b.ty,u⟩
  | none=>h
 | none=>h
def stV (cx : Cx) (t : Ty) (x v : AV) (s : St) : Option St:=match x with
 | .ptr i p t'=>if t = t' ∧ t.fits v = true then match s.look cx i with
   | some b=>match b.val.put p v with
    | some u=>s.write cx i ⟨b.ty,u⟩
    | none=>none
   | none=>none
  else none
 | _=>none
@[go_sem] theorem W_store {t : Ty} {x v : Opd} {s : St} : W T cx (.ops (⟨none,.store t [] x v,none⟩ :: r) kill :: k) s Q = W2 T cx (stV cx t (s.opd x) (s.opd v) s) r kill k Q:=by
 rw [W_op rfl,evOp]
 simp only [evK,List.all_nil,and_true]
 cases s.opd x <;> simp only [stV] <;> try rfl
 rename_i i p t'
 by_cases hc : t = t' ∧ t.fits (s.opd v) = true
 ·rw [if_pos hc,if_pos hc]
  cases s.look cx i with
  | none=>rfl
  | some b =>
   simp only
   cases b.val.put p (s.opd v) with
   | none=>rfl
   | some u =>
    simp only [applyEff]
    cases s.write cx i ⟨b.ty,u⟩ <;> rfl
 ·rw [if_neg hc,if_neg hc]; rfl
@[go_sem] theorem W_storea {t : Ty} {a : Nat} {ap : List Nat} {x v : Opd} {s : St} : W T cx (.ops (⟨none,.store t (a :: ap) x v,none⟩ :: r) kill :: k) s Q =
  (apAll s (s.opd x) (a :: ap) ∧ W2 T cx (stV cx t (s.opd x) (s.opd v) s) r kill k Q):=by
 rw [W_op rfl,evOp,apAll_iff]
 simp only [evK]
 cases hx : s.opd x <;> simp only [stV,W2,onO,and_false] <;> try rfl
 rename_i i p t'
 have hU : ∀ u,apU s (.ptr i p t') u = apartU s.opd i u:=fun u=>rfl
 simp only [hU]
 by_cases ha : ((a :: ap).all fun u=>apartU s.opd i u) = true
 ·have ha' : ∀ u ∈ a :: ap,apartU s.opd i u = true:=List.all_eq_true.1 ha
  simp only [ha,and_true]
  rw [eq_true ha',true_and]
  by_cases hc : t = t' ∧ t.fits (s.opd v) = true
  ·rw [if_pos hc,if_pos hc]
   cases s.look cx i with
   | none=>rfl
   | some b =>
    simp only
    cases b.val.put p (s.opd v) with
    | none=>rfl
    | some u =>
     simp only [applyEff]
     cases s.write cx i ⟨b.ty,u⟩ <;> rfl
  ·rw [if_neg hc,if_neg hc]
 ·have ha' : ¬∀ u ∈ a :: ap,apartU s.opd i u = true:=fun h=>ha (List.all_eq_true.2 h)
  rw [eq_false ha',false_and]
  simp only [ha,Bool.false_eq_true,and_false,if_false]
def ownW (own : Own) (d : Nat) (p : List Nat) (v : AV) : Option Own:=match own.get d with
 | some b=>match b.val.put p v with
  | some u=>some (own.set d ⟨b.ty,u⟩)
  | none=>none
 | none=>none
@[go_sem] theorem stV_own {t : Ty} {d : Nat} {p : List Nat} {v : AV} : stV cx t (.ptr (.stk cx.lvl d) p t) v ⟨sl,own,h⟩ = if t.fits v = true then (ownW own d p v).map fun o=>⟨sl,o,h⟩ else none:=by
 simp only [stV,true_and,St.look,Id.own,if_true,St.write,ownW]
 split <;> try rfl
 cases own.get d with
 | none=>rfl
 | some b =>
  simp only
  cases b.val.put p v <;> rfl
end
section
variable {T : Nat → Option MFun} {cx : Cx} {k : List Item} {kill : List Nat} {r : List MOp} {sl : Slots} {own : Own} {h : HP} {Q : St → Prop}
@[go_sem] theorem get_nil (u : Nat) : Slots.get [] u = .bot:=rfl
@[go_sem] theorem get_cons (t u : Nat) (v : AV) (s : Slots) : Slots.get ((t,v) :: s) u = if t = u then v else Slots.get s u:=rfl
@[go_sem] theorem set_nil (u : Nat) (x : AV) : Slots.set [] u x = [(u,x)]:=rfl
@[go_sem] theorem set_cons (t u : Nat) (v x : AV) (s : Slots) : Slots.set ((t,v) :: s) u x = if t = u then (u,x) :: s else if u < t then (u,x) :: (t,v) :: s else (t,v) :: Slots.set s u x:=rfl
@[go_sem] theorem oget_nil (u : Nat) : Own.get [] u = none:=rfl
@[go_sem] theorem oget_cons (t u : Nat) (v : Blk) (s : Own) : Own.get ((t,v) :: s) u = if t = u then some v else Own.get s u:=rfl
@[go_sem] theorem oset_nil (u : Nat) (x : Blk) : Own.set [] u x = [(u,x)]:=rfl
@[go_sem] theorem oset_cons (t u : Nat) (v x : Blk) (s : Own) : Own.set ((t,v) :: s) u x = if t = u then (u,x) :: s else if u < t then (u,x) :: (t,v) :: s else (t,v) :: Own.set s u x:=rfl
@[go_sem] theorem has_nil (t : Nat) : has [] t = false:=rfl
@[go_sem] theorem has_cons (a t : Nat) (l : List Nat) : has (a :: l) t = (a == t || has l t):=rfl
@[go_sem] theorem without_nil (l : List Nat) : Slots.without [] l = []:=rfl
@[go_sem] theorem without_cons (t : Nat) (v : AV) (s : Slots) (l : List Nat) : Slots.without ((t,v) :: s) l = if has l t = true then Slots.without s l else (t,v) :: Slots.without s l:=rfl
@[go_sem] theorem only_nil (l : List Nat) : Slots.only [] l = []:=rfl
@[go_sem] theorem only_cons (t : Nat) (v : AV) (s : Slots) (l : List Nat) : Slots.only ((t,v) :: s) l = if has l t = true then (t,v) :: Slots.only s l else Slots.only s l:=rfl
@[go_sem] theorem oonly_nil (l : List Nat) : Own.only [] l = []:=rfl
@[go_sem] theorem oonly_cons (t : Nat) (v : Blk) (s : Own) (l : List Nat) : Own.only ((t,v) :: s) l = if has l t = true then (t,v) :: Own.only s l else Own.only s l:=rfl
@[go_sem] theorem keep_mk (a b : List Nat) : St.keep ⟨sl,own,h⟩ a b = ⟨sl.only a,own.only b,h⟩:=rfl
@[go_sem] theorem setd_some (d : Nat) (v : AV) : St.setd ⟨sl,own,h⟩ (some d) v = ⟨sl.set d v,own,h⟩:=rfl
@[go_sem] theorem setd_none (v : AV) (s : St) : St.setd s none v = s:=rfl
@[go_sem] theorem opd_s (t : Nat) : St.opd ⟨sl,own,h⟩ (.s t) = sl.get t:=rfl
@[go_sem] theorem opd_c (v : AV) (s : St) : St.opd s (.c v) = v:=rfl
@[go_sem] theorem opd_f (n : Nat) (s : St) : St.opd s (.f n) = .func n .unit:=rfl
def fg (v : AV) (i : Id) : AV:=if v.leads i then .bot else v
@[go_sem] theorem forget_nil (i : Id) : Slots.forget [] i = []:=rfl
@[go_sem] theorem forget_cons (t : Nat) (v : AV) (s : Slots) (i : Id) : Slots.forget ((t,v) :: s) i = (t,fg v i) :: Slots.forget s i:=rfl
@[go_sem] theorem fg_int (k : IntKind) (n : Int) (i : Id) : fg (.int k n) i = .int k n:=rfl
@[go_sem] theorem fg_bool (b : Bool) (i : Id) : fg (.bool b) i = .bool b:=rfl
@[go_sem] theorem fg_str (b : ByteArray) (i : Id) : fg (.str b) i = .str b:=rfl
@[go_sem] theorem fg_arr {n : Nat} (f : Fin n → AV) (i : Id) : fg (.arr n f) i = .arr n f:=rfl
@[go_sem] theorem fg_cons (a b : AV) (i : Id) : fg (.cons a b) i = .cons a b:=rfl
@[go_sem] theorem fg_tup (a : AV) (i : Id) : fg (.tup a) i = .tup a:=rfl
@[go_sem] theorem fg_undef (i : Id) : fg .undef i = .undef:=rfl
@[go_sem] theorem fg_bot (i : Id) : fg .bot i = .bot:=rfl
@[go_sem] theorem fg_nilp (i : Id) : fg .nilp i = .nilp:=rfl
@[go_sem] theorem fg_nilsl (i : Id) : fg .nilsl i = .nilsl:=rfl
@[go_sem] theorem fg_ite (c : Prop) [Decidable c] (a b : AV) (i : Id) : fg (if c then a else b) i = if c then fg a i else fg b i:=by split <;> rfl
def Id.below : Id → Nat → Prop
 | .stk l' _,l=>l' < l
 | _,_=>True
theorem below_own {i : Id} {l : Nat} (h : i.below l) : i.own l = none:=by
 cases i <;> simp_all [Id.below,Id.own]
 omega
theorem Id.below.succ {i : Id} {l : Nat} (h : i.below l) : i.below (l + 1):=by
 cases i <;> simp_all [Id.below]
 omega
@[go_sem] theorem below_stk (l t : Nat) : (Id.stk l t).below (l + 1):=by simp [Id.below]
@[go_sem] theorem below_obj (n l : Nat) : (Id.obj n).below l:=trivial
@[go_sem] theorem below_arg (n l : Nat) : (Id.arg n).below l:=trivial
theorem Id.below.ne {i : Id} {l t : Nat} (h : i.below l) : i ≠ .stk l t:=by
 rintro rfl; simp [Id.below] at h
theorem fg_ptr {i : Id} {l t : Nat} (h : i.below l) (p : List Nat) (u : Ty) : fg (.ptr i p u) (.stk l t) = .ptr i p u:=by
 have : (Id.stk l t == i) = false:=by simpa using fun e : Id.stk l t = i=>h.ne e.symm
 simp [fg,AV.leads,AV.isAgg,AV.names,this]
@[go_sem] theorem fg_own (l s t : Nat) (p : List Nat) (u : Ty) : fg (.ptr (.stk l s) p u) (.stk l t) = if t = s then .bot else .ptr (.stk l s) p u:=by
 simp only [fg,AV.leads,AV.isAgg,AV.names,Bool.not_false,Bool.true_and,beq_iff_eq,Id.stk.injEq,true_and]
def siteOkK (cx : Cx) (s : St) : Option Nat → Bool
 | some d=>(s.own.get d).isNone && s.sl.all fun p=>!(p.2.leads (.stk cx.lvl d))
 | none=>true
def noLead (l d : Nat) : Slots → Bool
 | []=>true
 | (_,v) :: s=>!(v.leads (.stk l d)) && noLead l d s
@[go_sem] theorem noLead_nil (l d : Nat) : noLead l d [] = true:=rfl
@[go_sem] theorem noLead_cons (l d t : Nat) (v : AV) (s : Slots) : noLead l d ((t,v) :: s) = (!(v.leads (.stk l d)) && noLead l d s):=rfl
@[go_sem] theorem siteOkK_none (s : St) : siteOkK cx s none = true:=rfl
@[go_sem] theorem siteOkK_some (d : Nat) : siteOkK cx ⟨sl,own,h⟩ (some d) = ((own.get d).isNone && noLead cx.lvl d sl):=by
 simp only [siteOkK]; congr 1
 induction sl with
 | nil=>rfl
 | cons p r ih=>obtain ⟨t,v⟩:=p; simp only [List.all_cons,noLead,ih]
@[go_sem] theorem W_regT {ops : List MOp} {s : St} : W T cx (.code (.reg true ops kill) :: k) s Q = ((ops.map MOp.site).all (siteOkK cx s) = true ∧ W T cx (.ops ops kill :: k) s Q):=by
 have hd : (ops.map MOp.site).all (siteOkK cx s) = drawHead cx s ops:=by
  simp only [drawHead,List.all_map]; congr 1
 rw [hd]
 by_cases h1 : drawHead cx s ops = true
 ·rw [eq_true h1,true_and]; exact W_iff (by simp [next,h1])
 ·rw [eq_false h1,false_and]; exact W_fail (by simp [next,h1])
@[go_sem] theorem leads_int (k : IntKind) (n : Int) (i : Id) : (AV.int k n).leads i = false:=rfl
@[go_sem] theorem leads_bool (b : Bool) (i : Id) : (AV.bool b).leads i = false:=rfl
@[go_sem] theorem leads_str (b : ByteArray) (i : Id) : (AV.str b).leads i = false:=rfl
@[go_sem] theorem leads_arr {n : Nat} (f : Fin n → AV) (i : Id) : (AV.arr n f).leads i = false:=rfl
@[go_sem] theorem leads_cons (a b : AV) (i : Id) : (AV.cons a b).leads i = false:=rfl
@[go_sem] theorem leads_tup (a : AV) (i : Id) : (AV.tup a).leads i = false:=rfl
@[go_sem] theorem leads_bot (i : Id) : AV.bot.leads i = false:=rfl
@[go_sem] theorem leads_undef (i : Id) : AV.undef.leads i = false:=rfl
@[go_sem] theorem leads_nilp (i : Id) : AV.nilp.leads i = false:=rfl
theorem leads_ptr {i : Id} {l t : Nat} (h : i.below l) (p : List Nat) (u : Ty) : (AV.ptr i p u).leads (.stk l t) = false:=by
 have : (Id.stk l t == i) = false:=by simpa using fun e=>h.ne e.symm
 simp [AV.leads,AV.isAgg,AV.names,this]
@[go_sem] theorem leads_own (l s t : Nat) (p : List Nat) (u : Ty) : (AV.ptr (.stk l s) p u).leads (.stk l t) = (t == s):=by
 simp only [AV.leads,AV.isAgg,AV.names,Bool.not_false,Bool.true_and]
 rw [Bool.eq_iff_iff]; simp
attribute [go_sem] MOp.site List.all_cons List.all_nil List.map_cons List.map_nil Option.isNone_none Option.isNone_some Bool.not_false Bool.not_true Bool.and_self Bool.true_and Bool.and_true Bool.or_true Bool.true_or Bool.or_false Bool.false_or Bool.false_and Bool.and_false true_and and_true Nat.reduceEqDiff Nat.reduceLT Nat.reduceBEq Bool.false_eq_true Option.map_some Option.map_none reduceCtorEq eq_self Nat.add_eq Nat.zero_add
attribute [go_sem ↓] reduceIte
@[go_sem] theorem rd_own {d : Nat} {p : List Nat} : St.rd cx ⟨sl,own,h⟩ (.stk cx.lvl d) p = (own.get d).bind fun b=>b.val.at p:=by
 simp [St.rd,St.look,Id.own]
theorem rd_ext {i : Id} (hi : i.below cx.lvl) {p : List Nat} : St.rd cx ⟨sl,own,h⟩ i p = h.rd i p:=by
 simp [St.rd,St.look,below_own hi,HP.rd]
theorem HP.rd_app {h : HP} {i : Id} {p : List Nat} {v : AV} (hv : h.rd i p = some v) (q : List Nat) : h.rd i (p ++ q) = v.at q:=by
 have key : ∀ (p : List Nat) (w : AV),w.at p = some v → w.at (p ++ q) = v.at q:=by
  intro p
  induction p with
  | nil=>intro w hw; simp [AV.at] at hw; subst hw; rfl
  | cons a p ih =>
   intro w hw
   match w,a,hw with
   | .arr n f,i,hw =>
    simp only [AV.at] at hw
    split at hw
    ·rename_i hi; simp only [List.cons_append,AV.at,hi,dite_true]; exact ih _ hw
    ·simp at hw
   | .cons x y,0,hw=>simp only [AV.at] at hw; simp only [List.cons_append,AV.at]; exact ih _ hw
   | .cons x y,i + 1,hw =>
    simp only [AV.at] at hw
    simp only [List.cons_append,AV.at]
    have : ∀ (j : Nat) (y : AV),y.at (j :: p) = some v → y.at (j :: (p ++ q)) = v.at q:=by
     intro j
     induction j with
     | zero=>intro y hy; match y,hy with
      | .arr n f,hy =>
       simp only [AV.at] at hy
       split at hy
       ·rename_i hi; simp only [AV.at,hi,dite_true]; exact ih _ hy
       ·simp at hy
      | .cons c d,hy=>simp only [AV.at] at hy ⊢; exact ih _ hy
     | succ j ihj=>intro y hy; match y,hy with
      | .arr n f,hy =>
       simp only [AV.at] at hy
       split at hy
       ·rename_i hi; simp only [AV.at,hi,dite_true]; exact ih _ hy
       ·simp at hy
      | .cons c d,hy=>simp only [AV.at] at hy ⊢; exact ihj _ hy
    exact this i y hw
 unfold HP.rd at hv ⊢
 cases hl : h.look i with
 | none=>rw [hl] at hv; simp at hv
 | some b=>rw [hl] at hv; simp only [Option.bind] at hv ⊢; exact key p b.val hv
attribute [go_sem] Option.bind_some Option.bind_none List.append_assoc List.cons_append List.nil_append List.append_nil
@[go_sem] theorem at_nil (v : AV) : v.at [] = some v:=by cases v <;> rfl
@[go_sem] theorem at_arr {n : Nat} {f : Fin n → AV} {i : Nat} (h : i < n) (p : List Nat) : (AV.arr n f).at (i :: p) = (f ⟨i,h⟩).at p:=by simp [AV.at,h]
@[go_sem] theorem at_cons0 (a b : AV) (p : List Nat) : (AV.cons a b).at (0 :: p) = a.at p:=rfl
@[go_sem] theorem at_cons1 (a b : AV) (i : Nat) (p : List Nat) : (AV.cons a b).at ((i + 1) :: p) = b.at (i :: p):=rfl
@[go_sem] theorem put_nil (v x : AV) : v.put [] x = some x:=by cases v <;> rfl
@[go_sem] theorem put_cons0 (a b x : AV) (p : List Nat) : (AV.cons a b).put (0 :: p) x = (a.put p x).map fun y=>.cons y b:=rfl
@[go_sem] theorem put_cons1 (a b x : AV) (i : Nat) (p : List Nat) : (AV.cons a b).put ((i + 1) :: p) x = (b.put (i :: p) x).map fun y=>.cons a y:=rfl
@[go_sem] theorem put_arr {n : Nat} {f : Fin n → AV} {i : Nat} (h : i < n) (p : List Nat) (x : AV) : (AV.arr n f).put (i :: p) x = ((f ⟨i,h⟩).put p x).map fun y=>.arr n fun j=>if j.val = i then y else f j:=by simp [AV.put,h]
@[go_sem] theorem ownW_eq (d : Nat) (p : List Nat) (v : AV) : ownW own d p v = (own.get d).bind fun b=>(b.val.put p v).map fun u=>own.set d ⟨b.ty,u⟩:=by
 simp only [ownW]
 cases own.get d with
 | none=>rfl
 | some b=>simp only [Option.bind]; cases b.val.put p v <;> rfl
@[go_sem] theorem fits_arrK {n : Nat} {t : Ty} {f : Fin n → AV} : ((Ty.arr n t).fits (.arr n f) = true) = ∀ i,t.fits (f i) = true:=by
 simp [Ty.fits]
@[go_sem] theorem fits_cons (a b : Ty) (x y : AV) : ((Ty.cons a b).fits (.cons x y) = true) = (a.fits x = true ∧ b.fits y = true):=by simp [Ty.fits]
@[go_sem] theorem fits_unit : (Ty.unit.fits .unit = true) = True:=by simp [Ty.fits]
@[go_sem] theorem fits_int (k : IntKind) (n : Int) : ((Ty.leaf (.int k)).fits (.int k n) = true) = True:=by simp [Ty.fits,LK.fits,AV.safe]
@[go_sem] theorem fits_str (s : ByteArray) : ((Ty.leaf .str).fits (.str s) = true) = True:=by simp [Ty.fits,LK.fits,AV.safe]
@[go_sem] theorem fits_bool (s : Bool) : ((Ty.leaf .bool).fits (.bool s) = true) = True:=by simp [Ty.fits,LK.fits,AV.safe]
@[go_sem] theorem evBin_int (op : BinOp) (k : IntKind) (a b : Int) : evBin op (.int k a) (.int k b) = evInt op k a b:=by simp [evBin]
@[go_sem] theorem evInt_eql (k : IntKind) (a b : Int) : evInt .eql k a b = some (.bool (decide (a = b))):=by simp [evInt]; rw [Bool.eq_iff_iff]; simp
@[go_sem] theorem evInt_neq (k : IntKind) (a b : Int) : evInt .neq k a b = some (.bool (!decide (a = b))):=by simp [evInt]; rw [Bool.eq_iff_iff]; simp
@[go_sem] theorem evInt_lss (k : IntKind) (a b : Int) : evInt .lss k a b = some (.bool (decide (a < b))):=rfl
@[go_sem] theorem evInt_leq (k : IntKind) (a b : Int) : evInt .leq k a b = some (.bool (decide (a ≤ b))):=rfl
@[go_sem] theorem evInt_gtr (k : IntKind) (a b : Int) : evInt .gtr k a b = some (.bool (decide (b < a))):=rfl
@[go_sem] theorem evInt_geq (k : IntKind) (a b : Int) : evInt .geq k a b = some (.bool (decide (b ≤ a))):=rfl
@[go_sem] theorem evInt_add (k : IntKind) (a b : Int) : evInt .add k a b = some (.int k (k.wrap (a + b))):=rfl
@[go_sem] theorem evInt_sub (k : IntKind) (a b : Int) : evInt .sub k a b = some (.int k (k.wrap (a - b))):=rfl
@[go_sem] theorem evInt_mul (k : IntKind) (a b : Int) : evInt .mul k a b = some (.int k (k.wrap (a * b))):=rfl
@[go_sem] theorem evBin_str (op : BinOp) (a b : ByteArray) : evBin op (.str a) (.str b) = evStr op a b:=rfl
theorem bytes_loop (bs : ByteArray) : ∀ (n i : Nat) (r : List UInt8),bs.size - i = n → i ≤ bs.size → ByteArray.toList.loop bs i r = r.reverse ++ bs.data.toList.drop i:=by
 have hlen : bs.data.toList.length = bs.size:=Array.length_toList
 intro n
 induction n with
 | zero =>
  intro i r h hi
  have e : i = bs.size:=by omega
  subst e
  rw [ByteArray.toList.loop,if_neg (Nat.lt_irrefl _),List.drop_eq_nil_of_le (by omega),List.append_nil]
 | succ n ih =>
  intro i r h hi
  have hlt : i < bs.size:=by omega
  rw [ByteArray.toList.loop,if_pos hlt,ih (i + 1) _ (by omega) (by omega)]
  have hl : i < bs.data.toList.length:=by omega
  rw [List.drop_eq_getElem_cons hl]
  have hg : bs.get! i = bs.data.toList[i]:=by
   cases bs with
   | mk d =>
    have hd : i < d.size:=hlt
    simp [ByteArray.get!,hd]
  simp [hg]
theorem bytes_list (bs : ByteArray) : bs.toList = bs.data.toList:=by
 unfold ByteArray.toList
 rw [bytes_loop bs bs.size 0 [] (by omega) (by omega)]
 simp
theorem bytes_eq (a b : ByteArray) : (a.toList == b.toList) = decide (a = b):=by
 rw [Bool.eq_iff_iff]
 simp only [beq_iff_eq,decide_eq_true_eq]
 constructor
 ·intro h
  rw [bytes_list,bytes_list] at h
  cases a; cases b
  simp only [ByteArray.mk.injEq]
  exact Array.toList_inj.1 h
 ·rintro rfl; rfl
@[go_sem] theorem evStr_eql (a b : ByteArray) : evStr .eql a b = some (.bool (decide (a = b))):=by simp only [evStr,bytes_eq]
@[go_sem] theorem evStr_neq (a b : ByteArray) : evStr .neq a b = some (.bool (!decide (a = b))):=by simp only [evStr,bytes_eq]
@[go_sem] theorem evUn_not (b : Bool) : evUn .not (.bool b) = some (.bool !b):=rfl
@[go_sem] theorem wrap64 {n : Int} (h1 : -9223372036854775808 ≤ n) (h2 : n ≤ 9223372036854775807) : IntKind.i64.wrap n = n:=by
 have e1 : (IntKind.i64).bits = 64:=rfl
 have e2 : (IntKind.i64).signed = true:=rfl
 simp only [IntKind.wrap,e1,e2,Bool.true_and,ge_iff_le,decide_eq_true_eq]
 have p1 : (2 : Int) ^ 64 = 18446744073709551616:=rfl
 have p2 : (2 : Int) ^ (64 - 1) = 9223372036854775808:=rfl
 rw [p1,p2]
 split <;> omega
theorem Ok_eq {fn : MFun} {e : St} {R : AV → HP → Prop} : Ok T cx fn e R = W T cx [.code fn.body] e fun s=>onO (results cx s fn.res) fun v=>R v s.hp:=by
 apply propext
 constructor
 ·rintro ⟨n,s',v,hr,hv,hR⟩
  exact ⟨n,s',hr,by simp only [hv]; exact hR⟩
 ·rintro ⟨n,s',hr,hq⟩
  cases hv : results cx s' fn.res with
  | none=>rw [hv] at hq; exact hq.elim
  | some v=>rw [hv] at hq; exact ⟨n,s',v,hr,hv,hq⟩
theorem Ok.mono {fn : MFun} {e : St} {R R' : AV → HP → Prop} (h : Ok T cx fn e R) (hr : ∀ v h',R v h' → R' v h') : Ok T cx fn e R':=by
 obtain ⟨n,s',v,h1,h2,h3⟩:=h; exact ⟨n,s',v,h1,h2,hr _ _ h3⟩
theorem W_callr {prot : Bool} {hide : List Nat} {f : Nat} {args : List Opd} {d : Option Nat} {fn : MFun} {R : AV → HP → Prop} (hf : T f = some fn) (hp : fn.params = args.length ∧ fn.nfree = 0)
  (hc : Ok T (St.callCx ⟨sl,own,h⟩ cx prot hide) fn (St.enter (args.map (St.opd ⟨sl,own,h⟩)) (h.push cx.lvl (own.veil hide))) R)
  (hq : ∀ v h',R v h' → W T cx (.ops r kill :: k) ((St.pop ⟨sl,own,h⟩ cx.lvl hide h').setd d v) Q) :
  W T cx (.ops (⟨d,.call prot hide f args,none⟩ :: r) kill :: k) ⟨sl,own,h⟩ Q:=by
 refine W_call (R:=R) (cx':=St.callCx ⟨sl,own,h⟩ cx prot hide) (hide:=hide) (e:=St.enter (args.map (St.opd ⟨sl,own,h⟩)) (h.push cx.lvl (own.veil hide))) (fn:=fn) (d:=d) (k1:=.ops r kill :: k) (s1:=⟨sl,own,h⟩) ?_ hc hq
 simp only [next,St.wanted,opCmd,enterCmd,hf]
 rw [if_pos (by simpa using hp)]
 simp
@[go_sem] theorem veil_nil : own.veil [] = own:=rfl
@[go_sem] theorem callCx_lvl (s : St) (p : Bool) (hide : List Nat) : (s.callCx cx p hide).lvl = cx.lvl + 1:=rfl
theorem HP.push_rd_own {d : Nat} {p : List Nat} : (h.push cx.lvl own).rd (.stk cx.lvl d) p = (own.get d).bind fun b=>b.val.at p:=by
 simp [HP.rd,HP.look,HP.push]
theorem HP.push_rd_ext {i : Id} (hi : i.below cx.lvl) {p : List Nat} : (h.push cx.lvl own).rd i p = h.rd i p:=by
 cases i <;> simp only [HP.rd,HP.look,HP.push]
 simp only [Id.below] at hi
 rw [if_neg (by omega)]
theorem pop_push : St.pop ⟨sl,own,h⟩ cx.lvl [] (h.push cx.lvl own) = ⟨sl,own,h⟩:=by
 simp only [St.pop,HP.pop,HP.push,Own.unveil,if_true]
 congr 1
 cases h
 simp only [HP.mk.injEq,and_true]
 funext l
 by_cases hl : l = cx.lvl <;> simp [hl]
theorem W_callp {prot : Bool} {f : Nat} {args : List Opd} {d : Option Nat} {fn : MFun} {v : AV} (hf : T f = some fn) (hp : fn.params = args.length ∧ fn.nfree = 0)
  (hc : Ok T (St.callCx ⟨sl,own,h⟩ cx prot) fn (St.enter (args.map (St.opd ⟨sl,own,h⟩)) (h.push cx.lvl own)) fun v' h'=>v' = v ∧ h' = h.push cx.lvl own)
  (hq : W T cx (.ops r kill :: k) (St.setd ⟨sl,own,h⟩ d v) Q) :
  W T cx (.ops (⟨d,.call prot [] f args,none⟩ :: r) kill :: k) ⟨sl,own,h⟩ Q:=by
 refine W_callr hf hp hc ?_
 rintro v h' ⟨rfl,rfl⟩
 rw [pop_push]; exact hq
@[go_sem] theorem results_tmp {t : Nat} : results cx ⟨sl,own,h⟩ [.tmp t] = if (sl.get t).safe = true then some (sl.get t) else none:=rfl
@[go_sem] theorem safe_int (k : IntKind) (n : Int) : (AV.int k n).safe = true:=rfl
@[go_sem] theorem safe_bool (b : Bool) : (AV.bool b).safe = true:=rfl
@[go_sem] theorem safe_str (b : ByteArray) : (AV.str b).safe = true:=rfl
def cellV (cx : Cx) (s : St) (t : AV) (ty : Ty) : Option AV:=match t with
 | .ptr i [] t'=>if ty = t' then (s.look cx i).bind fun b=>if b.ty = ty ∧ (b.val.isAgg || b.val.safe) = true then some b.val else none else none
 | _=>none
@[go_sem] theorem results_cell {t : Nat} {ty : Ty} : results cx ⟨sl,own,h⟩ [.cell t ty] = cellV cx ⟨sl,own,h⟩ (sl.get t) ty:=rfl
@[go_sem] theorem cellV_own {d : Nat} {ty : Ty} : cellV cx ⟨sl,own,h⟩ (.ptr (.stk cx.lvl d) [] ty) ty = (own.get d).bind fun b=>if b.ty = ty ∧ (b.val.isAgg || b.val.safe) = true then some b.val else none:=by
 simp [cellV,St.look,Id.own]
end
abbrev Str:=ByteArray
structure Ent where
 name : Str
 ino : Int
 stamp : Int
 deriving DecidableEq
structure Ino where
 live : Bool
 stamp : Int
 links : Int
 part : Vector Int 2
 deriving DecidableEq
structure Dat where
 of : Int
 text : Str
 deriving DecidableEq
structure Img where
 inode : Vector Ino 8
 dir : Vector (Vector Ent 4) 3
 data : Vector Dat 9
 deriving DecidableEq
def encV {α : Type} {n : Nat} (f : α → AV) (v : Vector α n) : AV:=.arr n fun i=>f v[i]
def setV {α : Type} {n : Nat} (f : α → AV) (v : Vector α n) (i : Nat) (y : AV) : AV:=.arr n fun j=>if j.val = i then y else f v[j]
def Ent.enc (e : Ent) : AV:=.cons (.str e.name) (.cons (.int .i64 e.ino) (.cons (.int .i64 e.stamp) .unit))
def Ino.enc (e : Ino) : AV:=.cons (.bool e.live) (.cons (.int .i64 e.stamp) (.cons (.int .i64 e.links) (.cons (encV (AV.int .i64) e.part) .unit)))
def Dat.enc (e : Dat) : AV:=.cons (.int .i64 e.of) (.cons (.str e.text) .unit)
def Img.enc (e : Img) : AV:=.cons (encV Ino.enc e.inode) (.cons (encV (encV Ent.enc) e.dir) (.cons (encV Dat.enc e.data) .unit))
section
variable {α : Type} {n : Nat} {f : α → AV} {v w : Vector α n}
@[go_sem] theorem at_encV {i : Nat} (h : i < n) (p : List Nat) : (encV f v).at (i :: p) = (f v[i]).at p:=by simp [encV,AV.at,h]
@[go_sem] theorem put_encV {i : Nat} (h : i < n) (p : List Nat) (x : AV) : (encV f v).put (i :: p) x = ((f v[i]).put p x).map (setV f v i):=by
 simp [encV,AV.put,h]; rfl
@[go_sem] theorem setV_f {i : Nat} (h : i < n) (y : α) : setV f v i (f y) = encV f (v.set i y):=by
 simp only [setV,encV]
 congr 1; funext j
 simp only [Fin.getElem_fin,Vector.getElem_set]
 by_cases hj : j.val = i
 ·simp [hj]
 ·have hj' : ¬i = j.val:=fun e=>hj e.symm
  simp [hj,hj']
@[go_sem] theorem fg_encV (i : Id) : fg (encV f v) i = encV f v:=rfl
@[go_sem] theorem leads_encV (i : Id) : (encV f v).leads i = false:=rfl
@[go_sem] theorem isAgg_encV : (encV f v).isAgg = true:=rfl
theorem fits_encV {t : Ty} (h : ∀ x,t.fits (f x) = true) : (Ty.arr n t).fits (encV f v) = true:=by
 simp [encV,Ty.fits,h]
theorem andEq_dec (p q : Prop) [Decidable p] [Decidable q] : andEq (some (decide p)) (some (decide q)) = some (decide (p ∧ q)):=by
 by_cases hp : p <;> simp [hp,andEq]
theorem eq_encV [DecidableEq α] (hf : ∀ x y,(f x).eq (f y) = some (decide (x = y))) : (encV f v).eq (encV f w) = some (decide (v = w)):=by
 simp only [encV,AV.eq,dite_true]
 have key : ∀ l : List (Fin n),l.foldr (fun i acc=>andEq ((f v[i]).eq (f w[i])) acc) (some true) = some (decide (∀ i ∈ l,v[i] = w[i])):=by
  intro l
  induction l with
  | nil=>simp
  | cons a l ih =>
   rw [List.foldr_cons,ih,hf,andEq_dec]
   congr 1
   rw [decide_eq_decide]
   exact (List.forall_mem_cons (p:=fun i=>v[i] = w[i])).symm
 refine (key (List.finRange n)).trans ?_
 congr 1
 rw [decide_eq_decide]
 constructor
 ·intro h; ext i hi; exact h ⟨i,hi⟩ (List.mem_finRange _)
 ·rintro rfl i _; rfl
end
@[go_sem] theorem aidxV_encV {α : Type} {f : α → AV} {n : Nat} {t : Ty} {v : Vector α n} {k : IntKind} {m : Nat} (hm : m < n) : aidxV n t (encV f v) (.int k (m : Int)) = if (Ty.arr n t).fits (encV f v) = true then some (f v[m]) else none:=by
 simp only [encV,aidxV,toIx]
 rw [dif_pos ⟨by omega,by omega⟩]
 rfl
@[go_sem] theorem at_ent0 (e : Ent) : e.enc.at [0] = some (.str e.name):=rfl
@[go_sem] theorem at_ent1 (e : Ent) : e.enc.at [1] = some (.int .i64 e.ino):=rfl
@[go_sem] theorem at_ent2 (e : Ent) : e.enc.at [2] = some (.int .i64 e.stamp):=rfl
@[go_sem] theorem at_ino0 (e : Ino) : e.enc.at [0] = some (.bool e.live):=rfl
@[go_sem] theorem at_ino1 (e : Ino) : e.enc.at [1] = some (.int .i64 e.stamp):=rfl
@[go_sem] theorem at_ino2 (e : Ino) : e.enc.at [2] = some (.int .i64 e.links):=rfl
@[go_sem] theorem at_ino3 (e : Ino) (p : List Nat) : e.enc.at (3 :: p) = (encV (AV.int .i64) e.part).at p:=rfl
@[go_sem] theorem at_dat0 (e : Dat) : e.enc.at [0] = some (.int .i64 e.of):=rfl
@[go_sem] theorem at_dat1 (e : Dat) : e.enc.at [1] = some (.str e.text):=rfl
@[go_sem] theorem at_img0 (e : Img) (p : List Nat) : e.enc.at (0 :: p) = (encV Ino.enc e.inode).at p:=rfl
@[go_sem] theorem at_img1 (e : Img) (p : List Nat) : e.enc.at (1 :: p) = (encV (encV Ent.enc) e.dir).at p:=rfl
@[go_sem] theorem at_img2 (e : Img) (p : List Nat) : e.enc.at (2 :: p) = (encV Dat.enc e.data).at p:=rfl
@[go_sem] theorem put_ent0 (e : Ent) (s : Str) : e.enc.put [0] (.str s) = some (Ent.enc { e with name:=s }):=rfl
@[go_sem] theorem put_ent1 (e : Ent) (n : Int) : e.enc.put [1] (.int .i64 n) = some (Ent.enc { e with ino:=n }):=rfl
@[go_sem] theorem put_ent2 (e : Ent) (n : Int) : e.enc.put [2] (.int .i64 n) = some (Ent.enc { e with stamp:=n }):=rfl
@[go_sem] theorem put_ino0 (e : Ino) (b : Bool) : e.enc.put [0] (.bool b) = some (Ino.enc { e with live:=b }):=rfl
@[go_sem] theorem put_ino1 (e : Ino) (n : Int) : e.enc.put [1] (.int .i64 n) = some (Ino.enc { e with stamp:=n }):=rfl
@[go_sem] theorem put_ino2 (e : Ino) (n : Int) : e.enc.put [2] (.int .i64 n) = some (Ino.enc { e with links:=n }):=rfl
@[go_sem] theorem put_ino3 (e : Ino) {i : Nat} (h : i < 2) (n : Int) : e.enc.put [3,i] (.int .i64 n) = some (Ino.enc { e with part:=e.part.set i n }):=by
 have key : (encV (AV.int .i64) e.part).put [i] (.int .i64 n) = some (encV (AV.int .i64) (e.part.set i n)):=by
  rw [put_encV h,put_nil,Option.map_some,setV_f h]
 show ((((((encV (AV.int .i64) e.part).put [i] (.int .i64 n)).map fun y=>AV.cons y .unit).map fun y=>AV.cons (.int .i64 e.links) y).map fun y=>AV.cons (.int .i64 e.stamp) y).map fun y=>AV.cons (.bool e.live) y) = _
 rw [key]; rfl
@[go_sem] theorem put_dat0 (e : Dat) (n : Int) : e.enc.put [0] (.int .i64 n) = some (Dat.enc { e with of:=n }):=rfl
@[go_sem] theorem put_dat1 (e : Dat) (s : Str) : e.enc.put [1] (.str s) = some (Dat.enc { e with text:=s }):=rfl
@[go_sem] theorem put_img0 (e : Img) {i : Nat} (h : i < 8) (p : List Nat) (x : AV) : e.enc.put (0 :: i :: p) x = (e.inode[i].enc.put p x).map fun y=>.cons (setV Ino.enc e.inode i y) (.cons (encV (encV Ent.enc) e.dir) (.cons (encV Dat.enc e.data) .unit)):=by
 simp only [Img.enc]
 rw [put_cons0,put_encV h,Option.map_map]; rfl
@[go_sem] theorem img_ino (e : Img) {i : Nat} (h : i < 8) (y : Ino) : AV.cons (setV Ino.enc e.inode i y.enc) (.cons (encV (encV Ent.enc) e.dir) (.cons (encV Dat.enc e.data) .unit)) = Img.enc { e with inode:=e.inode.set i y }:=by
 rw [setV_f h]; rfl
@[go_sem] theorem put_img2 (e : Img) {i : Nat} (h : i < 9) (p : List Nat) (x : AV) : e.enc.put (2 :: i :: p) x = (e.data[i].enc.put p x).map fun y=>.cons (encV Ino.enc e.inode) (.cons (encV (encV Ent.enc) e.dir) (.cons (setV Dat.enc e.data i y) .unit)):=by
 have key:=put_encV (f:=Dat.enc) (v:=e.data) h p x
 show ((((encV Dat.enc e.data).put (i :: p) x).map fun y=>AV.cons y .unit).map fun y=>AV.cons (encV (encV Ent.enc) e.dir) y).map (fun y=>AV.cons (encV Ino.enc e.inode) y) = _
 rw [key]
 cases e.data[i].enc.put p x <;> rfl
@[go_sem] theorem img_dat (e : Img) {i : Nat} (h : i < 9) (y : Dat) : AV.cons (encV Ino.enc e.inode) (.cons (encV (encV Ent.enc) e.dir) (.cons (setV Dat.enc e.data i y.enc) .unit)) = Img.enc { e with data:=e.data.set i y }:=by
 rw [setV_f h]; rfl
@[go_sem] theorem put_img1 (e : Img) {i j : Nat} (h : i < 3) (hj : j < 4) (p : List Nat) (x : AV) : e.enc.put (1 :: i :: j :: p) x = (e.dir[i][j].enc.put p x).map fun y=>.cons (encV Ino.enc e.inode) (.cons (setV (encV Ent.enc) e.dir i (setV Ent.enc e.dir[i] j y)) (.cons (encV Dat.enc e.data) .unit)):=by
 have key : (encV (encV Ent.enc) e.dir).put (i :: j :: p) x = (e.dir[i][j].enc.put p x).map fun y=>setV (encV Ent.enc) e.dir i (setV Ent.enc e.dir[i] j y):=by
  rw [put_encV h,put_encV hj,Option.map_map]; rfl
 show (((encV (encV Ent.enc) e.dir).put (i :: j :: p) x).map fun y=>AV.cons y (.cons (encV Dat.enc e.data) .unit)).map (fun y=>AV.cons (encV Ino.enc e.inode) y) = _
 rw [key]
 cases e.dir[i][j].enc.put p x <;> rfl
@[go_sem] theorem img_dir (e : Img) {i j : Nat} (h : i < 3) (hj : j < 4) (y : Ent) : AV.cons (encV Ino.enc e.inode) (.cons (setV (encV Ent.enc) e.dir i (setV Ent.enc e.dir[i] j y.enc)) (.cons (encV Dat.enc e.data) .unit)) = Img.enc { e with dir:=e.dir.set i (e.dir[i].set j y) }:=by
 rw [setV_f hj,setV_f h]; rfl
@[go_sem] theorem put_img_row (e : Img) {i : Nat} (h : i < 3) (y : Vector Ent 4) : e.enc.put [1,i] (encV Ent.enc y) = some (Img.enc { e with dir:=e.dir.set i y }):=by
 have key : (encV (encV Ent.enc) e.dir).put [i] (encV Ent.enc y) = some (encV (encV Ent.enc) (e.dir.set i y)):=by
  rw [put_encV h,put_nil,Option.map_some,setV_f h]
 show (((encV (encV Ent.enc) e.dir).put [i] (encV Ent.enc y)).map fun y=>AV.cons y (.cons (encV Dat.enc e.data) .unit)).map (fun y=>AV.cons (encV Ino.enc e.inode) y) = _
 rw [key]; rfl
theorem fits_ent' (e : Ent) : tEntry.fits e.enc = true:=rfl
theorem fits_ino' (e : Ino) : tInode.fits e.enc = true:=rfl
theorem fits_dat' (e : Dat) : tData.fits e.enc = true:=rfl
theorem fits_row' (v : Vector Ent 4) : tRow.fits (encV Ent.enc v) = true:=fits_encV fits_ent'
theorem fits_dirs' (v : Vector (Vector Ent 4) 3) : tDirs.fits (encV (encV Ent.enc) v) = true:=fits_encV fits_row'
theorem fits_inodes' (v : Vector Ino 8) : tInodes.fits (encV Ino.enc v) = true:=fits_encV fits_ino'
theorem fits_datas' (v : Vector Dat 9) : tDatas.fits (encV Dat.enc v) = true:=fits_encV fits_dat'
theorem fits_parts' (v : Vector Int 2) : tParts.fits (encV (AV.int .i64) v) = true:=fits_encV (t:=tI) fun _=>rfl
theorem fits_img' (e : Img) : tImage.fits e.enc = true:=by
 show (Ty.cons tInodes (.cons tDirs (.cons tDatas .unit))).fits (AV.cons _ (.cons _ (.cons _ .unit))) = true
 simp only [fits_cons,fits_unit,fits_inodes',fits_dirs',fits_datas',and_self]
@[go_sem] theorem fits_ent (e : Ent) : (tEntry.fits e.enc = true) = True:=eq_true (fits_ent' e)
@[go_sem] theorem fits_ino (e : Ino) : (tInode.fits e.enc = true) = True:=eq_true (fits_ino' e)
@[go_sem] theorem fits_dat (e : Dat) : (tData.fits e.enc = true) = True:=eq_true (fits_dat' e)
@[go_sem] theorem fits_img (e : Img) : (tImage.fits e.enc = true) = True:=eq_true (fits_img' e)
@[go_sem] theorem fits_row (v : Vector Ent 4) : (tRow.fits (encV Ent.enc v) = true) = True:=eq_true (fits_row' v)
@[go_sem] theorem fits_dirs (v : Vector (Vector Ent 4) 3) : (tDirs.fits (encV (encV Ent.enc) v) = true) = True:=eq_true (fits_dirs' v)
@[go_sem] theorem fits_inodes (v : Vector Ino 8) : (tInodes.fits (encV Ino.enc v) = true) = True:=eq_true (fits_inodes' v)
@[go_sem] theorem fits_datas (v : Vector Dat 9) : (tDatas.fits (encV Dat.enc v) = true) = True:=eq_true (fits_datas' v)
@[go_sem] theorem fits_parts (v : Vector Int 2) : (tParts.fits (encV (AV.int .i64) v) = true) = True:=eq_true (fits_parts' v)
@[go_sem] theorem fits_row4 (v : Vector Ent 4) : ((Ty.arr 4 tEntry).fits (encV Ent.enc v) = true) = True:=fits_row v
@[go_sem] theorem fits_dirs3 (v : Vector (Vector Ent 4) 3) : ((Ty.arr 3 tRow).fits (encV (encV Ent.enc) v) = true) = True:=fits_dirs v
@[go_sem] theorem fits_inodes8 (v : Vector Ino 8) : ((Ty.arr 8 tInode).fits (encV Ino.enc v) = true) = True:=fits_inodes v
@[go_sem] theorem fits_datas9 (v : Vector Dat 9) : ((Ty.arr 9 tData).fits (encV Dat.enc v) = true) = True:=fits_datas v
@[go_sem] theorem fits_parts2 (v : Vector Int 2) : ((Ty.arr 2 tI).fits (encV (AV.int .i64) v) = true) = True:=fits_parts v
@[go_sem] theorem fits_tI (n : Int) : (tI.fits (.int .i64 n) = true) = True:=eq_true rfl
@[go_sem] theorem fits_tB (n : Bool) : (tB.fits (.bool n) = true) = True:=eq_true rfl
@[go_sem] theorem fits_tS (n : Str) : (tS.fits (.str n) = true) = True:=eq_true rfl
@[go_sem] theorem fitO_ite (t : Ty) (v : AV) : fitO t (some v) = if t.fits v = true then some v else none:=rfl
@[go_sem] theorem fg_ent (e : Ent) (i : Id) : fg e.enc i = e.enc:=rfl
@[go_sem] theorem fg_ino (e : Ino) (i : Id) : fg e.enc i = e.enc:=rfl
@[go_sem] theorem fg_dat (e : Dat) (i : Id) : fg e.enc i = e.enc:=rfl
@[go_sem] theorem fg_img (e : Img) (i : Id) : fg e.enc i = e.enc:=rfl
@[go_sem] theorem leads_ent (e : Ent) (i : Id) : e.enc.leads i = false:=rfl
@[go_sem] theorem leads_ino (e : Ino) (i : Id) : e.enc.leads i = false:=rfl
@[go_sem] theorem leads_dat (e : Dat) (i : Id) : e.enc.leads i = false:=rfl
@[go_sem] theorem leads_img (e : Img) (i : Id) : e.enc.leads i = false:=rfl
@[go_sem] theorem isAgg_ent (e : Ent) : e.enc.isAgg = true:=rfl
@[go_sem] theorem isAgg_ino (e : Ino) : e.enc.isAgg = true:=rfl
@[go_sem] theorem isAgg_dat (e : Dat) : e.enc.isAgg = true:=rfl
@[go_sem] theorem isAgg_img (e : Img) : e.enc.isAgg = true:=rfl
theorem eq_int (a b : Int) : (AV.int .i64 a).eq (AV.int .i64 b) = some (decide (a = b)):=by
 show some (a == b) = _
 congr 1
theorem eq_str (a b : Str) : (AV.str a).eq (AV.str b) = some (decide (a = b)):=by
 show some (a == b) = _
 congr 1
 cases a with | mk x=>cases b with | mk y =>
 rw [Bool.eq_iff_iff,decide_eq_true_eq,ByteArray.mk.injEq]
 show (x == y) = true ↔ _
 exact beq_iff_eq
theorem eq_bool (a b : Bool) : (AV.bool a).eq (AV.bool b) = some (decide (a = b)):=by
 show some (a == b) = _
 congr 1
theorem eq_cons (a b c d : AV) : (AV.cons a b).eq (.cons c d) = andEq (a.eq c) (b.eq d):=rfl
theorem eq_unit : AV.unit.eq .unit = some true:=rfl
theorem andEq_tt (p : Prop) [Decidable p] : andEq (some (decide p)) (some true) = some (decide p):=by
 by_cases hp : p <;> simp [hp,andEq]
theorem eq_ent (a b : Ent) : a.enc.eq b.enc = some (decide (a = b)):=by
 simp only [Ent.enc,eq_cons,eq_unit,eq_int,eq_str,andEq_dec,andEq_tt]
 congr 1; rw [decide_eq_decide]; cases a; cases b; simp
theorem eq_dat (a b : Dat) : a.enc.eq b.enc = some (decide (a = b)):=by
 simp only [Dat.enc,eq_cons,eq_unit,eq_int,eq_str,andEq_dec,andEq_tt]
 congr 1; rw [decide_eq_decide]; cases a; cases b; simp
theorem eq_ino (a b : Ino) : a.enc.eq b.enc = some (decide (a = b)):=by
 have h1 : ∀ v w : Vector Int 2,(encV (AV.int .i64) v).eq (encV (AV.int .i64) w) = some (decide (v = w)):=fun v w=>eq_encV eq_int
 simp only [Ino.enc]
 simp only [eq_cons,eq_unit,h1,eq_bool,eq_int,andEq_dec,andEq_tt]
 congr 1; rw [decide_eq_decide]; cases a; cases b; simp
theorem eq_row (v w : Vector Ent 4) : (encV Ent.enc v).eq (encV Ent.enc w) = some (decide (v = w)):=eq_encV eq_ent
theorem eq_img (a b : Img) : a.enc.eq b.enc = some (decide (a = b)):=by
 have h1 : ∀ v w : Vector Ino 8,(encV Ino.enc v).eq (encV Ino.enc w) = some (decide (v = w)):=fun v w=>eq_encV eq_ino
 have h2 : ∀ v w : Vector (Vector Ent 4) 3,(encV (encV Ent.enc) v).eq (encV (encV Ent.enc) w) = some (decide (v = w)):=fun v w=>eq_encV eq_row
 have h3 : ∀ v w : Vector Dat 9,(encV Dat.enc v).eq (encV Dat.enc w) = some (decide (v = w)):=fun v w=>eq_encV eq_dat
 simp only [Img.enc]
 simp only [eq_cons,eq_unit,h1,h2,h3,andEq_dec,andEq_tt]
 congr 1; rw [decide_eq_decide]; cases a; cases b; simp
theorem eqV_of {t : Ty} {neg : Bool} {x y : AV} {b : Bool} (hx : t.eqOk x = true) (hy : t.eqOk y = true) (h : x.eq y = some b) : eqV t neg x y = some (.bool (if neg = true then !b else b)):=by
 simp only [eqV,hx,hy,h,Bool.and_self,if_true,Option.map_some]
@[go_sem] theorem eqV_ent (neg : Bool) (a b : Ent) : eqV tEntry neg a.enc b.enc = some (.bool (if neg = true then !decide (a = b) else decide (a = b))):=eqV_of rfl rfl (eq_ent a b)
@[go_sem] theorem eqV_ino (neg : Bool) (a b : Ino) : eqV tInode neg a.enc b.enc = some (.bool (if neg = true then !decide (a = b) else decide (a = b))):=eqV_of rfl rfl (eq_ino a b)
@[go_sem] theorem eqV_dat (neg : Bool) (a b : Dat) : eqV tData neg a.enc b.enc = some (.bool (if neg = true then !decide (a = b) else decide (a = b))):=eqV_of rfl rfl (eq_dat a b)
@[go_sem] theorem eqV_img (neg : Bool) (a b : Img) : eqV tImage neg a.enc b.enc = some (.bool (if neg = true then !decide (a = b) else decide (a = b))):=eqV_of (fits_img' a) (fits_img' b) (eq_img a b)
@[go_sem] theorem eqV_row (neg : Bool) (a b : Vector Ent 4) : eqV tRow neg (encV Ent.enc a) (encV Ent.enc b) = some (.bool (if neg = true then !decide (a = b) else decide (a = b))):=eqV_of (fits_row' a) (fits_row' b) (eq_row a b)
def Ent.zero : Ent:=⟨ByteArray.empty,0,0⟩
def Dat.zero : Dat:=⟨0,ByteArray.empty⟩
def Ino.zero : Ino:=⟨false,0,0,Vector.replicate 2 0⟩
def Ino.none : Ino:=⟨false,0,0,Vector.replicate 2 (-1)⟩
def Img.zero : Img:=⟨Vector.replicate 8 Ino.zero,Vector.replicate 3 (Vector.replicate 4 Ent.zero),Vector.replicate 9 Dat.zero⟩
theorem zero_encV {α : Type} {n : Nat} {f : α → AV} {t : Ty} {a : α} (h : t.zero = f a) : (Ty.arr n t).zero = encV f (Vector.replicate n a):=by
 simp [Ty.zero,encV,h]
@[go_sem] theorem zero_ent : tEntry.zero = Ent.zero.enc:=rfl
@[go_sem] theorem zero_dat : tData.zero = Dat.zero.enc:=rfl
theorem zero_parts : tParts.zero = encV (AV.int .i64) (Vector.replicate 2 0):=zero_encV (t:=tI) rfl
@[go_sem] theorem zero_ino : tInode.zero = Ino.zero.enc:=by
 show AV.cons _ (.cons _ (.cons _ (.cons tParts.zero _))) = _
 rw [zero_parts]; rfl
@[go_sem] theorem zero_row : tRow.zero = encV Ent.enc (Vector.replicate 4 Ent.zero):=zero_encV zero_ent
@[go_sem] theorem zero_img : tImage.zero = Img.zero.enc:=by
 show AV.cons tInodes.zero (.cons tDirs.zero (.cons tDatas.zero .unit)) = _
 rw [show tInodes.zero = encV Ino.enc (Vector.replicate 8 Ino.zero) from zero_encV zero_ino,show tDirs.zero = encV (encV Ent.enc) (Vector.replicate 3 (Vector.replicate 4 Ent.zero)) from zero_encV zero_row,show tDatas.zero = encV Dat.enc (Vector.replicate 9 Dat.zero) from zero_encV zero_dat]; rfl
@[go_sem] theorem zero_tI : tI.zero = .int .i64 0:=rfl
@[go_sem] theorem zero_tB : tB.zero = .bool false:=rfl
@[go_sem] theorem zero_tS : tS.zero = .str ByteArray.empty:=rfl
@[go_sem] theorem field_img0 : tImage.field 0 = some tInodes:=rfl
@[go_sem] theorem field_img1 : tImage.field 1 = some tDirs:=rfl
@[go_sem] theorem field_img2 : tImage.field 2 = some tDatas:=rfl
@[go_sem] theorem field_ino0 : tInode.field 0 = some tB:=rfl
@[go_sem] theorem field_ino1 : tInode.field 1 = some tI:=rfl
@[go_sem] theorem field_ino2 : tInode.field 2 = some tI:=rfl
@[go_sem] theorem field_ino3 : tInode.field 3 = some tParts:=rfl
@[go_sem] theorem field_ent0 : tEntry.field 0 = some tS:=rfl
@[go_sem] theorem field_ent1 : tEntry.field 1 = some tI:=rfl
@[go_sem] theorem field_ent2 : tEntry.field 2 = some tI:=rfl
@[go_sem] theorem field_dat0 : tData.field 0 = some tI:=rfl
@[go_sem] theorem field_dat1 : tData.field 1 = some tS:=rfl
@[go_sem] theorem idxV_dirs (j : Id) (p : List Nat) (i : AV) : idxV 3 tRow (.ptr j p tDirs) i = idxV 3 tRow (.ptr j p (.arr 3 tRow)) i:=rfl
@[go_sem] theorem idxV_row (j : Id) (p : List Nat) (i : AV) : idxV 4 tEntry (.ptr j p tRow) i = idxV 4 tEntry (.ptr j p (.arr 4 tEntry)) i:=rfl
@[go_sem] theorem idxV_inodes (j : Id) (p : List Nat) (i : AV) : idxV 8 tInode (.ptr j p tInodes) i = idxV 8 tInode (.ptr j p (.arr 8 tInode)) i:=rfl
@[go_sem] theorem idxV_datas (j : Id) (p : List Nat) (i : AV) : idxV 9 tData (.ptr j p tDatas) i = idxV 9 tData (.ptr j p (.arr 9 tData)) i:=rfl
@[go_sem] theorem idxV_parts (j : Id) (p : List Nat) (i : AV) : idxV 2 tI (.ptr j p tParts) i = idxV 2 tI (.ptr j p (.arr 2 tI)) i:=rfl
@[go_sem] theorem fldV_ptr' (st : Ty) (i : Nat) (ft : Ty) (j : Id) (p : List Nat) : fldV st i ft (.ptr j p st) = if st.field i = some ft then some (.ptr j (p ++ [i]) ft) else none:=fldV_ptr ..
def Img.ent (m : Img) (d s : Nat) : Ent:=if h : d < 3 ∧ s < 4 then (m.dir[d]'h.1)[s]'h.2 else .zero
def Img.ino (m : Img) (n : Nat) : Ino:=if h : n < 8 then m.inode[n] else .zero
def Img.dat (m : Img) (x : Nat) : Dat:=if h : x < 9 then m.data[x] else .zero
def Ino.prt (i : Ino) (p : Nat) : Int:=if h : p < 2 then i.part[p] else 0
@[go_sem] theorem ent_eq (m : Img) {d s : Nat} (h : d < 3) (h2 : s < 4) : (m.dir[d]'h)[s]'h2 = m.ent d s:=by simp [Img.ent,h,h2]
@[go_sem] theorem ino_eq (m : Img) {n : Nat} (h : n < 8) : m.inode[n]'h = m.ino n:=by simp [Img.ino,h]
@[go_sem] theorem dat_eq (m : Img) {n : Nat} (h : n < 9) : m.data[n]'h = m.dat n:=by simp [Img.dat,h]
@[go_sem] theorem prt_eq (m : Ino) {n : Nat} (h : n < 2) : m.part[n]'h = m.prt n:=by simp [Ino.prt,h]
def sumN : Nat → (Nat → Nat) → Nat
 | 0,_=>0
 | n + 1,f=>sumN n f + f n
def b2n (b : Bool) : Nat:=if b then 1 else 0
theorem b2n_le (b : Bool) : b2n b ≤ 1:=by cases b <;> simp [b2n]
theorem sumN_le {f : Nat → Nat} {c : Nat} (h : ∀ i,f i ≤ c) : ∀ n,sumN n f ≤ n * c
 | 0=>by simp [sumN]
 | n + 1=>by
  have:=sumN_le h n; have:=h n
  rw [sumN,Nat.add_mul,Nat.one_mul]; omega
theorem sumN_succ (n : Nat) (f : Nat → Nat) : sumN (n + 1) f = sumN n f + f n:=rfl
def leads (m : Img) (d s : Nat) (i : Int) : Bool:=!decide ((m.ent d s).name = ⟨#[]⟩) && decide ((m.ent d s).ino = i)
def refsRow (m : Img) (i : Int) (d k : Nat) : Nat:=sumN k fun s=>b2n (leads m d s i)
def refs (m : Img) (i : Int) : Nat:=sumN 3 fun d=>refsRow m i d 4
theorem refsRow_le (m : Img) (i : Int) (d k : Nat) : refsRow m i d k ≤ k:=by
 have:=sumN_le (fun s=>b2n_le (leads m d s i)) k; simpa [refsRow] using this
theorem refsRow_succ (m : Img) (i : Int) (d k : Nat) : refsRow m i d (k + 1) = refsRow m i d k + b2n (leads m d k i):=rfl
attribute [go_sem] Int.natCast_add Int.cast_ofNat_Int
@[go_sem] theorem dec_t {p : Prop} [Decidable p] (h : p) : decide p = true:=decide_eq_true h
@[go_sem] theorem dec_f {p : Prop} [Decidable p] (h : ¬p) : decide p = false:=decide_eq_false h
theorem W_for {T : Nat → Option MFun} {cx : Cx} {keep ko : List Nat} {b : MC} {k : List Item} {s : St} {Q : St → Prop} (N : Nat) (S : Nat → St) (h0 : s.keep keep ko = S 0)
  (step : ∀ j,j ≤ N → (∀ s',j < N → s'.keep keep ko = S (j + 1) → W T cx (.inLoop keep ko b :: k) s' Q) → W T cx (.code b :: .inLoop keep ko b :: k) (S j) Q) :
  W T cx (.code (.loop keep ko b) :: k) s Q :=
 W_loop N (fun j s=>s = S j) h0 fun j s hj hs ih=>by subst hs; exact step j hj ih
section
variable {T : Nat → Option MFun} {cx : Cx} {k : List Item} {kill : List Nat} {r : List MOp} {sl : Slots} {own : Own} {h : HP} {Q : St → Prop}
theorem W_round {a b : List Nat} {c : MC} {s : St} : W T cx (.code (.loop a b c) :: k) s Q = W T cx (.code c :: .inLoop a b c :: k) (s.keep a b) Q:=W_iff rfl
theorem W_again {a b : List Nat} {c : MC} {s : St} : W T cx (.inLoop a b c :: k) s Q = W T cx (.code c :: .inLoop a b c :: k) (s.keep a b) Q:=W_iff rfl
@[go_sem] theorem enter0 : St.enter [] h = ⟨[],[],h⟩:=rfl
@[go_sem] theorem enter1 (a : AV) : St.enter [a] h = ⟨[(0,a)],[],h⟩:=rfl
@[go_sem] theorem enter2 (a b : AV) : St.enter [a,b] h = ⟨[(0,a),(1,b)],[],h⟩:=rfl
@[go_sem] theorem enter3 (a b c : AV) : St.enter [a,b,c] h = ⟨[(0,a),(1,b),(2,c)],[],h⟩:=rfl
@[go_sem] theorem enter4 (a b c d : AV) : St.enter [a,b,c,d] h = ⟨[(0,a),(1,b),(2,c),(3,d)],[],h⟩:=rfl
@[go_sem] theorem enter5 (a b c d e : AV) : St.enter [a,b,c,d,e] h = ⟨[(0,a),(1,b),(2,c),(3,d),(4,e)],[],h⟩:=rfl
attribute [go_sem] Nat.reduceAdd Nat.reduceMul Nat.reduceSub Int.reduceAdd Int.reduceToNat Int.reduceLT Int.reduceLE Int.reduceEq Int.reduceMul Int.reduceSub Int.reduceNeg Int.toNat_natCast
@[go_sem] theorem img_mk (a : Vector Ino 8) (b : Vector (Vector Ent 4) 3) (c : Vector Dat 9) : AV.cons (encV Ino.enc a) (.cons (encV (encV Ent.enc) b) (.cons (encV Dat.enc c) .unit)) = Img.enc ⟨a,b,c⟩:=rfl
@[go_sem] theorem dec_T [inst : Decidable True] : @decide True inst = true:=decide_eq_true trivial
@[go_sem] theorem dec_F [inst : Decidable False] : @decide False inst = false:=decide_eq_false id
@[go_sem] theorem into_self (i : Id) (p : List Nat) (t : Ty) : AV.into i (.ptr i p t) = true:=by simp [AV.into]
theorem apart_ptr {i : Id} {l t : Nat} (h : i.below l) (p : List Nat) (u : Ty) : AV.apart (.stk l t) (.ptr i p u) = true:=by
 have : (i == Id.stk l t) = false:=by simpa using h.ne
 simp [AV.apart,this]
@[go_sem] theorem apart_own (l s t : Nat) (p : List Nat) (u : Ty) : AV.apart (.stk l t) (.ptr (.stk l s) p u) = !(s == t):=by
 simp only [AV.apart]; congr 1; rw [Bool.eq_iff_iff]; simp
@[go_sem] theorem all_one {α : Type} (a : α) (P : α → Prop) : (∀ u ∈ [a],P u) = P a:=by simp
@[go_sem] theorem all_two {α : Type} (a b : α) (P : α → Prop) : (∀ u ∈ [a,b],P u) = (P a ∧ P b):=by simp
@[go_sem] theorem enter6 (a b c d e f : AV) : St.enter [a,b,c,d,e,f] h = ⟨[(0,a),(1,b),(2,c),(3,d),(4,e),(5,f)],[],h⟩:=rfl
def two (x y : Option AV) : Option AV:=match x,y with
 | some x,some y=>some (.tup (.cons x (.cons y .unit)))
 | _,_=>none
@[go_sem] theorem two_some (x y : AV) : two (some x) (some y) = some (.tup (.cons x (.cons y .unit))):=rfl
def res1 (cx : Cx) (s : St) (r : MRes) : Option AV:=resOf cx s r
@[go_sem] theorem results_two {a b : MRes} {s : St} : results cx s [a,b] = two (res1 cx s a) (res1 cx s b):=by
 simp only [results,resList,two,res1]
 cases resOf cx s a <;> cases resOf cx s b <;> rfl
@[go_sem] theorem res1_tmp {t : Nat} : res1 cx ⟨sl,own,h⟩ (.tmp t) = if (sl.get t).safe = true then some (sl.get t) else none:=rfl
@[go_sem] theorem res1_cell {t : Nat} {ty : Ty} : res1 cx ⟨sl,own,h⟩ (.cell t ty) = cellV cx ⟨sl,own,h⟩ (sl.get t) ty:=rfl
@[go_sem] theorem extV_0 (a b : AV) : extV (.tup (.cons a b)) 0 = if a.safe = true then some a else none:=rfl
@[go_sem] theorem extV_1 (a b c : AV) : extV (.tup (.cons a (.cons b c))) 1 = if b.safe = true then some b else none:=rfl
@[go_sem] theorem safe_ent (e : Ent) : e.enc.safe = true:=rfl
@[go_sem] theorem safe_ino (e : Ino) : e.enc.safe = true:=rfl
@[go_sem] theorem safe_dat (e : Dat) : e.enc.safe = true:=rfl
@[go_sem] theorem safe_img (e : Img) : e.enc.safe = true:=rfl
end
section
variable {cx : Cx} {h : HP} {p p' : Id} {q q' : List Nat} {m m' : Img}
@[go_sem] theorem fill_nil (t : Ty) (v : AV) : fill t v [] = some v:=rfl
theorem None_ok : Ok tbl cx Fn.r_None (St.enter [] h) fun v h'=>v = Ino.none.enc ∧ h' = h:=by
 rw [Ok_eq]
 simp (disch:=omega) only [go_sem,W_round,W_again]
 exact rfl
def Img.blank : Img:={ Img.zero with inode:=Vector.replicate 8 Ino.none }
theorem Blank_ok : Ok tbl cx Fn.r_Blank (St.enter [] h) fun v h'=>v = Img.blank.enc ∧ h' = h:=by
 rw [Ok_eq]
 simp (disch:=omega) only [go_sem,W_round,W_again]
 iterate 8 (
  refine W_callp rfl ⟨rfl,rfl⟩ (by simp only [go_sem]; exact None_ok) ?_
  simp (disch:=omega) only [go_sem,W_round,W_again])
 exact rfl
theorem leads_ok {d s : Nat} {i : Int} (hd : d < 3) (hs : s < 4) (hb : p.below cx.lvl) (hm : h.rd p q = some m.enc) :
  Ok tbl cx Fn.r_leads (St.enter [.ptr p q tImage,.int .i64 d,.int .i64 s,.int .i64 i] h) fun v h'=>v = .bool (leads m d s i) ∧ h' = h:=by
 rw [Ok_eq]
 simp (disch:=omega) only [go_sem,rd_ext hb,HP.rd_app hm]
 refine WG_intro (fun hc=>?_) (fun hc=>?_) <;> simp (disch:=omega) only [go_sem,hc,rd_ext hb,HP.rd_app hm]
 all_goals simp only [leads,hc,go_sem]
theorem Leads_ok {i : Int} (hb : p.below cx.lvl) (hm : h.rd p q = some m.enc) :
  Ok tbl cx Fn.r_Leads (St.enter [.ptr p q tImage,.int .i64 i] h) fun v h'=>v = .int .i64 (refs m i) ∧ h' = h:=by
 rw [Ok_eq]
 simp (disch:=omega) only [go_sem,rd_ext hb,HP.rd_app hm]
 refine W_for 3 (fun d=>⟨[(0,.ptr p q tImage),(1,.int .i64 i),(5,.int .i64 (sumN d fun d=>refsRow m i d 4 : Nat)),(6,.int .i64 d)],[],h⟩) (by simp only [go_sem]; rfl) fun d hd ih=>?_
 by_cases hlt : d < 3
 ·have hs:=sumN_le (fun d=>refsRow_le m i d 4) d
  simp (disch:=omega) only [go_sem,hlt]
  refine W_for 4 (fun s=>⟨[(0,.ptr p q tImage),(1,.int .i64 i),(5,.int .i64 ((sumN d fun d=>refsRow m i d 4) + refsRow m i d s : Nat)),(6,.int .i64 d),(7,.int .i64 s)],[],h⟩) (by simp only [go_sem]; rfl) fun s hs' ih'=>?_
  have hr:=refsRow_le m i d s
  by_cases hlt' : s < 4
  ·simp (disch:=omega) only [go_sem,hlt']
   refine W_callp rfl ⟨rfl,rfl⟩ (by simp only [go_sem]; exact leads_ok (m:=m) hlt hlt' hb.succ (by simp only [HP.push_rd_ext hb,hm])) ?_
   simp (disch:=omega) only [go_sem,hlt']
   refine WC_intro (fun hc'=>?_) (fun hc'=>?_) <;> simp (disch:=omega) only [go_sem] <;> refine ih' _ hlt' ?_ <;>
     simp only [go_sem,refsRow_succ,hc',b2n,Int.add_assoc,Nat.add_zero]
  ·obtain rfl : s = 4:=by omega
   simp (disch:=omega) only [go_sem]
   exact ih _ hlt (by simp only [go_sem,sumN_succ])
 ·obtain rfl : d = 3:=by omega
  simp (disch:=omega) only [go_sem]
  exact rfl
end
def Img.setIno (m : Img) (n : Nat) (y : Ino) : Img:={ m with inode:=m.inode.setIfInBounds n y }
def Img.setDat (m : Img) (n : Nat) (y : Dat) : Img:={ m with data:=m.data.setIfInBounds n y }
def Img.setEnt (m : Img) (d s : Nat) (y : Ent) : Img:=if h : d < 3 then { m with dir:=m.dir.set d (m.dir[d].setIfInBounds s y) } else m
def Ino.setPrt (i : Ino) (p : Nat) (x : Int) : Ino:={ i with part:=i.part.setIfInBounds p x }
theorem set_bounds {α : Type} {n : Nat} (v : Vector α n) {i : Nat} (h : i < n) (x : α) : v.set i x h = v.setIfInBounds i x:=by
 ext j hj; simp [Vector.getElem_set,Vector.getElem_setIfInBounds]
@[go_sem] theorem mk_setIno (m : Img) {n : Nat} (y : Ino) (h : n < 8) : Img.mk (m.inode.set n y h) m.dir m.data = m.setIno n y:=by rw [set_bounds]; rfl
@[go_sem] theorem mk_setDat (m : Img) {n : Nat} (y : Dat) (h : n < 9) : Img.mk m.inode m.dir (m.data.set n y h) = m.setDat n y:=by rw [set_bounds]; rfl
@[go_sem] theorem mk_setEnt (m : Img) {d s : Nat} (y : Ent) (h : d < 3) (h' : s < 4) : Img.mk m.inode (m.dir.set d ((m.dir[d]'h).set s y h') h) m.data = m.setEnt d s y:=by rw [set_bounds (m.dir[d]'h)]; simp only [Img.setEnt,h,dite_true]
@[go_sem] theorem mk_setPrt (i : Ino) {p : Nat} (x : Int) (h : p < 2) : Ino.mk i.live i.stamp i.links (i.part.set p x h) = i.setPrt p x:=by rw [set_bounds]; rfl
@[go_sem] theorem ino_setIno (m : Img) (n : Nat) (y : Ino) (j : Nat) : (m.setIno n y).ino j = if n = j ∧ j < 8 then y else m.ino j:=by
 simp only [Img.ino,Img.setIno]
 by_cases hj : j < 8
 ·simp only [hj,dite_true,and_true,Vector.getElem_setIfInBounds]
 ·simp [hj]
@[go_sem] theorem dat_setIno (m : Img) (n : Nat) (y : Ino) (j : Nat) : (m.setIno n y).dat j = m.dat j:=rfl
@[go_sem] theorem ent_setIno (m : Img) (n : Nat) (y : Ino) (d s : Nat) : (m.setIno n y).ent d s = m.ent d s:=rfl
@[go_sem] theorem dat_setDat (m : Img) (n : Nat) (y : Dat) (j : Nat) : (m.setDat n y).dat j = if n = j ∧ j < 9 then y else m.dat j:=by
 simp only [Img.dat,Img.setDat]
 by_cases hj : j < 9
 ·simp only [hj,dite_true,and_true,Vector.getElem_setIfInBounds]
 ·simp [hj]
@[go_sem] theorem ino_setDat (m : Img) (n : Nat) (y : Dat) (j : Nat) : (m.setDat n y).ino j = m.ino j:=rfl
@[go_sem] theorem ent_setDat (m : Img) (n : Nat) (y : Dat) (d s : Nat) : (m.setDat n y).ent d s = m.ent d s:=rfl
@[go_sem] theorem ino_setEnt (m : Img) (d s : Nat) (y : Ent) (j : Nat) : (m.setEnt d s y).ino j = m.ino j:=by simp only [Img.setEnt]; split <;> rfl
@[go_sem] theorem dat_setEnt (m : Img) (d s : Nat) (y : Ent) (j : Nat) : (m.setEnt d s y).dat j = m.dat j:=by simp only [Img.setEnt]; split <;> rfl
@[go_sem] theorem prt_setPrt (i : Ino) (p : Nat) (x : Int) (j : Nat) : (i.setPrt p x).prt j = if p = j ∧ j < 2 then x else i.prt j:=by
 simp only [Ino.prt,Ino.setPrt]
 by_cases hj : j < 2
 ·simp only [hj,dite_true,and_true,Vector.getElem_setIfInBounds]
 ·simp [hj]
theorem Img.ext_of {m m' : Img} (h1 : ∀ n,n < 8 → m.ino n = m'.ino n) (h2 : ∀ d s,d < 3 → s < 4 → m.ent d s = m'.ent d s) (h3 : ∀ x,x < 9 → m.dat x = m'.dat x) : m = m':=by
 cases m with | mk a b c=>cases m' with | mk a' b' c' =>
 congr 1
 ·ext1 n hn; have:=h1 n hn; simpa [Img.ino,hn] using this
 ·ext1 d hd; ext1 s hs; have:=h2 d s hd hs; simpa [Img.ent,hd,hs] using this
 ·ext1 n hn; have:=h3 n hn; simpa [Img.dat,hn] using this
theorem Ino.ext_of {i j : Ino} (h1 : i.live = j.live) (h2 : i.stamp = j.stamp) (h3 : i.links = j.links) (h4 : ∀ p,p < 2 → i.prt p = j.prt p) : i = j:=by
 cases i with | mk a b c d=>cases j with | mk a' b' c' d' =>
 obtain rfl : a = a':=h1
 obtain rfl : b = b':=h2
 obtain rfl : c = c':=h3
 congr 1
 ext n hn; have:=h4 n hn; simpa [Ino.prt,hn] using this
@[go_sem] theorem live_setPrt (i : Ino) (p : Nat) (x : Int) : (i.setPrt p x).live = i.live:=rfl
@[go_sem] theorem stamp_setPrt (i : Ino) (p : Nat) (x : Int) : (i.setPrt p x).stamp = i.stamp:=rfl
@[go_sem] theorem links_setPrt (i : Ino) (p : Nat) (x : Int) : (i.setPrt p x).links = i.links:=rfl
def sInodes : Str:=⟨#[105,110,111,100,101,115]⟩
def sDir : Str:=⟨#[100,105,114]⟩
def sData : Str:=⟨#[100,97,116,97]⟩
def sNone : Str:=⟨#[]⟩
def part (now disk : Img) (n p : Nat) : Int :=
 let x:=(now.ino n).prt p
 if x < 0 ∨ 9 ≤ x then -1 else if (disk.dat x.toNat).of = (now.ino n).stamp then x
  else if (disk.ino n).live = true ∧ (disk.ino n).stamp = (now.ino n).stamp then (disk.ino n).prt p else -1
section
variable {cx : Cx} {h : HP} {p p' : Id} {q q' : List Nat} {m m' : Img}
@[go_sem] theorem set01 (v : Vector Int 2) (a b : Int) (h : 0 < 2) (h' : 1 < 2) : (v.set 0 a h).set 1 b h' = #v[a,b]:=by
 ext i hi
 obtain rfl | rfl : i = 0 ∨ i = 1:=by omega
 all_goals simp
def prts (now disk : Img) (n j : Nat) : Vector Int 2:=Vector.ofFn fun p : Fin 2=>if p.val < j then part now disk n p else (now.ino n).prt p
@[go_sem] theorem prts_at {n j : Nat} (h : j < 2) : (prts m m' n j)[j]'h = (m.ino n).prt j:=by simp [prts]
end
theorem st_ii : decide (sInodes = ⟨#[105,110,111,100,101,115]⟩) = true:=by decide
theorem st_di : decide (sDir = ⟨#[105,110,111,100,101,115]⟩) = false:=by decide
theorem st_ai : decide (sData = ⟨#[105,110,111,100,101,115]⟩) = false:=by decide
theorem st_ni : decide (sNone = ⟨#[105,110,111,100,101,115]⟩) = false:=by decide
theorem st_dd : decide (sDir = ⟨#[100,105,114]⟩) = true:=by decide
theorem st_ad : decide (sData = ⟨#[100,105,114]⟩) = false:=by decide
theorem st_nd : decide (sNone = ⟨#[100,105,114]⟩) = false:=by decide
theorem st_aa : decide (sData = ⟨#[100,97,116,97]⟩) = true:=by decide
theorem st_na : decide (sNone = ⟨#[100,97,116,97]⟩) = false:=by decide
theorem st_i : decide (sInodes = ⟨#[]⟩) = false:=by decide
theorem st_d : decide (sDir = ⟨#[]⟩) = false:=by decide
theorem st_a : decide (sData = ⟨#[]⟩) = false:=by decide
theorem st_n : decide (sNone = ⟨#[]⟩) = true:=by decide
attribute [go_sem] st_ii st_di st_ai st_ni st_dd st_ad st_nd st_aa st_na st_i st_d st_a st_n
@[go_sem] theorem toNat_add (a b : Nat) : ((a : Int) + (b : Int)).toNat = a + b:=by omega
section
variable {cx : Cx} {h : HP} {p p' : Id} {q q' : List Nat} {m m' : Img}
def greatRow (m : Img) (d k : Nat) : Nat:=sumN k fun s=>min (m.ent d s).name.size 10000
def greatDat (m : Img) (k : Nat) : Nat:=sumN k fun x=>min (m.dat x).text.size 10000
def greatDir (m : Img) (k : Nat) : Nat:=sumN k fun d=>greatRow m d 4
def great (m : Img) : Bool:=decide (3000 < greatDir m 3 + greatDat m 9)
theorem greatRow_le (m : Img) (d k : Nat) : greatRow m d k ≤ k * 10000:=sumN_le (fun s=>Nat.min_le_right _ _) k
theorem greatDat_le (m : Img) (k : Nat) : greatDat m k ≤ k * 10000:=sumN_le (fun s=>Nat.min_le_right _ _) k
theorem greatDir_le (m : Img) (k : Nat) : greatDir m k ≤ k * (4 * 10000):=sumN_le (fun d=>greatRow_le m d 4) k
@[go_sem] theorem minV_nat (k : IntKind) (a : Nat) : minV (.int k (a : Int)) (.int k 10000) = some (.int k (min a 10000 : Nat)):=by
 simp only [minV,if_true]; congr 2; split <;> omega
theorem Great_ok : Ok tbl cx Fn.r_Great (St.enter [m.enc] h) fun v h'=>v = .bool (great m) ∧ h' = h:=by
 rw [Ok_eq]
 simp (maxSteps:=999999) (disch:=omega) only [go_sem]
 refine W_for 3 (fun d=>⟨[(1,.ptr (.stk cx.lvl 1) [] tImage),(3,.int .i64 (greatDir m d)),(4,.int .i64 d)],[(1,⟨tImage,m.enc⟩)],h⟩) (by simp only [go_sem]; rfl) fun d hd ih=>?_
 have hD:=greatDir_le m d
 by_cases hlt : d < 3
 ·simp (maxSteps:=999999) (disch:=omega) only [go_sem,hlt]
  refine W_for 4 (fun s=>⟨[(1,.ptr (.stk cx.lvl 1) [] tImage),(3,.int .i64 (greatDir m d + greatRow m d s : Nat)),(4,.int .i64 d),(5,.int .i64 s)],[(1,⟨tImage,m.enc⟩)],h⟩) (by simp only [go_sem]; rfl) fun s hs ih'=>?_
  have hR:=greatRow_le m d s
  by_cases hlt' : s < 4
  ·have hM : min (m.ent d s).name.size 10000 ≤ 10000:=Nat.min_le_right _ _
   have e : greatRow m d (s + 1) = greatRow m d s + min (m.ent d s).name.size 10000:=rfl
   simp (maxSteps:=999999) (disch:=omega) only [go_sem,hlt']
   refine ih' _ hlt' ?_
   simp only [go_sem,e,Int.add_assoc]
  ·obtain rfl : s = 4:=by omega
   simp (maxSteps:=999999) (disch:=omega) only [go_sem]
   refine ih _ hlt ?_
   have e : greatDir m (d + 1) = greatDir m d + greatRow m d 4:=rfl
   simp only [go_sem,e]
 ·obtain rfl : d = 3:=by omega
  simp (maxSteps:=999999) (disch:=omega) only [go_sem]
  refine W_for 9 (fun x=>⟨[(1,.ptr (.stk cx.lvl 1) [] tImage),(3,.int .i64 (greatDir m 3 + greatDat m x : Nat)),(6,.int .i64 x)],[(1,⟨tImage,m.enc⟩)],h⟩) (by simp only [go_sem]; rfl) fun x hx ih=>?_
  have hX:=greatDat_le m x
  by_cases hlt : x < 9
  ·have hM : min (m.dat x).text.size 10000 ≤ 10000:=Nat.min_le_right _ _
   have e : greatDat m (x + 1) = greatDat m x + min (m.dat x).text.size 10000:=rfl
   simp (maxSteps:=999999) (disch:=omega) only [go_sem,hlt]
   refine ih _ hlt ?_
   simp only [go_sem,e,Int.add_assoc]
  ·obtain rfl : x = 9:=by omega
   simp (maxSteps:=999999) (disch:=omega) only [go_sem]
   simp only [great]
   congr 1
   rw [decide_eq_decide]
   omega
@[go_sem] theorem fill_dat (a : Int) (s : Str) : fill tData Dat.zero.enc [(0,.int .i64 a),(1,.str s)] = some (Dat.enc ⟨a,s⟩):=rfl
@[go_sem] theorem fill_ent (s : Str) (a b : Int) : fill tEntry Ent.zero.enc [(0,.str s),(1,.int .i64 a),(2,.int .i64 b)] = some (Ent.enc ⟨s,a,b⟩):=rfl
def Img.one : Img:=((Img.blank.setIno 2 ⟨true,5,1,#v[-1,3]⟩).setDat 3 ⟨5,⟨#[120]⟩⟩).setEnt 1 2 ⟨⟨#[97]⟩,2,5⟩
theorem one_ok : Ok tbl cx Fn.w_one (St.enter [] h) fun v h'=>v = Img.one.enc ∧ h' = h:=by
 rw [Ok_eq]
 simp (maxSteps:=999999) (disch:=omega) only [go_sem]
 refine W_callp rfl ⟨rfl,rfl⟩ (by simp only [go_sem]; exact Blank_ok) ?_
 simp (maxSteps:=999999) (disch:=omega) only [go_sem]
 rfl
end
def umod (n c : Int) : Nat:=((IntKind.u64.wrap n).tmod c).toNat
theorem wrapU_nonneg (n : Int) : 0 ≤ IntKind.u64.wrap n:=by
 have e1 : (IntKind.u64).bits = 64:=rfl
 have e2 : (IntKind.u64).signed = false:=rfl
 have p1 : (2 : Int) ^ 64 = 18446744073709551616:=rfl
 simp only [IntKind.wrap,e1,e2,Bool.false_and,Bool.false_eq_true,if_false,p1]
 omega
@[go_sem] theorem evInt_remU {n c : Int} (hc : 0 < c) : evInt .rem .u64 (IntKind.u64.wrap n) c = some (.int .u64 (umod n c : Nat)):=by
 have h1:=wrapU_nonneg n
 have h3:=Int.tmod_nonneg c h1
 have h0 : ¬c = 0:=by omega
 simp only [evInt,h0,if_false,umod,Option.some.injEq,AV.int.injEq,true_and]
 omega
@[go_sem] theorem eqV_tB (neg a b : Bool) : eqV tB neg (.bool a) (.bool b) = some (.bool (if neg = true then !decide (a = b) else decide (a = b))):=eqV_of rfl rfl (eq_bool a b)
def anyN : Nat → (Nat → Bool) → Bool
 | 0,_=>false
 | n + 1,f=>anyN n f || f n
def firstI : Nat → (Nat → Int) → Int
 | 0,_=>0
 | n + 1,f=>if firstI n f = 0 then f n else firstI n f
def findN : Nat → (Nat → Bool) → Int
 | 0,_=>-1
 | n + 1,f=>if anyN n f = true then findN n f else if f n = true then n else -1
theorem anyN_iff {f : Nat → Bool} : ∀ {n},anyN n f = true ↔ ∃ i,i < n ∧ f i = true
 | 0=>by simp [anyN]
 | n + 1=>by
  rw [anyN,Bool.or_eq_true,anyN_iff]
  constructor
  ·rintro (⟨i,h1,h2⟩ | h)
   ·exact ⟨i,by omega,h2⟩
   ·exact ⟨n,by omega,h⟩
  ·rintro ⟨i,h1,h2⟩
   by_cases e : i = n
   ·subst e; exact .inr h2
   ·exact .inl ⟨i,by omega,h2⟩
theorem anyN_false {f : Nat → Bool} {n : Nat} : anyN n f = false ↔ ∀ i,i < n → f i = false:=by
 rw [← Bool.not_eq_true,anyN_iff]
 constructor
 ·intro h i hi; rw [← Bool.not_eq_true]; exact fun hf=>h ⟨i,hi,hf⟩
 ·rintro h ⟨i,hi,hf⟩; rw [h i hi] at hf; exact absurd hf (by simp)
theorem anyN_at {f : Nat → Bool} {n j : Nat} (hj : j < n) (h : f j = true) : anyN n f = true:=anyN_iff.2 ⟨j,hj,h⟩
theorem firstI_zero {f : Nat → Int} : ∀ {n},firstI n f = 0 ↔ ∀ i,i < n → f i = 0
 | 0=>by simp [firstI]
 | n + 1=>by
  rw [firstI]
  constructor
  ·intro h i hi
   split at h
   ·rename_i h0
    by_cases e : i = n
    ·subst e; exact h
    ·exact firstI_zero.1 h0 i (by omega)
   ·rename_i h0; exact absurd h h0
  ·intro h
   rw [if_pos (firstI_zero.2 fun i hi=>h i (by omega))]
   exact h n (by omega)
theorem firstI_at {f : Nat → Int} {j : Nat} (h0 : ∀ i,i < j → f i = 0) (h : f j ≠ 0) : ∀ {n},j < n → firstI n f = f j
 | 0,hj=>by omega
 | n + 1,hj=>by
  rw [firstI]
  by_cases e : j = n
  ·subst e; rw [if_pos (firstI_zero.2 h0)]
  ·rw [firstI_at h0 h (n:=n) (by omega),if_neg h]
theorem findN_none {f : Nat → Bool} {n : Nat} (h : ∀ i,i < n → f i = false) : findN n f = -1:=by
 induction n with
 | zero=>rfl
 | succ n ih=>rw [findN,if_neg (by rw [anyN_false.2 fun i hi=>h i (by omega)]; simp),h n (by omega)]; rfl
theorem findN_at {f : Nat → Bool} {j : Nat} (h0 : ∀ i,i < j → f i = false) (h : f j = true) : ∀ {n},j < n → findN n f = j
 | 0,hj=>by omega
 | n + 1,hj=>by
  rw [findN]
  by_cases e : j = n
  ·subst e; rw [if_neg (by rw [anyN_false.2 h0]; simp),if_pos h]
  ·rw [if_pos (anyN_at (by omega) h),findN_at h0 h (by omega)]
theorem findN_any {f : Nat → Bool} : ∀ {n : Nat},anyN n f = true → ∃ j : Nat,j < n ∧ findN n f = j ∧ f j = true ∧ ∀ i,i < j → f i = false
 | 0,h=>by simp [anyN] at h
 | n + 1,h=>by
  rw [findN]
  by_cases ha : anyN n f = true
  ·rw [if_pos ha]
   obtain ⟨j,h1,h2,h3⟩:=findN_any ha
   exact ⟨j,by omega,h2,h3⟩
  ·have hf : f n = true:=by
    rw [anyN,Bool.or_eq_true] at h
    exact h.resolve_left ha
   rw [if_neg ha,if_pos hf]
   exact ⟨n,by omega,rfl,hf,fun i hi=>anyN_false.1 (by simpa using ha) i hi⟩
theorem findN_lt {f : Nat → Bool} {n : Nat} : findN n f = -1 ∨ ∃ j : Nat,j < n ∧ findN n f = j ∧ f j = true ∧ ∀ i,i < j → f i = false:=by
 by_cases h : anyN n f = true
 ·exact .inr (findN_any h)
 ·exact .inl (findN_none fun i hi=>anyN_false.1 (by simpa using h) i hi)
theorem findN_neg {f : Nat → Bool} {n : Nat} (h : findN n f = -1) : ∀ i,i < n → f i = false:=by
 apply anyN_false.1
 rw [← Bool.not_eq_true]
 intro ha
 obtain ⟨j,_,e,_⟩:=findN_any ha
 omega
theorem W_forP {T : Nat → Option MFun} {cx : Cx} {keep ko : List Nat} {b : MC} {k : List Item} {s : St} {Q : St → Prop} (N : Nat) (S : Nat → St) (P : Nat → Prop) (h0 : s.keep keep ko = S 0) (p0 : P 0)
  (step : ∀ j,j ≤ N → P j → (∀ s',j < N → P (j + 1) → s'.keep keep ko = S (j + 1) → W T cx (.inLoop keep ko b :: k) s' Q) → W T cx (.code b :: .inLoop keep ko b :: k) (S j) Q) :
  W T cx (.code (.loop keep ko b) :: k) s Q :=
 W_loop N (fun j s=>s = S j ∧ P j) ⟨h0,p0⟩ fun j s hj hs ih=>by obtain ⟨rfl,hp⟩:=hs; exact step j hj hp fun s' h1 h2 h3=>ih s' h1 ⟨h3,h2⟩
theorem step_all {P : Nat → Prop} {j : Nat} (h : ∀ i,i < j → P i) (hj : P j) : ∀ i,i < j + 1 → P i:=by
 intro i hi
 by_cases e : i = j
 ·subst e; exact hj
 ·exact h i (by omega)
def byteAt (s : Str) (i : Nat) : Nat:=(s.data.getD i 0).toNat
@[go_sem] theorem stridxV_nat {s : Str} {k : IntKind} {i : Nat} (h : i < s.size) : stridxV (.str s) (.int k (i : Int)) = some (.int .u8 (byteAt s i : Nat)):=by
 have hs : i < s.data.size:=h
 have e : s[i]? = some s.data[i]:=by
  rw [getElem?_pos s i h]; rfl
 simp only [stridxV,toIx]
 rw [if_pos (by omega),Int.toNat_natCast,e]
 simp [byteAt,getElem?_pos s.data i hs]
def badByte (s : Str) (i : Nat) : Bool:=decide (byteAt s i < 97) || decide (122 < byteAt s i)
def isName (s : Str) : Bool:=!decide (s = ⟨#[]⟩) && decide (s.size ≤ 6) && !anyN s.size (badByte s)
theorem size_zero {s : Str} : s = ⟨#[]⟩ ↔ s.size = 0:=by
 cases s with | mk a =>
 simp only [ByteArray.mk.injEq,ByteArray.size]
 exact ⟨fun h=>by rw [h]; rfl,fun h=>Array.eq_empty_of_size_eq_zero h⟩
section
variable {cx : Cx} {h : HP} {p p' : Id} {q q' : List Nat} {m m' : Img}
theorem IsName_ok {s : Str} (hs : s.size ≤ 100000) : Ok tbl cx Fn.r_IsName (St.enter [.str s] h) fun v h'=>v = .bool (isName s) ∧ h' = h:=by
 rw [Ok_eq]
 simp (maxSteps:=999999) (disch:=omega) only [go_sem]
 by_cases h1 : s.size = 0
 ·have e:=size_zero.2 h1
  simp (maxSteps:=999999) (disch:=omega) only [go_sem]
  simp [isName,e]
 have e : ¬s = ⟨#[]⟩:=fun e=>h1 (size_zero.1 e)
 by_cases h2 : s.size ≤ 6
 ·simp (maxSteps:=999999) (disch:=omega) only [go_sem]
  refine W_forP s.size (fun j=>⟨[(0,.str s),(3,.int .i64 j)],[],h⟩) (fun j=>∀ i,i < j → badByte s i = false) (by simp only [go_sem] <;> rfl) (fun i hi=>by omega) fun j hj hp ih=>?_
  by_cases hlt : j < s.size
  ·simp (maxSteps:=999999) (disch:=omega) only [go_sem,hlt]
   by_cases h1 : byteAt s j < 97
   ·simp (maxSteps:=999999) (disch:=omega) only [go_sem,hlt]
    have : anyN s.size (badByte s) = true:=anyN_at hlt (by simp [badByte,h1])
    simp [isName,this]
   ·by_cases h2 : 122 < byteAt s j
    ·simp (maxSteps:=999999) (disch:=omega) only [go_sem,hlt]
     have : anyN s.size (badByte s) = true:=anyN_at hlt (by simp [badByte,h2])
     simp [isName,this]
    ·simp (maxSteps:=999999) (disch:=omega) only [go_sem,hlt]
     refine ih _ hlt (step_all hp (by simp [badByte,h1,h2])) ?_
     simp only [go_sem]
  ·obtain rfl : j = s.size:=by omega
   have hn : anyN s.size (badByte s) = false:=anyN_false.2 hp
   simp (maxSteps:=999999) (disch:=omega) only [go_sem]
   simp [isName,hn,e,h2]
 ·simp (maxSteps:=999999) (disch:=omega) only [go_sem]
  simp [isName,h2]
def slotOf (m : Img) (d : Int) (name : Str) : Int:=if d < 0 ∨ 3 ≤ d ∨ name = ⟨#[]⟩ then -1 else findN 4 fun s=>decide ((m.ent d.toNat s).name = name)
theorem SlotOf_ok {d : Int} {name : Str} (hb : p.below cx.lvl) (hm : h.rd p q = some m.enc) :
  Ok tbl cx Fn.r_SlotOf (St.enter [.ptr p q tImage,.int .i64 d,.str name] h) fun v h'=>v = .int .i64 (slotOf m d name) ∧ h' = h:=by
 rw [Ok_eq]
 simp (maxSteps:=999999) (disch:=omega) only [go_sem,rd_ext hb,HP.rd_app hm,fg_ptr hb,leads_ptr hb,apart_ptr hb]
 by_cases h1 : d < 0
 ·simp (maxSteps:=999999) (disch:=omega) only [go_sem,h1]; simp [slotOf,h1]
 by_cases h2 : 3 ≤ d
 ·simp (maxSteps:=999999) (disch:=omega) only [go_sem,h1,h2]; simp [slotOf,h2]
 by_cases h3 : name = ⟨#[]⟩
 ·simp (maxSteps:=999999) (disch:=omega) only [go_sem,h1,h2,h3]; simp [slotOf]
 have hd : d.toNat < 3:=by omega
 have e : slotOf m d name = findN 4 fun s=>decide ((m.ent d.toNat s).name = name):=by simp only [slotOf]; rw [if_neg (by simp only [not_or]; exact ⟨h1,h2,h3⟩)]
 simp (maxSteps:=999999) (disch:=omega) only [go_sem,h1,h2,h3,rd_ext hb,HP.rd_app hm,fg_ptr hb,leads_ptr hb,apart_ptr hb]
 refine W_forP 4 (fun s=>⟨[(0,.ptr p q tImage),(1,.int .i64 d),(2,.str name),(7,.int .i64 s)],[],h⟩) (fun s=>∀ i,i < s → decide ((m.ent d.toNat i).name = name) = false) (by simp only [go_sem] <;> rfl) (fun i hi=>by omega) fun s hs hp ih=>?_
 by_cases hlt : s < 4
 ·simp (maxSteps:=999999) (disch:=omega) only [go_sem,hlt,h1,h2,rd_ext hb,HP.rd_app hm,fg_ptr hb,leads_ptr hb,apart_ptr hb]
  by_cases h4 : (m.ent d.toNat s).name = name
  ·simp (maxSteps:=999999) (disch:=omega) only [go_sem,h4,e]
   rw [findN_at hp (by simp [h4]) hlt]
  ·simp (maxSteps:=999999) (disch:=omega) only [go_sem,h4]
   refine ih _ hlt (step_all hp (by simp [h4])) ?_
   simp only [go_sem]
 ·obtain rfl : s = 4:=by omega
  simp (maxSteps:=999999) (disch:=omega) only [go_sem,e]
  rw [findN_none hp]
end
end Go.Mini
