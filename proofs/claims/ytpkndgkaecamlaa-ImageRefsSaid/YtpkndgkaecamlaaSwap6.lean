/- A part of the proof: Swap6. -/
import Derived.Test.YtpkndgkaecamlaaSwap5
namespace Go.Mini
set_option linter.unusedSimpArgs false
set_option linter.unusedVariables false

/-- An effect and a look that may be done in either order. -/
def pairLE (e k : MK) : Bool :=
  match e with
  | .alloc esc _ => esc
  | .box esc _ _ => esc
  | .bslice esc _ _ _ => esc
  | .store _ ap _ _ => k.shape || (match k with | .load _ (some r) _ _ => has ap r | _ => false)
  | .call p _ _ _ => p || k.ro
  | .callv p _ _ _ => p || k.ro
  | _ => false

def MOp.isSite (o : MOp) : Bool := o.site.isSome && !o.k.isAppend

def hides (e o : MOp) : Bool := !e.k.isAppend && (!e.k.isCall || (match o.site with | some u => has e.k.hide u | none => false))

/-- Two operations that may be done in either order. -/
def pairOk (a b : MOp) : Bool :=
  (match a.d with | some t => !(b.uses.contains t) && b.d != some t | none => true) && (match b.d with | some t => !(a.uses.contains t) | none => true) &&
  (if a.k.quiet then !a.k.isLook || b.k.quiet || b.isSite || pairLE b.k a.k
   else if b.k.quiet then !b.k.isLook || a.isSite || pairLE a.k b.k
   else if a.isSite then hides b a
   else if b.isSite then hides a b
   else false)

theorem has_mem {l : List Nat} {t : Nat} : has l t = true ↔ t ∈ l := by
  induction l with
  | nil => simp [has]
  | cons a l ih =>
    simp only [has, Bool.or_eq_true, beq_iff_eq, List.mem_cons, ih]
    exact ⟨fun h => h.imp Eq.symm id, fun h => h.imp Eq.symm id⟩

section
variable {cx cx' : Cx} {s s' s1 s2 : St} {T : Nat → Option MFun} {n : Nat} {o a b e : MOp} {g : Opd → AV} {look : Id → Option Blk}

/-- All pointers in slots lead to what there is. -/
def Lows (cx : Cx) (s : St) : Prop := ∀ t i, (Slots.get s.sl t).into i = true → i.under (cx.lvl + 1) s.hp.next

theorem Lows.opd {x : Opd} {i : Id} (h : Lows cx s) (hp : x.plain = true) (hi : (s.opd x).into i = true) : i.under (cx.lvl + 1) s.hp.next := by
  cases x with
  | s t => exact h t i hi
  | c v => have := plain_into (i := i) hp; simp only [St.opd] at hi; rw [this] at hi; simp at hi
  | f m => simp [St.opd, AV.into] at hi

theorem site_d {u : Nat} (h : o.site = some u) : o.d = some u := by
  unfold MOp.site at h
  split at h <;> first | exact h | simp at h

theorem site_quiet {u : Nat} (h : o.site = some u) : o.k.quiet = false := by
  unfold MOp.site at h
  split at h <;> first | (simp at h; done) | (rename_i hk; rw [hk]; rfl)

theorem site_notcall {u : Nat} (h : o.site = some u) : o.k.isCall = false := by
  unfold MOp.site at h
  split at h <;> first | (simp at h; done) | (rename_i hk; rw [hk]; rfl)

theorem store_facts {t : Ty} {ap : List Nat} {x v : Opd} {i : Id} {bl : Blk} {w : AV} (h : evK g look (.store t ap x v) = some (.wr i bl w)) :
    ∃ old, look i = some old ∧ bl.ty = old.ty ∧ ∀ r ∈ ap, (g (.s r)).apart i = true := by
  simp only [evK] at h
  split at h <;> try (simp at h; done)
  split at h <;> try (simp at h; done)
  rename_i hc
  split at h <;> try (simp at h; done)
  rename_i old hl
  split at h <;> try (simp at h; done)
  simp at h
  obtain ⟨rfl, rfl, _⟩ := h
  exact ⟨old, hl, rfl, by simpa [List.all_eq_true] using hc.2.2⟩

theorem apart_into {v : AV} {i j : Id} (h : v.apart i = true) (hj : v.into j = true) : j ≠ i := by
  rintro rfl
  cases v <;> simp [AV.apart] at h <;> simp [AV.into] at hj <;> exact h hj

theorem agree_shape {k : MK} {x y : Option Blk} (hk : k.shape = true) (h : x.map (·.ty) = y.map (·.ty)) : k.agree x y := by unfold MK.agree; rw [if_pos hk]; exact h
theorem agree_eq {k : MK} {x y : Option Blk} (h : x = y) : k.agree x y := by subst h; exact MK.agree_refl

/-- A look sees behind a step what it saw before it. -/
theorem look_any (h : Step T n cx e s s1) (hp : ∀ x ∈ o.k.ops, x.plain = true) (hb : Lows cx s) (hf : ∀ u, e.site = some u → Fresh cx u s)
    (hc : e.k.quiet = true ∨ e.isSite = true ∨ s.wanted e.g = some false ∨ (pairLE e.k o.k = true ∧ ∃ i, Eye s.opd o.k i)) :
    ∀ x ∈ o.k.ops, ∀ i, (s.opd x).into i = true → o.k.agree (s.look cx i) (s1.look cx i) := by
  intro x hx i hi
  have hun := hb.opd (hp x hx) hi
  rw [Step_iff] at h
  cases h with
  | skip hw => rw [look_setd]; exact MK.agree_refl
  | op hw hcl he ha =>
    rename_i ef v s'
    rw [look_setd]
    rcases hc with hc | hc | hc | hc
    · obtain ⟨w, rfl⟩ := evK_quiet he hc
      simp [applyEff] at ha
      rw [← ha.2]; exact MK.agree_refl
    · simp only [MOp.isSite, Bool.and_eq_true, Bool.not_eq_true'] at hc
      cases hs : e.site with
      | none => rw [hs] at hc; simp at hc
      | some u =>
        have hd := site_d hs
        have hfr := hf u hs
        have hne := into_fresh (hp x hx) hfr hi
        obtain ⟨ed, ek, eg⟩ := e
        simp only at hd he ha hs hc
        subst hd
        have hes : ek.esc = false := by
          unfold MOp.site at hs
          split at hs <;> first | (simp at hs; done) | (rename_i hk; simp only at hk; rw [hk]; rfl)
        cases ef with
        | val w => simp [applyEff] at ha; rw [← ha.2]; exact MK.agree_refl
        | new sl bl =>
          simp [applyEff] at ha
          rw [← ha.2, hes, look_fresh_stk, if_neg hne]; exact MK.agree_refl
        | wr j bl w =>
          exfalso
          unfold MOp.site at hs
          split at hs <;> first | (simp at hs; done) | (rename_i hk; simp only at hk; subst hk; simp [evK] at he; done) | (rename_i hk; simp only at hk; subst hk; simp [MK.isAppend] at hc; done) | (rename_i hk; simp only at hk; subst hk; simp only [evK] at he; split at he <;> simp at he)
        | grow j bl m => exact (not_grow he hc.2).elim
    · rw [hw] at hc; simp at hc
    · obtain ⟨hpl, i0, hE⟩ := hc
      obtain rfl := hE.one x hx i hi
      obtain ⟨ed, ek, eg⟩ := e
      simp only at he ha hpl hf
      cases ek <;> simp only [pairLE] at hpl <;> try (simp at hpl; done)
      case alloc esc t =>
        subst hpl
        simp only [evK, Option.some.injEq] at he
        subst he
        cases ed with
        | none => simp [applyEff] at ha
        | some d =>
          simp [applyEff] at ha
          rw [← ha.2, show (MK.alloc true t).esc = true from rfl, look_fresh_obj, if_neg (by rintro rfl; simp [Id.under] at hun)]; exact MK.agree_refl
      case box esc t y =>
        subst hpl
        simp only [evK] at he
        split at he <;> try (simp at he; done)
        simp only [Option.some.injEq] at he
        subst he
        cases ed with
        | none => simp [applyEff] at ha
        | some d =>
          simp [applyEff] at ha
          rw [← ha.2, show (MK.box true t y).esc = true from rfl, look_fresh_obj, if_neg (by rintro rfl; simp [Id.under] at hun)]; exact MK.agree_refl
      case bslice esc t m ps =>
        subst hpl
        simp only [evK, Option.map_eq_some_iff] at he
        obtain ⟨w, _, he⟩ := he
        subst he
        cases ed with
        | none => simp [applyEff] at ha
        | some d =>
          simp [applyEff] at ha
          rw [← ha.2, show (MK.bslice true t m ps).esc = true from rfl, look_fresh_obj, if_neg (by rintro rfl; simp [Id.under] at hun)]; exact MK.agree_refl
      case store t ap y w =>
        have hwr : ∃ j bl u, ef = .wr j bl u := by
          simp only [evK] at he
          split at he <;> try (simp at he; done)
          split at he <;> try (simp at he; done)
          split at he <;> try (simp at he; done)
          split at he <;> try (simp at he; done)
          injection he with he
          exact ⟨_, _, _, he.symm⟩
        obtain ⟨j, bl, u, rfl⟩ := hwr
        obtain ⟨old, ho, hty, hap⟩ := store_facts he
        simp only [applyEff, Option.map_eq_some_iff] at ha
        obtain ⟨s3, hw3, heq⟩ := ha
        simp at heq
        obtain ⟨_, rfl⟩ := heq
        have hlk := (look_write hw3).2.2.2.1 i
        rw [hlk]
        by_cases hij : i = j
        · subst hij
          rw [if_pos rfl]
          rcases Bool.or_eq_true _ _ ▸ hpl with hsh | hrt
          · exact agree_shape hsh (by rw [ho]; simp [hty])
          · exfalso
            split at hrt
            · rename_i ro r t' x' hk
              exact apart_into (hap r (has_mem.1 hrt)) (hE.root _ _ _ _ hk) rfl
            · simp at hrt
        · rw [if_neg hij]; exact MK.agree_refl
      case call p hd f args => simp [MK.isCall] at hcl
      case callv p hd f args => simp [MK.isCall] at hcl
  | call hw hcl hco hm hr hbk =>
    rename_i prot hide fn l m s3
    rcases hc with hc | hc | hc | hc
    · exfalso; cases hk : e.k <;> simp [hk, MK.isCall] at hcl <;> simp [hk, MK.quiet] at hc
    · exfalso
      simp only [MOp.isSite, Bool.and_eq_true] at hc
      cases hs : e.site with
      | none => rw [hs] at hc; simp at hc
      | some u => rw [site_notcall hs] at hcl; simp at hcl
    · rw [hw] at hc; simp at hc
    · obtain ⟨hpl, i0, hE⟩ := hc
      obtain rfl := hE.one x hx i hi
      have hpr : prot = true ∨ o.k.ro = true := by
        cases hk : e.k <;> simp [hk, MK.isCall] at hcl <;> simp only [hk, pairLE, Bool.or_eq_true] at hpl <;> rw [hk] at hco <;> simp only [callOf] at hco
        · split at hco <;> try (simp at hco; done)
          split at hco <;> simp at hco
          rcases hpl with h | h
          · exact .inl (by rw [← hco.1]; exact h)
          · exact .inr h
        · split at hco <;> try (simp at hco; done)
          split at hco <;> try (simp at hco; done)
          split at hco <;> simp at hco
          rcases hpl with h | h
          · exact .inl (by rw [← hco.1]; exact h)
          · exact .inr h
      have hheld : Held (s.callCx cx prot) (s.hp.push cx.lvl (s.own.veil hide)).next i := by
        rcases hpr with rfl | hro
        · cases i with
          | stk l' t => simp only [Id.under] at hun; simp only [Held, St.callCx, if_true]; exact ⟨hun, Nat.le_refl _⟩
          | obj m => simp only [Id.under] at hun; simp only [Held, St.callCx, if_true]; exact ⟨hun, Nat.le_refl _⟩
          | arg m => trivial
        · have := hE.ro hro
          cases i <;> simp [Id.isArg] at this
          trivial
      have hsame := (run_frame hr hheld).1
      unfold back at hbk
      simp only [Option.map_eq_some_iff] at hbk
      obtain ⟨v, hv, rfl⟩ := hbk
      rw [look_setd]
      refine agree_eq ?_
      have hpush : (s.hp.push cx.lvl (s.own.veil hide)).look i = match i.own cx.lvl with | some t => if has hide t then none else s.look cx i | none => s.look cx i := congrFun push_look_veil i
      have hsame : s3.hp.look i = (s.hp.push cx.lvl (s.own.veil hide)).look i := hsame
      rw [hpush] at hsame
      cases ho : i.own cx.lvl with
      | some t =>
        have := own_some ho
        subst this
        simp only [ho] at hsame
        simp only [look_stk, St.pop, Own.get_unveil]
        split
        · rfl
        · rename_i hh
          rw [if_neg hh] at hsame
          rw [look_stk] at hsame
          exact hsame.symm
      | none =>
        simp only [ho] at hsame
        rw [← hsame]
        simp only [St.look, ho, St.pop]
        cases i with
        | stk l' t =>
          simp [Id.own] at ho
          simp only [HP.look, HP.pop]
          rw [if_neg ho]
        | _ => rfl
end
end Go.Mini
