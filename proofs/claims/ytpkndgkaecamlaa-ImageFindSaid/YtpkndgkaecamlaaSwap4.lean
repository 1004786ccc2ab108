/- A part of the proof: Swap4. -/
import Derived.Test.YtpkndgkaecamlaaSwap3
namespace Go.Mini
set_option linter.unusedSimpArgs false
set_option linter.unusedVariables false

def Eff.lays : Eff → Bool
  | .new .. => true
  | .grow .. => true
  | _ => false

def MK.isAppend : MK → Bool
  | .append .. => true
  | _ => false

def MK.hide : MK → List Nat
  | .call _ h _ _ => h
  | .callv _ h _ _ => h
  | _ => []

section
variable {cx cx' : Cx} {s s' s1 s2 : St} {T : Nat → Option MFun} {n : Nat} {o : MOp} {g : Opd → AV} {look : Id → Option Blk}

theorem into_leads {v : AV} {i : Id} (h : v.into i = true) : v.leads i = true := by
  cases v <;> simp [AV.into] at h <;> simp [AV.leads, AV.names, AV.isAgg, h]

theorem into_inj {v : AV} {i j : Id} (h : v.into i = true) (k : v.into j = true) : i = j := by
  cases v <;> simp [AV.into] at h k <;> rw [← h, ← k]

theorem evAppend_shape {t : Ty} {v : AV} {add : List AV} {e : Eff} (h : evAppend look t v add = some e) : True := trivial

theorem site_lays {e : Eff} (he : evK g look o.k = some e) (hl : e.lays = true) (hs : o.k.esc = false) : o.site = o.d := by
  by_cases hq : o.k.quiet = true
  · obtain ⟨v, rfl⟩ := evK_quiet he hq; simp [Eff.lays] at hl
  · obtain ⟨d, k, gd⟩ := o
    simp only at he hs hq ⊢
    cases k <;> simp only [MK.quiet, not_true_eq_false] at hq <;> simp only [MK.esc] at hs
    case alloc e t => subst hs; rfl
    case box e t x => subst hs; rfl
    case bslice e t n ps => subst hs; rfl
    case append e t x y => subst hs; rfl
    case store t ap x w =>
      simp only [evK] at he
      split at he <;> try (simp at he; done)
      split at he <;> try (simp at he; done)
      split at he <;> try (simp at he; done)
      split at he <;> try (simp at he; done)
      injection he with he
      subst he
      simp [Eff.lays] at hl
    all_goals simp [evK] at he

theorem not_grow {k : MK} {j : Id} {b : Blk} {m : Nat} (he : evK g look k = some (.grow j b m)) (ha : k.isAppend = false) : False := by
  by_cases hq : k.quiet = true
  · obtain ⟨v, h⟩ := evK_quiet he hq; simp at h
  · cases k <;> simp only [MK.quiet, not_true_eq_false] at hq <;> simp only [evK] at he
    case alloc e t => simp at he
    case box e t x => split at he <;> simp at he
    case bslice e t n ps => simp at he
    case append e t x y => simp [MK.isAppend] at ha
    case store t ap x w =>
      split at he <;> try (simp at he; done)
      split at he <;> try (simp at he; done)
      split at he <;> try (simp at he; done)
      split at he <;> try (simp at he; done)
    all_goals simp at he

theorem callOf_hide {k : MK} {prot : Bool} {hide : List Nat} {fn : MFun} {l : List AV} (h : callOf T g k = some (prot, hide, fn, l)) : hide = k.hide := by
  cases k <;> simp only [callOf] at h <;> try (simp at h; done)
  · split at h <;> try (simp at h; done)
    split at h <;> simp at h
    exact h.2.1.symm
  · split at h <;> try (simp at h; done)
    split at h <;> try (simp at h; done)
    split at h <;> simp at h
    exact h.2.1.symm

theorem look_setd {d : Option Nat} {v : AV} : (s.setd d v).look cx = s.look cx := by cases d <;> rfl

theorem get_setd {d : Option Nat} {v : AV} {t : Nat} (h : d ≠ some t) : Slots.get (s.setd d v).sl t = Slots.get s.sl t := by
  cases d with
  | none => rfl
  | some u => simp only [St.setd, Slots.get_set]; rw [if_neg (fun e => h (by rw [e]))]

theorem fresh_setd {esc : Bool} {u : Nat} {b : Blk} {td : Option Nat} {v : AV} (h : esc = false → v.leads (.stk cx.lvl u) = false) : (s.setd td v).fresh cx esc u b = ((s.fresh cx esc u b).1, (s.fresh cx esc u b).2.setd td v) := by
  cases td with
  | none => rfl
  | some t =>
    cases esc with
    | true => rfl
    | false =>
      simp only [St.fresh, St.setd, Bool.false_eq_true, if_false]
      rw [Slots.forget_set (h rfl)]

theorem write_setd {i : Id} {b : Blk} {td : Option Nat} {v : AV} : (s.setd td v).write cx i b = (s.write cx i b).map fun x => x.setd td v := by
  cases td with
  | none => simp [St.setd]
  | some t =>
    unfold St.write
    simp only [St.setd]
    cases i.own cx.lvl with
    | some t => rfl
    | none => simp only; split <;> rfl

theorem drop_setd {i : Id} {td : Option Nat} {v : AV} : (s.setd td v).drop cx i = (s.drop cx i).map fun x => x.setd td v := by
  cases td with
  | none => simp [St.setd]
  | some t =>
    unfold St.drop
    simp only [St.setd]
    cases i.own cx.lvl with
    | some t => rfl
    | none =>
      cases i with
      | obj m => simp only; split <;> rfl
      | _ => rfl

theorem applyEff_setd {d : Option Nat} {esc : Bool} {e : Eff} {td : Option Nat} {v : AV} (hF : e.lays = true → esc = false → ∀ u, d = some u → v.leads (.stk cx.lvl u) = false) :
    applyEff cx d esc (s.setd td v) e = (applyEff cx d esc s e).map fun p => (p.1, p.2.setd td v) := by
  cases e with
  | val w => rfl
  | new sl b =>
    cases d with
    | none => rfl
    | some u =>
      simp only [applyEff, Option.map]
      rw [fresh_setd fun h => hF rfl h u rfl]
  | wr i b w =>
    simp only [applyEff, write_setd, Option.map_map]
    rfl
  | grow j b m =>
    cases d with
    | none => rfl
    | some u =>
      simp only [applyEff, drop_setd, Option.map_map]
      congr 1
      funext x
      simp only [Function.comp]
      rw [fresh_setd fun h => hF rfl h u rfl]

theorem setd_comm {d td : Option Nat} {v w : AV} (h : ∀ t, td = some t → d ≠ some t) : (s.setd td v).setd d w = (s.setd d w).setd td v := by
  cases td with
  | none => rfl
  | some t =>
    cases d with
    | none => rfl
    | some u =>
      have : t ≠ u := fun e => h t rfl (by rw [e])
      simp only [St.setd, Slots.set_comm this]

/-- Beside a slot that the step does not read or write. -/
theorem Step_setd {td : Option Nat} {v : AV} (h0 : ∀ t, td = some t → t ∉ o.uses ∧ o.d ≠ some t) (hF : ∀ u, o.site = some u → v.leads (.stk cx.lvl u) = false) :
    Step T n cx o (s.setd td v) s2 ↔ ∃ s1, Step T n cx o s s1 ∧ s2 = s1.setd td v := by
  refine Step_mod (f := fun s => s.setd td v) (fun t ht => (get_setd fun e => (h0 t e).1 ht).symm) (fun x hx i hi => by rw [look_setd]; exact MK.agree_refl) (fun e he => applyEff_setd fun hl hs u hu => hF u (by rw [site_lays he hl hs, hu])) (fun s v => setd_comm fun t ht => (h0 t ht).2)
    fun prot hide fn l hc => ⟨?_, ?_, fun h' => ?_⟩
  · cases td <;> rfl
  · cases td <;> rfl
  · cases td <;> rfl

def St.setO (s : St) (u : Nat) (b : Blk) : St := { s with own := s.own.set u b }

theorem look_setO {u : Nat} {b : Blk} {i : Id} (h : i ≠ .stk cx.lvl u) : (s.setO u b).look cx i = s.look cx i := by
  simp only [St.look, St.setO]
  cases ho : i.own cx.lvl with
  | none => rfl
  | some t =>
    have := own_some ho
    subst this
    simp only
    rw [Own.get_set, if_neg (fun e => h (by rw [e]))]

theorem opd_fresh {u : Nat} {x : Opd} (hp : x.plain = true) (hf : Fresh cx u s) : (s.opd x).leads (.stk cx.lvl u) = false := by
  cases x with
  | s t =>
    simp only [St.opd]
    rcases Slots.get_mem (t := t) (l := s.sl) with h | h
    · rw [h]; rfl
    · exact hf.2 _ h
  | c v => exact plain_leads hp
  | f m => rfl

theorem into_fresh {u : Nat} {x : Opd} {i : Id} (hp : x.plain = true) (hf : Fresh cx u s) (hi : (s.opd x).into i = true) : i ≠ .stk cx.lvl u := by
  rintro rfl
  have := into_leads hi
  rw [opd_fresh hp hf] at this
  simp at this

/-- Beside a new local block of which the step knows nothing. -/
theorem Step_setO {u : Nat} {b : Blk} (hf : Fresh cx u s) (hp : ∀ x ∈ o.k.ops, x.plain = true) (hs : o.site ≠ some u) (ha : o.k.isAppend = false) (hh : o.k.isCall = true → has o.k.hide u = true) :
    Step T n cx o (s.setO u b) s2 ↔ ∃ s1, Step T n cx o s s1 ∧ s2 = s1.setO u b := by
  refine Step_mod (f := fun s => s.setO u b) (fun t ht => rfl) (fun x hx i hi => by rw [look_setO (into_fresh (hp x hx) hf hi)]; exact MK.agree_refl) (fun e he => ?_) (fun s v => by cases o.d <;> rfl)
    fun prot hide fn l hc => ?_
  · cases e with
    | val w => rfl
    | new sl b' =>
      cases hd : o.d with
      | none => rfl
      | some t =>
        simp only [applyEff, Option.map]
        cases hes : o.k.esc with
        | true => rfl
        | false =>
          have : t ≠ u := fun e => hs (by rw [site_lays he rfl hes, hd, e])
          simp only [St.fresh, St.setO, Bool.false_eq_true, if_false]
          rw [Own.set_comm (Ne.symm this)]
    | wr i b' w =>
      obtain ⟨x, hx, hi⟩ := evK_at he rfl
      have hne := into_fresh (hp x hx) hf hi
      simp only [applyEff, Option.map_map]
      unfold St.write
      simp only [St.setO]
      cases ho : i.own cx.lvl with
      | some t =>
        have := own_some ho
        subst this
        have : t ≠ u := fun e => hne (by rw [e])
        simp only [Option.map, Function.comp]
        rw [Own.set_comm (Ne.symm this)]
      | none => simp only; split <;> rfl
    | grow j b' m => exact (not_grow he ha).elim
  · have hc' : o.k.isCall = true := by
      cases hk : o.k <;> simp [hk, callOf] at hc <;> rfl
    have := callOf_hide hc
    subst this
    have hu := hh hc'
    refine ⟨?_, rfl, fun h' => ?_⟩
    · simp only [St.setO, Own.veil_set hu]
    · simp only [St.setO, St.pop, Own.unveil_set hu hf.1]
end
end Go.Mini
