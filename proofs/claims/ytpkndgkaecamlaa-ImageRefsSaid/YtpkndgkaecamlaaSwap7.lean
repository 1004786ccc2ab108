/- A part of the proof: Swap7. -/
import Derived.Test.YtpkndgkaecamlaaSwap6
namespace Go.Mini
set_option linter.unusedSimpArgs false
set_option linter.unusedVariables false

section
variable {cx cx' : Cx} {s s' s1 s2 : St} {T : Nat → Option MFun} {n : Nat} {o a b e : MOp} {g : Opd → AV} {look : Id → Option Blk}

theorem evK_nolook {look' : Id → Option Blk} {k : MK} (hq : k.quiet = true) (hl : k.isLook = false) : evK g look k = evK g look' k := by
  cases k <;> first | rfl | (simp [MK.isLook] at hl; done) | (simp [MK.quiet] at hq; done)

theorem Eye.congr {g' : Opd → AV} {k : MK} {i : Id} (h : ∀ x ∈ k.ops, g x = g' x) (hE : Eye g k i) : Eye g' k i :=
  ⟨fun x hx j hj => hE.one x hx j (by rw [h x hx]; exact hj), hE.ro, fun ro r t x e => by rw [← h (.s r) (by rw [e]; simp [MK.ops])]; exact hE.root ro r t x e⟩

theorem agree_symm {k : MK} {x y : Option Blk} (h : k.agree x y) : k.agree y x := by
  unfold MK.agree at h ⊢
  split at h
  · rename_i hk; rw [if_pos hk]; exact h.symm
  · rename_i hk; rw [if_neg hk]; exact h.symm

/-- A step that yields a value and does nothing else. -/
theorem quiet_step (h : Step T n cx o s s1) (hq : o.k.quiet = true ∨ s.wanted o.g = some false) (hp : ∀ x ∈ o.k.ops, x.plain = true) :
    ∃ v, s1 = s.setd o.d v ∧ (∀ u, Fresh cx u s → v.leads (.stk cx.lvl u) = false) ∧
      (∀ s', (∀ t ∈ o.uses, Slots.get s.sl t = Slots.get s'.sl t) → (s.wanted o.g = some false ∨ (o.k.quiet = true ∧ o.k.isLook = false) ∨ ∀ x ∈ o.k.ops, ∀ j, (s.opd x).into j = true → o.k.agree (s.look cx j) (s'.look cx j)) → Step T n cx o s' (s'.setd o.d v) ∧ ∀ u, Fresh cx u s' → v.leads (.stk cx.lvl u) = false) ∧
      (s.wanted o.g = some false ∨ ∃ e, evK s.opd (s.look cx) o.k = some e) := by
  rw [Step_iff] at h
  cases h with
  | skip hw => exact ⟨_, rfl, fun u _ => rfl, fun s' hu _ => ⟨Step_iff.2 (.skip (by rw [← wanted_uses hu]; exact hw)), fun _ _ => rfl⟩, .inl hw⟩
  | op hw hc he ha =>
    rename_i e v s'
    have hq' : o.k.quiet = true := by
      rcases hq with h | h
      · exact h
      · rw [hw] at h; simp at h
    obtain ⟨w, rfl⟩ := evK_quiet he hq'
    simp [applyEff] at ha
    obtain ⟨rfl, rfl⟩ := ha
    refine ⟨w, rfl, fun u hf => evK_leads he (.inl rfl) fun x hx => opd_fresh (hp x hx) hf, fun s' hu hl => ?_, .inr ⟨_, he⟩⟩
    have he' : evK s'.opd (s'.look cx) o.k = some (.val w) := by
      rcases hl with hl | hl | hl
      · rw [hw] at hl; simp at hl
      · rw [evK_nolook hl.1 hl.2 (look' := s.look cx), ← evK_congr (opd_uses hu) (fun _ _ _ _ => MK.agree_refl)]; exact he
      · rw [← evK_congr (opd_uses hu) hl]; exact he
    exact ⟨Step_iff.2 (.op (by rw [← wanted_uses hu]; exact hw) hc he' rfl), fun u hf => evK_leads he' (.inl rfl) fun x hx => opd_fresh (hp x hx) hf⟩
  | call hw hc hco hm hr hb =>
    exfalso
    rcases hq with h | h
    · cases hk : o.k <;> simp [hk, MK.isCall] at hc <;> simp [hk, MK.quiet] at h
    · rw [hw] at h; simp at h

/-- A step that lays a local block. -/
theorem site_step (h : Step T n cx o s s1) (hs : o.isSite = true) (hw0 : s.wanted o.g ≠ some false) {u : Nat} (hu : o.site = some u) (hf : Fresh cx u s) :
    ∃ bl v, s1 = (s.setO u bl).setd (some u) v ∧ (∀ u', u' ≠ u → v.leads (.stk cx.lvl u') = false) ∧
      ∀ s', (∀ t ∈ o.uses, Slots.get s.sl t = Slots.get s'.sl t) → Fresh cx u s' → Step T n cx o s' ((s'.setO u bl).setd (some u) v) := by
  have hd := site_d hu
  simp only [MOp.isSite, Bool.and_eq_true, Bool.not_eq_true'] at hs
  rw [Step_iff] at h
  cases h with
  | skip hw => exact absurd hw hw0
  | op hw hc he ha =>
    rename_i e v s'
    have hes : o.k.esc = false := by
      unfold MOp.site at hu
      split at hu <;> first | (simp at hu; done) | (rename_i hk; rw [hk]; rfl)
    have hnl : ∀ g look look', evK g look o.k = evK g look' o.k := by
      intro g look look'
      unfold MOp.site at hu
      split at hu <;> first | (simp at hu; done) | (rename_i hk; rw [hk]; rfl) | (rename_i hk; rw [hk] at hs; simp [MK.isAppend] at hs)
    have hnew : ∃ sl bl, e = .new sl bl := by
      unfold MOp.site at hu
      split at hu <;> first | (simp at hu; done) | skip
      · rename_i hk; rw [hk] at he; simp only [evK, Option.some.injEq] at he; exact ⟨_, _, he.symm⟩
      · rename_i hk; rw [hk] at he; simp only [evK] at he; split at he <;> simp at he; exact ⟨_, _, he.symm⟩
      · rename_i hk; rw [hk] at he; simp only [evK, Option.map_eq_some_iff] at he; obtain ⟨w, _, he⟩ := he; exact ⟨_, _, he.symm⟩
      · rename_i hk; rw [hk] at hs; simp [MK.isAppend] at hs
    obtain ⟨sl, bl, rfl⟩ := hnew
    rw [hd, hes] at ha
    simp [applyEff] at ha
    obtain ⟨rfl, rfl⟩ := ha
    have hfr : ∀ s', Fresh cx u s' → s'.fresh cx false u bl = (.stk cx.lvl u, s'.setO u bl) := by
      intro s' hf'
      simp only [St.fresh, Bool.false_eq_true, if_false, St.setO, fresh_slots hf']
    refine ⟨bl, newVal (.stk cx.lvl u) sl bl, by rw [hfr s hf, hd], fun u' hu' => ?_, fun s' hus hf' => ?_⟩
    · cases sl <;> simp [newVal, AV.leads, AV.names, AV.isAgg] <;> exact fun e => hu' e
    · have := Step_iff.2 (StepIs.op (T := T) (n := n) (cx := cx) (o := o) (s := s') (e := .new sl bl) (v := newVal (.stk cx.lvl u) sl bl) (s' := s'.setO u bl) (by rw [← wanted_uses hus]; exact hw) hc (by rw [← evK_congr (g := s.opd) (look := s'.look cx) (opd_uses hus) (fun _ _ _ _ => MK.agree_refl), hnl _ _ (s.look cx)]; exact he)
        (by rw [hd, hes]; simp only [applyEff, hfr s' hf']))
      rw [hd] at this
      exact this
  | call hw hc hco hm hr hb => rw [site_notcall hu] at hc; simp at hc

theorem isSite_site (h : o.isSite = true) : ∃ u, o.site = some u ∧ o.k.isAppend = false := by
  simp only [MOp.isSite, Bool.and_eq_true, Bool.not_eq_true'] at h
  cases hs : o.site with
  | none => rw [hs] at h; simp at h
  | some u => exact ⟨u, rfl, h.2⟩

/-- Two operations that may be done in either order. -/
theorem swap (ha : Step T n cx a s s1) (hb : Step T n cx b s1 s2) (hok : pairOk a b = true) (hL : Lows cx s) (hpa : ∀ x ∈ a.k.ops, x.plain = true) (hpb : ∀ x ∈ b.k.ops, x.plain = true)
    (hfa : ∀ u, a.site = some u → Fresh cx u s) (hfb : ∀ u, b.site = some u → Fresh cx u s) :
    ∃ t, Step T n cx b s t ∧ Step T n cx a t s2 := by
  simp only [pairOk, Bool.and_eq_true] at hok
  obtain ⟨⟨hD1, hD2⟩, hok⟩ := hok
  have h1 : ∀ t, a.d = some t → t ∉ b.uses ∧ b.d ≠ some t := by
    intro t ht
    rw [ht] at hD1
    simpa [bne_iff_ne] using hD1
  have h2 : ∀ t, b.d = some t → t ∉ a.uses ∧ a.d ≠ some t := by
    intro t ht
    rw [ht] at hD2
    refine ⟨by simpa using hD2, fun e => (h1 t e).2 ht⟩
  have hsd : ∀ u, a.site = some u → b.site ≠ some u := fun u hu hu' => (h1 u (site_d hu)).2 (site_d hu')
  -- what b reads is as it was ahead of a
  have hub : ∀ t ∈ b.uses, Slots.get s1.sl t = Slots.get s.sl t := fun t ht => Step_slots ha hfa fun e => (h1 t e).1 ht
  by_cases hqa : a.k.quiet = true ∨ s.wanted a.g = some false
  · -- the first one but yields a value
    obtain ⟨v, rfl, hv, hrep, hev⟩ := quiet_step ha hqa hpa
    obtain ⟨t, ht, rfl⟩ := (Step_setd (td := a.d) (v := v) (fun t ht => h1 t ht) (fun u hu => hv u (hfb u hu))).1 hb
    refine ⟨t, ht, (hrep t (fun r hr => (Step_slots ht hfb fun e => (h2 r e).1 hr).symm) ?_).1⟩
    rcases hev with hev | ⟨e, he⟩
    · exact .inl hev
    · rcases hqa with hqa | hqa
      · refine .inr ?_
        rw [if_pos hqa] at hok
        by_cases hlk : a.k.isLook = true
        · refine .inr (look_any ht hpa hL hfb ?_)
          simp only [hlk, Bool.not_true, Bool.false_or, Bool.or_eq_true] at hok
          rcases hok with (hok | hok) | hok
          · exact .inl hok
          · exact .inr (.inl hok)
          · exact .inr (.inr (.inr ⟨hok, eye he hlk⟩))
        · exact .inl ⟨hqa, by simpa using hlk⟩
      · exact .inl hqa
  · have hqa1 : a.k.quiet = false := by
      cases h : a.k.quiet with
      | false => rfl
      | true => exact absurd (.inl h) hqa
    have hqa2 : s.wanted a.g ≠ some false := fun h => hqa (.inr h)
    rw [hqa1] at hok
    simp only [Bool.false_eq_true, if_false] at hok
    by_cases hqb : b.k.quiet = true ∨ s1.wanted b.g = some false
    · -- the second one but yields a value
      obtain ⟨v, rfl, hv, hrep, hev⟩ := quiet_step hb hqb hpb
      have hob : ∀ x ∈ b.k.ops, s1.opd x = s.opd x := opd_uses hub
      obtain ⟨hbs, hvs⟩ := hrep s hub (by
        rcases hev with hev | ⟨e, he⟩
        · exact .inl hev
        · rcases hqb with hqb | hqb
          · refine .inr ?_
            rw [if_pos hqb] at hok
            by_cases hlk : b.k.isLook = true
            · refine .inr fun x hx j hj => agree_symm (look_any ha hpb hL hfa ?_ x hx j (by rw [← hob x hx]; exact hj))
              simp only [hlk, Bool.not_true, Bool.false_or, Bool.or_eq_true] at hok
              rcases hok with hok | hok
              · exact .inr (.inl hok)
              · obtain ⟨i, hE⟩ := eye he hlk
                exact .inr (.inr (.inr ⟨hok, i, hE.congr hob⟩))
            · exact .inl ⟨hqb, by simpa using hlk⟩
          · exact .inl hqb)
      exact ⟨_, hbs, (Step_setd (td := b.d) (v := v) (fun t ht => h2 t ht) (fun u hu => hvs u (hfa u hu))).2 ⟨s1, ha, rfl⟩⟩
    · have hqb1 : b.k.quiet = false := by
        cases h : b.k.quiet with
        | false => rfl
        | true => exact absurd (.inl h) hqb
      have hqb2 : s1.wanted b.g ≠ some false := fun h => hqb (.inr h)
      rw [hqb1] at hok
      simp only [Bool.false_eq_true, if_false] at hok
      have hides_ok : ∀ {e o : MOp} {u : Nat}, hides e o = true → o.site = some u → e.k.isAppend = false ∧ (e.k.isCall = true → has e.k.hide u = true) := by
        intro e o u h hu
        simp only [hides, Bool.and_eq_true, Bool.not_eq_true', Bool.or_eq_true] at h
        refine ⟨h.1, fun hc => ?_⟩
        rcases h.2 with h2 | h2
        · rw [hc] at h2; simp at h2
        · rw [hu] at h2; exact h2
      by_cases hsa : a.isSite = true
      · rw [if_pos hsa] at hok
        obtain ⟨u, hu, _⟩ := isSite_site hsa
        obtain ⟨hap, hh⟩ := hides_ok hok hu
        have hf := hfa u hu
        obtain ⟨bl, v, rfl, hv, hrep⟩ := site_step ha hsa hqa2 hu hf
        obtain ⟨t2, ht2, rfl⟩ := (Step_setd (td := some u) (v := v) (fun t ht => by simp at ht; subst ht; exact h1 u (site_d hu)) (fun u' hu' => hv u' fun e => hsd u hu (by rw [← e]; exact hu'))).1 hb
        obtain ⟨t, ht, rfl⟩ := (Step_setO hf hpb (hsd u hu) hap hh).1 ht2
        exact ⟨t, ht, hrep t (fun r hr => (Step_slots ht hfb fun e => (h2 r e).1 hr).symm) (Step_fresh ht hf hpb (hsd u hu) hh)⟩
      · rw [if_neg hsa] at hok
        by_cases hsb : b.isSite = true
        · rw [if_pos hsb] at hok
          obtain ⟨u, hu, _⟩ := isSite_site hsb
          obtain ⟨hap, hh⟩ := hides_ok hok hu
          have hf := hfb u hu
          have hsu : a.site ≠ some u := fun e => hsd u e hu
          obtain ⟨bl, v, rfl, hv, hrep⟩ := site_step hb hsb hqb2 hu (Step_fresh ha hf hpa hsu hh)
          refine ⟨_, hrep s hub hf, (Step_setd (td := some u) (v := v) (fun t ht => by simp at ht; subst ht; exact h2 u (site_d hu)) (fun u' hu' => hv u' fun e => hsu (by rw [← e]; exact hu'))).2 ⟨_, (Step_setO hf hpa hsu hap hh).2 ⟨s1, ha, rfl⟩, rfl⟩⟩
        · rw [if_neg hsb] at hok; simp at hok
end
end Go.Mini
