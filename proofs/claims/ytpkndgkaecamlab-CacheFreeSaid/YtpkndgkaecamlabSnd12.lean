/- A part of the proof: Snd12. -/
import Derived.Test.YtpkndgkaecamlabSnd11
namespace Go.Mini
open Go.RowKit
set_option linter.unusedSimpArgs false
set_option linter.unusedVariables false

/-- What is known behind a call. -/
structure After (φ : Nat → Option FuncId) (O : Nat → Prop) (β : Beta) (l n0 : Nat) (w : World) (look : Id → Option Blk) (n1 : Nat) (stk : Nat → Own) (β' : Beta) (w' : World) : Prop where
  mem : HR φ β' O look w'
  same : SameBut w w' O
  ext : Ext l n0 β β'
  next : n0 ≤ n1
  dom : ∀ i pl, β' i = some pl → i.under (l + 1) n1
  top : ∀ k, l ≤ k → stk k = []

def CallSim (P : Program) (T : Nat → Option MFun) (φ : Nat → Option FuncId) (draw : Array Oper → List MOp → Bool) (m : Nat) : Prop :=
  ∀ (cx : Cx) (fn : MFun) (F : FuncId) (args : List AV) (h : HP) (s2 : St) (v : AV) (β : Beta) (O : Nat → Prop) (rargs : List Value) (w : World),
    matchFn P φ draw F fn = true → run T m cx [.code fn.body] (St.enter args h) = some s2 → results cx s2 fn.res = some v → args.length = fn.params + fn.nfree → All2 (VR φ β) args rargs →
    HR φ β O h.look w → (∀ i pl, β i = some pl → i.under cx.lvl h.next) → (∀ l, cx.lvl ≤ l → h.stk l = []) → (∀ r, w.heap.size ≤ r → O r) →
    Calls P F rargs.toArray w fun en w' => ∃ x β', en = .returned x ∧ VR φ β' v x ∧ v.resOk ∧ After φ O β cx.lvl h.next w (s2.look cx) s2.hp.next s2.hp.stk β' w'

def TblOk (P : Program) (T : Nat → Option MFun) (φ : Nat → Option FuncId) (draw : Array Oper → List MOp → Bool) : Prop := ∀ f fn F, T f = some fn → φ f = some F → matchFn P φ draw F fn = true

section
variable {φ : Nat → Option FuncId} {β : Beta} {P : Program} {O : Nat → Prop} {w w' : World} {look look' : Id → Option Blk} {nt : Nat} {cx : Cx} {s s' s1 : St} {a : Act} {T : Nat → Option MFun} {draw : Array Oper → List MOp → Bool}

theorem opds_of_slots (h : SR φ β s.sl a.tmps) : Opds φ β a.eval s.opd := by
  intro x y hxy
  cases x <;> cases y <;> simp [opdOk] at hxy
  · subst hxy; simpa [Act.eval, St.opd] using h _
  · rename_i y b
    have hl := zeroOk_LR (φ := φ) (β := β) hxy
    have ha : b.isAgg = false := by cases b <;> simp [zeroOk] at hxy <;> rfl
    have : VR φ β b y := VR_of_VR1 (by simp only [VR1, ha, Bool.false_eq_true, if_false]; exact hl)
    exact this
  · rename_i F n
    have : VR φ β (.func n .unit) (.func (.func F) #[] #[]) := VR_of_VR1 (by
      simp only [VR1, AV.isAgg, Bool.false_eq_true, if_false]
      exact ⟨F, [], hxy, rfl, rfl⟩)
    exact this

theorem opds_list {ρ : Operand → Value} {g : Opd → AV} (hg : Opds φ β ρ g) : ∀ {xs : List Operand} {ys : List Opd}, opdsOk φ xs ys = true → All2 (VR φ β) (ys.map g) (xs.map ρ)
  | [], [], _ => All2.nil
  | [], _ :: _, h => by simp [opdsOk] at h
  | _ :: _, [], h => by simp [opdsOk] at h
  | x :: xs, y :: ys, h => by
    simp [opdsOk] at h
    exact All2.cons (hg _ _ h.1) (opds_list hg h.2)

theorem cap_list : ∀ {c : AV} {l : List Value}, (c.rel φ β).2 l → All2 (VR φ β) (capList c) l := by
  intro c
  induction c with
  | cons x y _ ihy =>
    intro l h
    obtain ⟨v, vs, rfl, h1, h2⟩ := h
    refine All2.cons ?_ (ihy h2)
    cases x <;> first | exact VR_of_VR1 (by simp only [VR1, AV.isAgg, Bool.false_eq_true, if_false]; exact h1) | simp [AV.rel] at h1
  | unit => intro l h; simp [AV.rel] at h; subst h; exact All2.nil
  | _ => intro l h; simp [AV.rel] at h

theorem wanted_ok {ops : Array Oper} {o : Oper} {g : Option (Nat × Bool)} {b : Bool} (h : SR φ β s.sl a.tmps) (hg : guardOk ops o.guard g = true) (hw : s.wanted g = some b) : Region.wanted o (yielded ops a.tmps) = b := by
  unfold Region.wanted
  cases hgd : o.guard with
  | none =>
    cases g with
    | none => simp [St.wanted] at hw; subst hw; rfl
    | some q => simp [guardOk, hgd] at hg
  | some p =>
    cases g with
    | none => obtain ⟨j, c⟩ := p; simp [guardOk, hgd] at hg
    | some q =>
      obtain ⟨j, c⟩ := p
      obtain ⟨t, d⟩ := q
      simp only [guardOk, hgd, Bool.and_eq_true, beq_iff_eq] at hg
      obtain ⟨rfl, hd⟩ := hg
      cases ho : ops[j]? with
      | none => simp [ho] at hd
      | some oj =>
        simp [ho] at hd
        simp only
        have hsl := h t
        have hy : yielded ops a.tmps j = match a.tmps[t]? with | some (.bool b) => some b | _ => none := by
          unfold yielded
          rw [ho]
          simp only [Option.bind_some, hd]
          cases a.tmps[t]? with
          | none => rfl
          | some y => cases y <;> rfl
        rw [hy]
        simp only [St.wanted] at hw
        split at hw
        · rename_i c' hc
          rw [hc] at hsl
          have hv := LR_bool hsl
          simp at hw
          have : a.tmps[t]? = some (.bool c') := by
            rw [Array.getD_eq_getD_getElem?] at hv
            cases ht : a.tmps[t]? with
            | none => rw [ht] at hv; simp [undef] at hv
            | some y => rw [ht] at hv; simp at hv; rw [hv]
          simp only [this]
          rw [← hw]
          cases c' <;> cases c <;> rfl
        · rename_i hc
          rw [hc] at hsl
          obtain ⟨xs, hx, ht⟩ := hsl
          simp at hw
          subst hw
          cases xs with
          | cons => exact ht.elim
          | nil =>
            have : ∀ b, a.tmps[t]? ≠ some (.bool b) := by
              intro b hb
              rw [Array.getD_eq_getD_getElem?, hb] at hx
              simp at hx
            cases hq : a.tmps[t]? with
            | none => rfl
            | some y => cases y <;> first | rfl | exact absurd hq (this _)
        · simp at hw

/-- The caller's frame, behind a call. -/
theorem Rel_back {d : Option Nat} {hide : List Nat} {s2 : St} {v : AV} {x : Value} {O' : Nat → Prop} {β' : Beta} {cx' : Cx} (h : Rel φ β O nt cx s a w) (hl : cx'.lvl = cx.lvl + 1) (hv : VR φ β' v x) (hr : v.resOk)
    (hA : After φ O' β cx'.lvl s.hp.next w (s2.look cx') s2.hp.next s2.hp.stk β' w') (hd : ∀ t, d = some t → t < nt)
    (hO : ∀ r, O' r → O r) (hh : ∀ t b pl, has hide t = true → s.own.get t = some b → β (.stk cx.lvl t) = some pl → ¬ O' pl.r)
    (harg : ∀ n, s2.look cx' (.arg n) = s.look cx (.arg n)) :
    ∃ β1, Rel φ β1 O nt cx ((s.pop cx.lvl hide s2.hp).setd d v) (a.put d x) w' ∧ Ext cx.lvl s.hp.next β β1 := by
  have hdec : ∀ i : Id, Decidable (i.under (cx.lvl + 1) s2.hp.next) := fun i => by cases i <;> simp only [Id.under] <;> infer_instance
  let β1 : Beta := fun i => if @decide (i.under (cx.lvl + 1) s2.hp.next) (hdec i) then β' i else none
  have h1 : ∀ i pl, i.under (cx.lvl + 1) s2.hp.next → β' i = some pl → β1 i = some pl := by
    intro i pl hi hb
    show (if _ then _ else _) = _
    rw [if_pos (by simpa using hi)]
    exact hb
  have h1' : ∀ i pl, β1 i = some pl → β' i = some pl ∧ i.under (cx.lvl + 1) s2.hp.next := by
    intro i pl hb
    have hb : (if @decide (i.under (cx.lvl + 1) s2.hp.next) (hdec i) then β' i else none) = some pl := hb
    split at hb
    · rename_i hi; exact ⟨hb, by simpa using hi⟩
    · simp at hb
  have hns : ∀ i pl, i.isStk = false → β' i = some pl → β1 i = some pl := by
    intro i pl hi hb
    refine h1 i pl ?_ hb
    have := hA.dom i pl hb
    cases i <;> simp_all [Id.under, Id.isStk]
  have hmono : ∀ i pl, β i = some pl → β1 i = some pl := by
    intro i pl hb
    have hu := h.dom i pl hb
    refine h1 i pl ?_ (hA.ext i pl ?_ hb)
    · cases i <;> simp_all [Id.under]
      have := hA.next; omega
    · rw [hl]; exact hu
  have hlook : ∀ i b, (s.pop cx.lvl hide s2.hp).look cx i = some b → (s2.look cx' i = some b ∧ ∀ t, i ≠ .stk cx'.lvl t) ∨ (∃ t, i = .stk cx.lvl t ∧ has hide t = true ∧ s.own.get t = some b) := by
    intro i b hb
    cases i with
    | stk l t =>
      by_cases hll : l = cx.lvl
      · subst hll
        simp only [St.look, Id.own, if_true, St.pop, Own.get_unveil] at hb
        split at hb
        · rename_i hhd; exact .inr ⟨t, rfl, hhd, hb⟩
        · refine .inl ⟨?_, fun t' e => by simp at e; omega⟩
          simp only [St.look, Id.own, hl]
          rw [if_neg (by omega)]
          exact hb
      · simp only [St.look, Id.own, if_neg hll, St.pop, HP.pop, HP.look] at hb
        by_cases hl2 : l = cx'.lvl
        · have := hA.top l (by omega)
          rw [this] at hb
          simp [Own.get] at hb
        · refine .inl ⟨?_, fun t' e => by simp at e; exact hl2 e.1⟩
          simp only [St.look, Id.own, if_neg hl2, HP.look]
          exact hb
    | obj n => exact .inl ⟨by simpa [St.look, Id.own, St.pop, HP.pop, HP.look] using hb, by simp⟩
    | arg n => exact .inl ⟨by simpa [St.look, Id.own, St.pop, HP.pop, HP.look] using hb, by simp⟩
  -- hidden against seen
  have hmix : ∀ t b j bj pi pj, has hide t = true → s.own.get t = some b → s2.look cx' j = some bj → β1 (.stk cx.lvl t) = some pi → β1 j = some pj → pi.r ≠ pj.r := by
    intro t b j bj pi pj hht ho hj hpi hpj e
    have hlk : s.look cx (.stk cx.lvl t) = some b := by rw [look_stk]; exact ho
    obtain ⟨pl, cs, T, fr, hB⟩ := h.mem.live _ b hlk
    obtain rfl := Option.some.inj ((hmono _ _ hB.place).symm.trans hpi)
    have hnO := hh t b pl hht ho hB.place
    obtain ⟨plj, csj, Tj, frj, hBj⟩ := hA.mem.live j bj hj
    obtain rfl := Option.some.inj (hBj.place.symm.trans (h1' j pj hpj).1)
    cases hja : j.isArg with
    | false => exact hnO (by rw [e]; exact (hBj.own hja).2)
    | true =>
      cases j with
      | arg n =>
        rw [harg] at hj
        obtain ⟨plj', _, _, _, hBj'⟩ := h.mem.live _ bj hj
        obtain rfl := Option.some.inj ((hmono _ _ hBj'.place).symm.trans hpj)
        have := (h.mem.apart _ _ _ _ _ _ hlk hj hB.place hBj'.place (by simp) e).1
        simp [Id.isArg] at this
      | _ => simp [Id.isArg] at hja
  refine ⟨β1, Rel_setd (s := s.pop cx.lvl hide s2.hp) ⟨fun t => VR_mono hmono (h.slots t), ⟨?_, ?_⟩, fun i pl hb => (h1' i pl hb).2, ?_, fun r hr => h.fresh r (Nat.le_trans hA.same.size hr), h.defers, h.size⟩ hd ?_, fun i pl _ hb => hmono i pl hb⟩
  · intro i b hb
    rcases hlook i b hb with ⟨hb2, hne⟩ | ⟨t, rfl, hht, ho⟩
    · obtain ⟨pl, cs, T, fr, hB⟩ := hA.mem.live i b hb2
      have hu := hA.dom i pl hB.place
      have hu' : i.under (cx.lvl + 1) s2.hp.next := by
        cases i with
        | stk l t =>
          simp only [Id.under] at hu ⊢
          have : l ≠ cx'.lvl := fun e => by subst e; exact hne t rfl
          omega
        | obj n => exact hu
        | arg n => trivial
      exact ⟨pl, cs, T, fr, h1 i pl hu' hB.place, hB.ty, hB.fits, hB.heap, hB.room, hB.size, cells_congr (Ty.fits_safe hB.fits) hns hB.cells, fun hi => ⟨(hB.own hi).1, hO _ (hB.own hi).2⟩⟩
    · have hlk : s.look cx (.stk cx.lvl t) = some b := by rw [look_stk]; exact ho
      obtain ⟨pl, cs, T, fr, hB⟩ := h.mem.live _ b hlk
      have hlt := HR_lt h.mem hlk hB.place
      have hsame := hA.same.block pl.r hlt (hh t b pl hht ho hB.place)
      exact ⟨pl, cs, T, fr, hmono _ _ hB.place, hB.ty, hB.fits, by rw [hsame]; exact hB.heap, hB.room, hB.size, cells_congr (Ty.fits_safe hB.fits) (fun i pl _ hb => hmono i pl hb) hB.cells, hB.own⟩
  · intro i j bi bj pi pj hi hj hpi hpj
    rcases hlook i bi hi with ⟨hi2, _⟩ | ⟨t, rfl, hht, ho⟩ <;> rcases hlook j bj hj with ⟨hj2, _⟩ | ⟨t', rfl, hht', ho'⟩
    · exact hA.mem.apart i j bi bj pi pj hi2 hj2 (h1' i pi hpi).1 (h1' j pj hpj).1
    · exact fun _ e => absurd e.symm (hmix t' bj i bi pj pi hht' ho' hi2 hpj hpi)
    · exact fun _ e => absurd e (hmix t bi j bj pi pj hht ho hj2 hpi hpj)
    · have hlk : s.look cx (.stk cx.lvl t) = some bi := by rw [look_stk]; exact ho
      have hlk' : s.look cx (.stk cx.lvl t') = some bj := by rw [look_stk]; exact ho'
      obtain ⟨p1, _, _, _, hB1⟩ := h.mem.live _ bi hlk
      obtain ⟨p2, _, _, _, hB2⟩ := h.mem.live _ bj hlk'
      obtain rfl := Option.some.inj ((hmono _ _ hB1.place).symm.trans hpi)
      obtain rfl := Option.some.inj ((hmono _ _ hB2.place).symm.trans hpj)
      exact h.mem.apart _ _ bi bj _ _ hlk hlk' hB1.place hB2.place
  · intro l hle
    simp only [St.pop, HP.pop]
    by_cases hll : l = cx.lvl
    · rw [if_pos hll]; exact h.top _ (Nat.le_refl _)
    · rw [if_neg hll]; exact hA.top l (by omega)
  · refine VR_congr (fun i pl hi hb => ?_) hv
    rcases hi with hi | hi
    · rcases hr with hr | ⟨u, rfl⟩
      · simp only [AV.leads, Bool.and_eq_true, Bool.not_eq_true'] at hi
        exact hns i pl (safe_names hr hi.1 hi.2) hb
      · simp [AV.leads, AV.names] at hi
    · exact hns i pl hi hb

theorem push_look_veil {hide : List Nat} : (s.hp.push cx.lvl (s.own.veil hide)).look = fun i => match i.own cx.lvl with | some t => if has hide t then none else s.look cx i | none => s.look cx i := by
  funext i
  cases i with
  | stk l t =>
    simp only [HP.look, HP.push, St.look, Id.own]
    by_cases h : l = cx.lvl <;> simp [h, Own.get_veil]
  | obj n => simp [HP.look, HP.push, St.look, Id.own]
  | arg n => simp [HP.look, HP.push, St.look, Id.own]

theorem push_look : (s.hp.push cx.lvl s.own).look = s.look cx := by
  funext i
  cases i with
  | stk l t =>
    simp only [HP.look, HP.push, St.look, Id.own]
    by_cases h : l = cx.lvl <;> simp [h]
  | obj n => simp [HP.look, HP.push, St.look, Id.own]
  | arg n => simp [HP.look, HP.push, St.look, Id.own]

end
end Go.Mini
