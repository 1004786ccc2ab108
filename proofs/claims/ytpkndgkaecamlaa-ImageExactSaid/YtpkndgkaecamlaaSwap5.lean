/- A part of the proof: Swap5. -/
import Derived.Test.YtpkndgkaecamlaaSwap4
namespace Go.Mini
set_option linter.unusedSimpArgs false
set_option linter.unusedVariables false

section
variable {cx cx' : Cx} {s s' s1 s2 : St} {T : Nat → Option MFun} {n : Nat} {o : MOp} {g : Opd → AV} {look : Id → Option Blk}

theorem resOf_leads {r : MRes} {v : AV} {l u : Nat} (h : resOf cx s r = some v) : v.leads (.stk l u) = false := by
  cases r with
  | tmp t =>
    simp only [resOf] at h
    split at h
    · rename_i hs; simp at h; subst h; exact safe_leads hs
    · simp at h
  | cell t ty =>
    simp only [resOf] at h
    split at h
    · split at h
      · cases hl : s.look cx _ with
        | none => rw [hl] at h; simp at h
        | some b =>
          rw [hl] at h
          simp only [Option.bind_some] at h
          split at h
          · rename_i hb
            simp at h
            subst h
            have := hb.2
            simp only [Bool.or_eq_true] at this
            rcases this with h | h
            · exact agg_leads h
            · exact safe_leads h
          · simp at h
      · simp at h
    · simp at h

theorem results_leads {l : List MRes} {v : AV} {k u : Nat} (h : results cx s l = some v) : v.leads (.stk k u) = false := by
  unfold results at h
  split at h
  · exact resOf_leads h
  · simp only [Option.map_eq_some_iff] at h
    obtain ⟨w, _, rfl⟩ := h
    rfl

theorem mem_setd {d : Option Nat} {v : AV} {p : Nat × AV} (h : p ∈ (s.setd d v).sl) : p ∈ s.sl ∨ p.2 = v := by
  cases d with
  | none => exact .inl h
  | some t =>
    rcases Slots.mem_set h with h | h
    · exact .inr (by rw [h])
    · exact .inl h

theorem write_own {i : Id} {b : Blk} {u : Nat} (h : s.write cx i b = some s') (hn : s.own.get u = none) (hi : i ≠ .stk cx.lvl u) : s'.own.get u = none ∧ s'.sl = s.sl := by
  unfold St.write at h
  cases ho : i.own cx.lvl with
  | some t =>
    have := own_some ho
    subst this
    simp [ho] at h
    subst h
    exact ⟨by simp only [Own.get_set]; rw [if_neg (fun e => hi (by rw [e]))]; exact hn, rfl⟩
  | none =>
    simp only [ho] at h
    split at h
    · simp at h; subst h; exact ⟨hn, rfl⟩
    · simp at h

theorem drop_own {i : Id} {u : Nat} (h : s.drop cx i = some s') (hn : s.own.get u = none) : s'.own.get u = none ∧ s'.sl = s.sl := by
  unfold St.drop at h
  cases ho : i.own cx.lvl with
  | some t =>
    simp [ho] at h
    subst h
    exact ⟨by simp only [Own.get_rid]; split <;> simp [hn], rfl⟩
  | none =>
    simp only [ho] at h
    cases i with
    | obj m =>
      simp only at h
      split at h
      · simp at h; subst h; exact ⟨hn, rfl⟩
      · simp at h
    | _ => simp at h

theorem fresh_own {esc : Bool} {t u : Nat} {b : Blk} (hn : s.own.get u = none) (ht : esc = false → t ≠ u) : (s.fresh cx esc t b).2.own.get u = none := by
  cases esc with
  | true => exact hn
  | false =>
    simp only [St.fresh, Bool.false_eq_true, if_false, Own.get_set]
    rw [if_neg (ht rfl)]; exact hn

theorem fresh_mem {esc : Bool} {t : Nat} {b : Blk} {p : Nat × AV} (h : p ∈ (s.fresh cx esc t b).2.sl) : p ∈ s.sl ∨ p.2 = .bot := by
  cases esc with
  | true => exact .inl h
  | false => exact Slots.mem_forget h

theorem newVal_leads {esc : Bool} {t u : Nat} {b b' : Blk} {sl : Option Nat} (ht : esc = false → t ≠ u) : (newVal (s.fresh cx esc t b).1 sl b').leads (.stk cx.lvl u) = false := by
  cases esc with
  | true => cases sl <;> rfl
  | false =>
    have := ht rfl
    cases sl <;> simp [St.fresh, newVal, AV.leads, AV.names, AV.isAgg] <;> exact fun e => this e.symm

/-- What is not there yet is not there behind another step. -/
theorem Step_fresh {u : Nat} (h : Step T n cx o s s1) (hf : Fresh cx u s) (hp : ∀ x ∈ o.k.ops, x.plain = true) (hs : o.site ≠ some u) (hh : o.k.isCall = true → has o.k.hide u = true) : Fresh cx u s1 := by
  rw [Step_iff] at h
  cases h with
  | skip hw =>
    refine ⟨by cases o.d <;> exact hf.1, fun p hp => ?_⟩
    rcases mem_setd hp with h | h
    · exact hf.2 p h
    · rw [h]; rfl
  | op hw hc he ha =>
    rename_i e v s'
    have hlv : ∀ v, (e = .val v ∨ ∃ i b, e = .wr i b v) → v.leads (.stk cx.lvl u) = false := fun v h => evK_leads he h fun x hx => opd_fresh (hp x hx) hf
    have key : s'.own.get u = none ∧ (∀ p ∈ s'.sl, (p.2 : AV).leads (.stk cx.lvl u) = false) ∧ v.leads (.stk cx.lvl u) = false := by
      cases e with
      | val w =>
        simp [applyEff] at ha
        obtain ⟨rfl, rfl⟩ := ha
        exact ⟨hf.1, hf.2, hlv _ (.inl rfl)⟩
      | new sl b =>
        cases hd : o.d with
        | none => rw [hd] at ha; simp [applyEff] at ha
        | some t =>
          rw [hd] at ha
          have ht : o.k.esc = false → t ≠ u := fun hes e => hs (by rw [site_lays he rfl hes, hd, e])
          simp [applyEff] at ha
          obtain ⟨rfl, rfl⟩ := ha
          refine ⟨fresh_own hf.1 ht, fun p hp => ?_, newVal_leads ht⟩
          rcases fresh_mem hp with h | h
          · exact hf.2 p h
          · rw [h]; rfl
      | wr i b w =>
        simp only [applyEff, Option.map_eq_some_iff] at ha
        obtain ⟨s2, hw2, heq⟩ := ha
        simp at heq
        obtain ⟨rfl, rfl⟩ := heq
        obtain ⟨x, hx, hi⟩ := evK_at he rfl
        obtain ⟨h1, h2⟩ := write_own hw2 hf.1 (into_fresh (hp x hx) hf hi)
        exact ⟨h1, by rw [h2]; exact hf.2, hlv _ (.inr ⟨_, _, rfl⟩)⟩
      | grow j b m =>
        cases hd : o.d with
        | none => rw [hd] at ha; simp [applyEff] at ha
        | some t =>
          rw [hd] at ha
          have ht : o.k.esc = false → t ≠ u := fun hes e => hs (by rw [site_lays he rfl hes, hd, e])
          simp only [applyEff, Option.map_eq_some_iff] at ha
          obtain ⟨s2, hw2, heq⟩ := ha
          simp at heq
          obtain ⟨rfl, rfl⟩ := heq
          obtain ⟨h1, h2⟩ := drop_own hw2 hf.1
          refine ⟨fresh_own h1 ht, fun p hp => ?_, newVal_leads ht⟩
          rcases fresh_mem hp with h | h
          · rw [h2] at h; exact hf.2 p h
          · rw [h]; rfl
    refine ⟨by cases o.d <;> exact key.1, fun p hp => ?_⟩
    rcases mem_setd hp with h | h
    · exact key.2.1 p h
    · rw [h]; exact key.2.2
  | call hw hc hco hm hr hb =>
    unfold back at hb
    simp only [Option.map_eq_some_iff] at hb
    obtain ⟨v, hv, rfl⟩ := hb
    have := callOf_hide hco
    subst this
    refine ⟨?_, fun p hp => ?_⟩
    · have : (s.pop cx.lvl o.k.hide (‹St›).hp).own.get u = none := by
        simp only [St.pop, Own.get_unveil]
        rw [if_pos (hh hc)]; exact hf.1
      cases o.d <;> exact this
    · rcases mem_setd hp with h | h
      · exact hf.2 p h
      · rw [h]; exact results_leads hv

theorem fresh_slots {u : Nat} (hf : Fresh cx u s) : s.sl.forget (.stk cx.lvl u) = s.sl := Slots.forget_id hf.2

theorem fresh_sl {esc : Bool} {t : Nat} {b : Blk} (hf : esc = false → ∀ p ∈ s.sl, (p.2 : AV).leads (.stk cx.lvl t) = false) : (s.fresh cx esc t b).2.sl = s.sl := by
  cases esc with
  | true => rfl
  | false => exact Slots.forget_id (hf rfl)

/-- A step turns one slot at most. -/
theorem Step_slots (h : Step T n cx o s s1) (hf : ∀ u, o.site = some u → Fresh cx u s) {t : Nat} (ht : o.d ≠ some t) : Slots.get s1.sl t = Slots.get s.sl t := by
  rw [Step_iff] at h
  cases h with
  | skip hw => exact get_setd ht
  | op hw hc he hap =>
    rename_i e v s'
    rw [get_setd ht]
    cases e with
    | val w =>
      simp [applyEff] at hap
      rw [← hap.2]
    | new sl b =>
      cases hd : o.d with
      | none => rw [hd] at hap; simp [applyEff] at hap
      | some u =>
        rw [hd] at hap
        simp [applyEff] at hap
        rw [← hap.2, fresh_sl fun hes => (hf u (by rw [site_lays he rfl hes, hd])).2]
    | wr i b w =>
      simp only [applyEff, Option.map_eq_some_iff] at hap
      obtain ⟨s2, hw2, heq⟩ := hap
      simp at heq
      rw [← heq.2, (look_write hw2).2.1]
    | grow j b m =>
      cases hd : o.d with
      | none => rw [hd] at hap; simp [applyEff] at hap
      | some u =>
        rw [hd] at hap
        simp only [applyEff, Option.map_eq_some_iff] at hap
        obtain ⟨s2, hw2, heq⟩ := hap
        simp at heq
        have hsl := (look_drop hw2).2.1
        rw [← heq.2, fresh_sl fun hes => (by rw [hsl]; exact (hf u (by rw [site_lays he rfl hes, hd])).2), hsl]
  | call hw hc hco hm hr hb =>
    unfold back at hb
    simp only [Option.map_eq_some_iff] at hb
    obtain ⟨v, hv, rfl⟩ := hb
    rw [get_setd ht]; rfl

def MK.isLook : MK → Bool
  | .load .. => true
  | .sidx .. => true
  | .slice .. => true
  | _ => false

def MK.ro : MK → Bool
  | .load r _ _ _ => r
  | .sidx r _ _ _ => r
  | _ => false

/-- What is known of the one block that such an operation looks at. -/
structure Eye (g : Opd → AV) (k : MK) (i : Id) : Prop where
  one : ∀ x ∈ k.ops, ∀ j, (g x).into j = true → j = i
  ro : k.ro = true → i.isArg = true
  root : ∀ ro r t x, k = .load ro (some r) t x → (g (.s r)).into i = true

theorem toIx_into {v : AV} {z : Int} {i : Id} (h : toIx v = some z) : v.into i = false := by
  cases v <;> simp [toIx] at h <;> rfl

theorem eye {e : Eff} {k : MK} (he : evK g look k = some e) (hk : k.isLook = true) : ∃ i, Eye g k i := by
  cases k <;> simp [MK.isLook] at hk <;> simp only [evK] at he
  case load ro rt t x =>
    split at he <;> try (simp at he; done)
    rename_i i p t' hx
    split at he <;> try (simp at he; done)
    rename_i hc
    refine ⟨i, fun y hy j hj => ?_, fun h => hc.2.1 h, fun ro' r t' x' e => ?_⟩
    · simp only [MK.ops, List.mem_cons] at hy
      rcases hy with rfl | hy
      · rw [hx] at hj; exact into_inj hj into_ptr
      · cases rt with
        | none => simp at hy
        | some r =>
          simp at hy
          subst hy
          exact into_inj hj hc.2.2
    · injection e with _ e2 _ _
      subst e2
      exact hc.2.2
  case sidx ro t x y =>
    split at he <;> try (simp at he; done)
    rename_i j off len z hx hz
    split at he <;> try (simp at he; done)
    rename_i hc
    refine ⟨j, fun y' hy i hi => ?_, fun h => hc.2.2 h, fun _ _ _ _ e => by simp at e⟩
    simp only [MK.ops, List.mem_cons, List.mem_singleton, List.not_mem_nil, or_false] at hy
    rcases hy with rfl | rfl
    · rw [hx] at hi; exact into_inj hi into_sl
    · rw [toIx_into hz] at hi; simp at hi
  case slice t x lo hi =>
    have hlo : ∀ (d : Option Int) (v : Option Opd) (z : Int), (match v with | some o => toIx (g o) | none => d) = some z → ∀ o, v = some o → ∀ i, (g o).into i = false := by
      intro d v z h o e i
      subst e
      exact toIx_into h
    split at he <;> try (simp at he; done)
    · rename_i j off len hx
      split at he <;> try (simp at he; done)
      rename_i a b h1 h2
      refine ⟨j, fun y hy i hi => ?_, fun h => by simp [MK.ro] at h, fun _ _ _ _ e => by simp at e⟩
      simp only [MK.ops, List.mem_cons, List.mem_append, Option.mem_toList] at hy
      rcases hy with rfl | hy | hy
      · rw [hx] at hi; exact into_inj hi into_sl
      · rw [hlo _ lo _ h1 y hy] at hi; simp at hi
      · rw [hlo _ _ _ h2 y hy] at hi; simp at hi
    · rename_i hx
      split at he <;> try (simp at he; done)
      rename_i h1 h2
      refine ⟨.arg 0, fun y hy i hi => ?_, fun h => by simp [MK.ro] at h, fun _ _ _ _ e => by simp at e⟩
      simp only [MK.ops, List.mem_cons, List.mem_append, Option.mem_toList] at hy
      rcases hy with rfl | hy | hy
      · rw [hx] at hi; simp [AV.into] at hi
      · rw [hlo _ lo _ h1 y hy] at hi; simp at hi
      · rw [hlo _ _ _ h2 y hy] at hi; simp at hi
end
end Go.Mini
