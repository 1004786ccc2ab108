/- A part of the proof: Snd9. -/
import Derived.Test.YtpkndgkaecamlabSnd8
namespace Go.Mini
open Go.RowKit
set_option linter.unusedSimpArgs false
set_option linter.unusedVariables false

/-- Local blocks below a level, objects below a number, all that came in. -/
def Id.under : Id → Nat → Nat → Prop
  | .stk l _, m, _ => l < m
  | .obj k, _, n => k < n
  | .arg _, _, _ => True

section looks
variable {cx : Cx} {s s' : St} {i j : Id} {b : Blk} {d : Nat}

theorem own_some {i : Id} {l t : Nat} (h : i.own l = some t) : i = .stk l t := by
  cases i <;> simp [Id.own] at h
  obtain ⟨rfl, rfl⟩ := h
  rfl
theorem own_none {i : Id} {l : Nat} (h : i.own l = none) (t : Nat) : i ≠ .stk l t := by
  rintro rfl
  simp [Id.own] at h

theorem look_stk : s.look cx (.stk cx.lvl d) = s.own.get d := by simp [St.look, Id.own]

theorem look_fresh_stk : (s.fresh cx false d b).2.look cx i = if i = .stk cx.lvl d then some b else s.look cx i := by
  simp only [St.fresh, Bool.false_eq_true, if_false, St.look]
  cases ho : i.own cx.lvl with
  | none =>
    have := own_none ho d
    simp [this]
  | some t =>
    have := own_some ho
    subst this
    simp only [Own.get_set]
    by_cases h : d = t
    · subst h; simp
    · rw [if_neg h, if_neg (by simp; exact fun e => h e.symm)]

theorem look_fresh_obj : (s.fresh cx true d b).2.look cx i = if i = .obj s.hp.next then some b else s.look cx i := by
  simp only [St.fresh, if_true, St.look]
  cases ho : i.own cx.lvl with
  | none =>
    cases i with
    | stk l t => simp [HP.look]
    | obj n => simp only [HP.look]; by_cases h : n = s.hp.next <;> simp [h]
    | arg n => simp [HP.look]
  | some t =>
    have := own_some ho
    subst this
    simp

theorem look_write (h : s.write cx i b = some s') : i.isArg = false ∧ s'.sl = s.sl ∧ s'.hp.next = s.hp.next ∧ (∀ j, s'.look cx j = if j = i then some b else s.look cx j) ∧ (∀ l t, i = .stk l t → l ≠ cx.lvl → (∀ l', l' ≠ l → s'.hp.stk l' = s.hp.stk l')) ∧ ((∀ l t, i ≠ .stk l t ∨ l = cx.lvl) → s'.hp.stk = s.hp.stk) := by
  unfold St.write at h
  cases ho : i.own cx.lvl with
  | some t =>
    have := own_some ho
    subst this
    simp [ho] at h
    subst h
    refine ⟨rfl, rfl, rfl, fun j => ?_, fun l t' e hl => by simp at e; exact absurd e.1.symm hl, fun _ => rfl⟩
    simp only [St.look]
    cases hj : j.own cx.lvl with
    | none =>
      have := own_none hj t
      simp [this]
    | some u =>
      have := own_some hj
      subst this
      simp only [Own.get_set]
      by_cases h : t = u
      · subst h; simp
      · rw [if_neg h, if_neg (by simp; exact fun e => h e.symm)]
  | none =>
    simp only [ho] at h
    split at h
    · rename_i hl
      simp at h
      subst h
      cases i with
      | stk l t =>
        have hne : l ≠ cx.lvl := fun e => by subst e; simp [Id.own] at ho
        refine ⟨rfl, rfl, rfl, fun j => ?_, fun l' t' e _ l'' h => by simp at e; obtain ⟨rfl, rfl⟩ := e; simp [HP.set, h], fun h => by simpa [hne] using h l t⟩
        simp only [St.look]
        cases hj : j.own cx.lvl with
        | some u =>
          have := own_some hj
          subst this
          simp [Ne.symm hne]
        | none =>
          cases j with
          | stk l' t' =>
            simp only [HP.look, HP.set]
            by_cases h1 : l' = l
            · subst h1
              simp only [if_true, Own.get_set]
              by_cases h2 : t = t'
              · subst h2; simp
              · rw [if_neg h2, if_neg (by simp; exact fun e => h2 e.symm)]
            · simp [h1]
          | obj n => simp [HP.look, HP.set]
          | arg n => simp [HP.look, HP.set]
      | obj n =>
        refine ⟨rfl, rfl, rfl, fun j => ?_, fun l' t' e => by simp at e, fun _ => rfl⟩
        simp only [St.look]
        cases hj : j.own cx.lvl with
        | some u =>
          have := own_some hj
          subst this
          simp
        | none =>
          cases j with
          | stk l' t' => simp [HP.look, HP.set]
          | obj n' => simp only [HP.look, HP.set]; by_cases h : n' = n <;> simp [h]
          | arg n => simp [HP.look, HP.set]
      | arg n => simp [Prot.lets] at hl
    · simp at h

theorem look_drop (h : s.drop cx i = some s') : i.isArg = false ∧ s'.sl = s.sl ∧ s'.hp.next = s.hp.next ∧ s'.hp.stk = s.hp.stk ∧ ∀ j, s'.look cx j = if j = i then none else s.look cx j := by
  unfold St.drop at h
  cases ho : i.own cx.lvl with
  | some t =>
    have := own_some ho
    subst this
    simp [ho] at h
    subst h
    refine ⟨rfl, rfl, rfl, rfl, fun j => ?_⟩
    simp only [St.look]
    cases hj : j.own cx.lvl with
    | none =>
      have := own_none hj t
      simp [this]
    | some u =>
      have := own_some hj
      subst this
      simp only [Own.get_rid]
      by_cases h : t = u
      · subst h; simp
      · rw [if_neg h, if_neg (by simp; exact fun e => h e.symm)]
  | none =>
    simp only [ho] at h
    cases i with
    | stk l t => simp at h
    | arg n => simp at h
    | obj n =>
      simp only at h
      split at h
      · simp at h
        subst h
        refine ⟨rfl, rfl, rfl, rfl, fun j => ?_⟩
        simp only [St.look]
        cases hj : j.own cx.lvl with
        | some u =>
          have := own_some hj
          subst this
          simp
        | none =>
          cases j with
          | stk l' t' => simp [HP.look]
          | obj n' => simp only [HP.look]; by_cases h : n' = n <;> simp [h]
          | arg n => simp [HP.look]
      · simp at h
end looks

/-- The running frame, the memory and the world belong together. -/
structure Rel (φ : Nat → Option FuncId) (β : Beta) (O : Nat → Prop) (nt : Nat) (cx : Cx) (s : St) (a : Act) (w : World) : Prop where
  slots : SR φ β s.sl a.tmps
  mem : HR φ β O (s.look cx) w
  dom : ∀ i pl, β i = some pl → i.under (cx.lvl + 1) s.hp.next
  top : ∀ l, cx.lvl ≤ l → s.hp.stk l = []
  fresh : ∀ r, w.heap.size ≤ r → O r
  defers : a.defers = []
  size : a.tmps.size = nt

section
variable {φ : Nat → Option FuncId} {β : Beta} {O : Nat → Prop} {w w' : World} {look look' : Id → Option Blk} {nt : Nat} {cx : Cx} {s s' : St} {a : Act}

theorem HR_mono (h : HR φ β O look w) (hl : ∀ i b, look' i = some b → look i = some b) : HR φ β O look' w :=
  ⟨fun i b hb => h.live i b (hl i b hb), fun i j bi bj pi pj hi hj => h.apart i j bi bj pi pj (hl i bi hi) (hl j bj hj)⟩

theorem HR_congr (h : HR φ β O look w) (hl : ∀ i, look' i = look i) : HR φ β O look' w := HR_mono h fun i b hb => by rw [← hl]; exact hb

theorem SR_put (h : SR φ β s.sl a.tmps) {d : Nat} {v : AV} {x : Value} (hd : d < a.tmps.size) (hv : VR φ β v x) : SR φ β (Slots.set s.sl d v) (a.put (some d) x).tmps := by
  intro t
  rw [Slots.get_set]
  simp only [Act.put]
  by_cases ht : d = t
  · subst ht
    simp [Array.getD, hd, hv]
  · rw [if_neg ht]
    have := h t
    simpa [Array.getD_eq_getD_getElem?, Array.getElem?_setIfInBounds, ht] using this

theorem Rel_setd (h : Rel φ β O nt cx s a w) {d : Option Nat} {v : AV} {x : Value} (hd : ∀ t, d = some t → t < nt) (hv : VR φ β v x) : Rel φ β O nt cx (s.setd d v) (a.put d x) w := by
  cases d with
  | none => exact h
  | some t => exact ⟨SR_put h.slots (by rw [h.size]; exact hd t rfl) hv, h.mem, h.dom, h.top, h.fresh, h.defers, by simp [Act.put, h.size]⟩

def upd (β : Beta) (i : Id) (pl : Place) : Beta := fun j => if j = i then some pl else β j

theorem cells_congr {β' : Beta} {v : AV} {cs : Array Value} {base : Nat} (hs : v.safe = true) (h : ∀ i pl, i.isStk = false → β i = some pl → β' i = some pl) (hc : ∀ k c, v.flat[k]? = some c → ∃ x, cs[base + k]? = some x ∧ LR φ β c x) :
    ∀ k c, v.flat[k]? = some c → ∃ x, cs[base + k]? = some x ∧ LR φ β' c x := by
  intro k c hk
  obtain ⟨x, hx, hr⟩ := hc k c hk
  have hm := List.mem_of_getElem? hk
  exact ⟨x, hx, LR_safe (safe_flat hs c hm).1 (safe_flat hs c hm).2 h hr⟩

theorem SameBut.mono {p q : Nat → Prop} (h : SameBut w w' p) (hq : ∀ r, p r → q r) : SameBut w w' q := ⟨h.os, h.tape, h.output, h.size, fun r hr hn => h.block r hr fun hp => hn (hq r hp)⟩
theorem SameBut.refl {p : Nat → Prop} : SameBut w w p := ⟨rfl, rfl, rfl, Nat.le_refl _, fun _ _ _ => rfl⟩
theorem SameBut.trans {p : Nat → Prop} {w'' : World} (h : SameBut w w' p) (k : SameBut w' w'' p) : SameBut w w'' p :=
  ⟨k.os.trans h.os, k.tape.trans h.tape, k.output.trans h.output, Nat.le_trans h.size k.size, fun r hr hn => (k.block r (Nat.lt_of_lt_of_le hr h.size) hn).trans (h.block r hr hn)⟩

theorem HR_lt (h : HR φ β O look w) {i : Id} {b : Blk} {pl : Place} (hl : look i = some b) (hb : β i = some pl) : pl.r < w.heap.size := by
  obtain ⟨pl', cs, T, fr, hB⟩ := h.live i b hl
  obtain rfl := Option.some.inj (hB.place.symm.trans hb)
  have := hB.heap
  rcases Nat.lt_or_ge pl'.r w.heap.size with h | h
  · exact h
  · rw [Array.getElem?_eq_none h] at this; simp at this

/-- The memory with a block laid under an id. -/
theorem HR_upd (h : HR φ β O look w) {i : Id} {b : Blk} {pl : Place} (hi : i.isArg = false) (hn : i.isStk = true ∨ β i = none) (hL : Laid φ β b w' pl) (hO : O pl.r)
    (hs : ∀ j bj pj, j ≠ i → look' j = some bj → β j = some pj → pj.r ≠ pl.r ∧ w'.heap[pj.r]? = w.heap[pj.r]?)
    (h1 : look' i = some b) (h2 : ∀ j bj, j ≠ i → look' j = some bj → look j = some bj) : HR φ (upd β i pl) O look' w' := by
  have hcong : ∀ j pj, j.isStk = false → β j = some pj → upd β i pl j = some pj := by
    intro j pj hj hb
    unfold upd
    rw [if_neg]
    · exact hb
    · rintro rfl
      rcases hn with hn | hn
      · rw [hn] at hj; simp at hj
      · rw [hn] at hb; simp at hb
  refine ⟨fun j bj hj => ?_, fun j k bj bk pj pk hj hk hpj hpk hjk hr => ?_⟩
  · by_cases hji : j = i
    · subst hji
      rw [h1] at hj
      obtain rfl := Option.some.inj hj
      obtain ⟨cs, T, hh, hroom, hsz, hty, hf, hc⟩ := hL
      exact ⟨pl, cs, T, (0, 0), by simp [upd], hty, hf, hh, hroom, hsz, cells_congr (Ty.fits_safe hf) hcong hc, fun _ => ⟨rfl, hO⟩⟩
    · have hlj := h2 j bj hji hj
      obtain ⟨pj, cs, T, fr, hB⟩ := h.live j bj hlj
      obtain ⟨hne, hsame⟩ := hs j bj pj hji hj hB.place
      exact ⟨pj, cs, T, fr, by simp [upd, hji, hB.place], hB.ty, hB.fits, by rw [hsame]; exact hB.heap, hB.room, hB.size, cells_congr (Ty.fits_safe hB.fits) hcong hB.cells, hB.own⟩
  · by_cases hji : j = i
    · subst hji
      have hki : k ≠ j := fun e => hjk e.symm
      simp [upd] at hpj
      simp [upd, hki] at hpk
      subst hpj
      exact absurd hr.symm (hs k bk pk hki hk hpk).1
    · simp [upd, hji] at hpj
      by_cases hki : k = i
      · subst hki
        simp [upd] at hpk
        subst hpk
        exact absurd hr (hs j bj pj hji hj hpj).1
      · simp [upd, hki] at hpk
        exact h.apart j k bj bk pj pk (h2 j bj hji hj) (h2 k bk hki hk) hpj hpk hjk hr

/-- The memory with a block that has turned. -/
theorem HR_wr (h : HR φ β O look w) {i : Id} {b old : Blk} {pl : Place} (hi : i.isArg = false) (ho : look i = some old) (hb : β i = some pl) (hL : Laid φ β b w' pl)
    (hs : SameBut w w' (fun r => r = pl.r)) (hl : ∀ j, look' j = if j = i then some b else look j) : HR φ β O look' w' := by
  obtain ⟨pl', cs0, T0, fr0, hB0⟩ := h.live i old ho
  obtain rfl := Option.some.inj (hB0.place.symm.trans hb)
  have hO := (hB0.own hi).2
  refine ⟨fun j bj hj => ?_, fun j k bj bk pj pk hj hk hpj hpk hjk hr => ?_⟩
  · rw [hl] at hj
    by_cases hji : j = i
    · subst hji
      rw [if_pos rfl] at hj
      obtain rfl := Option.some.inj hj
      obtain ⟨cs, T, hh, hroom, hsz, hty, hf, hc⟩ := hL
      exact ⟨pl', cs, T, (0, 0), hb, hty, hf, hh, hroom, hsz, hc, fun _ => ⟨rfl, hO⟩⟩
    · rw [if_neg hji] at hj
      obtain ⟨pj, cs, T, fr, hB⟩ := h.live j bj hj
      have hne : pj.r ≠ pl'.r := fun e => by
        have := (h.apart j i bj old pj pl' hj ho hB.place hb hji e).2
        rw [hi] at this; simp at this
      exact ⟨pj, cs, T, fr, hB.place, hB.ty, hB.fits, by rw [hs.block _ (HR_lt h hj hB.place) hne]; exact hB.heap, hB.room, hB.size, hB.cells, hB.own⟩
  · have f : ∀ j bj, look' j = some bj → ∃ bj', look j = some bj' := by
      intro j bj hj
      rw [hl] at hj
      by_cases hji : j = i
      · subst hji; exact ⟨old, ho⟩
      · rw [if_neg hji] at hj; exact ⟨bj, hj⟩
    obtain ⟨bj', hj'⟩ := f j bj hj
    obtain ⟨bk', hk'⟩ := f k bk hk
    exact h.apart j k bj' bk' pj pk hj' hk' hpj hpk hjk hr

/-- What was known stays known. -/
def Ext (l n : Nat) (β β' : Beta) : Prop := ∀ i pl, i.under l n → β i = some pl → β' i = some pl

theorem Ext.refl {l n : Nat} : Ext l n β β := fun _ _ _ h => h
theorem Ext.trans {l n n' : Nat} {β' β'' : Beta} (h : Ext l n β β') (k : Ext l n' β' β'') (hn : n ≤ n') : Ext l n β β'' := fun i pl hi hb => k i pl (by cases i <;> simp_all [Id.under]; omega) (h i pl hi hb)

theorem VR_new {i : Id} {sl : Option Nat} {b : Blk} {pl : Place} {x : Value} (hb : β i = some pl) (hty : pl.ty = b.ty) (hx : ValAt sl b pl x) : VR φ β (newVal i sl b) x := by
  cases sl with
  | none =>
    simp only [ValAt] at hx
    subst hx
    have := VR_ptr (φ := φ) (p := []) hb (t := b.ty) (o := 0) (by rw [hty]; cases b.ty <;> rfl)
    simpa [newVal] using this
  | some n =>
    obtain ⟨t, cap, ht, hn, hc, rfl⟩ := hx
    refine VR_of_VR1 ?_
    simp only [newVal, VR1, AV.isAgg, Bool.false_eq_true, if_false]
    exact ⟨pl, n, t, cap, hb, by rw [hty, ht], by omega, by omega, by simpa using hc, by simp⟩

theorem SR_upd {i : Id} {pl : Place} (h : SR φ β s.sl a.tmps) (hi : i.isStk = true) : SR φ (upd β i pl) (s.sl.forget i) a.tmps := by
  intro t
  rw [Slots.get_forget]
  split
  · exact VR_bot
  · rename_i hl
    refine VR_congr (fun j pj hj hb => ?_) (h t)
    unfold upd
    rw [if_neg]
    · exact hb
    · rintro rfl
      rcases hj with hj | hj
      · exact hl hj
      · rw [hi] at hj; simp at hj
theorem SR_upd_obj {i : Id} {pl : Place} (h : SR φ β s.sl a.tmps) (hi : β i = none) : SR φ (upd β i pl) s.sl a.tmps := by
  intro t
  refine VR_mono (fun j pj hb => ?_) (h t)
  unfold upd
  rw [if_neg]
  · exact hb
  · rintro rfl; rw [hi] at hb; simp at hb
theorem SR_forget {i : Id} (h : SR φ β s.sl a.tmps) : SR φ β (s.sl.forget i) a.tmps := by
  intro t
  rw [Slots.get_forget]
  split
  · exact VR_bot
  · exact h t

theorem fresh_next {esc : Bool} {d : Nat} {b : Blk} : s.hp.next ≤ (s.fresh cx esc d b).2.hp.next := by
  cases esc <;> simp [St.fresh]
theorem fresh_stk {esc : Bool} {d : Nat} {b : Blk} : (s.fresh cx esc d b).2.hp.stk = s.hp.stk := by
  cases esc <;> simp [St.fresh]

/-- A fresh block, in the frame. -/
theorem Rel_fresh {esc : Bool} {d : Nat} {b : Blk} {pl : Place} {sl : Option Nat} {x : Value} {l0 : Id → Option Blk} (h : Rel φ β O nt cx s a w) (hL : Laid φ β b w' pl) (hO : O pl.r)
    (hs : ∀ j bj pj, s.look cx j = some bj → β j = some pj → pj.r ≠ pl.r ∧ w'.heap[pj.r]? = w.heap[pj.r]?) (hsz : w.heap.size ≤ w'.heap.size) (hx : ValAt sl b pl x) (hd : d < nt) :
    ∃ β', Rel φ β' O nt cx ((s.fresh cx esc d b).2.setd (some d) (newVal (s.fresh cx esc d b).1 sl b)) (a.put (some d) x) w' ∧ Ext cx.lvl s.hp.next β β' := by
  have hty : pl.ty = b.ty := by obtain ⟨_, _, _, _, _, h, _⟩ := hL; exact h
  cases esc with
  | false =>
    refine ⟨upd β (.stk cx.lvl d) pl, Rel_setd ⟨?_, ?_, ?_, ?_, ?_, h.defers, h.size⟩ (fun t ht => by simp at ht; omega) ?_, ?_⟩
    · exact SR_upd h.slots rfl
    · exact HR_upd h.mem rfl (.inl rfl) hL hO (fun j bj pj hji hj hb => hs j bj pj (by rw [look_fresh_stk, if_neg hji] at hj; exact hj) hb) (by rw [look_fresh_stk, if_pos rfl]) (fun j bj hji hj => by rw [look_fresh_stk, if_neg hji] at hj; exact hj)
    · intro i p hi
      unfold upd at hi
      split at hi
      · rename_i e; subst e; simp [Id.under]
      · exact h.dom i p hi
    · intro l hl; rw [fresh_stk]; exact h.top l hl
    · exact fun r hr => h.fresh r (Nat.le_trans hsz hr)
    · exact VR_new (by simp [St.fresh, upd]) hty hx
    · intro i p hi hb
      unfold upd
      rw [if_neg]
      · exact hb
      · rintro rfl; simp [Id.under] at hi
  | true =>
    have hnone : β (.obj s.hp.next) = none := by
      cases hb : β (.obj s.hp.next) with
      | none => rfl
      | some p => have := h.dom _ p hb; simp [Id.under] at this
    refine ⟨upd β (.obj s.hp.next) pl, Rel_setd ⟨?_, ?_, ?_, ?_, ?_, h.defers, h.size⟩ (fun t ht => by simp at ht; omega) ?_, ?_⟩
    · exact SR_upd_obj h.slots hnone
    · exact HR_upd h.mem rfl (.inr hnone) hL hO (fun j bj pj hji hj hb => hs j bj pj (by rw [look_fresh_obj, if_neg hji] at hj; exact hj) hb) (by rw [look_fresh_obj, if_pos rfl]) (fun j bj hji hj => by rw [look_fresh_obj, if_neg hji] at hj; exact hj)
    · intro i p hi
      unfold upd at hi
      split at hi
      · rename_i e; subst e; simp [Id.under, St.fresh]
      · have := h.dom i p hi
        cases i <;> simp_all [Id.under, St.fresh]; omega
    · intro l hl; rw [fresh_stk]; exact h.top l hl
    · exact fun r hr => h.fresh r (Nat.le_trans hsz hr)
    · exact VR_new (by simp [St.fresh, upd]) hty hx
    · intro i p hi hb
      unfold upd
      rw [if_neg]
      · exact hb
      · rintro rfl; rw [hnone] at hb; simp at hb

/-- An effect, in the frame. -/
theorem eff_rel {d : Option Nat} {esc : Bool} {e : Eff} {v : AV} {x : Value} (h : Rel φ β O nt cx s a w) (he : EffOk φ β (s.look cx) w w' x e) (ha : applyEff cx d esc s e = some (v, s')) (hd : ∀ t, d = some t → t < nt) :
    ∃ β', Rel φ β' O nt cx (s'.setd d v) (a.put d x) w' ∧ SameBut w w' O ∧ Ext cx.lvl s.hp.next β β' ∧ s.hp.next ≤ s'.hp.next := by
  cases e with
  | val u =>
    simp [applyEff] at ha
    obtain ⟨rfl, rfl⟩ := ha
    obtain ⟨hv, rfl⟩ := he
    exact ⟨β, Rel_setd h hd hv, .refl, .refl, Nat.le_refl _⟩
  | new sl b =>
    cases d with
    | none => simp [applyEff] at ha
    | some t =>
      simp [applyEff] at ha
      obtain ⟨rfl, rfl⟩ := ha
      obtain ⟨pl, hL, hr, hb0, hx, hsz, hsame⟩ := he
      obtain ⟨β', hrel, hext⟩ := Rel_fresh (l0 := s.look cx) (esc := esc) h hL (by rw [hr]; exact h.fresh _ (Nat.le_refl _)) (fun j bj pj hj hb => by
        have := HR_lt h.mem hj hb
        exact ⟨by omega, hsame.block _ this (fun h => h)⟩) (by omega) hx (hd t rfl)
      exact ⟨β', hrel, hsame.mono (fun _ h => h.elim), hext, fresh_next⟩
  | wr i b u =>
    simp only [applyEff, Option.map_eq_some_iff] at ha
    obtain ⟨s1, hw, heq⟩ := ha
    simp at heq
    obtain ⟨rfl, rfl⟩ := heq
    obtain ⟨pl, old, ho, hoty, hb, hL, hv, hsame⟩ := he
    obtain ⟨hi, hsl, hnx, hlk, hstk1, hstk2⟩ := look_write hw
    obtain ⟨pl', cs0, T0, fr0, hB0⟩ := h.mem.live i old ho
    obtain rfl := Option.some.inj (hB0.place.symm.trans hb)
    refine ⟨β, Rel_setd ⟨by rw [hsl]; exact h.slots, HR_wr h.mem hi ho hb hL hsame hlk, by rw [hnx]; exact h.dom, ?_, fun r hr => h.fresh r (Nat.le_trans hsame.size hr), h.defers, h.size⟩ hd hv, hsame.mono (fun r e => by subst e; exact (hB0.own hi).2), .refl, Nat.le_of_eq hnx.symm⟩
    intro l hl
    have hun := h.dom i pl' hb
    cases i with
    | stk l' t' =>
      by_cases hll : l' = cx.lvl
      · have hst := hstk2 (fun a b => by
          by_cases h : l' = a
          · subst h; exact .inr hll
          · exact .inl (by simp [h]))
        rw [hst]; exact h.top l hl
      · have : l' < cx.lvl := by simp [Id.under] at hun; omega
        rw [hstk1 l' t' rfl hll l (by omega)]; exact h.top l hl
    | obj n => rw [hstk2 (fun a b => .inl (by simp))]; exact h.top l hl
    | arg n => simp [Id.isArg] at hi
  | grow j b n =>
    cases d with
    | none => simp [applyEff] at ha
    | some t =>
      simp only [applyEff, Option.map_eq_some_iff] at ha
      obtain ⟨s1, hdr, heq⟩ := ha
      simp at heq
      obtain ⟨rfl, rfl⟩ := heq
      obtain ⟨pl, plj, old, ho, hbj, hL, hr, hx, hsame⟩ := he
      obtain ⟨hi, hsl, hnx, hstk, hlk⟩ := look_drop hdr
      obtain ⟨pl', cs0, T0, fr0, hB0⟩ := h.mem.live j old ho
      obtain rfl := Option.some.inj (hB0.place.symm.trans hbj)
      have h1 : Rel φ β O nt cx s1 a w := ⟨by rw [hsl]; exact h.slots, HR_mono h.mem (fun i b hb => by
        rw [hlk] at hb
        by_cases hij : i = j
        · rw [if_pos hij] at hb; simp at hb
        · rw [if_neg hij] at hb; exact hb), by rw [hnx]; exact h.dom, by rw [hstk]; exact h.top, h.fresh, h.defers, h.size⟩
      have hOr : O pl.r := by
        rcases hr with hr | hr
        · rw [hr]; exact (hB0.own hi).2
        · rw [hr]; exact h.fresh _ (Nat.le_refl _)
      obtain ⟨β', hrel, hext⟩ := Rel_fresh (l0 := s.look cx) (esc := esc) h1 hL hOr (fun k bk pk hk hb => by
        rw [hlk] at hk
        split at hk
        · simp at hk
        · rename_i hkj
          have hlt := HR_lt h.mem hk hb
          have hne : pk.r ≠ pl'.r := fun e => by
            have := (h.mem.apart k j bk old pk pl' hk ho hb hbj hkj e).2
            rw [hi] at this; simp at this
          refine ⟨?_, hsame.block _ hlt hne⟩
          rcases hr with hr | hr
          · rw [hr]; exact hne
          · rw [hr]; omega) hsame.size hx (hd t rfl)
      refine ⟨β', hrel, hsame.mono (fun r e => by subst e; exact (hB0.own hi).2), by rw [hnx] at hext; exact hext, ?_⟩
      rw [← hnx]; exact fresh_next
end
end Go.Mini
