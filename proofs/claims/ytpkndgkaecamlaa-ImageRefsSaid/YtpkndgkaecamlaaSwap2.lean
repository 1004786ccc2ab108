/- A part of the proof: Swap2. -/
import Derived.Test.YtpkndgkaecamlaaSwap1
namespace Go.Mini
set_option linter.unusedSimpArgs false
set_option linter.unusedVariables false

theorem Slots.set_comm {t u : Nat} {v w : AV} (h : t ≠ u) : ∀ {l : Slots}, Slots.set (Slots.set l t v) u w = Slots.set (Slots.set l u w) t v
  | [] => by
    simp only [Slots.set]
    by_cases h1 : t < u
    · simp [Slots.set, h, Ne.symm h, h1, show ¬ u < t by omega]
    · have : u < t := by omega
      simp [Slots.set, h, Ne.symm h, h1, this]
  | (a, x) :: l => by
    have ih := Slots.set_comm h (l := l) (v := v) (w := w)
    rcases Nat.lt_trichotomy a t with h1 | h1 | h1 <;> rcases Nat.lt_trichotomy a u with h2 | h2 | h2
    · simp [Slots.set, show a ≠ t by omega, show ¬ t < a by omega, show a ≠ u by omega, show ¬ u < a by omega, ih]
    · subst h2; simp [Slots.set, show a ≠ t by omega, show ¬ t < a by omega]
    · simp [Slots.set, show a ≠ t by omega, show ¬ t < a by omega, show a ≠ u by omega, h2, show u ≠ t by omega, show ¬ t < u by omega]
    · subst h1; simp [Slots.set, show a ≠ u by omega, show ¬ u < a by omega]
    · omega
    · subst h1; simp [Slots.set, show a ≠ u by omega, h2, show u ≠ a by omega]; omega
    · simp [Slots.set, show a ≠ t by omega, h1, show a ≠ u by omega, show ¬ u < a by omega, show t ≠ u by omega, show ¬ u < t by omega]
    · subst h2; simp [Slots.set, show a ≠ t by omega, h1, show t ≠ a by omega, show ¬ a < t by omega]
    · rcases Nat.lt_or_ge t u with h3 | h3
      · simp [Slots.set, show a ≠ t by omega, h1, show a ≠ u by omega, h2, show t ≠ u by omega, show u ≠ t by omega, h3, show ¬ u < t by omega]
      · have : u < t := by omega
        simp [Slots.set, show a ≠ t by omega, h1, show a ≠ u by omega, h2, show t ≠ u by omega, show u ≠ t by omega, this, show ¬ t < u by omega]

theorem Own.set_comm {t u : Nat} {v w : Blk} (h : t ≠ u) : ∀ {l : Own}, Own.set (Own.set l t v) u w = Own.set (Own.set l u w) t v
  | [] => by
    simp only [Own.set]
    by_cases h1 : t < u
    · simp [Own.set, h, Ne.symm h, h1, show ¬ u < t by omega]
    · have : u < t := by omega
      simp [Own.set, h, Ne.symm h, h1, this]
  | (a, x) :: l => by
    have ih := Own.set_comm h (l := l) (v := v) (w := w)
    rcases Nat.lt_trichotomy a t with h1 | h1 | h1 <;> rcases Nat.lt_trichotomy a u with h2 | h2 | h2
    · simp [Own.set, show a ≠ t by omega, show ¬ t < a by omega, show a ≠ u by omega, show ¬ u < a by omega, ih]
    · subst h2; simp [Own.set, show a ≠ t by omega, show ¬ t < a by omega]
    · simp [Own.set, show a ≠ t by omega, show ¬ t < a by omega, show a ≠ u by omega, h2, show u ≠ t by omega, show ¬ t < u by omega]
    · subst h1; simp [Own.set, show a ≠ u by omega, show ¬ u < a by omega]
    · omega
    · subst h1; simp [Own.set, show a ≠ u by omega, h2, show u ≠ a by omega]; omega
    · simp [Own.set, show a ≠ t by omega, h1, show a ≠ u by omega, show ¬ u < a by omega, show t ≠ u by omega, show ¬ u < t by omega]
    · subst h2; simp [Own.set, show a ≠ t by omega, h1, show t ≠ a by omega, show ¬ a < t by omega]
    · rcases Nat.lt_or_ge t u with h3 | h3
      · simp [Own.set, show a ≠ t by omega, h1, show a ≠ u by omega, h2, show t ≠ u by omega, show u ≠ t by omega, h3, show ¬ u < t by omega]
      · have : u < t := by omega
        simp [Own.set, show a ≠ t by omega, h1, show a ≠ u by omega, h2, show t ≠ u by omega, show u ≠ t by omega, this, show ¬ t < u by omega]

theorem Slots.forget_set {i : Id} {t : Nat} {v : AV} (h : v.leads i = false) : ∀ {l : Slots}, Slots.forget (Slots.set l t v) i = Slots.set (Slots.forget l i) t v
  | [] => by simp [Slots.set, Slots.forget, h]
  | (a, x) :: l => by
    simp only [Slots.set, Slots.forget]
    by_cases h1 : a = t
    · simp [h1, Slots.forget, h]
    · by_cases h2 : t < a
      · simp [h1, h2, Slots.forget, h]
      · simp [h1, h2, Slots.forget, Slots.forget_set h]

theorem Slots.forget_id {i : Id} : ∀ {l : Slots}, (∀ p ∈ l, (p.2 : AV).leads i = false) → Slots.forget l i = l
  | [], _ => rfl
  | (a, x) :: l, h => by
    simp only [Slots.forget]
    rw [Slots.forget_id fun p hp => h p (List.mem_cons_of_mem _ hp)]
    have := h (a, x) (List.mem_cons_self ..)
    simp at this
    simp [this]

theorem Slots.mem_set {t : Nat} {v : AV} : ∀ {l : Slots} {p : Nat × AV}, p ∈ Slots.set l t v → p = (t, v) ∨ p ∈ l
  | [], p, h => by simp [Slots.set] at h; exact .inl h
  | (a, x) :: l, p, h => by
    simp only [Slots.set] at h
    split at h
    · rename_i e; subst e
      rcases List.mem_cons.1 h with h | h
      · exact .inl h
      · exact .inr (List.mem_cons_of_mem _ h)
    · split at h
      · rcases List.mem_cons.1 h with h | h
        · exact .inl h
        · exact .inr h
      · rcases List.mem_cons.1 h with h | h
        · exact .inr (by rw [h]; exact List.mem_cons_self ..)
        · rcases Slots.mem_set h with h | h
          · exact .inl h
          · exact .inr (List.mem_cons_of_mem _ h)

theorem Slots.mem_forget {i : Id} : ∀ {l : Slots} {p : Nat × AV}, p ∈ Slots.forget l i → p ∈ l ∨ p.2 = .bot
  | [], p, h => by simp [Slots.forget] at h
  | (a, x) :: l, p, h => by
    simp only [Slots.forget] at h
    rcases List.mem_cons.1 h with h | h
    · subst h
      by_cases hx : x.leads i = true
      · exact .inr (by simp [hx])
      · exact .inl (by simp [hx])
    · rcases Slots.mem_forget h with h | h
      · exact .inl (List.mem_cons_of_mem _ h)
      · exact .inr h

theorem Slots.get_mem {t : Nat} : ∀ {l : Slots}, Slots.get l t = .bot ∨ (t, Slots.get l t) ∈ l
  | [] => .inl rfl
  | (a, x) :: l => by
    simp only [Slots.get]
    split
    · rename_i h; subst h; exact .inr (List.mem_cons_self ..)
    · rcases Slots.get_mem (t := t) (l := l) with h | h
      · exact .inl h
      · exact .inr (List.mem_cons_of_mem _ h)

theorem Own.without_set {l : List Nat} {u : Nat} {b : Blk} (h : has l u = true) : ∀ {o : Own}, Own.without (Own.set o u b) l = Own.without o l
  | [] => by simp [Own.set, Own.without, h]
  | (a, x) :: o => by
    simp only [Own.set]
    by_cases h1 : a = u
    · subst h1; simp [Own.without, h]
    · by_cases h2 : u < a
      · simp [h1, h2, Own.without, h]
      · simp [h1, h2, Own.without, Own.without_set h]

theorem Own.veil_set {l : List Nat} {u : Nat} {b : Blk} {o : Own} (h : has l u = true) : Own.veil (Own.set o u b) l = Own.veil o l := by
  cases l with
  | nil => simp [has] at h
  | cons a l => exact Own.without_set h

theorem Own.only_set {l : List Nat} {u : Nat} {b : Blk} (h : has l u = true) : ∀ {o : Own}, Own.get o u = none → ∃ p q, Own.only o l = p ++ q ∧ Own.only (Own.set o u b) l = p ++ (u, b) :: q ∧ ∀ x ∈ p, x.1 ≠ u
  | [], _ => ⟨[], [], by simp [Own.only], by simp [Own.set, Own.only, h], by simp⟩
  | (a, x) :: o, hn => by
    simp only [Own.get] at hn
    split at hn
    · simp at hn
    · rename_i h1
      simp only [Own.set, h1, if_false]
      by_cases h2 : u < a
      · simp only [h2, if_true]
        exact ⟨[], Own.only ((a, x) :: o) l, by simp, by rw [Own.only]; simp [h], by simp⟩
      · simp only [h2, if_false]
        obtain ⟨p, q, e1, e2, e3⟩ := Own.only_set h hn (b := b)
        by_cases h3 : has l a = true
        · refine ⟨(a, x) :: p, q, by simp [Own.only, h3, e1], by simp [Own.only, h3, e2], fun y hy => ?_⟩
          rcases List.mem_cons.1 hy with hy | hy
          · subst hy; exact h1
          · exact e3 y hy
        · exact ⟨p, q, by simp [Own.only, h3, e1], by simp [Own.only, h3, e2], e3⟩

theorem Own.foldr_set {u : Nat} {b : Blk} {q : Own} {m : Own} : ∀ {p : Own}, (∀ x ∈ p, x.1 ≠ u) → (p ++ (u, b) :: q).foldr (fun p acc => Own.set acc p.1 p.2) m = Own.set ((p ++ q).foldr (fun p acc => Own.set acc p.1 p.2) m) u b
  | [], _ => rfl
  | (a, x) :: p, h => by
    simp only [List.cons_append, List.foldr]
    rw [Own.foldr_set fun y hy => h y (List.mem_cons_of_mem _ hy)]
    exact Own.set_comm (Ne.symm (h (a, x) (List.mem_cons_self ..)))

theorem Own.unveil_set {l : List Nat} {u : Nat} {b : Blk} {o m : Own} (h : has l u = true) (hn : Own.get o u = none) : Own.unveil (Own.set o u b) m l = Own.set (Own.unveil o m l) u b := by
  cases l with
  | nil => simp [has] at h
  | cons a l =>
    simp only [Own.unveil]
    obtain ⟨p, q, e1, e2, e3⟩ := Own.only_set h hn (b := b)
    rw [e1, e2]
    exact Own.foldr_set e3
end Go.Mini
