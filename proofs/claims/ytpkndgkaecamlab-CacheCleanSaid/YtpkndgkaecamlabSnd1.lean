/- A part of the proof: Snd1. -/
import Derived.Test.YtpkndgkaecamlabMiniDefs
namespace Go.Mini

/-- The cells of a value, one behind the other. -/
def AV.flat : AV → List AV
  | .unit => []
  | .cons a b => a.flat ++ b.flat
  | .arr n f => (List.finRange n).flatMap fun i => (f i).flat
  | v => [v]

def Ty.isAgg : Ty → Bool
  | .leaf _ => false
  | _ => true

theorem LK.fits_flat {k : LK} {v : AV} (h : k.fits v = true) : v.flat = [v] ∧ v.isAgg = false := by
  cases k <;> cases v <;> simp_all [LK.fits, AV.flat, AV.isAgg]

theorem Ty.fits_isAgg {t : Ty} {v : AV} (h : t.fits v = true) : v.isAgg = t.isAgg := by
  cases t with
  | leaf k => simp [Ty.fits] at h; simp [(LK.fits_flat h.1).2, Ty.isAgg]
  | arr n t => cases v <;> simp_all [Ty.fits, AV.isAgg, Ty.isAgg]
  | unit => cases v <;> simp_all [Ty.fits, AV.isAgg, Ty.isAgg]
  | cons a b => cases v <;> simp_all [Ty.fits, AV.isAgg, Ty.isAgg]

theorem length_flatMap_const {α β : Type} (l : List α) (g : α → List β) (c : Nat) (h : ∀ x ∈ l, (g x).length = c) : (l.flatMap g).length = l.length * c := by
  induction l with
  | nil => simp
  | cons a l ih =>
    simp only [List.flatMap_cons, List.length_append, List.length_cons]
    rw [h a (by simp), ih (fun x hx => h x (by simp [hx])), Nat.add_mul]
    omega

theorem Ty.fits_length {t : Ty} : ∀ {v : AV}, t.fits v = true → v.flat.length = t.size := by
  induction t with
  | leaf k => intro v h; simp [Ty.fits] at h; simp [(LK.fits_flat h.1).1, Ty.size]
  | arr n t ih =>
    intro v h
    cases v <;> simp [Ty.fits] at h
    obtain ⟨rfl, h⟩ := h
    simp only [AV.flat, Ty.size]
    rw [length_flatMap_const _ _ t.size fun i _ => ih (h i), List.length_finRange]
  | unit => intro v h; cases v <;> simp_all [Ty.fits, AV.flat, Ty.size]
  | cons a b iha ihb =>
    intro v h
    cases v <;> simp [Ty.fits] at h
    simp [AV.flat, Ty.size, iha h.1, ihb h.2]

theorem Ty.fits_safe {t : Ty} : ∀ {v : AV}, t.fits v = true → v.safe = true := by
  induction t with
  | leaf k => intro v h; simp [Ty.fits] at h; exact h.2
  | arr n t ih =>
    intro v h
    cases v <;> simp [Ty.fits] at h
    obtain ⟨rfl, h⟩ := h
    simp only [AV.safe, List.all_eq_true]
    exact fun i _ => ih (h i)
  | unit => intro v h; cases v <;> simp_all [Ty.fits, AV.safe]
  | cons a b iha ihb =>
    intro v h
    cases v <;> simp [Ty.fits] at h
    simp [AV.safe, iha h.1, ihb h.2]

theorem getElem?_flatMap_const {α β : Type} (l : List α) (g : α → List β) (c : Nat) (h : ∀ x ∈ l, (g x).length = c) (i : Nat) (hi : i < l.length) (k : Nat) (hk : k < c) :
    (l.flatMap g)[i * c + k]? = (g (l[i]))[k]? := by
  induction l generalizing i with
  | nil => simp at hi
  | cons a l ih =>
    simp only [List.flatMap_cons]
    have ha := h a (by simp)
    cases i with
    | zero => simp only [Nat.zero_mul, Nat.zero_add]; rw [List.getElem?_append_left (by omega)]; rfl
    | succ i =>
      rw [List.getElem?_append_right (by rw [ha, Nat.add_mul]; omega), ha]
      have : (i + 1) * c + k - c = i * c + k := by rw [Nat.add_mul]; omega
      rw [this]
      exact ih (fun x hx => h x (by simp [hx])) i (by simpa using hi)

theorem Ty.find_size {t : Ty} : ∀ {p : List Nat} {o : Nat} {u : Ty}, t.find p = some (o, u) → o + u.size ≤ t.size := by
  induction t with
  | leaf k => intro p o u h; cases p <;> simp [Ty.find] at h; obtain ⟨rfl, rfl⟩ := h; simp
  | unit => intro p o u h; cases p <;> simp [Ty.find] at h; obtain ⟨rfl, rfl⟩ := h; simp
  | arr n t ih =>
    intro p o u h
    cases p with
    | nil => simp [Ty.find] at h; obtain ⟨rfl, rfl⟩ := h; simp
    | cons i p =>
      simp only [Ty.find] at h
      split at h
      · rename_i hi
        cases hf : t.find p with
        | none => simp [hf] at h
        | some q =>
          simp [hf] at h
          obtain ⟨rfl, rfl⟩ := h
          have := ih (p := p) (o := q.1) (u := q.2) hf
          have h1 : (i + 1) * t.size ≤ n * t.size := Nat.mul_le_mul_right _ hi
          rw [Nat.add_mul] at h1
          simp only [Ty.size]
          omega
      · simp at h
  | cons a b iha ihb =>
    intro p o u h
    cases p with
    | nil => simp [Ty.find] at h; obtain ⟨rfl, rfl⟩ := h; simp
    | cons i p =>
      cases i with
      | zero => simp only [Ty.find] at h; have := iha h; simp only [Ty.size]; omega
      | succ i =>
        simp only [Ty.find] at h
        cases hf : b.find (i :: p) with
        | none => simp [hf] at h
        | some q =>
          simp [hf] at h
          obtain ⟨rfl, rfl⟩ := h
          have := ihb (p := i :: p) (o := q.1) (u := q.2) hf
          simp only [Ty.size]
          omega

theorem Ty.fits_at {t : Ty} : ∀ {v : AV} {p : List Nat} {o : Nat} {u : Ty} {x : AV}, t.fits v = true → t.find p = some (o, u) → v.at p = some x →
    u.fits x = true ∧ ∀ k, k < u.size → v.flat[o + k]? = x.flat[k]? := by
  induction t with
  | leaf k =>
    intro v p o u x hf h hx
    cases p with
    | nil => simp [Ty.find] at h; obtain ⟨rfl, rfl⟩ := h; simp [AV.at] at hx; subst hx; exact ⟨hf, fun k _ => by simp⟩
    | cons i p => simp [Ty.find] at h
  | unit =>
    intro v p o u x hf h hx
    cases p with
    | nil => simp [Ty.find] at h; obtain ⟨rfl, rfl⟩ := h; simp [AV.at] at hx; subst hx; exact ⟨hf, fun k _ => by simp⟩
    | cons i p => simp [Ty.find] at h
  | arr n t ih =>
    intro v p o u x hf h hx
    cases p with
    | nil => simp [Ty.find] at h; obtain ⟨rfl, rfl⟩ := h; simp [AV.at] at hx; subst hx; exact ⟨hf, fun k _ => by simp⟩
    | cons i p =>
      cases v <;> simp [Ty.fits] at hf
      obtain ⟨rfl, hf⟩ := hf
      rename_i f
      simp only [Ty.find] at h
      split at h
      · rename_i hi
        simp only [AV.at, hi, dif_pos] at hx
        cases hq : t.find p with
        | none => simp [hq] at h
        | some q =>
          simp [hq] at h
          obtain ⟨rfl, rfl⟩ := h
          have h1 := ih (o := q.1) (u := q.2) (hf ⟨i, hi⟩) hq hx
          have hs := Ty.find_size (o := q.1) (u := q.2) hq
          refine ⟨h1.1, fun k hk => ?_⟩
          rw [← h1.2 k hk, Nat.add_assoc]
          simp only [AV.flat]
          rw [getElem?_flatMap_const _ _ t.size (fun j _ => Ty.fits_length (hf j)) i (by simpa using hi) _ (by omega)]
          simp
      · simp at h
  | cons a b iha ihb =>
    intro v p o u x hf h hx
    cases p with
    | nil => simp [Ty.find] at h; obtain ⟨rfl, rfl⟩ := h; simp [AV.at] at hx; subst hx; exact ⟨hf, fun k _ => by simp⟩
    | cons i p =>
      cases v <;> simp [Ty.fits] at hf
      rename_i va vb
      have hl := Ty.fits_length hf.1
      cases i with
      | zero =>
        simp only [Ty.find] at h
        simp only [AV.at] at hx
        have h1 := iha hf.1 h hx
        have hs := Ty.find_size h
        refine ⟨h1.1, fun k hk => ?_⟩
        rw [← h1.2 k hk]
        simp only [AV.flat]
        rw [List.getElem?_append_left (by omega)]
      | succ i =>
        simp only [Ty.find] at h
        simp only [AV.at] at hx
        cases hq : b.find (i :: p) with
        | none => simp [hq] at h
        | some q =>
          simp [hq] at h
          obtain ⟨rfl, rfl⟩ := h
          have h1 := ihb (o := q.1) (u := q.2) hf.2 hq hx
          refine ⟨h1.1, fun k hk => ?_⟩
          rw [← h1.2 k hk]
          simp only [AV.flat]
          rw [List.getElem?_append_right (by omega), hl]
          congr 1; omega

theorem Ty.fits_put {t : Ty} : ∀ {v : AV} {p : List Nat} {o : Nat} {u : Ty} {x v' : AV}, t.fits v = true → t.find p = some (o, u) → u.fits x = true → v.put p x = some v' →
    t.fits v' = true ∧ ∀ k, v'.flat[k]? = if o ≤ k ∧ k < o + u.size then x.flat[k - o]? else v.flat[k]? := by
  induction t with
  | leaf k =>
    intro v p o u x v' hf h hu hx
    cases p with
    | nil =>
      simp [Ty.find] at h; obtain ⟨rfl, rfl⟩ := h; simp [AV.put] at hx; subst hx
      refine ⟨hu, fun k => ?_⟩
      have h1 := Ty.fits_length hf
      have h2 := Ty.fits_length hu
      split
      · simp
      · rw [List.getElem?_eq_none (by omega), List.getElem?_eq_none (by omega)]
    | cons i p => simp [Ty.find] at h
  | unit =>
    intro v p o u x v' hf h hu hx
    cases p with
    | nil =>
      simp [Ty.find] at h; obtain ⟨rfl, rfl⟩ := h; simp [AV.put] at hx; subst hx
      refine ⟨hu, fun k => ?_⟩
      have h1 := Ty.fits_length hf
      have h2 := Ty.fits_length hu
      split
      · simp
      · rw [List.getElem?_eq_none (by omega), List.getElem?_eq_none (by omega)]
    | cons i p => simp [Ty.find] at h
  | arr n t ih =>
    intro v p o u x v' hf h hu hx
    cases p with
    | nil =>
      simp [Ty.find] at h; obtain ⟨rfl, rfl⟩ := h; simp [AV.put] at hx; subst hx
      refine ⟨hu, fun k => ?_⟩
      have h1 := Ty.fits_length hf
      have h2 := Ty.fits_length hu
      split
      · simp
      · rw [List.getElem?_eq_none (by omega), List.getElem?_eq_none (by omega)]
    | cons i p =>
      cases v <;> simp [Ty.fits] at hf
      obtain ⟨rfl, hf⟩ := hf
      rename_i f
      simp only [Ty.find] at h
      split at h
      · rename_i hi
        simp only [AV.put, hi, dif_pos] at hx
        cases hq : t.find p with
        | none => simp [hq] at h
        | some q =>
          simp [hq] at h
          obtain ⟨rfl, rfl⟩ := h
          cases hy : (f ⟨i, hi⟩).put p x with
          | none => simp [hy] at hx
          | some y =>
            simp [hy] at hx
            subst hx
            have h1 := ih (o := q.1) (u := q.2) (hf ⟨i, hi⟩) hq hu hy
            have hs := Ty.find_size (o := q.1) (u := q.2) hq
            have hfit : ∀ j : Fin n, t.fits (if j.val = i then y else f j) = true := fun j => by
              split
              · exact h1.1
              · exact hf j
            refine ⟨by simp [Ty.fits]; exact hfit, fun k => ?_⟩
            simp only [AV.flat]
            by_cases hk : k < n * t.size
            · have htp : 0 < t.size := by
                rcases Nat.eq_zero_or_pos t.size with h0 | h0
                · rw [h0] at hk; simp at hk
                · exact h0
              obtain ⟨a, b, hb, rfl⟩ : ∃ a b, b < t.size ∧ k = a * t.size + b := ⟨k / t.size, k % t.size, Nat.mod_lt _ htp, by rw [Nat.mul_comm]; exact (Nat.div_add_mod k t.size).symm⟩
              have ha : a < n := by
                rcases Nat.lt_or_ge a n with h | h
                · exact h
                · have := Nat.mul_le_mul_right t.size h; omega
              rw [getElem?_flatMap_const _ _ t.size (fun j _ => Ty.fits_length (hfit j)) a (by simpa using ha) b hb]
              rw [getElem?_flatMap_const _ _ t.size (fun j _ => Ty.fits_length (hf j)) a (by simpa using ha) b hb]
              simp only [List.getElem_finRange, Fin.cast_mk]
              by_cases hai : a = i
              · subst hai
                simp only [if_true]
                rw [h1.2 b]
                by_cases hc : q.1 ≤ b ∧ b < q.1 + q.2.size
                · rw [if_pos hc, if_pos (by omega)]; congr 1; omega
                · rw [if_neg hc, if_neg (by omega)]
              · rw [if_neg hai, if_neg]
                rintro ⟨hA, hB⟩
                rcases Nat.lt_or_gt_of_ne hai with hlt | hlt
                · have h2 : (a + 1) * t.size ≤ i * t.size := Nat.mul_le_mul_right _ hlt
                  rw [Nat.add_mul] at h2; omega
                · have h2 : (i + 1) * t.size ≤ a * t.size := Nat.mul_le_mul_right _ hlt
                  rw [Nat.add_mul] at h2; omega
            · have hl : ∀ g : Fin n → AV, (∀ j, t.fits (g j) = true) → ((List.finRange n).flatMap fun j => (g j).flat).length = n * t.size := fun g hg => by
                rw [length_flatMap_const _ _ t.size fun j _ => Ty.fits_length (hg j), List.length_finRange]
              have h2 : (i + 1) * t.size ≤ n * t.size := Nat.mul_le_mul_right _ hi
              rw [Nat.add_mul] at h2
              rw [if_neg (by omega), List.getElem?_eq_none (by rw [hl _ hfit]; omega), List.getElem?_eq_none (by rw [hl _ hf]; omega)]
      · simp at h
  | cons a b iha ihb =>
    intro v p o u x v' hf h hu hx
    cases p with
    | nil =>
      simp [Ty.find] at h; obtain ⟨rfl, rfl⟩ := h; simp [AV.put] at hx; subst hx
      refine ⟨hu, fun k => ?_⟩
      have h1 := Ty.fits_length hf
      have h2 := Ty.fits_length hu
      split
      · simp
      · rw [List.getElem?_eq_none (by omega), List.getElem?_eq_none (by omega)]
    | cons i p =>
      cases v <;> simp [Ty.fits] at hf
      rename_i va vb
      have hl := Ty.fits_length hf.1
      cases i with
      | zero =>
        simp only [Ty.find] at h
        simp only [AV.put] at hx
        cases hy : va.put p x with
        | none => simp [hy] at hx
        | some y =>
          simp [hy] at hx
          subst hx
          have h1 := iha hf.1 h hu hy
          have hs := Ty.find_size h
          have hl' := Ty.fits_length h1.1
          refine ⟨by simp [Ty.fits, h1.1, hf.2], fun k => ?_⟩
          simp only [AV.flat]
          by_cases hk : k < a.size
          · rw [List.getElem?_append_left (by omega), List.getElem?_append_left (by omega), h1.2]
          · rw [List.getElem?_append_right (by omega), List.getElem?_append_right (by omega), hl, hl', if_neg (by omega)]
      | succ i =>
        simp only [Ty.find] at h
        simp only [AV.put] at hx
        cases hq : b.find (i :: p) with
        | none => simp [hq] at h
        | some q =>
          simp [hq] at h
          obtain ⟨rfl, rfl⟩ := h
          cases hy : vb.put (i :: p) x with
          | none => simp [hy] at hx
          | some y =>
            simp [hy] at hx
            subst hx
            have h1 := ihb (o := q.1) (u := q.2) hf.2 hq hu hy
            refine ⟨by simp [Ty.fits, h1.1, hf.1], fun k => ?_⟩
            simp only [AV.flat]
            by_cases hk : k < a.size
            · rw [List.getElem?_append_left (by omega), List.getElem?_append_left (by omega), if_neg (by omega)]
            · rw [List.getElem?_append_right (by omega), List.getElem?_append_right (by omega), hl, h1.2]
              by_cases hc : q.1 ≤ k - a.size ∧ k - a.size < q.1 + q.2.size
              · rw [if_pos hc, if_pos (by omega)]; congr 1; omega
              · rw [if_neg hc, if_neg (by omega)]

theorem Ty.find_append {t : Ty} : ∀ {p : List Nat} {o : Nat} {u : Ty} {q : List Nat}, t.find p = some (o, u) →
    t.find (p ++ q) = (u.find q).map fun r => (o + r.1, r.2) := by
  induction t with
  | leaf k => intro p o u q h; cases p <;> simp [Ty.find] at h; obtain ⟨rfl, rfl⟩ := h; simp
  | unit => intro p o u q h; cases p <;> simp [Ty.find] at h; obtain ⟨rfl, rfl⟩ := h; simp
  | arr n t ih =>
    intro p o u q h
    cases p with
    | nil => simp [Ty.find] at h; obtain ⟨rfl, rfl⟩ := h; simp
    | cons i p =>
      simp only [Ty.find, List.cons_append] at h ⊢
      split at h
      · rename_i hi
        cases hf : t.find p with
        | none => simp [hf] at h
        | some r =>
          simp [hf] at h
          obtain ⟨rfl, rfl⟩ := h
          rw [ih (o := r.1) (u := r.2) hf]
          cases r.2.find q <;> simp [Nat.add_assoc, hi]
      · simp at h
  | cons a b iha ihb =>
    intro p o u q h
    cases p with
    | nil => simp [Ty.find] at h; obtain ⟨rfl, rfl⟩ := h; simp
    | cons i p =>
      cases i with
      | zero => simp only [Ty.find, List.cons_append] at h ⊢; exact iha h
      | succ i =>
        simp only [Ty.find, List.cons_append] at h ⊢
        cases hf : b.find (i :: p) with
        | none => simp [hf] at h
        | some r =>
          simp [hf] at h
          obtain ⟨rfl, rfl⟩ := h
          have := ihb (o := r.1) (u := r.2) (q := q) hf
          rw [List.cons_append] at this
          rw [this]
          cases r.2.find q <;> simp [Nat.add_assoc]
end Go.Mini
