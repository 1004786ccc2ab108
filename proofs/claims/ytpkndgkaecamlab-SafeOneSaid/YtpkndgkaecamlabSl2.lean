/- A part of the proof: Sl2. -/
import Derived.Test.YtpkndgkaecamlabSl1
import Derived.Deep.AppendSrc
import Derived.Deep.Upon
namespace Go.Mini
open Go.RowKit
set_option linter.unusedSimpArgs false
set_option linter.unusedVariables false

section
variable {φ : Nat → Option FuncId} {β : Beta} {P : Program} {O : Nat → Prop} {w w' : World} {look look' : Id → Option Blk}

theorem LR_one {c : AV} {x : Value} (hs : c.safe = true) (ha : c.isAgg = false) (h : LR φ β c x) : x.oneCell' = true := by
  cases c <;> simp [AV.safe, AV.isAgg] at hs ha <;> simp only [LR, AV.rel] at h
  all_goals first
    | (subst h; rfl)
    | (obtain ⟨_, _, _, _, rfl⟩ := h; rfl)
    | (obtain ⟨_, _, rfl⟩ := h; rfl)
    | (obtain ⟨_, _, _, _, _, _, _, _, _, rfl⟩ := h; rfl)

theorem flatMap_drop {α γ : Type} {g : α → List γ} {c : Nat} : ∀ {l : List α} {k : Nat}, (∀ x ∈ l, (g x).length = c) → (l.drop k).flatMap g = (l.flatMap g).drop (k * c)
  | [], k, _ => by simp
  | a :: l, 0, _ => by simp
  | a :: l, k + 1, h => by
    simp only [List.drop_succ_cons, List.flatMap_cons]
    rw [flatMap_drop fun x hx => h x (List.mem_cons_of_mem _ hx), List.drop_append, List.drop_of_length_le (l := g a) (by rw [h a (List.mem_cons_self ..), Nat.add_mul]; omega), List.nil_append, h a (List.mem_cons_self ..)]
    congr 1
    rw [Nat.add_mul]; omega

theorem flatMap_take {α γ : Type} {g : α → List γ} {c : Nat} : ∀ {l : List α} {k : Nat}, (∀ x ∈ l, (g x).length = c) → (l.take k).flatMap g = (l.flatMap g).take (k * c)
  | [], k, _ => by simp
  | a :: l, 0, _ => by simp
  | a :: l, k + 1, h => by
    simp only [List.take_succ_cons, List.flatMap_cons]
    rw [flatMap_take fun x hx => h x (List.mem_cons_of_mem _ hx), List.take_append, List.take_of_length_le (l := g a) (by rw [h a (List.mem_cons_self ..), Nat.add_mul]; omega), h a (List.mem_cons_self ..)]
    congr 2
    rw [Nat.add_mul]; omega

/-- The elements of an array's value. -/
theorem arr_list {n : Nat} {t : Ty} {v : AV} {l : List AV} (hf : (Ty.arr n t).fits v = true) (hl : v.toList = some l) : l.length = n ∧ (∀ x ∈ l, t.fits x = true) ∧ v.flat = l.flatMap AV.flat := by
  cases v <;> simp [AV.toList] at hl
  rename_i m f
  subst hl
  simp only [Ty.fits, Bool.and_eq_true, beq_iff_eq, List.all_eq_true] at hf
  obtain ⟨hnm, hf⟩ := hf
  subst hnm
  refine ⟨by simp, fun x hx => ?_, ?_⟩
  · obtain ⟨i, hi⟩ := (List.mem_ofFn ..).1 hx
    rw [← hi]; exact hf i (List.mem_finRange _)
  · simp only [AV.flat]
    have e : (List.finRange _).map f = List.ofFn f := List.ext_getElem (by simp) (by simp)
    rw [← e, List.flatMap_map]

/-- What a slice yields to an append. -/
theorem elems_src {t : Ty} {Y e : TypeId} {y : AV} {vy : Value} {add : List AV} (hR : HR φ β O look w) (hu : P.underlying Y = some (.slice e)) (hy : VR φ β y vy) (h : elems look t y = some add) :
    ∃ news, Src P t.size Y vy add.length news w ∧ All2 (LR φ β) (add.flatMap AV.flat) news ∧ ∀ a ∈ add, t.fits a = true := by
  unfold elems at h
  split at h
  · simp at h
    subst h
    have : vy = .slice none 0 0 := by simpa [VR, VR1, AV.isAgg, LR, AV.rel] using hy
    subst this
    exact ⟨[], Src.ofNil w hu 0, by simpa using All2.nil, by simp⟩
  · simp at h
    subst h
    obtain ⟨a, cap, rfl⟩ : ∃ a cap, vy = .slice (some a) 0 cap := by simpa [VR, VR1, AV.isAgg, LR, AV.rel] using hy
    exact ⟨[], Src.ofSlice w hu a 0 cap [] (by simp) (by simp) (by simp), by simpa using All2.nil, by simp⟩
  · rename_i j off len
    split at h
    · rename_i n t' v hlk
      split at h
      · rename_i l hl
        split at h
        · rename_i hc
          obtain ⟨rfl, hle⟩ := hc
          simp at h
          subst h
          obtain ⟨pl, m, t', cap, hb, hty, h1, h2, h3, rfl⟩ := LR_sl hy
          obtain ⟨pl', cs, T', fr, hB⟩ := hR.live j _ hlk
          obtain rfl : pl' = pl := Option.some.inj (hB.place.symm.trans hb)
          rw [hB.ty] at hty
          simp at hty
          obtain ⟨rfl, rfl⟩ := hty
          obtain ⟨hll, hlf, hfl⟩ := arr_list hB.fits hl
          have hlen : ∀ x ∈ l, (AV.flat x).length = t.size := fun x hx => Ty.fits_length (hlf x hx)
          have hseg : ((l.drop off).take len).flatMap AV.flat = (v.flat.drop (off * t.size)).take (len * t.size) := by
            rw [flatMap_take fun x hx => hlen x (List.mem_of_mem_drop hx), flatMap_drop hlen, hfl]
          have hvl : v.flat.length = n * t.size := by rw [Ty.fits_length hB.fits]; rfl
          have hmul : off * t.size + len * t.size ≤ n * t.size := by rw [← Nat.add_mul]; exact Nat.mul_le_mul_right _ h1
          have hroom := hB.room
          have hsize := hB.size
          simp only [Ty.size] at hsize
          let news := (cs.toList.drop (pl'.base + off * t.size)).take (len * t.size)
          have hnl : news.length = len * t.size := by
            simp only [news, List.length_take, List.length_drop, Array.length_toList]
            omega
          have hAll : All2 (LR φ β) ((v.flat.drop (off * t.size)).take (len * t.size)) news := by
            refine ⟨by rw [hnl]; simp; omega, fun k a b ha hb' => ?_⟩
            have hk : k < len * t.size := by
              rcases Nat.lt_or_ge k (len * t.size) with h | h
              · exact h
              · rw [List.getElem?_eq_none (by omega)] at hb'; simp at hb'
            rw [List.getElem?_take, if_pos hk, List.getElem?_drop] at ha
            obtain ⟨x, hx, hr⟩ := hB.cells _ a ha
            simp only [news] at hb'
            rw [List.getElem?_take, if_pos hk, List.getElem?_drop] at hb'
            have : cs.toList[pl'.base + off * t.size + k]? = some x := by rw [← hx]; simp [Nat.add_assoc]
            rw [this] at hb'
            simp at hb'
            subst hb'
            exact hr
          have haddl : ((l.drop off).take len).length = len := by simp; omega
          refine ⟨news, ?_, by rw [hseg]; exact hAll, fun a ha => hlf a (List.mem_of_mem_drop (List.mem_of_mem_take ha))⟩
          rw [haddl]
          refine Src.ofSlice w hu _ len cap news hnl (fun k u hk => ?_) fun u hu' => ?_
          · rw [add_addr, cell_of_row w _ _ cs T' fr hB.heap]
            have hkl : k < len * t.size := by
              rcases Nat.lt_or_ge k (len * t.size) with h | h
              · exact h
              · rw [List.getElem?_eq_none (by omega)] at hk; simp at hk
            simp only [news] at hk
            rw [List.getElem?_take, if_pos hkl, List.getElem?_drop] at hk
            simpa using hk
          · obtain ⟨k, hk⟩ := List.mem_iff_getElem?.1 hu'
            have hkl : k < ((v.flat.drop (off * t.size)).take (len * t.size)).length := by
              rw [hAll.1]
              rcases Nat.lt_or_ge k news.length with h | h
              · exact h
              · rw [List.getElem?_eq_none h] at hk; simp at hk
            have hr := hAll.2 k _ u (List.getElem?_eq_getElem hkl) hk
            have hmem : ((v.flat.drop (off * t.size)).take (len * t.size))[k] ∈ v.flat := List.mem_of_mem_drop (List.mem_of_mem_take (List.getElem_mem hkl))
            have := safe_flat (Ty.fits_safe hB.fits) _ hmem
            exact LR_one this.1 this.2 hr
        · simp at h
      · simp at h
    · simp at h
  · simp at h
end
end Go.Mini
