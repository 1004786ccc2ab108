/- A part of the proof: Snd5. -/
import Derived.Test.YtpkndgkaecamlabSnd4
namespace Go.Mini
open Go.RowKit
set_option linter.unusedSimpArgs false
set_option linter.unusedVariables false

section
variable {φ : Nat → Option FuncId} {β : Beta} {P : Program} {O : Nat → Prop} {w : World} {look : Id → Option Blk}

theorem run_fld {st ft : Ty} {T : TypeId} {i : Id} {p : List Nat} {f : Nat} {x : Value} (ht : tyOk P st (.inl T) = true) (hf : st.field f = some ft) (hx : VR φ β (.ptr i p st) x) :
    ∃ y, (Instr.fieldAt T x f).run P w = .ok y w ∧ VR φ β (.ptr i (p ++ [f]) ft) y := by
  obtain ⟨pl, o, hb, hp, rfl⟩ := LR_ptr hx
  obtain ⟨fs, g, off, hu, hg, ho, hfi, hr, hs, _⟩ := tyOk_struct ht hf
  obtain ⟨ti, hti, htis⟩ := tyOk_size hr
  have hgs : ti.size ≠ 0 := by rw [htis]; exact hs
  refine ⟨.pointer (some ⟨pl.r, pl.base + (o + off), none⟩), ?_, VR_ptr hb (by rw [Ty.find_append hp, hfi]; rfl)⟩
  simp only [Instr.fieldAt, Sem.run_bind, run_underlying hu w, Result.andThen_ok, hg, Instr.sureAddr, Sem.run_pure, fieldPlace, sizeOf, typeInfo, run_program, hti, if_neg hgs, add_addr]
  simp [ho, Nat.add_assoc]

theorem run_idx {n : Nat} {t : Ty} {T : TypeId} {i : Id} {p : List Nat} {z : Int} {x y : Value} {v : AV} (ht : tyOk P (.arr n t) (.inl T) = true) (hx : VR φ β (.ptr i p (.arr n t)) x) (hy : VR φ β v y) (hz : toIx v = some z) (h0 : 0 ≤ z) (h1 : z < n) :
    ∃ r, (Instr.indexAt T x y).run P w = .ok r w ∧ VR φ β (.ptr i (p ++ [z.toNat]) t) r := by
  obtain ⟨pl, o, hb, hp, rfl⟩ := LR_ptr hx
  obtain ⟨k, rfl⟩ := toIx_int hz hy
  obtain ⟨u, hu, he⟩ := tyOk_array ht
  obtain ⟨ti, hti, htis⟩ := tyOk_size he
  have hzn : z.toNat < n := by omega
  refine ⟨.pointer (some ⟨pl.r, pl.base + (o + z.toNat * t.size), none⟩), ?_, VR_ptr hb (by rw [Ty.find_append hp]; simp [Ty.find, hzn])⟩
  simp only [Instr.indexAt, asIntOf, Sem.run_bind, Sem.run_pure, run_underlying hu w, Result.andThen_ok, Instr.sureAddr, sizeOf, typeInfo, run_program, hti]
  rw [if_pos ⟨h0, h1⟩]
  simp [Sem.run_bind, sizeOf, typeInfo, hti, htis, add_addr, Nat.add_assoc]

theorem run_sidx {t : Ty} {T e : TypeId} {i : Id} {off len : Nat} {z : Int} {x y : Value} {v : AV} {b : Blk} {n : Nat} (hR : HR φ β O look w) (hu : P.underlying T = some (.slice e)) (ht : tyOk P t (.inl e) = true) (hx : VR φ β (.sl i off len) x) (hy : VR φ β v y) (hz : toIx v = some z)
    (hl : look i = some b) (hbt : b.ty = .arr n t) (h0 : 0 ≤ z) (h1 : z < len) :
    ∃ r, (Instr.indexAt T x y).run P w = .ok r w ∧ VR φ β (.ptr i [off + z.toNat] t) r := by
  obtain ⟨pl, n', t', cap, hb, hty, hon, hnc, hroom, rfl⟩ := LR_sl hx
  obtain ⟨k, rfl⟩ := toIx_int hz hy
  obtain ⟨ti, hti, htis⟩ := tyOk_size ht
  obtain ⟨pl', cs, T', fr, hB⟩ := hR.live i b hl
  obtain rfl : pl' = pl := Option.some.inj (hB.place.symm.trans hb)
  have he := hB.ty
  rw [hty, hbt] at he
  injection he with he1 he2
  subst he1 he2
  have hzn : off + z.toNat < n' := by omega
  refine ⟨.pointer (some ⟨pl'.r, pl'.base + ((off + z.toNat) * t'.size), none⟩), ?_, VR_ptr hb (by rw [hty]; simp [Ty.find, hzn])⟩
  simp only [Instr.indexAt, asIntOf, Sem.run_bind, Sem.run_pure, run_underlying hu w, Result.andThen_ok]
  rw [if_pos ⟨h0, h1⟩]
  simp [Sem.run_bind, sizeOf, typeInfo, hti, htis, add_addr, Nat.add_assoc, Nat.add_mul]

theorem flat_arr_seg {n : Nat} {t : Ty} {f : Fin n → AV} (h : ∀ i, t.fits (f i) = true) (i : Nat) (hi : i < n) : ((AV.arr n f).flat.drop (i * t.size)).take t.size = (f ⟨i, hi⟩).flat := by
  apply List.ext_getElem?
  intro k
  simp only [List.getElem?_take, List.getElem?_drop]
  have hl := Ty.fits_length (h ⟨i, hi⟩)
  by_cases hk : k < t.size
  · rw [if_pos hk]
    simp only [AV.flat]
    rw [getElem?_flatMap_const _ _ t.size (fun j _ => Ty.fits_length (h j)) i (by simpa using hi) k hk]
    simp
  · rw [if_neg hk, List.getElem?_eq_none (by omega)]

theorem fits_arr {n : Nat} {t : Ty} {f : Fin n → AV} (h : (Ty.arr n t).fits (.arr n f) = true) : ∀ i, t.fits (f i) = true := by
  simpa [Ty.fits] using h

/-- A value out of cells. -/
theorem run_part {t : Ty} {T : TypeId} {v : AV} {cs : List Value} {o : Nat} (ht : tyOk P t (.inl T) = true) (hf : t.fits v = true) (h : All2 (LR φ β) v.flat ((cs.drop o).take t.size)) :
    ∃ y, (part T cs.toArray o).run P w = .ok y w ∧ VR φ β v y ∧ y.cells.toList = (cs.drop o).take t.size := by
  obtain ⟨ti, hti, htis⟩ := tyOk_size ht
  have hfl := Ty.fits_length hf
  have hlen := h.1
  simp only [part, Sem.run_bind, tyOk_isAgg ht w, Result.andThen_ok]
  cases ha : t.isAgg with
  | true =>
    have e : ((cs.toArray).extract o (o + ti.size)) = ((cs.drop o).take t.size).toArray := by
      rw [htis]
      apply Array.toList_inj.1
      simp
    refine ⟨.agg ((cs.drop o).take t.size).toArray, by simp only [Sem.run_bind, sizeOf, typeInfo, run_program, hti, Result.andThen_ok, Sem.run_pure, if_true, e], VR1_of_cells hf ha h, by simp [Value.cells]⟩
  | false =>
    cases t <;> simp [Ty.isAgg] at ha
    simp only [Ty.size] at *
    rw [hfl] at hlen
    have hol : o < cs.length := by
      rcases Nat.lt_or_ge o cs.length with h | h
      · exact h
      · rw [List.drop_eq_nil_of_le h] at hlen; simp at hlen
    have he : (cs.drop o).take 1 = [cs[o]] := by
      rw [List.drop_eq_getElem_cons hol]; rfl
    have hl1 := LK.fits_flat (v := v) (by simp [Ty.fits] at hf; exact hf.1)
    rw [he, hl1.1] at h
    have hVR : VR φ β v cs[o] := VR_of_VR1 (by simp only [VR1, hl1.2, Bool.false_eq_true, if_false]; exact h.head)
    refine ⟨cs[o], by simp [List.getElem?_eq_getElem hol], hVR, ?_⟩
    rw [he, (cells_of_VR hf hVR).2.2.2 rfl]

theorem run_aidx {n : Nat} {t : Ty} {T : TypeId} {f : Fin n → AV} {z : Int} {x y : Value} {v : AV} (ht : tyOk P (.arr n t) (.inl T) = true) (hf : (Ty.arr n t).fits (.arr n f) = true) (hx : VR φ β (.arr n f) x) (hy : VR φ β v y) (hz : toIx v = some z) (h0 : 0 ≤ z) (h1 : z < n) :
    ∃ r, (Instr.index T x y).run P w = .ok r w ∧ VR φ β (f ⟨z.toNat, by omega⟩) r := by
  obtain ⟨k, rfl⟩ := toIx_int hz hy
  obtain ⟨u, hu, he⟩ := tyOk_array ht
  obtain ⟨ti, hti, htis⟩ := tyOk_size he
  obtain ⟨hc, _, hagg, _⟩ := cells_of_VR hf hx
  have hx' := hagg rfl
  have hseg := flat_arr_seg (fits_arr hf) z.toNat (by omega)
  have h2 := hc.seg (z.toNat * t.size) t.size
  rw [hseg] at h2
  obtain ⟨r, hr, hv, _⟩ := run_part (w := w) he (fits_arr hf ⟨z.toNat, by omega⟩) h2
  refine ⟨r, ?_, hv⟩
  rw [hx']
  simp only [Instr.index, asIntOf, Sem.run_bind, Sem.run_pure, run_underlying hu w, Result.andThen_ok]
  rw [if_pos ⟨h0, h1⟩]
  simp only [Sem.run_bind, sizeOf, typeInfo, run_program, hti, Result.andThen_ok, htis, Sem.run_pure]
  simpa using hr

theorem field_at : ∀ {v u : AV} {i : Nat}, v.field i = some u → v.at [i] = some u := by
  intro v
  induction v with
  | cons a b _ ihb =>
    intro u i hv
    cases i with
    | zero => simp [AV.field] at hv; simp [AV.at, hv]
    | succ i => simp only [AV.field] at hv; simp only [AV.at]; exact ihb hv
  | _ => intro u i hv; simp [AV.field] at hv

theorem field_seg {t ft : Ty} {v u : AV} {i off : Nat} (hf : t.fits v = true) (hfi : t.find [i] = some (off, ft)) (hv : v.field i = some u) : ft.fits u = true ∧ (v.flat.drop off).take ft.size = u.flat := by
  obtain ⟨hu, hk⟩ := Ty.fits_at hf hfi (field_at hv)
  refine ⟨hu, List.ext_getElem? fun k => ?_⟩
  simp only [List.getElem?_take, List.getElem?_drop]
  have hl := Ty.fits_length hu
  by_cases h : k < ft.size
  · rw [if_pos h, hk k h]
  · rw [if_neg h, List.getElem?_eq_none (by omega)]

theorem field_ty {t : Ty} {v u : AV} {i : Nat} (hf : t.fits v = true) (hv : v.field i = some u) : ∃ ft, t.field i = some ft := by
  revert i t
  induction v with
  | cons a b _ ihb =>
    intro t i hf hv
    cases t with
    | leaf k => simp [Ty.fits] at hf; exact absurd (LK.fits_flat hf.1).2 (by simp [AV.isAgg])
    | arr n e => simp [Ty.fits] at hf
    | unit => simp [Ty.fits] at hf
    | cons ta tb =>
      simp [Ty.fits] at hf
      cases i with
      | zero => exact ⟨_, rfl⟩
      | succ i => change b.field i = some u at hv; exact ihb (t := tb) (i := i) hf.2 hv
  | _ => intro t i hf hv; simp [AV.field] at hv

theorem run_field {t : Ty} {T : TypeId} {v u : AV} {i : Nat} {x : Value} (ht : tyOk P t (.inl T) = true) (hf : t.fits v = true) (hx : VR φ β v x) (hv : v.field i = some u) :
    ∃ y, (Instr.field T x i).run P w = .ok y w ∧ VR φ β u y := by
  obtain ⟨ft, hft⟩ := field_ty hf hv
  obtain ⟨fs, g, off, hu, hg, ho, hfi, hr, hs, _⟩ := tyOk_struct ht hft
  obtain ⟨hfu, hseg⟩ := field_seg hf hfi hv
  have hag : t.isAgg = true := by cases t <;> first | rfl | (simp [Ty.field] at hft)
  obtain ⟨hc, _, hagg, _⟩ := cells_of_VR hf hx
  have h2 := hc.seg off ft.size
  rw [hseg] at h2
  obtain ⟨r, hr', hvr, _⟩ := run_part (w := w) hr hfu h2
  refine ⟨r, ?_, hvr⟩
  rw [hagg hag]
  simp only [Instr.field, Sem.run_bind, run_underlying hu w, Result.andThen_ok, hg, asAgg, Sem.run_pure]
  subst ho
  simpa using hr'

/-- A new block. -/
theorem run_newVar {T : TypeId} {z : Value} : (newVar T z).run P w = .ok ⟨w.heap.size, 0, none⟩ (w.alloc (.cells z.cells T)) := by
  simp [newVar, newRow, newObj, Sem.run_bind, Sem.run]

theorem run_alloc {t : Ty} {T : TypeId} {old : Value} (ht : tyOk P t (.inl T) = true) :
    ∃ cs : Array Value, (Instr.alloc T true old).run P w = .ok (.pointer (some ⟨w.heap.size, 0, none⟩)) (w.alloc (.cells cs T)) ∧ All2 (LR φ β) t.zero.flat cs.toList := by
  obtain ⟨z, hz, hc⟩ := tyOk_zero (φ := φ) (β := β) ht w
  refine ⟨z.cells, ?_, hc⟩
  simp only [Instr.alloc, Sem.run_bind, hz, Result.andThen_ok]
  simp only [run_newVar, Sem.run_bind, Result.andThen_ok, Sem.run_pure]

theorem run_box {T : TypeId} {x : Value} : (Instr.box T x).run P w = .ok (.pointer (some ⟨w.heap.size, 0, none⟩)) (w.alloc (.cells x.cells T)) := by
  simp only [Instr.box, run_newVar, Sem.run_bind, Result.andThen_ok, Sem.run_pure]

/-! Putting parts into a value. -/
theorem setField_put : ∀ {v x u : AV} {i : Nat}, v.setField i x = some u → v.put [i] x = some u := by
  intro v
  induction v with
  | cons a b _ ihb =>
    intro x u i h
    cases i with
    | zero => simp [AV.setField] at h; simp [AV.put, h]
    | succ i =>
      simp only [AV.setField] at h
      simp only [AV.put]
      cases hb : b.setField i x with
      | none => simp [hb] at h
      | some y => rw [ihb hb]; simpa [hb] using h
  | _ => intro x u i h; simp [AV.setField] at h

end
end Go.Mini
