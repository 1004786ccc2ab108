/- A part of the proof: Sl1. -/
import Derived.Test.YtpkndgkaecamlabSnd8a
namespace Go.Mini
open Go.RowKit
set_option linter.unusedSimpArgs false
set_option linter.unusedVariables false

section
variable {φ : Nat → Option FuncId} {β : Beta} {P : Program} {O : Nat → Prop} {w w' : World} {look look' : Id → Option Blk}

theorem zeros_flat {n : Nat} {t : Ty} {k : Nat} (hk : k < n * t.size) : (Ty.arr n t).zero.flat[k]? = t.zero.flat[k % t.size]? := by
  have hs : 0 < t.size := by
    rcases Nat.eq_zero_or_pos t.size with h | h
    · rw [h] at hk; simp at hk
    · exact h
  simp only [Ty.zero, AV.flat]
  have hd : k / t.size < n := (Nat.div_lt_iff_lt_mul hs).2 hk
  have := getElem?_flatMap_const (List.finRange n) (fun _ : Fin n => t.zero.flat) t.size (fun _ _ => Ty.fits_length zero_fits) (k / t.size) (by simpa using hd) (k % t.size) (Nat.mod_lt _ hs)
  rw [← this]
  congr 1
  rw [Nat.mul_comm]; exact (Nat.div_add_mod k t.size).symm

theorem run_bslice {t : Ty} {T e : TypeId} {n : Nat} {l : List (Nat × AV)} {xs : List (Nat × Value)} {r : AV} (hu : P.underlying T = some (.slice e)) (ht : tyOk P t (.inl e) = true) (hn : n * t.size ≤ 2 ^ 24) (hp : 0 < n * t.size)
    (hx : All2 (fun a b => a.1 = b.1 ∧ VR φ β a.2 b.2) l xs) (h : fill (.arr n t) (Ty.arr n t).zero l = some r) :
    ∃ cs : Array Value, (Instr.buildSlice T n xs.toArray).run P w = .ok (.slice (some ⟨w.heap.size, 0, none⟩) n n) (w.alloc (.cells cs e)) ∧ All2 (LR φ β) r.flat cs.toList ∧ (Ty.arr n t).fits r = true := by
  obtain ⟨i, hi, hsz⟩ := tyOk_size ht
  obtain ⟨z, hz, hzc⟩ := tyOk_zero (φ := φ) (β := β) ht w
  have hzl : z.cells.size = t.size := by
    have := hzc.1
    rw [Ty.fits_length zero_fits] at this
    simpa using this.symm
  have hs : 0 < t.size := Nat.pos_of_mul_pos_left hp
  have h0 : All2 (LR φ β) (Ty.arr n t).zero.flat ((Array.range (n * t.size)).map (fun j => z.cells[j % z.cells.size]!)).toList := by
    refine ⟨by rw [Ty.fits_length zero_fits]; simp [Ty.size], fun k a b ha hb => ?_⟩
    have hk : k < n * t.size := by
      rcases Nat.lt_or_ge k (n * t.size) with h | h
      · exact h
      · rw [List.getElem?_eq_none (by rw [Ty.fits_length zero_fits]; simpa [Ty.size] using h)] at ha; simp at ha
    rw [zeros_flat hk] at ha
    have hm : k % t.size < z.cells.size := by rw [hzl]; exact Nat.mod_lt _ hs
    refine hzc.2 (k % t.size) a b ha ?_
    simp only [Array.toList_map, List.getElem?_map, Array.toList_range, List.getElem?_range hk, Option.map_some, Option.some.injEq] at hb
    subst hb
    rw [hzl] at hm ⊢
    simp [hzl, hm]
  obtain ⟨cs, hf, hc, hfit⟩ := fill_sound (φ := φ) (β := β) (t := .arr n t) (place := fun i => some (i * t.size, t.size)) (fun i u hiu => by
    simp only [Ty.part] at hiu
    split at hiu <;> simp at hiu
    subst hiu
    exact ⟨i * t.size, by simp [Ty.find, *], rfl⟩) l xs _ r _ hx zero_fits h0 h
  refine ⟨cs, ?_, hc, hfit⟩
  simp only [Instr.buildSlice, Sem.run_bind, run_underlying hu, Result.andThen_ok, sizeOf, typeInfo, run_program, hi, Sem.run_pure, hsz]
  rw [if_neg (by omega)]
  simp only [Sem.run_bind, Sem.run_pure, Result.andThen_ok, if_neg (show ¬ n * t.size = 0 by omega), hz, hf]
  simp [newRow, newObj, Sem.run_bind, Sem.run]
end
end Go.Mini
