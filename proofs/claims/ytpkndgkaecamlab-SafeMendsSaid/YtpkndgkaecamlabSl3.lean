/- A part of the proof: Sl3. -/
import Derived.Test.YtpkndgkaecamlabSl2
namespace Go.Mini
open Go.RowKit
set_option linter.unusedSimpArgs false
set_option linter.unusedVariables false

section
variable {φ : Nat → Option FuncId} {β : Beta} {P : Program} {O : Nat → Prop} {w w' : World} {look look' : Id → Option Blk}

theorem ofList_fits {t : Ty} {l : List AV} (h : ∀ a ∈ l, t.fits a = true) : (Ty.arr l.length t).fits (.ofList l) = true := by
  simp only [AV.ofList, Ty.fits, beq_self_eq_true, Bool.true_and, List.all_eq_true]
  exact fun i _ => h _ (List.get_mem ..)

theorem ofList_flat (l : List AV) : (AV.ofList l).flat = l.flatMap AV.flat := by
  simp only [AV.ofList, AV.flat]
  have h : (List.finRange l.length).map l.get = l := List.ext_getElem (by simp) (by simp)
  have h2 : ((List.finRange l.length).map l.get).flatMap AV.flat = (List.finRange l.length).flatMap fun i => (l.get i).flat := List.flatMap_map ..
  rw [← h2, h]

/-- A block at the head of a new row. -/
theorem laid_prefix {b : Blk} {xs : List Value} {ys : Array Value} {T : TypeId} (hf : b.ty.fits b.val = true) (hc : All2 (LR φ β) b.val.flat xs) : Laid φ β b (w.alloc (.cells (xs.toArray ++ ys) T)) ⟨w.heap.size, 0, b.ty, (xs.toArray ++ ys).size⟩ := by
  have hl := hc.1
  have hl2 := Ty.fits_length hf
  refine ⟨_, T, heap_alloc_new w _, by simp, by simp at hl ⊢; omega, rfl, hf, fun k c hk => ?_⟩
  have hkl : k < xs.length := by
    rw [← hl]
    rcases Nat.lt_or_ge k b.val.flat.length with h | h
    · exact h
    · rw [List.getElem?_eq_none h] at hk; simp at hk
  refine ⟨xs[k], ?_, hc.2 k c _ hk (List.getElem?_eq_getElem hkl)⟩
  rw [Nat.zero_add, Array.getElem?_append_left (by simpa using hkl)]
  simp [hkl]

/-- A new row, by an append that grows. -/
theorem grow_new {t : Ty} {S Y e : TypeId} {i : TypeInfo} {ty : TypeId} {base : Option Addr} {sLen sCap : Nat} {olds news : List Value} {vy : Value} {m : Nat} {l : List AV}
    (hu : P.underlying S = some (.slice e)) (ht : tyOk P t (.inl e) = true) (hi : P.info? e = some i) (hby : i.bytes ≤ 65536)
    (hold : (Builtin.firstCells i.size sLen (.slice base sLen sCap)).run P w.drew = .ok olds.toArray w.drew) (hs : Src P i.size Y vy m news w) (hg : sCap < sLen + m) (hm : sLen + m ≤ 1048576)
    (hl : l.length = sLen + m) (hf : ∀ a ∈ l, t.fits a = true) (hc : All2 (LR φ β) (l.flatMap AV.flat) (olds ++ news)) :
    ∃ v w', (Builtin.append_ #[S, Y] ty #[.slice base sLen sCap, vy]).run P w = .ok v w' ∧
      ∃ pl, Laid φ β ⟨.arr (sLen + m) t, .ofList l⟩ w' pl ∧ pl.r = w.heap.size ∧ pl.base = 0 ∧ ValAt (some (sLen + m)) ⟨.arr (sLen + m) t, .ofList l⟩ pl v ∧ w.heap.size < w'.heap.size ∧ SameBut w w' (fun _ => False) := by
  obtain ⟨i', z, hi', hz, hzc⟩ := tyOk_zero_info (φ := φ) (β := β) ht
  rw [hi] at hi'
  obtain rfl := Option.some.inj hi'
  obtain ⟨i', hi', hsz⟩ := tyOk_size ht
  rw [hi] at hi'
  obtain rfl := Option.some.inj hi'
  have hzs : z.cells.size = t.size := by
    have := hzc.1
    rw [Ty.fits_length zero_fits] at this
    simpa using this.symm
  have hb : (sLen + m) * i.bytes ≤ 140737488355328 := by
    have := Nat.mul_le_mul hm hby
    omega
  have hrun := run_append_grow_src (P := P) w S Y ty e i z hu hi hz base sLen sCap olds hold vy m news hs hg (by omega) (growslice_fits hg hb)
  have hge := grownCap_ge w (sLen + m) sCap e
  refine ⟨_, _, hrun, ⟨w.heap.size, 0, .arr (sLen + m) t, ((olds ++ news).toArray ++ Builtin.zeroCells z.cells (grownCap w (sLen + m) sCap e - (sLen + m))).size⟩, ?_, ?_, ?_, ?_, ?_, ?_⟩
  · have hff : (Ty.arr (sLen + m) t).fits (.ofList l) = true := by rw [← hl]; exact ofList_fits hf
    exact laid_prefix (w := w.drew) (b := ⟨.arr (sLen + m) t, .ofList l⟩) hff (by rw [ofList_flat]; exact hc)
  · rfl
  · rfl
  · refine ⟨t, _, rfl, hge, ?_, rfl⟩
    have hlen : (olds ++ news).length = (sLen + m) * t.size := by
      rw [← hc.1]
      have := Ty.fits_length (ofList_fits hf)
      rw [ofList_flat] at this
      rw [this, Ty.size, hl]
    show grownCap w (sLen + m) sCap e * t.size ≤ ((olds ++ news).toArray ++ Builtin.zeroCells z.cells (grownCap w (sLen + m) sCap e - (sLen + m))).size
    have e1 : ((olds ++ news).toArray ++ Builtin.zeroCells z.cells (grownCap w (sLen + m) sCap e - (sLen + m))).size = (sLen + m) * t.size + (grownCap w (sLen + m) sCap e - (sLen + m)) * t.size := by
      rw [Array.size_append, size_zeroCells, hzs, ← hlen]; simp
    rw [e1, ← Nat.add_mul]
    exact Nat.mul_le_mul_right _ (by omega)
  · simp
  · exact ⟨rfl, rfl, rfl, by simp, fun k hk _ => Below.heap_alloc w.drew _ k hk⟩
end
end Go.Mini
