/- A part of the proof: Snd4. -/
import Derived.Test.YtpkndgkaecamlabSnd3
namespace Go.Mini
open Go.RowKit

section
variable {φ : Nat → Option FuncId} {β : Beta} {P : Program} {O : Nat → Prop} {w : World} {look : Id → Option Blk}

theorem add_addr (b o n : Nat) : (⟨b, o, none⟩ : Addr).add n = ⟨b, o + n, none⟩ := Addr.add_mid b o n

theorem LR_ptr {i : Id} {p : List Nat} {t : Ty} {x : Value} (h : VR φ β (.ptr i p t) x) : ∃ pl o, β i = some pl ∧ pl.ty.find p = some (o, t) ∧ x = .pointer (some ⟨pl.r, pl.base + o, none⟩) := by
  simpa [VR, VR1, AV.isAgg, LR, AV.rel] using h
theorem VR_ptr {i : Id} {p : List Nat} {t : Ty} {pl : Place} {o : Nat} (hb : β i = some pl) (hf : pl.ty.find p = some (o, t)) : VR φ β (.ptr i p t) (.pointer (some ⟨pl.r, pl.base + o, none⟩)) := by
  simp only [VR, VR1, AV.isAgg, LR, AV.rel, Bool.false_eq_true, if_false]
  exact ⟨pl, o, hb, hf, rfl⟩
theorem LR_int {k : IntKind} {n : Int} {x : Value} (h : VR φ β (.int k n) x) : x = .int k n := by simpa [VR, VR1, AV.isAgg, LR, AV.rel] using h
theorem LR_bool {b : Bool} {x : Value} (h : VR φ β (.bool b) x) : x = .bool b := by simpa [VR, VR1, AV.isAgg, LR, AV.rel] using h
theorem LR_str {s : ByteArray} {x : Value} (h : VR φ β (.str s) x) : x = .string s := by simpa [VR, VR1, AV.isAgg, LR, AV.rel] using h
theorem LR_sl {i : Id} {off len : Nat} {x : Value} (h : VR φ β (.sl i off len) x) :
    ∃ pl n t cap, β i = some pl ∧ pl.ty = .arr n t ∧ off + len ≤ n ∧ n ≤ off + cap ∧ (off + cap) * t.size ≤ pl.room ∧ x = .slice (some ⟨pl.r, pl.base + off * t.size, none⟩) len cap := by
  simpa [VR, VR1, AV.isAgg, LR, AV.rel] using h
theorem VR_int {k : IntKind} {n : Int} : VR φ β (.int k n) (.int k n) := by simp [VR, VR1, AV.isAgg, LR, AV.rel]
theorem VR_bool {b : Bool} : VR φ β (.bool b) (.bool b) := by simp [VR, VR1, AV.isAgg, LR, AV.rel]
theorem VR_str {s : ByteArray} : VR φ β (.str s) (.string s) := by simp [VR, VR1, AV.isAgg, LR, AV.rel]

theorem toIx_int {v : AV} {x : Value} {z : Int} (h : toIx v = some z) (hx : VR φ β v x) : ∃ k, x = .int k z := by
  cases v <;> simp [toIx] at h
  subst h
  exact ⟨_, LR_int hx⟩

/-- A value of that shape that lies in memory, or in a slot: what its cells are. -/
theorem VR1_of_cells {t : Ty} {v : AV} {cs : List Value} (hf : t.fits v = true) (ha : t.isAgg = true) (h : All2 (LR φ β) v.flat cs) : VR φ β v (.agg cs.toArray) := by
  have hv := Ty.fits_isAgg hf
  rw [ha] at hv
  exact VR_of_VR1 (by rw [VR1, if_pos hv]; exact ⟨Ty.fits_safe hf, cs, rfl, h⟩)

theorem cells_of_VR {t : Ty} {v : AV} {x : Value} (hf : t.fits v = true) (h : VR φ β v x) : All2 (LR φ β) v.flat x.cells.toList ∧ (x.cells.toList.all (·.oneCell') = true) ∧ (t.isAgg = true → x = .agg x.cells) ∧ (t.isAgg = false → x.cells = #[x]) := by
  have one : ∀ {a : AV} {y : Value}, a.safe = true → a.isAgg = false → LR φ β a y → y.oneCell' = true ∧ y.cells = #[y] := by
    intro a y hs hag hl
    cases a <;> simp [AV.safe, AV.isAgg] at hs hag <;> simp only [LR, AV.rel] at hl
    · subst hl; exact ⟨rfl, rfl⟩
    · subst hl; exact ⟨rfl, rfl⟩
    · subst hl; exact ⟨rfl, rfl⟩
    · subst hl; exact ⟨rfl, rfl⟩
    · obtain ⟨_, _, _, _, rfl⟩ := hl; exact ⟨rfl, rfl⟩
    · subst hl; exact ⟨rfl, rfl⟩
    · obtain ⟨_, _, rfl⟩ := hl; exact ⟨rfl, rfl⟩
    · obtain ⟨_, _, _, _, _, _, _, _, _, rfl⟩ := hl; exact ⟨rfl, rfl⟩
    · subst hl; exact ⟨rfl, rfl⟩
  have hag := Ty.fits_isAgg hf
  have hs := Ty.fits_safe hf
  have h1 : VR1 φ β v x := by
    cases v <;> first | exact h | simp [AV.safe] at hs
  unfold VR1 at h1
  by_cases ha : v.isAgg = true
  · rw [if_pos ha] at h1
    obtain ⟨_, cs, rfl, hc⟩ := h1
    refine ⟨by simpa [Value.cells] using hc, ?_, fun _ => by simp [Value.cells], fun h0 => by rw [h0] at hag; rw [hag] at ha; simp at ha⟩
    simp only [Value.cells, List.all_eq_true]
    intro y hy
    obtain ⟨k, hk⟩ := List.mem_iff_getElem?.1 hy
    have hlen := hc.1
    have hkl : k < v.flat.length := by
      rcases Nat.lt_or_ge k cs.length with h | h
      · omega
      · rw [List.getElem?_eq_none h] at hk; simp at hk
    have := hc.2 k v.flat[k] y (List.getElem?_eq_getElem hkl) hk
    exact (one (safe_flat hs _ (List.getElem_mem hkl)).1 (safe_flat hs _ (List.getElem_mem hkl)).2 this).1
  · rw [if_neg ha] at h1
    have ha' : v.isAgg = false := by simpa using ha
    have ho := one hs ha' h1
    have hfl : v.flat = [v] := by cases v <;> simp [AV.isAgg] at ha' <;> rfl
    rw [ho.2, hfl]
    exact ⟨All2.cons h1 All2.nil, by simp [ho.1], fun h0 => (by rw [h0] at hag; simp [hag] at ha'), fun _ => rfl⟩

/-- What lies at a place, read. -/
theorem run_load {t : Ty} {T : TypeId} {i : Id} {p : List Nat} {b : Blk} {v : AV} {x : Value} (hR : HR φ β O look w) (ht : tyOk P t (.inl T) = true) (hx : VR φ β (.ptr i p t) x)
    (hl : look i = some b) (hv : b.val.at p = some v) : ∃ y, (Instr.loadAt T x).run P w = .ok y w ∧ VR φ β v y := by
  obtain ⟨pl, o, hb, hf, rfl⟩ := LR_ptr hx
  obtain ⟨pl', cs, T', fr, hB⟩ := hR.live i b hl
  obtain rfl : pl' = pl := Option.some.inj (hB.place.symm.trans hb)
  have hfit := hB.fits
  rw [hB.ty] at hf
  obtain ⟨hu, hk⟩ := Ty.fits_at hfit hf hv
  have hsz := Ty.find_size hf
  have hfl := Ty.fits_length hu
  obtain ⟨ti, hti, htis⟩ := tyOk_size ht
  have hcell : ∀ k, k < t.size → ∃ y, w.cell? ⟨pl'.r, pl'.base + o + k, none⟩ = some y ∧ ∃ c, v.flat[k]? = some c ∧ LR φ β c y := by
    intro k hkl
    obtain ⟨c, hc⟩ : ∃ c, v.flat[k]? = some c := ⟨_, List.getElem?_eq_getElem (by omega)⟩
    obtain ⟨y, hy, hr⟩ := hB.cells (o + k) c (by rw [hk k hkl]; exact hc)
    exact ⟨y, by rw [cell_of_row w _ _ cs T' fr hB.heap, Nat.add_assoc]; exact hy, c, hc, hr⟩
  simp only [Instr.loadAt, Instr.sureAddr, Sem.run_bind, Sem.run_pure, Result.andThen_ok, loadVar, tyOk_isAgg ht w]
  cases ha : t.isAgg with
  | false =>
    cases t <;> simp [Ty.isAgg] at ha
    obtain ⟨y, hy, c, hc, hr⟩ := hcell 0 (by simp [Ty.size])
    simp only [Nat.add_zero] at hy
    refine ⟨y, by simp [load, Sem.run, hy], ?_⟩
    have hl1 := (LK.fits_flat (v := v) (by simp [Ty.fits] at hu; exact hu.1))
    rw [hl1.1] at hc
    simp at hc
    subst hc
    exact VR_of_VR1 (by simp [VR1, hl1.2, hr])
  | true =>
    simp only [if_true]
    have hall : ∃ ys : List Value, ys.length = t.size ∧ ∀ k y, ys[k]? = some y → w.cell? ⟨pl'.r, pl'.base + o + k, none⟩ = some y ∧ ∃ c, v.flat[k]? = some c ∧ LR φ β c y := by
      have : ∀ n, n ≤ t.size → ∃ ys : List Value, ys.length = n ∧ ∀ k y, ys[k]? = some y → w.cell? ⟨pl'.r, pl'.base + o + k, none⟩ = some y ∧ ∃ c, v.flat[k]? = some c ∧ LR φ β c y := by
        intro n
        induction n with
        | zero => intro _; exact ⟨[], rfl, by simp⟩
        | succ n ih =>
          intro hn
          obtain ⟨ys, hlen, hys⟩ := ih (by omega)
          obtain ⟨y, hy⟩ := hcell n (by omega)
          refine ⟨ys ++ [y], by simp [hlen], fun k z hz => ?_⟩
          rcases Nat.lt_or_ge k n with h | h
          · rw [List.getElem?_append_left (by omega)] at hz; exact hys k z hz
          · rw [List.getElem?_append_right (by omega)] at hz
            have hk0 : k - ys.length = 0 := by
              rcases Nat.eq_zero_or_pos (k - ys.length) with h0 | h0
              · exact h0
              · rw [List.getElem?_eq_none (by simp; omega)] at hz; simp at hz
            rw [hk0] at hz
            simp at hz
            subst hz
            have : k = n := by omega
            subst this
            exact hy
      exact this t.size (Nat.le_refl _)
    obtain ⟨ys, hlen, hys⟩ := hall
    have hlc : (loadCells ⟨pl'.r, pl'.base + o, none⟩ ys.length).run P w = .ok ys.toArray w :=
      run_loadCells_list (P := P) w ⟨pl'.r, pl'.base + o, none⟩ ys fun k y hy => by rw [add_addr]; exact (hys k y hy).1
    refine ⟨.agg ys.toArray, by simp [sizeOf, typeInfo, hti, htis, ← hlen, hlc, Sem.run_bind], ?_⟩
    refine VR1_of_cells hu ha ⟨by omega, fun k c y hc hy => ?_⟩
    obtain ⟨_, c', hc', hr⟩ := hys k y hy
    rw [hc] at hc'
    obtain rfl := Option.some.inj hc'
    exact hr

/-- What a store comes to. -/
theorem run_store {t : Ty} {T : TypeId} {i : Id} {p : List Nat} {b : Blk} {v u : AV} {x y : Value} (hR : HR φ β O look w) (ht : tyOk P t (.inl T) = true) (hx : VR φ β (.ptr i p t) x)
    (hy : VR φ β v y) (hv : t.fits v = true) (hl : look i = some b) (hu : b.val.put p v = some u) (hi : i.isArg = false) :
    ∃ pl cs T', BR φ β O i b w pl cs T' (0, 0) ∧ ∃ cs' : Array Value, (Instr.storeAt T x y).run P w = .ok () (w.setRow pl.r cs') ∧ cs'.size = cs.size ∧ b.ty.fits u = true ∧
      (∀ k c, u.flat[k]? = some c → ∃ x, cs'[pl.base + k]? = some x ∧ LR φ β c x) := by
  obtain ⟨pl, o, hb, hf, rfl⟩ := LR_ptr hx
  obtain ⟨pl', cs, T', fr, hB⟩ := hR.live i b hl
  obtain rfl : pl' = pl := Option.some.inj (hB.place.symm.trans hb)
  obtain ⟨hfr, hge⟩ := hB.own hi
  subst hfr
  rw [hB.ty] at hf
  obtain ⟨hfu, hflat⟩ := Ty.fits_put hB.fits hf hv hu
  obtain ⟨hc, h1, hagg, hone⟩ := cells_of_VR hv hy
  have hsz := Ty.find_size hf
  have hlen : y.cells.toList.length = t.size := by rw [← hc.1, Ty.fits_length hv]
  have hroom := hB.room
  have hsize := hB.size
  obtain ⟨ti, hti, htis⟩ := tyOk_size ht
  have hrun := run_storeCells_at P pl'.r (pl'.base + o) T' y.cells.toList 0 cs w hB.heap (by simp at hlen ⊢; omega) (fun v hv => (List.all_eq_true.1 h1) v hv)
  refine ⟨pl', cs, T', hB, (List.take (pl'.base + o + 0) cs.toList ++ y.cells.toList ++ List.drop (pl'.base + o + 0 + y.cells.toList.length) cs.toList).toArray, ?_, ?_, hfu, ?_⟩
  · simp only [Instr.storeAt, Instr.sureAddr, storeVar, Sem.run_bind, Sem.run_pure, Result.andThen_ok, sizeOf, typeInfo, run_program, hti]
    have he : y.cells.size = ti.size := by rw [htis, ← hlen]; simp
    simp only [he, ne_eq, not_true_eq_false, if_false]
    exact hrun
  · simp at hlen ⊢; omega
  · intro k c hk
    rw [hflat] at hk
    simp only [Nat.add_zero, List.getElem?_toArray]
    have htl : (cs.toList.take (pl'.base + o)).length = pl'.base + o := by simp; omega
    by_cases hin : o ≤ k ∧ k < o + t.size
    · rw [if_pos hin] at hk
      have hkl : k - o < y.cells.toList.length := by omega
      refine ⟨y.cells.toList[k - o], ?_, hc.2 (k - o) c _ hk (List.getElem?_eq_getElem hkl)⟩
      rw [List.append_assoc, List.getElem?_append_right (by omega), htl, List.getElem?_append_left (by omega)]
      rw [show pl'.base + k - (pl'.base + o) = k - o by omega]
      exact List.getElem?_eq_getElem hkl
    · rw [if_neg hin] at hk
      obtain ⟨z, hz, hr⟩ := hB.cells k c hk
      refine ⟨z, ?_, hr⟩
      rcases Nat.lt_or_ge k o with h | h
      · rw [List.append_assoc, List.getElem?_append_left (by omega), List.getElem?_take, if_pos (by omega)]
        simpa using hz
      · rw [List.getElem?_append_right (by simp at hlen htl ⊢; omega)]
        simp only [List.length_append, htl, List.getElem?_drop, hlen]
        rw [show pl'.base + o + t.size + (pl'.base + k - (pl'.base + o + t.size)) = pl'.base + k by omega]
        simpa using hz
end
end Go.Mini
