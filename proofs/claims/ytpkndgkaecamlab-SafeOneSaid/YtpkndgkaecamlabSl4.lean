/- A part of the proof: Sl4. -/
import Derived.Test.YtpkndgkaecamlabSl3
namespace Go.Mini
open Go.RowKit
set_option linter.unusedSimpArgs false
set_option linter.unusedVariables false

section
variable {φ : Nat → Option FuncId} {β : Beta} {P : Program} {O : Nat → Prop} {w w' : World} {look look' : Id → Option Blk}

/-- There is room: the cells are stored behind the length. -/
theorem run_append_row (S Y ty e : TypeId) (i : TypeInfo) (ht : P.underlying S = some (.slice e)) (hi : P.info? e = some i) (b off sLen sCap : Nat) (x : Value) (n : Nat) (news : List Value) (hs : Src P i.size Y x n news w)
    (hroom : sLen + n ≤ sCap) {cs : Array Value} {T : TypeId} (hb : w.heap[b]? = some (.cells cs T (0, 0))) (hc : off + sLen * i.size + news.length ≤ cs.size) :
    (Builtin.append_ #[S, Y] ty #[.slice (some ⟨b, off, none⟩) sLen sCap, x]).run P w = .ok (.slice (some ⟨b, off, none⟩) (sLen + n) sCap)
      (w.setRow b (cs.toList.take (off + sLen * i.size) ++ news ++ cs.toList.drop (off + sLen * i.size + news.length)).toArray) := by
  have hst := run_storeCells_at P b (off + sLen * i.size) T news 0 cs w hb (by omega) hs.one
  simp only [Nat.add_zero] at hst
  rcases hs.kind with ⟨e', hk⟩ | hk <;> simp [Builtin.append_, run_underlying ht, run_underlying hk, sizeOf, typeInfo, hi, hs.len, hroom, hs.cells, Addr.add_lit, hst]

/-- What lies in a row behind a store. -/
theorem row_get {cs : Array Value} {o k : Nat} {news : List Value} (h : o + news.length ≤ cs.size) :
    ((cs.toList.take o ++ news ++ cs.toList.drop (o + news.length)).toArray)[k]? = if o ≤ k ∧ k < o + news.length then news[k - o]? else cs[k]? := by
  have htl : (cs.toList.take o).length = o := by simp; omega
  rw [List.getElem?_toArray]
  by_cases hk : o ≤ k ∧ k < o + news.length
  · rw [if_pos hk, List.append_assoc, List.getElem?_append_right (by omega), htl, List.getElem?_append_left (by omega)]
  · rw [if_neg hk]
    rcases Nat.lt_or_ge k o with h1 | h1
    · rw [List.append_assoc, List.getElem?_append_left (by omega), List.getElem?_take, if_pos h1]; simp
    · rw [List.getElem?_append_right (by simp only [List.length_append, htl]; omega)]
      simp only [List.length_append, htl, List.getElem?_drop]
      rw [show o + news.length + (k - (o + news.length)) = k by omega]; simp

theorem mid_get {α : Type} {A B : List α} {p k : Nat} (h : p + B.length ≤ A.length) : (A.take p ++ B ++ A.drop (p + B.length))[k]? = if p ≤ k ∧ k < p + B.length then B[k - p]? else A[k]? := by
  have htl : (A.take p).length = p := by simp; omega
  by_cases hk : p ≤ k ∧ k < p + B.length
  · rw [if_pos hk, List.append_assoc, List.getElem?_append_right (by omega), htl, List.getElem?_append_left (by omega)]
  · rw [if_neg hk]
    rcases Nat.lt_or_ge k p with h1 | h1
    · rw [List.append_assoc, List.getElem?_append_left (by omega), List.getElem?_take, if_pos h1]
    · rw [List.getElem?_append_right (by simp only [List.length_append, htl]; omega)]
      simp only [List.length_append, htl, List.getElem?_drop]
      rw [show p + B.length + (k - (p + B.length)) = k by omega]

theorem setRow_same {w : World} {r : Nat} {cs cs' : Array Value} {T : TypeId} (hb : w.heap[r]? = some (.cells cs T (0, 0))) : SameBut w (w.setRow r cs') (fun q => q = r) ∧ (w.setRow r cs').heap[r]? = some (.cells cs' T (0, 0)) :=
  ⟨⟨rfl, rfl, rfl, by simp, fun q _ hq => setRow_other w r q cs' hq⟩, setRow_heap w r cs cs' T (0, 0) hb⟩

set_option maxHeartbeats 2000000 in
theorem run_append_sound {t : Ty} {S Y e e' ty : TypeId} {i : TypeInfo} {x y : AV} {vx vy : Value} {add : List AV} {ef : Eff} (hR : HR φ β O look w) (hu : P.underlying S = some (.slice e)) (ht : tyOk P t (.inl e) = true) (hi : P.info? e = some i) (hby : i.bytes ≤ 65536)
    (huY : P.underlying Y = some (.slice e')) (hx : VR φ β x vx) (hy : VR φ β y vy) (hadd : elems look t y = some add) (he : evAppend look t x add = some ef) (hlets : ef.lets) :
    ∃ v w', (Builtin.append_ #[S, Y] ty #[vx, vy]).run P w = .ok v w' ∧ EffOk φ β look w w' v ef := by
  obtain ⟨news, hs, hnl, haf⟩ := elems_src (P := P) hR huY hy hadd
  obtain ⟨i', hi', hsz⟩ := tyOk_size ht
  rw [hi] at hi'
  obtain rfl := Option.some.inj hi'
  rw [← hsz] at hs
  have hnews : news.length = add.length * t.size := by rw [hs.newsLen, hsz]
  unfold evAppend at he
  split at he
  · -- nil
    have : vx = .slice none 0 0 := by simpa [VR, VR1, AV.isAgg, LR, AV.rel] using hx
    subst this
    split at he
    · rename_i h0
      simp at he
      subst he
      have hn0 : news = [] := List.eq_nil_of_length_eq_zero (by rw [hnews, h0]; simp)
      subst hn0
      rw [h0] at hs
      exact ⟨_, _, run_append_nothing w S Y ty e i hu hi none 0 0 (Nat.le_refl _) vy hs, hx, rfl⟩
    · rename_i h0
      split at he
      · rename_i hc
        simp at he
        subst he
        obtain ⟨v, w', hrun, pl, h1, h2, h3, h4, h5, h6⟩ := grow_new (φ := φ) (β := β) (ty := ty) (l := add) (olds := []) hu ht hi hby (base := none) (sLen := 0) (sCap := 0) (run_firstCells_none w.drew i.size 0 0 0) hs (by omega) (by omega) (by omega) haf (by simpa using hnl)
        simp only [Nat.zero_add] at h1 h4
        exact ⟨v, w', hrun, pl, h1, h2, h3, h4, h5, h6⟩
      · simp at he
  · rename_i j off len
    split at he
    · rename_i n t' bv hlk
      split at he
      · rename_i l hl
        split at he
        · rename_i htt
          subst htt
          obtain ⟨pl, m, t', cap, hb, hty, h1, h2, h3, rfl⟩ := LR_sl hx
          obtain ⟨pl', cs, T', fr, hB⟩ := hR.live j _ hlk
          obtain rfl : pl' = pl := Option.some.inj (hB.place.symm.trans hb)
          have htyB := hB.ty
          rw [hB.ty] at hty
          simp at hty
          obtain ⟨rfl, rfl⟩ := hty
          obtain ⟨hll, hlf, hfl⟩ := arr_list hB.fits hl
          have hlen : ∀ x ∈ l, (AV.flat x).length = t.size := fun x hx => Ty.fits_length (hlf x hx)
          have hvl : bv.flat.length = n * t.size := by rw [Ty.fits_length hB.fits]; rfl
          have hroom := hB.room
          have hsize := hB.size
          simp only [Ty.size] at hsize
          have hafl : ∀ x ∈ add, (AV.flat x).length = t.size := fun x hx => Ty.fits_length (haf x hx)
          have haddl : (add.flatMap AV.flat).length = add.length * t.size := by rw [hnl.1, hnews]
          have hfr : fr = (0, 0) := by
            have hja : j.isArg = false := by
              split at he
              · split at he
                · simp at he; subst he; exact hlets
                · simp at he
              · split at he
                · split at he
                  · simp at he; subst he; exact hlets
                  · simp at he
                · simp at he
            exact (hB.own hja).1
          subst hfr
          have hmul : ∀ {a b : Nat}, a ≤ b → a * t.size ≤ b * t.size := fun h => Nat.mul_le_mul_right _ h
          -- a store behind the length
          have hstore : len + add.length ≤ cap → pl'.base + off * t.size + len * t.size + news.length ≤ cs.size := by
            intro hle
            have := hmul (show off + (len + add.length) ≤ off + cap by omega)
            rw [hnews]
            simp only [Nat.add_mul] at this h3
            omega
          split at he
          · rename_i hin
            split at he
            · rename_i hfit
              obtain rfl := Option.some.inj he
              have hcap : len + add.length ≤ cap := by omega
              have hst := hstore hcap
              have hrun := run_append_row (P := P) (w := w) S Y ty e i hu hi pl'.r (pl'.base + off * t.size) len cap vy add.length news hs hcap hB.heap (by rw [hsz]; exact hst)
              rw [hsz] at hrun
              refine ⟨_, _, hrun, pl', _, hlk, congrArg (fun k => Ty.arr k t) hll.symm, hB.place, ⟨_, T', (setRow_same hB.heap).2, ?_, ?_, ?_, hfit, ?_⟩, ?_, (setRow_same hB.heap).1⟩
              · have h4 : ((cs.toList.take (pl'.base + off * t.size + len * t.size) ++ news ++ cs.toList.drop (pl'.base + off * t.size + len * t.size + news.length)).toArray).size = cs.size := by
                  simp only [List.size_toArray, List.length_append, List.length_take, List.length_drop, Array.length_toList]; omega
                rw [h4]; exact hroom
              · simp only [Ty.size, hll]; exact hsize
              · rw [hB.ty, hll]
              · intro k c hk
                have e1 : (AV.ofList (l.take (off + len) ++ add ++ l.drop (off + len + add.length))).flat = bv.flat.take ((off + len) * t.size) ++ add.flatMap AV.flat ++ bv.flat.drop ((off + len) * t.size + (add.flatMap AV.flat).length) := by
                  rw [ofList_flat, List.flatMap_append, List.flatMap_append, flatMap_take hlen, flatMap_drop hlen, ← hfl, haddl, ← Nat.add_mul]
                have e2 : (off + len) * t.size + (add.flatMap AV.flat).length ≤ bv.flat.length := by
                  rw [haddl, hvl, ← Nat.add_mul]; exact hmul (by omega)
                change (AV.ofList (l.take (off + len) ++ add ++ l.drop (off + len + add.length))).flat[k]? = some c at hk
                rw [e1, mid_get e2] at hk
                rw [row_get (by omega)]
                have e3 : pl'.base + off * t.size + len * t.size = pl'.base + (off + len) * t.size := by rw [Nat.add_mul]; omega
                rw [e3]
                by_cases hk2 : (off + len) * t.size ≤ k ∧ k < (off + len) * t.size + (add.flatMap AV.flat).length
                · rw [if_pos hk2] at hk
                  rw [if_pos ⟨by omega, by rw [hnews, ← haddl]; omega⟩, show pl'.base + k - (pl'.base + (off + len) * t.size) = k - (off + len) * t.size by omega]
                  have hkl : k - (off + len) * t.size < news.length := by rw [hnews, ← haddl]; omega
                  exact ⟨_, List.getElem?_eq_getElem hkl, hnl.2 _ c _ hk (List.getElem?_eq_getElem hkl)⟩
                · rw [if_neg hk2] at hk
                  rw [if_neg (by rw [hnews, ← haddl]; omega)]
                  exact hB.cells k c hk
              · simp only [VR, VR1, AV.isAgg, Bool.false_eq_true, if_false, LR, AV.rel]
                exact ⟨pl', _, t, cap, hB.place, htyB, by omega, h2, h3, rfl⟩
            · simp at he
          · rename_i hin
            split at he
            · rename_i hol
              split at he
              · rename_i hfit
                obtain rfl := Option.some.inj he
                have e1 : (AV.ofList ((l.drop off).take len ++ add)).flat = (bv.flat.drop (off * t.size)).take (len * t.size) ++ add.flatMap AV.flat := by
                  rw [ofList_flat, List.flatMap_append, flatMap_take fun x hx => hlen x (List.mem_of_mem_drop hx), flatMap_drop hlen, ← hfl]
                have hol' : off * t.size + len * t.size ≤ bv.flat.length := by
                  rw [hvl, ← Nat.add_mul]; exact hmul (by omega)
                have hseg : ((bv.flat.drop (off * t.size)).take (len * t.size)).length = len * t.size := by
                  rw [List.length_take, List.length_drop]; omega
                have hcell : ∀ k c, ((bv.flat.drop (off * t.size)).take (len * t.size))[k]? = some c → k < len * t.size ∧ ∃ x, cs[pl'.base + off * t.size + k]? = some x ∧ LR φ β c x := by
                  intro k c hk
                  have hkl : k < len * t.size := by
                    rcases Nat.lt_or_ge k (len * t.size) with h | h
                    · exact h
                    · rw [List.getElem?_eq_none (by omega)] at hk; simp at hk
                  rw [List.getElem?_take, if_pos hkl, List.getElem?_drop] at hk
                  obtain ⟨x, hx, hr⟩ := hB.cells _ c hk
                  exact ⟨hkl, x, by rw [Nat.add_assoc]; exact hx, hr⟩
                by_cases hcap : len + add.length ≤ cap
                · have hst := hstore hcap
                  have hrun := run_append_row (P := P) (w := w) S Y ty e i hu hi pl'.r (pl'.base + off * t.size) len cap vy add.length news hs hcap hB.heap (by rw [hsz]; exact hst)
                  rw [hsz] at hrun
                  refine ⟨_, _, hrun, ⟨pl'.r, pl'.base + off * t.size, .arr (len + add.length) t, cap * t.size⟩, pl', _, hlk, hB.place, ⟨_, T', (setRow_same hB.heap).2, ?_, ?_, rfl, hfit.1, ?_⟩, .inl rfl, ⟨t, cap, rfl, hcap, Nat.le_refl _, rfl⟩, (setRow_same hB.heap).1⟩
                  · have h4 : ((cs.toList.take (pl'.base + off * t.size + len * t.size) ++ news ++ cs.toList.drop (pl'.base + off * t.size + len * t.size + news.length)).toArray).size = cs.size := by
                      simp only [List.size_toArray, List.length_append, List.length_take, List.length_drop, Array.length_toList]; omega
                    rw [h4]
                    rw [Nat.add_mul] at h3
                    show pl'.base + off * t.size + cap * t.size ≤ cs.size
                    omega
                  · simp only [Ty.size]; exact hmul hcap
                  · intro k c hk
                    change (AV.ofList ((l.drop off).take len ++ add)).flat[k]? = some c at hk
                    rw [e1] at hk
                    show ∃ x, (_ : Array Value)[pl'.base + off * t.size + k]? = some x ∧ _
                    rw [row_get (by omega)]
                    by_cases hk2 : k < len * t.size
                    · rw [List.getElem?_append_left (by omega)] at hk
                      rw [if_neg (by omega)]
                      exact (hcell k c hk).2
                    · rw [List.getElem?_append_right (by omega), hseg] at hk
                      have hkl : k - len * t.size < news.length := by
                        rw [← hnl.1]
                        rcases Nat.lt_or_ge (k - len * t.size) (add.flatMap AV.flat).length with h | h
                        · exact h
                        · rw [List.getElem?_eq_none h] at hk; simp at hk
                      rw [if_pos ⟨by omega, by omega⟩, show pl'.base + off * t.size + k - (pl'.base + off * t.size + len * t.size) = k - len * t.size by omega]
                      exact ⟨_, List.getElem?_eq_getElem hkl, hnl.2 _ c _ hk (List.getElem?_eq_getElem hkl)⟩
                · let olds := (cs.toList.drop (pl'.base + off * t.size)).take (len * t.size)
                  have hbnd : pl'.base + off * t.size + len * t.size ≤ cs.size := by
                    have := hmul (show off + len ≤ n by omega)
                    rw [Nat.add_mul] at this
                    omega
                  have holds : olds.length = len * t.size := by
                    simp only [olds, List.length_take, List.length_drop, Array.length_toList]; omega
                  have hget : ∀ k v, olds[k]? = some v → cs[pl'.base + off * t.size + k]? = some v := by
                    intro k v hk
                    have hkl : k < len * t.size := by
                      rcases Nat.lt_or_ge k (len * t.size) with h | h
                      · exact h
                      · rw [List.getElem?_eq_none (by omega)] at hk; simp at hk
                    simp only [olds] at hk
                    rw [List.getElem?_take, if_pos hkl, List.getElem?_drop] at hk
                    simpa using hk
                  have hold : (Builtin.firstCells i.size len (.slice (some ⟨pl'.r, pl'.base + off * t.size, none⟩) len cap)).run P w.drew = .ok olds.toArray w.drew := by
                    rw [hsz]
                    refine run_firstCells_some (w := w.drew) t.size len _ len cap olds holds fun k v hk => ?_
                    rw [add_addr, cell_of_row w.drew _ _ cs T' (0, 0) hB.heap]
                    exact hget k v hk
                  have hall : All2 (LR φ β) (((l.drop off).take len ++ add).flatMap AV.flat) (olds ++ news) := by
                    rw [← ofList_flat, e1]
                    refine ⟨by rw [List.length_append, List.length_append, hseg, holds, hnl.1], fun k a b ha hb' => ?_⟩
                    by_cases hk2 : k < len * t.size
                    · rw [List.getElem?_append_left (by omega)] at ha hb'
                      obtain ⟨_, x, hx, hr⟩ := hcell k a ha
                      rw [hget k b hb'] at hx
                      obtain rfl := Option.some.inj hx
                      exact hr
                    · rw [List.getElem?_append_right (by omega), hseg] at ha
                      rw [List.getElem?_append_right (by omega), holds] at hb'
                      exact hnl.2 _ a b ha hb'
                  obtain ⟨v, w', hrun, pl, h1', h2', h3', h4', h5', h6'⟩ := grow_new (φ := φ) (β := β) (w := w) (S := S) (Y := Y) (ty := ty) (l := (l.drop off).take len ++ add) hu ht hi hby hold hs (by omega) hfit.2
                    (by simp; omega) (by
                      intro a ha
                      rcases List.mem_append.1 ha with h | h
                      · exact hlf a (List.mem_of_mem_drop (List.mem_of_mem_take h))
                      · exact haf a h) hall
                  exact ⟨v, w', hrun, pl, pl', _, hlk, hB.place, h1', .inr h2', h4', ⟨h6'.os, h6'.tape, h6'.output, h6'.size, fun r hr _ => h6'.block r hr (fun h => h)⟩⟩
              · simp at he
            · simp at he
        · simp at he
      · simp at he
    · simp at he
  · simp at he
end
end Go.Mini
