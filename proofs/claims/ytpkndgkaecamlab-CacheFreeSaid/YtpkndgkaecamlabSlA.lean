/- A part of the proof: SlA. -/
import Derived.Test.YtpkndgkaecamlabSnd7
import Derived.Deep.AppendSrc
import Derived.Deep.Upon
namespace Go.Mini
open Go.RowKit
set_option linter.unusedSimpArgs false
set_option linter.unusedVariables false

section
variable {φ : Nat → Option FuncId} {β : Beta} {P : Program} {O : Nat → Prop} {w : World} {look : Id → Option Blk}

/-- The world but for some blocks. -/
structure SameBut (w w' : World) (p : Nat → Prop) : Prop where
  os : w'.os = w.os
  tape : w'.tape = w.tape
  output : w'.output = w.output
  size : w.heap.size ≤ w'.heap.size
  block : ∀ r, r < w.heap.size → ¬ p r → w'.heap[r]? = w.heap[r]?

/-- A block lies at a place. -/
def Laid (φ : Nat → Option FuncId) (β : Beta) (b : Blk) (w : World) (pl : Place) : Prop :=
  ∃ (cs : Array Value) (T : TypeId), w.heap[pl.r]? = some (.cells cs T (0, 0)) ∧ pl.base + pl.room ≤ cs.size ∧ b.ty.size ≤ pl.room ∧ pl.ty = b.ty ∧ b.ty.fits b.val = true ∧
    ∀ k c, b.val.flat[k]? = some c → ∃ x, cs[pl.base + k]? = some x ∧ LR φ β c x

def ValAt (sl : Option Nat) (b : Blk) (pl : Place) (x : Value) : Prop :=
  match sl with
  | none => x = .pointer (some ⟨pl.r, pl.base, none⟩)
  | some n => ∃ t cap, b.ty = .arr n t ∧ n ≤ cap ∧ cap * t.size ≤ pl.room ∧ x = .slice (some ⟨pl.r, pl.base, none⟩) n cap

def Next.val : Next → Option Value
  | .value x => some x
  | .skip => some undef
  | _ => none

/-- What an effect comes to. -/
def EffOk (φ : Nat → Option FuncId) (β : Beta) (look : Id → Option Blk) (w w' : World) (x : Value) : Eff → Prop
  | .val v => VR φ β v x ∧ w' = w
  | .new sl b => ∃ pl, Laid φ β b w' pl ∧ pl.r = w.heap.size ∧ pl.base = 0 ∧ ValAt sl b pl x ∧ w.heap.size < w'.heap.size ∧ SameBut w w' (fun _ => False)
  | .wr i b v => ∃ pl old, look i = some old ∧ old.ty = b.ty ∧ β i = some pl ∧ Laid φ β b w' pl ∧ VR φ β v x ∧ SameBut w w' (fun r => r = pl.r)
  | .grow j b n => ∃ pl plj old, look j = some old ∧ β j = some plj ∧ Laid φ β b w' pl ∧ (pl.r = plj.r ∨ pl.r = w.heap.size) ∧ ValAt (some n) b pl x ∧ SameBut w w' (fun r => r = plj.r)

/-- May the effect be had of a block that came in? No. -/
def Eff.lets : Eff → Prop
  | .wr i _ _ => i.isArg = false
  | .grow j _ _ => j.isArg = false
  | _ => True

end
end Go.Mini

namespace Go.Mini
open Go.RowKit
set_option linter.unusedSimpArgs false
set_option linter.unusedVariables false

section
variable {φ : Nat → Option FuncId} {β : Beta} {P : Program} {O : Nat → Prop} {w w' : World} {look look' : Id → Option Blk}

theorem zeros_flat {n : Nat} {t : Ty} {k : Nat} (hk : k < n * t.size) : (Ty.arr n t).zero.flat[k]? = t.zero.flat[k % t.size]? := by
  have hs : 0 < t.size := by
    rcases Nat.eq_zero_or_pos t.size with h | h
    · rw [h] at hk; simp at hk
    · exact h
  simp only [Ty.zero, AV.flat]
  have hd : k / t.size < n := (Nat.div_lt_iff_lt_mul hs).2 hk
  have := getElem?_flatMap_const (List.finRange n) (fun _ : Fin n => t.zero.flat) t.size (fun _ _ => Ty.fits_length zero_fits) (k / t.size) (by simpa using hd) (k % t.size) (Nat.mod_lt _ hs)
  rw [← this]
  congr 1
  rw [Nat.mul_comm]; exact (Nat.div_add_mod k t.size).symm

theorem run_bslice {t : Ty} {T e : TypeId} {n : Nat} {l : List (Nat × AV)} {xs : List (Nat × Value)} {r : AV} (hu : P.underlying T = some (.slice e)) (ht : tyOk P t (.inl e) = true) (hn : n * t.size ≤ 2 ^ 24) (hp : 0 < n * t.size)
    (hx : All2 (fun a b => a.1 = b.1 ∧ VR φ β a.2 b.2) l xs) (h : fill (.arr n t) (Ty.arr n t).zero l = some r) :
    ∃ cs : Array Value, (Instr.buildSlice T n xs.toArray).run P w = .ok (.slice (some ⟨w.heap.size, 0, none⟩) n n) (w.alloc (.cells cs e)) ∧ All2 (LR φ β) r.flat cs.toList ∧ (Ty.arr n t).fits r = true := by
  obtain ⟨i, hi, hsz⟩ := tyOk_size ht
  obtain ⟨z, hz, hzc⟩ := tyOk_zero (φ := φ) (β := β) ht w
  have hzl : z.cells.size = t.size := by
    have := hzc.1
    rw [Ty.fits_length zero_fits] at this
    simpa using this.symm
  have hs : 0 < t.size := Nat.pos_of_mul_pos_left hp
  have h0 : All2 (LR φ β) (Ty.arr n t).zero.flat ((Array.range (n * t.size)).map (fun j => z.cells[j % z.cells.size]!)).toList := by
    refine ⟨by rw [Ty.fits_length zero_fits]; simp [Ty.size], fun k a b ha hb => ?_⟩
    have hk : k < n * t.size := by
      rcases Nat.lt_or_ge k (n * t.size) with h | h
      · exact h
      · rw [List.getElem?_eq_none (by rw [Ty.fits_length zero_fits]; simpa [Ty.size] using h)] at ha; simp at ha
    rw [zeros_flat hk] at ha
    have hm : k % t.size < z.cells.size := by rw [hzl]; exact Nat.mod_lt _ hs
    refine hzc.2 (k % t.size) a b ha ?_
    simp only [Array.toList_map, List.getElem?_map, Array.toList_range, List.getElem?_range hk, Option.map_some, Option.some.injEq] at hb
    subst hb
    rw [hzl] at hm ⊢
    simp [hzl, hm]
  obtain ⟨cs, hf, hc, hfit⟩ := fill_sound (φ := φ) (β := β) (t := .arr n t) (place := fun i => some (i * t.size, t.size)) (fun i u hiu => by
    simp only [Ty.part] at hiu
    split at hiu <;> simp at hiu
    subst hiu
    exact ⟨i * t.size, by simp [Ty.find, *], rfl⟩) l xs _ r _ hx zero_fits h0 h
  refine ⟨cs, ?_, hc, hfit⟩
  simp only [Instr.buildSlice, Sem.run_bind, run_underlying hu, Result.andThen_ok, sizeOf, typeInfo, run_program, hi, Sem.run_pure, hsz]
  rw [if_neg (by omega)]
  simp only [Sem.run_bind, Sem.run_pure, Result.andThen_ok, if_neg (show ¬ n * t.size = 0 by omega), hz, hf]
  simp [newRow, newObj, Sem.run_bind, Sem.run]
end
end Go.Mini

namespace Go.Mini
open Go.RowKit
set_option linter.unusedSimpArgs false
set_option linter.unusedVariables false

section
variable {φ : Nat → Option FuncId} {β : Beta} {P : Program} {O : Nat → Prop} {w w' : World} {look look' : Id → Option Blk}

theorem LR_one {c : AV} {x : Value} (hs : c.safe = true) (ha : c.isAgg = false) (h : LR φ β c x) : x.oneCell' = true := by
  cases c <;> simp [AV.safe, AV.isAgg] at hs ha <;> simp only [LR, AV.rel] at h
  all_goals first
    | (subst h; rfl)
    | (obtain ⟨_, _, _, _, rfl⟩ := h; rfl)
    | (obtain ⟨_, _, rfl⟩ := h; rfl)
    | (obtain ⟨_, _, _, _, _, _, _, _, _, rfl⟩ := h; rfl)

theorem flatMap_drop {α γ : Type} {g : α → List γ} {c : Nat} : ∀ {l : List α} {k : Nat}, (∀ x ∈ l, (g x).length = c) → (l.drop k).flatMap g = (l.flatMap g).drop (k * c)
  | [], k, _ => by simp
  | a :: l, 0, _ => by simp
  | a :: l, k + 1, h => by
    simp only [List.drop_succ_cons, List.flatMap_cons]
    rw [flatMap_drop fun x hx => h x (List.mem_cons_of_mem _ hx), List.drop_append, List.drop_of_length_le (l := g a) (by rw [h a (List.mem_cons_self ..), Nat.add_mul]; omega), List.nil_append, h a (List.mem_cons_self ..)]
    congr 1
    rw [Nat.add_mul]; omega

theorem flatMap_take {α γ : Type} {g : α → List γ} {c : Nat} : ∀ {l : List α} {k : Nat}, (∀ x ∈ l, (g x).length = c) → (l.take k).flatMap g = (l.flatMap g).take (k * c)
  | [], k, _ => by simp
  | a :: l, 0, _ => by simp
  | a :: l, k + 1, h => by
    simp only [List.take_succ_cons, List.flatMap_cons]
    rw [flatMap_take fun x hx => h x (List.mem_cons_of_mem _ hx), List.take_append, List.take_of_length_le (l := g a) (by rw [h a (List.mem_cons_self ..), Nat.add_mul]; omega), h a (List.mem_cons_self ..)]
    congr 2
    rw [Nat.add_mul]; omega

/-- The elements of an array's value. -/
theorem arr_list {n : Nat} {t : Ty} {v : AV} {l : List AV} (hf : (Ty.arr n t).fits v = true) (hl : v.toList = some l) : l.length = n ∧ (∀ x ∈ l, t.fits x = true) ∧ v.flat = l.flatMap AV.flat := by
  cases v <;> simp [AV.toList] at hl
  rename_i m f
  subst hl
  simp only [Ty.fits, Bool.and_eq_true, beq_iff_eq, List.all_eq_true] at hf
  obtain ⟨hnm, hf⟩ := hf
  subst hnm
  refine ⟨by simp, fun x hx => ?_, ?_⟩
  · obtain ⟨i, hi⟩ := (List.mem_ofFn ..).1 hx
    rw [← hi]; exact hf i (List.mem_finRange _)
  · simp only [AV.flat]
    have e : (List.finRange _).map f = List.ofFn f := List.ext_getElem (by simp) (by simp)
    rw [← e, List.flatMap_map]

/-- What a slice yields to an append. -/
theorem elems_src {t : Ty} {Y e : TypeId} {y : AV} {vy : Value} {add : List AV} (hR : HR φ β O look w) (hu : P.underlying Y = some (.slice e)) (hy : VR φ β y vy) (h : elems look t y = some add) :
    ∃ news, Src P t.size Y vy add.length news w ∧ All2 (LR φ β) (add.flatMap AV.flat) news ∧ ∀ a ∈ add, t.fits a = true := by
  unfold elems at h
  split at h
  · simp at h
    subst h
    have : vy = .slice none 0 0 := by simpa [VR, VR1, AV.isAgg, LR, AV.rel] using hy
    subst this
    exact ⟨[], Src.ofNil w hu 0, by simpa using All2.nil, by simp⟩
  · simp at h
    subst h
    obtain ⟨a, cap, rfl⟩ : ∃ a cap, vy = .slice (some a) 0 cap := by simpa [VR, VR1, AV.isAgg, LR, AV.rel] using hy
    exact ⟨[], Src.ofSlice w hu a 0 cap [] (by simp) (by simp) (by simp), by simpa using All2.nil, by simp⟩
  · rename_i j off len
    split at h
    · rename_i n t' v hlk
      split at h
      · rename_i l hl
        split at h
        · rename_i hc
          obtain ⟨rfl, hle⟩ := hc
          simp at h
          subst h
          obtain ⟨pl, m, t', cap, hb, hty, h1, h2, h3, rfl⟩ := LR_sl hy
          obtain ⟨pl', cs, T', fr, hB⟩ := hR.live j _ hlk
          obtain rfl : pl' = pl := Option.some.inj (hB.place.symm.trans hb)
          rw [hB.ty] at hty
          simp at hty
          obtain ⟨rfl, rfl⟩ := hty
          obtain ⟨hll, hlf, hfl⟩ := arr_list hB.fits hl
          have hlen : ∀ x ∈ l, (AV.flat x).length = t.size := fun x hx => Ty.fits_length (hlf x hx)
          have hseg : ((l.drop off).take len).flatMap AV.flat = (v.flat.drop (off * t.size)).take (len * t.size) := by
            rw [flatMap_take fun x hx => hlen x (List.mem_of_mem_drop hx), flatMap_drop hlen, hfl]
          have hvl : v.flat.length = n * t.size := by rw [Ty.fits_length hB.fits]; rfl
          have hmul : off * t.size + len * t.size ≤ n * t.size := by rw [← Nat.add_mul]; exact Nat.mul_le_mul_right _ h1
          have hroom := hB.room
          have hsize := hB.size
          simp only [Ty.size] at hsize
          let news := (cs.toList.drop (pl'.base + off * t.size)).take (len * t.size)
          have hnl : news.length = len * t.size := by
            simp only [news, List.length_take, List.length_drop, Array.length_toList]
            omega
          have hAll : All2 (LR φ β) ((v.flat.drop (off * t.size)).take (len * t.size)) news := by
            refine ⟨by rw [hnl]; simp; omega, fun k a b ha hb' => ?_⟩
            have hk : k < len * t.size := by
              rcases Nat.lt_or_ge k (len * t.size) with h | h
              · exact h
              · rw [List.getElem?_eq_none (by omega)] at hb'; simp at hb'
            rw [List.getElem?_take, if_pos hk, List.getElem?_drop] at ha
            obtain ⟨x, hx, hr⟩ := hB.cells _ a ha
            simp only [news] at hb'
            rw [List.getElem?_take, if_pos hk, List.getElem?_drop] at hb'
            have : cs.toList[pl'.base + off * t.size + k]? = some x := by rw [← hx]; simp [Nat.add_assoc]
            rw [this] at hb'
            simp at hb'
            subst hb'
            exact hr
          have haddl : ((l.drop off).take len).length = len := by simp; omega
          refine ⟨news, ?_, by rw [hseg]; exact hAll, fun a ha => hlf a (List.mem_of_mem_drop (List.mem_of_mem_take ha))⟩
          rw [haddl]
          refine Src.ofSlice w hu _ len cap news hnl (fun k u hk => ?_) fun u hu' => ?_
          · rw [add_addr, cell_of_row w _ _ cs T' fr hB.heap]
            have hkl : k < len * t.size := by
              rcases Nat.lt_or_ge k (len * t.size) with h | h
              · exact h
              · rw [List.getElem?_eq_none (by omega)] at hk; simp at hk
            simp only [news] at hk
            rw [List.getElem?_take, if_pos hkl, List.getElem?_drop] at hk
            simpa using hk
          · obtain ⟨k, hk⟩ := List.mem_iff_getElem?.1 hu'
            have hkl : k < ((v.flat.drop (off * t.size)).take (len * t.size)).length := by
              rw [hAll.1]
              rcases Nat.lt_or_ge k news.length with h | h
              · exact h
              · rw [List.getElem?_eq_none h] at hk; simp at hk
            have hr := hAll.2 k _ u (List.getElem?_eq_getElem hkl) hk
            have hmem : ((v.flat.drop (off * t.size)).take (len * t.size))[k] ∈ v.flat := List.mem_of_mem_drop (List.mem_of_mem_take (List.getElem_mem hkl))
            have := safe_flat (Ty.fits_safe hB.fits) _ hmem
            exact LR_one this.1 this.2 hr
        · simp at h
      · simp at h
    · simp at h
  · simp at h
end
end Go.Mini

namespace Go.Mini
open Go.RowKit
set_option linter.unusedSimpArgs false
set_option linter.unusedVariables false

section
variable {φ : Nat → Option FuncId} {β : Beta} {P : Program} {O : Nat → Prop} {w w' : World} {look look' : Id → Option Blk}

theorem ofList_fits {t : Ty} {l : List AV} (h : ∀ a ∈ l, t.fits a = true) : (Ty.arr l.length t).fits (.ofList l) = true := by
  simp only [AV.ofList, Ty.fits, beq_self_eq_true, Bool.true_and, List.all_eq_true]
  exact fun i _ => h _ (List.get_mem ..)

theorem ofList_flat (l : List AV) : (AV.ofList l).flat = l.flatMap AV.flat := by
  simp only [AV.ofList, AV.flat]
  have h : (List.finRange l.length).map l.get = l := List.ext_getElem (by simp) (by simp)
  have h2 : ((List.finRange l.length).map l.get).flatMap AV.flat = (List.finRange l.length).flatMap fun i => (l.get i).flat := List.flatMap_map ..
  rw [← h2, h]

/-- A block at the head of a new row. -/
theorem laid_prefix {b : Blk} {xs : List Value} {ys : Array Value} {T : TypeId} (hf : b.ty.fits b.val = true) (hc : All2 (LR φ β) b.val.flat xs) : Laid φ β b (w.alloc (.cells (xs.toArray ++ ys) T)) ⟨w.heap.size, 0, b.ty, (xs.toArray ++ ys).size⟩ := by
  have hl := hc.1
  have hl2 := Ty.fits_length hf
  refine ⟨_, T, heap_alloc_new w _, by simp, by simp at hl ⊢; omega, rfl, hf, fun k c hk => ?_⟩
  have hkl : k < xs.length := by
    rw [← hl]
    rcases Nat.lt_or_ge k b.val.flat.length with h | h
    · exact h
    · rw [List.getElem?_eq_none h] at hk; simp at hk
  refine ⟨xs[k], ?_, hc.2 k c _ hk (List.getElem?_eq_getElem hkl)⟩
  rw [Nat.zero_add, Array.getElem?_append_left (by simpa using hkl)]
  simp [hkl]

/-- A new row, by an append that grows. -/
theorem grow_new {t : Ty} {S Y e : TypeId} {i : TypeInfo} {ty : TypeId} {base : Option Addr} {sLen sCap : Nat} {olds news : List Value} {vy : Value} {m : Nat} {l : List AV}
    (hu : P.underlying S = some (.slice e)) (ht : tyOk P t (.inl e) = true) (hi : P.info? e = some i) (hby : i.bytes ≤ 65536)
    (hold : (Builtin.firstCells i.size sLen (.slice base sLen sCap)).run P w.drew = .ok olds.toArray w.drew) (hs : Src P i.size Y vy m news w) (hg : sCap < sLen + m) (hm : sLen + m ≤ 1048576)
    (hl : l.length = sLen + m) (hf : ∀ a ∈ l, t.fits a = true) (hc : All2 (LR φ β) (l.flatMap AV.flat) (olds ++ news)) :
    ∃ v w', (Builtin.append_ #[S, Y] ty #[.slice base sLen sCap, vy]).run P w = .ok v w' ∧
      ∃ pl, Laid φ β ⟨.arr (sLen + m) t, .ofList l⟩ w' pl ∧ pl.r = w.heap.size ∧ pl.base = 0 ∧ ValAt (some (sLen + m)) ⟨.arr (sLen + m) t, .ofList l⟩ pl v ∧ w.heap.size < w'.heap.size ∧ SameBut w w' (fun _ => False) := by
  obtain ⟨i', z, hi', hz, hzc⟩ := tyOk_zero_info (φ := φ) (β := β) ht
  rw [hi] at hi'
  obtain rfl := Option.some.inj hi'
  obtain ⟨i', hi', hsz⟩ := tyOk_size ht
  rw [hi] at hi'
  obtain rfl := Option.some.inj hi'
  have hzs : z.cells.size = t.size := by
    have := hzc.1
    rw [Ty.fits_length zero_fits] at this
    simpa using this.symm
  have hb : (sLen + m) * i.bytes ≤ 140737488355328 := by
    have := Nat.mul_le_mul hm hby
    omega
  have hrun := run_append_grow_src (P := P) w S Y ty e i z hu hi hz base sLen sCap olds hold vy m news hs hg (by omega) (growslice_fits hg hb)
  have hge := grownCap_ge w (sLen + m) sCap e
  refine ⟨_, _, hrun, ⟨w.heap.size, 0, .arr (sLen + m) t, ((olds ++ news).toArray ++ Builtin.zeroCells z.cells (grownCap w (sLen + m) sCap e - (sLen + m))).size⟩, ?_, ?_, ?_, ?_, ?_, ?_⟩
  · have hff : (Ty.arr (sLen + m) t).fits (.ofList l) = true := by rw [← hl]; exact ofList_fits hf
    exact laid_prefix (w := w.drew) (b := ⟨.arr (sLen + m) t, .ofList l⟩) hff (by rw [ofList_flat]; exact hc)
  · rfl
  · rfl
  · refine ⟨t, _, rfl, hge, ?_, rfl⟩
    have hlen : (olds ++ news).length = (sLen + m) * t.size := by
      rw [← hc.1]
      have := Ty.fits_length (ofList_fits hf)
      rw [ofList_flat] at this
      rw [this, Ty.size, hl]
    show grownCap w (sLen + m) sCap e * t.size ≤ ((olds ++ news).toArray ++ Builtin.zeroCells z.cells (grownCap w (sLen + m) sCap e - (sLen + m))).size
    have e1 : ((olds ++ news).toArray ++ Builtin.zeroCells z.cells (grownCap w (sLen + m) sCap e - (sLen + m))).size = (sLen + m) * t.size + (grownCap w (sLen + m) sCap e - (sLen + m)) * t.size := by
      rw [Array.size_append, size_zeroCells, hzs, ← hlen]; simp
    rw [e1, ← Nat.add_mul]
    exact Nat.mul_le_mul_right _ (by omega)
  · simp
  · exact ⟨rfl, rfl, rfl, by simp, fun k hk _ => Below.heap_alloc w.drew _ k hk⟩
end
end Go.Mini

namespace Go.Mini
open Go.RowKit
set_option linter.unusedSimpArgs false
set_option linter.unusedVariables false

section
variable {φ : Nat → Option FuncId} {β : Beta} {P : Program} {O : Nat → Prop} {w w' : World} {look look' : Id → Option Blk}

/-- There is room: the cells are stored behind the length. -/
theorem run_append_row (S Y ty e : TypeId) (i : TypeInfo) (ht : P.underlying S = some (.slice e)) (hi : P.info? e = some i) (b off sLen sCap : Nat) (x : Value) (n : Nat) (news : List Value) (hs : Src P i.size Y x n news w)
    (hroom : sLen + n ≤ sCap) {cs : Array Value} {T : TypeId} (hb : w.heap[b]? = some (.cells cs T (0, 0))) (hc : off + sLen * i.size + news.length ≤ cs.size) :
    (Builtin.append_ #[S, Y] ty #[.slice (some ⟨b, off, none⟩) sLen sCap, x]).run P w = .ok (.slice (some ⟨b, off, none⟩) (sLen + n) sCap)
      (w.setRow b (cs.toList.take (off + sLen * i.size) ++ news ++ cs.toList.drop (off + sLen * i.size + news.length)).toArray) := by
  have hst := run_storeCells_at P b (off + sLen * i.size) T news 0 cs w hb (by omega) hs.one
  simp only [Nat.add_zero] at hst
  rcases hs.kind with ⟨e', hk⟩ | hk <;> simp [Builtin.append_, run_underlying ht, run_underlying hk, sizeOf, typeInfo, hi, hs.len, hroom, hs.cells, Addr.add_lit, hst]

/-- What lies in a row behind a store. -/
theorem row_get {cs : Array Value} {o k : Nat} {news : List Value} (h : o + news.length ≤ cs.size) :
    ((cs.toList.take o ++ news ++ cs.toList.drop (o + news.length)).toArray)[k]? = if o ≤ k ∧ k < o + news.length then news[k - o]? else cs[k]? := by
  have htl : (cs.toList.take o).length = o := by simp; omega
  rw [List.getElem?_toArray]
  by_cases hk : o ≤ k ∧ k < o + news.length
  · rw [if_pos hk, List.append_assoc, List.getElem?_append_right (by omega), htl, List.getElem?_append_left (by omega)]
  · rw [if_neg hk]
    rcases Nat.lt_or_ge k o with h1 | h1
    · rw [List.append_assoc, List.getElem?_append_left (by omega), List.getElem?_take, if_pos h1]; simp
    · rw [List.getElem?_append_right (by simp only [List.length_append, htl]; omega)]
      simp only [List.length_append, htl, List.getElem?_drop]
      rw [show o + news.length + (k - (o + news.length)) = k by omega]; simp

theorem mid_get {α : Type} {A B : List α} {p k : Nat} (h : p + B.length ≤ A.length) : (A.take p ++ B ++ A.drop (p + B.length))[k]? = if p ≤ k ∧ k < p + B.length then B[k - p]? else A[k]? := by
  have htl : (A.take p).length = p := by simp; omega
  by_cases hk : p ≤ k ∧ k < p + B.length
  · rw [if_pos hk, List.append_assoc, List.getElem?_append_right (by omega), htl, List.getElem?_append_left (by omega)]
  · rw [if_neg hk]
    rcases Nat.lt_or_ge k p with h1 | h1
    · rw [List.append_assoc, List.getElem?_append_left (by omega), List.getElem?_take, if_pos h1]
    · rw [List.getElem?_append_right (by simp only [List.length_append, htl]; omega)]
      simp only [List.length_append, htl, List.getElem?_drop]
      rw [show p + B.length + (k - (p + B.length)) = k by omega]

theorem setRow_same {w : World} {r : Nat} {cs cs' : Array Value} {T : TypeId} (hb : w.heap[r]? = some (.cells cs T (0, 0))) : SameBut w (w.setRow r cs') (fun q => q = r) ∧ (w.setRow r cs').heap[r]? = some (.cells cs' T (0, 0)) :=
  ⟨⟨rfl, rfl, rfl, by simp, fun q _ hq => setRow_other w r q cs' hq⟩, setRow_heap w r cs cs' T (0, 0) hb⟩

set_option maxHeartbeats 2000000 in
theorem run_append_sound {t : Ty} {S Y e e' ty : TypeId} {i : TypeInfo} {x y : AV} {vx vy : Value} {add : List AV} {ef : Eff} (hR : HR φ β O look w) (hu : P.underlying S = some (.slice e)) (ht : tyOk P t (.inl e) = true) (hi : P.info? e = some i) (hby : i.bytes ≤ 65536)
    (huY : P.underlying Y = some (.slice e')) (hx : VR φ β x vx) (hy : VR φ β y vy) (hadd : elems look t y = some add) (he : evAppend look t x add = some ef) (hlets : ef.lets) :
    ∃ v w', (Builtin.append_ #[S, Y] ty #[vx, vy]).run P w = .ok v w' ∧ EffOk φ β look w w' v ef := by
  obtain ⟨news, hs, hnl, haf⟩ := elems_src (P := P) hR huY hy hadd
  obtain ⟨i', hi', hsz⟩ := tyOk_size ht
  rw [hi] at hi'
  obtain rfl := Option.some.inj hi'
  rw [← hsz] at hs
  have hnews : news.length = add.length * t.size := by rw [hs.newsLen, hsz]
  unfold evAppend at he
  split at he
  · -- nil
    have : vx = .slice none 0 0 := by simpa [VR, VR1, AV.isAgg, LR, AV.rel] using hx
    subst this
    split at he
    · rename_i h0
      simp at he
      subst he
      have hn0 : news = [] := List.eq_nil_of_length_eq_zero (by rw [hnews, h0]; simp)
      subst hn0
      rw [h0] at hs
      exact ⟨_, _, run_append_nothing w S Y ty e i hu hi none 0 0 (Nat.le_refl _) vy hs, hx, rfl⟩
    · rename_i h0
      split at he
      · rename_i hc
        simp at he
        subst he
        obtain ⟨v, w', hrun, pl, h1, h2, h3, h4, h5, h6⟩ := grow_new (φ := φ) (β := β) (ty := ty) (l := add) (olds := []) hu ht hi hby (base := none) (sLen := 0) (sCap := 0) (run_firstCells_none w.drew i.size 0 0 0) hs (by omega) (by omega) (by omega) haf (by simpa using hnl)
        simp only [Nat.zero_add] at h1 h4
        exact ⟨v, w', hrun, pl, h1, h2, h3, h4, h5, h6⟩
      · simp at he
  · rename_i j off len
    split at he
    · rename_i n t' bv hlk
      split at he
      · rename_i l hl
        split at he
        · rename_i htt
          subst htt
          obtain ⟨pl, m, t', cap, hb, hty, h1, h2, h3, rfl⟩ := LR_sl hx
          obtain ⟨pl', cs, T', fr, hB⟩ := hR.live j _ hlk
          obtain rfl : pl' = pl := Option.some.inj (hB.place.symm.trans hb)
          have htyB := hB.ty
          rw [hB.ty] at hty
          simp at hty
          obtain ⟨rfl, rfl⟩ := hty
          obtain ⟨hll, hlf, hfl⟩ := arr_list hB.fits hl
          have hlen : ∀ x ∈ l, (AV.flat x).length = t.size := fun x hx => Ty.fits_length (hlf x hx)
          have hvl : bv.flat.length = n * t.size := by rw [Ty.fits_length hB.fits]; rfl
          have hroom := hB.room
          have hsize := hB.size
          simp only [Ty.size] at hsize
          have hafl : ∀ x ∈ add, (AV.flat x).length = t.size := fun x hx => Ty.fits_length (haf x hx)
          have haddl : (add.flatMap AV.flat).length = add.length * t.size := by rw [hnl.1, hnews]
          have hfr : fr = (0, 0) := by
            have hja : j.isArg = false := by
              split at he
              · split at he
                · simp at he; subst he; exact hlets
                · simp at he
              · split at he
                · split at he
                  · simp at he; subst he; exact hlets
                  · simp at he
                · simp at he
            exact (hB.own hja).1
          subst hfr
          have hmul : ∀ {a b : Nat}, a ≤ b → a * t.size ≤ b * t.size := fun h => Nat.mul_le_mul_right _ h
          -- a store behind the length
          have hstore : len + add.length ≤ cap → pl'.base + off * t.size + len * t.size + news.length ≤ cs.size := by
            intro hle
            have := hmul (show off + (len + add.length) ≤ off + cap by omega)
            rw [hnews]
            simp only [Nat.add_mul] at this h3
            omega
          split at he
          · rename_i hin
            split at he
            · rename_i hfit
              obtain rfl := Option.some.inj he
              have hcap : len + add.length ≤ cap := by omega
              have hst := hstore hcap
              have hrun := run_append_row (P := P) (w := w) S Y ty e i hu hi pl'.r (pl'.base + off * t.size) len cap vy add.length news hs hcap hB.heap (by rw [hsz]; exact hst)
              rw [hsz] at hrun
              refine ⟨_, _, hrun, pl', _, hlk, congrArg (fun k => Ty.arr k t) hll.symm, hB.place, ⟨_, T', (setRow_same hB.heap).2, ?_, ?_, ?_, hfit, ?_⟩, ?_, (setRow_same hB.heap).1⟩
              · have h4 : ((cs.toList.take (pl'.base + off * t.size + len * t.size) ++ news ++ cs.toList.drop (pl'.base + off * t.size + len * t.size + news.length)).toArray).size = cs.size := by
                  simp only [List.size_toArray, List.length_append, List.length_take, List.length_drop, Array.length_toList]; omega
                rw [h4]; exact hroom
              · simp only [Ty.size, hll]; exact hsize
              · rw [hB.ty, hll]
              · intro k c hk
                have e1 : (AV.ofList (l.take (off + len) ++ add ++ l.drop (off + len + add.length))).flat = bv.flat.take ((off + len) * t.size) ++ add.flatMap AV.flat ++ bv.flat.drop ((off + len) * t.size + (add.flatMap AV.flat).length) := by
                  rw [ofList_flat, List.flatMap_append, List.flatMap_append, flatMap_take hlen, flatMap_drop hlen, ← hfl, haddl, ← Nat.add_mul]
                have e2 : (off + len) * t.size + (add.flatMap AV.flat).length ≤ bv.flat.length := by
                  rw [haddl, hvl, ← Nat.add_mul]; exact hmul (by omega)
                change (AV.ofList (l.take (off + len) ++ add ++ l.drop (off + len + add.length))).flat[k]? = some c at hk
                rw [e1, mid_get e2] at hk
                rw [row_get (by omega)]
                have e3 : pl'.base + off * t.size + len * t.size = pl'.base + (off + len) * t.size := by rw [Nat.add_mul]; omega
                rw [e3]
                by_cases hk2 : (off + len) * t.size ≤ k ∧ k < (off + len) * t.size + (add.flatMap AV.flat).length
                · rw [if_pos hk2] at hk
                  rw [if_pos ⟨by omega, by rw [hnews, ← haddl]; omega⟩, show pl'.base + k - (pl'.base + (off + len) * t.size) = k - (off + len) * t.size by omega]
                  have hkl : k - (off + len) * t.size < news.length := by rw [hnews, ← haddl]; omega
                  exact ⟨_, List.getElem?_eq_getElem hkl, hnl.2 _ c _ hk (List.getElem?_eq_getElem hkl)⟩
                · rw [if_neg hk2] at hk
                  rw [if_neg (by rw [hnews, ← haddl]; omega)]
                  exact hB.cells k c hk
              · simp only [VR, VR1, AV.isAgg, Bool.false_eq_true, if_false, LR, AV.rel]
                exact ⟨pl', _, t, cap, hB.place, htyB, by omega, h2, h3, rfl⟩
            · simp at he
          · rename_i hin
            split at he
            · rename_i hol
              split at he
              · rename_i hfit
                obtain rfl := Option.some.inj he
                have e1 : (AV.ofList ((l.drop off).take len ++ add)).flat = (bv.flat.drop (off * t.size)).take (len * t.size) ++ add.flatMap AV.flat := by
                  rw [ofList_flat, List.flatMap_append, flatMap_take fun x hx => hlen x (List.mem_of_mem_drop hx), flatMap_drop hlen, ← hfl]
                have hol' : off * t.size + len * t.size ≤ bv.flat.length := by
                  rw [hvl, ← Nat.add_mul]; exact hmul (by omega)
                have hseg : ((bv.flat.drop (off * t.size)).take (len * t.size)).length = len * t.size := by
                  rw [List.length_take, List.length_drop]; omega
                have hcell : ∀ k c, ((bv.flat.drop (off * t.size)).take (len * t.size))[k]? = some c → k < len * t.size ∧ ∃ x, cs[pl'.base + off * t.size + k]? = some x ∧ LR φ β c x := by
                  intro k c hk
                  have hkl : k < len * t.size := by
                    rcases Nat.lt_or_ge k (len * t.size) with h | h
                    · exact h
                    · rw [List.getElem?_eq_none (by omega)] at hk; simp at hk
                  rw [List.getElem?_take, if_pos hkl, List.getElem?_drop] at hk
                  obtain ⟨x, hx, hr⟩ := hB.cells _ c hk
                  exact ⟨hkl, x, by rw [Nat.add_assoc]; exact hx, hr⟩
                by_cases hcap : len + add.length ≤ cap
                · have hst := hstore hcap
                  have hrun := run_append_row (P := P) (w := w) S Y ty e i hu hi pl'.r (pl'.base + off * t.size) len cap vy add.length news hs hcap hB.heap (by rw [hsz]; exact hst)
                  rw [hsz] at hrun
                  refine ⟨_, _, hrun, ⟨pl'.r, pl'.base + off * t.size, .arr (len + add.length) t, cap * t.size⟩, pl', _, hlk, hB.place, ⟨_, T', (setRow_same hB.heap).2, ?_, ?_, rfl, hfit.1, ?_⟩, .inl rfl, ⟨t, cap, rfl, hcap, Nat.le_refl _, rfl⟩, (setRow_same hB.heap).1⟩
                  · have h4 : ((cs.toList.take (pl'.base + off * t.size + len * t.size) ++ news ++ cs.toList.drop (pl'.base + off * t.size + len * t.size + news.length)).toArray).size = cs.size := by
                      simp only [List.size_toArray, List.length_append, List.length_take, List.length_drop, Array.length_toList]; omega
                    rw [h4]
                    rw [Nat.add_mul] at h3
                    show pl'.base + off * t.size + cap * t.size ≤ cs.size
                    omega
                  · simp only [Ty.size]; exact hmul hcap
                  · intro k c hk
                    change (AV.ofList ((l.drop off).take len ++ add)).flat[k]? = some c at hk
                    rw [e1] at hk
                    show ∃ x, (_ : Array Value)[pl'.base + off * t.size + k]? = some x ∧ _
                    rw [row_get (by omega)]
                    by_cases hk2 : k < len * t.size
                    · rw [List.getElem?_append_left (by omega)] at hk
                      rw [if_neg (by omega)]
                      exact (hcell k c hk).2
                    · rw [List.getElem?_append_right (by omega), hseg] at hk
                      have hkl : k - len * t.size < news.length := by
                        rw [← hnl.1]
                        rcases Nat.lt_or_ge (k - len * t.size) (add.flatMap AV.flat).length with h | h
                        · exact h
                        · rw [List.getElem?_eq_none h] at hk; simp at hk
                      rw [if_pos ⟨by omega, by omega⟩, show pl'.base + off * t.size + k - (pl'.base + off * t.size + len * t.size) = k - len * t.size by omega]
                      exact ⟨_, List.getElem?_eq_getElem hkl, hnl.2 _ c _ hk (List.getElem?_eq_getElem hkl)⟩
                · let olds := (cs.toList.drop (pl'.base + off * t.size)).take (len * t.size)
                  have hbnd : pl'.base + off * t.size + len * t.size ≤ cs.size := by
                    have := hmul (show off + len ≤ n by omega)
                    rw [Nat.add_mul] at this
                    omega
                  have holds : olds.length = len * t.size := by
                    simp only [olds, List.length_take, List.length_drop, Array.length_toList]; omega
                  have hget : ∀ k v, olds[k]? = some v → cs[pl'.base + off * t.size + k]? = some v := by
                    intro k v hk
                    have hkl : k < len * t.size := by
                      rcases Nat.lt_or_ge k (len * t.size) with h | h
                      · exact h
                      · rw [List.getElem?_eq_none (by omega)] at hk; simp at hk
                    simp only [olds] at hk
                    rw [List.getElem?_take, if_pos hkl, List.getElem?_drop] at hk
                    simpa using hk
                  have hold : (Builtin.firstCells i.size len (.slice (some ⟨pl'.r, pl'.base + off * t.size, none⟩) len cap)).run P w.drew = .ok olds.toArray w.drew := by
                    rw [hsz]
                    refine run_firstCells_some (w := w.drew) t.size len _ len cap olds holds fun k v hk => ?_
                    rw [add_addr, cell_of_row w.drew _ _ cs T' (0, 0) hB.heap]
                    exact hget k v hk
                  have hall : All2 (LR φ β) (((l.drop off).take len ++ add).flatMap AV.flat) (olds ++ news) := by
                    rw [← ofList_flat, e1]
                    refine ⟨by rw [List.length_append, List.length_append, hseg, holds, hnl.1], fun k a b ha hb' => ?_⟩
                    by_cases hk2 : k < len * t.size
                    · rw [List.getElem?_append_left (by omega)] at ha hb'
                      obtain ⟨_, x, hx, hr⟩ := hcell k a ha
                      rw [hget k b hb'] at hx
                      obtain rfl := Option.some.inj hx
                      exact hr
                    · rw [List.getElem?_append_right (by omega), hseg] at ha
                      rw [List.getElem?_append_right (by omega), holds] at hb'
                      exact hnl.2 _ a b ha hb'
                  obtain ⟨v, w', hrun, pl, h1', h2', h3', h4', h5', h6'⟩ := grow_new (φ := φ) (β := β) (w := w) (S := S) (Y := Y) (ty := ty) (l := (l.drop off).take len ++ add) hu ht hi hby hold hs (by omega) hfit.2
                    (by simp; omega) (by
                      intro a ha
                      rcases List.mem_append.1 ha with h | h
                      · exact hlf a (List.mem_of_mem_drop (List.mem_of_mem_take h))
                      · exact haf a h) hall
                  exact ⟨v, w', hrun, pl, pl', _, hlk, hB.place, h1', .inr h2', h4', ⟨h6'.os, h6'.tape, h6'.output, h6'.size, fun r hr _ => h6'.block r hr (fun h => h)⟩⟩
              · simp at he
            · simp at he
        · simp at he
      · simp at he
    · simp at he
  · simp at he
end
end Go.Mini
