/- A part of the proof: Snd7. -/
import Derived.Test.YtpkndgkaecamlabSnd6
namespace Go.Mini
open Go.RowKit
set_option linter.unusedSimpArgs false
set_option linter.unusedVariables false

def eqElems (d : Nat) (elem : TypeId) (xs ys : Array Value) (n : Nat) : List Nat → Sem Bool
  | [] => pure true
  | i :: l => do
    let a ← part elem xs (i * n)
    let b ← part elem ys (i * n)
    let r ← Op.equalIn d elem a b
    if (!r) = true then pure false else eqElems d elem xs ys n l
theorem run_equalIn_array {P : Program} (w : World) (d : Nat) (t : TypeId) (xs ys : Array Value) (len : Nat) (elem : TypeId) (ti : TypeInfo) (ht : P.underlying t = some (.array len elem)) (hi : P.info? elem = some ti) :
    (Op.equalIn (d + 1) t (.agg xs) (.agg ys)).run P w = (eqElems d elem xs ys ti.size (List.range len)).run P w := by
  simp only [Op.equalIn, Sem.run_bind, run_underlying ht, Result.andThen_ok, sizeOf, typeInfo, run_program, hi, Sem.run_pure]
  simp only [Std.Legacy.Range.forIn_eq_forIn_range', Std.Legacy.Range.size, Nat.sub_zero, Nat.add_sub_cancel, Nat.div_one]
  rw [List.range_eq_range']
  generalize List.range' 0 len = l
  clear ht
  induction l generalizing w with
  | nil => simp [eqElems]
  | cons i l ih =>
    simp only [List.forIn_cons, eqElems, Sem.run_bind, Sem.run_ite]
    generalize (part elem xs (i * ti.size)).run P w = r1
    cases r1 with
    | ok a w1 =>
      simp only [Result.andThen_ok]
      generalize (part elem ys (i * ti.size)).run P w1 = r2
      cases r2 with
      | ok b w2 =>
        simp only [Result.andThen_ok]
        generalize (Op.equalIn d elem a b).run P w2 = r3
        cases r3 with
        | ok r w3 =>
          cases r
          · simp only [Result.andThen_ok, Bool.not_false, if_true, Sem.run_pure]
          · simp only [Result.andThen_ok, Bool.not_true, Bool.false_eq_true, if_false, Sem.run_pure]
            exact ih w3
        | halt x w3 => simp [Result.andThen]
      | halt x w2 => simp [Result.andThen]
    | halt x w1 => simp [Result.andThen]

/-- A type whose values are held against each other leaf by leaf. -/
def heldOk (P : Program) : Ty → (TypeId ⊕ List Field) → Bool
  | .leaf k, .inl _ => match k with | .bool => true | .int _ => true | .str => true | _ => false
  | .arr _ e, .inl t => match P.underlying t with | some (.array _ u) => heldOk P e (.inl u) | _ => false
  | .cons a b, .inl t => !P.stoodInHeld t && (match P.underlying t with
    | some (.struct fs) => (match fs.toList with
      | f :: r => heldOk P a (.inl f.type) && heldOk P b (.inr r)
      | [] => false)
    | _ => false)
  | .unit, .inr fs => fs.isEmpty
  | .cons a b, .inr fs => (match fs with
    | f :: r => heldOk P a (.inl f.type) && heldOk P b (.inr r)
    | [] => false)
  | _, _ => false

def Ty.depth : Ty → Nat
  | .leaf _ => 1
  | .arr _ t => t.depth + 1
  | .unit => 1
  | .cons a b => Nat.max (a.depth + 1) b.depth

section
variable {φ : Nat → Option FuncId} {β : Beta} {P : Program} {O : Nat → Prop} {w : World} {look : Id → Option Blk}

theorem AV.eq_arr {n : Nat} {f g : Fin n → AV} : (AV.arr n f).eq (.arr n g) = (List.finRange n).foldr (fun i acc => andEq ((f i).eq (g i)) acc) (some true) := by
  simp [AV.eq]

/-- The elements from one on. -/
theorem eq_elems {n : Nat} {t : Ty} {elem : TypeId} {f g : Fin n → AV} {xs ys : List Value} {d : Nat} {ti : TypeInfo} (ht : tyOk P t (.inl elem) = true) (hs : ti.size = t.size) (hf : ∀ i, t.fits (f i) = true) (hg : ∀ i, t.fits (g i) = true)
    (hx : All2 (LR φ β) (AV.arr n f).flat xs) (hy : All2 (LR φ β) (AV.arr n g).flat ys)
    (ih : ∀ (a b : AV) (va vb : Value) (r : Bool), t.fits a = true → t.fits b = true → VR φ β a va → VR φ β b vb → a.eq b = some r → (Op.equalIn d elem va vb).run P w = .ok r w) :
    ∀ (l : List (Fin n)) (r : Bool), l.foldr (fun i acc => andEq ((f i).eq (g i)) acc) (some true) = some r → (eqElems d elem xs.toArray ys.toArray ti.size (l.map (·.val))).run P w = .ok r w := by
  intro l
  induction l with
  | nil => intro r h; simp at h; subst h; rfl
  | cons i l ihl =>
    intro r h
    simp only [List.foldr_cons] at h
    simp only [List.map_cons, eqElems, Sem.run_bind]
    have h1 := hx.seg (i.val * t.size) t.size
    rw [flat_arr_seg hf i.val i.isLt] at h1
    have h2 := hy.seg (i.val * t.size) t.size
    rw [flat_arr_seg hg i.val i.isLt] at h2
    obtain ⟨va, ha, hva, _⟩ := run_part (w := w) ht (hf i) h1
    obtain ⟨vb, hb, hvb, _⟩ := run_part (w := w) ht (hg i) h2
    rw [hs]
    simp only [ha, hb, Result.andThen_ok]
    cases he : (f i).eq (g i) with
    | none => simp [he, andEq] at h
    | some q =>
      rw [ih _ _ _ _ q (hf i) (hg i) hva hvb he]
      simp only [Result.andThen_ok]
      cases q with
      | false => simp [he, andEq] at h; subst h; simp
      | true =>
        simp [he, andEq] at h
        simp only [Bool.not_true, Bool.false_eq_true, if_false]
        have := ihl r h
        rw [hs] at this
        exact this

theorem eq_fields {xs ys : List Value} {d : Nat} : ∀ {t : Ty} {fs : List Field} {o : Nat} {a b : AV} {r : Bool}, tyOk P t (.inr (fs, o)) = true → heldOk P t (.inr fs) = true → t.fits a = true → t.fits b = true →
    All2 (LR φ β) a.flat ((xs.drop o).take t.size) → All2 (LR φ β) b.flat ((ys.drop o).take t.size) → t.depth ≤ d + 1 → a.eq b = some r →
    (∀ (u : Ty) (T : TypeId), u.depth ≤ d → tyOk P u (.inl T) = true → heldOk P u (.inl T) = true → ∀ (a b : AV) (va vb : Value) (r : Bool), u.fits a = true → u.fits b = true → VR φ β a va → VR φ β b vb → a.eq b = some r → (Op.equalIn d T va vb).run P w = .ok r w) →
    (Op.eqFields d xs.toArray ys.toArray fs).run P w = .ok r w := by
  intro t
  induction t with
  | leaf k => intro fs o a b r h; simp [tyOk] at h
  | arr n e _ => intro fs o a b r h; simp [tyOk] at h
  | unit =>
    intro fs o a b r h _ ha hb _ _ _ he _
    simp [tyOk] at h
    subst h
    cases a <;> simp [Ty.fits] at ha
    cases b <;> simp [Ty.fits] at hb
    simp [AV.eq] at he
    subst he
    rfl
  | cons ta tb iha ihb =>
    intro fs o a b r h hh ha hb hxa hyb hd he ih
    cases fs with
    | nil => simp [tyOk] at h
    | cons f fs =>
      simp [tyOk] at h
      obtain ⟨⟨⟨⟨h1, h2⟩, h3⟩, h4⟩, h5⟩ := h
      simp only [heldOk, Bool.and_eq_true] at hh
      cases a <;> simp [Ty.fits] at ha
      cases b <;> simp [Ty.fits] at hb
      rename_i a1 a2 b1 b2
      have hla := Ty.fits_length ha.1
      have hlb := Ty.fits_length hb.1
      have sp : ∀ (xs : List Value) (c1 c2 : AV), c1.flat.length = ta.size → All2 (LR φ β) (AV.cons c1 c2).flat ((xs.drop o).take (ta.size + tb.size)) →
          All2 (LR φ β) c1.flat ((xs.drop o).take ta.size) ∧ All2 (LR φ β) c2.flat ((xs.drop (o + ta.size)).take tb.size) := by
        intro xs c1 c2 hl hc
        have e1 := hc.seg 0 ta.size
        have e2 := hc.seg ta.size tb.size
        simp only [AV.flat, List.drop_zero, List.take_append_of_le_length (Nat.le_of_eq hl.symm), List.take_of_length_le (Nat.le_of_eq hl), List.take_take, Nat.min_eq_left (Nat.le_add_right _ _)] at e1
        have hlen := hc.1
        simp only [AV.flat, List.length_append, List.length_take, List.length_drop] at hlen
        refine ⟨e1, ?_⟩
        have e3 : (AV.cons c1 c2).flat.drop ta.size = c2.flat := by simp [AV.flat, ← hl]
        rw [e3] at e2
        have e4 : ((xs.drop o).take (ta.size + tb.size)).drop ta.size = (xs.drop (o + ta.size)).take tb.size := by
          rw [List.drop_take, List.drop_drop]; congr 1; omega
        rw [e4] at e2
        simp only [List.take_take, Nat.min_self] at e2
        have hl2 : c2.flat.length ≤ tb.size := by omega
        rw [List.take_of_length_le hl2] at e2
        exact e2
      obtain ⟨hx1, hx2⟩ := sp xs a1 a2 hla (by simpa [Ty.size] using hxa)
      obtain ⟨hy1, hy2⟩ := sp ys b1 b2 hlb (by simpa [Ty.size] using hyb)
      obtain ⟨va, hva, hra, _⟩ := run_part (w := w) h4 ha.1 hx1
      obtain ⟨vb, hvb, hrb, _⟩ := run_part (w := w) h4 hb.1 hy1
      have hdp : ta.depth + 1 ≤ d + 1 ∧ tb.depth ≤ d + 1 := by
        simp only [Ty.depth] at hd
        exact ⟨Nat.le_trans (Nat.le_max_left _ _) hd, Nat.le_trans (Nat.le_max_right _ _) hd⟩
      simp only [Op.eqFields, if_pos h2, Sem.run_bind, ne_eq, h2, not_false_eq_true, if_true]
      rw [h1, hva]
      simp only [Result.andThen_ok, hvb]
      simp only [AV.eq] at he
      cases hq : a1.eq b1 with
      | none => simp [hq, andEq] at he
      | some q =>
        rw [ih ta f.type (by omega) h4 hh.1 a1 b1 va vb q ha.1 hb.1 hra hrb hq]
        simp only [Result.andThen_ok]
        cases q with
        | false => simp [hq, andEq] at he; subst he; simp
        | true =>
          simp [hq, andEq] at he
          simp only [Bool.not_true, Bool.false_eq_true, if_false]
          exact ihb h5 hh.2 ha.2 hb.2 hx2 hy2 hdp.2 he ih

theorem VR_agg_cells {t : Ty} {v : AV} {x : Value} (hf : t.fits v = true) (ha : t.isAgg = true) (h : VR φ β v x) : ∃ cs : List Value, x = .agg cs.toArray ∧ All2 (LR φ β) v.flat cs := by
  obtain ⟨hc, _, hagg, _⟩ := cells_of_VR hf h
  exact ⟨x.cells.toList, by simpa using hagg ha, hc⟩

theorem eq_sound : ∀ (d : Nat) (t : Ty) (T : TypeId), t.depth ≤ d → tyOk P t (.inl T) = true → heldOk P t (.inl T) = true → ∀ (a b : AV) (va vb : Value) (r : Bool), t.fits a = true → t.fits b = true → VR φ β a va → VR φ β b vb → a.eq b = some r →
    (Op.equalIn d T va vb).run P w = .ok r w := by
  intro d
  induction d with
  | zero => intro t T hd; exact absurd hd (by cases t <;> simp [Ty.depth])
  | succ d ih =>
    intro t T hd ht hh a b va vb r ha hb hva hvb he
    cases t with
    | leaf k =>
      simp only [tyOk, Bool.and_eq_true] at ht
      cases hu : P.underlying T with
      | none => simp [hu] at ht
      | some de =>
        simp only [hu] at ht
        cases k <;> simp [heldOk] at hh
        · cases a <;> simp [Ty.fits, LK.fits] at ha
          cases b <;> simp [Ty.fits, LK.fits] at hb
          cases de <;> simp [LK.desc] at ht
          rw [LR_bool hva, LR_bool hvb]
          simp [AV.eq] at he
          rw [run_equalIn_bool' w d T _ _ hu, ← he]
        · cases a <;> simp [Ty.fits, LK.fits] at ha
          cases b <;> simp [Ty.fits, LK.fits] at hb
          cases de <;> simp [LK.desc] at ht
          rw [LR_int hva, LR_int hvb]
          obtain ⟨rfl, _⟩ := ha
          obtain ⟨rfl, _⟩ := hb
          simp [AV.eq] at he
          rw [run_equalIn_int w d T _ _ _ _ hu, ← he]
        · cases a <;> simp [Ty.fits, LK.fits] at ha
          cases b <;> simp [Ty.fits, LK.fits] at hb
          cases de <;> simp [LK.desc] at ht
          rw [LR_str hva, LR_str hvb]
          simp [AV.eq] at he
          rw [run_equalIn_string w d T _ _ hu, ← beq_toListBytes, he]
    | unit => simp [tyOk] at ht
    | arr n e =>
      obtain ⟨u, hu, he'⟩ := tyOk_array ht
      obtain ⟨ti, hti, htis⟩ := tyOk_size he'
      simp only [heldOk, hu] at hh
      obtain ⟨xs, rfl, hx⟩ := VR_agg_cells ha rfl hva
      obtain ⟨ys, rfl, hy⟩ := VR_agg_cells hb rfl hvb
      cases a <;> simp only [Ty.fits] at ha <;> try (simp at ha; done)
      cases b <;> simp only [Ty.fits] at hb <;> try (simp at hb; done)
      rename_i m f m' g
      simp at ha hb
      obtain ⟨rfl, ha⟩ := ha
      obtain ⟨rfl, hb⟩ := hb
      rw [AV.eq_arr] at he
      rw [run_equalIn_array w d T _ _ n u ti hu hti]
      have := eq_elems (w := w) (d := d) he' htis ha hb hx hy (fun a b va vb r h1 h2 h3 h4 h5 => ih e u (by simp [Ty.depth] at hd; omega) he' hh a b va vb r h1 h2 h3 h4 h5) (List.finRange n) r he
      have em : (List.finRange n).map (·.val) = List.range n := by
        apply List.ext_getElem?; intro k
        rcases Nat.lt_or_ge k n with h | h
        · simp [List.getElem?_map, h, List.getElem?_eq_getElem]
        · rw [List.getElem?_eq_none (by simpa using h), List.getElem?_eq_none (by simpa using h)]
      rw [em] at this
      exact this
    | cons ta tb =>
      obtain ⟨xs, rfl, hx⟩ := VR_agg_cells ha rfl hva
      obtain ⟨ys, rfl, hy⟩ := VR_agg_cells hb rfl hvb
      have hlx := hx.1
      have hly := hy.1
      have hla := Ty.fits_length ha
      have hlb := Ty.fits_length hb
      simp only [heldOk, Bool.and_eq_true] at hh
      have h' := ht
      simp only [tyOk, Bool.and_eq_true] at h'
      cases hu : P.underlying T with
      | none => simp [hu] at h'
      | some de =>
        simp only [hu] at h' hh
        cases de <;> simp at h'
        rename_i fs
        have h2 : tyOk P (.cons ta tb) (.inr (fs.toList, 0)) = true := by
          cases hl : fs.toList with
          | nil => simp [hl] at h'
          | cons f r => simp [hl] at h'; simp [tyOk]; simpa using h'.1
        have h3 : heldOk P (.cons ta tb) (.inr fs.toList) = true := by
          have := hh.2
          cases hl : fs.toList with
          | nil => simp [hl] at this
          | cons f r => simp [hl] at this; simp [heldOk, this]
        have hfo : P.fieldsOf T = fs := by simp [Program.fieldsOf, hu]
        rw [run_equalIn_struct w d T _ _ (by rw [hfo]; exact hu) (by simpa using hh.1), hfo]
        exact eq_fields (w := w) h2 h3 ha hb (by rw [List.drop_zero, List.take_of_length_le (by omega)]; exact hx) (by rw [List.drop_zero, List.take_of_length_le (by omega)]; exact hy) hd he
          fun u U hud h1 h2 a b va vb r => ih u U hud h1 h2 a b va vb r
end
end Go.Mini
