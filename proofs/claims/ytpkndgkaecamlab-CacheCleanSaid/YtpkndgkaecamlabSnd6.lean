/- A part of the proof: Snd6. -/
import Derived.Test.YtpkndgkaecamlabSnd5
namespace Go.Mini
open Go.RowKit
set_option linter.unusedSimpArgs false
set_option linter.unusedVariables false

section
variable {φ : Nat → Option FuncId} {β : Beta} {P : Program} {O : Nat → Prop} {w : World} {look : Id → Option Blk}

theorem foldl_set_list (off : Nat) : ∀ (xs : List Value) (k : Nat) (cs : Array Value) (m : Nat),
    ((xs.zipIdx k).foldl (fun (cs : Array Value) (p : Value × Nat) => cs.setIfInBounds (off + p.2) p.1) cs).size = cs.size ∧
    (off + k + xs.length ≤ cs.size → ((xs.zipIdx k).foldl (fun (cs : Array Value) (p : Value × Nat) => cs.setIfInBounds (off + p.2) p.1) cs)[m]? =
      if off + k ≤ m ∧ m < off + k + xs.length then xs[m - (off + k)]? else cs[m]?)
  | [], k, cs, m => by simp; intro _ h1 h2; omega
  | x :: xs, k, cs, m => by
    simp only [List.zipIdx_cons, List.foldl_cons]
    obtain ⟨h1, h2⟩ := foldl_set_list off xs (k + 1) (cs.setIfInBounds (off + k) x) m
    refine ⟨by simpa using h1, fun hl => ?_⟩
    rw [h2 (by rw [Array.size_setIfInBounds]; simp at hl; omega)]
    simp only [List.length_cons] at hl ⊢
    by_cases hm : off + (k + 1) ≤ m ∧ m < off + (k + 1) + xs.length
    · rw [if_pos hm, if_pos (by omega)]
      rw [show m - (off + k) = (m - (off + (k + 1))) + 1 by omega]
      simp
    · rw [if_neg hm]
      by_cases hk : m = off + k
      · subst hk
        rw [if_pos (by omega)]
        simp [Array.getElem?_setIfInBounds]
        omega
      · rw [if_neg (by omega)]
        simp [Array.getElem?_setIfInBounds, Ne.symm hk]

theorem part_find {t u : Ty} {i : Nat} (h : t.part i = some u) : ∃ off, t.find [i] = some (off, u) := by
  induction t generalizing i with
  | leaf k => simp [Ty.part] at h
  | unit => simp [Ty.part] at h
  | arr n e _ => simp only [Ty.part] at h; split at h <;> simp at h; subst h; exact ⟨i * e.size, by simp [Ty.find, *]⟩
  | cons a b _ ihb =>
    cases i with
    | zero => simp [Ty.part] at h; subst h; exact ⟨0, by simp [Ty.find]⟩
    | succ i =>
      simp only [Ty.part] at h
      obtain ⟨off, ho⟩ := ihb h
      exact ⟨a.size + off, by simp only [Ty.find, ho, Option.map_some]⟩

theorem fill_sound {t : Ty} {place : Nat → Option (Nat × Nat)} (hp : ∀ i u, t.part i = some u → ∃ off, t.find [i] = some (off, u) ∧ place i = some (off, u.size)) :
    ∀ (l : List (Nat × AV)) (xs : List (Nat × Value)) (v r : AV) (cs : Array Value), All2 (fun a b => a.1 = b.1 ∧ VR φ β a.2 b.2) l xs → t.fits v = true → All2 (LR φ β) v.flat cs.toList → fill t v l = some r →
      ∃ cs', Instr.fill place cs xs = some cs' ∧ All2 (LR φ β) r.flat cs'.toList ∧ t.fits r = true := by
  intro l
  induction l with
  | nil =>
    intro xs v r cs hx hv hc h
    have : xs = [] := by have := hx.1; simp at this; exact List.length_eq_zero_iff.1 this.symm
    subst this
    simp [fill] at h
    subst h
    exact ⟨cs, rfl, hc, hv⟩
  | cons a l ih =>
    intro xs v r cs hx hv hc h
    cases xs with
    | nil => have := hx.1; simp at this
    | cons b xs =>
      obtain ⟨i, av⟩ := a
      obtain ⟨j, x⟩ := b
      obtain ⟨hij, hVR⟩ := hx.head
      simp only at hij hVR
      subst hij
      simp only [fill] at h
      cases hpt : t.part i with
      | none => simp [hpt] at h
      | some u =>
        simp only [hpt] at h
        split at h
        · rename_i hfx
          cases hput : v.put [i] av with
          | none => simp [hput] at h
          | some w' =>
            simp only [hput] at h
            obtain ⟨off, hfind, hpl⟩ := hp i u hpt
            obtain ⟨hfw, hflat⟩ := Ty.fits_put hv hfind hfx hput
            obtain ⟨hcx, _, _, _⟩ := cells_of_VR hfx hVR
            have hsz := Ty.find_size hfind
            have hlx := Ty.fits_length hfx
            have hlv := Ty.fits_length hv
            have hlw := Ty.fits_length hfw
            have hcl := hc.1
            have hxl := hcx.1
            have hcs : cs.size = t.size := by rw [← hlv, hcl]; simp
            have hxs : x.cells.size = u.size := by rw [← hlx, hxl]; simp
            have hfs := fun m => foldl_set_list off x.cells.toList 0 cs m
            have hfold : (Array.foldl (fun (cs : Array Value) (x : Value × Nat) => cs.setIfInBounds (off + x.2) x.1) cs x.cells.zipIdx) =
                (x.cells.toList.zipIdx 0).foldl (fun (cs : Array Value) (p : Value × Nat) => cs.setIfInBounds (off + p.2) p.1) cs := by
              rw [← Array.foldl_toList]; simp
            obtain ⟨cs', h1, h2, h3⟩ := ih xs w' r ((x.cells.toList.zipIdx 0).foldl (fun (cs : Array Value) (p : Value × Nat) => cs.setIfInBounds (off + p.2) p.1) cs) hx.tail hfw
              ⟨by simp only [Array.length_toList, (hfs 0).1]; omega, fun k c y hk hy => by
                rw [hflat] at hk
                simp only [Array.getElem?_toList] at hy
                rw [(hfs k).2 (by simp; omega)] at hy
                simp only [Nat.add_zero, Array.length_toList] at hy
                by_cases hin : off ≤ k ∧ k < off + u.size
                · rw [if_pos hin] at hk
                  rw [if_pos (by omega)] at hy
                  exact hcx.2 (k - off) c y hk hy
                · rw [if_neg hin] at hk
                  rw [if_neg (by omega)] at hy
                  exact hc.2 k c y hk (by simpa using hy)⟩ h
            refine ⟨cs', ?_, h2, h3⟩
            simp only [Instr.fill, hpl, hxs, ne_eq, not_true_eq_false, decide_false, Bool.false_or, hcs]
            rw [if_neg (by simp; omega), hfold]
            exact h1
        · simp at h

theorem mapM_places {P : Program} : ∀ {ty : Ty} {fs : List Field} {o : Nat}, tyOk P ty (.inr (fs, o)) = true →
    ∃ pl, fs.mapM (fun f => (P.info? f.type).map fun i => (f.offset, i.size)) = some pl ∧ ∀ i u, ty.part i = some u → ∃ off, ty.find [i] = some (off, u) ∧ pl[i]? = some (o + off, u.size) := by
  intro ty
  induction ty with
  | leaf k => intro fs o h; simp [tyOk] at h
  | arr n e _ => intro fs o h; simp [tyOk] at h
  | unit =>
    intro fs o h
    simp [tyOk] at h
    subst h
    exact ⟨[], rfl, fun i u h => by simp [Ty.part] at h⟩
  | cons a b _ ihb =>
    intro fs o h
    cases fs with
    | nil => simp [tyOk] at h
    | cons f r =>
      simp [tyOk] at h
      obtain ⟨⟨⟨⟨h1, h2⟩, h3⟩, h4⟩, h5⟩ := h
      obtain ⟨pl, hpl, hq⟩ := ihb h5
      obtain ⟨ti, hti, htis⟩ := tyOk_size h4
      refine ⟨(f.offset, ti.size) :: pl, by simp [List.mapM_cons, hti, hpl], fun i u h => ?_⟩
      cases i with
      | zero => simp [Ty.part] at h; subst h; exact ⟨0, by simp [Ty.find], by simp [h1, htis]⟩
      | succ i =>
        simp only [Ty.part] at h
        obtain ⟨off, hf, hg⟩ := hq i u h
        refine ⟨a.size + off, by simp only [Ty.find, hf, Option.map_some], ?_⟩
        simp only [List.getElem?_cons_succ, hg, Nat.add_assoc]

theorem tyOk_zero_info {ty : Ty} {t : TypeId} (h : tyOk P ty (.inl t) = true) : ∃ i z, P.info? t = some i ∧ i.zero = some z ∧ All2 (LR φ β) ty.zero.flat z.cells.toList := by
  obtain ⟨z, hz, hc⟩ := tyOk_zero (φ := φ) (β := β) h default
  obtain ⟨i, hi, _⟩ := tyOk_size h
  refine ⟨i, z, hi, ?_, hc⟩
  simp only [zeroValue, typeInfo, Sem.run_bind, run_program, Result.andThen_ok, hi, Sem.run_pure] at hz
  cases hzz : i.zero with
  | none => simp [hzz, unsupported, Sem.run] at hz
  | some z' => simp [hzz] at hz; rw [hz]

theorem run_build_sound {t : Ty} {T : TypeId} {l : List (Nat × AV)} {xs : List (Nat × Value)} {r : AV} (ht : tyOk P t (.inl T) = true) (ha : t.isAgg = true) (hx : All2 (fun a b => a.1 = b.1 ∧ VR φ β a.2 b.2) l xs)
    (h : fill t t.zero l = some r) : ∃ y, (Instr.build T xs.toArray).run P w = .ok y w ∧ VR φ β r y := by
  obtain ⟨i, z, hi, hz, hc⟩ := tyOk_zero_info (φ := φ) (β := β) ht
  have key : ∃ cs', P.built T xs = some cs' ∧ All2 (LR φ β) r.flat cs'.toList ∧ t.fits r = true := by
    unfold Program.built
    cases t with
    | leaf k => simp [Ty.isAgg] at ha
    | unit => simp [tyOk] at ht
    | arr n e =>
      obtain ⟨u, hu, he⟩ := tyOk_array ht
      obtain ⟨ti, hti, htis⟩ := tyOk_size he
      simp only [hi, hu, hz, hti]
      exact fill_sound (t := .arr n e) (place := fun i => some (i * ti.size, ti.size)) (fun j v hj => by
        simp only [Ty.part] at hj
        split at hj <;> simp at hj
        subst hj
        exact ⟨j * e.size, by simp [Ty.find, *], by simp [htis]⟩) l xs _ r z.cells hx zero_fits hc h
    | cons a b =>
      have h' := ht
      simp only [tyOk, Bool.and_eq_true] at h'
      cases hu : P.underlying T with
      | none => simp [hu] at h'
      | some d =>
        simp only [hu] at h'
        cases d <;> simp at h'
        rename_i fs
        have h2 : tyOk P (.cons a b) (.inr (fs.toList, 0)) = true := by
          cases hl : fs.toList with
          | nil => simp [hl] at h'
          | cons f r => simp [hl] at h'; simp [tyOk]; simpa using h'.1
        obtain ⟨pl, hpl, hq⟩ := mapM_places h2
        simp only [hi, hz, hpl]
        exact fill_sound (t := .cons a b) (place := fun i => pl.toArray[i]?) (fun j v hj => by
          obtain ⟨off, hf, hg⟩ := hq j v hj
          exact ⟨off, hf, by simpa using hg⟩) l xs _ r z.cells hx zero_fits hc h
  obtain ⟨cs', hb, hc', hf⟩ := key
  refine ⟨.agg cs', run_build w T xs.toArray cs' (by simpa using hb), ?_⟩
  have := VR1_of_cells hf ha hc'
  simpa using this
end
end Go.Mini
