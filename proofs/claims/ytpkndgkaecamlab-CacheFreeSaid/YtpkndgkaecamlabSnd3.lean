/- A part of the proof: Snd3. -/
import Derived.Test.YtpkndgkaecamlabSnd2
namespace Go.Mini
open Go.RowKit

def LK.desc : LK → TypeDesc → Bool
  | .bool, .bool => true
  | .int k, .int k' => k == k'
  | .str, .string => true
  | .ptr, .pointer _ => true
  | .slice, .slice _ => true
  | .func, .func .. => true
  | _, _ => false

def zeroOk : AV → Value → Bool
  | .bool b, .bool c => b == c
  | .int k n, .int k' m => k == k' && n == m
  | .str s, .string u => s.data == u.data
  | .nilp, .pointer none => true
  | .nilsl, .slice none 0 0 => true
  | .nilf, .nilFunc => true
  | _, _ => false

def zerosOk : List AV → List Value → Bool
  | [], [] => true
  | a :: l, x :: m => zeroOk a x && zerosOk l m
  | _, _ => false

def infoOk (P : Program) (ty : Ty) (t : TypeId) : Bool :=
  match P.info? t with
  | some i => i.size == ty.size && (match i.zero with
    | some z => (match ty with
      | .leaf k => zeroOk k.zero z
      | ty => (match z with | .agg cs => zerosOk ty.zero.flat cs.toList | _ => false))
    | none => false)
  | none => false

/-- Is the program's type of that shape? Of a struct's fields: they lie one behind the other from a cell on. -/
def tyOk (P : Program) : Ty → (TypeId ⊕ (List Field × Nat)) → Bool
  | .leaf k, .inl t => (match P.underlying t with | some d => k.desc d | none => false) && infoOk P (.leaf k) t
  | .arr n e, .inl t => (match P.underlying t with | some (.array m u) => m == n && tyOk P e (.inl u) | _ => false) && infoOk P (.arr n e) t
  | .cons a b, .inl t => (match P.underlying t with
    | some (.struct fs) => (match fs.toList with
      | f :: r => f.offset == 0 && f.name != "_" && a.size != 0 && tyOk P a (.inl f.type) && tyOk P b (.inr (r, a.size))
      | [] => false)
    | _ => false) && infoOk P (.cons a b) t
  | .unit, .inr (fs, _) => fs.isEmpty
  | .cons a b, .inr (fs, o) => (match fs with
    | f :: r => f.offset == o && f.name != "_" && a.size != 0 && tyOk P a (.inl f.type) && tyOk P b (.inr (r, o + a.size))
    | [] => false)
  | _, _ => false

theorem tyOk_info {P : Program} {ty : Ty} {t : TypeId} (h : tyOk P ty (.inl t) = true) : infoOk P ty t = true := by
  cases ty <;> simp [tyOk] at h <;> exact h.2

theorem tyOk_size {P : Program} {ty : Ty} {t : TypeId} (h : tyOk P ty (.inl t) = true) : ∃ i, P.info? t = some i ∧ i.size = ty.size := by
  have h := tyOk_info h
  unfold infoOk at h
  cases hi : P.info? t with
  | none => simp [hi] at h
  | some i => simp [hi] at h; exact ⟨i, rfl, h.1⟩

theorem tyOk_isAgg {P : Program} {ty : Ty} {t : TypeId} (h : tyOk P ty (.inl t) = true) (w : World) : (isAgg t).run P w = .ok ty.isAgg w := by
  cases ty with
  | leaf k =>
    simp only [tyOk, Bool.and_eq_true] at h
    cases hu : P.underlying t with
    | none => simp [hu] at h
    | some d =>
      simp only [hu] at h
      unfold isAgg
      rw [Sem.run_bind, run_underlying hu w]
      cases k <;> cases d <;> simp_all [LK.desc, Ty.isAgg]
  | arr n e =>
    simp only [tyOk, Bool.and_eq_true] at h
    cases hu : P.underlying t with
    | none => simp [hu] at h
    | some d =>
      simp only [hu] at h
      unfold isAgg
      rw [Sem.run_bind, run_underlying hu w]
      cases d <;> simp_all [Ty.isAgg]
  | cons a b =>
    simp only [tyOk, Bool.and_eq_true] at h
    cases hu : P.underlying t with
    | none => simp [hu] at h
    | some d =>
      simp only [hu] at h
      unfold isAgg
      rw [Sem.run_bind, run_underlying hu w]
      cases d <;> simp_all [Ty.isAgg]
  | unit => simp [tyOk] at h

theorem tyOk_array {P : Program} {n : Nat} {e : Ty} {t : TypeId} (h : tyOk P (.arr n e) (.inl t) = true) : ∃ u, P.underlying t = some (.array n u) ∧ tyOk P e (.inl u) = true := by
  simp only [tyOk, Bool.and_eq_true] at h
  cases hu : P.underlying t with
  | none => simp [hu] at h
  | some d =>
    simp only [hu] at h
    cases d <;> simp at h
    exact ⟨_, by rw [h.1.1], h.1.2⟩

theorem tyOk_fields {P : Program} : ∀ {ty : Ty} {fs : List Field} {o : Nat} {i : Nat} {ft : Ty}, tyOk P ty (.inr (fs, o)) = true → ty.field i = some ft →
    ∃ f off, fs[i]? = some f ∧ f.offset = o + off ∧ ty.find [i] = some (off, ft) ∧ tyOk P ft (.inl f.type) = true ∧ ft.size ≠ 0 ∧ f.name ≠ "_" := by
  intro ty
  induction ty with
  | leaf k => intro fs o i ft h; simp [tyOk] at h
  | arr n e _ => intro fs o i ft h; simp [tyOk] at h
  | unit => intro fs o i ft h hf; simp [Ty.field] at hf
  | cons a b iha ihb =>
    intro fs o i ft h hf
    cases fs with
    | nil => simp [tyOk] at h
    | cons f r =>
      simp [tyOk] at h
      obtain ⟨⟨⟨⟨h1, h2⟩, h3⟩, h4⟩, h5⟩ := h
      cases i with
      | zero =>
        simp [Ty.field] at hf
        subst hf
        exact ⟨f, 0, rfl, by simpa using h1, by simp [Ty.find], h4, h3, h2⟩
      | succ i =>
        simp only [Ty.field] at hf
        obtain ⟨g, off, hg, ho, hfi, hr⟩ := ihb h5 hf
        refine ⟨g, a.size + off, by simpa using hg, by omega, ?_, hr⟩
        simp only [Ty.find, hfi, Option.map_some]

theorem tyOk_struct {P : Program} {ty : Ty} {t : TypeId} {i : Nat} {ft : Ty} (h : tyOk P ty (.inl t) = true) (hf : ty.field i = some ft) :
    ∃ fs f off, P.underlying t = some (.struct fs) ∧ fs[i]? = some f ∧ f.offset = off ∧ ty.find [i] = some (off, ft) ∧ tyOk P ft (.inl f.type) = true ∧ ft.size ≠ 0 ∧ tyOk P ty (.inr (fs.toList, 0)) = true := by
  cases ty with
  | leaf k => simp [Ty.field] at hf
  | arr n e => simp [Ty.field] at hf
  | unit => simp [Ty.field] at hf
  | cons a b =>
    simp only [tyOk, Bool.and_eq_true] at h
    cases hu : P.underlying t with
    | none => simp [hu] at h
    | some d =>
      simp only [hu] at h
      cases d <;> simp at h
      rename_i fs
      have h' : tyOk P (.cons a b) (.inr (fs.toList, 0)) = true := by
        cases hl : fs.toList with
        | nil => simp [hl] at h
        | cons f r => simp [hl] at h; simp [tyOk]; simpa using h.1
      obtain ⟨f, off, hg, ho, hfi, hr, hs, _⟩ := tyOk_fields h' hf
      exact ⟨fs, f, off, rfl, by simpa using hg, by omega, hfi, hr, hs, h'⟩

section
variable {φ : Nat → Option FuncId} {β : Beta} {P : Program}

theorem zeroOk_LR {a : AV} {x : Value} (h : zeroOk a x = true) : LR φ β a x := by
  unfold zeroOk at h
  split at h
  · simp at h; subst h; rfl
  · simp at h; obtain ⟨rfl, rfl⟩ := h; rfl
  · rename_i s u
    obtain ⟨⟨s⟩⟩ := s
    obtain ⟨⟨u⟩⟩ := u
    simp at h
    subst h
    rfl
  · rfl
  · rfl
  · rfl
  · simp at h

theorem zerosOk_All2 : ∀ {l : List AV} {m : List Value}, zerosOk l m = true → All2 (LR φ β) l m
  | [], [], _ => All2.nil
  | [], _ :: _, h => by simp [zerosOk] at h
  | _ :: _, [], h => by simp [zerosOk] at h
  | a :: l, x :: m, h => by
    simp [zerosOk] at h
    exact All2.cons (zeroOk_LR h.1) (zerosOk_All2 h.2)

theorem zero_fits {t : Ty} : t.fits t.zero = true := by
  induction t with
  | leaf k => cases k <;> simp [Ty.fits, Ty.zero, LK.zero, LK.fits, AV.safe]
  | arr n t ih => simp [Ty.fits, Ty.zero, ih]
  | unit => rfl
  | cons a b iha ihb => simp [Ty.fits, Ty.zero, iha, ihb]

theorem tyOk_zero {ty : Ty} {t : TypeId} (h : tyOk P ty (.inl t) = true) (w : World) : ∃ z, (zeroValue t).run P w = .ok z w ∧ All2 (LR φ β) ty.zero.flat z.cells.toList := by
  have h' := tyOk_info h
  unfold infoOk at h'
  cases hi : P.info? t with
  | none => simp [hi] at h'
  | some i =>
    simp only [hi, Bool.and_eq_true] at h'
    cases hz : i.zero with
    | none => simp [hz] at h'
    | some z =>
      refine ⟨z, by simp [zeroValue, typeInfo, hi, hz], ?_⟩
      simp only [hz] at h'
      cases ty with
      | leaf k =>
        have hf := LK.fits_flat (k := k) (v := k.zero) (by cases k <;> simp [LK.fits, LK.zero])
        have hc : z.cells = #[z] := by
          have := h'.2
          cases k <;> cases z <;> simp_all [zeroOk, LK.zero, Value.cells]
        simp only [Ty.zero, hf.1, hc]
        exact All2.cons (zeroOk_LR h'.2) All2.nil
      | unit => simp [tyOk] at h
      | arr n e =>
        obtain ⟨_, h2⟩ := h'
        cases z <;> simp at h2
        exact zerosOk_All2 h2
      | cons a b =>
        obtain ⟨_, h2⟩ := h'
        cases z <;> simp at h2
        exact zerosOk_All2 h2
end
end Go.Mini
