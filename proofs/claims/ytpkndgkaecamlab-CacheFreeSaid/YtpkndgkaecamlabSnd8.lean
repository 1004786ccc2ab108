/- A part of the proof: Snd8. -/
import Derived.Test.YtpkndgkaecamlabSlA
namespace Go.Mini
open Go.RowKit
set_option linter.unusedSimpArgs false
set_option linter.unusedVariables false

section
variable {φ : Nat → Option FuncId} {β : Beta} {P : Program} {O : Nat → Prop} {w : World} {look : Id → Option Blk}

def opdOk (φ : Nat → Option FuncId) : Operand → Opd → Bool
  | .tmp t, .s u => t == u
  | .const v, .c a => zeroOk a v
  | .func F, .f n => φ n == some F
  | _, _ => false

def opdsOk (φ : Nat → Option FuncId) : List Operand → List Opd → Bool
  | [], [] => true
  | x :: xs, y :: ys => opdOk φ x y && opdsOk φ xs ys
  | _, _ => false

def partsOk (φ : Nat → Option FuncId) : List (Nat × Operand) → List (Nat × Opd) → Bool
  | [], [] => true
  | (i, x) :: xs, (j, y) :: ys => i == j && opdOk φ x y && partsOk φ xs ys
  | _, _ => false

def optOk (φ : Nat → Option FuncId) : Option Operand → Option Opd → Bool
  | none, none => true
  | some x, some y => opdOk φ x y
  | _, _ => false

def eqTy (P : Program) (t : Ty) (T : TypeId) : Bool :=
  match t with
  | .leaf .bool => (match P.underlying T with | some .bool => true | _ => false)
  | .leaf .ptr => (match P.underlying T with | some (.pointer e) => (match P.info? e with | some i => i.size != 0 | none => false) | _ => false)
  | .leaf .slice => (match P.underlying T with | some (.slice _) => true | _ => false)
  | .leaf _ => false
  | t => tyOk P t (.inl T) && heldOk P t (.inl T) && !P.eqGuardType P.depth T && decide (t.depth ≤ 10000)

def sliceOf (P : Program) (t : Ty) (T : TypeId) : Bool :=
  match P.underlying T with
  | some (.slice e) => tyOk P t (.inl e)
  | _ => false

def lenTy (P : Program) (str : Bool) (T : TypeId) : Bool :=
  match str, P.underlying T with
  | true, some .string => true
  | false, some (.slice _) => true
  | _, _ => false

def smallElem (P : Program) (T : TypeId) : Bool :=
  match P.underlying T with
  | some (.slice e) => (match P.info? e with | some i => decide (i.bytes ≤ 65536) | none => false)
  | _ => false

theorem lenTy_slice {T : TypeId} (h : lenTy P false T = true) : ∃ e, P.underlying T = some (.slice e) := by
  unfold lenTy at h
  cases hu : P.underlying T with
  | none => simp [hu] at h
  | some d => cases d <;> simp [hu] at h; exact ⟨_, rfl⟩
theorem lenTy_str {T : TypeId} (h : lenTy P true T = true) : P.underlying T = some .string := by
  unfold lenTy at h
  cases hu : P.underlying T with
  | none => simp [hu] at h
  | some d => cases d <;> simp [hu] at h; rfl

/-- Is that the operation? -/
def matchK (P : Program) (φ : Nat → Option FuncId) (o : Op) (k : MK) : Bool :=
  match o, k with
  | .move x, .mov y => opdOk φ x y
  | .assign x, .mov y => opdOk φ x y
  | .pick c a b, .pick c' a' b' => opdOk φ c c' && opdOk φ a a' && opdOk φ b b'
  | .binOp op _ x y _, .bin op' x' y' => op == op' && opdOk φ x x' && opdOk φ y y'
  | .binOp op T x y _, .eq neg t x' y' => op == (if neg then .neq else .eql) && opdOk φ x x' && opdOk φ y y' && eqTy P t T
  | .unOp op _ x, .un op' x' => op == op' && opdOk φ x x'
  | .alloc T, .alloc _ t => tyOk P t (.inl T)
  | .box T x, .box _ t x' => tyOk P t (.inl T) && opdOk φ x x'
  | .build T ps, .build t ps' => tyOk P t (.inl T) && t.isAgg && partsOk φ ps.toList ps'
  | .load T x, .load _ _ t x' => tyOk P t (.inl T) && opdOk φ x x'
  | .store T x v, .store t _ x' v' => tyOk P t (.inl T) && opdOk φ x x' && opdOk φ v v'
  | .nilCheck x, .nilck x' => opdOk φ x x'
  | .fieldAddr T x i, .fld st i' _ x' => tyOk P st (.inl T) && i == i' && opdOk φ x x'
  | .indexAddr T x i, .idx n t x' i' => tyOk P (.arr n t) (.inl T) && opdOk φ x x' && opdOk φ i i'
  | .indexAddr T x i, .sidx _ t x' i' => sliceOf P t T && opdOk φ x x' && opdOk φ i i'
  | .index T x i, .aidx n t x' i' => tyOk P (.arr n t) (.inl T) && opdOk φ x x' && opdOk φ i i'
  | .index T x i, .stridx x' i' => (match P.underlying T with | some .string => true | _ => false) && opdOk φ x x' && opdOk φ i i'
  | .field T x i, .field t x' i' => tyOk P t (.inl T) && i == i' && opdOk φ x x'
  | .extract x i, .ext x' i' => i == i' && opdOk φ x x'
  | .convert s d x, .conv k x' => (match P.underlying s with | some (.int _) => true | _ => false) && (match P.underlying d with | some (.int k') => k' == k | _ => false) && opdOk φ x x'
  | .call ⟨.builtin .len, args, tys⟩, .len str x' => (match args.toList, tys.toList with | [x], [T] => opdOk φ x x' && lenTy P str T | _, _ => false)
  | .call ⟨.builtin .min, args, _⟩, .min x' y' => opdsOk φ args.toList [x', y']
  | .buildSlice T n ps, .bslice _ t n' ps' => n == n' && sliceOf P t T && decide (n * t.size ≤ 2 ^ 24 ∧ 0 < n * t.size) && partsOk φ ps.toList ps'
  | .call ⟨.builtin .append, args, tys⟩, .append _ t x' y' => (match args.toList, tys.toList with | [x, y], [S, Y] => opdOk φ x x' && opdOk φ y y' && sliceOf P t S && lenTy P false Y && smallElem P S | _, _ => false)
  | .makeFunc (.func F) first caps, .mkfn f caps' => φ f == some F && first.isEmpty && opdsOk φ caps.toList caps'
  | _, _ => false

/-- Operands, as they stand. -/
def Opds (φ : Nat → Option FuncId) (β : Beta) (ρ : Operand → Value) (g : Opd → AV) : Prop := ∀ x y, opdOk φ x y = true → VR φ β (g y) (ρ x)

theorem parts_rel {ρ : Operand → Value} {g : Opd → AV} (hg : Opds φ β ρ g) : ∀ {xs : List (Nat × Operand)} {ys : List (Nat × Opd)}, partsOk φ xs ys = true →
    All2 (fun a b => a.1 = b.1 ∧ VR φ β a.2 b.2) (ys.map fun p => (p.1, g p.2)) (xs.map fun p => (p.1, ρ p.2))
  | [], [], _ => All2.nil
  | [], _ :: _, h => by simp [partsOk] at h
  | _ :: _, [], h => by simp [partsOk] at h
  | (i, x) :: xs, (j, y) :: ys, h => by
    simp [partsOk] at h
    exact All2.cons ⟨h.1.1.symm, hg _ _ h.1.2⟩ (parts_rel hg h.2)

theorem run_bin_int {op : BinOp} {T : TypeId} {k : IntKind} {a b : Int} {v : AV} (h : evInt op k a b = some v) : ∃ x, (binOp op T (.int k a) (.int k b)).run P w = .ok x w ∧ VR φ β v x := by
  cases op <;> simp only [evInt] at h
  case add => simp at h; subst h; exact ⟨_, by simp [binOp, Op.intArith], VR_int⟩
  case sub => simp at h; subst h; exact ⟨_, by simp [binOp, Op.intArith], VR_int⟩
  case mul => simp at h; subst h; exact ⟨_, by simp [binOp, Op.intArith], VR_int⟩
  case quo =>
    split at h
    · simp at h
    · rename_i hb; simp at h; subst h; exact ⟨_, by simp [binOp, Op.intDiv, hb], VR_int⟩
  case rem =>
    split at h
    · simp at h
    · rename_i hb; simp at h; subst h; exact ⟨_, by simp [binOp, Op.intDiv, hb], VR_int⟩
  case eql => simp at h; subst h; exact ⟨_, by simp [binOp, Op.intCmp], VR_bool⟩
  case neq => simp at h; subst h; exact ⟨_, by simp [binOp, Op.intCmp], VR_bool⟩
  case lss => simp at h; subst h; exact ⟨_, by simp [binOp, Op.intCmp], VR_bool⟩
  case leq => simp at h; subst h; exact ⟨_, by simp [binOp, Op.intCmp], VR_bool⟩
  case gtr => simp at h; subst h; exact ⟨_, by simp [binOp, Op.intCmp], VR_bool⟩
  case geq => simp at h; subst h; exact ⟨_, by simp [binOp, Op.intCmp], VR_bool⟩
  all_goals simp at h

theorem run_bin_str {op : BinOp} {T : TypeId} {a b : ByteArray} {v : AV} (h : evStr op a b = some v) : ∃ x, (binOp op T (.string a) (.string b)).run P w = .ok x w ∧ VR φ β v x := by
  cases op <;> simp only [evStr] at h
  case add =>
    split at h
    · simp at h
    · rename_i hb
      simp at h
      subst h
      refine ⟨.string (a ++ b), ?_, VR_str⟩
      simp only [binOp, Op.stringOp]
      rw [if_neg hb]
      rfl
  case eql => simp at h; subst h; exact ⟨_, by simp only [binOp, Op.stringOp]; rfl, VR_bool⟩
  case neq => simp at h; subst h; exact ⟨_, by simp only [binOp, Op.stringOp]; rfl, VR_bool⟩
  case lss => simp at h; subst h; exact ⟨_, by simp only [binOp, Op.stringOp]; rfl, VR_bool⟩
  case leq => simp at h; subst h; exact ⟨_, by simp only [binOp, Op.stringOp]; rfl, VR_bool⟩
  case gtr => simp only [Option.some.injEq] at h; subst h; exact ⟨_, by simp only [binOp, Op.stringOp]; rfl, VR_bool⟩
  case geq => simp at h; subst h; exact ⟨_, by simp only [binOp, Op.stringOp]; rfl, VR_bool⟩
  all_goals simp at h

theorem run_guard_int {op : BinOp} {T : TypeId} {x y : Operand} {k k' : IntKind} {a b : Int} : (eqGuard op T x y (.int k a) (.int k' b)).run P w = .ok () w := by
  cases op <;> simp [eqGuard]
theorem run_guard_str {op : BinOp} {T : TypeId} {x y : Operand} {a b : ByteArray} : (eqGuard op T x y (.string a) (.string b)).run P w = .ok () w := by
  cases op <;> simp [eqGuard]

theorem run_bin {op : BinOp} {T : TypeId} {x y : Operand} {a b : AV} {va vb : Value} {v : AV} (ha : VR φ β a va) (hb : VR φ β b vb) (h : evBin op a b = some v) :
    ∃ r, (do eqGuard op T x y va vb; binOp op T va vb : Sem Value).run P w = .ok r w ∧ VR φ β v r := by
  unfold evBin at h
  split at h
  · rename_i k p k' q
    split at h
    · rename_i hk
      subst hk
      obtain ⟨r, hr, hv⟩ := run_bin_int (φ := φ) (β := β) (P := P) (w := w) (T := T) h
      rw [LR_int ha, LR_int hb]
      exact ⟨r, by simp only [Sem.run_bind, run_guard_int, Result.andThen_ok, hr], hv⟩
    · simp at h
  · rename_i p q
    obtain ⟨r, hr, hv⟩ := run_bin_str (φ := φ) (β := β) (P := P) (w := w) (T := T) h
    rw [LR_str ha, LR_str hb]
    exact ⟨r, by simp only [Sem.run_bind, run_guard_str, Result.andThen_ok, hr], hv⟩
  · simp at h

theorem equalIn_nil_ptr {T e : TypeId} {d : Nat} {q : Option Addr} (hu : P.underlying T = some (.pointer e)) : (Op.equalIn (d + 1) T (.pointer none) (.pointer q)).run P w = .ok q.isNone w := by
  cases q <;> simp [Op.equalIn, run_underlying hu w]
theorem equalIn_ptr_nil {T e : TypeId} {d : Nat} {q : Addr} (hu : P.underlying T = some (.pointer e)) : (Op.equalIn (d + 1) T (.pointer (some q)) (.pointer none)).run P w = .ok false w := by
  simp [Op.equalIn, run_underlying hu w]
theorem equalIn_ptr_same {T e : TypeId} {d : Nat} {q : Addr} {ti : TypeInfo} (hu : P.underlying T = some (.pointer e)) (hi : P.info? e = some ti) (hs : ti.size ≠ 0) : (Op.equalIn (d + 1) T (.pointer (some q)) (.pointer (some q))).run P w = .ok true w := by
  simp [Op.equalIn, run_underlying hu w, sizeOf, typeInfo, hi, hs, sameAddr]
theorem equalIn_nil_sl {T e : TypeId} {d : Nat} {q : Option Addr} {n c n' c' : Nat} (hu : P.underlying T = some (.slice e)) : (Op.equalIn (d + 1) T (.slice none n c) (.slice q n' c')).run P w = .ok q.isNone w := by
  cases q <;> simp [Op.equalIn, run_underlying hu w]
theorem equalIn_sl_nil {T e : TypeId} {d : Nat} {q : Addr} {n c n' c' : Nat} (hu : P.underlying T = some (.slice e)) : (Op.equalIn (d + 1) T (.slice (some q) n c) (.slice none n' c')).run P w = .ok false w := by
  simp [Op.equalIn, run_underlying hu w]

def plainV : Value → Bool
  | .pointer _ => true
  | .slice .. => true
  | .bool _ => true
  | _ => false
theorem run_eqlv {neg : Bool} {T : TypeId} {x y : Operand} {va vb : Value} {r : Bool} (h1 : plainV va = true) (h2 : plainV vb = true) (h : (Op.equalIn 10000 T va vb).run P w = .ok r w) :
    (do eqGuard (if neg then .neq else .eql) T x y va vb; binOp (if neg then .neq else .eql) T va vb : Sem Value).run P w = .ok (.bool (if neg then !r else r)) w := by
  have h' : (Op.equal T va vb).run P w = .ok r w := h
  cases va <;> simp [plainV] at h1 <;> cases vb <;> simp [plainV] at h2 <;> cases neg <;> simp [eqGuard, binOp, Sem.run_bind, h']

/-- Two values, held against each other. -/
theorem run_eq {neg : Bool} {t : Ty} {T : TypeId} {x y : Operand} {a b : AV} {va vb : Value} {r : Bool} (hty : eqTy P t T = true) (h1 : t.eqOk a = true) (h2 : t.eqOk b = true) (ha : VR φ β a va) (hb : VR φ β b vb) (h : a.eq b = some r) :
    (do eqGuard (if neg then .neq else .eql) T x y va vb; binOp (if neg then .neq else .eql) T va vb : Sem Value).run P w = .ok (.bool (if neg then !r else r)) w := by
  have agg : t.isAgg = true → tyOk P t (.inl T) = true → heldOk P t (.inl T) = true → P.eqGuardType P.depth T = false → t.depth ≤ 10000 → t.fits a = true → t.fits b = true →
      (do eqGuard (if neg then .neq else .eql) T x y va vb; binOp (if neg then .neq else .eql) T va vb : Sem Value).run P w = .ok (.bool (if neg then !r else r)) w := by
    intro hag ht hh hgt hd hfa hfb
    have hq := eq_sound (P := P) (w := w) 10000 t T hd ht hh a b va vb r hfa hfb ha hb h
    obtain ⟨xs, rfl, _⟩ := VR_agg_cells hfa hag ha
    obtain ⟨ys, rfl, _⟩ := VR_agg_cells hfb hag hb
    cases neg
    · simp only [Bool.false_eq_true, if_false, Sem.run_bind, run_eqGuard_agg w .eql T x y _ _ hgt, Result.andThen_ok, run_eql_struct, hq]
    · simp only [if_true, Sem.run_bind, run_eqGuard_agg w .neq T x y _ _ hgt, Result.andThen_ok, run_neq_struct, hq]
  cases t with
  | arr n e =>
    simp only [eqTy, Bool.and_eq_true, Bool.not_eq_true', decide_eq_true_eq] at hty
    exact agg rfl hty.1.1.1 hty.1.1.2 hty.1.2 hty.2 (by simpa [Ty.eqOk] using h1) (by simpa [Ty.eqOk] using h2)
  | unit =>
    simp only [eqTy, Bool.and_eq_true, Bool.not_eq_true', decide_eq_true_eq] at hty
    exact agg rfl hty.1.1.1 hty.1.1.2 hty.1.2 hty.2 (by simpa [Ty.eqOk] using h1) (by simpa [Ty.eqOk] using h2)
  | cons p q =>
    simp only [eqTy, Bool.and_eq_true, Bool.not_eq_true', decide_eq_true_eq] at hty
    exact agg rfl hty.1.1.1 hty.1.1.2 hty.1.2 hty.2 (by simpa [Ty.eqOk] using h1) (by simpa [Ty.eqOk] using h2)
  | leaf k =>
  clear agg
  cases k
  case int => simp [eqTy] at hty
  case str => simp [eqTy] at hty
  case func => simp [eqTy] at hty
  · -- bool
    simp only [eqTy] at hty
    cases hu : P.underlying T with
    | none => simp [hu] at hty
    | some d =>
      cases d <;> simp [hu] at hty
      cases a <;> simp [Ty.eqOk] at h1
      cases b <;> simp [Ty.eqOk] at h2
      rw [LR_bool ha, LR_bool hb]
      simp [AV.eq] at h
      subst h
      exact run_eqlv rfl rfl (run_equalIn_bool' w 9999 T _ _ hu)
  · -- pointers
    simp only [eqTy] at hty
    cases hu : P.underlying T with
    | none => simp [hu] at hty
    | some d =>
      cases d <;> simp [hu] at hty
      rename_i e
      cases hi : P.info? e with
      | none => simp [hi] at hty
      | some ti =>
        simp [hi] at hty
        cases a <;> simp [Ty.eqOk] at h1
        · cases b <;> simp [Ty.eqOk] at h2
          · simp [AV.eq] at h
            subst h
            have e1 : va = .pointer none := by simpa [VR, VR1, AV.isAgg, LR, AV.rel] using ha
            have e2 : vb = .pointer none := by simpa [VR, VR1, AV.isAgg, LR, AV.rel] using hb
            subst e1 e2
            exact run_eqlv rfl rfl (equalIn_nil_ptr (d := 9999) hu)
          · simp [AV.eq] at h
            subst h
            have e1 : va = .pointer none := by simpa [VR, VR1, AV.isAgg, LR, AV.rel] using ha
            obtain ⟨pl, o, _, _, rfl⟩ := LR_ptr hb
            subst e1
            exact run_eqlv rfl rfl (equalIn_nil_ptr (d := 9999) hu)
        · cases b <;> simp [Ty.eqOk] at h2
          · simp [AV.eq] at h
            subst h
            have e2 : vb = .pointer none := by simpa [VR, VR1, AV.isAgg, LR, AV.rel] using hb
            obtain ⟨pl, o, _, _, rfl⟩ := LR_ptr ha
            subst e2
            exact run_eqlv rfl rfl (equalIn_ptr_nil (d := 9999) hu)
          · rename_i i p t' j q u'
            cases p with
            | cons => simp [Ty.eqOk] at h1
            | nil =>
              cases q with
              | cons => simp [Ty.eqOk] at h2
              | nil =>
                simp only [AV.eq] at h
                split at h
                · rename_i hij
                  obtain ⟨rfl, rfl⟩ := hij
                  simp at h
                  subst h
                  obtain ⟨pl, o, hb1, hp1, rfl⟩ := LR_ptr ha
                  obtain ⟨pl', o', hb2, hp2, rfl⟩ := LR_ptr hb
                  rw [hb1] at hb2
                  obtain rfl := Option.some.inj hb2
                  rw [hp1] at hp2
                  injection hp2 with hp2
                  injection hp2 with hp2 _
                  subst hp2
                  exact run_eqlv rfl rfl (equalIn_ptr_same (d := 9999) hu hi hty)
                · simp at h
  · -- slices
    simp only [eqTy] at hty
    cases hu : P.underlying T with
    | none => simp [hu] at hty
    | some d =>
      cases d <;> simp [hu] at hty
      have sl : ∀ {v : AV} {x : Value}, (Ty.leaf .slice).eqOk v = true → VR φ β v x → (v = .nilsl ∧ x = .slice none 0 0) ∨ (v ≠ .nilsl ∧ ∃ a n c, x = .slice (some a) n c) := by
        intro v x hv hx
        cases v <;> simp [Ty.eqOk] at hv
        · exact .inl ⟨rfl, by simpa [VR, VR1, AV.isAgg, LR, AV.rel] using hx⟩
        · obtain ⟨a, c, rfl⟩ : ∃ a cap, x = .slice (some a) 0 cap := by simpa [VR, VR1, AV.isAgg, LR, AV.rel] using hx
          exact .inr ⟨by simp, a, 0, c, rfl⟩
        · obtain ⟨_, _, _, _, _, _, _, _, _, rfl⟩ := LR_sl hx
          exact .inr ⟨by simp, _, _, _, rfl⟩
      rcases sl h1 ha with ⟨rfl, rfl⟩ | ⟨hna, a', n, c, rfl⟩
      · rcases sl h2 hb with ⟨rfl, rfl⟩ | ⟨hnb, b', n', c', rfl⟩
        · simp [AV.eq] at h
          subst h
          exact run_eqlv rfl rfl (equalIn_nil_sl (d := 9999) hu)
        · have : r = false := by cases b <;> simp [Ty.eqOk] at h2 <;> simp_all [AV.eq]
          subst this
          exact run_eqlv rfl rfl (equalIn_nil_sl (d := 9999) hu)
      · rcases sl h2 hb with ⟨rfl, rfl⟩ | ⟨hnb, b', n', c', rfl⟩
        · have : r = false := by cases a <;> simp [Ty.eqOk] at h1 <;> simp_all [AV.eq]
          subst this
          exact run_eqlv rfl rfl (equalIn_sl_nil (d := 9999) hu)
        · exfalso
          cases a <;> simp [Ty.eqOk] at h1 <;> cases b <;> simp [Ty.eqOk] at h2 <;> simp_all [AV.eq]

theorem alloc_same (w : World) (o : Obj) : SameBut w (w.alloc o) (fun _ => False) :=
  ⟨rfl, rfl, rfl, by simp, fun r hr _ => Below.heap_alloc w o r hr⟩

theorem laid_alloc {b : Blk} {cs : Array Value} {T : TypeId} (hf : b.ty.fits b.val = true) (hc : All2 (LR φ β) b.val.flat cs.toList) : Laid φ β b (w.alloc (.cells cs T)) ⟨w.heap.size, 0, b.ty, cs.size⟩ := by
  have hl := hc.1
  have hl2 := Ty.fits_length hf
  refine ⟨cs, T, heap_alloc_new w _, by simp, by simp at hl ⊢; omega, rfl, hf, fun k c hk => ?_⟩
  have hkl : k < cs.toList.length := by
    rw [← hl]
    rcases Nat.lt_or_ge k b.val.flat.length with h | h
    · exact h
    · rw [List.getElem?_eq_none h] at hk; simp at hk
  exact ⟨cs.toList[k], by rw [Nat.zero_add, ← Array.getElem?_toList]; exact List.getElem?_eq_getElem hkl, hc.2 k c _ hk (List.getElem?_eq_getElem hkl)⟩

theorem caps_rel {ρ : Operand → Value} {g : Opd → AV} (hg : Opds φ β ρ g) : ∀ {xs : List Operand} {ys : List Opd}, opdsOk φ xs ys = true → (∀ y ∈ ys, (g y).isLeaf = true) →
    ((ys.foldr (fun x acc => AV.cons (g x) acc) .unit).rel φ β).2 (xs.map ρ)
  | [], [], _, _ => rfl
  | [], _ :: _, h, _ => by simp [opdsOk] at h
  | _ :: _, [], h, _ => by simp [opdsOk] at h
  | x :: xs, y :: ys, h, hl => by
    simp [opdsOk] at h
    have h1 := hg _ _ h.1
    have h2 := hl y (by simp)
    have : LR φ β (g y) (ρ x) := by
      cases hv : g y <;> rw [hv] at h1 h2 <;> simp [AV.isLeaf] at h2 <;> simpa [VR, VR1, AV.isAgg] using h1
    exact ⟨ρ x, xs.map ρ, rfl, this, caps_rel hg h.2 fun z hz => hl z (by simp [hz])⟩

theorem tup_field : ∀ {v u : AV} {xs : List Value} {i : Nat}, TR φ β v xs → v.field i = some u → ∃ x, xs[i]? = some x ∧ VR φ β u x := by
  intro v
  induction v with
  | cons a b _ ihb =>
    intro u xs i h hv
    cases xs with
    | nil => exact h.elim
    | cons x xs =>
      cases i with
      | zero => simp [AV.field] at hv; subst hv; exact ⟨x, rfl, VR_of_VR1 h.2.1⟩
      | succ i => change b.field i = some u at hv; exact ihb (xs := xs) (i := i) h.2.2 hv
  | _ => intro u xs i h hv; simp [AV.field] at hv

theorem agg_of_fits {t : Ty} {v : AV} (hf : t.fits v = true) (ha : t.isAgg = true) : v.isAgg = true := by rw [Ty.fits_isAgg hf, ha]

theorem op_sound {o : Oper} {k : MK} {ρ : Operand → Value} {g : Opd → AV} {e : Eff} (hR : HR φ β O look w) (hg : Opds φ β ρ g) (hm : matchK P φ o.op k = true) (he : evK g look k = some e) (hl : e.lets) :
    ∃ nx x w', (execOp ρ o).run P w = .ok nx w' ∧ Next.val nx = some x ∧ EffOk φ β look w w' x e := by
  obtain ⟨dst, op, ty, pos, after, guard⟩ := o
  simp only at hm
  unfold matchK at hm
  split at hm
  -- move
  · rename_i x y
    simp only [evK, Option.some.injEq] at he
    subst he
    exact ⟨.value (ρ x), _, w, by simp [execOp], rfl, hg _ _ hm, rfl⟩
  · rename_i x y
    simp only [evK, Option.some.injEq] at he
    subst he
    exact ⟨.value (ρ x), _, w, by simp [execOp], rfl, hg _ _ hm, rfl⟩
  -- pick
  · rename_i c a b c' a' b'
    simp only [Bool.and_eq_true] at hm
    have hc := hg _ _ hm.1.1
    simp only [evK] at he
    split at he
    · rename_i hb
      rw [hb] at hc
      simp only [Option.some.injEq] at he
      subst he
      exact ⟨.value (ρ a), _, w, by simp [execOp, LR_bool hc, asBool, Sem.run_bind], rfl, hg _ _ hm.1.2, rfl⟩
    · rename_i hb
      rw [hb] at hc
      simp only [Option.some.injEq] at he
      subst he
      exact ⟨.value (ρ b), _, w, by simp [execOp, LR_bool hc, asBool, Sem.run_bind], rfl, hg _ _ hm.2, rfl⟩
    · simp at he
  -- bin
  · rename_i op T x y yt op' x' y'
    simp only [Bool.and_eq_true, beq_iff_eq] at hm
    obtain ⟨⟨rfl, h1⟩, h2⟩ := hm
    simp only [evK, Option.map_eq_some_iff] at he
    obtain ⟨v, hv, rfl⟩ := he
    obtain ⟨r, hr, hrv⟩ := run_bin (P := P) (w := w) (T := T) (x := x) (y := y) (hg _ _ h1) (hg _ _ h2) hv
    refine ⟨.value r, r, w, ?_, rfl, hrv, rfl⟩
    simp only [execOp]
    rw [Sem.run_bind, hr]
    rfl
  -- eq
  · rename_i op T x y yt neg t x' y'
    simp only [Bool.and_eq_true, beq_iff_eq] at hm
    obtain ⟨⟨⟨rfl, h1⟩, h2⟩, h3⟩ := hm
    simp only [evK] at he
    split at he
    · rename_i hq
      simp only [Bool.and_eq_true] at hq
      simp only [Option.map_eq_some_iff] at he
      obtain ⟨r, hr, rfl⟩ := he
      have := run_eq (P := P) (w := w) (neg := neg) (x := x) (y := y) h3 hq.1 hq.2 (hg _ _ h1) (hg _ _ h2) hr
      refine ⟨.value (.bool (if neg then !r else r)), _, w, ?_, rfl, VR_bool, rfl⟩
      simp only [execOp]
      rw [Sem.run_bind, this]
      rfl
    · simp at he
  -- un
  · rename_i op T x op' x'
    simp only [Bool.and_eq_true, beq_iff_eq] at hm
    obtain ⟨rfl, h1⟩ := hm
    simp only [evK, Option.map_eq_some_iff] at he
    obtain ⟨v, hv, rfl⟩ := he
    have hx := hg _ _ h1
    unfold evUn at hv
    split at hv
    · rename_i b hb
      rw [hb] at hx
      simp at hv
      subst hv
      exact ⟨.value (.bool !b), _, w, by simp [execOp, LR_bool hx, Op.unary, Sem.run_bind], rfl, VR_bool, rfl⟩
    · rename_i k n hb
      rw [hb] at hx
      simp at hv
      subst hv
      exact ⟨.value (.int k (k.wrap (0 - n))), _, w, by simp [execOp, LR_int hx, Op.unary, Op.intArith, Sem.run_bind], rfl, by simpa using VR_int, rfl⟩
    · simp at hv
  -- alloc
  · rename_i T esc t
    simp only [evK, Option.some.injEq] at he
    subst he
    obtain ⟨cs, hr, hc⟩ := run_alloc (φ := φ) (β := β) (P := P) (w := w) (old := .tuple #[]) hm
    exact ⟨.value _, _, w.alloc (.cells cs T), by simp [execOp, Sem.run_bind, hr], rfl, ⟨w.heap.size, 0, t, cs.size⟩, laid_alloc (b := ⟨t, t.zero⟩) zero_fits hc, rfl, rfl, rfl, by simp, alloc_same _ _⟩
  -- box
  · rename_i T x esc t x'
    simp only [Bool.and_eq_true] at hm
    simp only [evK] at he
    split at he
    · rename_i hf
      simp only [Option.some.injEq] at he
      subst he
      obtain ⟨hc, _, _, _⟩ := cells_of_VR hf (hg _ _ hm.2)
      exact ⟨.value _, _, w.alloc (.cells (ρ x).cells T), by simp [execOp, Sem.run_bind, run_box], rfl, ⟨w.heap.size, 0, t, (ρ x).cells.size⟩, laid_alloc (b := ⟨t, g x'⟩) hf hc, rfl, rfl, rfl, by simp, alloc_same _ _⟩
    · simp at he
  -- build
  · rename_i T ps t ps'
    simp only [Bool.and_eq_true] at hm
    simp only [evK, Option.map_eq_some_iff] at he
    obtain ⟨v, hv, rfl⟩ := he
    obtain ⟨y, hy, hvy⟩ := run_build_sound (P := P) (w := w) hm.1.1 hm.1.2 (parts_rel hg hm.2) hv
    refine ⟨.value y, y, w, ?_, rfl, hvy, rfl⟩
    have e : (ps.map fun (p : Nat × Operand) => (p.1, ρ p.2)) = (ps.toList.map fun p => (p.1, ρ p.2)).toArray := by apply Array.toList_inj.1; rw [Array.toList_map]
    simp only [execOp]
    rw [Sem.run_bind]
    have e2 : (ps.map fun x => match x with | (i, x) => (i, ρ x)) = (ps.toList.map fun p => (p.1, ρ p.2)).toArray := by rw [← e]
    rw [e2, hy]
    rfl
  -- load
  · rename_i T x ro t x'
    simp only [Bool.and_eq_true] at hm
    have hx := hg _ _ hm.2
    simp only [evK] at he
    split at he
    · rename_i i p t' hgx
      rw [hgx] at hx
      split at he
      · rename_i hc
        obtain ⟨rfl, _⟩ := hc
        cases hlk : look i with
        | none => simp [hlk] at he
        | some b =>
          simp only [hlk, Option.bind_some] at he
          cases hv : b.val.at p with
          | none => simp [hv] at he
          | some v =>
            simp only [hv] at he
            split at he
            · simp only [Option.some.injEq] at he
              subst he
              obtain ⟨y, hy, hvy⟩ := run_load hR hm.1 hx hlk hv
              exact ⟨.value y, y, w, by simp [execOp, Sem.run_bind, hy], rfl, hvy, rfl⟩
            · simp at he
      · simp at he
    · simp at he
  -- store
  · rename_i T x v t ap x' v'
    simp only [Bool.and_eq_true] at hm
    have hx := hg _ _ hm.1.2
    have hv := hg _ _ hm.2
    simp only [evK] at he
    split at he
    · rename_i i p t' hgx
      rw [hgx] at hx
      split at he
      · rename_i hc
        obtain ⟨rfl, hf, _⟩ := hc
        cases hlk : look i with
        | none => simp [hlk] at he
        | some b =>
          simp only [hlk] at he
          cases hu : b.val.put p (g v') with
          | none => simp [hu] at he
          | some u =>
            simp only [hu, Option.some.injEq] at he
            subst he
            obtain ⟨pl, cs, T', hB, cs', hrun, hsz, hfu, hcells⟩ := run_store hR hm.1.1 hx hv hf hlk hu hl
            refine ⟨.skip, undef, _, by simp [execOp, Sem.run_bind, hrun], rfl, pl, b, hlk, rfl, hB.place, ⟨cs', T', setRow_heap w pl.r cs cs' T' (0, 0) hB.heap, by rw [hsz]; exact hB.room, hB.size, hB.ty, hfu, hcells⟩, VR_bot,
              ⟨rfl, rfl, rfl, by simp, fun r _ hr => setRow_other w pl.r r cs' hr⟩⟩
      · simp at he
    · simp at he
  -- nilCheck
  · rename_i x x'
    have hx := hg _ _ hm
    simp only [evK] at he
    split at he
    · rename_i i p t hgx
      rw [hgx] at hx
      simp only [Option.some.injEq] at he
      subst he
      obtain ⟨pl, o, hb, hf, hxe⟩ := LR_ptr hx
      refine ⟨.value (ρ x), _, w, by simp [execOp, hxe], rfl, hx, rfl⟩
    · simp at he
  -- fieldAddr
  · rename_i T x i st i' ft x'
    simp only [Bool.and_eq_true, beq_iff_eq] at hm
    obtain ⟨⟨h1, rfl⟩, h2⟩ := hm
    have hx := hg _ _ h2
    simp only [evK] at he
    split at he
    · rename_i j p t hgx
      rw [hgx] at hx
      split at he
      · rename_i hc
        obtain ⟨rfl, hf⟩ := hc
        simp only [Option.some.injEq] at he
        subst he
        obtain ⟨y, hy, hvy⟩ := run_fld (w := w) h1 hf hx
        exact ⟨.value y, y, w, by simp [execOp, Sem.run_bind, hy], rfl, hvy, rfl⟩
      · simp at he
    · simp at he
  -- indexAddr, of an array
  · rename_i T x i n t x' i'
    simp only [Bool.and_eq_true] at hm
    have hx := hg _ _ hm.1.2
    have hi := hg _ _ hm.2
    simp only [evK] at he
    split at he
    · rename_i j p t' z hgx hz
      rw [hgx] at hx
      split at he
      · rename_i hc
        obtain ⟨rfl, h0, h1⟩ := hc
        simp only [Option.some.injEq] at he
        subst he
        obtain ⟨y, hy, hvy⟩ := run_idx (w := w) hm.1.1 hx hi hz h0 h1
        exact ⟨.value y, y, w, by simp [execOp, Sem.run_bind, hy], rfl, hvy, rfl⟩
      · simp at he
    · simp at he
  -- indexAddr, of a slice
  · rename_i T x i ro t x' i'
    simp only [Bool.and_eq_true] at hm
    have hx := hg _ _ hm.1.2
    have hi := hg _ _ hm.2
    have hs := hm.1.1
    unfold sliceOf at hs
    cases hu : P.underlying T with
    | none => simp [hu] at hs
    | some d =>
      cases d <;> simp [hu] at hs
      simp only [evK] at he
      split at he
      · rename_i j off len z hgx hz
        rw [hgx] at hx
        split at he
        · rename_i hc
          cases hlk : look j with
          | none => simp [hlk] at he
          | some b =>
            obtain ⟨bty, bval⟩ := b
            simp only [hlk] at he
            cases bty <;> simp at he
            obtain ⟨rfl, rfl⟩ := he
            obtain ⟨y, hy, hvy⟩ := run_sidx hR hu hs hx hi hz hlk rfl hc.1 hc.2.1
            exact ⟨.value y, y, w, by simp [execOp, Sem.run_bind, hy], rfl, hvy, rfl⟩
        · simp at he
      · simp at he
  -- index, of an array
  · rename_i T x i n t x' i'
    simp only [Bool.and_eq_true] at hm
    have hx := hg _ _ hm.1.2
    have hi := hg _ _ hm.2
    simp only [evK] at he
    split at he
    · rename_i m f z hgx hz
      rw [hgx] at hx
      split at he
      · rename_i hc
        split at he
        · rename_i hf
          simp only [Option.some.injEq] at he
          subst he
          have hnm : n = m := by simp [Ty.fits] at hf; exact hf.1
          subst hnm
          obtain ⟨y, hy, hvy⟩ := run_aidx (w := w) hm.1.1 hf hx hi hz hc.1 hc.2
          exact ⟨.value y, y, w, by simp [execOp, Sem.run_bind, hy], rfl, hvy, rfl⟩
        · simp at he
      · simp at he
    · simp at he
  -- index, of a string
  · rename_i T x i x' i'
    simp only [Bool.and_eq_true] at hm
    have hx := hg _ _ hm.1.2
    have hi := hg _ _ hm.2
    cases hu : P.underlying T with
    | none => simp [hu] at hm
    | some d =>
      cases d <;> simp [hu] at hm
      simp only [evK] at he
      split at he
      · rename_i b z hgx hz
        rw [hgx] at hx
        obtain ⟨k, hk⟩ := toIx_int hz hi
        split at he
        · rename_i h0
          simp only [Option.map_eq_some_iff] at he
          obtain ⟨c, hc, rfl⟩ := he
          refine ⟨.value (.int .u8 c.toNat), _, w, ?_, rfl, VR_int, rfl⟩
          simp [execOp, Sem.run_bind, Instr.index, hk, asIntOf, run_underlying hu w, LR_str hx, h0, hc]
        · simp at he
      · simp at he
  -- field
  · rename_i T x i t x' i'
    simp only [Bool.and_eq_true, beq_iff_eq] at hm
    obtain ⟨⟨h1, rfl⟩, h2⟩ := hm
    have hx := hg _ _ h2
    simp only [evK] at he
    split at he
    · rename_i hf
      simp only [Option.map_eq_some_iff] at he
      obtain ⟨v, hv, rfl⟩ := he
      obtain ⟨y, hy, hvy⟩ := run_field (w := w) h1 hf hx hv
      exact ⟨.value y, y, w, by simp [execOp, Sem.run_bind, hy], rfl, hvy, rfl⟩
    · simp at he
  -- extract
  · rename_i x i x' i'
    simp only [Bool.and_eq_true, beq_iff_eq] at hm
    obtain ⟨rfl, h2⟩ := hm
    have hx := hg _ _ h2
    simp only [evK] at he
    split at he
    · rename_i v hgx
      rw [hgx] at hx
      cases hu : v.field i with
      | none => simp [hu] at he
      | some u =>
        simp only [hu] at he
        split at he
        · simp only [Option.some.injEq] at he
          subst he
          obtain ⟨xs, hxe, hT⟩ := hx
          obtain ⟨y, hy, hvy⟩ := tup_field hT hu
          refine ⟨.value y, y, w, ?_, rfl, hvy, rfl⟩
          simp [execOp, Sem.run_bind, hxe, Instr.extract, hy]
        · simp at he
    · simp at he
  -- convert
  · rename_i s d x k x'
    simp only [Bool.and_eq_true] at hm
    have hx := hg _ _ hm.2
    cases hs : P.underlying s with
    | none => simp [hs] at hm
    | some sd =>
      cases sd <;> simp [hs] at hm
      cases hd : P.underlying d with
      | none => simp [hd] at hm
      | some dd =>
        cases dd <;> simp [hd] at hm
        obtain ⟨rfl, hm⟩ := hm
        simp only [evK] at he
        split at he
        · rename_i k' n hgx
          rw [hgx] at hx
          simp only [Option.some.injEq] at he
          subst he
          refine ⟨.value _, _, w, by simp [execOp, Sem.run_bind, convert, run_underlying hs w, run_underlying hd w, LR_int hx, Conv.intToInt], rfl, VR_int, rfl⟩
        · simp at he
  -- len
  · rename_i args tys str x'
    split at hm
    · rename_i x T ha ht
      simp only [Bool.and_eq_true] at hm
      have hx := hg _ _ hm.1
      obtain rfl : args = #[x] := by apply Array.toList_inj.1; simpa using ha
      obtain rfl : tys = #[T] := by apply Array.toList_inj.1; simpa using ht
      have run : ∀ {v : Value} {n : Nat}, ρ x = v → (∃ s, v = .string s ∧ s.size = n ∧ P.underlying T = some .string) ∨ (∃ a c e, v = .slice a n c ∧ P.underlying T = some (.slice e)) →
          (execOp ρ ⟨dst, .call ⟨.builtin .len, #[x], #[T]⟩, ty, pos, after, guard⟩).run P w = .ok (.value (.int .i64 n)) w := by
        rintro v n hv (⟨s, rfl, rfl, hu⟩ | ⟨a, c, e, rfl, hu⟩)
        · simp [execOp, Sem.run_bind, resolve, invoke, builtin, Builtin.len_, run_underlying hu w, hv, goInt]
        · simp [execOp, Sem.run_bind, resolve, invoke, builtin, Builtin.len_, run_underlying hu w, hv, goInt]
      simp only [evK] at he
      split at he
      · rename_i b hgx
        rw [hgx] at hx
        simp only [Option.some.injEq] at he
        subst he
        exact ⟨.value _, _, w, run (LR_str hx) (.inl ⟨b, rfl, rfl, lenTy_str hm.2⟩), rfl, VR_int, rfl⟩
      all_goals (try (simp at he; done))
      all_goals simp only [Option.some.injEq] at he
      all_goals subst he
      all_goals obtain ⟨e, hu⟩ := lenTy_slice hm.2
      · rename_i hgx
        rw [hgx] at hx
        have hx : ρ x = .slice none 0 0 := by simpa [VR, VR1, AV.isAgg, LR, AV.rel] using hx
        exact ⟨.value _, _, w, run hx (.inr ⟨_, _, e, rfl, hu⟩), rfl, VR_int, rfl⟩
      · rename_i j off n hgx
        rw [hgx] at hx
        obtain ⟨_, _, _, _, _, _, _, _, _, hx⟩ := LR_sl hx
        exact ⟨.value _, _, w, run hx (.inr ⟨_, _, e, rfl, hu⟩), rfl, VR_int, rfl⟩
      · rename_i hgx
        rw [hgx] at hx
        obtain ⟨a, c, hx⟩ : ∃ a cap, ρ x = .slice (some a) 0 cap := by simpa [VR, VR1, AV.isAgg, LR, AV.rel] using hx
        exact ⟨.value _, _, w, run hx (.inr ⟨_, _, e, rfl, hu⟩), rfl, VR_int, rfl⟩
    · simp at hm
  -- min
  · rename_i args tys x' y'
    cases ha : args.toList with
    | nil => simp [ha, opdsOk] at hm
    | cons x l =>
      cases l with
      | nil => simp [ha, opdsOk] at hm
      | cons y l =>
        cases l with
        | cons => simp [ha, opdsOk] at hm
        | nil =>
          simp [ha, opdsOk] at hm
          obtain rfl : args = #[x, y] := by apply Array.toList_inj.1; simpa using ha
          have hx := hg _ _ hm.1
          have hy := hg _ _ hm.2
          simp only [evK] at he
          split at he
          · rename_i k a k' b hgx hgy
            rw [hgx] at hx
            rw [hgy] at hy
            split at he
            · rename_i hk
              subst hk
              simp only [Option.some.injEq] at he
              subst he
              refine ⟨.value _, _, w, by simp [execOp, Sem.run_bind, resolve, invoke, builtin, Builtin.min_, LR_int hx, LR_int hy, Builtin.min2], rfl, VR_int, rfl⟩
            · simp at he
          · simp at he
  -- bslice
  · rename_i T n ps esc t n' ps'
    simp only [Bool.and_eq_true, beq_iff_eq, decide_eq_true_eq] at hm
    obtain ⟨⟨⟨rfl, h1⟩, h2⟩, h3⟩ := hm
    simp only [evK, Option.map_eq_some_iff] at he
    obtain ⟨v, hv, rfl⟩ := he
    unfold sliceOf at h1
    cases hu : P.underlying T with
    | none => simp [hu] at h1
    | some d =>
      cases d <;> simp [hu] at h1
      rename_i el
      obtain ⟨cs, hr, hc, hf⟩ := run_bslice (φ := φ) (β := β) (w := w) hu h1 h2.1 h2.2 (parts_rel hg h3) hv
      have e2 : (ps.map fun x => match x with | (i, x) => (i, ρ x)) = (ps.toList.map fun p => (p.1, ρ p.2)).toArray := by apply Array.toList_inj.1; rw [Array.toList_map]
      have hsz : n * t.size ≤ cs.size := by
        have := hc.1
        rw [Ty.fits_length hf] at this
        simp only [Ty.size, Array.length_toList] at this
        omega
      refine ⟨.value _, _, w.alloc (.cells cs el), ?_, rfl, ⟨w.heap.size, 0, .arr n t, cs.size⟩, laid_alloc (b := ⟨.arr n t, v⟩) hf hc, rfl, rfl, ⟨t, n, rfl, Nat.le_refl _, hsz, rfl⟩, by simp, alloc_same _ _⟩
      simp only [execOp]
      rw [Sem.run_bind, e2, hr]
      rfl
  -- append
  · rename_i args tys esc t x' y'
    split at hm
    · rename_i x y S Y hargs htys
      simp only [Bool.and_eq_true] at hm
      obtain ⟨⟨⟨⟨h1, h2⟩, h3⟩, h4⟩, h5⟩ := hm
      obtain rfl : args = #[x, y] := Array.toList_inj.1 hargs
      obtain rfl : tys = #[S, Y] := Array.toList_inj.1 htys
      simp only [evK] at he
      split at he
      · rename_i add hadd
        obtain ⟨e', huY⟩ := lenTy_slice h4
        unfold sliceOf at h3
        unfold smallElem at h5
        cases hu : P.underlying S with
        | none => simp [hu] at h3
        | some d =>
          cases d <;> simp [hu] at h3
          rename_i el
          simp only [hu] at h5
          cases hi : P.info? el with
          | none => simp [hi] at h5
          | some i =>
            simp only [hi, decide_eq_true_eq] at h5
            obtain ⟨v, w', hrun, hok⟩ := run_append_sound (ty := ty) hR hu h3 hi h5 huY (hg _ _ h1) (hg _ _ h2) hadd he hl
            refine ⟨.value v, v, w', ?_, rfl, hok⟩
            simp [execOp, Sem.run_bind, resolve, invoke, builtin, hrun]
      · simp at he
    · simp at hm
  -- makeFunc
  · rename_i F first caps f caps'
    simp only [Bool.and_eq_true, beq_iff_eq] at hm
    simp only [evK] at he
    split at he
    · rename_i hl'
      simp only [Option.some.injEq] at he
      subst he
      simp only [List.all_eq_true] at hl'
      have hc := caps_rel hg hm.2 hl'
      have hfi : first = #[] := by simpa using hm.1.2
      subst hfi
      have hca : caps.map ρ = (caps.toList.map ρ).toArray := by apply Array.toList_inj.1; rw [Array.toList_map]
      refine ⟨.value (.func (.func F) #[] (caps.toList.map ρ).toArray), _, w, by simp only [execOp, Sem.run_bind, Instr.makeFunc, hca, Array.map_empty, Sem.run_pure, Result.andThen_ok], rfl, ?_, rfl⟩
      exact VR_of_VR1 (by simp only [VR1, AV.isAgg, Bool.false_eq_true, if_false]; exact ⟨F, _, hm.1.1, hc, rfl⟩)
    · simp at he
  · simp at hm
end
end Go.Mini
