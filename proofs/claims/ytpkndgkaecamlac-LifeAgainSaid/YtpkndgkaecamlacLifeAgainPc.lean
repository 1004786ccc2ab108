/- A part of the proof: what LifeAgain computes, step by step. -/
import Derived.Test.YtpkndgkaecamlacLifeAgainPb
import Derived.Attr

namespace Go.Mini
set_option linter.unusedSimpArgs false
set_option linter.unusedVariables false
def onO {α : Type} (o : Option α) (f : α → Prop) : Prop := match o with | some a => f a | none => False
@[go_sem] theorem onO_some {α : Type} (a : α) (f : α → Prop) : onO (some a) f = f a := rfl
@[go_sem] theorem onO_none {α : Type} (f : α → Prop) : onO none f = False := rfl
section
variable {T : Nat → Option MFun} {cx : Cx} {k : List Item} {kill : List Nat} {r : List MOp} {sl : Slots} {own : Own} {h : HP} {Q : St → Prop}
def W1 (T : Nat → Option MFun) (cx : Cx) (o : Option AV) (d : Option Nat) (r : List MOp) (kill : List Nat) (k : List Item) (s : St) (Q : St → Prop) : Prop := onO o fun v => W T cx (.ops r kill :: k) (s.setd d v) Q
@[go_sem] theorem W1_some {v : AV} {d : Option Nat} {s : St} : W1 T cx (some v) d r kill k s Q = W T cx (.ops r kill :: k) (s.setd d v) Q := rfl
@[go_sem] theorem W1_none {d : Option Nat} {s : St} : W1 T cx none d r kill k s Q = False := rfl
def W2 (T : Nat → Option MFun) (cx : Cx) (o : Option St) (r : List MOp) (kill : List Nat) (k : List Item) (Q : St → Prop) : Prop := onO o fun s' => W T cx (.ops r kill :: k) s' Q
@[go_sem] theorem W2_some {s : St} : W2 T cx (some s) r kill k Q = W T cx (.ops r kill :: k) s Q := rfl
@[go_sem] theorem W2_none : W2 T cx none r kill k Q = False := rfl
def WX (T : Nat → Option MFun) (cx : Cx) (o : Option (List Item)) (s : St) (Q : St → Prop) : Prop := onO o fun k' => W T cx k' s Q
@[go_sem] theorem WX_some {s : St} : WX T cx (some k) s Q = W T cx k s Q := rfl
@[go_sem] theorem WX_none {s : St} : WX T cx none s Q = False := rfl
theorem W_iff {s s1 : St} {k k1 : List Item} (hn : next T cx k s = .go k1 s1) : W T cx k s Q = W T cx k1 s1 Q := by
  apply propext
  constructor
  · rintro ⟨n, s', hr, hq⟩
    cases n with
    | zero => simp [run] at hr
    | succ n => rw [run, hn] at hr; exact ⟨n, s', hr, hq⟩
  · exact W_go hn
theorem W_fail {s : St} {k : List Item} (hn : next T cx k s = .fail) : W T cx k s Q = False := by
  apply propext
  constructor
  · rintro ⟨n, s', hr, hq⟩
    cases n with
    | zero => simp [run] at hr
    | succ n => rw [run, hn] at hr; simp at hr
  · exact False.elim
theorem W_iff_done {s s1 : St} {k : List Item} (hn : next T cx k s = .done s1) : W T cx k s Q = Q s1 := by
  apply propext
  constructor
  · rintro ⟨n, s', hr, hq⟩
    cases n with
    | zero => simp [run] at hr
    | succ n => rw [run, hn] at hr; simp at hr; subst hr; exact hq
  · exact W_done hn
@[go_sem] theorem W_nil {s : St} : W T cx [] s Q = Q s := W_iff_done rfl
@[go_sem] theorem W_inBlock {i : Nat} {s : St} : W T cx (.inBlock i :: k) s Q = W T cx k s Q := W_iff rfl
@[go_sem] theorem W_skip {s : St} : W T cx (.code .skip :: k) s Q = W T cx k s Q := W_iff rfl
@[go_sem] theorem W_seq {a b : MC} {s : St} : W T cx (.code (.seq a b) :: k) s Q = W T cx (.code a :: .code b :: k) s Q := W_iff rfl
@[go_sem] theorem W_block {i : Nat} {b : MC} {s : St} : W T cx (.code (.block i b) :: k) s Q = W T cx (.code b :: .inBlock i :: k) s Q := W_iff rfl
@[go_sem] theorem W_ret {s : St} : W T cx (.code .ret :: k) s Q = Q s := W_iff_done rfl
@[go_sem] theorem W_regF {ops : List MOp} {s : St} : W T cx (.code (.reg false ops kill) :: k) s Q = W T cx (.ops ops kill :: k) s Q := W_iff rfl
@[go_sem] theorem W_exit {i : Nat} {s : St} : W T cx (.code (.exit i) :: k) s Q = WX T cx (exitTo i k) s Q := by
  cases hk : exitTo i k with
  | none => exact W_fail (by simp [next, hk])
  | some k' => exact W_iff (by simp [next, hk])
@[go_sem] theorem exitTo_here {j : Nat} : exitTo j (.inBlock j :: k) = some k := by simp [exitTo]
@[go_sem] theorem exitTo_block {i j : Nat} : exitTo i (.inBlock j :: k) = if j = i then some k else exitTo i k := rfl
@[go_sem] theorem exitTo_code {i : Nat} {c : MC} : exitTo i (.code c :: k) = exitTo i k := rfl
@[go_sem] theorem exitTo_ops {i : Nat} {l : List MOp} : exitTo i (.ops l kill :: k) = exitTo i k := rfl
@[go_sem] theorem exitTo_loop {i : Nat} {a b : List Nat} {c : MC} : exitTo i (.inLoop a b c :: k) = exitTo i k := rfl
def bCond (v : AV) (A B : Prop) : Prop := match v with | .bool b => if b = true then A else B | _ => False
def WC (T : Nat → Option MFun) (cx : Cx) (v : AV) (t e : MC) (k : List Item) (s : St) (Q : St → Prop) : Prop := bCond v (W T cx (.code t :: k) s Q) (W T cx (.code e :: k) s Q)
@[go_sem] theorem WC_true {t e : MC} {s : St} : WC T cx (.bool true) t e k s Q = W T cx (.code t :: k) s Q := rfl
@[go_sem] theorem WC_false {t e : MC} {s : St} : WC T cx (.bool false) t e k s Q = W T cx (.code e :: k) s Q := rfl
theorem WC_intro {b : Bool} {t e : MC} {s : St} (h1 : b = true → W T cx (.code t :: k) s Q) (h2 : b = false → W T cx (.code e :: k) s Q) : WC T cx (.bool b) t e k s Q := by
  cases b
  · exact h2 rfl
  · exact h1 rfl
@[go_sem] theorem W_cond {c : Opd} {t e : MC} {s : St} : W T cx (.code (.cond c t e) :: k) s Q = WC T cx (s.opd c) t e k s Q := by
  show _ = bCond (s.opd c) (W T cx (.code t :: k) s Q) (W T cx (.code e :: k) s Q)
  cases hc : s.opd c with
  | bool b => cases b <;> simp only [bCond] <;> exact W_iff (by simp [next, hc])
  | _ => exact W_fail (by simp [next, hc])
@[go_sem] theorem W_opsnil : W T cx (.ops [] kill :: k) ⟨sl, own, h⟩ Q = W T cx k ⟨sl.without kill, own, h⟩ Q := W_iff rfl
def gCond (v : AV) (b : Bool) (A B : Prop) : Prop := match v with
  | .bool c => if (c == b) = true then A else B
  | .tup .unit => B
  | _ => False
def WG (T : Nat → Option MFun) (cx : Cx) (v : AV) (b : Bool) (d : Option Nat) (o : MK) (r : List MOp) (kill : List Nat) (k : List Item) (s : St) (Q : St → Prop) : Prop :=
  gCond v b (W T cx (.ops (⟨d, o, none⟩ :: r) kill :: k) s Q) (W T cx (.ops r kill :: k) (s.setd d .undef) Q)
@[go_sem] theorem WG_tt {d : Option Nat} {o : MK} {s : St} : WG T cx (.bool true) true d o r kill k s Q = W T cx (.ops (⟨d, o, none⟩ :: r) kill :: k) s Q := rfl
@[go_sem] theorem WG_ff {d : Option Nat} {o : MK} {s : St} : WG T cx (.bool false) false d o r kill k s Q = W T cx (.ops (⟨d, o, none⟩ :: r) kill :: k) s Q := rfl
@[go_sem] theorem WG_tf {d : Option Nat} {o : MK} {s : St} : WG T cx (.bool true) false d o r kill k s Q = W T cx (.ops r kill :: k) (s.setd d .undef) Q := rfl
@[go_sem] theorem WG_ft {d : Option Nat} {o : MK} {s : St} : WG T cx (.bool false) true d o r kill k s Q = W T cx (.ops r kill :: k) (s.setd d .undef) Q := rfl
@[go_sem] theorem WG_undef {b : Bool} {d : Option Nat} {o : MK} {s : St} : WG T cx .undef b d o r kill k s Q = W T cx (.ops r kill :: k) (s.setd d .undef) Q := rfl
theorem WG_intro {b c : Bool} {d : Option Nat} {o : MK} {s : St} (h1 : b = c → W T cx (.ops (⟨d, o, none⟩ :: r) kill :: k) s Q) (h2 : b = (!c) → W T cx (.ops r kill :: k) (s.setd d .undef) Q) : WG T cx (.bool b) c d o r kill k s Q := by
  cases b <;> cases c
  · exact h1 rfl
  · exact h2 rfl
  · exact h2 rfl
  · exact h1 rfl
@[go_sem] theorem W_guard {d : Option Nat} {o : MK} {t : Nat} {b : Bool} {s : St} : W T cx (.ops (⟨d, o, some (t, b)⟩ :: r) kill :: k) s Q = WG T cx (Slots.get s.sl t) b d o r kill k s Q := by
  show _ = gCond (Slots.get s.sl t) b (W T cx (.ops (⟨d, o, none⟩ :: r) kill :: k) s Q) (W T cx (.ops r kill :: k) (s.setd d .undef) Q)
  have key : ∀ (o' : MOp), o'.d = d → o'.k = o → s.wanted o'.g = some true → next T cx (.ops (o' :: r) kill :: k) s = opCmd T cx d o (.ops r kill :: k) s := by
    intro o' h1 h2 h3; subst h1; subst h2; simp [next, h3]
  have e : s.wanted (some (t, b)) = some true → W T cx (.ops (⟨d, o, some (t, b)⟩ :: r) kill :: k) s Q = W T cx (.ops (⟨d, o, none⟩ :: r) kill :: k) s Q := by
    intro hw
    have h1 := key ⟨d, o, some (t, b)⟩ rfl rfl hw
    have h2 := key ⟨d, o, none⟩ rfl rfl rfl
    apply propext
    constructor <;> rintro ⟨n, s', hr, hq⟩ <;> refine ⟨n, s', ?_, hq⟩ <;> cases n <;> simp only [run] at hr ⊢
    · exact absurd hr (by simp)
    · rw [h2]; rw [h1] at hr; exact hr
    · exact absurd hr (by simp)
    · rw [h1]; rw [h2] at hr; exact hr
  have e2 : s.wanted (some (t, b)) = some false → W T cx (.ops (⟨d, o, some (t, b)⟩ :: r) kill :: k) s Q = W T cx (.ops r kill :: k) (s.setd d .undef) Q := by
    intro hw; exact W_iff (by simp [next, hw])
  have e3 : s.wanted (some (t, b)) = none → W T cx (.ops (⟨d, o, some (t, b)⟩ :: r) kill :: k) s Q = False := by
    intro hw; exact W_fail (by simp [next, hw])
  cases hv : Slots.get s.sl t with
  | bool c =>
    simp only [gCond]
    split
    · exact e (by simp_all [St.wanted])
    · exact e2 (by simp_all [St.wanted])
  | tup v => cases v with
    | unit => exact e2 (by simp [St.wanted, hv])
    | _ => exact e3 (by simp [St.wanted, hv])
  | _ => exact e3 (by simp [St.wanted, hv])
def MK.isCallK : MK → Bool
  | .call .. => true
  | .callv .. => true
  | _ => false
theorem W_op {d : Option Nat} {o : MK} (hc : o.isCallK = false) {s : St} : W T cx (.ops (⟨d, o, none⟩ :: r) kill :: k) s Q =
    onO (evOp cx d o s) fun p => W T cx (.ops r kill :: k) (p.2.setd d p.1) Q := by
  have hn : next T cx (.ops (⟨d, o, none⟩ :: r) kill :: k) s = match evOp cx d o s with
    | some (v, s') => .go (.ops r kill :: k) (s'.setd d v)
    | none => .fail := by
    simp only [next, St.wanted]
    cases o <;> first | rfl | simp [MK.isCallK] at hc
  cases he : evOp cx d o s with
  | none => rw [he] at hn; exact W_fail hn
  | some p => rw [he] at hn; exact W_iff hn
theorem W_val {d : Option Nat} {o : MK} (hc : o.isCallK = false) {s : St} {f : Option AV} (he : evK s.opd (s.look cx) o = f.map .val) : W T cx (.ops (⟨d, o, none⟩ :: r) kill :: k) s Q =
    onO f fun v => W T cx (.ops r kill :: k) (s.setd d v) Q := by
  rw [W_op hc, evOp, he]
  cases f <;> rfl
@[go_sem] theorem W_mov {d : Option Nat} {x : Opd} {s : St} : W T cx (.ops (⟨d, .mov x, none⟩ :: r) kill :: k) s Q = W T cx (.ops r kill :: k) (s.setd d (s.opd x)) Q :=
  W_val (f := some (s.opd x)) rfl rfl
def pickV : AV → AV → AV → Option AV
  | .bool true, a, _ => some a
  | .bool false, _, b => some b
  | _, _, _ => none
@[go_sem] theorem pickV_t (a b : AV) : pickV (.bool true) a b = some a := rfl
@[go_sem] theorem pickV_f (a b : AV) : pickV (.bool false) a b = some b := rfl
@[go_sem] theorem pickV_bb (c x y : Bool) : pickV (.bool c) (.bool x) (.bool y) = some (.bool (if c = true then x else y)) := by cases c <;> rfl
@[go_sem] theorem W_pick {d : Option Nat} {c x y : Opd} {s : St} : W T cx (.ops (⟨d, .pick c x y, none⟩ :: r) kill :: k) s Q = W1 T cx (pickV (s.opd c) (s.opd x) (s.opd y)) d r kill k s Q :=
  W_val rfl (by simp only [evK]; split <;> simp_all [pickV])
@[go_sem] theorem W_bin {d : Option Nat} {op : BinOp} {x y : Opd} {s : St} : W T cx (.ops (⟨d, .bin op x y, none⟩ :: r) kill :: k) s Q = W1 T cx (evBin op (s.opd x) (s.opd y)) d r kill k s Q :=
  W_val rfl rfl
@[go_sem] theorem W_un {d : Option Nat} {op : UnOp} {x : Opd} {s : St} : W T cx (.ops (⟨d, .un op x, none⟩ :: r) kill :: k) s Q = W1 T cx (evUn op (s.opd x)) d r kill k s Q :=
  W_val rfl rfl
def eqV (t : Ty) (neg : Bool) (x y : AV) : Option AV := if t.eqOk x && t.eqOk y then (x.eq y).map fun b => .bool (if neg then !b else b) else none
@[go_sem] theorem W_eq {d : Option Nat} {neg : Bool} {t : Ty} {x y : Opd} {s : St} : W T cx (.ops (⟨d, .eq neg t x y, none⟩ :: r) kill :: k) s Q = W1 T cx (eqV t neg (s.opd x) (s.opd y)) d r kill k s Q :=
  W_val rfl (by simp only [evK, eqV]; split <;> simp [Function.comp_def])
@[go_sem] theorem W_alloc {d : Nat} {t : Ty} : W T cx (.ops (⟨some d, .alloc false t, none⟩ :: r) kill :: k) ⟨sl, own, h⟩ Q =
    W T cx (.ops r kill :: k) ⟨(Slots.forget sl (.stk cx.lvl d)).set d (.ptr (.stk cx.lvl d) [] t), own.set d ⟨t, t.zero⟩, h⟩ Q := by
  rw [W_op rfl]; rfl
@[go_sem] theorem W_box {d : Nat} {t : Ty} {x : Opd} : W T cx (.ops (⟨some d, .box false t x, none⟩ :: r) kill :: k) ⟨sl, own, h⟩ Q =
    (t.fits (St.opd ⟨sl, own, h⟩ x) = true ∧ W T cx (.ops r kill :: k) ⟨(Slots.forget sl (.stk cx.lvl d)).set d (.ptr (.stk cx.lvl d) [] t), own.set d ⟨t, St.opd ⟨sl, own, h⟩ x⟩, h⟩ Q) := by
  rw [W_op rfl, evOp]
  simp only [evK]
  by_cases h1 : t.fits (St.opd ⟨sl, own, h⟩ x) = true
  · simp only [h1, true_and, if_true]; rfl
  · simp only [h1, false_and, Bool.false_eq_true, if_false]; rfl
@[go_sem] theorem W_build {d : Option Nat} {t : Ty} {ps : List (Nat × Opd)} {s : St} : W T cx (.ops (⟨d, .build t ps, none⟩ :: r) kill :: k) s Q = W1 T cx (fill t t.zero (ps.map fun p => (p.1, s.opd p.2))) d r kill k s Q :=
  W_val rfl rfl
def ldV (t : Ty) (x : AV) (R : Id → List Nat → Option AV) : Option AV := match x with
  | .ptr i p t' => if t = t' then match R i p with | some v => if t.fits v then some v else none | none => none else none
  | _ => none
def fitO (t : Ty) : Option AV → Option AV | some v => if t.fits v = true then some v else none | none => none
@[go_sem] theorem ldV_ptr (t : Ty) (i : Id) (p : List Nat) (R : Id → List Nat → Option AV) : ldV t (.ptr i p t) R = fitO t (R i p) := by simp only [ldV, if_true, fitO]
theorem fitO_some {t : Ty} {v : AV} (hv : t.fits v = true) : fitO t (some v) = some v := by simp [fitO, hv]
@[go_sem] theorem fitO_int (k : IntKind) (n : Int) : fitO (.leaf (.int k)) (some (.int k n)) = some (.int k n) := fitO_some (by simp [Ty.fits, LK.fits, AV.safe])
@[go_sem] theorem fitO_str (s : ByteArray) : fitO (.leaf .str) (some (.str s)) = some (.str s) := rfl
@[go_sem] theorem fitO_bool (b : Bool) : fitO (.leaf .bool) (some (.bool b)) = some (.bool b) := rfl
@[go_sem] theorem W_load {d : Option Nat} {t : Ty} {x : Opd} {s : St} : W T cx (.ops (⟨d, .load false none t x, none⟩ :: r) kill :: k) s Q = W1 T cx (ldV t (s.opd x) (s.rd cx)) d r kill k s Q :=
  W_val rfl (by
    simp only [evK]
    cases s.opd x <;> simp only [ldV, rooted, Bool.false_eq_true, false_implies, true_and, and_true, Option.map_none] <;> try rfl
    rename_i i p t'
    by_cases ht : t = t'
    · simp only [ht, if_true, St.rd]
      cases (s.look cx i).bind fun b => b.val.at p with
      | none => rfl
      | some v => by_cases hf : t'.fits v = true <;> simp [hf]
    · simp only [ht, if_false, Option.map_none])
def intoV (x v : AV) : Bool := match x with | .ptr i _ _ => v.into i | _ => false
@[go_sem] theorem intoV_ptr (i : Id) (p : List Nat) (t : Ty) (v : AV) : intoV (.ptr i p t) v = v.into i := rfl
def apartV (x v : AV) : Bool := match x with | .ptr i _ _ => v.apart i | _ => false
@[go_sem] theorem apartV_ptr (i : Id) (p : List Nat) (t : Ty) (v : AV) : apartV (.ptr i p t) v = v.apart i := rfl
def apAll (s : St) (x : AV) : List Nat → Prop
  | [] => True
  | u :: l => apartV x (Slots.get s.sl u) = true ∧ apAll s x l
@[go_sem] theorem apAll_nil (s : St) (x : AV) : apAll s x [] = True := rfl
@[go_sem] theorem apAll_cons (x : AV) (u : Nat) (l : List Nat) : apAll ⟨sl, own, h⟩ x (u :: l) = (apartV x (Slots.get sl u) = true ∧ apAll ⟨sl, own, h⟩ x l) := rfl
theorem apAll_iff (s : St) (x : AV) : ∀ l, apAll s x l = ∀ u ∈ l, apartV x (Slots.get s.sl u) = true
  | [] => by simp [apAll]
  | u :: l => by simp [apAll, apAll_iff s x l]
def nilV : AV → Option AV
  | .ptr i p t => some (.ptr i p t)
  | _ => none
@[go_sem] theorem nilV_ptr (i : Id) (p : List Nat) (t : Ty) : nilV (.ptr i p t) = some (.ptr i p t) := rfl
@[go_sem] theorem W_loadr {d : Option Nat} {u : Nat} {t : Ty} {x : Opd} {s : St} : W T cx (.ops (⟨d, .load false (some u) t x, none⟩ :: r) kill :: k) s Q =
    (intoV (s.opd x) (Slots.get s.sl u) = true ∧ W1 T cx (ldV t (s.opd x) (s.rd cx)) d r kill k s Q) := by
  rw [W_op rfl, evOp]
  simp only [evK]
  cases hx : s.opd x <;> simp only [intoV, ldV, rooted, Bool.false_eq_true, false_implies, true_and, and_true, false_and] <;> try rfl
  rename_i i p t'
  by_cases h1 : (Slots.get s.sl u).into i = true
  · have h1' : (s.opd (.s u)).into i = true := h1
    simp only [h1, h1', and_true, true_and]
    by_cases ht : t = t'
    · simp only [ht, if_true, St.rd]
      cases (s.look cx i).bind fun b => b.val.at p with
      | none => rfl
      | some v => by_cases hf : t'.fits v = true <;> simp [hf, onO, applyEff, W1]
    · simp only [ht, if_false]; rfl
  · have h1' : ¬(s.opd (.s u)).into i = true := h1
    simp only [h1, h1', and_false, false_and, if_false, Bool.false_eq_true, onO, W1]
@[go_sem] theorem W_nilck {d : Option Nat} {x : Opd} {s : St} : W T cx (.ops (⟨d, .nilck x, none⟩ :: r) kill :: k) s Q = W1 T cx (nilV (s.opd x)) d r kill k s Q :=
  W_val rfl (by simp only [evK, nilV]; split <;> simp_all)
def fldV (st : Ty) (i : Nat) (ft : Ty) (x : AV) : Option AV := match x with
  | .ptr j p t => if t = st ∧ st.field i = some ft then some (.ptr j (p ++ [i]) ft) else none
  | _ => none
@[go_sem] theorem fldV_ptr (st : Ty) (i : Nat) (ft : Ty) (j : Id) (p : List Nat) : fldV st i ft (.ptr j p st) = if st.field i = some ft then some (.ptr j (p ++ [i]) ft) else none := by simp [fldV]
@[go_sem] theorem W_fld {d : Option Nat} {i : Nat} {st ft : Ty} {x : Opd} {s : St} : W T cx (.ops (⟨d, .fld st i ft x, none⟩ :: r) kill :: k) s Q = W1 T cx (fldV st i ft (s.opd x)) d r kill k s Q :=
  W_val rfl (by simp only [evK, fldV]; cases s.opd x <;> simp only [Option.map_none] <;> split <;> rfl)
def idxV (n : Nat) (t : Ty) (x i : AV) : Option AV := match x, toIx i with
  | .ptr j p t', some z => if t' = .arr n t ∧ 0 ≤ z ∧ z < (n : Int) then some (.ptr j (p ++ [z.toNat]) t) else none
  | _, _ => none
@[go_sem] theorem idxV_nat {n : Nat} {t : Ty} {j : Id} {p : List Nat} {k : IntKind} {m : Nat} (hm : m < n) : idxV n t (.ptr j p (.arr n t)) (.int k (m : Int)) = some (.ptr j (p ++ [m]) t) := by
  simp only [idxV, toIx]; rw [if_pos ⟨trivial, by omega, by omega⟩]; rfl
@[go_sem] theorem idxV_int {n : Nat} {t : Ty} {j : Id} {p : List Nat} {k : IntKind} {z : Int} (h0 : 0 ≤ z) (hm : z < n) : idxV n t (.ptr j p (.arr n t)) (.int k z) = some (.ptr j (p ++ [z.toNat]) t) := by
  simp only [idxV, toIx]; rw [if_pos ⟨trivial, by omega, by omega⟩]
@[go_sem] theorem W_idx {d : Option Nat} {n : Nat} {t : Ty} {x i : Opd} {s : St} : W T cx (.ops (⟨d, .idx n t x i, none⟩ :: r) kill :: k) s Q = W1 T cx (idxV n t (s.opd x) (s.opd i)) d r kill k s Q :=
  W_val rfl (by
    simp only [evK, idxV]
    cases s.opd x <;> try rfl
    cases toIx (s.opd i) <;> try rfl
    simp only
    split <;> rfl)
def aidxV (n : Nat) (t : Ty) (x i : AV) : Option AV := match x, toIx i with
  | .arr m f, some z => if h : 0 ≤ z ∧ z < (m : Int) then if (Ty.arr n t).fits (.arr m f) then some (f ⟨z.toNat, by omega⟩) else none else none
  | _, _ => none
@[go_sem] theorem aidxV_nat {n : Nat} {t : Ty} {f : Fin n → AV} {k : IntKind} {m : Nat} (hm : m < n) (hf : (Ty.arr n t).fits (.arr n f) = true) : aidxV n t (.arr n f) (.int k (m : Int)) = some (f ⟨m, hm⟩) := by
  simp only [aidxV, toIx]; rw [dif_pos ⟨by omega, by omega⟩, if_pos hf]; rfl
@[go_sem] theorem W_aidx {d : Option Nat} {n : Nat} {t : Ty} {x i : Opd} {s : St} : W T cx (.ops (⟨d, .aidx n t x i, none⟩ :: r) kill :: k) s Q = W1 T cx (aidxV n t (s.opd x) (s.opd i)) d r kill k s Q :=
  W_val rfl (by
    simp only [evK, aidxV]
    cases s.opd x <;> try rfl
    cases toIx (s.opd i) <;> try rfl
    simp only
    split <;> try rfl
    split <;> rfl)
def stridxV (x i : AV) : Option AV := match x, toIx i with
  | .str b, some z => if 0 ≤ z then (b[z.toNat]?).map fun c => .int .u8 c.toNat else none
  | _, _ => none
@[go_sem] theorem W_stridx {d : Option Nat} {x i : Opd} {s : St} : W T cx (.ops (⟨d, .stridx x i, none⟩ :: r) kill :: k) s Q = W1 T cx (stridxV (s.opd x) (s.opd i)) d r kill k s Q :=
  W_val rfl (by
    simp only [evK, stridxV]
    cases s.opd x <;> try rfl
    cases toIx (s.opd i) <;> try rfl
    simp only
    split <;> simp [Function.comp_def])
def fieldV (t : Ty) (x : AV) (i : Nat) : Option AV := if t.fits x then x.field i else none
@[go_sem] theorem W_field {d : Option Nat} {t : Ty} {x : Opd} {i : Nat} {s : St} : W T cx (.ops (⟨d, .field t x i, none⟩ :: r) kill :: k) s Q = W1 T cx (fieldV t (s.opd x) i) d r kill k s Q :=
  W_val rfl (by simp only [evK, fieldV]; split <;> simp)
def extV (x : AV) (i : Nat) : Option AV := match x with
  | .tup v => match v.field i with
    | some u => if u.safe then some u else none
    | none => none
  | _ => none
@[go_sem] theorem W_ext {d : Option Nat} {x : Opd} {i : Nat} {s : St} : W T cx (.ops (⟨d, .ext x i, none⟩ :: r) kill :: k) s Q = W1 T cx (extV (s.opd x) i) d r kill k s Q :=
  W_val rfl (by
    simp only [evK, extV]
    cases s.opd x <;> try rfl
    rename_i w
    simp only
    cases w.field i with
    | none => rfl
    | some u => by_cases hu : u.safe = true <;> simp [hu])
def convV (k : IntKind) (x : AV) : Option AV := match x with | .int _ n => some (.int k (k.wrap n)) | _ => none
@[go_sem] theorem convV_int (k k' : IntKind) (n : Int) : convV k (.int k' n) = some (.int k (k.wrap n)) := rfl
@[go_sem] theorem W_conv {d : Option Nat} {kk : IntKind} {x : Opd} {s : St} : W T cx (.ops (⟨d, .conv kk x, none⟩ :: r) kill :: k) s Q = W1 T cx (convV kk (s.opd x)) d r kill k s Q :=
  W_val rfl (by simp only [evK, convV]; cases s.opd x <;> rfl)
def lenV (str : Bool) (x : AV) : Option AV := match str, x with
  | true, .str b => some (.int .i64 b.size)
  | false, .nilsl => some (.int .i64 0)
  | false, .sl _ _ n => some (.int .i64 n)
  | false, .slz => some (.int .i64 0)
  | _, _ => none
@[go_sem] theorem lenV_str (b : ByteArray) : lenV true (.str b) = some (.int .i64 b.size) := rfl
@[go_sem] theorem lenV_nil : lenV false .nilsl = some (.int .i64 0) := rfl
@[go_sem] theorem lenV_slz : lenV false .slz = some (.int .i64 0) := rfl
@[go_sem] theorem lenV_sl (i : Id) (o n : Nat) : lenV false (.sl i o n) = some (.int .i64 n) := rfl
@[go_sem] theorem W_len {d : Option Nat} {b : Bool} {x : Opd} {s : St} : W T cx (.ops (⟨d, .len b x, none⟩ :: r) kill :: k) s Q = W1 T cx (lenV b (s.opd x)) d r kill k s Q :=
  W_val rfl (by simp only [evK, lenV]; cases b <;> cases s.opd x <;> rfl)
def minV (x y : AV) : Option AV := match x, y with
  | .int k a, .int k' b => if k = k' then some (.int k (if b < a then b else a)) else none
  | _, _ => none
@[go_sem] theorem W_min {d : Option Nat} {x y : Opd} {s : St} : W T cx (.ops (⟨d, .min x y, none⟩ :: r) kill :: k) s Q = W1 T cx (minV (s.opd x) (s.opd y)) d r kill k s Q :=
  W_val rfl (by simp only [evK, minV]; cases s.opd x <;> try rfl
                cases s.opd y <;> try rfl
                simp only; split <;> rfl)
def maxV (x y : AV) : Option AV := match x, y with
  | .int k a, .int k' b => if k = k' then some (.int k (if a < b then b else a)) else none
  | _, _ => none
@[go_sem] theorem W_max {d : Option Nat} {x y : Opd} {s : St} : W T cx (.ops (⟨d, .max x y, none⟩ :: r) kill :: k) s Q = W1 T cx (maxV (s.opd x) (s.opd y)) d r kill k s Q :=
  W_val rfl (by simp only [evK, maxV]; cases s.opd x <;> try rfl
                cases s.opd y <;> try rfl
                simp only; split <;> rfl)
def HP.wr (h : HP) (i : Id) (p : List Nat) (v : AV) : HP := match h.look i with
  | some b => match b.val.put p v with
    | some u => h.set i ⟨b.ty, u⟩
    | none => h
  | none => h
def stV (cx : Cx) (t : Ty) (x v : AV) (s : St) : Option St := match x with
  | .ptr i p t' => if t = t' ∧ t.fits v = true then match s.look cx i with
      | some b => match b.val.put p v with
        | some u => s.write cx i ⟨b.ty, u⟩
        | none => none
      | none => none
    else none
  | _ => none
@[go_sem] theorem W_store {t : Ty} {x v : Opd} {s : St} : W T cx (.ops (⟨none, .store t [] x v, none⟩ :: r) kill :: k) s Q = W2 T cx (stV cx t (s.opd x) (s.opd v) s) r kill k Q := by
  rw [W_op rfl, evOp]
  simp only [evK, List.all_nil, and_true]
  cases s.opd x <;> simp only [stV] <;> try rfl
  rename_i i p t'
  by_cases hc : t = t' ∧ t.fits (s.opd v) = true
  · rw [if_pos hc, if_pos hc]
    cases s.look cx i with
    | none => rfl
    | some b =>
      simp only
      cases b.val.put p (s.opd v) with
      | none => rfl
      | some u =>
        simp only [applyEff]
        cases s.write cx i ⟨b.ty, u⟩ <;> rfl
  · rw [if_neg hc, if_neg hc]; rfl
@[go_sem] theorem W_storea {t : Ty} {a : Nat} {ap : List Nat} {x v : Opd} {s : St} : W T cx (.ops (⟨none, .store t (a :: ap) x v, none⟩ :: r) kill :: k) s Q =
    (apAll s (s.opd x) (a :: ap) ∧ W2 T cx (stV cx t (s.opd x) (s.opd v) s) r kill k Q) := by
  rw [W_op rfl, evOp, apAll_iff]
  simp only [evK]
  cases hx : s.opd x <;> simp only [apartV, stV, W2, onO, and_false] <;> try rfl
  rename_i i p t'
  by_cases ha : ((a :: ap).all fun u => (s.opd (.s u)).apart i) = true
  · have ha' : ∀ u ∈ a :: ap, (Slots.get s.sl u).apart i = true := by simpa [List.all_eq_true, St.opd] using ha
    simp only [ha, and_true]
    rw [eq_true ha', true_and]
    by_cases hc : t = t' ∧ t.fits (s.opd v) = true
    · rw [if_pos hc, if_pos hc]
      cases s.look cx i with
      | none => rfl
      | some b =>
        simp only
        cases b.val.put p (s.opd v) with
        | none => rfl
        | some u =>
          simp only [applyEff]
          cases s.write cx i ⟨b.ty, u⟩ <;> rfl
    · rw [if_neg hc, if_neg hc]
  · have ha' : ¬∀ u ∈ a :: ap, (Slots.get s.sl u).apart i = true := by simpa [List.all_eq_true, St.opd] using ha
    rw [eq_false ha', false_and]
    simp only [ha, Bool.false_eq_true, and_false, if_false]
def ownW (own : Own) (d : Nat) (p : List Nat) (v : AV) : Option Own := match own.get d with
  | some b => match b.val.put p v with
    | some u => some (own.set d ⟨b.ty, u⟩)
    | none => none
  | none => none
@[go_sem] theorem stV_own {t : Ty} {d : Nat} {p : List Nat} {v : AV} : stV cx t (.ptr (.stk cx.lvl d) p t) v ⟨sl, own, h⟩ = if t.fits v = true then (ownW own d p v).map fun o => ⟨sl, o, h⟩ else none := by
  simp only [stV, true_and, St.look, Id.own, if_true, St.write, ownW]
  split <;> try rfl
  cases own.get d with
  | none => rfl
  | some b =>
    simp only
    cases b.val.put p v <;> rfl
end
end Go.Mini

namespace Go.Mini
set_option linter.unusedSimpArgs false
set_option linter.unusedVariables false
section
variable {T : Nat → Option MFun} {cx : Cx} {k : List Item} {kill : List Nat} {r : List MOp} {sl : Slots} {own : Own} {h : HP} {Q : St → Prop}
@[go_sem] theorem get_nil (u : Nat) : Slots.get [] u = .bot := rfl
@[go_sem] theorem get_cons (t u : Nat) (v : AV) (s : Slots) : Slots.get ((t, v) :: s) u = if t = u then v else Slots.get s u := rfl
@[go_sem] theorem set_nil (u : Nat) (x : AV) : Slots.set [] u x = [(u, x)] := rfl
@[go_sem] theorem set_cons (t u : Nat) (v x : AV) (s : Slots) : Slots.set ((t, v) :: s) u x = if t = u then (u, x) :: s else if u < t then (u, x) :: (t, v) :: s else (t, v) :: Slots.set s u x := rfl
@[go_sem] theorem oget_nil (u : Nat) : Own.get [] u = none := rfl
@[go_sem] theorem oget_cons (t u : Nat) (v : Blk) (s : Own) : Own.get ((t, v) :: s) u = if t = u then some v else Own.get s u := rfl
@[go_sem] theorem oset_nil (u : Nat) (x : Blk) : Own.set [] u x = [(u, x)] := rfl
@[go_sem] theorem oset_cons (t u : Nat) (v x : Blk) (s : Own) : Own.set ((t, v) :: s) u x = if t = u then (u, x) :: s else if u < t then (u, x) :: (t, v) :: s else (t, v) :: Own.set s u x := rfl
@[go_sem] theorem has_nil (t : Nat) : has [] t = false := rfl
@[go_sem] theorem has_cons (a t : Nat) (l : List Nat) : has (a :: l) t = (a == t || has l t) := rfl
@[go_sem] theorem without_nil (l : List Nat) : Slots.without [] l = [] := rfl
@[go_sem] theorem without_cons (t : Nat) (v : AV) (s : Slots) (l : List Nat) : Slots.without ((t, v) :: s) l = if has l t = true then Slots.without s l else (t, v) :: Slots.without s l := rfl
@[go_sem] theorem only_nil (l : List Nat) : Slots.only [] l = [] := rfl
@[go_sem] theorem only_cons (t : Nat) (v : AV) (s : Slots) (l : List Nat) : Slots.only ((t, v) :: s) l = if has l t = true then (t, v) :: Slots.only s l else Slots.only s l := rfl
@[go_sem] theorem oonly_nil (l : List Nat) : Own.only [] l = [] := rfl
@[go_sem] theorem oonly_cons (t : Nat) (v : Blk) (s : Own) (l : List Nat) : Own.only ((t, v) :: s) l = if has l t = true then (t, v) :: Own.only s l else Own.only s l := rfl
@[go_sem] theorem keep_mk (a b : List Nat) : St.keep ⟨sl, own, h⟩ a b = ⟨sl.only a, own.only b, h⟩ := rfl
@[go_sem] theorem setd_some (d : Nat) (v : AV) : St.setd ⟨sl, own, h⟩ (some d) v = ⟨sl.set d v, own, h⟩ := rfl
@[go_sem] theorem setd_none (v : AV) (s : St) : St.setd s none v = s := rfl
@[go_sem] theorem opd_s (t : Nat) : St.opd ⟨sl, own, h⟩ (.s t) = sl.get t := rfl
@[go_sem] theorem opd_c (v : AV) (s : St) : St.opd s (.c v) = v := rfl
@[go_sem] theorem opd_f (n : Nat) (s : St) : St.opd s (.f n) = .func n .unit := rfl
def fg (v : AV) (i : Id) : AV := if v.leads i then .bot else v
@[go_sem] theorem forget_nil (i : Id) : Slots.forget [] i = [] := rfl
@[go_sem] theorem forget_cons (t : Nat) (v : AV) (s : Slots) (i : Id) : Slots.forget ((t, v) :: s) i = (t, fg v i) :: Slots.forget s i := rfl
@[go_sem] theorem fg_int (k : IntKind) (n : Int) (i : Id) : fg (.int k n) i = .int k n := rfl
@[go_sem] theorem fg_bool (b : Bool) (i : Id) : fg (.bool b) i = .bool b := rfl
@[go_sem] theorem fg_str (b : ByteArray) (i : Id) : fg (.str b) i = .str b := rfl
@[go_sem] theorem fg_arr {n : Nat} (f : Fin n → AV) (i : Id) : fg (.arr n f) i = .arr n f := rfl
@[go_sem] theorem fg_cons (a b : AV) (i : Id) : fg (.cons a b) i = .cons a b := rfl
@[go_sem] theorem fg_tup (a : AV) (i : Id) : fg (.tup a) i = .tup a := rfl
@[go_sem] theorem fg_undef (i : Id) : fg .undef i = .undef := rfl
@[go_sem] theorem fg_bot (i : Id) : fg .bot i = .bot := rfl
@[go_sem] theorem fg_nilp (i : Id) : fg .nilp i = .nilp := rfl
@[go_sem] theorem fg_nilsl (i : Id) : fg .nilsl i = .nilsl := rfl
@[go_sem] theorem fg_ite (c : Prop) [Decidable c] (a b : AV) (i : Id) : fg (if c then a else b) i = if c then fg a i else fg b i := by split <;> rfl
def Id.below : Id → Nat → Prop
  | .stk l' _, l => l' < l
  | _, _ => True
theorem below_own {i : Id} {l : Nat} (h : i.below l) : i.own l = none := by
  cases i <;> simp_all [Id.below, Id.own]
  omega
theorem Id.below.succ {i : Id} {l : Nat} (h : i.below l) : i.below (l + 1) := by
  cases i <;> simp_all [Id.below]
  omega
@[go_sem] theorem below_stk (l t : Nat) : (Id.stk l t).below (l + 1) := by simp [Id.below]
@[go_sem] theorem below_obj (n l : Nat) : (Id.obj n).below l := trivial
@[go_sem] theorem below_arg (n l : Nat) : (Id.arg n).below l := trivial
theorem Id.below.ne {i : Id} {l t : Nat} (h : i.below l) : i ≠ .stk l t := by
  rintro rfl; simp [Id.below] at h
theorem fg_ptr {i : Id} {l t : Nat} (h : i.below l) (p : List Nat) (u : Ty) : fg (.ptr i p u) (.stk l t) = .ptr i p u := by
  have : (Id.stk l t == i) = false := by simpa using fun e : Id.stk l t = i => h.ne e.symm
  simp [fg, AV.leads, AV.isAgg, AV.names, this]
@[go_sem] theorem fg_own (l s t : Nat) (p : List Nat) (u : Ty) : fg (.ptr (.stk l s) p u) (.stk l t) = if t = s then .bot else .ptr (.stk l s) p u := by
  simp only [fg, AV.leads, AV.isAgg, AV.names, Bool.not_false, Bool.true_and, beq_iff_eq, Id.stk.injEq, true_and]
def siteOkK (cx : Cx) (s : St) : Option Nat → Bool
  | some d => (s.own.get d).isNone && s.sl.all fun p => !(p.2.leads (.stk cx.lvl d))
  | none => true
def noLead (l d : Nat) : Slots → Bool
  | [] => true
  | (_, v) :: s => !(v.leads (.stk l d)) && noLead l d s
@[go_sem] theorem noLead_nil (l d : Nat) : noLead l d [] = true := rfl
@[go_sem] theorem noLead_cons (l d t : Nat) (v : AV) (s : Slots) : noLead l d ((t, v) :: s) = (!(v.leads (.stk l d)) && noLead l d s) := rfl
@[go_sem] theorem siteOkK_none (s : St) : siteOkK cx s none = true := rfl
@[go_sem] theorem siteOkK_some (d : Nat) : siteOkK cx ⟨sl, own, h⟩ (some d) = ((own.get d).isNone && noLead cx.lvl d sl) := by
  simp only [siteOkK]; congr 1
  induction sl with
  | nil => rfl
  | cons p r ih => obtain ⟨t, v⟩ := p; simp only [List.all_cons, noLead, ih]
@[go_sem] theorem W_regT {ops : List MOp} {s : St} : W T cx (.code (.reg true ops kill) :: k) s Q = ((ops.map MOp.site).all (siteOkK cx s) = true ∧ W T cx (.ops ops kill :: k) s Q) := by
  have hd : (ops.map MOp.site).all (siteOkK cx s) = drawHead cx s ops := by
    simp only [drawHead, List.all_map]; congr 1
  rw [hd]
  by_cases h1 : drawHead cx s ops = true
  · rw [eq_true h1, true_and]; exact W_iff (by simp [next, h1])
  · rw [eq_false h1, false_and]; exact W_fail (by simp [next, h1])
@[go_sem] theorem leads_int (k : IntKind) (n : Int) (i : Id) : (AV.int k n).leads i = false := rfl
@[go_sem] theorem leads_bool (b : Bool) (i : Id) : (AV.bool b).leads i = false := rfl
@[go_sem] theorem leads_str (b : ByteArray) (i : Id) : (AV.str b).leads i = false := rfl
@[go_sem] theorem leads_arr {n : Nat} (f : Fin n → AV) (i : Id) : (AV.arr n f).leads i = false := rfl
@[go_sem] theorem leads_cons (a b : AV) (i : Id) : (AV.cons a b).leads i = false := rfl
@[go_sem] theorem leads_tup (a : AV) (i : Id) : (AV.tup a).leads i = false := rfl
@[go_sem] theorem leads_bot (i : Id) : AV.bot.leads i = false := rfl
@[go_sem] theorem leads_undef (i : Id) : AV.undef.leads i = false := rfl
@[go_sem] theorem leads_nilp (i : Id) : AV.nilp.leads i = false := rfl
theorem leads_ptr {i : Id} {l t : Nat} (h : i.below l) (p : List Nat) (u : Ty) : (AV.ptr i p u).leads (.stk l t) = false := by
  have : (Id.stk l t == i) = false := by simpa using fun e => h.ne e.symm
  simp [AV.leads, AV.isAgg, AV.names, this]
@[go_sem] theorem leads_own (l s t : Nat) (p : List Nat) (u : Ty) : (AV.ptr (.stk l s) p u).leads (.stk l t) = (t == s) := by
  simp only [AV.leads, AV.isAgg, AV.names, Bool.not_false, Bool.true_and]
  rw [Bool.eq_iff_iff]; simp
attribute [go_sem] MOp.site List.all_cons List.all_nil List.map_cons List.map_nil Option.isNone_none Option.isNone_some Bool.not_false Bool.not_true Bool.and_self Bool.true_and Bool.and_true Bool.or_true Bool.true_or Bool.or_false Bool.false_or Bool.false_and Bool.and_false true_and and_true Nat.reduceEqDiff Nat.reduceLT Nat.reduceBEq Bool.false_eq_true Option.map_some Option.map_none reduceCtorEq eq_self Nat.add_eq Nat.zero_add
attribute [go_sem ↓] reduceIte
@[go_sem] theorem rd_own {d : Nat} {p : List Nat} : St.rd cx ⟨sl, own, h⟩ (.stk cx.lvl d) p = (own.get d).bind fun b => b.val.at p := by
  simp [St.rd, St.look, Id.own]
theorem rd_ext {i : Id} (hi : i.below cx.lvl) {p : List Nat} : St.rd cx ⟨sl, own, h⟩ i p = h.rd i p := by
  simp [St.rd, St.look, below_own hi, HP.rd]
theorem HP.rd_app {h : HP} {i : Id} {p : List Nat} {v : AV} (hv : h.rd i p = some v) (q : List Nat) : h.rd i (p ++ q) = v.at q := by
  have key : ∀ (p : List Nat) (w : AV), w.at p = some v → w.at (p ++ q) = v.at q := by
    intro p
    induction p with
    | nil => intro w hw; simp [AV.at] at hw; subst hw; rfl
    | cons a p ih =>
      intro w hw
      match w, a, hw with
      | .arr n f, i, hw =>
        simp only [AV.at] at hw
        split at hw
        · rename_i hi; simp only [List.cons_append, AV.at, hi, dite_true]; exact ih _ hw
        · simp at hw
      | .cons x y, 0, hw => simp only [AV.at] at hw; simp only [List.cons_append, AV.at]; exact ih _ hw
      | .cons x y, i + 1, hw =>
        simp only [AV.at] at hw
        simp only [List.cons_append, AV.at]
        have : ∀ (j : Nat) (y : AV), y.at (j :: p) = some v → y.at (j :: (p ++ q)) = v.at q := by
          intro j
          induction j with
          | zero => intro y hy; match y, hy with
            | .arr n f, hy =>
              simp only [AV.at] at hy
              split at hy
              · rename_i hi; simp only [AV.at, hi, dite_true]; exact ih _ hy
              · simp at hy
            | .cons c d, hy => simp only [AV.at] at hy ⊢; exact ih _ hy
          | succ j ihj => intro y hy; match y, hy with
            | .arr n f, hy =>
              simp only [AV.at] at hy
              split at hy
              · rename_i hi; simp only [AV.at, hi, dite_true]; exact ih _ hy
              · simp at hy
            | .cons c d, hy => simp only [AV.at] at hy ⊢; exact ihj _ hy
        exact this i y hw
  unfold HP.rd at hv ⊢
  cases hl : h.look i with
  | none => rw [hl] at hv; simp at hv
  | some b => rw [hl] at hv; simp only [Option.bind] at hv ⊢; exact key p b.val hv
attribute [go_sem] Option.bind_some Option.bind_none List.append_assoc List.cons_append List.nil_append List.append_nil
@[go_sem] theorem at_nil (v : AV) : v.at [] = some v := by cases v <;> rfl
@[go_sem] theorem at_arr {n : Nat} {f : Fin n → AV} {i : Nat} (h : i < n) (p : List Nat) : (AV.arr n f).at (i :: p) = (f ⟨i, h⟩).at p := by simp [AV.at, h]
@[go_sem] theorem at_cons0 (a b : AV) (p : List Nat) : (AV.cons a b).at (0 :: p) = a.at p := rfl
@[go_sem] theorem at_cons1 (a b : AV) (i : Nat) (p : List Nat) : (AV.cons a b).at ((i + 1) :: p) = b.at (i :: p) := rfl
@[go_sem] theorem put_nil (v x : AV) : v.put [] x = some x := by cases v <;> rfl
@[go_sem] theorem put_cons0 (a b x : AV) (p : List Nat) : (AV.cons a b).put (0 :: p) x = (a.put p x).map fun y => .cons y b := rfl
@[go_sem] theorem put_cons1 (a b x : AV) (i : Nat) (p : List Nat) : (AV.cons a b).put ((i + 1) :: p) x = (b.put (i :: p) x).map fun y => .cons a y := rfl
@[go_sem] theorem put_arr {n : Nat} {f : Fin n → AV} {i : Nat} (h : i < n) (p : List Nat) (x : AV) : (AV.arr n f).put (i :: p) x = ((f ⟨i, h⟩).put p x).map fun y => .arr n fun j => if j.val = i then y else f j := by simp [AV.put, h]
@[go_sem] theorem ownW_eq (d : Nat) (p : List Nat) (v : AV) : ownW own d p v = (own.get d).bind fun b => (b.val.put p v).map fun u => own.set d ⟨b.ty, u⟩ := by
  simp only [ownW]
  cases own.get d with
  | none => rfl
  | some b => simp only [Option.bind]; cases b.val.put p v <;> rfl
@[go_sem] theorem fits_arrK {n : Nat} {t : Ty} {f : Fin n → AV} : ((Ty.arr n t).fits (.arr n f) = true) = ∀ i, t.fits (f i) = true := by
  simp [Ty.fits]
@[go_sem] theorem fits_cons (a b : Ty) (x y : AV) : ((Ty.cons a b).fits (.cons x y) = true) = (a.fits x = true ∧ b.fits y = true) := by simp [Ty.fits]
@[go_sem] theorem fits_unit : (Ty.unit.fits .unit = true) = True := by simp [Ty.fits]
@[go_sem] theorem fits_int (k : IntKind) (n : Int) : ((Ty.leaf (.int k)).fits (.int k n) = true) = True := by simp [Ty.fits, LK.fits, AV.safe]
@[go_sem] theorem fits_str (s : ByteArray) : ((Ty.leaf .str).fits (.str s) = true) = True := by simp [Ty.fits, LK.fits, AV.safe]
@[go_sem] theorem fits_bool (s : Bool) : ((Ty.leaf .bool).fits (.bool s) = true) = True := by simp [Ty.fits, LK.fits, AV.safe]
@[go_sem] theorem evBin_int (op : BinOp) (k : IntKind) (a b : Int) : evBin op (.int k a) (.int k b) = evInt op k a b := by simp [evBin]
@[go_sem] theorem evInt_eql (k : IntKind) (a b : Int) : evInt .eql k a b = some (.bool (decide (a = b))) := by simp [evInt]; rw [Bool.eq_iff_iff]; simp
@[go_sem] theorem evInt_neq (k : IntKind) (a b : Int) : evInt .neq k a b = some (.bool (!decide (a = b))) := by simp [evInt]; rw [Bool.eq_iff_iff]; simp
@[go_sem] theorem evInt_lss (k : IntKind) (a b : Int) : evInt .lss k a b = some (.bool (decide (a < b))) := rfl
@[go_sem] theorem evInt_leq (k : IntKind) (a b : Int) : evInt .leq k a b = some (.bool (decide (a ≤ b))) := rfl
@[go_sem] theorem evInt_gtr (k : IntKind) (a b : Int) : evInt .gtr k a b = some (.bool (decide (b < a))) := rfl
@[go_sem] theorem evInt_geq (k : IntKind) (a b : Int) : evInt .geq k a b = some (.bool (decide (b ≤ a))) := rfl
@[go_sem] theorem evInt_add (k : IntKind) (a b : Int) : evInt .add k a b = some (.int k (k.wrap (a + b))) := rfl
@[go_sem] theorem evInt_sub (k : IntKind) (a b : Int) : evInt .sub k a b = some (.int k (k.wrap (a - b))) := rfl
@[go_sem] theorem evInt_mul (k : IntKind) (a b : Int) : evInt .mul k a b = some (.int k (k.wrap (a * b))) := rfl
@[go_sem] theorem evBin_str (op : BinOp) (a b : ByteArray) : evBin op (.str a) (.str b) = evStr op a b := rfl
theorem bytes_loop (bs : ByteArray) : ∀ (n i : Nat) (r : List UInt8), bs.size - i = n → i ≤ bs.size → ByteArray.toList.loop bs i r = r.reverse ++ bs.data.toList.drop i := by
  have hlen : bs.data.toList.length = bs.size := Array.length_toList
  intro n
  induction n with
  | zero =>
    intro i r h hi
    have e : i = bs.size := by omega
    subst e
    rw [ByteArray.toList.loop, if_neg (Nat.lt_irrefl _), List.drop_eq_nil_of_le (by omega), List.append_nil]
  | succ n ih =>
    intro i r h hi
    have hlt : i < bs.size := by omega
    rw [ByteArray.toList.loop, if_pos hlt, ih (i + 1) _ (by omega) (by omega)]
    have hl : i < bs.data.toList.length := by omega
    rw [List.drop_eq_getElem_cons hl]
    have hg : bs.get! i = bs.data.toList[i] := by
      cases bs with
      | mk d =>
        have hd : i < d.size := hlt
        simp [ByteArray.get!, hd]
    simp [hg]
theorem bytes_list (bs : ByteArray) : bs.toList = bs.data.toList := by
  unfold ByteArray.toList
  rw [bytes_loop bs bs.size 0 [] (by omega) (by omega)]
  simp
theorem bytes_eq (a b : ByteArray) : (a.toList == b.toList) = decide (a = b) := by
  rw [Bool.eq_iff_iff]
  simp only [beq_iff_eq, decide_eq_true_eq]
  constructor
  · intro h
    rw [bytes_list, bytes_list] at h
    cases a; cases b
    simp only [ByteArray.mk.injEq]
    exact Array.toList_inj.1 h
  · rintro rfl; rfl
@[go_sem] theorem evStr_eql (a b : ByteArray) : evStr .eql a b = some (.bool (decide (a = b))) := by simp only [evStr, bytes_eq]
@[go_sem] theorem evStr_neq (a b : ByteArray) : evStr .neq a b = some (.bool (!decide (a = b))) := by simp only [evStr, bytes_eq]
@[go_sem] theorem evUn_not (b : Bool) : evUn .not (.bool b) = some (.bool !b) := rfl
@[go_sem] theorem wrap64 {n : Int} (h1 : -9223372036854775808 ≤ n) (h2 : n ≤ 9223372036854775807) : IntKind.i64.wrap n = n := by
  have e1 : (IntKind.i64).bits = 64 := rfl
  have e2 : (IntKind.i64).signed = true := rfl
  simp only [IntKind.wrap, e1, e2, Bool.true_and, ge_iff_le, decide_eq_true_eq]
  have p1 : (2 : Int) ^ 64 = 18446744073709551616 := rfl
  have p2 : (2 : Int) ^ (64 - 1) = 9223372036854775808 := rfl
  rw [p1, p2]
  split <;> omega
theorem Ok_eq {fn : MFun} {e : St} {R : AV → HP → Prop} : Ok T cx fn e R = W T cx [.code fn.body] e fun s => onO (results cx s fn.res) fun v => R v s.hp := by
  apply propext
  constructor
  · rintro ⟨n, s', v, hr, hv, hR⟩
    exact ⟨n, s', hr, by simp only [hv]; exact hR⟩
  · rintro ⟨n, s', hr, hq⟩
    cases hv : results cx s' fn.res with
    | none => rw [hv] at hq; exact hq.elim
    | some v => rw [hv] at hq; exact ⟨n, s', v, hr, hv, hq⟩
theorem Ok.mono {fn : MFun} {e : St} {R R' : AV → HP → Prop} (h : Ok T cx fn e R) (hr : ∀ v h', R v h' → R' v h') : Ok T cx fn e R' := by
  obtain ⟨n, s', v, h1, h2, h3⟩ := h; exact ⟨n, s', v, h1, h2, hr _ _ h3⟩
theorem W_callr {prot : Bool} {hide : List Nat} {f : Nat} {args : List Opd} {d : Option Nat} {fn : MFun} {R : AV → HP → Prop} (hf : T f = some fn) (hp : fn.params = args.length ∧ fn.nfree = 0)
    (hc : Ok T (St.callCx ⟨sl, own, h⟩ cx prot) fn (St.enter (args.map (St.opd ⟨sl, own, h⟩)) (h.push cx.lvl (own.veil hide))) R)
    (hq : ∀ v h', R v h' → W T cx (.ops r kill :: k) ((St.pop ⟨sl, own, h⟩ cx.lvl hide h').setd d v) Q) :
    W T cx (.ops (⟨d, .call prot hide f args, none⟩ :: r) kill :: k) ⟨sl, own, h⟩ Q := by
  refine W_call (R := R) (cx' := St.callCx ⟨sl, own, h⟩ cx prot) (hide := hide) (e := St.enter (args.map (St.opd ⟨sl, own, h⟩)) (h.push cx.lvl (own.veil hide))) (fn := fn) (d := d) (k1 := .ops r kill :: k) (s1 := ⟨sl, own, h⟩) ?_ hc hq
  simp only [next, St.wanted, opCmd, enterCmd, hf]
  rw [if_pos (by simpa using hp)]
  simp
@[go_sem] theorem veil_nil : own.veil [] = own := rfl
@[go_sem] theorem callCx_lvl (s : St) (p : Bool) : (s.callCx cx p).lvl = cx.lvl + 1 := rfl
theorem HP.push_rd_own {d : Nat} {p : List Nat} : (h.push cx.lvl own).rd (.stk cx.lvl d) p = (own.get d).bind fun b => b.val.at p := by
  simp [HP.rd, HP.look, HP.push]
theorem HP.push_rd_ext {i : Id} (hi : i.below cx.lvl) {p : List Nat} : (h.push cx.lvl own).rd i p = h.rd i p := by
  cases i <;> simp only [HP.rd, HP.look, HP.push]
  simp only [Id.below] at hi
  rw [if_neg (by omega)]
theorem pop_push : St.pop ⟨sl, own, h⟩ cx.lvl [] (h.push cx.lvl own) = ⟨sl, own, h⟩ := by
  simp only [St.pop, HP.pop, HP.push, Own.unveil, if_true]
  congr 1
  cases h
  simp only [HP.mk.injEq, and_true]
  funext l
  by_cases hl : l = cx.lvl <;> simp [hl]
theorem W_callp {prot : Bool} {f : Nat} {args : List Opd} {d : Option Nat} {fn : MFun} {v : AV} (hf : T f = some fn) (hp : fn.params = args.length ∧ fn.nfree = 0)
    (hc : Ok T (St.callCx ⟨sl, own, h⟩ cx prot) fn (St.enter (args.map (St.opd ⟨sl, own, h⟩)) (h.push cx.lvl own)) fun v' h' => v' = v ∧ h' = h.push cx.lvl own)
    (hq : W T cx (.ops r kill :: k) (St.setd ⟨sl, own, h⟩ d v) Q) :
    W T cx (.ops (⟨d, .call prot [] f args, none⟩ :: r) kill :: k) ⟨sl, own, h⟩ Q := by
  refine W_callr hf hp hc ?_
  rintro v h' ⟨rfl, rfl⟩
  rw [pop_push]; exact hq
@[go_sem] theorem results_tmp {t : Nat} : results cx ⟨sl, own, h⟩ [.tmp t] = if (sl.get t).safe = true then some (sl.get t) else none := rfl
@[go_sem] theorem safe_int (k : IntKind) (n : Int) : (AV.int k n).safe = true := rfl
@[go_sem] theorem safe_bool (b : Bool) : (AV.bool b).safe = true := rfl
@[go_sem] theorem safe_str (b : ByteArray) : (AV.str b).safe = true := rfl
def cellV (cx : Cx) (s : St) (t : AV) (ty : Ty) : Option AV := match t with
  | .ptr i [] t' => if ty = t' then (s.look cx i).bind fun b => if b.ty = ty ∧ (b.val.isAgg || b.val.safe) = true then some b.val else none else none
  | _ => none
@[go_sem] theorem results_cell {t : Nat} {ty : Ty} : results cx ⟨sl, own, h⟩ [.cell t ty] = cellV cx ⟨sl, own, h⟩ (sl.get t) ty := rfl
@[go_sem] theorem cellV_own {d : Nat} {ty : Ty} : cellV cx ⟨sl, own, h⟩ (.ptr (.stk cx.lvl d) [] ty) ty = (own.get d).bind fun b => if b.ty = ty ∧ (b.val.isAgg || b.val.safe) = true then some b.val else none := by
  simp [cellV, St.look, Id.own]
end
end Go.Mini

namespace Go.Mini
set_option linter.unusedSimpArgs false
set_option linter.unusedVariables false
abbrev Str := ByteArray
structure Ent where
  name : Str
  ino : Int
  stamp : Int
  deriving DecidableEq
structure Ino where
  live : Bool
  stamp : Int
  links : Int
  part : Vector Int 2
  deriving DecidableEq
structure Dat where
  of : Int
  text : Str
  deriving DecidableEq
structure Img where
  inode : Vector Ino 8
  dir : Vector (Vector Ent 4) 3
  data : Vector Dat 9
  deriving DecidableEq
def encV {α : Type} {n : Nat} (f : α → AV) (v : Vector α n) : AV := .arr n fun i => f v[i]
def setV {α : Type} {n : Nat} (f : α → AV) (v : Vector α n) (i : Nat) (y : AV) : AV := .arr n fun j => if j.val = i then y else f v[j]
def Ent.enc (e : Ent) : AV := .cons (.str e.name) (.cons (.int .i64 e.ino) (.cons (.int .i64 e.stamp) .unit))
def Ino.enc (e : Ino) : AV := .cons (.bool e.live) (.cons (.int .i64 e.stamp) (.cons (.int .i64 e.links) (.cons (encV (AV.int .i64) e.part) .unit)))
def Dat.enc (e : Dat) : AV := .cons (.int .i64 e.of) (.cons (.str e.text) .unit)
def Img.enc (e : Img) : AV := .cons (encV Ino.enc e.inode) (.cons (encV (encV Ent.enc) e.dir) (.cons (encV Dat.enc e.data) .unit))
section
variable {α : Type} {n : Nat} {f : α → AV} {v w : Vector α n}
@[go_sem] theorem at_encV {i : Nat} (h : i < n) (p : List Nat) : (encV f v).at (i :: p) = (f v[i]).at p := by simp [encV, AV.at, h]
@[go_sem] theorem put_encV {i : Nat} (h : i < n) (p : List Nat) (x : AV) : (encV f v).put (i :: p) x = ((f v[i]).put p x).map (setV f v i) := by
  simp [encV, AV.put, h]; rfl
@[go_sem] theorem setV_f {i : Nat} (h : i < n) (y : α) : setV f v i (f y) = encV f (v.set i y) := by
  simp only [setV, encV]
  congr 1; funext j
  simp only [Fin.getElem_fin, Vector.getElem_set]
  by_cases hj : j.val = i
  · simp [hj]
  · have hj' : ¬i = j.val := fun e => hj e.symm
    simp [hj, hj']
@[go_sem] theorem fg_encV (i : Id) : fg (encV f v) i = encV f v := rfl
@[go_sem] theorem leads_encV (i : Id) : (encV f v).leads i = false := rfl
@[go_sem] theorem isAgg_encV : (encV f v).isAgg = true := rfl
theorem fits_encV {t : Ty} (h : ∀ x, t.fits (f x) = true) : (Ty.arr n t).fits (encV f v) = true := by
  simp [encV, Ty.fits, h]
theorem andEq_dec (p q : Prop) [Decidable p] [Decidable q] : andEq (some (decide p)) (some (decide q)) = some (decide (p ∧ q)) := by
  by_cases hp : p <;> simp [hp, andEq]
theorem eq_encV [DecidableEq α] (hf : ∀ x y, (f x).eq (f y) = some (decide (x = y))) : (encV f v).eq (encV f w) = some (decide (v = w)) := by
  simp only [encV, AV.eq, dite_true]
  have key : ∀ l : List (Fin n), l.foldr (fun i acc => andEq ((f v[i]).eq (f w[i])) acc) (some true) = some (decide (∀ i ∈ l, v[i] = w[i])) := by
    intro l
    induction l with
    | nil => simp
    | cons a l ih =>
      rw [List.foldr_cons, ih, hf, andEq_dec]
      congr 1
      rw [decide_eq_decide]
      exact (List.forall_mem_cons (p := fun i => v[i] = w[i])).symm
  refine (key (List.finRange n)).trans ?_
  congr 1
  rw [decide_eq_decide]
  constructor
  · intro h; ext i hi; exact h ⟨i, hi⟩ (List.mem_finRange _)
  · rintro rfl i _; rfl
end
@[go_sem] theorem aidxV_encV {α : Type} {f : α → AV} {n : Nat} {t : Ty} {v : Vector α n} {k : IntKind} {m : Nat} (hm : m < n) : aidxV n t (encV f v) (.int k (m : Int)) = if (Ty.arr n t).fits (encV f v) = true then some (f v[m]) else none := by
  simp only [encV, aidxV, toIx]
  rw [dif_pos ⟨by omega, by omega⟩]
  rfl
@[go_sem] theorem at_ent0 (e : Ent) : e.enc.at [0] = some (.str e.name) := rfl
@[go_sem] theorem at_ent1 (e : Ent) : e.enc.at [1] = some (.int .i64 e.ino) := rfl
@[go_sem] theorem at_ent2 (e : Ent) : e.enc.at [2] = some (.int .i64 e.stamp) := rfl
@[go_sem] theorem at_ino0 (e : Ino) : e.enc.at [0] = some (.bool e.live) := rfl
@[go_sem] theorem at_ino1 (e : Ino) : e.enc.at [1] = some (.int .i64 e.stamp) := rfl
@[go_sem] theorem at_ino2 (e : Ino) : e.enc.at [2] = some (.int .i64 e.links) := rfl
@[go_sem] theorem at_ino3 (e : Ino) (p : List Nat) : e.enc.at (3 :: p) = (encV (AV.int .i64) e.part).at p := rfl
@[go_sem] theorem at_dat0 (e : Dat) : e.enc.at [0] = some (.int .i64 e.of) := rfl
@[go_sem] theorem at_dat1 (e : Dat) : e.enc.at [1] = some (.str e.text) := rfl
@[go_sem] theorem at_img0 (e : Img) (p : List Nat) : e.enc.at (0 :: p) = (encV Ino.enc e.inode).at p := rfl
@[go_sem] theorem at_img1 (e : Img) (p : List Nat) : e.enc.at (1 :: p) = (encV (encV Ent.enc) e.dir).at p := rfl
@[go_sem] theorem at_img2 (e : Img) (p : List Nat) : e.enc.at (2 :: p) = (encV Dat.enc e.data).at p := rfl
@[go_sem] theorem put_ent0 (e : Ent) (s : Str) : e.enc.put [0] (.str s) = some (Ent.enc { e with name := s }) := rfl
@[go_sem] theorem put_ent1 (e : Ent) (n : Int) : e.enc.put [1] (.int .i64 n) = some (Ent.enc { e with ino := n }) := rfl
@[go_sem] theorem put_ent2 (e : Ent) (n : Int) : e.enc.put [2] (.int .i64 n) = some (Ent.enc { e with stamp := n }) := rfl
@[go_sem] theorem put_ino0 (e : Ino) (b : Bool) : e.enc.put [0] (.bool b) = some (Ino.enc { e with live := b }) := rfl
@[go_sem] theorem put_ino1 (e : Ino) (n : Int) : e.enc.put [1] (.int .i64 n) = some (Ino.enc { e with stamp := n }) := rfl
@[go_sem] theorem put_ino2 (e : Ino) (n : Int) : e.enc.put [2] (.int .i64 n) = some (Ino.enc { e with links := n }) := rfl
@[go_sem] theorem put_ino3 (e : Ino) {i : Nat} (h : i < 2) (n : Int) : e.enc.put [3, i] (.int .i64 n) = some (Ino.enc { e with part := e.part.set i n }) := by
  have key : (encV (AV.int .i64) e.part).put [i] (.int .i64 n) = some (encV (AV.int .i64) (e.part.set i n)) := by
    rw [put_encV h, put_nil, Option.map_some, setV_f h]
  show ((((((encV (AV.int .i64) e.part).put [i] (.int .i64 n)).map fun y => AV.cons y .unit).map fun y => AV.cons (.int .i64 e.links) y).map fun y => AV.cons (.int .i64 e.stamp) y).map fun y => AV.cons (.bool e.live) y) = _
  rw [key]; rfl
@[go_sem] theorem put_dat0 (e : Dat) (n : Int) : e.enc.put [0] (.int .i64 n) = some (Dat.enc { e with of := n }) := rfl
@[go_sem] theorem put_dat1 (e : Dat) (s : Str) : e.enc.put [1] (.str s) = some (Dat.enc { e with text := s }) := rfl
@[go_sem] theorem put_img0 (e : Img) {i : Nat} (h : i < 8) (p : List Nat) (x : AV) : e.enc.put (0 :: i :: p) x = (e.inode[i].enc.put p x).map fun y => .cons (setV Ino.enc e.inode i y) (.cons (encV (encV Ent.enc) e.dir) (.cons (encV Dat.enc e.data) .unit)) := by
  simp only [Img.enc]
  rw [put_cons0, put_encV h, Option.map_map]; rfl
@[go_sem] theorem img_ino (e : Img) {i : Nat} (h : i < 8) (y : Ino) : AV.cons (setV Ino.enc e.inode i y.enc) (.cons (encV (encV Ent.enc) e.dir) (.cons (encV Dat.enc e.data) .unit)) = Img.enc { e with inode := e.inode.set i y } := by
  rw [setV_f h]; rfl
@[go_sem] theorem put_img2 (e : Img) {i : Nat} (h : i < 9) (p : List Nat) (x : AV) : e.enc.put (2 :: i :: p) x = (e.data[i].enc.put p x).map fun y => .cons (encV Ino.enc e.inode) (.cons (encV (encV Ent.enc) e.dir) (.cons (setV Dat.enc e.data i y) .unit)) := by
  have key := put_encV (f := Dat.enc) (v := e.data) h p x
  show ((((encV Dat.enc e.data).put (i :: p) x).map fun y => AV.cons y .unit).map fun y => AV.cons (encV (encV Ent.enc) e.dir) y).map (fun y => AV.cons (encV Ino.enc e.inode) y) = _
  rw [key]
  cases e.data[i].enc.put p x <;> rfl
@[go_sem] theorem img_dat (e : Img) {i : Nat} (h : i < 9) (y : Dat) : AV.cons (encV Ino.enc e.inode) (.cons (encV (encV Ent.enc) e.dir) (.cons (setV Dat.enc e.data i y.enc) .unit)) = Img.enc { e with data := e.data.set i y } := by
  rw [setV_f h]; rfl
@[go_sem] theorem put_img1 (e : Img) {i j : Nat} (h : i < 3) (hj : j < 4) (p : List Nat) (x : AV) : e.enc.put (1 :: i :: j :: p) x = (e.dir[i][j].enc.put p x).map fun y => .cons (encV Ino.enc e.inode) (.cons (setV (encV Ent.enc) e.dir i (setV Ent.enc e.dir[i] j y)) (.cons (encV Dat.enc e.data) .unit)) := by
  have key : (encV (encV Ent.enc) e.dir).put (i :: j :: p) x = (e.dir[i][j].enc.put p x).map fun y => setV (encV Ent.enc) e.dir i (setV Ent.enc e.dir[i] j y) := by
    rw [put_encV h, put_encV hj, Option.map_map]; rfl
  show (((encV (encV Ent.enc) e.dir).put (i :: j :: p) x).map fun y => AV.cons y (.cons (encV Dat.enc e.data) .unit)).map (fun y => AV.cons (encV Ino.enc e.inode) y) = _
  rw [key]
  cases e.dir[i][j].enc.put p x <;> rfl
@[go_sem] theorem img_dir (e : Img) {i j : Nat} (h : i < 3) (hj : j < 4) (y : Ent) : AV.cons (encV Ino.enc e.inode) (.cons (setV (encV Ent.enc) e.dir i (setV Ent.enc e.dir[i] j y.enc)) (.cons (encV Dat.enc e.data) .unit)) = Img.enc { e with dir := e.dir.set i (e.dir[i].set j y) } := by
  rw [setV_f hj, setV_f h]; rfl
@[go_sem] theorem put_img_row (e : Img) {i : Nat} (h : i < 3) (y : Vector Ent 4) : e.enc.put [1, i] (encV Ent.enc y) = some (Img.enc { e with dir := e.dir.set i y }) := by
  have key : (encV (encV Ent.enc) e.dir).put [i] (encV Ent.enc y) = some (encV (encV Ent.enc) (e.dir.set i y)) := by
    rw [put_encV h, put_nil, Option.map_some, setV_f h]
  show (((encV (encV Ent.enc) e.dir).put [i] (encV Ent.enc y)).map fun y => AV.cons y (.cons (encV Dat.enc e.data) .unit)).map (fun y => AV.cons (encV Ino.enc e.inode) y) = _
  rw [key]; rfl
theorem fits_ent' (e : Ent) : tEntry.fits e.enc = true := rfl
theorem fits_ino' (e : Ino) : tInode.fits e.enc = true := rfl
theorem fits_dat' (e : Dat) : tData.fits e.enc = true := rfl
theorem fits_row' (v : Vector Ent 4) : tRow.fits (encV Ent.enc v) = true := fits_encV fits_ent'
theorem fits_dirs' (v : Vector (Vector Ent 4) 3) : tDirs.fits (encV (encV Ent.enc) v) = true := fits_encV fits_row'
theorem fits_inodes' (v : Vector Ino 8) : tInodes.fits (encV Ino.enc v) = true := fits_encV fits_ino'
theorem fits_datas' (v : Vector Dat 9) : tDatas.fits (encV Dat.enc v) = true := fits_encV fits_dat'
theorem fits_parts' (v : Vector Int 2) : tParts.fits (encV (AV.int .i64) v) = true := fits_encV (t := tI) fun _ => rfl
theorem fits_img' (e : Img) : tImage.fits e.enc = true := by
  show (Ty.cons tInodes (.cons tDirs (.cons tDatas .unit))).fits (AV.cons _ (.cons _ (.cons _ .unit))) = true
  simp only [fits_cons, fits_unit, fits_inodes', fits_dirs', fits_datas', and_self]
@[go_sem] theorem fits_ent (e : Ent) : (tEntry.fits e.enc = true) = True := eq_true (fits_ent' e)
@[go_sem] theorem fits_ino (e : Ino) : (tInode.fits e.enc = true) = True := eq_true (fits_ino' e)
@[go_sem] theorem fits_dat (e : Dat) : (tData.fits e.enc = true) = True := eq_true (fits_dat' e)
@[go_sem] theorem fits_img (e : Img) : (tImage.fits e.enc = true) = True := eq_true (fits_img' e)
@[go_sem] theorem fits_row (v : Vector Ent 4) : (tRow.fits (encV Ent.enc v) = true) = True := eq_true (fits_row' v)
@[go_sem] theorem fits_dirs (v : Vector (Vector Ent 4) 3) : (tDirs.fits (encV (encV Ent.enc) v) = true) = True := eq_true (fits_dirs' v)
@[go_sem] theorem fits_inodes (v : Vector Ino 8) : (tInodes.fits (encV Ino.enc v) = true) = True := eq_true (fits_inodes' v)
@[go_sem] theorem fits_datas (v : Vector Dat 9) : (tDatas.fits (encV Dat.enc v) = true) = True := eq_true (fits_datas' v)
@[go_sem] theorem fits_parts (v : Vector Int 2) : (tParts.fits (encV (AV.int .i64) v) = true) = True := eq_true (fits_parts' v)
@[go_sem] theorem fits_row4 (v : Vector Ent 4) : ((Ty.arr 4 tEntry).fits (encV Ent.enc v) = true) = True := fits_row v
@[go_sem] theorem fits_dirs3 (v : Vector (Vector Ent 4) 3) : ((Ty.arr 3 tRow).fits (encV (encV Ent.enc) v) = true) = True := fits_dirs v
@[go_sem] theorem fits_inodes8 (v : Vector Ino 8) : ((Ty.arr 8 tInode).fits (encV Ino.enc v) = true) = True := fits_inodes v
@[go_sem] theorem fits_datas9 (v : Vector Dat 9) : ((Ty.arr 9 tData).fits (encV Dat.enc v) = true) = True := fits_datas v
@[go_sem] theorem fits_parts2 (v : Vector Int 2) : ((Ty.arr 2 tI).fits (encV (AV.int .i64) v) = true) = True := fits_parts v
@[go_sem] theorem fits_tI (n : Int) : (tI.fits (.int .i64 n) = true) = True := eq_true rfl
@[go_sem] theorem fits_tB (n : Bool) : (tB.fits (.bool n) = true) = True := eq_true rfl
@[go_sem] theorem fits_tS (n : Str) : (tS.fits (.str n) = true) = True := eq_true rfl
@[go_sem] theorem fitO_ite (t : Ty) (v : AV) : fitO t (some v) = if t.fits v = true then some v else none := rfl
@[go_sem] theorem fg_ent (e : Ent) (i : Id) : fg e.enc i = e.enc := rfl
@[go_sem] theorem fg_ino (e : Ino) (i : Id) : fg e.enc i = e.enc := rfl
@[go_sem] theorem fg_dat (e : Dat) (i : Id) : fg e.enc i = e.enc := rfl
@[go_sem] theorem fg_img (e : Img) (i : Id) : fg e.enc i = e.enc := rfl
@[go_sem] theorem leads_ent (e : Ent) (i : Id) : e.enc.leads i = false := rfl
@[go_sem] theorem leads_ino (e : Ino) (i : Id) : e.enc.leads i = false := rfl
@[go_sem] theorem leads_dat (e : Dat) (i : Id) : e.enc.leads i = false := rfl
@[go_sem] theorem leads_img (e : Img) (i : Id) : e.enc.leads i = false := rfl
@[go_sem] theorem isAgg_ent (e : Ent) : e.enc.isAgg = true := rfl
@[go_sem] theorem isAgg_ino (e : Ino) : e.enc.isAgg = true := rfl
@[go_sem] theorem isAgg_dat (e : Dat) : e.enc.isAgg = true := rfl
@[go_sem] theorem isAgg_img (e : Img) : e.enc.isAgg = true := rfl
theorem eq_int (a b : Int) : (AV.int .i64 a).eq (AV.int .i64 b) = some (decide (a = b)) := by
  show some (a == b) = _
  congr 1
theorem eq_str (a b : Str) : (AV.str a).eq (AV.str b) = some (decide (a = b)) := by
  show some (a == b) = _
  congr 1
  cases a with | mk x => cases b with | mk y =>
  rw [Bool.eq_iff_iff, decide_eq_true_eq, ByteArray.mk.injEq]
  show (x == y) = true ↔ _
  exact beq_iff_eq
theorem eq_bool (a b : Bool) : (AV.bool a).eq (AV.bool b) = some (decide (a = b)) := by
  show some (a == b) = _
  congr 1
theorem eq_cons (a b c d : AV) : (AV.cons a b).eq (.cons c d) = andEq (a.eq c) (b.eq d) := rfl
theorem eq_unit : AV.unit.eq .unit = some true := rfl
theorem andEq_tt (p : Prop) [Decidable p] : andEq (some (decide p)) (some true) = some (decide p) := by
  by_cases hp : p <;> simp [hp, andEq]
theorem eq_ent (a b : Ent) : a.enc.eq b.enc = some (decide (a = b)) := by
  simp only [Ent.enc, eq_cons, eq_unit, eq_int, eq_str, andEq_dec, andEq_tt]
  congr 1; rw [decide_eq_decide]; cases a; cases b; simp
theorem eq_dat (a b : Dat) : a.enc.eq b.enc = some (decide (a = b)) := by
  simp only [Dat.enc, eq_cons, eq_unit, eq_int, eq_str, andEq_dec, andEq_tt]
  congr 1; rw [decide_eq_decide]; cases a; cases b; simp
theorem eq_ino (a b : Ino) : a.enc.eq b.enc = some (decide (a = b)) := by
  have h1 : ∀ v w : Vector Int 2, (encV (AV.int .i64) v).eq (encV (AV.int .i64) w) = some (decide (v = w)) := fun v w => eq_encV eq_int
  simp only [Ino.enc]
  simp only [eq_cons, eq_unit, h1, eq_bool, eq_int, andEq_dec, andEq_tt]
  congr 1; rw [decide_eq_decide]; cases a; cases b; simp
theorem eq_row (v w : Vector Ent 4) : (encV Ent.enc v).eq (encV Ent.enc w) = some (decide (v = w)) := eq_encV eq_ent
theorem eq_img (a b : Img) : a.enc.eq b.enc = some (decide (a = b)) := by
  have h1 : ∀ v w : Vector Ino 8, (encV Ino.enc v).eq (encV Ino.enc w) = some (decide (v = w)) := fun v w => eq_encV eq_ino
  have h2 : ∀ v w : Vector (Vector Ent 4) 3, (encV (encV Ent.enc) v).eq (encV (encV Ent.enc) w) = some (decide (v = w)) := fun v w => eq_encV eq_row
  have h3 : ∀ v w : Vector Dat 9, (encV Dat.enc v).eq (encV Dat.enc w) = some (decide (v = w)) := fun v w => eq_encV eq_dat
  simp only [Img.enc]
  simp only [eq_cons, eq_unit, h1, h2, h3, andEq_dec, andEq_tt]
  congr 1; rw [decide_eq_decide]; cases a; cases b; simp
theorem eqV_of {t : Ty} {neg : Bool} {x y : AV} {b : Bool} (hx : t.eqOk x = true) (hy : t.eqOk y = true) (h : x.eq y = some b) : eqV t neg x y = some (.bool (if neg = true then !b else b)) := by
  simp only [eqV, hx, hy, h, Bool.and_self, if_true, Option.map_some]
@[go_sem] theorem eqV_ent (neg : Bool) (a b : Ent) : eqV tEntry neg a.enc b.enc = some (.bool (if neg = true then !decide (a = b) else decide (a = b))) := eqV_of rfl rfl (eq_ent a b)
@[go_sem] theorem eqV_ino (neg : Bool) (a b : Ino) : eqV tInode neg a.enc b.enc = some (.bool (if neg = true then !decide (a = b) else decide (a = b))) := eqV_of rfl rfl (eq_ino a b)
@[go_sem] theorem eqV_dat (neg : Bool) (a b : Dat) : eqV tData neg a.enc b.enc = some (.bool (if neg = true then !decide (a = b) else decide (a = b))) := eqV_of rfl rfl (eq_dat a b)
@[go_sem] theorem eqV_img (neg : Bool) (a b : Img) : eqV tImage neg a.enc b.enc = some (.bool (if neg = true then !decide (a = b) else decide (a = b))) := eqV_of (fits_img' a) (fits_img' b) (eq_img a b)
@[go_sem] theorem eqV_row (neg : Bool) (a b : Vector Ent 4) : eqV tRow neg (encV Ent.enc a) (encV Ent.enc b) = some (.bool (if neg = true then !decide (a = b) else decide (a = b))) := eqV_of (fits_row' a) (fits_row' b) (eq_row a b)
def Ent.zero : Ent := ⟨ByteArray.empty, 0, 0⟩
def Dat.zero : Dat := ⟨0, ByteArray.empty⟩
def Ino.zero : Ino := ⟨false, 0, 0, Vector.replicate 2 0⟩
def Ino.none : Ino := ⟨false, 0, 0, Vector.replicate 2 (-1)⟩
def Img.zero : Img := ⟨Vector.replicate 8 Ino.zero, Vector.replicate 3 (Vector.replicate 4 Ent.zero), Vector.replicate 9 Dat.zero⟩
theorem zero_encV {α : Type} {n : Nat} {f : α → AV} {t : Ty} {a : α} (h : t.zero = f a) : (Ty.arr n t).zero = encV f (Vector.replicate n a) := by
  simp [Ty.zero, encV, h]
@[go_sem] theorem zero_ent : tEntry.zero = Ent.zero.enc := rfl
@[go_sem] theorem zero_dat : tData.zero = Dat.zero.enc := rfl
theorem zero_parts : tParts.zero = encV (AV.int .i64) (Vector.replicate 2 0) := zero_encV (t := tI) rfl
@[go_sem] theorem zero_ino : tInode.zero = Ino.zero.enc := by
  show AV.cons _ (.cons _ (.cons _ (.cons tParts.zero _))) = _
  rw [zero_parts]; rfl
@[go_sem] theorem zero_row : tRow.zero = encV Ent.enc (Vector.replicate 4 Ent.zero) := zero_encV zero_ent
@[go_sem] theorem zero_img : tImage.zero = Img.zero.enc := by
  show AV.cons tInodes.zero (.cons tDirs.zero (.cons tDatas.zero .unit)) = _
  rw [show tInodes.zero = encV Ino.enc (Vector.replicate 8 Ino.zero) from zero_encV zero_ino, show tDirs.zero = encV (encV Ent.enc) (Vector.replicate 3 (Vector.replicate 4 Ent.zero)) from zero_encV zero_row, show tDatas.zero = encV Dat.enc (Vector.replicate 9 Dat.zero) from zero_encV zero_dat]; rfl
@[go_sem] theorem zero_tI : tI.zero = .int .i64 0 := rfl
@[go_sem] theorem zero_tB : tB.zero = .bool false := rfl
@[go_sem] theorem zero_tS : tS.zero = .str ByteArray.empty := rfl
@[go_sem] theorem field_img0 : tImage.field 0 = some tInodes := rfl
@[go_sem] theorem field_img1 : tImage.field 1 = some tDirs := rfl
@[go_sem] theorem field_img2 : tImage.field 2 = some tDatas := rfl
@[go_sem] theorem field_ino0 : tInode.field 0 = some tB := rfl
@[go_sem] theorem field_ino1 : tInode.field 1 = some tI := rfl
@[go_sem] theorem field_ino2 : tInode.field 2 = some tI := rfl
@[go_sem] theorem field_ino3 : tInode.field 3 = some tParts := rfl
@[go_sem] theorem field_ent0 : tEntry.field 0 = some tS := rfl
@[go_sem] theorem field_ent1 : tEntry.field 1 = some tI := rfl
@[go_sem] theorem field_ent2 : tEntry.field 2 = some tI := rfl
@[go_sem] theorem field_dat0 : tData.field 0 = some tI := rfl
@[go_sem] theorem field_dat1 : tData.field 1 = some tS := rfl
@[go_sem] theorem idxV_dirs (j : Id) (p : List Nat) (i : AV) : idxV 3 tRow (.ptr j p tDirs) i = idxV 3 tRow (.ptr j p (.arr 3 tRow)) i := rfl
@[go_sem] theorem idxV_row (j : Id) (p : List Nat) (i : AV) : idxV 4 tEntry (.ptr j p tRow) i = idxV 4 tEntry (.ptr j p (.arr 4 tEntry)) i := rfl
@[go_sem] theorem idxV_inodes (j : Id) (p : List Nat) (i : AV) : idxV 8 tInode (.ptr j p tInodes) i = idxV 8 tInode (.ptr j p (.arr 8 tInode)) i := rfl
@[go_sem] theorem idxV_datas (j : Id) (p : List Nat) (i : AV) : idxV 9 tData (.ptr j p tDatas) i = idxV 9 tData (.ptr j p (.arr 9 tData)) i := rfl
@[go_sem] theorem idxV_parts (j : Id) (p : List Nat) (i : AV) : idxV 2 tI (.ptr j p tParts) i = idxV 2 tI (.ptr j p (.arr 2 tI)) i := rfl
@[go_sem] theorem fldV_ptr' (st : Ty) (i : Nat) (ft : Ty) (j : Id) (p : List Nat) : fldV st i ft (.ptr j p st) = if st.field i = some ft then some (.ptr j (p ++ [i]) ft) else none := fldV_ptr ..
end Go.Mini

namespace Go.Mini
set_option linter.unusedSimpArgs false
set_option linter.unusedVariables false
def Img.ent (m : Img) (d s : Nat) : Ent := if h : d < 3 ∧ s < 4 then (m.dir[d]'h.1)[s]'h.2 else .zero
def Img.ino (m : Img) (n : Nat) : Ino := if h : n < 8 then m.inode[n] else .zero
def Img.dat (m : Img) (x : Nat) : Dat := if h : x < 9 then m.data[x] else .zero
def Ino.prt (i : Ino) (p : Nat) : Int := if h : p < 2 then i.part[p] else 0
@[go_sem] theorem ent_eq (m : Img) {d s : Nat} (h : d < 3) (h2 : s < 4) : (m.dir[d]'h)[s]'h2 = m.ent d s := by simp [Img.ent, h, h2]
@[go_sem] theorem ino_eq (m : Img) {n : Nat} (h : n < 8) : m.inode[n]'h = m.ino n := by simp [Img.ino, h]
@[go_sem] theorem dat_eq (m : Img) {n : Nat} (h : n < 9) : m.data[n]'h = m.dat n := by simp [Img.dat, h]
@[go_sem] theorem prt_eq (m : Ino) {n : Nat} (h : n < 2) : m.part[n]'h = m.prt n := by simp [Ino.prt, h]
def sumN : Nat → (Nat → Nat) → Nat
  | 0, _ => 0
  | n + 1, f => sumN n f + f n
def b2n (b : Bool) : Nat := if b then 1 else 0
theorem b2n_le (b : Bool) : b2n b ≤ 1 := by cases b <;> simp [b2n]
theorem sumN_le {f : Nat → Nat} {c : Nat} (h : ∀ i, f i ≤ c) : ∀ n, sumN n f ≤ n * c
  | 0 => by simp [sumN]
  | n + 1 => by
    have := sumN_le h n; have := h n
    rw [sumN, Nat.add_mul, Nat.one_mul]; omega
theorem sumN_succ (n : Nat) (f : Nat → Nat) : sumN (n + 1) f = sumN n f + f n := rfl
def leads (m : Img) (d s : Nat) (i : Int) : Bool := !decide ((m.ent d s).name = ⟨#[]⟩) && decide ((m.ent d s).ino = i)
def refsRow (m : Img) (i : Int) (d k : Nat) : Nat := sumN k fun s => b2n (leads m d s i)
def refs (m : Img) (i : Int) : Nat := sumN 3 fun d => refsRow m i d 4
theorem refsRow_le (m : Img) (i : Int) (d k : Nat) : refsRow m i d k ≤ k := by
  have := sumN_le (fun s => b2n_le (leads m d s i)) k; simpa [refsRow] using this
theorem refsRow_succ (m : Img) (i : Int) (d k : Nat) : refsRow m i d (k + 1) = refsRow m i d k + b2n (leads m d k i) := rfl
attribute [go_sem] Int.natCast_add Int.cast_ofNat_Int
@[go_sem] theorem dec_t {p : Prop} [Decidable p] (h : p) : decide p = true := decide_eq_true h
@[go_sem] theorem dec_f {p : Prop} [Decidable p] (h : ¬p) : decide p = false := decide_eq_false h
theorem W_for {T : Nat → Option MFun} {cx : Cx} {keep ko : List Nat} {b : MC} {k : List Item} {s : St} {Q : St → Prop} (N : Nat) (S : Nat → St) (h0 : s.keep keep ko = S 0)
    (step : ∀ j, j ≤ N → (∀ s', j < N → s'.keep keep ko = S (j + 1) → W T cx (.inLoop keep ko b :: k) s' Q) → W T cx (.code b :: .inLoop keep ko b :: k) (S j) Q) :
    W T cx (.code (.loop keep ko b) :: k) s Q :=
  W_loop N (fun j s => s = S j) h0 fun j s hj hs ih => by subst hs; exact step j hj ih
section
variable {cx : Cx} {h : HP} {p : Id} {q : List Nat} {m : Img}
theorem Refs_ok {i : Int} (hb : p.below cx.lvl) (hm : h.rd p q = some m.enc) :
    Ok tbl cx Fn.image_Refs (St.enter [.ptr p q tImage, .int .i64 i] h) fun v h' => v = .int .i64 (refs m i) ∧ h' = h := by
  rw [Ok_eq]
  simp (disch := omega) only [go_sem, St.enter, enterSlots, rd_ext hb, HP.rd_app hm]
  refine W_for 3 (fun d => ⟨[(1, .int .i64 i), (5, .int .i64 (sumN d fun d => refsRow m i d 4 : Nat)), (13, encV (encV Ent.enc) m.dir), (14, .int .i64 d)], [], h⟩) (by simp only [go_sem]; rfl) fun d hd ih => ?_
  by_cases hlt : d < 3
  · have hs := sumN_le (fun d => refsRow_le m i d 4) d
    simp (disch := omega) only [go_sem, hlt]
    refine W_for 4 (fun s => ⟨[(1, .int .i64 i), (5, .int .i64 ((sumN d fun d => refsRow m i d 4) + refsRow m i d s : Nat)), (13, encV (encV Ent.enc) m.dir), (14, .int .i64 d), (17, encV Ent.enc m.dir[d]), (18, .int .i64 s)], [], h⟩) (by simp only [go_sem]; rfl) fun s hs' ih' => ?_
    have hr := refsRow_le m i d s
    by_cases hlt' : s < 4
    · simp (disch := omega) only [go_sem, hlt']
      refine WG_intro (fun hc => ?_) (fun hc => ?_) <;> simp (disch := omega) only [go_sem, hc]
      · refine WC_intro (fun hc' => ?_) (fun hc' => ?_) <;> simp (disch := omega) only [go_sem]
        · refine ih' _ hlt' ?_
          simp only [go_sem, refsRow_succ, leads, hc, hc', b2n, Int.add_assoc]
        · refine ih' _ hlt' ?_
          simp only [go_sem, refsRow_succ, leads, hc, hc', b2n, Int.add_assoc, Nat.add_zero]
      · refine ih' _ hlt' ?_
        simp only [go_sem, refsRow_succ, leads, hc, b2n, Int.add_assoc, Nat.add_zero]
    · obtain rfl : s = 4 := by omega
      simp (disch := omega) only [go_sem]
      exact ih _ hlt (by simp only [go_sem, sumN_succ])
  · obtain rfl : d = 3 := by omega
    simp (disch := omega) only [go_sem]
    exact rfl
end
end Go.Mini

namespace Go.Mini
set_option linter.unusedSimpArgs false
set_option linter.unusedVariables false
section
variable {T : Nat → Option MFun} {cx : Cx} {k : List Item} {kill : List Nat} {r : List MOp} {sl : Slots} {own : Own} {h : HP} {Q : St → Prop}
theorem W_round {a b : List Nat} {c : MC} {s : St} : W T cx (.code (.loop a b c) :: k) s Q = W T cx (.code c :: .inLoop a b c :: k) (s.keep a b) Q := W_iff rfl
theorem W_again {a b : List Nat} {c : MC} {s : St} : W T cx (.inLoop a b c :: k) s Q = W T cx (.code c :: .inLoop a b c :: k) (s.keep a b) Q := W_iff rfl
@[go_sem] theorem enter0 : St.enter [] h = ⟨[], [], h⟩ := rfl
@[go_sem] theorem enter1 (a : AV) : St.enter [a] h = ⟨[(0, a)], [], h⟩ := rfl
@[go_sem] theorem enter2 (a b : AV) : St.enter [a, b] h = ⟨[(0, a), (1, b)], [], h⟩ := rfl
@[go_sem] theorem enter3 (a b c : AV) : St.enter [a, b, c] h = ⟨[(0, a), (1, b), (2, c)], [], h⟩ := rfl
@[go_sem] theorem enter4 (a b c d : AV) : St.enter [a, b, c, d] h = ⟨[(0, a), (1, b), (2, c), (3, d)], [], h⟩ := rfl
@[go_sem] theorem enter5 (a b c d e : AV) : St.enter [a, b, c, d, e] h = ⟨[(0, a), (1, b), (2, c), (3, d), (4, e)], [], h⟩ := rfl
attribute [go_sem] Nat.reduceAdd Nat.reduceMul Nat.reduceSub Int.reduceAdd Int.reduceToNat Int.reduceLT Int.reduceLE Int.reduceEq Int.reduceMul Int.reduceSub Int.reduceNeg Int.toNat_natCast
@[go_sem] theorem img_mk (a : Vector Ino 8) (b : Vector (Vector Ent 4) 3) (c : Vector Dat 9) : AV.cons (encV Ino.enc a) (.cons (encV (encV Ent.enc) b) (.cons (encV Dat.enc c) .unit)) = Img.enc ⟨a, b, c⟩ := rfl
@[go_sem] theorem dec_T [inst : Decidable True] : @decide True inst = true := decide_eq_true trivial
@[go_sem] theorem dec_F [inst : Decidable False] : @decide False inst = false := decide_eq_false id
@[go_sem] theorem into_self (i : Id) (p : List Nat) (t : Ty) : AV.into i (.ptr i p t) = true := by simp [AV.into]
theorem apart_ptr {i : Id} {l t : Nat} (h : i.below l) (p : List Nat) (u : Ty) : AV.apart (.stk l t) (.ptr i p u) = true := by
  have : (i == Id.stk l t) = false := by simpa using h.ne
  simp [AV.apart, this]
@[go_sem] theorem apart_own (l s t : Nat) (p : List Nat) (u : Ty) : AV.apart (.stk l t) (.ptr (.stk l s) p u) = !(s == t) := by
  simp only [AV.apart]; congr 1; rw [Bool.eq_iff_iff]; simp
@[go_sem] theorem all_one {α : Type} (a : α) (P : α → Prop) : (∀ u ∈ [a], P u) = P a := by simp
@[go_sem] theorem all_two {α : Type} (a b : α) (P : α → Prop) : (∀ u ∈ [a, b], P u) = (P a ∧ P b) := by simp
@[go_sem] theorem enter6 (a b c d e f : AV) : St.enter [a, b, c, d, e, f] h = ⟨[(0, a), (1, b), (2, c), (3, d), (4, e), (5, f)], [], h⟩ := rfl
def two (x y : Option AV) : Option AV := match x, y with
  | some x, some y => some (.tup (.cons x (.cons y .unit)))
  | _, _ => none
@[go_sem] theorem two_some (x y : AV) : two (some x) (some y) = some (.tup (.cons x (.cons y .unit))) := rfl
def res1 (cx : Cx) (s : St) (r : MRes) : Option AV := resOf cx s r
@[go_sem] theorem results_two {a b : MRes} {s : St} : results cx s [a, b] = two (res1 cx s a) (res1 cx s b) := by
  simp only [results, resList, two, res1]
  cases resOf cx s a <;> cases resOf cx s b <;> rfl
@[go_sem] theorem res1_tmp {t : Nat} : res1 cx ⟨sl, own, h⟩ (.tmp t) = if (sl.get t).safe = true then some (sl.get t) else none := rfl
@[go_sem] theorem res1_cell {t : Nat} {ty : Ty} : res1 cx ⟨sl, own, h⟩ (.cell t ty) = cellV cx ⟨sl, own, h⟩ (sl.get t) ty := rfl
@[go_sem] theorem extV_0 (a b : AV) : extV (.tup (.cons a b)) 0 = if a.safe = true then some a else none := rfl
@[go_sem] theorem extV_1 (a b c : AV) : extV (.tup (.cons a (.cons b c))) 1 = if b.safe = true then some b else none := rfl
@[go_sem] theorem safe_ent (e : Ent) : e.enc.safe = true := rfl
@[go_sem] theorem safe_ino (e : Ino) : e.enc.safe = true := rfl
@[go_sem] theorem safe_dat (e : Dat) : e.enc.safe = true := rfl
@[go_sem] theorem safe_img (e : Img) : e.enc.safe = true := rfl
end
section
variable {cx : Cx} {h : HP} {p p' : Id} {q q' : List Nat} {m m' : Img}
@[go_sem] theorem fill_nil (t : Ty) (v : AV) : fill t v [] = some v := rfl
theorem Free_ok : Ok tbl cx Fn.image_Free (St.enter [] h) fun v h' => v = Ino.none.enc ∧ h' = h := by
  rw [Ok_eq]
  simp (disch := omega) only [go_sem, W_round, W_again]
  exact rfl
def Img.blank : Img := { Img.zero with inode := Vector.replicate 8 Ino.none }
theorem New_ok : Ok tbl cx Fn.image_New (St.enter [] h) fun v h' => v = Img.blank.enc ∧ h' = h := by
  rw [Ok_eq]
  simp (disch := omega) only [go_sem, W_round, W_again]
  iterate 8 (
    refine W_callp rfl ⟨rfl, rfl⟩ (by simp only [go_sem]; exact Free_ok) ?_
    simp (disch := omega) only [go_sem, W_round, W_again])
  exact rfl
def bothRow (m m' : Img) (i : Int) (d k : Nat) : Nat := sumN k fun s => b2n (leads m d s i || leads m' d s i)
def both (m m' : Img) (i : Int) : Nat := sumN 3 fun d => bothRow m m' i d 4
theorem bothRow_le (m m' : Img) (i : Int) (d k : Nat) : bothRow m m' i d k ≤ k := by
  have := sumN_le (fun s => b2n_le (leads m d s i || leads m' d s i)) k; simpa [bothRow] using this
theorem bothRow_succ (m m' : Img) (i : Int) (d k : Nat) : bothRow m m' i d (k + 1) = bothRow m m' i d k + b2n (leads m d k i || leads m' d k i) := rfl
end
end Go.Mini

namespace Go.Mini
set_option linter.unusedSimpArgs false
set_option linter.unusedVariables false
set_option maxHeartbeats 4000000
set_option maxRecDepth 100000
section
variable {cx : Cx} {h : HP} {p p' : Id} {q q' : List Nat} {m m' : Img}
theorem Union_ok {i : Int} (hb : p.below cx.lvl) (hm : h.rd p q = some m.enc) (hb' : p'.below cx.lvl) (hm' : h.rd p' q' = some m'.enc) :
    Ok tbl cx Fn.safe_Union (St.enter [.ptr p q tImage, .ptr p' q' tImage, .int .i64 i] h) fun v h' => v = .int .i64 (both m m' i) ∧ h' = h := by
  rw [Ok_eq]
  simp (config := { maxSteps := 1000000 }) (disch := omega) only [go_sem]
  refine W_for 3 (fun d => ⟨[(0, .ptr p q tImage), (1, .ptr p' q' tImage), (2, .int .i64 i), (7, .int .i64 (sumN d fun d => bothRow m m' i d 4 : Nat)), (12, .int .i64 d)], [], h⟩) (by simp only [go_sem] <;> rfl) fun d hd ih => ?_
  by_cases hlt : d < 3
  · have hs := sumN_le (fun d => bothRow_le m m' i d 4) d
    simp (config := { maxSteps := 1000000 }) (disch := omega) only [go_sem, hlt]
    refine W_for 4 (fun s => ⟨[(0, .ptr p q tImage), (1, .ptr p' q' tImage), (2, .int .i64 i), (7, .int .i64 ((sumN d fun d => bothRow m m' i d 4) + bothRow m m' i d s : Nat)), (8, .int .i64 d), (12, .int .i64 d), (15, .int .i64 s)], [], h⟩) (by simp only [go_sem] <;> rfl) fun s hs' ih' => ?_
    have hr := bothRow_le m m' i d s
    by_cases hlt' : s < 4
    · simp (config := { maxSteps := 1000000 }) (disch := omega) only [go_sem, hlt', rd_ext hb, HP.rd_app hm, fg_ptr hb, leads_ptr hb, apart_ptr hb, rd_ext hb', HP.rd_app hm', fg_ptr hb', leads_ptr hb', apart_ptr hb']
      refine WG_intro (fun h1 => ?_) (fun h1 => ?_) <;> simp (config := { maxSteps := 1000000 }) (disch := omega) only [go_sem, h1]
      all_goals refine WG_intro (fun h2 => ?_) (fun h2 => ?_) <;> simp (config := { maxSteps := 1000000 }) (disch := omega) only [go_sem, h2]
      all_goals try refine WG_intro (fun h3 => ?_) (fun h3 => ?_) <;> simp (config := { maxSteps := 1000000 }) (disch := omega) only [go_sem, h3]
      all_goals try refine WC_intro (fun h4 => ?_) (fun h4 => ?_) <;> simp (config := { maxSteps := 1000000 }) (disch := omega) only [go_sem, h4]
      all_goals refine ih' _ hlt' ?_
      all_goals (clear ih ih'; simp only [go_sem, bothRow_succ, leads, b2n, Int.add_assoc, Nat.add_zero, *])
    · obtain rfl : s = 4 := by omega
      simp (config := { maxSteps := 1000000 }) (disch := omega) only [go_sem]
      exact ih _ hlt (by simp only [go_sem, sumN_succ])
  · obtain rfl : d = 3 := by omega
    simp (config := { maxSteps := 1000000 }) (disch := omega) only [go_sem]
    exact rfl
end
end Go.Mini

namespace Go.Mini
set_option linter.unusedSimpArgs false
set_option linter.unusedVariables false
set_option maxHeartbeats 4000000
set_option maxRecDepth 100000
def Img.setIno (m : Img) (n : Nat) (y : Ino) : Img := { m with inode := m.inode.setIfInBounds n y }
def Img.setDat (m : Img) (n : Nat) (y : Dat) : Img := { m with data := m.data.setIfInBounds n y }
def Img.setEnt (m : Img) (d s : Nat) (y : Ent) : Img := if h : d < 3 then { m with dir := m.dir.set d (m.dir[d].setIfInBounds s y) } else m
def Ino.setPrt (i : Ino) (p : Nat) (x : Int) : Ino := { i with part := i.part.setIfInBounds p x }
theorem set_bounds {α : Type} {n : Nat} (v : Vector α n) {i : Nat} (h : i < n) (x : α) : v.set i x h = v.setIfInBounds i x := by
  ext j hj; simp [Vector.getElem_set, Vector.getElem_setIfInBounds]
@[go_sem] theorem mk_setIno (m : Img) {n : Nat} (y : Ino) (h : n < 8) : Img.mk (m.inode.set n y h) m.dir m.data = m.setIno n y := by rw [set_bounds]; rfl
@[go_sem] theorem mk_setDat (m : Img) {n : Nat} (y : Dat) (h : n < 9) : Img.mk m.inode m.dir (m.data.set n y h) = m.setDat n y := by rw [set_bounds]; rfl
@[go_sem] theorem mk_setEnt (m : Img) {d s : Nat} (y : Ent) (h : d < 3) (h' : s < 4) : Img.mk m.inode (m.dir.set d ((m.dir[d]'h).set s y h') h) m.data = m.setEnt d s y := by rw [set_bounds (m.dir[d]'h)]; simp only [Img.setEnt, h, dite_true]
@[go_sem] theorem mk_setPrt (i : Ino) {p : Nat} (x : Int) (h : p < 2) : Ino.mk i.live i.stamp i.links (i.part.set p x h) = i.setPrt p x := by rw [set_bounds]; rfl
@[go_sem] theorem ino_setIno (m : Img) (n : Nat) (y : Ino) (j : Nat) : (m.setIno n y).ino j = if n = j ∧ j < 8 then y else m.ino j := by
  simp only [Img.ino, Img.setIno]
  by_cases hj : j < 8
  · simp only [hj, dite_true, and_true, Vector.getElem_setIfInBounds]
  · simp [hj]
@[go_sem] theorem dat_setIno (m : Img) (n : Nat) (y : Ino) (j : Nat) : (m.setIno n y).dat j = m.dat j := rfl
@[go_sem] theorem ent_setIno (m : Img) (n : Nat) (y : Ino) (d s : Nat) : (m.setIno n y).ent d s = m.ent d s := rfl
@[go_sem] theorem dat_setDat (m : Img) (n : Nat) (y : Dat) (j : Nat) : (m.setDat n y).dat j = if n = j ∧ j < 9 then y else m.dat j := by
  simp only [Img.dat, Img.setDat]
  by_cases hj : j < 9
  · simp only [hj, dite_true, and_true, Vector.getElem_setIfInBounds]
  · simp [hj]
@[go_sem] theorem ino_setDat (m : Img) (n : Nat) (y : Dat) (j : Nat) : (m.setDat n y).ino j = m.ino j := rfl
@[go_sem] theorem ent_setDat (m : Img) (n : Nat) (y : Dat) (d s : Nat) : (m.setDat n y).ent d s = m.ent d s := rfl
@[go_sem] theorem ino_setEnt (m : Img) (d s : Nat) (y : Ent) (j : Nat) : (m.setEnt d s y).ino j = m.ino j := by simp only [Img.setEnt]; split <;> rfl
@[go_sem] theorem dat_setEnt (m : Img) (d s : Nat) (y : Ent) (j : Nat) : (m.setEnt d s y).dat j = m.dat j := by simp only [Img.setEnt]; split <;> rfl
theorem ent_setEnt (m : Img) (d s : Nat) (y : Ent) (d' s' : Nat) : (m.setEnt d s y).ent d' s' = if (d = d' ∧ s = s') ∧ d' < 3 ∧ s' < 4 then y else m.ent d' s' := by
  simp only [Img.setEnt]
  by_cases hd : d < 3
  · simp only [hd, dite_true, Img.ent]
    by_cases h : d' < 3 ∧ s' < 4
    · simp only [h, dite_true, and_self, and_true, Vector.getElem_set]
      by_cases e : d = d'
      · subst e; simp [Vector.getElem_setIfInBounds]
      · simp [e]
    · simp [h]
  · simp only [hd, dite_false]
    by_cases e : d = d'
    · subst e; simp [hd]
    · simp [e]
@[go_sem] theorem prt_setPrt (i : Ino) (p : Nat) (x : Int) (j : Nat) : (i.setPrt p x).prt j = if p = j ∧ j < 2 then x else i.prt j := by
  simp only [Ino.prt, Ino.setPrt]
  by_cases hj : j < 2
  · simp only [hj, dite_true, and_true, Vector.getElem_setIfInBounds]
  · simp [hj]
theorem Img.ext_of {m m' : Img} (h1 : ∀ n, n < 8 → m.ino n = m'.ino n) (h2 : ∀ d s, d < 3 → s < 4 → m.ent d s = m'.ent d s) (h3 : ∀ x, x < 9 → m.dat x = m'.dat x) : m = m' := by
  cases m with | mk a b c => cases m' with | mk a' b' c' =>
  congr 1
  · ext1 n hn; have := h1 n hn; simpa [Img.ino, hn] using this
  · ext1 d hd; ext1 s hs; have := h2 d s hd hs; simpa [Img.ent, hd, hs] using this
  · ext1 n hn; have := h3 n hn; simpa [Img.dat, hn] using this
theorem Ino.ext_of {i j : Ino} (h1 : i.live = j.live) (h2 : i.stamp = j.stamp) (h3 : i.links = j.links) (h4 : ∀ p, p < 2 → i.prt p = j.prt p) : i = j := by
  cases i with | mk a b c d => cases j with | mk a' b' c' d' =>
  obtain rfl : a = a' := h1
  obtain rfl : b = b' := h2
  obtain rfl : c = c' := h3
  congr 1
  ext n hn; have := h4 n hn; simpa [Ino.prt, hn] using this
@[go_sem] theorem live_setPrt (i : Ino) (p : Nat) (x : Int) : (i.setPrt p x).live = i.live := rfl
@[go_sem] theorem stamp_setPrt (i : Ino) (p : Nat) (x : Int) : (i.setPrt p x).stamp = i.stamp := rfl
@[go_sem] theorem links_setPrt (i : Ino) (p : Nat) (x : Int) : (i.setPrt p x).links = i.links := rfl
def sInodes : Str := ⟨#[105, 110, 111, 100, 101, 115]⟩
def sDir : Str := ⟨#[100, 105, 114]⟩
def sData : Str := ⟨#[100, 97, 116, 97]⟩
def sNone : Str := ⟨#[]⟩
def blockOf (b : Int) : Str × Int :=
  if b < 0 ∨ 14 ≤ b then (sNone, 0) else if b < 2 then (sInodes, b * 4) else if b < 5 then (sDir, b - 2) else (sData, b - 5)
section
variable {cx : Cx} {h : HP} {p p' : Id} {q q' : List Nat} {m m' : Img}
theorem blk_split (b : Int) : b = 0 ∨ b = 1 ∨ b = 2 ∨ b = 3 ∨ b = 4 ∨ b = 5 ∨ b = 6 ∨ b = 7 ∨ b = 8 ∨ b = 9 ∨ b = 10 ∨ b = 11 ∨ b = 12 ∨ b = 13 ∨ b < 0 ∨ 14 ≤ b := by omega
theorem Block_ok {b : Int} : Ok tbl cx Fn.safe_Block (St.enter [.int .i64 b] h) fun v h' => v = .tup (.cons (.str (blockOf b).1) (.cons (.int .i64 (blockOf b).2) .unit)) ∧ h' = h := by
  rw [Ok_eq]
  rcases blk_split b with rfl | rfl | rfl | rfl | rfl | rfl | rfl | rfl | rfl | rfl | rfl | rfl | rfl | rfl | hb | hb
  all_goals simp (config := { maxSteps := 1000000 }) (disch := omega) only [go_sem, W_round, W_again]
  all_goals first | rfl | simp only [blockOf, hb, true_or, or_true, if_true]; rfl
end
end Go.Mini

namespace Go.Mini
set_option linter.unusedSimpArgs false
set_option linter.unusedVariables false
set_option maxHeartbeats 4000000
set_option maxRecDepth 100000
def part (now disk : Img) (n p : Nat) : Int :=
  let x := (now.ino n).prt p
  if x < 0 ∨ 9 ≤ x then -1 else if (disk.dat x.toNat).of = (now.ino n).stamp then x
    else if (disk.ino n).live = true ∧ (disk.ino n).stamp = (now.ino n).stamp then (disk.ino n).prt p else -1
def inodeAs (now disk : Img) (n : Nat) : Ino :=
  if (now.ino n).live = true then ⟨(now.ino n).live, (now.ino n).stamp, both now disk n, #v[part now disk n 0, part now disk n 1]⟩
  else if (disk.ino n).live = true ∧ 0 < both now disk n then { disk.ino n with links := both now disk n } else Ino.none
section
variable {cx : Cx} {h : HP} {p p' : Id} {q q' : List Nat} {m m' : Img}
theorem part_ok {n j : Nat} (hn : n < 8) (hj : j < 2) (hb : p.below cx.lvl) (hm : h.rd p q = some m.enc) (hb' : p'.below cx.lvl) (hm' : h.rd p' q' = some m'.enc) :
    Ok tbl cx Fn.safe_part (St.enter [.ptr p q tImage, .ptr p' q' tImage, .int .i64 n, .int .i64 j] h) fun v h' => v = .int .i64 (part m m' n j) ∧ h' = h := by
  rw [Ok_eq]
  simp (config := { maxSteps := 1000000 }) (disch := omega) only [go_sem, rd_ext hb, HP.rd_app hm, fg_ptr hb, leads_ptr hb, apart_ptr hb, rd_ext hb', HP.rd_app hm', fg_ptr hb', leads_ptr hb', apart_ptr hb']
  by_cases h0 : (m.ino n).prt j < 0
  · simp (config := { maxSteps := 1000000 }) (disch := omega) only [go_sem, h0]; simp only [part, h0, true_or, if_true]
  by_cases h9 : 9 ≤ (m.ino n).prt j
  · simp (config := { maxSteps := 1000000 }) (disch := omega) only [go_sem, h0, h9]; simp only [part, h9, or_true, if_true]
  simp (config := { maxSteps := 1000000 }) (disch := omega) only [go_sem, h0, h9, rd_ext hb, HP.rd_app hm, fg_ptr hb, leads_ptr hb, apart_ptr hb, rd_ext hb', HP.rd_app hm', fg_ptr hb', leads_ptr hb', apart_ptr hb']
  have hx : ¬((m.ino n).prt j < 0 ∨ 9 ≤ (m.ino n).prt j) := by omega
  refine WC_intro (fun h1 => ?_) (fun h1 => ?_) <;> simp (config := { maxSteps := 1000000 }) (disch := omega) only [go_sem, h1, rd_ext hb, HP.rd_app hm, fg_ptr hb, leads_ptr hb, apart_ptr hb, rd_ext hb', HP.rd_app hm', fg_ptr hb', leads_ptr hb', apart_ptr hb']
  · simp only [decide_eq_true_eq] at h1
    simp only [part, hx, h1, if_true, if_false]
  simp only [decide_eq_false_iff_not] at h1
  refine WG_intro (fun h2 => ?_) (fun h2 => ?_) <;> simp (config := { maxSteps := 1000000 }) (disch := omega) only [go_sem, h2, rd_ext hb, HP.rd_app hm, fg_ptr hb, leads_ptr hb, apart_ptr hb, rd_ext hb', HP.rd_app hm', fg_ptr hb', leads_ptr hb', apart_ptr hb']
  · refine WC_intro (fun h3 => ?_) (fun h3 => ?_) <;> simp (config := { maxSteps := 1000000 }) (disch := omega) only [go_sem, h3, rd_ext hb, HP.rd_app hm, fg_ptr hb, leads_ptr hb, apart_ptr hb, rd_ext hb', HP.rd_app hm', fg_ptr hb', leads_ptr hb', apart_ptr hb']
    · simp only [decide_eq_true_eq] at h3
      simp only [part, hx, h1, h2, h3, if_true, if_false, and_self]
    · simp only [decide_eq_false_iff_not] at h3
      simp only [part, hx, h1, h2, h3, if_true, if_false, and_false]
  · simp [part, hx, h1, h2]
@[go_sem] theorem set01 (v : Vector Int 2) (a b : Int) (h : 0 < 2) (h' : 1 < 2) : (v.set 0 a h).set 1 b h' = #v[a, b] := by
  ext i hi
  obtain rfl | rfl : i = 0 ∨ i = 1 := by omega
  all_goals simp
theorem Inode_ok {n : Nat} (hn : n < 8) (hb : p.below cx.lvl) (hm : h.rd p q = some m.enc) (hb' : p'.below cx.lvl) (hm' : h.rd p' q' = some m'.enc) :
    Ok tbl cx Fn.safe_Inode (St.enter [.ptr p q tImage, .ptr p' q' tImage, .int .i64 n] h) fun v h' => v = (inodeAs m m' n).enc ∧ h' = h := by
  rw [Ok_eq]
  simp (config := { maxSteps := 1000000 }) (disch := omega) only [go_sem, rd_ext hb, HP.rd_app hm, fg_ptr hb, leads_ptr hb, apart_ptr hb, rd_ext hb', HP.rd_app hm', fg_ptr hb', leads_ptr hb', apart_ptr hb']
  refine W_callp rfl ⟨rfl, rfl⟩ (by simp only [go_sem]; exact Union_ok (m := m) (m' := m') hb.succ (by simp only [HP.push_rd_ext hb, hm]) hb'.succ (by simp only [HP.push_rd_ext hb', hm'])) ?_
  simp (config := { maxSteps := 1000000 }) (disch := omega) only [go_sem, rd_ext hb, HP.rd_app hm, fg_ptr hb, leads_ptr hb, apart_ptr hb, rd_ext hb', HP.rd_app hm', fg_ptr hb', leads_ptr hb', apart_ptr hb']
  refine WC_intro (fun h1 => ?_) (fun h1 => ?_) <;> simp (config := { maxSteps := 1000000 }) (disch := omega) only [go_sem, h1, rd_ext hb, HP.rd_app hm, fg_ptr hb, leads_ptr hb, apart_ptr hb, rd_ext hb', HP.rd_app hm', fg_ptr hb', leads_ptr hb', apart_ptr hb']
  · refine WG_intro (fun h2 => ?_) (fun h2 => ?_) <;> simp (config := { maxSteps := 1000000 }) (disch := omega) only [go_sem, h2, rd_ext hb, HP.rd_app hm, fg_ptr hb, leads_ptr hb, apart_ptr hb, rd_ext hb', HP.rd_app hm', fg_ptr hb', leads_ptr hb', apart_ptr hb']
    · refine WC_intro (fun h3 => ?_) (fun h3 => ?_) <;> simp (config := { maxSteps := 1000000 }) (disch := omega) only [go_sem, h3, rd_ext hb, HP.rd_app hm, fg_ptr hb, leads_ptr hb, apart_ptr hb, rd_ext hb', HP.rd_app hm', fg_ptr hb', leads_ptr hb', apart_ptr hb']
      · simp at h1 h3
        simp [inodeAs, h1, h2, h3]
      · refine W_callp rfl ⟨rfl, rfl⟩ (by simp only [go_sem]; exact Free_ok) ?_
        simp (config := { maxSteps := 1000000 }) (disch := omega) only [go_sem]
        simp at h1 h3
        simp [inodeAs, h1, h2, h3]
    · refine W_callp rfl ⟨rfl, rfl⟩ (by simp only [go_sem]; exact Free_ok) ?_
      simp (config := { maxSteps := 1000000 }) (disch := omega) only [go_sem]
      simp at h1 h2
      simp [inodeAs, h1, h2]
  · simp only [W_round, W_again]
    simp (config := { maxSteps := 1000000 }) (disch := omega) only [go_sem]
    refine W_callp rfl ⟨rfl, rfl⟩ (by simp only [go_sem]; exact part_ok (n := n) (j := 0) (m := m) (m' := m') hn (by omega) hb.succ (by simp only [HP.push_rd_ext hb, hm]) hb'.succ (by simp only [HP.push_rd_ext hb', hm'])) ?_
    simp (config := { maxSteps := 1000000 }) (disch := omega) only [go_sem, W_round, W_again]
    refine W_callp rfl ⟨rfl, rfl⟩ (by simp only [go_sem]; exact part_ok (n := n) (j := 1) (m := m) (m' := m') hn (by omega) hb.succ (by simp only [HP.push_rd_ext hb, hm]) hb'.succ (by simp only [HP.push_rd_ext hb', hm'])) ?_
    simp (config := { maxSteps := 1000000 }) (disch := omega) only [go_sem, W_round, W_again]
    simp at h1
    simp [inodeAs, h1]
def prts (now disk : Img) (n j : Nat) : Vector Int 2 := Vector.ofFn fun p : Fin 2 => if p.val < j then part now disk n p else (now.ino n).prt p
@[go_sem] theorem prts_at {n j : Nat} (h : j < 2) : (prts m m' n j)[j]'h = (m.ino n).prt j := by simp [prts]
end
end Go.Mini

namespace Go.Mini
set_option linter.unusedSimpArgs false
set_option linter.unusedVariables false
set_option maxHeartbeats 4000000
set_option maxRecDepth 100000
def entryAs (now disk : Img) (d s : Nat) : Ent :=
  let a := now.ent d s
  let b := disk.ent d s
  if a = b then b
  else if b.name = ⟨#[]⟩ then
    if a.ino < 0 ∨ 8 ≤ a.ino then b
    else if (disk.ino a.ino.toNat).live = true ∧ (disk.ino a.ino.toNat).stamp = a.stamp ∧ (refs disk a.ino : Int) < (disk.ino a.ino.toNat).links then a else b
  else if 1 < refs disk b.ino ∨ refs now b.ino = 0 then Ent.zero else b
section
variable {cx : Cx} {h : HP} {p p' : Id} {q q' : List Nat} {m m' : Img}
theorem Entry_ok {d s : Nat} (hd : d < 3) (hs : s < 4) (hb : p.below cx.lvl) (hm : h.rd p q = some m.enc) (hb' : p'.below cx.lvl) (hm' : h.rd p' q' = some m'.enc) :
    Ok tbl cx Fn.safe_Entry (St.enter [.ptr p q tImage, .ptr p' q' tImage, .int .i64 d, .int .i64 s] h) fun v h' => v = (entryAs m m' d s).enc ∧ h' = h := by
  rw [Ok_eq]
  simp (config := { maxSteps := 1000000 }) (disch := omega) only [go_sem, rd_ext hb, HP.rd_app hm, fg_ptr hb, leads_ptr hb, apart_ptr hb, rd_ext hb', HP.rd_app hm', fg_ptr hb', leads_ptr hb', apart_ptr hb']
  by_cases h1 : m.ent d s = m'.ent d s
  · simp (config := { maxSteps := 1000000 }) (disch := omega) only [go_sem, h1]; simp [entryAs, h1]
  simp (config := { maxSteps := 1000000 }) (disch := omega) only [go_sem, h1]
  by_cases h2 : (m'.ent d s).name = ⟨#[]⟩
  · simp (config := { maxSteps := 1000000 }) (disch := omega) only [go_sem, h2]
    by_cases h3 : (m.ent d s).ino < 0
    · simp (config := { maxSteps := 1000000 }) (disch := omega) only [go_sem, h3]; simp [entryAs, h1, h2, h3]
    by_cases h4 : 8 ≤ (m.ent d s).ino
    · simp (config := { maxSteps := 1000000 }) (disch := omega) only [go_sem, h2, h3, h4]; simp [entryAs, h1, h2, h3, h4]
    simp (config := { maxSteps := 1000000 }) (disch := omega) only [go_sem, h2, h3, h4, rd_ext hb, HP.rd_app hm, fg_ptr hb, leads_ptr hb, apart_ptr hb, rd_ext hb', HP.rd_app hm', fg_ptr hb', leads_ptr hb', apart_ptr hb']
    have h34 : ¬((m.ent d s).ino < 0 ∨ 8 ≤ (m.ent d s).ino) := by omega
    by_cases h5 : (m'.ino (m.ent d s).ino.toNat).live = true
    · simp (config := { maxSteps := 1000000 }) (disch := omega) only [go_sem, h5]
      by_cases h6 : (m'.ino (m.ent d s).ino.toNat).stamp = (m.ent d s).stamp
      · simp (config := { maxSteps := 1000000 }) (disch := omega) only [go_sem, h6]
        refine W_callp rfl ⟨rfl, rfl⟩ (by simp only [go_sem]; exact Refs_ok (m := m') hb'.succ (by simp only [HP.push_rd_ext hb', hm'])) ?_
        simp (config := { maxSteps := 1000000 }) (disch := omega) only [go_sem, h6]
        refine WC_intro (fun h7 => ?_) (fun h7 => ?_) <;> simp (config := { maxSteps := 1000000 }) (disch := omega) only [go_sem, h7]
        · simp at h7
          simp [entryAs, h1, h2, h34, h5, h6, h7]
        · simp at h7
          have h8 : ¬(refs m' (m.ent d s).ino : Int) < (m'.ino (m.ent d s).ino.toNat).links := by omega
          simp [entryAs, h1, h2, h34, h5, h6, h8]
      · simp (config := { maxSteps := 1000000 }) (disch := omega) only [go_sem, h6]
        simp [entryAs, h1, h2, h34, h5, h6]
    · simp (config := { maxSteps := 1000000 }) (disch := omega) only [go_sem, h5]
      simp [entryAs, h1, h2, h34, h5]
  · simp (config := { maxSteps := 1000000 }) (disch := omega) only [go_sem, h2, rd_ext hb, HP.rd_app hm, fg_ptr hb, leads_ptr hb, apart_ptr hb, rd_ext hb', HP.rd_app hm', fg_ptr hb', leads_ptr hb', apart_ptr hb']
    refine W_callp rfl ⟨rfl, rfl⟩ (by simp only [go_sem]; exact Refs_ok (m := m') hb'.succ (by simp only [HP.push_rd_ext hb', hm'])) ?_
    simp (config := { maxSteps := 1000000 }) (disch := omega) only [go_sem, h2, rd_ext hb, HP.rd_app hm, fg_ptr hb, leads_ptr hb, apart_ptr hb, rd_ext hb', HP.rd_app hm', fg_ptr hb', leads_ptr hb', apart_ptr hb']
    refine WG_intro (fun h3 => ?_) (fun h3 => ?_) <;> simp (config := { maxSteps := 1000000 }) (disch := omega) only [go_sem, h3, rd_ext hb, HP.rd_app hm, fg_ptr hb, leads_ptr hb, apart_ptr hb, rd_ext hb', HP.rd_app hm', fg_ptr hb', leads_ptr hb', apart_ptr hb']
    · refine W_callp rfl ⟨rfl, rfl⟩ (by simp only [go_sem]; exact Refs_ok (m := m) hb.succ (by simp only [HP.push_rd_ext hb, hm])) ?_
      simp (config := { maxSteps := 1000000 }) (disch := omega) only [go_sem, h2, rd_ext hb, HP.rd_app hm, fg_ptr hb, leads_ptr hb, apart_ptr hb, rd_ext hb', HP.rd_app hm', fg_ptr hb', leads_ptr hb', apart_ptr hb']
      refine WC_intro (fun h4 => ?_) (fun h4 => ?_) <;> simp (config := { maxSteps := 1000000 }) (disch := omega) only [go_sem, h4, rd_ext hb, HP.rd_app hm, fg_ptr hb, leads_ptr hb, apart_ptr hb, rd_ext hb', HP.rd_app hm', fg_ptr hb', leads_ptr hb', apart_ptr hb']
      · simp at h3 h4
        simp [entryAs, h1, h2, h3, h4]
      · simp at h3 h4
        have h5 : ¬1 < refs m' (m'.ent d s).ino := by omega
        simp [entryAs, h1, h2, h3, h4, h5]
    · simp at h3
      have h5 : 1 < refs m' (m'.ent d s).ino := by omega
      simp [entryAs, h1, h2, h5]
end
end Go.Mini

namespace Go.Mini
set_option linter.unusedSimpArgs false
set_option linter.unusedVariables false
set_option maxHeartbeats 4000000
set_option maxRecDepth 100000
def wrInodes (now disk : Img) (n : Nat) : Nat → Img
  | 0 => disk
  | k + 1 => (wrInodes now disk n k).setIno (n + k) (inodeAs now disk (n + k))
def wrDir (now disk : Img) (d : Nat) : Nat → Img
  | 0 => disk
  | k + 1 => (wrDir now disk d k).setEnt d k (entryAs now (wrDir now disk d k) d k)
def writeAs (now disk : Img) (b : Int) : Img × Bool :=
  if (blockOf b).1 = sInodes then (wrInodes now disk (blockOf b).2.toNat 4, true)
  else if (blockOf b).1 = sDir then (wrDir now disk (blockOf b).2.toNat 4, true)
  else if (blockOf b).1 = sData then (disk.setDat (blockOf b).2.toNat (now.dat (blockOf b).2.toNat), true)
  else (disk, false)
theorem blockOf_cases (b : Int) : (∃ n : Nat, n ≤ 4 ∧ blockOf b = (sInodes, (n : Int))) ∨ (∃ n : Nat, n < 3 ∧ blockOf b = (sDir, (n : Int))) ∨ (∃ n : Nat, n < 9 ∧ blockOf b = (sData, (n : Int))) ∨ blockOf b = (sNone, 0) := by
  unfold blockOf
  by_cases h1 : b < 0 ∨ 14 ≤ b
  · simp [h1]
  by_cases h2 : b < 2
  · refine .inl ⟨(b * 4).toNat, by omega, ?_⟩
    rw [if_neg h1, if_pos h2]; congr 1; omega
  by_cases h3 : b < 5
  · refine .inr (.inl ⟨(b - 2).toNat, by omega, ?_⟩)
    rw [if_neg h1, if_neg h2, if_pos h3]; congr 1; omega
  · refine .inr (.inr (.inl ⟨(b - 5).toNat, by omega, ?_⟩))
    rw [if_neg h1, if_neg h2, if_neg h3]; congr 1; omega
theorem st_ii : decide (sInodes = ⟨#[105, 110, 111, 100, 101, 115]⟩) = true := by decide
theorem st_di : decide (sDir = ⟨#[105, 110, 111, 100, 101, 115]⟩) = false := by decide
theorem st_ai : decide (sData = ⟨#[105, 110, 111, 100, 101, 115]⟩) = false := by decide
theorem st_ni : decide (sNone = ⟨#[105, 110, 111, 100, 101, 115]⟩) = false := by decide
theorem st_dd : decide (sDir = ⟨#[100, 105, 114]⟩) = true := by decide
theorem st_ad : decide (sData = ⟨#[100, 105, 114]⟩) = false := by decide
theorem st_nd : decide (sNone = ⟨#[100, 105, 114]⟩) = false := by decide
theorem st_aa : decide (sData = ⟨#[100, 97, 116, 97]⟩) = true := by decide
theorem st_na : decide (sNone = ⟨#[100, 97, 116, 97]⟩) = false := by decide
theorem st_i : decide (sInodes = ⟨#[]⟩) = false := by decide
theorem st_d : decide (sDir = ⟨#[]⟩) = false := by decide
theorem st_a : decide (sData = ⟨#[]⟩) = false := by decide
theorem st_n : decide (sNone = ⟨#[]⟩) = true := by decide
attribute [go_sem] st_ii st_di st_ai st_ni st_dd st_ad st_nd st_aa st_na st_i st_d st_a st_n
theorem ne_di : (sDir = sInodes) = False := eq_false (by decide)
theorem ne_ai : (sData = sInodes) = False := eq_false (by decide)
theorem ne_ni : (sNone = sInodes) = False := eq_false (by decide)
theorem ne_ad : (sData = sDir) = False := eq_false (by decide)
theorem ne_nd : (sNone = sDir) = False := eq_false (by decide)
theorem ne_na : (sNone = sData) = False := eq_false (by decide)
@[go_sem] theorem toNat_add (a b : Nat) : ((a : Int) + (b : Int)).toNat = a + b := by omega
section
variable {m m' : Img} {b : Int} {n : Nat}
theorem writeAs_i (e : blockOf b = (sInodes, (n : Int))) : writeAs m m' b = (wrInodes m m' n 4, true) := by simp only [writeAs, e, if_true, Int.toNat_natCast]
theorem writeAs_d (e : blockOf b = (sDir, (n : Int))) : writeAs m m' b = (wrDir m m' n 4, true) := by simp only [writeAs, e, if_true, if_false, ne_di, Int.toNat_natCast]
theorem writeAs_a (e : blockOf b = (sData, (n : Int))) : writeAs m m' b = (m'.setDat n (m.dat n), true) := by simp only [writeAs, e, if_true, if_false, ne_ai, ne_ad, Int.toNat_natCast]
theorem writeAs_n (e : blockOf b = (sNone, 0)) : writeAs m m' b = (m', false) := by simp only [writeAs, e, if_true, if_false, ne_ni, ne_nd, ne_na]
end
section
variable {cx : Cx} {h : HP} {p p' : Id} {q q' : List Nat} {m m' : Img}
theorem Write_ok {b : Int} (hb : p.below cx.lvl) (hm : h.rd p q = some m.enc) (hb' : p'.below cx.lvl) (hm' : h.rd p' q' = some m'.enc) :
    Ok tbl cx Fn.safe_Write (St.enter [.ptr p q tImage, .ptr p' q' tImage, .int .i64 b] h) fun v h' => v = .tup (.cons (writeAs m m' b).1.enc (.cons (.bool (writeAs m m' b).2) .unit)) ∧ h' = h := by
  rw [Ok_eq]
  have hm0 : h.rd p' q' = some m'.enc := hm'
  simp (config := { maxSteps := 1000000 }) (disch := omega) only [go_sem, rd_ext hb, HP.rd_app hm, fg_ptr hb, leads_ptr hb, apart_ptr hb, rd_ext hb', HP.rd_app hm', fg_ptr hb', leads_ptr hb', apart_ptr hb', hm0]
  refine W_callp rfl ⟨rfl, rfl⟩ (by simp only [go_sem]; exact Block_ok) ?_
  simp (config := { maxSteps := 1000000 }) (disch := omega) only [go_sem]
  obtain ⟨n, hn, e⟩ | ⟨n, hn, e⟩ | ⟨n, hn, e⟩ | e := blockOf_cases b
  · simp (config := { maxSteps := 1000000 }) (disch := omega) only [go_sem, e]
    refine W_for 4 (fun j => ⟨[(0, .ptr p q tImage), (1, .ptr p' q' tImage), (6, .ptr (.stk cx.lvl 6) [] tImage), (8, .ptr (.stk cx.lvl 8) [] tImage), (10, .int .i64 n), (11, .int .i64 (n + j : Nat))],
      [(6, ⟨tImage, Img.zero.enc⟩), (8, ⟨tImage, (wrInodes m m' n j).enc⟩)], h⟩) (by simp only [go_sem, wrInodes, Nat.add_zero]) fun j hj ih => ?_
    by_cases hlt : j < 4
    · simp (config := { maxSteps := 1000000 }) (disch := omega) only [go_sem, rd_ext hb, HP.rd_app hm, fg_ptr hb, leads_ptr hb, apart_ptr hb, rd_ext hb', HP.rd_app hm', fg_ptr hb', leads_ptr hb', apart_ptr hb', hlt]
      refine W_callp rfl ⟨rfl, rfl⟩ (by simp only [go_sem]; rw [← Int.natCast_add]; exact Inode_ok (m := m) (m' := m') (n := n + j) (by omega) hb.succ (by simp only [HP.push_rd_ext hb, hm]) hb'.succ (by simp only [HP.push_rd_ext hb', hm'])) ?_
      simp (config := { maxSteps := 1000000 }) (disch := omega) only [go_sem, rd_ext hb, HP.rd_app hm, fg_ptr hb, leads_ptr hb, apart_ptr hb, rd_ext hb', HP.rd_app hm', fg_ptr hb', leads_ptr hb', apart_ptr hb', hlt]
      refine ih _ hlt ?_
      simp only [go_sem, wrInodes, Int.add_assoc]
    · obtain rfl : j = 4 := by omega
      simp (config := { maxSteps := 1000000 }) (disch := omega) only [go_sem, writeAs_i e]
  · simp (config := { maxSteps := 1000000 }) (disch := omega) only [go_sem, e]
    refine W_for 4 (fun j => ⟨[(0, .ptr p q tImage), (6, .ptr (.stk cx.lvl 6) [] tImage), (8, .ptr (.stk cx.lvl 8) [] tImage), (10, .int .i64 n), (43, .int .i64 j)],
      [(6, ⟨tImage, Img.zero.enc⟩), (8, ⟨tImage, (wrDir m m' n j).enc⟩)], h⟩) (by simp only [go_sem, wrDir] <;> rfl) fun j hj ih => ?_
    by_cases hlt : j < 4
    · simp (config := { maxSteps := 1000000 }) (disch := omega) only [go_sem, rd_ext hb, HP.rd_app hm, fg_ptr hb, leads_ptr hb, apart_ptr hb, rd_ext hb', HP.rd_app hm', fg_ptr hb', leads_ptr hb', apart_ptr hb', hlt]
      refine W_callp rfl ⟨rfl, rfl⟩ (by simp only [go_sem]; exact Entry_ok (m := m) (m' := wrDir m m' n j) hn hlt hb.succ (by simp only [HP.push_rd_ext hb, hm]) (below_stk _ _) (by simp only [go_sem, HP.push_rd_own])) ?_
      simp (config := { maxSteps := 1000000 }) (disch := omega) only [go_sem, rd_ext hb, HP.rd_app hm, fg_ptr hb, leads_ptr hb, apart_ptr hb, rd_ext hb', HP.rd_app hm', fg_ptr hb', leads_ptr hb', apart_ptr hb', hlt]
      refine ih _ hlt ?_
      simp only [go_sem, wrDir]
    · obtain rfl : j = 4 := by omega
      simp (config := { maxSteps := 1000000 }) (disch := omega) only [go_sem, writeAs_d e]
  · simp (config := { maxSteps := 1000000 }) (disch := omega) only [go_sem, e, rd_ext hb, HP.rd_app hm, fg_ptr hb, leads_ptr hb, apart_ptr hb, rd_ext hb', HP.rd_app hm', fg_ptr hb', leads_ptr hb', apart_ptr hb', writeAs_a e]
  · simp (config := { maxSteps := 1000000 }) (disch := omega) only [go_sem, e, rd_ext hb, HP.rd_app hm, fg_ptr hb, leads_ptr hb, apart_ptr hb, rd_ext hb', HP.rd_app hm', fg_ptr hb', leads_ptr hb', apart_ptr hb', hm0, writeAs_n e]
def greatRow (m : Img) (d k : Nat) : Nat := sumN k fun s => min (m.ent d s).name.size 10000
def greatDat (m : Img) (k : Nat) : Nat := sumN k fun x => min (m.dat x).text.size 10000
def greatDir (m : Img) (k : Nat) : Nat := sumN k fun d => greatRow m d 4
def great (m : Img) : Bool := decide (3000 < greatDir m 3 + greatDat m 9)
@[go_sem] theorem minV_nat (k : IntKind) (a : Nat) : minV (.int k (a : Int)) (.int k 10000) = some (.int k (min a 10000 : Nat)) := by
  simp only [minV, if_true]; congr 2; split <;> omega
@[go_sem] theorem fill_dat (a : Int) (s : Str) : fill tData Dat.zero.enc [(0, .int .i64 a), (1, .str s)] = some (Dat.enc ⟨a, s⟩) := rfl
@[go_sem] theorem fill_ent (s : Str) (a b : Int) : fill tEntry Ent.zero.enc [(0, .str s), (1, .int .i64 a), (2, .int .i64 b)] = some (Ent.enc ⟨s, a, b⟩) := rfl
def Img.one : Img := ((Img.blank.setIno 2 ⟨true, 5, 1, #v[-1, 3]⟩).setDat 3 ⟨5, ⟨#[120]⟩⟩).setEnt 1 2 ⟨⟨#[97]⟩, 2, 5⟩
end
end Go.Mini

namespace Go.Mini
set_option linter.unusedSimpArgs false
set_option linter.unusedVariables false
set_option maxHeartbeats 4000000
set_option maxRecDepth 100000
theorem sumN_mono {f g : Nat → Nat} (h : ∀ i, f i ≤ g i) : ∀ n, sumN n f ≤ sumN n g
  | 0 => Nat.le_refl _
  | n + 1 => Nat.add_le_add (sumN_mono h n) (h n)
theorem sumN_congr {f g : Nat → Nat} {n : Nat} (h : ∀ i, i < n → f i = g i) : sumN n f = sumN n g := by
  induction n with
  | zero => rfl
  | succ n ih => rw [sumN, sumN, ih fun i hi => h i (by omega), h n (by omega)]
theorem refs_le_both (m m' : Img) (n : Int) : refs m n ≤ both m m' n :=
  sumN_mono (fun d => sumN_mono (fun s => by cases leads m d s n <;> cases leads m' d s n <;> simp [b2n]) 4) 3
theorem both_comm (m m' : Img) (n : Int) : both m m' n = both m' m n := by
  simp only [both, bothRow, Bool.or_comm]
theorem refs_le (m : Img) (n : Int) : refs m n ≤ 12 := sumN_le (fun d => refsRow_le m n d 4) 3
def umod (n c : Int) : Nat := ((IntKind.u64.wrap n).tmod c).toNat
theorem wrapU_nonneg (n : Int) : 0 ≤ IntKind.u64.wrap n := by
  have e1 : (IntKind.u64).bits = 64 := rfl
  have e2 : (IntKind.u64).signed = false := rfl
  have p1 : (2 : Int) ^ 64 = 18446744073709551616 := rfl
  simp only [IntKind.wrap, e1, e2, Bool.false_and, Bool.false_eq_true, if_false, p1]
  omega
@[go_sem] theorem evInt_remU {n c : Int} (hc : 0 < c) : evInt .rem .u64 (IntKind.u64.wrap n) c = some (.int .u64 (umod n c : Nat)) := by
  have h1 := wrapU_nonneg n
  have h3 := Int.tmod_nonneg c h1
  have h0 : ¬c = 0 := by omega
  simp only [evInt, h0, if_false, umod, Option.some.injEq, AV.int.injEq, true_and]
  omega
@[go_sem] theorem eqV_tB (neg a b : Bool) : eqV tB neg (.bool a) (.bool b) = some (.bool (if neg = true then !decide (a = b) else decide (a = b))) := eqV_of rfl rfl (eq_bool a b)
theorem inodeAs_dead (m m' : Img) (n : Nat) (h : (inodeAs m m' n).live = false) : inodeAs m m' n = Ino.none ∧ (m.ino n).live = false := by
  unfold inodeAs at h ⊢
  split at h
  · rename_i hl; simp only [hl] at h; simp at h
  · rename_i hl
    split at h
    · rename_i hd; simp [hd.1] at h
    · rename_i hd; rw [if_neg hl, if_neg hd]; exact ⟨rfl, by simpa using hl⟩
theorem inodeAs_links (m m' : Img) (n : Nat) (h : (inodeAs m m' n).live = true) : (inodeAs m m' n).links = both m m' n := by
  unfold inodeAs at h ⊢
  split
  · rfl
  · rename_i hl
    rw [if_neg hl] at h
    split
    · rfl
    · rename_i hd; rw [if_neg hd] at h; simp [Ino.none] at h
end Go.Mini

namespace Go.Mini
set_option linter.unusedSimpArgs false
set_option linter.unusedVariables false
set_option maxHeartbeats 4000000
set_option maxRecDepth 100000
def anyN : Nat → (Nat → Bool) → Bool
  | 0, _ => false
  | n + 1, f => anyN n f || f n
def firstI : Nat → (Nat → Int) → Int
  | 0, _ => 0
  | n + 1, f => if firstI n f = 0 then f n else firstI n f
def findN : Nat → (Nat → Bool) → Int
  | 0, _ => -1
  | n + 1, f => if anyN n f = true then findN n f else if f n = true then n else -1
theorem anyN_iff {f : Nat → Bool} : ∀ {n}, anyN n f = true ↔ ∃ i, i < n ∧ f i = true
  | 0 => by simp [anyN]
  | n + 1 => by
    rw [anyN, Bool.or_eq_true, anyN_iff]
    constructor
    · rintro (⟨i, h1, h2⟩ | h)
      · exact ⟨i, by omega, h2⟩
      · exact ⟨n, by omega, h⟩
    · rintro ⟨i, h1, h2⟩
      by_cases e : i = n
      · subst e; exact .inr h2
      · exact .inl ⟨i, by omega, h2⟩
theorem anyN_false {f : Nat → Bool} {n : Nat} : anyN n f = false ↔ ∀ i, i < n → f i = false := by
  rw [← Bool.not_eq_true, anyN_iff]
  constructor
  · intro h i hi; rw [← Bool.not_eq_true]; exact fun hf => h ⟨i, hi, hf⟩
  · rintro h ⟨i, hi, hf⟩; rw [h i hi] at hf; exact absurd hf (by simp)
theorem anyN_at {f : Nat → Bool} {n j : Nat} (hj : j < n) (h : f j = true) : anyN n f = true := anyN_iff.2 ⟨j, hj, h⟩
theorem firstI_zero {f : Nat → Int} : ∀ {n}, firstI n f = 0 ↔ ∀ i, i < n → f i = 0
  | 0 => by simp [firstI]
  | n + 1 => by
    rw [firstI]
    constructor
    · intro h i hi
      split at h
      · rename_i h0
        by_cases e : i = n
        · subst e; exact h
        · exact firstI_zero.1 h0 i (by omega)
      · rename_i h0; exact absurd h h0
    · intro h
      rw [if_pos (firstI_zero.2 fun i hi => h i (by omega))]
      exact h n (by omega)
theorem firstI_at {f : Nat → Int} {j : Nat} (h0 : ∀ i, i < j → f i = 0) (h : f j ≠ 0) : ∀ {n}, j < n → firstI n f = f j
  | 0, hj => by omega
  | n + 1, hj => by
    rw [firstI]
    by_cases e : j = n
    · subst e; rw [if_pos (firstI_zero.2 h0)]
    · rw [firstI_at h0 h (n := n) (by omega), if_neg h]
theorem anyN_congr {f g : Nat → Bool} {n : Nat} (h : ∀ i, i < n → f i = g i) : anyN n f = anyN n g := by
  induction n with
  | zero => rfl
  | succ n ih => rw [anyN, anyN, ih fun i hi => h i (by omega), h n (by omega)]
theorem findN_none {f : Nat → Bool} {n : Nat} (h : ∀ i, i < n → f i = false) : findN n f = -1 := by
  induction n with
  | zero => rfl
  | succ n ih => rw [findN, if_neg (by rw [anyN_false.2 fun i hi => h i (by omega)]; simp), h n (by omega)]; rfl
theorem findN_at {f : Nat → Bool} {j : Nat} (h0 : ∀ i, i < j → f i = false) (h : f j = true) : ∀ {n}, j < n → findN n f = j
  | 0, hj => by omega
  | n + 1, hj => by
    rw [findN]
    by_cases e : j = n
    · subst e; rw [if_neg (by rw [anyN_false.2 h0]; simp), if_pos h]
    · rw [if_pos (anyN_at (by omega) h), findN_at h0 h (by omega)]
theorem findN_any {f : Nat → Bool} : ∀ {n : Nat}, anyN n f = true → ∃ j : Nat, j < n ∧ findN n f = j ∧ f j = true ∧ ∀ i, i < j → f i = false
  | 0, h => by simp [anyN] at h
  | n + 1, h => by
    rw [findN]
    by_cases ha : anyN n f = true
    · rw [if_pos ha]
      obtain ⟨j, h1, h2, h3⟩ := findN_any ha
      exact ⟨j, by omega, h2, h3⟩
    · have hf : f n = true := by
        rw [anyN, Bool.or_eq_true] at h
        exact h.resolve_left ha
      rw [if_neg ha, if_pos hf]
      exact ⟨n, by omega, rfl, hf, fun i hi => anyN_false.1 (by simpa using ha) i hi⟩
theorem findN_lt {f : Nat → Bool} {n : Nat} : findN n f = -1 ∨ ∃ j : Nat, j < n ∧ findN n f = j ∧ f j = true ∧ ∀ i, i < j → f i = false := by
  by_cases h : anyN n f = true
  · exact .inr (findN_any h)
  · exact .inl (findN_none fun i hi => anyN_false.1 (by simpa using h) i hi)
theorem findN_neg {f : Nat → Bool} {n : Nat} (h : findN n f = -1) : ∀ i, i < n → f i = false := by
  apply anyN_false.1
  rw [← Bool.not_eq_true]
  intro ha
  obtain ⟨j, _, e, _⟩ := findN_any ha
  omega
theorem W_forP {T : Nat → Option MFun} {cx : Cx} {keep ko : List Nat} {b : MC} {k : List Item} {s : St} {Q : St → Prop} (N : Nat) (S : Nat → St) (P : Nat → Prop) (h0 : s.keep keep ko = S 0) (p0 : P 0)
    (step : ∀ j, j ≤ N → P j → (∀ s', j < N → P (j + 1) → s'.keep keep ko = S (j + 1) → W T cx (.inLoop keep ko b :: k) s' Q) → W T cx (.code b :: .inLoop keep ko b :: k) (S j) Q) :
    W T cx (.code (.loop keep ko b) :: k) s Q :=
  W_loop N (fun j s => s = S j ∧ P j) ⟨h0, p0⟩ fun j s hj hs ih => by obtain ⟨rfl, hp⟩ := hs; exact step j hj hp fun s' h1 h2 h3 => ih s' h1 ⟨h3, h2⟩
theorem step_all {P : Nat → Prop} {j : Nat} (h : ∀ i, i < j → P i) (hj : P j) : ∀ i, i < j + 1 → P i := by
  intro i hi
  by_cases e : i = j
  · subst e; exact hj
  · exact h i (by omega)
def byteAt (s : Str) (i : Nat) : Nat := (s.data.getD i 0).toNat
@[go_sem] theorem stridxV_nat {s : Str} {k : IntKind} {i : Nat} (h : i < s.size) : stridxV (.str s) (.int k (i : Int)) = some (.int .u8 (byteAt s i : Nat)) := by
  have hs : i < s.data.size := h
  have e : s[i]? = some s.data[i] := by
    rw [getElem?_pos s i h]; rfl
  simp only [stridxV, toIx]
  rw [if_pos (by omega), Int.toNat_natCast, e]
  simp [byteAt, getElem?_pos s.data i hs]
def badByte (s : Str) (i : Nat) : Bool := decide (byteAt s i < 97) || decide (122 < byteAt s i)
def isName (s : Str) : Bool := !decide (s = ⟨#[]⟩) && decide (s.size ≤ 6) && !anyN s.size (badByte s)
section
variable {cx : Cx} {h : HP} {p p' : Id} {q q' : List Nat} {m m' : Img}
theorem Name_ok {s : Str} (hs : s.size ≤ 100000) : Ok tbl cx Fn.image_Name (St.enter [.str s] h) fun v h' => v = .bool (isName s) ∧ h' = h := by
  rw [Ok_eq]
  simp (config := { maxSteps := 1000000 }) (disch := omega) only [go_sem]
  refine W_forP s.size (fun j => ⟨[(0, .str s), (5, .int .i64 s.size), (6, .int .i64 j)], [], h⟩) (fun j => ∀ i, i < j → badByte s i = false) (by simp only [go_sem] <;> rfl) (fun i hi => by omega) fun j hj hp ih => ?_
  by_cases hlt : j < s.size
  · simp (config := { maxSteps := 1000000 }) (disch := omega) only [go_sem, hlt]
    by_cases h1 : byteAt s j < 97
    · simp (config := { maxSteps := 1000000 }) (disch := omega) only [go_sem, hlt]
      have : anyN s.size (badByte s) = true := anyN_at hlt (by simp [badByte, h1])
      simp [isName, this]
    · by_cases h2 : 122 < byteAt s j
      · simp (config := { maxSteps := 1000000 }) (disch := omega) only [go_sem, hlt]
        have : anyN s.size (badByte s) = true := anyN_at hlt (by simp [badByte, h2])
        simp [isName, this]
      · simp (config := { maxSteps := 1000000 }) (disch := omega) only [go_sem, hlt]
        refine ih _ hlt (step_all hp (by simp [badByte, h1, h2])) ?_
        simp only [go_sem]
  · obtain rfl : j = s.size := by omega
    have hn : anyN s.size (badByte s) = false := anyN_false.2 hp
    simp (config := { maxSteps := 1000000 }) (disch := omega) only [go_sem]
    by_cases h1 : s = ⟨#[]⟩
    · simp (config := { maxSteps := 1000000 }) (disch := omega) only [go_sem, h1]; simp [isName]
    · by_cases h2 : s.size ≤ 6
      · simp (config := { maxSteps := 1000000 }) (disch := omega) only [go_sem, h1]
        simp [isName, hn, h1, h2]
      · simp (config := { maxSteps := 1000000 }) (disch := omega) only [go_sem, h1]
        simp [isName, hn, h1, h2]
def held (m : Img) (x : Int) : Bool := anyN 8 fun n => (m.ino n).live && (decide ((m.ino n).prt 0 = x) || decide ((m.ino n).prt 1 = x))
theorem Holds_ok {x : Int} (hb : p.below cx.lvl) (hm : h.rd p q = some m.enc) :
    Ok tbl cx Fn.image_Holds (St.enter [.ptr p q tImage, .int .i64 x] h) fun v h' => v = .bool (held m x) ∧ h' = h := by
  rw [Ok_eq]
  simp (config := { maxSteps := 1000000 }) (disch := omega) only [go_sem, rd_ext hb, HP.rd_app hm, fg_ptr hb, leads_ptr hb, apart_ptr hb]
  refine W_forP 8 (fun n => ⟨[(1, .int .i64 x), (10, encV Ino.enc m.inode), (11, .int .i64 n)], [], h⟩) (fun n => ∀ i, i < n → ((m.ino i).live && (decide ((m.ino i).prt 0 = x) || decide ((m.ino i).prt 1 = x))) = false) (by simp only [go_sem] <;> rfl) (fun i hi => by omega) fun n hn hp ih => ?_
  by_cases hlt : n < 8
  · simp (config := { maxSteps := 1000000 }) (disch := omega) only [go_sem, hlt]
    by_cases h1 : (m.ino n).live = true
    · by_cases h2 : (m.ino n).prt 0 = x
      · simp (config := { maxSteps := 1000000 }) (disch := omega) only [go_sem, h1, h2]
        have : held m x = true := anyN_at hlt (by simp [h1, h2])
        simp [this]
      · by_cases h3 : (m.ino n).prt 1 = x
        · simp (config := { maxSteps := 1000000 }) (disch := omega) only [go_sem, h1, h2, h3]
          have : held m x = true := anyN_at hlt (by simp [h1, h3])
          simp [this]
        · simp (config := { maxSteps := 1000000 }) (disch := omega) only [go_sem, h1, h2, h3]
          refine ih _ hlt (step_all hp (by simp [h2, h3])) ?_
          simp only [go_sem]
    · simp only [Bool.not_eq_true] at h1
      simp (config := { maxSteps := 1000000 }) (disch := omega) only [go_sem, h1]
      refine ih _ hlt (step_all hp (by simp [h1])) ?_
      simp only [go_sem]
  · obtain rfl : n = 8 := by omega
    simp (config := { maxSteps := 1000000 }) (disch := omega) only [go_sem]
    have : held m x = false := anyN_false.2 hp
    simp [this]
def slotOf (m : Img) (d : Int) (name : Str) : Int := if d < 0 ∨ 3 ≤ d ∨ name = ⟨#[]⟩ then -1 else findN 4 fun s => decide ((m.ent d.toNat s).name = name)
theorem Find_ok {d : Int} {name : Str} (hb : p.below cx.lvl) (hm : h.rd p q = some m.enc) :
    Ok tbl cx Fn.image_Find (St.enter [.ptr p q tImage, .int .i64 d, .str name] h) fun v h' => v = .int .i64 (slotOf m d name) ∧ h' = h := by
  rw [Ok_eq]
  simp (config := { maxSteps := 1000000 }) (disch := omega) only [go_sem, rd_ext hb, HP.rd_app hm, fg_ptr hb, leads_ptr hb, apart_ptr hb]
  by_cases h1 : d < 0
  · simp (config := { maxSteps := 1000000 }) (disch := omega) only [go_sem, h1]; simp [slotOf, h1]
  by_cases h2 : 3 ≤ d
  · simp (config := { maxSteps := 1000000 }) (disch := omega) only [go_sem, h1, h2]; simp [slotOf, h2]
  by_cases h3 : name = ⟨#[]⟩
  · simp (config := { maxSteps := 1000000 }) (disch := omega) only [go_sem, h1, h2, h3]; simp [slotOf]
  have hd : d.toNat < 3 := by omega
  have e : slotOf m d name = findN 4 fun s => decide ((m.ent d.toNat s).name = name) := by simp only [slotOf]; rw [if_neg (by simp only [not_or]; exact ⟨h1, h2, h3⟩)]
  simp (config := { maxSteps := 1000000 }) (disch := omega) only [go_sem, h1, h2, h3, rd_ext hb, HP.rd_app hm, fg_ptr hb, leads_ptr hb, apart_ptr hb]
  refine W_forP 4 (fun s => ⟨[(2, .str name), (24, encV Ent.enc m.dir[d.toNat]), (25, .int .i64 s)], [], h⟩) (fun s => ∀ i, i < s → decide ((m.ent d.toNat i).name = name) = false) (by simp only [go_sem] <;> rfl) (fun i hi => by omega) fun s hs hp ih => ?_
  by_cases hlt : s < 4
  · simp (config := { maxSteps := 1000000 }) (disch := omega) only [go_sem, hlt]
    by_cases h4 : (m.ent d.toNat s).name = name
    · simp (config := { maxSteps := 1000000 }) (disch := omega) only [go_sem, h4, e]
      rw [findN_at hp (by simp [h4]) hlt]
    · simp (config := { maxSteps := 1000000 }) (disch := omega) only [go_sem, h4]
      refine ih _ hlt (step_all hp (by simp [h4])) ?_
      simp only [go_sem]
  · obtain rfl : s = 4 := by omega
    simp (config := { maxSteps := 1000000 }) (disch := omega) only [go_sem, e]
    rw [findN_none hp]
end
end Go.Mini

namespace Go.Mini
set_option linter.unusedSimpArgs false
set_option linter.unusedVariables false
set_option maxHeartbeats 4000000
set_option maxRecDepth 100000
@[go_sem] theorem aidxV_encVi {α : Type} {f : α → AV} {n : Nat} {t : Ty} {v : Vector α n} {k : IntKind} {z : Int} (h0 : 0 ≤ z) (hm : z.toNat < n) : aidxV n t (encV f v) (.int k z) = if (Ty.arr n t).fits (encV f v) = true then some (f (v[z.toNat]'hm)) else none := by
  simp only [encV, aidxV, toIx]
  rw [dif_pos ⟨h0, by omega⟩]
  rfl
def encL (l : List Int) : AV := .ofList (l.map (AV.int .i64))
theorem encL_toList (l : List Int) : (encL l).toList = some (l.map (AV.int .i64)) := by
  simp only [encL, AV.ofList, AV.toList]
  congr 1
  exact List.ext_getElem (by simp) (by simp)
theorem encL_fits (l : List Int) {n : Nat} (h : n = l.length) : (Ty.arr n tI).fits (encL l) = true := by
  subst h
  simp [encL, AV.ofList, Ty.fits, tI, LK.fits, AV.safe]
theorem encL_at (l : List Int) {i : Nat} (h : i < l.length) : (encL l).at [i] = some (.int .i64 l[i]) := by
  simp [encL, AV.ofList, AV.at, h]
section
variable {T : Nat → Option MFun} {cx : Cx} {k : List Item} {kill : List Nat} {r : List MOp} {sl : Slots} {own : Own} {h : HP} {Q : St → Prop}
def sidxB (t : Ty) (j : Id) (o : Nat) (b : Option Blk) : Option AV := match b with
  | some ⟨.arr _ t', _⟩ => if t = t' then some (.ptr j [o] t) else none
  | _ => none
@[go_sem] theorem sidxB_some (t : Ty) (j : Id) (o n : Nat) (v : AV) : sidxB t j o (some ⟨.arr n t, v⟩) = some (.ptr j [o] t) := by simp [sidxB]
def sidxV (t : Ty) (x i : AV) (L : Id → Option Blk) : Option AV := match x, toIx i with
  | .sl j off len, some z => if 0 ≤ z ∧ z < (len : Int) then sidxB t j (off + z.toNat) (L j) else none
  | _, _ => none
@[go_sem] theorem sidxV_nat {t : Ty} {j : Id} {off len m : Nat} {kk : IntKind} {L : Id → Option Blk} (hm : m < len) : sidxV t (.sl j off len) (.int kk (m : Int)) L = sidxB t j (off + m) (L j) := by
  simp only [sidxV, toIx]; rw [if_pos ⟨by omega, by omega⟩]; rfl
@[go_sem] theorem W_sidx {d : Option Nat} {t : Ty} {x i : Opd} {s : St} : W T cx (.ops (⟨d, .sidx false t x i, none⟩ :: r) kill :: k) s Q = W1 T cx (sidxV t (s.opd x) (s.opd i) (s.look cx)) d r kill k s Q :=
  W_val rfl (by
    simp only [evK, sidxV]
    cases s.opd x <;> try rfl
    cases toIx (s.opd i) <;> try rfl
    rename_i j off len z
    simp only [Bool.false_eq_true, false_implies, and_true]
    by_cases hz : 0 ≤ z ∧ z < (len : Int)
    · rw [if_pos hz, if_pos hz]
      cases s.look cx j with
      | none => rfl
      | some b =>
        obtain ⟨bt, bv⟩ := b
        cases bt <;> try rfl
        simp only [sidxB]
        split <;> rfl
    · rw [if_neg hz, if_neg hz]; rfl)
@[go_sem] theorem look_own {d : Nat} : St.look cx ⟨sl, own, h⟩ (.stk cx.lvl d) = own.get d := by simp [St.look, Id.own]
theorem look_ext {i : Id} (hi : i.below cx.lvl) : St.look cx ⟨sl, own, h⟩ i = h.look i := by simp [St.look, below_own hi]
theorem HP.push_look_own {d : Nat} : (h.push cx.lvl own).look (.stk cx.lvl d) = own.get d := by simp [HP.look, HP.push]
@[go_sem] theorem fg_slown (l s t o n : Nat) : fg (.sl (.stk l s) o n) (.stk l t) = if t = s then .bot else .sl (.stk l s) o n := by
  simp only [fg, AV.leads, AV.isAgg, AV.names, Bool.not_false, Bool.true_and, beq_iff_eq, Id.stk.injEq, true_and]
theorem fg_sl {i : Id} {l t : Nat} (hb : i.below l) (o n : Nat) : fg (.sl i o n) (.stk l t) = .sl i o n := by
  have : (Id.stk l t == i) = false := by simpa using fun e : Id.stk l t = i => hb.ne e.symm
  simp [fg, AV.leads, AV.isAgg, AV.names, this]
def WB (T : Nat → Option MFun) (cx : Cx) (v : AV) (d : Nat) (r : List MOp) (kill : List Nat) (k : List Item) (sl : Slots) (own : Own) (h : HP) (Q : St → Prop) : Prop :=
  onO (fill (.arr 1 tI) (Ty.arr 1 tI).zero [(0, v)]) fun w => W T cx (.ops r kill :: k) ⟨(Slots.forget sl (.stk cx.lvl d)).set d (.sl (.stk cx.lvl d) 0 1), own.set d ⟨.arr 1 tI, w⟩, h⟩ Q
theorem fill1 (n : Int) : fill (.arr 1 tI) (Ty.arr 1 tI).zero [(0, .int .i64 n)] = some (encL [n]) := by
  simp only [fill, Ty.part, Nat.lt_one_iff, if_true, fits_tI, Ty.zero, AV.put, Nat.zero_lt_one, dite_true, put_nil, Option.map_some, encL, AV.ofList]
  congr 2
  funext j
  match j with
  | ⟨0, _⟩ => rfl
@[go_sem] theorem WB_int {n : Int} {d : Nat} : WB T cx (.int .i64 n) d r kill k sl own h Q = W T cx (.ops r kill :: k) ⟨(Slots.forget sl (.stk cx.lvl d)).set d (.sl (.stk cx.lvl d) 0 1), own.set d ⟨.arr 1 tI, encL [n]⟩, h⟩ Q := by
  simp only [WB, fill1, onO]
@[go_sem] theorem W_bslice1 {d : Nat} {x : Opd} : W T cx (.ops (⟨some d, .bslice false tI 1 [(0, x)], none⟩ :: r) kill :: k) ⟨sl, own, h⟩ Q = WB T cx (St.opd ⟨sl, own, h⟩ x) d r kill k sl own h Q := by
  rw [W_op rfl, evOp]
  simp only [evK, WB, List.map_cons, List.map_nil]
  cases fill (.arr 1 tI) (Ty.arr 1 tI).zero [(0, St.opd ⟨sl, own, h⟩ x)] <;> rfl
def WA (T : Nat → Option MFun) (cx : Cx) (x : AV) (add : Option (List AV)) (d : Nat) (r : List MOp) (kill : List Nat) (k : List Item) (sl : Slots) (own : Own) (h : HP) (Q : St → Prop) : Prop :=
  onO add fun add => onO (evAppend (St.look cx ⟨sl, own, h⟩) tI x add) fun e => onO (applyEff cx (some d) false ⟨sl, own, h⟩ e) fun p => W T cx (.ops r kill :: k) (p.2.setd (some d) p.1) Q
@[go_sem] theorem W_append {d : Nat} {x y : Opd} : W T cx (.ops (⟨some d, .append false tI x y, none⟩ :: r) kill :: k) ⟨sl, own, h⟩ Q = WA T cx (St.opd ⟨sl, own, h⟩ x) (elems (St.look cx ⟨sl, own, h⟩) tI (St.opd ⟨sl, own, h⟩ y)) d r kill k sl own h Q := by
  rw [W_op rfl, evOp]
  simp only [evK, WA]
  cases elems (St.look cx ⟨sl, own, h⟩) tI (St.opd ⟨sl, own, h⟩ y) with
  | none => rfl
  | some add =>
    simp only [onO_some]
    cases evAppend (St.look cx ⟨sl, own, h⟩) tI (St.opd ⟨sl, own, h⟩ x) add <;> rfl
def elemsB (b : Option Blk) (len : Nat) : Option (List AV) := match b with
  | some ⟨.arr _ t', v⟩ => match v.toList with
      | some l => if tI = t' ∧ len ≤ l.length then some (l.take len) else none
      | none => none
  | _ => none
@[go_sem] theorem elems_sl (L : Id → Option Blk) (j : Id) (len : Nat) : elems L tI (.sl j 0 len) = elemsB (L j) len := by
  simp only [elems, elemsB, Nat.zero_add, List.drop_zero]
  cases L j with
  | none => rfl
  | some b => obtain ⟨bt, bv⟩ := b; cases bt <;> rfl
@[go_sem] theorem elemsB_one (n : Int) : elemsB (some ⟨.arr 1 tI, encL [n]⟩) 1 = some [.int .i64 n] := by
  simp [elemsB, encL_toList]
@[go_sem] theorem WA_nil {n : Int} {d : Nat} : WA T cx .nilsl (some [.int .i64 n]) d r kill k sl own h Q =
    W T cx (.ops r kill :: k) ⟨(Slots.forget sl (.stk cx.lvl d)).set d (.sl (.stk cx.lvl d) 0 1), own.set d ⟨.arr 1 tI, encL [n]⟩, h⟩ Q := by
  have hf := encL_fits [n] (n := 1) rfl
  simp only [WA, onO_some, evAppend, List.length_cons, List.length_nil, Nat.zero_add]
  rw [if_neg (by omega), if_pos ⟨hf, by omega⟩]
  rfl
theorem WA_grow {d len : Nat} {n : Int} {l : List Int} (hb : own.get d = some ⟨.arr len tI, encL l⟩) (hl : l.length = len) (hm : len + 1 ≤ 1048576) : WA T cx (.sl (.stk cx.lvl d) 0 len) (some [.int .i64 n]) d r kill k sl own h Q =
    W T cx (.ops r kill :: k) ⟨(Slots.forget sl (.stk cx.lvl d)).set d (.sl (.stk cx.lvl d) 0 (len + 1)), (own.rid d).set d ⟨.arr (len + 1) tI, encL (l ++ [n])⟩, h⟩ Q := by
  have hf := encL_fits (l ++ [n]) (n := len + 1) (by simp [hl])
  have e : List.map (AV.int .i64) (l ++ [n]) = (List.map (AV.int .i64) l).take len ++ [.int .i64 n] := by
    rw [List.map_append, List.take_of_length_le (by simp [hl])]; rfl
  simp only [encL, e] at hf ⊢
  simp only [WA, onO_some, evAppend, look_own, hb, encL_toList, List.length_map, List.length_cons, List.length_nil, Nat.zero_add, List.drop_zero, if_true]
  rw [if_neg (by omega), if_pos (by omega), if_pos ⟨hf, hm⟩]
  simp only [onO_some, applyEff, St.drop, Id.own, if_true, Option.map_some]
  rfl
@[go_sem] theorem rid_nil (t : Nat) : Own.rid [] t = [] := rfl
@[go_sem] theorem rid_cons (t u : Nat) (v : Blk) (s : Own) : Own.rid ((t, v) :: s) u = if t = u then Own.rid s u else (t, v) :: Own.rid s u := rfl
def SlI (L : Id → Option Blk) (y : AV) (l : List Int) : Prop := (y = .nilsl ∧ l = []) ∨ ∃ p n k, y = .sl p 0 k ∧ k = l.length ∧ p.below cx.lvl ∧ L p = some ⟨.arr n tI, encL l⟩
theorem Index_ok {y : AV} {l : List Int} {x : Int} (hl : l.length ≤ 1048576) (hy : SlI (cx := cx) h.look y l) :
    Ok tbl cx Fn.slices_Index (St.enter [y, .int .i64 x] h) fun v h' => v = .int .i64 (findN l.length fun i => decide (x = l.getD i 0)) ∧ h' = h := by
  rw [Ok_eq]
  obtain ⟨rfl, rfl⟩ | ⟨p, n, _, rfl, rfl, hb, hp⟩ := hy
  · simp (config := { maxSteps := 1000000 }) (disch := omega) only [go_sem, W_round, W_again]
    rfl
  · simp (config := { maxSteps := 1000000 }) (disch := omega) only [go_sem]
    refine W_forP l.length (fun j => ⟨[(0, .sl p 0 l.length), (1, .int .i64 x), (7, .int .i64 l.length), (8, .int .i64 j)], [], h⟩) (fun j => ∀ i, i < j → decide (x = l.getD i 0) = false) (by simp only [go_sem] <;> rfl) (fun i hi => by omega) fun j hj hq ih => ?_
    by_cases hlt : j < l.length
    · have hrd : h.rd p [j] = some (.int .i64 (l.getD j 0)) := by
        simp only [HP.rd, hp, Option.bind_some, encL_at l hlt]
        simp [hlt]
      simp (config := { maxSteps := 1000000 }) (disch := omega) only [go_sem, hlt, look_ext hb, hp, rd_ext hb, hrd]
      by_cases h1 : x = l.getD j 0
      · simp (config := { maxSteps := 1000000 }) (disch := omega) only [go_sem, h1]
        rw [findN_at (j := j) (fun i hi => by rw [← h1]; exact hq i hi) (by simp) hlt]
      · simp (config := { maxSteps := 1000000 }) (disch := omega) only [go_sem, h1]
        refine ih _ hlt (step_all hq (by simpa using h1)) ?_
        simp only [go_sem]
    · obtain rfl : j = l.length := by omega
      simp (config := { maxSteps := 1000000 }) (disch := omega) only [go_sem]
      rw [findN_none hq]
theorem Contains_ok {y : AV} {l : List Int} {x : Int} (hl : l.length ≤ 1048576) (hy : SlI (cx := cx) h.look y l) :
    Ok tbl cx Fn.slices_Contains (St.enter [y, .int .i64 x] h) fun v h' => v = .bool (l.contains x) ∧ h' = h := by
  rw [Ok_eq]
  simp (config := { maxSteps := 1000000 }) (disch := omega) only [go_sem]
  refine W_callp rfl ⟨rfl, rfl⟩ (by
    simp only [go_sem]
    refine Index_ok (l := l) hl ?_
    obtain ⟨rfl, rfl⟩ | ⟨p, n, _, rfl, rfl, hb, hp⟩ := hy
    · exact .inl ⟨rfl, rfl⟩
    · refine .inr ⟨p, n, _, rfl, rfl, hb.succ, ?_⟩
      rw [← hp]
      cases p <;> simp only [HP.look, HP.push]
      simp only [Id.below] at hb
      rw [if_neg (by omega)]) ?_
  simp (config := { maxSteps := 1000000 }) (disch := omega) only [go_sem]
  congr 1
  rw [Bool.eq_iff_iff, decide_eq_true_eq, List.contains_iff_mem]
  constructor
  · intro h0
    obtain e | ⟨j, hj, e, h1, _⟩ := findN_lt (n := l.length) (f := fun i => decide (x = l.getD i 0))
    · omega
    · have : x = l.getD j 0 := by simpa using h1
      rw [this]; simp [hj]
  · intro hm
    obtain ⟨j, hj, e⟩ := List.getElem_of_mem hm
    obtain h1 | ⟨j', hj', e', h1, _⟩ := findN_lt (n := l.length) (f := fun i => decide (x = l.getD i 0))
    · have h2 := findN_neg h1 j hj
      simp [hj, e] at h2
    · omega
end
end Go.Mini

namespace Go.Mini
set_option linter.unusedSimpArgs false
set_option linter.unusedVariables false
set_option maxHeartbeats 4000000
set_option maxRecDepth 100000
def stampsN (m : Img) : Nat → List Int
  | 0 => []
  | n + 1 => if (m.ino n).live = true then stampsN m n ++ [(m.ino n).stamp] else stampsN m n
def seenN (m : Img) : Nat → List Int
  | 0 => []
  | n + 1 => if (m.ino n).live = true then seenN m n ++ [(m.ino n).prt 0] ++ [(m.ino n).prt 1] else seenN m n
def badAt (m : Img) (n : Nat) : Bool :=
  (m.ino n).live && ((stampsN m n).contains (m.ino n).stamp || (decide (0 ≤ (m.ino n).prt 0) && (seenN m n).contains ((m.ino n).prt 0)) || (decide (0 ≤ (m.ino n).prt 1) && (seenN m n ++ [(m.ino n).prt 0]).contains ((m.ino n).prt 1)))
def twice (m : Img) : Bool := anyN 8 (badAt m)
theorem stampsN_len (m : Img) : ∀ n, (stampsN m n).length ≤ n
  | 0 => Nat.le_refl _
  | n + 1 => by
    have := stampsN_len m n
    simp only [stampsN]; split <;> simp <;> omega
theorem seenN_len (m : Img) : ∀ n, (seenN m n).length ≤ 2 * n
  | 0 => Nat.le_refl _
  | n + 1 => by
    have := seenN_len m n
    simp only [seenN]; split <;> simp <;> omega
theorem nil_both (m : Img) : ∀ n, stampsN m n = [] ↔ seenN m n = []
  | 0 => by simp [stampsN, seenN]
  | n + 1 => by
    simp only [stampsN, seenN]; split
    · simp
    · exact nil_both m n
def slV (l d : Nat) (a : List Int) : AV := if a = [] then .nilsl else .sl (.stk l d) 0 a.length
def ownL (a b : List Int) : Own := if a = [] then [] else [(27, ⟨.arr a.length tI, encL a⟩), (43, ⟨.arr b.length tI, encL b⟩)]
section
variable {cx : Cx} {h : HP} {p p' : Id} {q q' : List Nat} {m m' : Img}
theorem twice_ok (hb : p.below cx.lvl) (hm : h.rd p q = some m.enc) :
    Ok tbl cx Fn.image_twice (St.enter [.ptr p q tImage] h) fun v h' => v = .bool (twice m) ∧ h' = h := by
  rw [Ok_eq]
  simp (config := { maxSteps := 1000000 }) (disch := omega) only [go_sem, rd_ext hb, HP.rd_app hm, fg_ptr hb, leads_ptr hb, apart_ptr hb]
  refine W_forP 8 (fun n => ⟨[(3, slV cx.lvl 43 (seenN m n)), (4, slV cx.lvl 27 (stampsN m n)), (12, encV Ino.enc m.inode), (13, .int .i64 n)], ownL (stampsN m n) (seenN m n), h⟩) (fun n => ∀ i, i < n → badAt m i = false) (by simp only [go_sem, slV, ownL, stampsN, seenN] <;> rfl) (fun i hi => by omega) fun n hn hp ih => ?_
  by_cases hlt : n < 8
  · by_cases hl : (m.ino n).live = true
    · have bad : ∀ c, ((stampsN m n).contains (m.ino n).stamp || (decide (0 ≤ (m.ino n).prt 0) && (seenN m n).contains ((m.ino n).prt 0)) || (decide (0 ≤ (m.ino n).prt 1) && (seenN m n ++ [(m.ino n).prt 0]).contains ((m.ino n).prt 1))) = c → badAt m n = c := by
        intro c hc; simp only [badAt, hl, Bool.true_and]; exact hc
      have tw : badAt m n = true → twice m = true := fun hb => anyN_at hlt hb
      have e1 : stampsN m (n + 1) = stampsN m n ++ [(m.ino n).stamp] := by simp only [stampsN, hl, if_true]
      have e2 : seenN m (n + 1) = seenN m n ++ [(m.ino n).prt 0] ++ [(m.ino n).prt 1] := by simp only [seenN, hl, if_true]
      have l1 := stampsN_len m n
      have l2 := seenN_len m n
      rw [e1, e2] at ih
      have hboth := nil_both m n
      generalize stampsN m n = A at *
      generalize seenN m n = B at *
      by_cases hA : A = []
      · have hB := hboth.1 hA
        subst hA; subst hB
        simp only [slV, ownL, if_true]
        simp (config := { maxSteps := 1000000 }) (disch := omega) only [go_sem, hlt, hl]
        refine W_callp rfl ⟨rfl, rfl⟩ (by simp only [go_sem]; exact Contains_ok (l := []) (by simp) (.inl ⟨rfl, rfl⟩)) ?_
        simp (config := { maxSteps := 1000000 }) (disch := omega) only [go_sem, List.contains_nil, W_round]
        by_cases c0 : 0 ≤ (m.ino n).prt 0
        · simp (config := { maxSteps := 1000000 }) (disch := omega) only [go_sem, c0]
          refine W_callp rfl ⟨rfl, rfl⟩ (by simp only [go_sem]; exact Contains_ok (l := []) (by simp) (.inl ⟨rfl, rfl⟩)) ?_
          simp (config := { maxSteps := 1000000 }) (disch := omega) only [go_sem, List.contains_nil, W_again (a := [3, 4, 12, 13, 29, 30])]
          by_cases c1 : 0 ≤ (m.ino n).prt 1
          · simp (config := { maxSteps := 1000000 }) (disch := omega) only [go_sem, c1]
            refine W_callp rfl ⟨rfl, rfl⟩ (by simp only [go_sem]; exact Contains_ok (l := [(m.ino n).prt 0]) (by simp only [List.length_append, List.length_cons, List.length_nil] at *; omega) (.inr ⟨_, _, _, rfl, by simp, below_stk _ _, by simp only [HP.push_look_own]; rfl⟩)) ?_
            simp (config := { maxSteps := 1000000 }) (disch := omega) only [go_sem, c1]
            refine WC_intro (fun h4 => ?_) (fun h4 => ?_)
            · simp (config := { maxSteps := 1000000 }) (disch := omega) only [go_sem]
              rw [tw (bad _ (by simp only [h4, c1, List.nil_append, decide_true, Bool.true_and, Bool.or_true]))]
            · simp (config := { maxSteps := 1000000 }) (disch := omega) only [go_sem]
              rw [WA_grow (len := 1) (d := 43) (l := [(m.ino n).prt 0]) rfl rfl (by omega)]
              simp (config := { maxSteps := 1000000 }) (disch := omega) only [go_sem, W_again (a := [3, 4, 12, 13, 29, 30])]
              refine ih _ hlt (step_all hp (bad _ (by simp only [h4, c1, List.nil_append, List.contains_nil, decide_true, decide_false, Bool.false_and, Bool.true_and, Bool.or_false, Bool.and_false, Bool.false_or]))) ?_
              simp [St.keep, Slots.only, Own.only, has, slV, ownL]
          · simp (config := { maxSteps := 1000000 }) (disch := omega) only [go_sem, c1]
            rw [WA_grow (len := 1) (d := 43) (l := [(m.ino n).prt 0]) rfl rfl (by omega)]
            simp (config := { maxSteps := 1000000 }) (disch := omega) only [go_sem, W_again (a := [3, 4, 12, 13, 29, 30])]
            refine ih _ hlt (step_all hp (bad _ (by simp only [c1, List.nil_append, List.contains_nil, decide_false, Bool.false_and, Bool.or_false, Bool.and_false, Bool.false_or]))) ?_
            simp [St.keep, Slots.only, Own.only, has, slV, ownL]

        · simp (config := { maxSteps := 1000000 }) (disch := omega) only [go_sem, c0, W_again (a := [3, 4, 12, 13, 29, 30])]
          by_cases c1 : 0 ≤ (m.ino n).prt 1
          · simp (config := { maxSteps := 1000000 }) (disch := omega) only [go_sem, c1]
            refine W_callp rfl ⟨rfl, rfl⟩ (by simp only [go_sem]; exact Contains_ok (l := [(m.ino n).prt 0]) (by simp only [List.length_append, List.length_cons, List.length_nil] at *; omega) (.inr ⟨_, _, _, rfl, by simp, below_stk _ _, by simp only [HP.push_look_own]; rfl⟩)) ?_
            simp (config := { maxSteps := 1000000 }) (disch := omega) only [go_sem, c1]
            refine WC_intro (fun h4 => ?_) (fun h4 => ?_)
            · simp (config := { maxSteps := 1000000 }) (disch := omega) only [go_sem]
              rw [tw (bad _ (by simp only [c0, h4, c1, List.nil_append, decide_true, Bool.true_and, Bool.or_true]))]
            · simp (config := { maxSteps := 1000000 }) (disch := omega) only [go_sem]
              rw [WA_grow (len := 1) (d := 43) (l := [(m.ino n).prt 0]) rfl rfl (by omega)]
              simp (config := { maxSteps := 1000000 }) (disch := omega) only [go_sem, W_again (a := [3, 4, 12, 13, 29, 30])]
              refine ih _ hlt (step_all hp (bad _ (by simp only [c0, h4, c1, List.nil_append, List.contains_nil, decide_true, decide_false, Bool.false_and, Bool.true_and, Bool.or_false, Bool.and_false, Bool.false_or]))) ?_
              simp [St.keep, Slots.only, Own.only, has, slV, ownL]
          · simp (config := { maxSteps := 1000000 }) (disch := omega) only [go_sem, c1]
            rw [WA_grow (len := 1) (d := 43) (l := [(m.ino n).prt 0]) rfl rfl (by omega)]
            simp (config := { maxSteps := 1000000 }) (disch := omega) only [go_sem, W_again (a := [3, 4, 12, 13, 29, 30])]
            refine ih _ hlt (step_all hp (bad _ (by simp only [c0, c1, List.nil_append, List.contains_nil, decide_false, Bool.false_and, Bool.or_false, Bool.and_false, Bool.false_or]))) ?_
            simp [St.keep, Slots.only, Own.only, has, slV, ownL]

      · have hB : ¬B = [] := fun h => hA (hboth.2 h)
        simp only [slV, ownL, hA, hB, if_false]
        simp (config := { maxSteps := 1000000 }) (disch := omega) only [go_sem, hlt, hl]
        refine W_callp rfl ⟨rfl, rfl⟩ (by simp only [go_sem]; exact Contains_ok (l := A) (by omega) (.inr ⟨_, _, _, rfl, by simp, below_stk _ _, by simp only [HP.push_look_own]; rfl⟩)) ?_
        simp (config := { maxSteps := 1000000 }) (disch := omega) only [go_sem]
        refine WC_intro (fun h2 => ?_) (fun h2 => ?_)
        · simp (config := { maxSteps := 1000000 }) (disch := omega) only [go_sem]
          rw [tw (bad _ (by simp only [h2, Bool.true_or]))]
        simp (config := { maxSteps := 1000000 }) (disch := omega) only [go_sem]
        rw [WA_grow (l := A) rfl rfl (by omega)]
        simp (config := { maxSteps := 1000000 }) (disch := omega) only [go_sem, W_round]
        by_cases c0 : 0 ≤ (m.ino n).prt 0
        · simp (config := { maxSteps := 1000000 }) (disch := omega) only [go_sem, c0]
          refine W_callp rfl ⟨rfl, rfl⟩ (by simp only [go_sem]; exact Contains_ok (l := B) (by omega) (.inr ⟨_, _, _, rfl, by simp, below_stk _ _, by simp only [HP.push_look_own]; rfl⟩)) ?_
          simp (config := { maxSteps := 1000000 }) (disch := omega) only [go_sem]
          refine WC_intro (fun h3 => ?_) (fun h3 => ?_)
          · simp (config := { maxSteps := 1000000 }) (disch := omega) only [go_sem]
            rw [tw (bad _ (by simp only [h3, c0, decide_true, Bool.true_and, Bool.true_or, Bool.or_true]))]
          simp (config := { maxSteps := 1000000 }) (disch := omega) only [go_sem]
          rw [WA_grow (l := B) rfl rfl (by omega)]
          simp (config := { maxSteps := 1000000 }) (disch := omega) only [go_sem, W_again (a := [3, 4, 12, 13, 29, 30])]
          by_cases c1 : 0 ≤ (m.ino n).prt 1
          · simp (config := { maxSteps := 1000000 }) (disch := omega) only [go_sem, c1]
            refine W_callp rfl ⟨rfl, rfl⟩ (by simp only [go_sem]; exact Contains_ok (l := B ++ [(m.ino n).prt 0]) (by simp only [List.length_append, List.length_cons, List.length_nil] at *; omega) (.inr ⟨_, _, _, rfl, by simp, below_stk _ _, by simp only [HP.push_look_own]; rfl⟩)) ?_
            simp (config := { maxSteps := 1000000 }) (disch := omega) only [go_sem, c1]
            refine WC_intro (fun h4 => ?_) (fun h4 => ?_)
            · simp (config := { maxSteps := 1000000 }) (disch := omega) only [go_sem]
              rw [tw (bad _ (by simp only [h2, h3, c0, h4, c1, List.nil_append, decide_true, Bool.true_and, Bool.or_true]))]
            · simp (config := { maxSteps := 1000000 }) (disch := omega) only [go_sem]
              rw [WA_grow (len := B.length + 1) (d := 43) (l := B ++ [(m.ino n).prt 0]) rfl (by simp) (by omega)]
              simp (config := { maxSteps := 1000000 }) (disch := omega) only [go_sem, W_again (a := [3, 4, 12, 13, 29, 30])]
              refine ih _ hlt (step_all hp (bad _ (by simp only [h2, h3, c0, h4, c1, List.nil_append, List.contains_nil, decide_true, decide_false, Bool.false_and, Bool.true_and, Bool.or_false, Bool.and_false, Bool.false_or]))) ?_
              simp [St.keep, Slots.only, Own.only, has, slV, ownL]
          · simp (config := { maxSteps := 1000000 }) (disch := omega) only [go_sem, c1]
            rw [WA_grow (len := B.length + 1) (d := 43) (l := B ++ [(m.ino n).prt 0]) rfl (by simp) (by omega)]
            simp (config := { maxSteps := 1000000 }) (disch := omega) only [go_sem, W_again (a := [3, 4, 12, 13, 29, 30])]
            refine ih _ hlt (step_all hp (bad _ (by simp only [h2, h3, c0, c1, List.nil_append, List.contains_nil, decide_false, Bool.false_and, Bool.or_false, Bool.and_false, Bool.false_or]))) ?_
            simp [St.keep, Slots.only, Own.only, has, slV, ownL]

        · simp (config := { maxSteps := 1000000 }) (disch := omega) only [go_sem, c0]
          rw [WA_grow (l := B) rfl rfl (by omega)]
          simp (config := { maxSteps := 1000000 }) (disch := omega) only [go_sem, W_again (a := [3, 4, 12, 13, 29, 30])]
          by_cases c1 : 0 ≤ (m.ino n).prt 1
          · simp (config := { maxSteps := 1000000 }) (disch := omega) only [go_sem, c1]
            refine W_callp rfl ⟨rfl, rfl⟩ (by simp only [go_sem]; exact Contains_ok (l := B ++ [(m.ino n).prt 0]) (by simp only [List.length_append, List.length_cons, List.length_nil] at *; omega) (.inr ⟨_, _, _, rfl, by simp, below_stk _ _, by simp only [HP.push_look_own]; rfl⟩)) ?_
            simp (config := { maxSteps := 1000000 }) (disch := omega) only [go_sem, c1]
            refine WC_intro (fun h4 => ?_) (fun h4 => ?_)
            · simp (config := { maxSteps := 1000000 }) (disch := omega) only [go_sem]
              rw [tw (bad _ (by simp only [h2, c0, h4, c1, List.nil_append, decide_true, Bool.true_and, Bool.or_true]))]
            · simp (config := { maxSteps := 1000000 }) (disch := omega) only [go_sem]
              rw [WA_grow (len := B.length + 1) (d := 43) (l := B ++ [(m.ino n).prt 0]) rfl (by simp) (by omega)]
              simp (config := { maxSteps := 1000000 }) (disch := omega) only [go_sem, W_again (a := [3, 4, 12, 13, 29, 30])]
              refine ih _ hlt (step_all hp (bad _ (by simp only [h2, c0, h4, c1, List.nil_append, List.contains_nil, decide_true, decide_false, Bool.false_and, Bool.true_and, Bool.or_false, Bool.and_false, Bool.false_or]))) ?_
              simp [St.keep, Slots.only, Own.only, has, slV, ownL]
          · simp (config := { maxSteps := 1000000 }) (disch := omega) only [go_sem, c1]
            rw [WA_grow (len := B.length + 1) (d := 43) (l := B ++ [(m.ino n).prt 0]) rfl (by simp) (by omega)]
            simp (config := { maxSteps := 1000000 }) (disch := omega) only [go_sem, W_again (a := [3, 4, 12, 13, 29, 30])]
            refine ih _ hlt (step_all hp (bad _ (by simp only [h2, c0, c1, List.nil_append, List.contains_nil, decide_false, Bool.false_and, Bool.or_false, Bool.and_false, Bool.false_or]))) ?_
            simp [St.keep, Slots.only, Own.only, has, slV, ownL]

    · simp only [Bool.not_eq_true] at hl
      have e1 : stampsN m (n + 1) = stampsN m n := by simp only [stampsN, hl, Bool.false_eq_true, if_false]
      have e2 : seenN m (n + 1) = seenN m n := by simp only [seenN, hl, Bool.false_eq_true, if_false]
      rw [e1, e2] at ih
      have hboth := nil_both m n
      generalize stampsN m n = A at *
      generalize seenN m n = B at *
      by_cases hA : A = []
      · have hB := hboth.1 hA
        subst hA; subst hB
        simp only [slV, ownL, if_true]
        simp (config := { maxSteps := 1000000 }) (disch := omega) only [go_sem, hlt, hl]
        refine ih _ hlt (step_all hp (by simp [badAt, hl])) ?_
        simp [St.keep, Slots.only, Own.only, has, slV, ownL]
      · have hB : ¬B = [] := fun h => hA (hboth.2 h)
        simp only [slV, ownL, hA, hB, if_false]
        simp (config := { maxSteps := 1000000 }) (disch := omega) only [go_sem, hlt, hl]
        refine ih _ hlt (step_all hp (by simp [badAt, hl])) ?_
        simp [St.keep, Slots.only, Own.only, has, slV, ownL, hA, hB]
  · obtain rfl : n = 8 := by omega
    have : twice m = false := anyN_false.2 hp
    rw [this]
    have hboth := nil_both m 8
    generalize stampsN m 8 = A at *
    generalize seenN m 8 = B at *
    by_cases hA : A = []
    · have hB := hboth.1 hA
      subst hA; subst hB
      simp only [slV, ownL, if_true]
      simp (config := { maxSteps := 1000000 }) (disch := omega) only [go_sem]
    · have hB : ¬B = [] := fun h => hA (hboth.2 h)
      simp only [slV, ownL, hA, hB, if_false]
      simp (config := { maxSteps := 1000000 }) (disch := omega) only [go_sem]
end
end Go.Mini

namespace Go.Mini
set_option linter.unusedSimpArgs false
set_option linter.unusedVariables false
set_option maxHeartbeats 4000000
set_option maxRecDepth 100000
def Img.small (m : Img) : Prop := ∀ d s, (m.ent d s).name.size ≤ 100000
def entryFault (m : Img) (d s : Nat) : Int :=
  let e := m.ent d s
  if e.name = ⟨#[]⟩ then (if e = Ent.zero then 0 else 12)
  else if isName e.name = false then 2
  else if anyN s (fun k => decide ((m.ent d k).name = e.name)) = true then 4
  else if e.ino < 0 ∨ 8 ≤ e.ino then 1
  else if (m.ino e.ino.toNat).live = true ∧ (m.ino e.ino.toNat).stamp = e.stamp then 0 else 8
def partFault (m : Img) (i : Ino) (p : Nat) : Int :=
  if i.prt p < -1 ∨ 9 ≤ i.prt p then 1 else if 0 ≤ i.prt p ∧ ¬(m.dat (i.prt p).toNat).of = i.stamp then 10 else 0
def inoFault (m : Img) (n : Nat) : Int :=
  let i := m.ino n
  if i.live = false then (if i = Ino.none then 0 else 12)
  else if i.stamp < 1 ∨ i.links < refs m n then 9
  else firstI 2 (partFault m i)
def dirFault (m : Img) (d : Nat) : Int := firstI 4 (entryFault m d)
def check (m : Img) : Int :=
  if firstI 3 (dirFault m) ≠ 0 then firstI 3 (dirFault m)
  else if firstI 8 (inoFault m) ≠ 0 then firstI 8 (inoFault m)
  else if twice m = true then 11 else 0
section
variable {cx : Cx} {h : HP} {p p' : Id} {q q' : List Nat} {m m' : Img}
theorem entry_ok {d s : Nat} (hd : d < 3) (hs : s < 4) (hg : m.small) (hb : p.below cx.lvl) (hm : h.rd p q = some m.enc) :
    Ok tbl cx Fn.image_entry (St.enter [.ptr p q tImage, .int .i64 d, .int .i64 s] h) fun v h' => v = .int .i64 (entryFault m d s) ∧ h' = h := by
  rw [Ok_eq]
  simp (config := { maxSteps := 1000000 }) (disch := omega) only [go_sem, rd_ext hb, HP.rd_app hm, fg_ptr hb, leads_ptr hb, apart_ptr hb]
  by_cases h1 : (m.ent d s).name = ⟨#[]⟩
  · simp (config := { maxSteps := 1000000 }) (disch := omega) only [go_sem, h1]
    by_cases h2 : m.ent d s = Ent.zero
    · simp (config := { maxSteps := 1000000 }) (disch := omega) only [go_sem, h2]; simp [entryFault, h2, show Ent.zero.name = ⟨#[]⟩ from rfl]
    · simp (config := { maxSteps := 1000000 }) (disch := omega) only [go_sem, h2]; simp [entryFault, h1, h2]
  simp (config := { maxSteps := 1000000 }) (disch := omega) only [go_sem, h1]
  refine W_callp rfl ⟨rfl, rfl⟩ (by simp only [go_sem]; exact Name_ok (hg d s)) ?_
  simp (config := { maxSteps := 1000000 }) (disch := omega) only [go_sem, rd_ext hb, HP.rd_app hm, fg_ptr hb, leads_ptr hb, apart_ptr hb]
  cases h2 : isName (m.ent d s).name with
  | false => simp (config := { maxSteps := 1000000 }) (disch := omega) only [go_sem, h2]; simp [entryFault, h1, h2]
  | true =>
    simp (config := { maxSteps := 1000000 }) (disch := omega) only [go_sem, h2]
    refine W_forP s (fun j => ⟨[(0, .ptr p q tImage), (1, .int .i64 d), (7, .ptr (.stk cx.lvl 7) [] tEntry), (28, .int .i64 s), (29, .int .i64 j)], [(7, ⟨tEntry, (m.ent d s).enc⟩)], h⟩) (fun j => ∀ i, i < j → decide ((m.ent d i).name = (m.ent d s).name) = false) (by simp only [go_sem] <;> rfl) (fun i hi => by omega) fun j hj hp ih => ?_
    by_cases hlt : j < s
    · simp (config := { maxSteps := 1000000 }) (disch := omega) only [go_sem, hlt, rd_ext hb, HP.rd_app hm, fg_ptr hb, leads_ptr hb, apart_ptr hb]
      by_cases h3 : (m.ent d j).name = (m.ent d s).name
      · simp (config := { maxSteps := 1000000 }) (disch := omega) only [go_sem, h3]
        have : anyN s (fun k => decide ((m.ent d k).name = (m.ent d s).name)) = true := anyN_at hlt (by simp [h3])
        simp [entryFault, h1, h2, this]
      · simp (config := { maxSteps := 1000000 }) (disch := omega) only [go_sem, h3]
        refine ih _ hlt (step_all hp (by simp [h3])) ?_
        simp only [go_sem]
    · obtain rfl : j = s := by omega
      have h3 : anyN j (fun k => decide ((m.ent d k).name = (m.ent d j).name)) = false := anyN_false.2 hp
      simp (config := { maxSteps := 1000000 }) (disch := omega) only [go_sem]
      by_cases h4 : (m.ent d j).ino < 0
      · simp (config := { maxSteps := 1000000 }) (disch := omega) only [go_sem, h4]; simp [entryFault, h1, h2, h3, h4]
      by_cases h5 : 8 ≤ (m.ent d j).ino
      · simp (config := { maxSteps := 1000000 }) (disch := omega) only [go_sem, h4, h5]; simp [entryFault, h1, h2, h3, h5]
      simp (config := { maxSteps := 1000000 }) (disch := omega) only [go_sem, h4, h5, rd_ext hb, HP.rd_app hm, fg_ptr hb, leads_ptr hb, apart_ptr hb]
      have h45 : ¬((m.ent d j).ino < 0 ∨ 8 ≤ (m.ent d j).ino) := by omega
      cases h6 : (m.ino (m.ent d j).ino.toNat).live with
      | false => simp (config := { maxSteps := 1000000 }) (disch := omega) only [go_sem, h6]; simp [entryFault, h1, h2, h3, h45, h6]
      | true =>
        by_cases h7 : (m.ino (m.ent d j).ino.toNat).stamp = (m.ent d j).stamp
        · simp (config := { maxSteps := 1000000 }) (disch := omega) only [go_sem, h6, h7]; simp [entryFault, h1, h2, h3, h45, h6, h7]
        · simp (config := { maxSteps := 1000000 }) (disch := omega) only [go_sem, h6, h7]; simp [entryFault, h1, h2, h3, h45, h6, h7]
theorem inode_ok {n : Nat} (hn : n < 8) (hb : p.below cx.lvl) (hm : h.rd p q = some m.enc) :
    Ok tbl cx Fn.image_inode (St.enter [.ptr p q tImage, .int .i64 n] h) fun v h' => v = .int .i64 (inoFault m n) ∧ h' = h := by
  rw [Ok_eq]
  simp (config := { maxSteps := 1000000 }) (disch := omega) only [go_sem, rd_ext hb, HP.rd_app hm, fg_ptr hb, leads_ptr hb, apart_ptr hb]
  cases h1 : (m.ino n).live with
  | false =>
    simp (config := { maxSteps := 1000000 }) (disch := omega) only [go_sem, h1, rd_ext hb, HP.rd_app hm, fg_ptr hb, leads_ptr hb, apart_ptr hb]
    refine W_callp rfl ⟨rfl, rfl⟩ (by simp only [go_sem]; exact Free_ok) ?_
    by_cases h2 : m.ino n = Ino.none
    · simp (config := { maxSteps := 1000000 }) (disch := omega) only [go_sem, h2]; simp [inoFault, h2, show Ino.none.live = false from rfl]
    · simp (config := { maxSteps := 1000000 }) (disch := omega) only [go_sem, h2]; simp [inoFault, h1, h2]
  | true =>
    simp (config := { maxSteps := 1000000 }) (disch := omega) only [go_sem, h1, rd_ext hb, HP.rd_app hm, fg_ptr hb, leads_ptr hb, apart_ptr hb]
    by_cases h2 : (m.ino n).stamp < 1
    · simp (config := { maxSteps := 1000000 }) (disch := omega) only [go_sem, h2]; simp [inoFault, h1, h2]
    simp (config := { maxSteps := 1000000 }) (disch := omega) only [go_sem, h2]
    refine W_callp rfl ⟨rfl, rfl⟩ (by simp only [go_sem]; exact Refs_ok (m := m) hb.succ (by simp only [HP.push_rd_ext hb, hm])) ?_
    simp (config := { maxSteps := 1000000 }) (disch := omega) only [go_sem, h2]
    by_cases h3 : (m.ino n).links < refs m n
    · simp (config := { maxSteps := 1000000 }) (disch := omega) only [go_sem, h2, h3]; simp [inoFault, h1, h3]
    have h23 : ¬((m.ino n).stamp < 1 ∨ (m.ino n).links < refs m n) := by simp only [not_or]; exact ⟨h2, h3⟩
    have e : inoFault m n = firstI 2 (partFault m (m.ino n)) := by simp only [inoFault, h1, Bool.true_eq_false, if_false, h23]
    simp (config := { maxSteps := 1000000 }) (disch := omega) only [go_sem, h3]
    refine W_forP 2 (fun j => ⟨[(0, .ptr p q tImage), (5, .ptr (.stk cx.lvl 5) [] tInode), (32, encV (AV.int .i64) (m.ino n).part), (33, .int .i64 j)], [(5, ⟨tInode, (m.ino n).enc⟩)], h⟩) (fun j => ∀ i, i < j → partFault m (m.ino n) i = 0) (by simp only [go_sem] <;> rfl) (fun i hi => by omega) fun j hj hp ih => ?_
    by_cases hlt : j < 2
    · simp (config := { maxSteps := 1000000 }) (disch := omega) only [go_sem, hlt, rd_ext hb, HP.rd_app hm, fg_ptr hb, leads_ptr hb, apart_ptr hb]
      by_cases h4 : (m.ino n).prt j < -1
      · simp (config := { maxSteps := 1000000 }) (disch := omega) only [go_sem, h4]
        have : partFault m (m.ino n) j = 1 := by simp [partFault, h4]
        rw [e, firstI_at hp (by rw [this]; decide) hlt, this]
      by_cases h5 : 9 ≤ (m.ino n).prt j
      · simp (config := { maxSteps := 1000000 }) (disch := omega) only [go_sem, h4, h5]
        have : partFault m (m.ino n) j = 1 := by simp [partFault, h5]
        rw [e, firstI_at hp (by rw [this]; decide) hlt, this]
      have h45 : ¬((m.ino n).prt j < -1 ∨ 9 ≤ (m.ino n).prt j) := by omega
      by_cases h6 : 0 ≤ (m.ino n).prt j
      · by_cases h7 : (m.dat ((m.ino n).prt j).toNat).of = (m.ino n).stamp
        · simp (config := { maxSteps := 1000000 }) (disch := omega) only [go_sem, h4, h5, h6, rd_ext hb, HP.rd_app hm, fg_ptr hb, leads_ptr hb, apart_ptr hb, h7]
          refine ih _ hlt (step_all hp (by simp [partFault, h45, h7])) ?_
          simp only [go_sem]
        · simp (config := { maxSteps := 1000000 }) (disch := omega) only [go_sem, h4, h5, h6, rd_ext hb, HP.rd_app hm, fg_ptr hb, leads_ptr hb, apart_ptr hb, h7]
          have : partFault m (m.ino n) j = 10 := by simp only [partFault, h45, h6, h7, if_false, not_false_eq_true, and_self, if_true]
          rw [e, firstI_at hp (by rw [this]; decide) hlt, this]
      · simp (config := { maxSteps := 1000000 }) (disch := omega) only [go_sem, h4, h5, h6, rd_ext hb, HP.rd_app hm, fg_ptr hb, leads_ptr hb, apart_ptr hb]
        refine ih _ hlt (step_all hp (by simp only [partFault, h45, h6, if_false, false_and])) ?_
        simp only [go_sem]
    · obtain rfl : j = 2 := by omega
      simp (config := { maxSteps := 1000000 }) (disch := omega) only [go_sem, e]
      rw [firstI_zero.2 hp]
theorem check_1 {d s : Nat} (h0 : ∀ i, i < d → dirFault m i = 0) (hd : d < 3) (h1 : ∀ i, i < s → entryFault m d i = 0) (hs : s < 4) (h2 : entryFault m d s ≠ 0) : check m = entryFault m d s := by
  have e1 : dirFault m d = entryFault m d s := firstI_at h1 h2 hs
  have e2 : firstI 3 (dirFault m) = dirFault m d := firstI_at h0 (by rw [e1]; exact h2) hd
  rw [check, if_pos (by rw [e2, e1]; exact h2), e2, e1]
theorem check_2 {n : Nat} (h0 : ∀ i, i < 3 → dirFault m i = 0) (h1 : ∀ i, i < n → inoFault m i = 0) (hn : n < 8) (h2 : inoFault m n ≠ 0) : check m = inoFault m n := by
  have e1 : firstI 8 (inoFault m) = inoFault m n := firstI_at h1 h2 hn
  rw [check, if_neg (by rw [firstI_zero.2 h0]; simp), if_pos (by rw [e1]; exact h2), e1]
theorem check_3 (h0 : ∀ i, i < 3 → dirFault m i = 0) (h1 : ∀ i, i < 8 → inoFault m i = 0) : check m = if twice m = true then 11 else 0 := by
  rw [check, if_neg (by rw [firstI_zero.2 h0]; simp), if_neg (by rw [firstI_zero.2 h1]; simp)]
theorem Check_ok (hg : m.small) (hb : p.below cx.lvl) (hm : h.rd p q = some m.enc) :
    Ok tbl cx Fn.image_Check (St.enter [.ptr p q tImage] h) fun v h' => v = .int .i64 (check m) ∧ h' = h := by
  rw [Ok_eq]
  simp (config := { maxSteps := 1000000 }) (disch := omega) only [go_sem]
  refine W_forP 3 (fun d => ⟨[(0, .ptr p q tImage), (8, .int .i64 d)], [], h⟩) (fun d => ∀ i, i < d → dirFault m i = 0) (by simp only [go_sem] <;> rfl) (fun i hi => by omega) fun d hd hp ih => ?_
  by_cases hlt : d < 3
  · simp (config := { maxSteps := 1000000 }) (disch := omega) only [go_sem]
    refine W_forP 4 (fun s => ⟨[(0, .ptr p q tImage), (3, .int .i64 d), (8, .int .i64 d), (11, .int .i64 s)], [], h⟩) (fun s => ∀ i, i < s → entryFault m d i = 0) (by simp only [go_sem] <;> rfl) (fun i hi => by omega) fun s hs hp' ih' => ?_
    by_cases hlt' : s < 4
    · simp (config := { maxSteps := 1000000 }) (disch := omega) only [go_sem]
      refine W_callp rfl ⟨rfl, rfl⟩ (by simp only [go_sem]; exact entry_ok (m := m) hlt hlt' hg hb.succ (by simp only [HP.push_rd_ext hb, hm])) ?_
      simp (config := { maxSteps := 1000000 }) (disch := omega) only [go_sem]
      by_cases h1 : entryFault m d s = 0
      · simp (config := { maxSteps := 1000000 }) (disch := omega) only [go_sem, h1]
        refine ih' _ hlt' (step_all hp' h1) ?_
        simp only [go_sem]
      · simp (config := { maxSteps := 1000000 }) (disch := omega) only [go_sem, h1]
        rw [check_1 hp hlt hp' hlt' h1]
    · obtain rfl : s = 4 := by omega
      simp (config := { maxSteps := 1000000 }) (disch := omega) only [go_sem]
      refine ih _ hlt (step_all hp (firstI_zero.2 hp')) ?_
      simp only [go_sem]
  · obtain rfl : d = 3 := by omega
    simp (config := { maxSteps := 1000000 }) (disch := omega) only [go_sem]
    refine W_forP 8 (fun n => ⟨[(0, .ptr p q tImage), (23, .int .i64 n)], [], h⟩) (fun n => ∀ i, i < n → inoFault m i = 0) (by simp only [go_sem] <;> rfl) (fun i hi => by omega) fun n hn hp' ih' => ?_
    by_cases hlt' : n < 8
    · simp (config := { maxSteps := 1000000 }) (disch := omega) only [go_sem]
      refine W_callp rfl ⟨rfl, rfl⟩ (by simp only [go_sem]; exact inode_ok (m := m) hlt' hb.succ (by simp only [HP.push_rd_ext hb, hm])) ?_
      simp (config := { maxSteps := 1000000 }) (disch := omega) only [go_sem]
      by_cases h1 : inoFault m n = 0
      · simp (config := { maxSteps := 1000000 }) (disch := omega) only [go_sem, h1]
        refine ih' _ hlt' (step_all hp' h1) ?_
        simp only [go_sem]
      · simp (config := { maxSteps := 1000000 }) (disch := omega) only [go_sem, h1]
        rw [check_2 hp hp' hlt' h1]
    · obtain rfl : n = 8 := by omega
      simp (config := { maxSteps := 1000000 }) (disch := omega) only [go_sem]
      refine W_callp rfl ⟨rfl, rfl⟩ (by simp only [go_sem]; exact twice_ok (m := m) hb.succ (by simp only [HP.push_rd_ext hb, hm])) ?_
      simp (config := { maxSteps := 1000000 }) (disch := omega) only [go_sem]
      have e := check_3 hp hp'
      cases h1 : twice m with
      | false => simp (config := { maxSteps := 1000000 }) (disch := omega) only [go_sem]; rw [e, h1]; rfl
      | true => simp (config := { maxSteps := 1000000 }) (disch := omega) only [go_sem]; rw [e, h1]; rfl
def exact (m : Img) : Bool := !anyN 8 (fun n => (m.ino n).live && (decide (refs m n = 0) || !decide ((m.ino n).links = refs m n))) && decide (check m = 0)
end
end Go.Mini

namespace Go.Mini
set_option linter.unusedSimpArgs false
set_option linter.unusedVariables false
set_option maxHeartbeats 4000000
set_option maxRecDepth 100000
def partBad (m : Img) (n k p q : Nat) : Bool := (!decide (n = k) || !decide (p = q)) && decide (0 ≤ (m.ino n).prt p) && decide ((m.ino n).prt p = (m.ino k).prt q)
def pairBad (m : Img) (n k : Nat) : Bool :=
  (m.ino n).live && (m.ino k).live && ((!decide (n = k) && decide ((m.ino n).stamp = (m.ino k).stamp)) || anyN 2 fun p => anyN 2 fun q => partBad m n k p q)
def twiceR (m : Img) : Bool := anyN 8 fun n => anyN 8 fun k => pairBad m n k
theorem mem_stampsN {m : Img} {x : Int} : ∀ {n}, x ∈ stampsN m n ↔ ∃ k, k < n ∧ (m.ino k).live = true ∧ (m.ino k).stamp = x
  | 0 => by simp [stampsN]
  | n + 1 => by
    rw [stampsN]
    split
    · rename_i hl
      rw [List.mem_append, mem_stampsN, List.mem_singleton]
      constructor
      · rintro (⟨k, h1, h2⟩ | h)
        · exact ⟨k, by omega, h2⟩
        · exact ⟨n, by omega, hl, h.symm⟩
      · rintro ⟨k, h1, h2, h3⟩
        by_cases e : k = n
        · subst e; exact .inr h3.symm
        · exact .inl ⟨k, by omega, h2, h3⟩
    · rename_i hl
      rw [mem_stampsN]
      constructor
      · rintro ⟨k, h1, h2⟩; exact ⟨k, by omega, h2⟩
      · rintro ⟨k, h1, h2, h3⟩
        by_cases e : k = n
        · subst e; exact absurd h2 hl
        · exact ⟨k, by omega, h2, h3⟩
theorem mem_seenN {m : Img} {x : Int} : ∀ {n}, x ∈ seenN m n ↔ ∃ k, k < n ∧ (m.ino k).live = true ∧ ((m.ino k).prt 0 = x ∨ (m.ino k).prt 1 = x)
  | 0 => by simp [seenN]
  | n + 1 => by
    rw [seenN]
    split
    · rename_i hl
      rw [List.mem_append, List.mem_append, mem_seenN, List.mem_singleton, List.mem_singleton]
      constructor
      · rintro ((⟨k, h1, h2⟩ | h) | h)
        · exact ⟨k, by omega, h2⟩
        · exact ⟨n, by omega, hl, .inl h.symm⟩
        · exact ⟨n, by omega, hl, .inr h.symm⟩
      · rintro ⟨k, h1, h2, h3⟩
        by_cases e : k = n
        · subst e
          rcases h3 with h3 | h3
          · exact .inl (.inr h3.symm)
          · exact .inr h3.symm
        · exact .inl (.inl ⟨k, by omega, h2, h3⟩)
    · rename_i hl
      rw [mem_seenN]
      constructor
      · rintro ⟨k, h1, h2⟩; exact ⟨k, by omega, h2⟩
      · rintro ⟨k, h1, h2, h3⟩
        by_cases e : k = n
        · subst e; exact absurd h2 hl
        · exact ⟨k, by omega, h2, h3⟩
theorem badAt_iff {m : Img} {n : Nat} : badAt m n = true ↔ (m.ino n).live = true ∧ ((∃ k, k < n ∧ (m.ino k).live = true ∧ (m.ino k).stamp = (m.ino n).stamp) ∨
    (∃ p, p < 2 ∧ 0 ≤ (m.ino n).prt p ∧ ∃ k, k < n ∧ (m.ino k).live = true ∧ ((m.ino k).prt 0 = (m.ino n).prt p ∨ (m.ino k).prt 1 = (m.ino n).prt p)) ∨ (0 ≤ (m.ino n).prt 1 ∧ (m.ino n).prt 1 = (m.ino n).prt 0)) := by
  simp only [badAt, Bool.and_eq_true, Bool.or_eq_true, List.contains_iff_mem, decide_eq_true_eq, List.mem_append, List.mem_singleton, mem_stampsN, mem_seenN]
  constructor
  · rintro ⟨hl, ((h | ⟨h0, h⟩) | ⟨h1, h | h⟩)⟩
    · exact ⟨hl, .inl h⟩
    · exact ⟨hl, .inr (.inl ⟨0, by omega, h0, h⟩)⟩
    · exact ⟨hl, .inr (.inl ⟨1, by omega, h1, h⟩)⟩
    · exact ⟨hl, .inr (.inr ⟨h1, h⟩)⟩
  · rintro ⟨hl, (h | ⟨p, hp, h0, h⟩ | ⟨h1, h⟩)⟩
    · exact ⟨hl, .inl (.inl h)⟩
    · obtain rfl | rfl : p = 0 ∨ p = 1 := by omega
      · exact ⟨hl, .inl (.inr ⟨h0, h⟩)⟩
      · exact ⟨hl, .inr ⟨h0, .inl h⟩⟩
    · exact ⟨hl, .inr ⟨h1, .inr h⟩⟩
theorem pairBad_iff {m : Img} {n k : Nat} : pairBad m n k = true ↔ (m.ino n).live = true ∧ (m.ino k).live = true ∧ ((n ≠ k ∧ (m.ino n).stamp = (m.ino k).stamp) ∨ ∃ p q, p < 2 ∧ q < 2 ∧ (n ≠ k ∨ p ≠ q) ∧ 0 ≤ (m.ino n).prt p ∧ (m.ino n).prt p = (m.ino k).prt q) := by
  simp only [pairBad, partBad, Bool.and_eq_true, Bool.or_eq_true, anyN_iff, decide_eq_true_eq, Bool.not_eq_true', decide_eq_false_iff_not]
  constructor
  · rintro ⟨⟨h1, h2⟩, (h | ⟨p, hp, q, hq, ⟨h3, h4⟩, h5⟩)⟩
    · exact ⟨h1, h2, .inl h⟩
    · exact ⟨h1, h2, .inr ⟨p, q, hp, hq, h3, h4, h5⟩⟩
  · rintro ⟨h1, h2, (h | ⟨p, q, hp, hq, h3, h4, h5⟩)⟩
    · exact ⟨⟨h1, h2⟩, .inl h⟩
    · exact ⟨⟨h1, h2⟩, .inr ⟨p, hp, q, hq, ⟨h3, h4⟩, h5⟩⟩
theorem prt_or {i : Ino} {q : Nat} {x : Int} (hq : q < 2) (h : i.prt q = x) : i.prt 0 = x ∨ i.prt 1 = x := by
  obtain rfl | rfl : q = 0 ∨ q = 1 := by omega
  · exact .inl h
  · exact .inr h
theorem twiceR_eq (m : Img) : twiceR m = twice m := by
  rw [Bool.eq_iff_iff]
  simp only [twiceR, twice, anyN_iff, pairBad_iff, badAt_iff]
  constructor
  · rintro ⟨n, hn, k, hk, h1, h2, (⟨h3, h4⟩ | ⟨p, q, hp, hq, h3, h4, h5⟩)⟩
    · rcases Nat.lt_or_gt_of_ne h3 with h | h
      · exact ⟨k, hk, h2, .inl ⟨n, h, h1, h4⟩⟩
      · exact ⟨n, hn, h1, .inl ⟨k, h, h2, h4.symm⟩⟩
    · by_cases e : n = k
      · subst e
        refine ⟨n, hn, h1, .inr (.inr ?_)⟩
        have hpq : p ≠ q := h3.resolve_left (fun h => h rfl)
        obtain ⟨rfl, rfl⟩ | ⟨rfl, rfl⟩ : (p = 0 ∧ q = 1) ∨ (p = 1 ∧ q = 0) := by omega
        · exact ⟨by rw [← h5]; exact h4, h5.symm⟩
        · exact ⟨h4, h5⟩
      · rcases Nat.lt_or_gt_of_ne e with h | h
        · exact ⟨k, hk, h2, .inr (.inl ⟨q, hq, by rw [← h5]; exact h4, n, h, h1, prt_or hp h5⟩)⟩
        · exact ⟨n, hn, h1, .inr (.inl ⟨p, hp, h4, k, h, h2, prt_or hq h5.symm⟩)⟩
  · rintro ⟨n, hn, h1, (⟨k, hk, h2, h3⟩ | ⟨p, hp, h2, k, hk, h3, h4⟩ | ⟨h2, h3⟩)⟩
    · exact ⟨n, hn, k, by omega, h1, h2, .inl ⟨by omega, h3.symm⟩⟩
    · rcases h4 with h4 | h4
      · exact ⟨n, hn, k, by omega, h1, h3, .inr ⟨p, 0, hp, by omega, .inl (by omega), h2, h4.symm⟩⟩
      · exact ⟨n, hn, k, by omega, h1, h3, .inr ⟨p, 1, hp, by omega, .inl (by omega), h2, h4.symm⟩⟩
    · exact ⟨n, hn, n, hn, h1, h1, .inr ⟨1, 0, by omega, by omega, .inr (by omega), h2, h3⟩⟩
theorem twice_at {m : Img} {n k : Nat} (hn : n < 8) (hk : k < 8) (h : pairBad m n k = true) : twice m = true := by
  rw [← twiceR_eq]; exact anyN_at hn (anyN_at hk h)
end Go.Mini

namespace Go.Mini
set_option linter.unusedSimpArgs false
set_option linter.unusedVariables false
set_option maxHeartbeats 4000000
set_option maxRecDepth 100000
theorem sumN_ge {f : Nat → Nat} {j : Nat} : ∀ {n}, j < n → f j ≤ sumN n f
  | 0, h => by omega
  | n + 1, h => by
    rw [sumN]
    by_cases e : j = n
    · subst e; omega
    · have := sumN_ge (f := f) (j := j) (n := n) (by omega); omega
theorem sumN_upd {f g : Nat → Nat} {j : Nat} (h : ∀ i, i ≠ j → f i = g i) : ∀ {n}, j < n → sumN n f + g j = sumN n g + f j
  | 0, hj => by omega
  | n + 1, hj => by
    rw [sumN, sumN]
    by_cases e : j = n
    · subst e
      have := sumN_congr (n := j) (f := f) (g := g) fun i hi => h i (by omega)
      omega
    · have := sumN_upd h (n := n) (by omega)
      have := h n (fun e' => e e'.symm)
      omega
theorem ent_out {m : Img} {d s : Nat} (h : ¬(d < 3 ∧ s < 4)) : m.ent d s = Ent.zero := by simp only [Img.ent]; rw [dif_neg h]
theorem small_of {m : Img} (h : ∀ d, d < 3 → ∀ s, s < 4 → (m.ent d s).name.size ≤ 100000) : m.small := by
  intro d s
  by_cases hc : d < 3 ∧ s < 4
  · exact h d hc.1 s hc.2
  · rw [ent_out hc]; decide
theorem check_parts {m : Img} (h : check m = 0) : (∀ d, d < 3 → ∀ s, s < 4 → entryFault m d s = 0) ∧ (∀ n, n < 8 → inoFault m n = 0) ∧ twice m = false := by
  unfold check at h
  split at h
  · rename_i h1; exact absurd h h1
  · rename_i h1
    split at h
    · rename_i h2; exact absurd h h2
    · rename_i h2
      split at h
      · exact absurd h (by decide)
      · rename_i h3
        refine ⟨fun d hd => firstI_zero.1 (firstI_zero.1 (by simpa using h1) d hd), firstI_zero.1 (by simpa using h2), by simpa using h3⟩
theorem check_of {m : Img} (h1 : ∀ d, d < 3 → ∀ s, s < 4 → entryFault m d s = 0) (h2 : ∀ n, n < 8 → inoFault m n = 0) (h3 : twice m = false) : check m = 0 := by
  rw [check_3 (fun d hd => firstI_zero.2 (h1 d hd)) h2, h3]; rfl
theorem entry_parts {m : Img} {d s : Nat} (h : entryFault m d s = 0) : m.ent d s = Ent.zero ∨ (¬(m.ent d s).name = ⟨#[]⟩ ∧ isName (m.ent d s).name = true ∧ anyN s (fun k => decide ((m.ent d k).name = (m.ent d s).name)) = false ∧
    0 ≤ (m.ent d s).ino ∧ (m.ent d s).ino < 8 ∧ (m.ino (m.ent d s).ino.toNat).live = true ∧ (m.ino (m.ent d s).ino.toNat).stamp = (m.ent d s).stamp) := by
  simp only [entryFault] at h
  split at h
  · split at h
    · rename_i h1; exact .inl h1
    · exact absurd h (by decide)
  · rename_i h1
    right
    split at h
    · exact absurd h (by decide)
    · rename_i h2
      split at h
      · exact absurd h (by decide)
      · rename_i h3
        split at h
        · exact absurd h (by decide)
        · rename_i h4
          split at h
          · rename_i h5
            exact ⟨h1, by simpa using h2, by simpa using h3, by omega, by omega, h5.1, h5.2⟩
          · exact absurd h (by decide)
theorem entry_of {m : Img} {d s : Nat} (h1 : ¬(m.ent d s).name = ⟨#[]⟩) (h2 : isName (m.ent d s).name = true) (h3 : anyN s (fun k => decide ((m.ent d k).name = (m.ent d s).name)) = false)
    (h4 : 0 ≤ (m.ent d s).ino) (h5 : (m.ent d s).ino < 8) (h6 : (m.ino (m.ent d s).ino.toNat).live = true) (h7 : (m.ino (m.ent d s).ino.toNat).stamp = (m.ent d s).stamp) : entryFault m d s = 0 := by
  have h45 : ¬((m.ent d s).ino < 0 ∨ 8 ≤ (m.ent d s).ino) := by omega
  simp [entryFault, h1, h2, h3, h45, h6, h7]
end Go.Mini

namespace Go.Mini
set_option linter.unusedSimpArgs false
set_option linter.unusedVariables false
set_option maxHeartbeats 4000000
set_option maxRecDepth 100000
theorem ent_drop {m : Img} {d s d' s' : Nat} (hd : d < 3) (hs : s < 4) : (m.setEnt d s Ent.zero).ent d' s' = if d = d' ∧ s = s' then Ent.zero else m.ent d' s' := by
  rw [ent_setEnt]
  by_cases h : d = d' ∧ s = s'
  · rw [if_pos ⟨h, by omega⟩, if_pos h]
  · rw [if_neg (fun h' => h h'.1), if_neg h]
theorem leads_zero {m : Img} {d s : Nat} {i : Int} (h : m.ent d s = Ent.zero) : leads m d s i = false := by
  simp [leads, h, show Ent.zero.name = ⟨#[]⟩ from rfl]
theorem leads_congr {m m' : Img} {d s : Nat} {i : Int} (h : m.ent d s = m'.ent d s) : leads m d s i = leads m' d s i := by
  simp only [leads, h]
theorem refs_drop {m : Img} {d s : Nat} (hd : d < 3) (hs : s < 4) (i : Int) : refs m i = refs (m.setEnt d s Ent.zero) i + b2n (leads m d s i) := by
  have e0 : leads (m.setEnt d s Ent.zero) d s i = false := leads_zero (by rw [ent_drop hd hs, if_pos ⟨rfl, rfl⟩])
  have h2 := sumN_upd (f := fun t => b2n (leads m d t i)) (g := fun t => b2n (leads (m.setEnt d s Ent.zero) d t i)) (j := s) (n := 4) (fun t ht => by
    show b2n (leads m d t i) = b2n (leads (m.setEnt d s Ent.zero) d t i)
    rw [leads_congr (m := m) (m' := m.setEnt d s Ent.zero) (by rw [ent_drop hd hs, if_neg (fun h => ht h.2.symm)])]) hs
  have h3 := sumN_upd (f := fun e => refsRow m i e 4) (g := fun e => refsRow (m.setEnt d s Ent.zero) i e 4) (j := d) (n := 3) (fun t ht => by
    show sumN 4 _ = sumN 4 _
    refine sumN_congr fun u hu => ?_
    rw [leads_congr (m := m) (m' := m.setEnt d s Ent.zero) (by rw [ent_drop hd hs, if_neg (fun h => ht h.1.symm)])]) hd
  have e1 : b2n (leads (m.setEnt d s Ent.zero) d s i) = 0 := by rw [e0]; rfl
  simp only [refs, refsRow] at *
  omega
theorem twice_ino {m m' : Img} (h : ∀ n, m.ino n = m'.ino n) : twice m = twice m' := by
  rw [← twiceR_eq, ← twiceR_eq]
  simp only [twiceR, pairBad, partBad, h]
theorem exact_parts {m : Img} (h : exact m = true) : check m = 0 ∧ ∀ n, n < 8 → (m.ino n).live = true → ¬refs m n = 0 ∧ (m.ino n).links = refs m n := by
  simp only [exact, Bool.and_eq_true, Bool.not_eq_true', decide_eq_true_eq] at h
  refine ⟨h.2, fun n hn hl => ?_⟩
  have := anyN_false.1 h.1 n hn
  simpa [hl] using this
end Go.Mini

namespace Go.Mini
set_option linter.unusedSimpArgs false
set_option linter.unusedVariables false
set_option maxHeartbeats 4000000
set_option maxRecDepth 100000
theorem sumN_zeros {f : Nat → Nat} {n : Nat} (h : ∀ i, i < n → f i = 0) : sumN n f = 0 := by
  induction n with
  | zero => rfl
  | succ n ih => rw [sumN, ih fun i hi => h i (by omega), h n (by omega)]
def named (m : Img) (d s : Nat) : Bool := !decide ((m.ent d s).name = ⟨#[]⟩)
def namesRow (m : Img) (d k : Nat) : Nat := sumN k fun s => b2n (named m d s)
def names (m : Img) (k : Nat) : Nat := sumN k fun d => namesRow m d 4
theorem dead_refs {m : Img} (hc : check m = 0) {n : Nat} (hn : n < 8) (hl : (m.ino n).live = false) : refs m n = 0 := by
  refine sumN_zeros fun d hd => sumN_zeros fun s hs => ?_
  rcases entry_parts ((check_parts hc).1 d hd s hs) with e | ⟨a1, a2, a3, a4, a5, a6, a7⟩
  · rw [leads_zero e]; rfl
  · have : ¬(m.ent d s).ino = (n : Int) := fun e => by
      have : (m.ent d s).ino.toNat = n := by omega
      rw [this, hl] at a6; exact absurd a6 (by simp)
    simp [leads, this, b2n]
def hits (m : Img) (n p x : Nat) : Nat := b2n ((m.ino n).live && decide ((m.ino n).prt p = x))
def cnt (m : Img) (n r x : Nat) : Nat := (sumN n fun k => sumN 2 fun p => hits m k p x) + sumN r fun p => hits m n p x
def cntV (m : Img) (n r : Nat) : Vector Int 9 := Vector.ofFn fun x : Fin 9 => (cnt m n r x : Int)
@[go_sem] theorem cntV_at (m : Img) (n r : Nat) {x : Nat} (hx : x < 9) : (cntV m n r)[x]'hx = (cnt m n r x : Int) := by simp [cntV]
@[go_sem] theorem idxV_held (j : Id) (p : List Nat) (i : AV) : idxV 9 tI (.ptr j p tHeld) i = idxV 9 tI (.ptr j p (.arr 9 tI)) i := rfl
@[go_sem] theorem zero_held : tHeld.zero = encV (AV.int .i64) (Vector.replicate 9 0) := zero_encV (t := tI) rfl
end Go.Mini

namespace Go.Mini
set_option linter.unusedSimpArgs false
set_option linter.unusedVariables false
set_option maxHeartbeats 4000000
set_option maxRecDepth 100000
def encLost (a b c : Int) : AV := .cons (.int .i64 a) (.cons (.int .i64 b) (.cons (.int .i64 c) .unit))
@[go_sem] theorem at_lost0 (a b c : Int) : (encLost a b c).at [0] = some (.int .i64 a) := rfl
@[go_sem] theorem at_lost1 (a b c : Int) : (encLost a b c).at [1] = some (.int .i64 b) := rfl
@[go_sem] theorem at_lost2 (a b c : Int) : (encLost a b c).at [2] = some (.int .i64 c) := rfl
@[go_sem] theorem put_lost0 (a b c x : Int) : (encLost a b c).put [0] (.int .i64 x) = some (encLost x b c) := rfl
@[go_sem] theorem put_lost1 (a b c x : Int) : (encLost a b c).put [1] (.int .i64 x) = some (encLost a x c) := rfl
@[go_sem] theorem put_lost2 (a b c x : Int) : (encLost a b c).put [2] (.int .i64 x) = some (encLost a b x) := rfl
@[go_sem] theorem fits_lost (a b c : Int) : (tLost.fits (encLost a b c) = true) = True := eq_true rfl
@[go_sem] theorem zero_lost : tLost.zero = encLost 0 0 0 := rfl
@[go_sem] theorem fill_lost3 (a b c : Int) : fill tLost (encLost 0 0 0) [(0, .int .i64 a), (1, .int .i64 b), (2, .int .i64 c)] = some (encLost a b c) := rfl
@[go_sem] theorem fill_lost2 (b c : Int) : fill tLost (encLost 0 0 0) [(1, .int .i64 b), (2, .int .i64 c)] = some (encLost 0 b c) := rfl
@[go_sem] theorem field_lost0 : tLost.field 0 = some tI := rfl
@[go_sem] theorem field_lost1 : tLost.field 1 = some tI := rfl
@[go_sem] theorem field_lost2 : tLost.field 2 = some tI := rfl
@[go_sem] theorem fg_lost (a b c : Int) (i : Id) : fg (encLost a b c) i = encLost a b c := rfl
@[go_sem] theorem leads_lost (a b c : Int) (i : Id) : (encLost a b c).leads i = false := rfl
@[go_sem] theorem isAgg_lost (a b c : Int) : (encLost a b c).isAgg = true := rfl
@[go_sem] theorem safe_lost (a b c : Int) : (encLost a b c).safe = true := rfl
theorem eq_lost (a b c a' b' c' : Int) : (encLost a b c).eq (encLost a' b' c') = some (decide (a = a' ∧ b = b' ∧ c = c')) := by
  simp only [encLost, eq_cons, eq_unit, eq_int, andEq_dec, andEq_tt]
@[go_sem] theorem eqV_lost (neg : Bool) (a b c a' b' c' : Int) : eqV tLost neg (encLost a b c) (encLost a' b' c') = some (.bool (if neg = true then !decide (a = a' ∧ b = b' ∧ c = c') else decide (a = a' ∧ b = b' ∧ c = c'))) := eqV_of rfl rfl (eq_lost ..)
@[go_sem] theorem zero_K3 : tK3.zero = encV (AV.int .i64) (Vector.replicate 3 0) := zero_encV (t := tI) rfl
@[go_sem] theorem fits_K3 (v : Vector Int 3) : (tK3.fits (encV (AV.int .i64) v) = true) = True := eq_true (fits_encV (t := tI) fun _ => rfl)
@[go_sem] theorem idxV_K3 (j : Id) (p : List Nat) (i : AV) : idxV 3 tI (.ptr j p tK3) i = idxV 3 tI (.ptr j p (.arr 3 tI)) i := rfl
def k3 (a b c : Int) : Vector Int 3 := #v[a, b, c]
@[go_sem] theorem k3_0 (a b c : Int) (h : 0 < 3) : (k3 a b c)[0]'h = a := rfl
@[go_sem] theorem k3_1 (a b c : Int) (h : 1 < 3) : (k3 a b c)[1]'h = b := rfl
@[go_sem] theorem k3_2 (a b c : Int) (h : 2 < 3) : (k3 a b c)[2]'h = c := rfl
@[go_sem] theorem k3_s0 (a b c x : Int) (h : 0 < 3) : (k3 a b c).set 0 x h = k3 x b c := rfl
@[go_sem] theorem k3_s1 (a b c x : Int) (h : 1 < 3) : (k3 a b c).set 1 x h = k3 a x c := rfl
@[go_sem] theorem k3_s2 (a b c x : Int) (h : 2 < 3) : (k3 a b c).set 2 x h = k3 a b x := rfl
@[go_sem] theorem k3_zero : (Vector.replicate 3 0 : Vector Int 3) = k3 0 0 0 := rfl
@[go_sem] theorem safe_K3 {n : Nat} (v : Vector Int n) : (encV (AV.int .i64) v).safe = true := by simp [encV, AV.safe]
theorem ino_eta (i : Ino) (h1 : i.live = true) : (⟨true, i.stamp, i.links, i.part⟩ : Ino) = i := by cases i; simp at h1; rw [h1]
section
variable {T : Nat → Option MFun} {cx : Cx} {k : List Item} {kill : List Nat} {r : List MOp} {sl : Slots} {own : Own} {h : HP} {Q : St → Prop}
def three (x y z : Option AV) : Option AV := match x, y, z with
  | some x, some y, some z => some (.tup (.cons x (.cons y (.cons z .unit))))
  | _, _, _ => none
@[go_sem] theorem three_some (x y z : AV) : three (some x) (some y) (some z) = some (.tup (.cons x (.cons y (.cons z .unit)))) := rfl
@[go_sem] theorem results_three {a b c : MRes} {s : St} : results cx s [a, b, c] = three (res1 cx s a) (res1 cx s b) (res1 cx s c) := by
  simp only [results, resList, three, res1]
  cases resOf cx s a <;> cases resOf cx s b <;> cases resOf cx s c <;> rfl
@[go_sem] theorem extV_2 (a b c d : AV) : extV (.tup (.cons a (.cons b (.cons c d)))) 2 = if c.safe = true then some c else none := rfl
end
def mendIno (m : Img) (n : Nat) : Ino :=
  if (m.ino n).live = false then m.ino n else if refs m n = 0 then Ino.none else { m.ino n with links := refs m n }
def mendI (m : Img) : Nat → Img
  | 0 => m
  | k + 1 => (mendI m k).setIno k (mendIno m k)
def loose (m : Img) (x : Nat) : Bool := !decide (m.dat x = Dat.zero) && !held m x
def looseDat (m : Img) (x : Nat) : Dat := if loose m x = true then Dat.zero else m.dat x
def mendD (m : Img) : Nat → Img
  | 0 => m
  | k + 1 => (mendD m k).setDat k (looseDat m k)
def lostF (m : Img) (k : Nat) : Nat := sumN k fun n => b2n ((m.ino n).live && decide (refs m n = 0))
def lostC (m : Img) (k : Nat) : Nat := sumN k fun n => b2n ((m.ino n).live && !decide (refs m n = 0) && !decide ((m.ino n).links = refs m n))
def lostD (m : Img) (k : Nat) : Nat := sumN k fun x => b2n (loose m x)
def mended (m : Img) : Img := mendD (mendI m 8) 9
theorem mendI_ent (m : Img) (d s : Nat) : ∀ k, (mendI m k).ent d s = m.ent d s
  | 0 => rfl
  | k + 1 => by rw [mendI, ent_setIno, mendI_ent m d s k]
theorem mendI_dat (m : Img) (x : Nat) : ∀ k, (mendI m k).dat x = m.dat x
  | 0 => rfl
  | k + 1 => by rw [mendI, dat_setIno, mendI_dat m x k]
theorem mendI_ino (m : Img) (n : Nat) : ∀ k, (mendI m k).ino n = if n < k ∧ n < 8 then mendIno m n else m.ino n
  | 0 => by rw [if_neg (by omega)]; rfl
  | k + 1 => by
    rw [mendI, ino_setIno, mendI_ino m n k]
    by_cases e : k = n
    · subst e
      by_cases h8 : k < 8
      · rw [if_pos ⟨rfl, h8⟩, if_pos ⟨by omega, h8⟩]
      · rw [if_neg (by omega), if_neg (by omega), if_neg (by omega)]
    · rw [if_neg (by omega)]
      by_cases h8 : n < k ∧ n < 8
      · rw [if_pos h8, if_pos (by omega)]
      · rw [if_neg h8, if_neg (by omega)]
theorem refs_congr {m m' : Img} (h : ∀ d s, m.ent d s = m'.ent d s) (i : Int) : refs m i = refs m' i := by
  simp only [refs, refsRow, leads, h]
theorem mendI_refs (m : Img) (k : Nat) (i : Int) : refs (mendI m k) i = refs m i := refs_congr (fun d s => mendI_ent m d s k) i
theorem mendD_ino (m : Img) (n : Nat) : ∀ k, (mendD m k).ino n = m.ino n
  | 0 => rfl
  | k + 1 => by rw [mendD, ino_setDat, mendD_ino m n k]
theorem mendD_ent (m : Img) (d s : Nat) : ∀ k, (mendD m k).ent d s = m.ent d s
  | 0 => rfl
  | k + 1 => by rw [mendD, ent_setDat, mendD_ent m d s k]
theorem mendD_dat (m : Img) (x : Nat) : ∀ k, (mendD m k).dat x = if x < k ∧ x < 9 then looseDat m x else m.dat x
  | 0 => by rw [if_neg (by omega)]; rfl
  | k + 1 => by
    rw [mendD, dat_setDat, mendD_dat m x k]
    by_cases e : k = x
    · subst e
      by_cases h8 : k < 9
      · rw [if_pos ⟨rfl, h8⟩, if_pos ⟨by omega, h8⟩]
      · rw [if_neg (by omega), if_neg (by omega), if_neg (by omega)]
    · rw [if_neg (by omega)]
      by_cases h8 : x < k ∧ x < 9
      · rw [if_pos h8, if_pos (by omega)]
      · rw [if_neg h8, if_neg (by omega)]
theorem held_congr {m m' : Img} (h : ∀ n, m.ino n = m'.ino n) (x : Int) : held m x = held m' x := by simp only [held, h]
theorem mendD_held (m : Img) (k : Nat) (x : Int) : held (mendD m k) x = held m x := held_congr (fun n => mendD_ino m n k) x
theorem setIno_self (m : Img) {n : Nat} {y : Ino} (h : y = m.ino n) : m.setIno n y = m := by
  subst h
  refine Img.ext_of (fun k hk => ?_) (fun d s _ _ => by rw [ent_setIno]) (fun x _ => by rw [dat_setIno])
  rw [ino_setIno]; split
  · rename_i h; rw [h.1]
  · rfl
theorem setDat_self (m : Img) {n : Nat} {y : Dat} (h : y = m.dat n) : m.setDat n y = m := by
  subst h
  refine Img.ext_of (fun k hk => by rw [ino_setDat]) (fun d s _ _ => by rw [ent_setDat]) (fun x _ => ?_)
  rw [dat_setDat]; split
  · rename_i h; rw [h.1]
  · rfl
theorem lostF_le (m : Img) (k : Nat) : lostF m k ≤ k := by have := sumN_le (fun n => b2n_le ((m.ino n).live && decide (refs m n = 0))) k; simpa [lostF] using this
theorem lostC_le (m : Img) (k : Nat) : lostC m k ≤ k := by have := sumN_le (fun n => b2n_le ((m.ino n).live && !decide (refs m n = 0) && !decide ((m.ino n).links = refs m n))) k; simpa [lostC] using this
theorem lostD_le (m : Img) (k : Nat) : lostD m k ≤ k := by have := sumN_le (fun n => b2n_le (loose m n)) k; simpa [lostD] using this
def mendV (m : Img) : Img := if check m = 0 then mended m else Img.zero
def mendA (m : Img) : Nat := if check m = 0 then lostF m 8 else 0
def mendB (m : Img) : Nat := if check m = 0 then lostC m 8 else 0
def mendC (m : Img) : Nat := if check m = 0 then lostD (mendI m 8) 9 else 0
section
variable {cx : Cx} {h : HP} {p p' : Id} {q q' : List Nat} {m m' : Img}
theorem Mend_ok (hs : m.small) : Ok tbl cx Fn.mend_Mend (St.enter [m.enc] h) fun v h' => v = .tup (.cons (mendV m).enc (.cons (encLost (mendA m) (mendB m) (mendC m)) (.cons (.int .i64 (check m)) .unit))) ∧ h' = h := by
  rw [Ok_eq]
  simp (config := { maxSteps := 1000000 }) (disch := omega) only [go_sem]
  refine W_callp rfl ⟨rfl, rfl⟩ (by simp only [go_sem]; exact Check_ok (m := m) hs (below_stk _ _) (by simp only [go_sem, HP.push_rd_own])) ?_
  simp (config := { maxSteps := 1000000 }) (disch := omega) only [go_sem]
  by_cases hc : check m = 0
  · simp (config := { maxSteps := 1000000 }) (disch := omega) only [go_sem, hc]
    refine W_for 8 (fun n => ⟨[(1, .ptr (.stk cx.lvl 1) [] tImage), (2, .ptr (.stk cx.lvl 2) [] tImage), (3, .ptr (.stk cx.lvl 3) [] tLost), (6, .ptr (.stk cx.lvl 6) [] tLost), (17, .int .i64 n)],
      [(1, ⟨tImage, (mendI m n).enc⟩), (2, ⟨tImage, Img.zero.enc⟩), (3, ⟨tLost, encLost 0 0 0⟩), (6, ⟨tLost, encLost (lostF m n) (lostC m n) 0⟩)], h⟩) (by simp only [go_sem] <;> rfl) fun n hn ih => ?_
    have hF := lostF_le m n
    have hC := lostC_le m n
    by_cases hlt : n < 8
    · have hI : (mendI m n).ino n = m.ino n := by rw [mendI_ino, if_neg (by omega)]
      simp (config := { maxSteps := 1000000 }) (disch := omega) only [go_sem, hlt]
      refine W_callp rfl ⟨rfl, rfl⟩ (by simp only [go_sem]; exact Refs_ok (m := mendI m n) (below_stk _ _) (by simp only [go_sem, HP.push_rd_own])) ?_
      simp (config := { maxSteps := 1000000 }) (disch := omega) only [go_sem, hlt, mendI_refs, hI]
      cases hl : (m.ino n).live with
      | false =>
        simp (config := { maxSteps := 1000000 }) (disch := omega) only [go_sem]
        refine ih _ hlt ?_
        have e1 : lostF m (n + 1) = lostF m n := by simp [lostF, sumN, hl, b2n]
        have e2 : lostC m (n + 1) = lostC m n := by simp [lostC, sumN, hl, b2n]
        have e3 : mendI m (n + 1) = mendI m n := by rw [mendI]; exact setIno_self _ (by simp [mendIno, hl, hI])
        simp only [go_sem, e1, e2, e3]
      | true =>
        by_cases hr : refs m n = 0
        · simp (config := { maxSteps := 1000000 }) (disch := omega) only [go_sem, hr]
          refine W_callp rfl ⟨rfl, rfl⟩ (by simp only [go_sem]; exact Free_ok) ?_
          simp (config := { maxSteps := 1000000 }) (disch := omega) only [go_sem, hr]
          refine ih _ hlt ?_
          have e1 : lostF m (n + 1) = lostF m n + 1 := by simp [lostF, sumN, hl, hr, b2n]
          have e2 : lostC m (n + 1) = lostC m n := by simp [lostC, sumN, hl, hr, b2n]
          have e3 : mendI m (n + 1) = (mendI m n).setIno n Ino.none := by rw [mendI]; simp [mendIno, hl, hr]
          simp only [go_sem, e1, e2, e3]
        · by_cases hk : (m.ino n).links = refs m n
          · simp (config := { maxSteps := 1000000 }) (disch := omega) only [go_sem, hk, hI, hlt]
            refine ih _ hlt ?_
            have e1 : lostF m (n + 1) = lostF m n := by simp [lostF, sumN, hl, hr, b2n]
            have e2 : lostC m (n + 1) = lostC m n := by simp [lostC, sumN, hl, hr, hk, b2n]
            have e3 : mendI m (n + 1) = mendI m n := by rw [mendI]; exact setIno_self _ (by rw [hI]; simp only [mendIno, hl, hr, Bool.true_eq_false, if_false, ← hk]; exact ino_eta _ hl)
            simp only [go_sem, e1, e2, e3]
          · simp (config := { maxSteps := 1000000 }) (disch := omega) only [go_sem, hk, hI, hlt]
            refine ih _ hlt ?_
            have e1 : lostF m (n + 1) = lostF m n := by simp [lostF, sumN, hl, hr, b2n]
            have e2 : lostC m (n + 1) = lostC m n + 1 := by simp [lostC, sumN, hl, hr, hk, b2n]
            have e3 : mendI m (n + 1) = (mendI m n).setIno n ⟨(m.ino n).live, (m.ino n).stamp, refs m n, (m.ino n).part⟩ := by rw [mendI]; simp [mendIno, hl, hr]
            simp only [go_sem, e1, e2, e3]
    · obtain rfl : n = 8 := by omega
      simp (config := { maxSteps := 1000000 }) (disch := omega) only [go_sem]
      refine W_for 9 (fun x => ⟨[(1, .ptr (.stk cx.lvl 1) [] tImage), (2, .ptr (.stk cx.lvl 2) [] tImage), (3, .ptr (.stk cx.lvl 3) [] tLost), (6, .ptr (.stk cx.lvl 6) [] tLost), (57, .int .i64 x)],
        [(1, ⟨tImage, (mendD (mendI m 8) x).enc⟩), (2, ⟨tImage, Img.zero.enc⟩), (3, ⟨tLost, encLost 0 0 0⟩), (6, ⟨tLost, encLost (lostF m 8) (lostC m 8) (lostD (mendI m 8) x)⟩)], h⟩) (by simp only [go_sem] <;> rfl) fun x hx ih2 => ?_
      have hD := lostD_le (mendI m 8) x
      by_cases hlt2 : x < 9
      · have hX : (mendD (mendI m 8) x).dat x = (mendI m 8).dat x := by rw [mendD_dat, if_neg (by omega)]
        have l0 : loose (mendI m 8) x = false → mendD (mendI m 8) (x + 1) = mendD (mendI m 8) x ∧ lostD (mendI m 8) (x + 1) = lostD (mendI m 8) x := fun h => by
          refine ⟨?_, by simp [lostD, sumN, h, b2n]⟩
          rw [mendD]; exact setDat_self _ (by rw [hX]; simp [looseDat, h])
        have l1 : loose (mendI m 8) x = true → mendD (mendI m 8) (x + 1) = (mendD (mendI m 8) x).setDat x Dat.zero ∧ lostD (mendI m 8) (x + 1) = lostD (mendI m 8) x + 1 := fun h => by
          refine ⟨?_, by simp [lostD, sumN, h, b2n]⟩
          rw [mendD]; simp [looseDat, h]
        simp (config := { maxSteps := 1000000 }) (disch := omega) only [go_sem, hlt2, hX]
        by_cases hz : (mendI m 8).dat x = Dat.zero
        · obtain ⟨e1, e2⟩ := l0 (by simp [loose, hz])
          simp (config := { maxSteps := 1000000 }) (disch := omega) only [go_sem, hz]
          refine ih2 _ hlt2 ?_
          simp only [go_sem, e1, e2]
        · simp (config := { maxSteps := 1000000 }) (disch := omega) only [go_sem, hz]
          refine W_callp rfl ⟨rfl, rfl⟩ (by simp only [go_sem]; exact Holds_ok (m := mendD (mendI m 8) x) (below_stk _ _) (by simp only [go_sem, HP.push_rd_own])) ?_
          simp (config := { maxSteps := 1000000 }) (disch := omega) only [go_sem, mendD_held]
          cases hh : held (mendI m 8) x with
          | true =>
            obtain ⟨e1, e2⟩ := l0 (by simp [loose, hh])
            simp (config := { maxSteps := 1000000 }) (disch := omega) only [go_sem, hh]
            refine ih2 _ hlt2 ?_
            simp only [go_sem, e1, e2]
          | false =>
            obtain ⟨e1, e2⟩ := l1 (by simp [loose, hz, hh])
            simp (config := { maxSteps := 1000000 }) (disch := omega) only [go_sem, hh, hlt2]
            refine ih2 _ hlt2 ?_
            simp only [go_sem, e1, e2]
      · obtain rfl : x = 9 := by omega
        simp (config := { maxSteps := 1000000 }) (disch := omega) only [go_sem]
        simp [mendV, mendA, mendB, mendC, mended, hc]
  · simp (config := { maxSteps := 1000000 }) (disch := omega) only [go_sem, hc]
    simp [mendV, mendA, mendB, mendC, hc]
end
end Go.Mini

namespace Go.Mini
set_option linter.unusedSimpArgs false
set_option linter.unusedVariables false
set_option maxHeartbeats 4000000
set_option maxRecDepth 100000
theorem mended_ent (m : Img) (d s : Nat) : (mended m).ent d s = m.ent d s := by rw [mended, mendD_ent, mendI_ent]
theorem mended_ino (m : Img) {n : Nat} (hn : n < 8) : (mended m).ino n = mendIno m n := by rw [mended, mendD_ino, mendI_ino, if_pos ⟨hn, hn⟩]
theorem mended_dat (m : Img) {x : Nat} (hx : x < 9) : (mended m).dat x = looseDat (mendI m 8) x := by rw [mended, mendD_dat, if_pos ⟨hx, hx⟩]
theorem mended_refs (m : Img) (i : Int) : refs (mended m) i = refs m i := refs_congr (fun d s => mended_ent m d s) i
theorem mendIno_live {m : Img} {n : Nat} : (mendIno m n).live = true ↔ (m.ino n).live = true ∧ ¬refs m n = 0 := by
  unfold mendIno
  cases hl : (m.ino n).live with
  | false => simp [hl]
  | true =>
    by_cases hr : refs m n = 0
    · simp [hr, Ino.none]
    · simp [hr, hl]
theorem mendIno_of {m : Img} {n : Nat} (h : (mendIno m n).live = true) : mendIno m n = { m.ino n with links := refs m n } := by
  obtain ⟨h1, h2⟩ := mendIno_live.1 h
  simp [mendIno, h1, h2]
theorem mendIno_dead {m : Img} {n : Nat} (hc : check m = 0) (hn : n < 8) (h : (mendIno m n).live = false) : mendIno m n = Ino.none := by
  unfold mendIno at h ⊢
  cases hl : (m.ino n).live with
  | false =>
    have := (check_parts hc).2.1 n hn
    simp only [inoFault, hl, if_true] at this
    simp only [if_true]
    split at this
    · assumption
    · exact absurd this (by decide)
  | true =>
    by_cases hr : refs m n = 0
    · simp [hr]
    · simp [hl, hr] at h
theorem ino_parts {m : Img} (hc : check m = 0) {n : Nat} (hn : n < 8) (hl : (m.ino n).live = true) : 1 ≤ (m.ino n).stamp ∧ (refs m n : Int) ≤ (m.ino n).links ∧ ∀ p, p < 2 → partFault m (m.ino n) p = 0 := by
  have h := (check_parts hc).2.1 n hn
  simp only [inoFault, hl, Bool.true_eq_false, if_false] at h
  split at h
  · exact absurd h (by decide)
  · rename_i h1
    exact ⟨by omega, by omega, firstI_zero.1 h⟩
theorem part_dat {m : Img} {i : Ino} {p : Nat} (h : partFault m i p = 0) : i.prt p = -1 ∨ (0 ≤ i.prt p ∧ i.prt p < 9 ∧ (m.dat (i.prt p).toNat).of = i.stamp) := by
  unfold partFault at h
  split at h
  · exact absurd h (by decide)
  · rename_i h1
    split at h
    · exact absurd h (by decide)
    · rename_i h2
      by_cases h0 : 0 ≤ i.prt p
      · right; refine ⟨h0, by omega, ?_⟩
        by_cases he : (m.dat (i.prt p).toNat).of = i.stamp
        · exact he
        · exact absurd ⟨h0, he⟩ h2
      · left; omega
theorem mend_held {m : Img} {n p : Nat} (hn : n < 8) (hp : p < 2) (hl : (mendIno m n).live = true) (h0 : 0 ≤ (m.ino n).prt p) (h9 : (m.ino n).prt p < 9) : (mended m).dat ((m.ino n).prt p).toNat = m.dat ((m.ino n).prt p).toNat := by
  rw [mended_dat m (by omega)]
  have : held (mendI m 8) (((m.ino n).prt p).toNat : Nat) = true := by
    refine anyN_at hn ?_
    have e : (mendI m 8).ino n = mendIno m n := by rw [mendI_ino, if_pos ⟨hn, hn⟩]
    have e2 : ∀ q, (mendIno m n).prt q = (m.ino n).prt q := fun q => by rw [mendIno_of hl]; rfl
    rw [e, hl, e2, e2]
    have e3 : (((m.ino n).prt p).toNat : Int) = (m.ino n).prt p := by omega
    rw [e3]
    obtain rfl | rfl : p = 0 ∨ p = 1 := by omega
    all_goals simp
  simp only [looseDat, loose, this, mendI_dat, Bool.not_true, Bool.and_false, Bool.false_eq_true, if_false]
theorem mended_check {m : Img} (hc : check m = 0) : check (mended m) = 0 := by
  obtain ⟨h1, h2, h3⟩ := check_parts hc
  refine check_of (fun d hd s hs => ?_) (fun n hn => ?_) ?_
  · have e' := mended_ent m d s
    rcases entry_parts (h1 d hd s hs) with e0 | ⟨a1, a2, a3, a4, a5, a6, a7⟩
    · rw [e0] at e'
      simp [entryFault, e', show Ent.zero.name = ⟨#[]⟩ from rfl]
    · have hr : ¬refs m ((m.ent d s).ino.toNat : Nat) = 0 := by
        have hl : leads m d s ((m.ent d s).ino.toNat : Nat) = true := by
          have : ((m.ent d s).ino.toNat : Int) = (m.ent d s).ino := by omega
          simp [leads, a1, this]
        have g1 := sumN_ge (f := fun s => b2n (leads m d s ((m.ent d s).ino.toNat : Nat))) hs
        have g2 : refsRow m ((m.ent d s).ino.toNat : Nat) d 4 ≤ refs m ((m.ent d s).ino.toNat : Nat) := sumN_ge (f := fun d => refsRow m _ d 4) hd
        have g3 : b2n (leads m d s ((m.ent d s).ino.toNat : Nat)) ≤ refsRow m ((m.ent d s).ino.toNat : Nat) d 4 := sumN_ge (f := fun t => b2n (leads m d t _)) hs
        rw [hl] at g3
        simp only [b2n, if_true] at g3
        omega
      have hlive := mendIno_live.2 ⟨a6, hr⟩
      have hino := mended_ino m (n := (m.ent d s).ino.toNat) (by omega)
      refine entry_of (by rw [e']; exact a1) (by rw [e']; exact a2) (by simpa only [mended_ent] using a3) (by rw [e']; exact a4) (by rw [e']; exact a5) (by rw [e', hino]; exact hlive) ?_
      rw [e', hino, mendIno_of hlive]; exact a7
  · have hino := mended_ino m hn
    simp only [inoFault]
    rw [hino]
    cases hl : (mendIno m n).live with
    | false => rw [mendIno_dead hc hn hl]; simp
    | true =>
      obtain ⟨l1, l2⟩ := mendIno_live.1 hl
      obtain ⟨p1, p2, p3⟩ := ino_parts hc hn l1
      have e := mendIno_of hl
      simp only [Bool.true_eq_false, if_false]
      rw [e, mended_refs]
      rw [if_neg (by simp only [not_or]; exact ⟨by omega, by omega⟩)]
      rw [firstI_zero]
      intro p hp
      rcases part_dat (p3 p hp) with hx | ⟨hx0, hx9, hof⟩
      · have : (({ m.ino n with links := (refs m n : Int) } : Ino)).prt p = -1 := hx
        simp [partFault, this]
      · have hd := mend_held hn hp hl hx0 hx9
        have e1 : (({ m.ino n with links := (refs m n : Int) } : Ino)).prt p = (m.ino n).prt p := rfl
        simp only [partFault, e1]
        rw [if_neg (by omega), if_neg]
        rintro ⟨_, hne⟩
        apply hne
        rw [hd]; exact hof
  · rw [← twiceR_eq]
    unfold twiceR
    rw [anyN_false]
    intro n hn
    rw [anyN_false]
    intro k hk
    rcases hb : pairBad (mended m) n k with _ | _
    · rfl
    · exfalso
      rw [pairBad_iff, mended_ino m hn, mended_ino m hk] at hb
      obtain ⟨b1, b2, b3⟩ := hb
      rw [mendIno_of b1, mendIno_of b2] at b3
      have : pairBad m n k = true := pairBad_iff.2 ⟨(mendIno_live.1 b1).1, (mendIno_live.1 b2).1, b3⟩
      have := twice_at hn hk this
      rw [h3] at this; exact absurd this (by simp)
theorem mended_exact {m : Img} (hc : check m = 0) : exact (mended m) = true := by
  simp only [exact, mended_check hc, decide_true, Bool.and_true, Bool.not_eq_true']
  rw [anyN_false]
  intro n hn
  rw [mended_ino m hn, mended_refs]
  cases hl : (mendIno m n).live with
  | false => rfl
  | true =>
    obtain ⟨l1, l2⟩ := mendIno_live.1 hl
    rw [mendIno_of hl]
    simp [l2]
theorem mendIno_again {m : Img} (hc : check m = 0) {n : Nat} (hn : n < 8) : mendIno (mended m) n = (mended m).ino n := by
  have e := mended_ino m hn
  rw [mendIno, mended_refs]
  cases hl : ((mended m).ino n).live with
  | false => simp
  | true =>
    rw [e] at hl
    obtain ⟨l1, l2⟩ := mendIno_live.1 hl
    rw [if_neg (by simp), if_neg l2, e, mendIno_of hl]
theorem mended_ext {m : Img} (hc : check m = 0) (n : Nat) : (mendI (mended m) 8).ino n = (mended m).ino n := by
  rw [mendI_ino]
  split
  · rename_i h; exact mendIno_again hc h.1
  · rfl
theorem loose_again {m : Img} (hc : check m = 0) {x : Nat} (hx : x < 9) : loose (mendI (mended m) 8) x = false := by
  unfold loose
  rw [mendI_dat, held_congr (mended_ext hc), mended_dat m hx]
  have : held (mended m) x = held (mendI m 8) x := held_congr (fun n => by rw [mended, mendD_ino]) x
  rw [this]
  unfold looseDat
  cases hl : loose (mendI m 8) x with
  | true => simp
  | false => exact hl
theorem mended_again {m : Img} (hc : check m = 0) : mended (mended m) = mended m := by
  refine Img.ext_of (fun n hn => ?_) (fun d s _ _ => mended_ent _ d s) (fun x hx => ?_)
  · rw [mended_ino _ hn, mendIno_again hc hn]
  · rw [mended_dat _ hx]
    unfold looseDat
    rw [loose_again hc hx, if_neg (by simp), mendI_dat]
theorem lost_again {m : Img} (hc : check m = 0) : lostF (mended m) 8 = 0 ∧ lostC (mended m) 8 = 0 ∧ lostD (mendI (mended m) 8) 9 = 0 := by
  refine ⟨sumN_zeros fun n hn => ?_, sumN_zeros fun n hn => ?_, sumN_zeros fun x hx => ?_⟩
  · show b2n _ = 0
    rw [mended_ino m hn, mended_refs]
    cases hl : (mendIno m n).live with
    | false => rfl
    | true => simp [(mendIno_live.1 hl).2, b2n]
  · show b2n _ = 0
    rw [mended_ino m hn, mended_refs]
    cases hl : (mendIno m n).live with
    | false => rfl
    | true => rw [mendIno_of hl]; simp [b2n]
  · show b2n _ = 0
    rw [loose_again hc hx]; rfl
theorem mended_small {m : Img} (h : m.small) : (mended m).small := fun d s => by rw [mended_ent]; exact h d s
end Go.Mini

namespace Go.Mini
set_option linter.unusedSimpArgs false
set_option linter.unusedVariables false
set_option maxHeartbeats 4000000
set_option maxRecDepth 100000
section
variable {cx : Cx} {h : HP} {p p' : Id} {q q' : List Nat} {m m' : Img}
@[go_sem] theorem eqV_parts (neg : Bool) (a b : Vector Int 2) : eqV tParts neg (encV (AV.int .i64) a) (encV (AV.int .i64) b) = some (.bool (if neg = true then !decide (a = b) else decide (a = b))) := eqV_of (fits_parts' a) (fits_parts' b) (eq_encV eq_int)
@[go_sem] theorem eqV_dirs (neg : Bool) (a b : Vector (Vector Ent 4) 3) : eqV tDirs neg (encV (encV Ent.enc) a) (encV (encV Ent.enc) b) = some (.bool (if neg = true then !decide (a = b) else decide (a = b))) := eqV_of (fits_dirs' a) (fits_dirs' b) (eq_encV fun v w => eq_row v w)
end
end Go.Mini

namespace Go.Mini
set_option linter.unusedSimpArgs false
set_option linter.unusedVariables false
set_option maxHeartbeats 4000000
set_option maxRecDepth 100000
def leadsE (y : Ent) (i : Int) : Bool := !decide (y.name = ⟨#[]⟩) && decide (y.ino = i)
theorem leads_E (m : Img) (d s : Nat) (i : Int) : leads m d s i = leadsE (m.ent d s) i := rfl
theorem refs_set {m : Img} {d s : Nat} {y : Ent} (hd : d < 3) (hs : s < 4) (i : Int) : refs m i + b2n (leadsE y i) = refs (m.setEnt d s y) i + b2n (leads m d s i) := by
  have ent : ∀ d' s', d' < 3 → s' < 4 → (m.setEnt d s y).ent d' s' = if d = d' ∧ s = s' then y else m.ent d' s' := fun d' s' h h' => by
    rw [ent_setEnt]
    by_cases e : d = d' ∧ s = s'
    · rw [if_pos ⟨e, h, h'⟩, if_pos e]
    · rw [if_neg (fun h' => e h'.1), if_neg e]
  have e0 : leads (m.setEnt d s y) d s i = leadsE y i := by rw [leads_E, ent d s hd hs, if_pos ⟨rfl, rfl⟩]
  have h2 : sumN 4 (fun t => b2n (leads m d t i)) + b2n (leads (m.setEnt d s y) d s i) = sumN 4 (fun t => b2n (leads (m.setEnt d s y) d t i)) + b2n (leads m d s i) := by
    have := sumN_upd (f := fun t => if t < 4 then b2n (leads m d t i) else 0) (g := fun t => if t < 4 then b2n (leads (m.setEnt d s y) d t i) else 0) (j := s) (n := 4) (fun t ht => by
      show (if t < 4 then b2n (leads m d t i) else 0) = if t < 4 then b2n (leads (m.setEnt d s y) d t i) else 0
      split
      · rename_i h4; rw [leads_congr (m := m) (m' := m.setEnt d s y) (by rw [ent d t hd h4, if_neg (fun h => ht h.2.symm)])]
      · rfl) hs
    have c1 : (sumN 4 fun t => if t < 4 then b2n (leads m d t i) else 0) = sumN 4 (fun t => b2n (leads m d t i)) := sumN_congr fun t ht => by simp [ht]
    have c2 : (sumN 4 fun t => if t < 4 then b2n (leads (m.setEnt d s y) d t i) else 0) = sumN 4 (fun t => b2n (leads (m.setEnt d s y) d t i)) := sumN_congr fun t ht => by simp [ht]
    rw [c1, c2] at this
    simpa [hs] using this
  have h3 : sumN 3 (fun e => refsRow m i e 4) + refsRow (m.setEnt d s y) i d 4 = sumN 3 (fun e => refsRow (m.setEnt d s y) i e 4) + refsRow m i d 4 := by
    have := sumN_upd (f := fun e => if e < 3 then refsRow m i e 4 else 0) (g := fun e => if e < 3 then refsRow (m.setEnt d s y) i e 4 else 0) (j := d) (n := 3) (fun t ht => by
      show (if t < 3 then refsRow m i t 4 else 0) = if t < 3 then refsRow (m.setEnt d s y) i t 4 else 0
      split
      · rename_i h3
        refine sumN_congr fun u hu => ?_
        rw [leads_congr (m := m) (m' := m.setEnt d s y) (by rw [ent t u h3 hu, if_neg (fun h => ht h.1.symm)])]
      · rfl) hd
    have c1 : (sumN 3 fun e => if e < 3 then refsRow m i e 4 else 0) = sumN 3 (fun e => refsRow m i e 4) := sumN_congr fun t ht => by simp [ht]
    have c2 : (sumN 3 fun e => if e < 3 then refsRow (m.setEnt d s y) i e 4 else 0) = sumN 3 (fun e => refsRow (m.setEnt d s y) i e 4) := sumN_congr fun t ht => by simp [ht]
    rw [c1, c2] at this
    simpa [hd] using this
  rw [e0] at h2
  simp only [refs, refsRow] at h3 ⊢
  omega
theorem entryAs_cases (now out : Img) (d s : Nat) : entryAs now out d s = out.ent d s ∨
    ((out.ent d s).name = ⟨#[]⟩ ∧ entryAs now out d s = now.ent d s ∧ 0 ≤ (now.ent d s).ino ∧ (now.ent d s).ino < 8 ∧ (out.ino (now.ent d s).ino.toNat).live = true ∧ (out.ino (now.ent d s).ino.toNat).stamp = (now.ent d s).stamp ∧
      (refs out (now.ent d s).ino : Int) < (out.ino (now.ent d s).ino.toNat).links) ∨
    (¬(out.ent d s).name = ⟨#[]⟩ ∧ entryAs now out d s = Ent.zero ∧ (1 < refs out (out.ent d s).ino ∨ refs now (out.ent d s).ino = 0)) := by
  unfold entryAs
  by_cases h1 : now.ent d s = out.ent d s
  · simp [h1]
  by_cases h2 : (out.ent d s).name = ⟨#[]⟩
  · by_cases h3 : (now.ent d s).ino < 0 ∨ 8 ≤ (now.ent d s).ino
    · simp [h1, h2, h3]
    · by_cases h4 : (out.ino (now.ent d s).ino.toNat).live = true ∧ (out.ino (now.ent d s).ino.toNat).stamp = (now.ent d s).stamp ∧ (refs out (now.ent d s).ino : Int) < (out.ino (now.ent d s).ino.toNat).links
      · right; left
        refine ⟨h2, ?_, by omega, by omega, h4.1, h4.2.1, h4.2.2⟩
        simp only [h1, h2, h3, h4, if_true, if_false, and_self]
      · left
        simp only [h1, h2, h3, h4, if_true, if_false]
  · by_cases h3 : 1 < refs out (out.ent d s).ino ∨ refs now (out.ent d s).ino = 0
    · right; right
      exact ⟨h2, by simp only [h1, h2, h3, if_true, if_false], h3⟩
    · left
      simp only [h1, h2, h3, if_false]
theorem leadsE_zero (i : Int) : leadsE Ent.zero i = false := rfl
theorem leadsE_iff {y : Ent} {i : Int} : leadsE y i = true ↔ ¬y.name = ⟨#[]⟩ ∧ y.ino = i := by simp [leadsE]
theorem wrDir_ok (now disk : Img) {d0 : Nat} (hd : d0 < 3) : ∀ k, k ≤ 4 →
    (∀ n, (wrDir now disk d0 k).ino n = disk.ino n) ∧ (∀ j, (wrDir now disk d0 k).dat j = disk.dat j) ∧ (∀ d s, d < 3 → s < 4 → (d ≠ d0 ∨ k ≤ s) → (wrDir now disk d0 k).ent d s = disk.ent d s) ∧
    (∀ s, s < k → (wrDir now disk d0 k).ent d0 s = disk.ent d0 s ∨ (wrDir now disk d0 k).ent d0 s = Ent.zero ∨
      ((wrDir now disk d0 k).ent d0 s = now.ent d0 s ∧ 0 ≤ (now.ent d0 s).ino ∧ (now.ent d0 s).ino < 8 ∧ (disk.ino (now.ent d0 s).ino.toNat).live = true ∧ (disk.ino (now.ent d0 s).ino.toNat).stamp = (now.ent d0 s).stamp)) ∧
    (∀ n : Nat, 0 < refs disk n → 0 < refs now n → 0 < refs (wrDir now disk d0 k) n) ∧
    (∀ n : Nat, refs (wrDir now disk d0 k) n ≤ refs disk n ∨ ((disk.ino n).live = true ∧ (refs (wrDir now disk d0 k) n : Int) ≤ (disk.ino n).links))
  | 0, _ => ⟨fun _ => rfl, fun _ => rfl, fun _ _ _ _ _ => rfl, fun s hs => by omega, fun n h _ => h, fun n => .inl (Nat.le_refl _)⟩
  | k + 1, hk => by
    obtain ⟨i1, i2, i3, i4, i5, i6⟩ := wrDir_ok now disk hd k (by omega)
    have hk4 : k < 4 := by omega
    have hR := fun i : Int => refs_set (m := wrDir now disk d0 k) (y := entryAs now (wrDir now disk d0 k) d0 k) hd hk4 i
    have hb : (wrDir now disk d0 k).ent d0 k = disk.ent d0 k := i3 d0 k hd hk4 (.inr (Nat.le_refl _))
    have hE := fun d s (h : d < 3) (h' : s < 4) => ent_setEnt (wrDir now disk d0 k) d0 k (entryAs now (wrDir now disk d0 k) d0 k) d s
    have hC := entryAs_cases now (wrDir now disk d0 k) d0 k
    simp only [wrDir]
    generalize wrDir now disk d0 k = out at *
    generalize entryAs now out d0 k = y at *
    have hE' : (out.setEnt d0 k y).ent d0 k = y := by rw [hE d0 k hd hk4, if_pos ⟨⟨rfl, rfl⟩, hd, hk4⟩]
    refine ⟨fun n => by rw [ino_setEnt, i1], fun j => by rw [dat_setEnt, i2], fun d s h h' hne => ?_, fun s hs => ?_, fun n h1 h2 => ?_, fun n => ?_⟩
    · rw [hE d s h h', if_neg (by omega)]
      exact i3 d s h h' (by omega)
    · by_cases e : s = k
      · subst e
        rw [hE']
        rcases hC with c | ⟨c1, c2, c3, c4, c5, c6, c7⟩ | ⟨c1, c2, c3⟩
        · left; rw [c, hb]
        · right; right
          rw [i1] at c5 c6
          exact ⟨c2, c3, c4, c5, c6⟩
        · right; left; exact c2
      · rw [hE d0 s hd (by omega), if_neg (by omega)]
        exact i4 s (by omega)
    · have hr := hR n
      have h5 := i5 n h1 h2
      rcases hC with c | ⟨c1, c2, c3, c4, c5, c6, c7⟩ | ⟨c1, c2, c3⟩
      · rw [c] at hr
        rw [← leads_E] at hr
        rw [c]; omega
      · have : leads out d0 k n = false := by simp [leads, c1]
        rw [this] at hr
        simp only [b2n, Bool.false_eq_true, if_false, Nat.add_zero] at hr
        omega
      · rw [c2, leadsE_zero] at hr
        rw [c2]
        cases hl : leads out d0 k n with
        | false => rw [hl] at hr; simp only [b2n] at hr; omega
        | true =>
          rw [hl] at hr
          rw [leads_E, leadsE_iff] at hl
          rw [hl.2] at c3
          simp only [b2n, if_true] at hr
          rcases c3 with c3 | c3
          · simp at hr; omega
          · omega
    · have hr := hR n
      have h6 := i6 n
      rcases hC with c | ⟨c1, c2, c3, c4, c5, c6, c7⟩ | ⟨c1, c2, c3⟩
      · rw [c] at hr
        rw [← leads_E] at hr
        have : refs (out.setEnt d0 k (out.ent d0 k)) n = refs out n := by omega
        rw [c, this]; exact h6
      · have : leads out d0 k n = false := by simp [leads, c1]
        rw [this] at hr
        cases hl : leadsE y n with
        | false =>
          rw [hl] at hr
          have : refs (out.setEnt d0 k y) n = refs out n := by simp only [b2n] at hr; omega
          rw [this]; exact h6
        | true =>
          rw [hl] at hr
          rw [c2, leadsE_iff] at hl
          rw [hl.2] at c5 c7
          rw [i1, Int.toNat_natCast] at c5 c7
          right
          refine ⟨c5, ?_⟩
          simp [b2n] at hr
          omega
      · rw [c2, leadsE_zero] at hr
        rw [c2]
        simp only [b2n, Bool.false_eq_true, if_false, Nat.add_zero] at hr
        rcases h6 with h6 | ⟨h6, h7⟩
        · left; omega
        · right; exact ⟨h6, by omega⟩
theorem wrInodes_ent (now disk : Img) (n d s : Nat) : ∀ k, (wrInodes now disk n k).ent d s = disk.ent d s
  | 0 => rfl
  | k + 1 => by rw [wrInodes, ent_setIno, wrInodes_ent now disk n d s k]
end Go.Mini

namespace Go.Mini
namespace Fn
@[reducible] def cache_Cache_Sync.r0 : List MOp := [⟨some 2, .mov (.c (.int .i64 0)), none⟩]
@[reducible] def cache_Cache_Sync.r1 : List MOp := [⟨some 3, .mov (.c (.int .i64 0)), none⟩]
@[reducible] def cache_Cache_Sync.r2 : List MOp := [⟨some 5, .mov (.s 3), none⟩, ⟨some 6, .bin .lss (.s 5) (.c (.int .i64 8)), none⟩, ⟨some 7, .mov (.s 6), none⟩, ⟨some 8, .mov (.s 0), some (7, true)⟩, ⟨some 9, .call false [] 211 [(.s 8)], some (7, true)⟩, ⟨some 10, .un .not (.s 9), some (7, true)⟩, ⟨some 11, .pick (.s 7) (.s 10) (.c (.bool false)), none⟩]
@[reducible] def cache_Cache_Sync.r3 : List MOp := [⟨some 4, .mov (.c (.int .i64 13)), none⟩]
@[reducible] def cache_Cache_Sync.r4 : List MOp := [⟨some 12, .mov (.s 4), none⟩, ⟨some 13, .bin .geq (.s 12) (.c (.int .i64 0)), none⟩]
@[reducible] def cache_Cache_Sync.r5 : List MOp := [⟨some 14, .mov (.s 4), none⟩, ⟨some 15, .bin .sub (.s 14) (.c (.int .i64 1)), none⟩, ⟨some 4, .mov (.s 15), none⟩]
@[reducible] def cache_Cache_Sync.r6 : List MOp := [⟨some 16, .mov (.s 0), none⟩, ⟨some 17, .mov (.s 4), none⟩, ⟨some 18, .call false [] 212 [(.s 16), (.s 17)], none⟩]
@[reducible] def cache_Cache_Sync.r7 : List MOp := [⟨some 19, .mov (.s 3), none⟩, ⟨some 20, .bin .add (.s 19) (.c (.int .i64 1)), none⟩, ⟨some 3, .mov (.s 20), none⟩]
@[reducible] def cache_Cache_Sync.r8 : List MOp := [⟨some 21, .mov (.s 3), none⟩, ⟨some 2, .mov (.s 21), none⟩]
@[reducible] def cache_Cache_Sync.body : MC := (.seq (.reg false cache_Cache_Sync.r0 [2]) (.seq (.reg false cache_Cache_Sync.r1 []) (.seq (.block 0 (.loop [0, 3] [] (.seq (.seq (.reg false cache_Cache_Sync.r2 [5, 6, 7, 8, 9, 10]) (.cond (.s 11) .skip (.exit 0))) (.block 1 (.seq (.seq (.reg false cache_Cache_Sync.r3 []) (.block 2 (.loop [0, 3, 4] [] (.seq (.seq (.reg false cache_Cache_Sync.r4 [12]) (.cond (.s 13) .skip (.exit 2))) (.seq (.block 3 (.reg false cache_Cache_Sync.r6 [16, 17, 18])) (.reg false cache_Cache_Sync.r5 [14, 15])))))) (.reg false cache_Cache_Sync.r7 [19, 20])))))) (.seq (.reg false cache_Cache_Sync.r8 [3, 21]) .ret))))
@[reducible] def cache_Cache_Sync : MFun := { params := 1, nfree := 0, res := [.tmp 2], body := cache_Cache_Sync.body }
@[reducible] def cache_Cache_Disk.r0 : List MOp := [⟨some 2, .alloc false tImage, none⟩]
@[reducible] def cache_Cache_Disk.r1 : List MOp := [⟨some 3, .mov (.s 0), none⟩, ⟨some 4, .nilck (.s 3), none⟩, ⟨some 5, .fld tCache 1 tImage (.s 4), none⟩, ⟨some 6, .load false none tImage (.s 5), none⟩, ⟨none, .store tImage [] (.s 2) (.s 6), none⟩]
@[reducible] def cache_Cache_Disk.body : MC := (.seq (.reg false cache_Cache_Disk.r0 []) (.seq (.reg false cache_Cache_Disk.r1 [0, 3, 4, 5, 6]) .ret))
@[reducible] def cache_Cache_Disk : MFun := { params := 1, nfree := 0, res := [.cell 2 tImage], body := cache_Cache_Disk.body }
@[reducible] def cache_Cache_Inode.r0 : List MOp := [⟨some 2, .mov (.c (.int .i64 0)), none⟩]
@[reducible] def cache_Cache_Inode.r1 : List MOp := [⟨some 5, .mov (.s 0), none⟩, ⟨some 6, .nilck (.s 5), none⟩, ⟨some 7, .fld tCache 0 tImage (.s 6), none⟩, ⟨some 8, .fld tImage 0 tInodes (.s 7), none⟩, ⟨some 9, .load false none tInodes (.s 8), none⟩, ⟨some 10, .mov (.c (.int .i64 0)), none⟩]
@[reducible] def cache_Cache_Inode.r2 : List MOp := [⟨some 11, .bin .lss (.s 10) (.c (.int .i64 8)), none⟩]
@[reducible] def cache_Cache_Inode.r3 : List MOp := [⟨some 12, .mov (.s 10), none⟩, ⟨some 13, .aidx 8 tInode (.s 9) (.s 10), none⟩, ⟨some 4, .alloc false tInode, none⟩, ⟨some 3, .mov (.s 12), none⟩, ⟨none, .store tInode [] (.s 4) (.s 13), none⟩]
@[reducible] def cache_Cache_Inode.r4 : List MOp := [⟨some 14, .fld tInode 0 tB (.s 4), none⟩, ⟨some 15, .load false none tB (.s 14), none⟩, ⟨some 16, .un .not (.s 15), none⟩, ⟨some 17, .mov (.s 16), none⟩, ⟨some 18, .mov (.s 0), some (17, true)⟩, ⟨some 19, .nilck (.s 18), some (17, true)⟩, ⟨some 20, .fld tCache 1 tImage (.s 19), some (17, true)⟩, ⟨some 21, .mov (.s 3), some (17, true)⟩, ⟨some 22, .call false [] 12 [(.s 20), (.s 21)], some (17, true)⟩, ⟨some 23, .bin .eql (.s 22) (.c (.int .i64 0)), some (17, true)⟩, ⟨some 24, .pick (.s 17) (.s 23) (.c (.bool false)), none⟩]
@[reducible] def cache_Cache_Inode.r5 : List MOp := [⟨some 25, .mov (.s 3), none⟩, ⟨some 2, .mov (.s 25), none⟩]
@[reducible] def cache_Cache_Inode.r6 : List MOp := [⟨some 26, .bin .add (.s 10) (.c (.int .i64 1)), none⟩, ⟨some 10, .mov (.s 26), none⟩]
@[reducible] def cache_Cache_Inode.r7 : List MOp := [⟨some 2, .mov (.c (.int .i64 (-1))), none⟩]
@[reducible] def cache_Cache_Inode.body : MC := (.seq (.reg false cache_Cache_Inode.r0 [2]) (.seq (.seq (.reg false cache_Cache_Inode.r1 [5, 6, 7, 8]) (.block 0 (.loop [0, 9, 10] [] (.seq (.reg false cache_Cache_Inode.r2 []) (.seq (.cond (.s 11) .skip (.exit 0)) (.seq (.block 1 (.seq (.reg false cache_Cache_Inode.r3 [12, 13]) (.seq (.reg false cache_Cache_Inode.r4 [4, 14, 15, 16, 17, 18, 19, 20, 21, 22, 23]) (.cond (.s 24) (.seq (.reg false cache_Cache_Inode.r5 [3, 25]) .ret) .skip)))) (.reg false cache_Cache_Inode.r6 [26]))))))) (.seq (.reg false cache_Cache_Inode.r7 []) .ret)))
@[reducible] def cache_Cache_Inode : MFun := { params := 1, nfree := 0, res := [.tmp 2], body := cache_Cache_Inode.body }
@[reducible] def cache_Cache_Slot.r0 : List MOp := [⟨some 4, .mov (.c (.int .i64 0)), none⟩]
@[reducible] def cache_Cache_Slot.r1 : List MOp := [⟨some 6, .mov (.s 1), none⟩, ⟨some 7, .bin .lss (.s 6) (.c (.int .i64 0)), none⟩, ⟨some 8, .mov (.s 7), none⟩, ⟨some 9, .mov (.s 1), some (8, false)⟩, ⟨some 10, .bin .geq (.s 9) (.c (.int .i64 3)), some (8, false)⟩, ⟨some 11, .pick (.s 8) (.c (.bool true)) (.s 10), none⟩]
@[reducible] def cache_Cache_Slot.r2 : List MOp := [⟨some 4, .mov (.c (.int .i64 (-1))), none⟩]
@[reducible] def cache_Cache_Slot.r3 : List MOp := [⟨some 12, .mov (.c (.int .i64 0)), none⟩]
@[reducible] def cache_Cache_Slot.r4 : List MOp := [⟨some 13, .bin .lss (.s 12) (.c (.int .i64 4)), none⟩]
@[reducible] def cache_Cache_Slot.r5 : List MOp := [⟨some 14, .mov (.s 12), none⟩, ⟨some 5, .mov (.s 14), none⟩]
@[reducible] def cache_Cache_Slot.r6 : List MOp := [⟨some 15, .mov (.s 0), none⟩, ⟨some 16, .mov (.s 1), none⟩, ⟨some 17, .mov (.s 5), none⟩, ⟨some 18, .nilck (.s 15), none⟩, ⟨some 19, .fld tCache 0 tImage (.s 18), none⟩, ⟨some 20, .fld tImage 1 tDirs (.s 19), none⟩, ⟨some 21, .idx 3 tRow (.s 20) (.s 16), none⟩, ⟨some 22, .idx 4 tEntry (.s 21) (.s 17), none⟩, ⟨some 23, .fld tEntry 0 tS (.s 22), none⟩, ⟨some 24, .load false none tS (.s 23), none⟩, ⟨some 25, .bin .eql (.s 24) (.c (.str ⟨#[]⟩)), none⟩, ⟨some 26, .mov (.s 25), none⟩, ⟨some 27, .mov (.s 0), some (26, true)⟩, ⟨some 28, .mov (.s 1), some (26, true)⟩, ⟨some 29, .mov (.s 5), some (26, true)⟩, ⟨some 30, .nilck (.s 27), some (26, true)⟩, ⟨some 31, .fld tCache 1 tImage (.s 30), some (26, true)⟩, ⟨some 32, .fld tImage 1 tDirs (.s 31), some (26, true)⟩, ⟨some 33, .idx 3 tRow (.s 32) (.s 28), some (26, true)⟩, ⟨some 34, .idx 4 tEntry (.s 33) (.s 29), some (26, true)⟩, ⟨some 35, .fld tEntry 0 tS (.s 34), some (26, true)⟩, ⟨some 36, .load false none tS (.s 35), some (26, true)⟩, ⟨some 37, .bin .eql (.s 36) (.c (.str ⟨#[]⟩)), some (26, true)⟩, ⟨some 38, .pick (.s 26) (.s 37) (.c (.bool false)), none⟩]
@[reducible] def cache_Cache_Slot.r7 : List MOp := [⟨some 39, .mov (.s 5), none⟩, ⟨some 4, .mov (.s 39), none⟩]
@[reducible] def cache_Cache_Slot.r8 : List MOp := [⟨some 40, .bin .add (.s 12) (.c (.int .i64 1)), none⟩, ⟨some 12, .mov (.s 40), none⟩]
@[reducible] def cache_Cache_Slot.r9 : List MOp := [⟨some 4, .mov (.c (.int .i64 (-1))), none⟩]
@[reducible] def cache_Cache_Slot.body : MC := (.seq (.reg false cache_Cache_Slot.r0 [4]) (.seq (.seq (.reg false cache_Cache_Slot.r1 [6, 7, 8, 9, 10]) (.cond (.s 11) (.seq (.reg false cache_Cache_Slot.r2 []) .ret) .skip)) (.seq (.seq (.reg false cache_Cache_Slot.r3 []) (.block 0 (.loop [0, 1, 12] [] (.seq (.reg false cache_Cache_Slot.r4 []) (.seq (.cond (.s 13) .skip (.exit 0)) (.seq (.block 1 (.seq (.reg false cache_Cache_Slot.r5 [14]) (.seq (.reg false cache_Cache_Slot.r6 [15, 16, 17, 18, 19, 20, 21, 22, 23, 24, 25, 26, 27, 28, 29, 30, 31, 32, 33, 34, 35, 36, 37]) (.cond (.s 38) (.seq (.reg false cache_Cache_Slot.r7 [5, 39]) .ret) .skip)))) (.reg false cache_Cache_Slot.r8 [40]))))))) (.seq (.reg false cache_Cache_Slot.r9 []) .ret))))
@[reducible] def cache_Cache_Slot : MFun := { params := 2, nfree := 0, res := [.tmp 4], body := cache_Cache_Slot.body }
@[reducible] def cache_Cache_Data.r0 : List MOp := [⟨some 2, .mov (.c (.int .i64 0)), none⟩]
@[reducible] def cache_Cache_Data.r1 : List MOp := [⟨some 4, .mov (.c (.int .i64 0)), none⟩]
@[reducible] def cache_Cache_Data.r2 : List MOp := [⟨some 5, .bin .lss (.s 4) (.c (.int .i64 9)), none⟩]
@[reducible] def cache_Cache_Data.r3 : List MOp := [⟨some 6, .mov (.s 4), none⟩, ⟨some 3, .mov (.s 6), none⟩]
@[reducible] def cache_Cache_Data.r4 : List MOp := [⟨some 7, .mov (.s 0), none⟩, ⟨some 8, .nilck (.s 7), none⟩, ⟨some 9, .fld tCache 0 tImage (.s 8), none⟩, ⟨some 10, .mov (.s 3), none⟩, ⟨some 11, .call false [] 17 [(.s 9), (.s 10)], none⟩, ⟨some 12, .un .not (.s 11), none⟩, ⟨some 13, .mov (.s 12), none⟩, ⟨some 14, .mov (.s 0), some (13, true)⟩, ⟨some 15, .nilck (.s 14), some (13, true)⟩, ⟨some 16, .fld tCache 1 tImage (.s 15), some (13, true)⟩, ⟨some 17, .mov (.s 3), some (13, true)⟩, ⟨some 18, .call false [] 17 [(.s 16), (.s 17)], some (13, true)⟩, ⟨some 19, .un .not (.s 18), some (13, true)⟩, ⟨some 20, .pick (.s 13) (.s 19) (.c (.bool false)), none⟩]
@[reducible] def cache_Cache_Data.r5 : List MOp := [⟨some 21, .mov (.s 3), none⟩, ⟨some 2, .mov (.s 21), none⟩]
@[reducible] def cache_Cache_Data.r6 : List MOp := [⟨some 22, .bin .add (.s 4) (.c (.int .i64 1)), none⟩, ⟨some 4, .mov (.s 22), none⟩]
@[reducible] def cache_Cache_Data.r7 : List MOp := [⟨some 2, .mov (.c (.int .i64 (-1))), none⟩]
@[reducible] def cache_Cache_Data.body : MC := (.seq (.reg false cache_Cache_Data.r0 [2]) (.seq (.seq (.reg false cache_Cache_Data.r1 []) (.block 0 (.loop [0, 4] [] (.seq (.reg false cache_Cache_Data.r2 []) (.seq (.cond (.s 5) .skip (.exit 0)) (.seq (.block 1 (.seq (.reg false cache_Cache_Data.r3 [6]) (.seq (.reg false cache_Cache_Data.r4 [7, 8, 9, 10, 11, 12, 13, 14, 15, 16, 17, 18, 19]) (.cond (.s 20) (.seq (.reg false cache_Cache_Data.r5 [3, 21]) .ret) .skip)))) (.reg false cache_Cache_Data.r6 [22]))))))) (.seq (.reg false cache_Cache_Data.r7 []) .ret)))
@[reducible] def cache_Cache_Data : MFun := { params := 1, nfree := 0, res := [.tmp 2], body := cache_Cache_Data.body }
@[reducible] def cache_Cache_Clean.r0 : List MOp := [⟨some 2, .mov (.c (.bool false)), none⟩]
@[reducible] def cache_Cache_Clean.r1 : List MOp := [⟨some 3, .mov (.s 0), none⟩, ⟨some 4, .nilck (.s 3), none⟩, ⟨some 5, .fld tCache 0 tImage (.s 4), none⟩, ⟨some 6, .load false none tImage (.s 5), none⟩, ⟨some 7, .mov (.s 0), none⟩, ⟨some 8, .nilck (.s 7), none⟩, ⟨some 9, .fld tCache 1 tImage (.s 8), none⟩, ⟨some 10, .load false none tImage (.s 9), none⟩, ⟨some 11, .eq false tImage (.s 6) (.s 10), none⟩, ⟨some 2, .mov (.s 11), none⟩]
@[reducible] def cache_Cache_Clean.body : MC := (.seq (.reg false cache_Cache_Clean.r0 [2]) (.seq (.reg true cache_Cache_Clean.r1 [0, 3, 4, 5, 6, 7, 8, 9, 10, 11]) .ret))
@[reducible] def cache_Cache_Clean : MFun := { params := 1, nfree := 0, res := [.tmp 2], body := cache_Cache_Clean.body }
@[reducible] def cache_Cache_Write.r0 : List MOp := [⟨some 4, .mov (.c (.bool false)), none⟩]
@[reducible] def cache_Cache_Write.r1 : List MOp := [⟨some 8, .mov (.s 0), none⟩, ⟨some 9, .nilck (.s 8), none⟩, ⟨some 10, .fld tCache 0 tImage (.s 9), none⟩, ⟨some 11, .mov (.s 0), none⟩, ⟨some 12, .nilck (.s 11), none⟩, ⟨some 13, .fld tCache 1 tImage (.s 12), none⟩, ⟨some 14, .mov (.s 1), none⟩, ⟨some 15, .call false [5] 9 [(.s 10), (.s 13), (.s 14)], none⟩, ⟨some 7, .mov (.s 15), none⟩, ⟨some 16, .ext (.s 7) 0, none⟩, ⟨some 17, .ext (.s 7) 1, none⟩, ⟨some 5, .alloc false tImage, none⟩, ⟨none, .store tImage [] (.s 5) (.s 16), none⟩, ⟨some 6, .mov (.s 17), none⟩]
@[reducible] def cache_Cache_Write.r2 : List MOp := [⟨some 18, .mov (.s 0), none⟩, ⟨some 19, .load false none tImage (.s 5), none⟩, ⟨some 20, .nilck (.s 18), none⟩, ⟨some 21, .fld tCache 1 tImage (.s 20), none⟩, ⟨none, .store tImage [] (.s 21) (.s 19), none⟩]
@[reducible] def cache_Cache_Write.r3 : List MOp := [⟨some 22, .mov (.s 6), none⟩, ⟨some 4, .mov (.s 22), none⟩]
@[reducible] def cache_Cache_Write.body : MC := (.seq (.reg false cache_Cache_Write.r0 [4]) (.seq (.reg true cache_Cache_Write.r1 [1, 7, 8, 9, 10, 11, 12, 13, 14, 15, 16, 17]) (.seq (.reg false cache_Cache_Write.r2 [0, 5, 18, 19, 20, 21]) (.seq (.reg false cache_Cache_Write.r3 [6, 22]) .ret))))
@[reducible] def cache_Cache_Write : MFun := { params := 2, nfree := 0, res := [.tmp 4], body := cache_Cache_Write.body }
@[reducible] def cache_Of.r0 : List MOp := [⟨some 1, .box false tImage (.s 0), none⟩, ⟨some 2, .mov (.c .nilp), none⟩]
@[reducible] def cache_Of.r1 : List MOp := [⟨some 3, .call false [] 21 [(.s 1)], none⟩, ⟨some 4, .bin .neq (.s 3) (.c (.int .i64 0)), none⟩]
@[reducible] def cache_Of.r2 : List MOp := [⟨some 2, .mov (.c .nilp), none⟩]
@[reducible] def cache_Of.r3 : List MOp := [⟨some 5, .load false none tImage (.s 1), none⟩, ⟨some 6, .load false none tImage (.s 1), none⟩, ⟨some 7, .build tCache [(0, (.s 5)), (1, (.s 6))], none⟩, ⟨some 8, .box true tCache (.s 7), none⟩, ⟨some 2, .mov (.s 8), none⟩]
@[reducible] def cache_Of.body : MC := (.seq (.reg false cache_Of.r0 [0, 2]) (.seq (.seq (.reg false cache_Of.r1 [3]) (.cond (.s 4) (.seq (.reg false cache_Of.r2 []) .ret) .skip)) (.seq (.reg false cache_Of.r3 [1, 5, 6, 7, 8]) .ret)))
@[reducible] def cache_Of : MFun := { params := 1, nfree := 0, res := [.tmp 2], body := cache_Of.body }
@[reducible] def cache_New.r0 : List MOp := [⟨some 0, .mov (.c .nilp), none⟩]
@[reducible] def cache_New.r1 : List MOp := [⟨some 1, .call false [] 34 [], none⟩, ⟨some 2, .call false [] 34 [], none⟩, ⟨some 3, .build tCache [(0, (.s 1)), (1, (.s 2))], none⟩, ⟨some 4, .box true tCache (.s 3), none⟩, ⟨some 0, .mov (.s 4), none⟩]
@[reducible] def cache_New.body : MC := (.seq (.reg false cache_New.r0 [0]) (.seq (.reg false cache_New.r1 [1, 2, 3, 4]) .ret))
@[reducible] def cache_New : MFun := { params := 0, nfree := 0, res := [.tmp 0], body := cache_New.body }
end Fn
def tblNL : List (Option MFun) := [none, some Fn.cache_Cache_Sync, none, some Fn.cache_Cache_Disk, none, some Fn.cache_Cache_Inode, none, some Fn.cache_Cache_Slot, none, some Fn.cache_Cache_Data, none, some Fn.cache_Cache_Clean, some Fn.cache_Cache_Write, none, some Fn.cache_Of, none, none, none, none, none, none, none, none, none, none, none, none, none, none, none, none, some Fn.cache_New, none, none, none, none, none, none, none, none, none, none, none, none, none, none, none, none, none, none, none, none, none, none, none, none, none, none, none, none, none, none, none, none]
end Go.Mini

namespace Go.Mini
set_option linter.unusedSimpArgs false
set_option linter.unusedVariables false
theorem enterCmd_ext {T T' : Nat → Option MFun} (hT : ∀ i fn, T i = some fn → T' i = some fn) {cx : Cx} {prot : Bool} {hide : List Nat} {f : Nat} {args caps : List AV} {d : Option Nat} {todo : List Item} {s : St} :
    enterCmd T cx prot hide f args caps d todo s = .fail ∨ enterCmd T' cx prot hide f args caps d todo s = enterCmd T cx prot hide f args caps d todo s := by
  unfold enterCmd
  cases h : T f with
  | none => exact .inl rfl
  | some fn => rw [hT f fn h]; exact .inr rfl
theorem opCmd_ext {T T' : Nat → Option MFun} (hT : ∀ i fn, T i = some fn → T' i = some fn) {cx : Cx} {d : Option Nat} {o : MK} {k : List Item} {s : St} : opCmd T cx d o k s = .fail ∨ opCmd T' cx d o k s = opCmd T cx d o k s := by
  cases o <;> try exact .inr rfl
  · exact enterCmd_ext hT
  · simp only [opCmd]
    split
    · exact enterCmd_ext hT
    · exact .inl rfl
theorem next_ext {T T' : Nat → Option MFun} (hT : ∀ i fn, T i = some fn → T' i = some fn) {cx : Cx} {k : List Item} {s : St} : next T cx k s = .fail ∨ next T' cx k s = next T cx k s := by
  unfold next
  split <;> try exact .inr rfl
  split
  · exact .inr rfl
  · exact .inr rfl
  · exact opCmd_ext hT
theorem run_ext {T T' : Nat → Option MFun} (hT : ∀ i fn, T i = some fn → T' i = some fn) : ∀ {n : Nat} {cx : Cx} {k : List Item} {s r : St}, run T n cx k s = some r → run T' n cx k s = some r := by
  intro n
  induction n with
  | zero => intro cx k s r h; simp [run] at h
  | succ n ih =>
    intro cx k s r h
    rw [run] at h ⊢
    rcases next_ext hT (cx := cx) (k := k) (s := s) with hf | he
    · rw [hf] at h; exact absurd h (by simp)
    · rw [he]
      split at h
      · exact h
      · exact absurd h (by simp)
      · exact ih h
      · rename_i cx' hide fn e d k' s1 hn
        cases h1 : run T n cx' [.code fn.body] e with
        | none => rw [h1] at h; exact absurd h (by simp)
        | some s' =>
          rw [h1] at h
          rw [ih h1]
          dsimp only at h ⊢
          cases h2 : back cx cx' hide fn d s1 s' with
          | none => rw [h2] at h; exact absurd h (by simp)
          | some s2 => rw [h2] at h; exact ih h
def tblBL : List (Option MFun) := tblL ++ List.replicate 9 none ++ tblNL
def tblB (f : Nat) : Option MFun := tblBL.getD f none
theorem tbl_B (i : Nat) (fn : MFun) (h : tbl i = some fn) : tblB i = some fn := by
  unfold tbl at h
  have hl : i < tblL.length := by
    rcases Nat.lt_or_ge i tblL.length with h' | h'
    · exact h'
    · rw [List.getD_eq_getElem?_getD, List.getElem?_eq_none h'] at h; simp at h
  unfold tblB tblBL
  rw [List.getD_eq_getElem?_getD] at h ⊢
  rw [List.append_assoc, List.getElem?_append_left hl]
  exact h
theorem up {cx : Cx} {fn : MFun} {e : St} {R : AV → HP → Prop} (h : Ok tbl cx fn e R) : Ok tblB cx fn e R := by
  obtain ⟨n, s', v, hr, hv, hR⟩ := h
  exact ⟨n, s', v, run_ext tbl_B hr, hv, hR⟩
end Go.Mini

namespace Go.Mini
set_option linter.unusedSimpArgs false
set_option linter.unusedVariables false
set_option maxHeartbeats 4000000
set_option maxRecDepth 100000
def FA (m m' : Img) (n : Nat) : Prop := (m.ino n).live = true → (m'.ino n).live = true → ¬(m.ino n).stamp = (m'.ino n).stamp → refs m' n = 0
def FB (m m' : Img) (n k : Nat) : Prop := ¬k = n → (m.ino n).live = true → (m'.ino k).live = true → ¬(m'.ino k).stamp = (m.ino n).stamp
def FC (m m' : Img) (n p k q : Nat) : Prop := (m'.ino k).live = true → (m'.ino k).prt q = (m.ino n).prt p → k = n ∧ q = p ∧ (m'.ino k).stamp = (m.ino n).stamp
def FCp (m m' : Img) (n p : Nat) : Prop := (m.ino n).live = true → 0 ≤ (m.ino n).prt p → ∀ k, k < 8 → ∀ q, q < 2 → FC m m' n p k q
def FI (m m' : Img) (n : Nat) : Prop := FA m m' n ∧ (∀ k, k < 8 → FB m m' n k) ∧ ∀ p, p < 2 → FCp m m' n p
def FD (m m' : Img) (x : Nat) : Prop := held m' x = true → (m.dat x).of = (m'.dat x).of
def FE (m m' : Img) (d s : Nat) : Prop := ¬(m.ent d s).name = ⟨#[]⟩ → ¬(m'.ent d s).name = ⟨#[]⟩ → m.ent d s = m'.ent d s
def FG (m m' : Img) (d s t : Nat) : Prop := ¬t = s → ¬(m.ent d s).name = ⟨#[]⟩ → ¬(m'.ent d t).name = (m.ent d s).name
def FSx9 (m m' : Img) (d s : Nat) : Prop := FE m m' d s ∧ ∀ t, t < 4 → FG m m' d s t
def Fits (m m' : Img) : Prop := (∀ n, n < 8 → FI m m' n) ∧ (∀ x, x < 9 → FD m m' x) ∧ ∀ d, d < 3 → ∀ s, s < 4 → FSx9 m m' d s
end Go.Mini
