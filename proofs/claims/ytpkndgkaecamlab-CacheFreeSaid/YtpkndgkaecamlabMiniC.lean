/- A part of the proof: MiniC. -/
import Derived.Test.YtpkndgkaecamlabMiniW
import Derived.Attr
namespace Go.Mini
set_option linter.unusedSimpArgs false
set_option linter.unusedVariables false

/-! The calculus: one goal 'W ..' of a running function; simp pushes it to the next loop, call or question. -/

def onO {α : Type} (o : Option α) (f : α → Prop) : Prop := match o with | some a => f a | none => False
@[go_sem] theorem onO_some {α : Type} (a : α) (f : α → Prop) : onO (some a) f = f a := rfl
@[go_sem] theorem onO_none {α : Type} (f : α → Prop) : onO none f = False := rfl
theorem onO_ite {α : Type} {c : Prop} [Decidable c] (a b : Option α) (f : α → Prop) : onO (if c then a else b) f = if c then onO a f else onO b f := by split <;> rfl

section
variable {T : Nat → Option MFun} {cx : Cx} {k : List Item} {kill : List Nat} {r : List MOp} {sl : Slots} {own : Own} {h : HP} {Q : St → Prop}

def W1 (T : Nat → Option MFun) (cx : Cx) (o : Option AV) (d : Option Nat) (r : List MOp) (kill : List Nat) (k : List Item) (s : St) (Q : St → Prop) : Prop := onO o fun v => W T cx (.ops r kill :: k) (s.setd d v) Q
@[go_sem] theorem W1_some {v : AV} {d : Option Nat} {s : St} : W1 T cx (some v) d r kill k s Q = W T cx (.ops r kill :: k) (s.setd d v) Q := rfl
@[go_sem] theorem W1_none {d : Option Nat} {s : St} : W1 T cx none d r kill k s Q = False := rfl
def W2 (T : Nat → Option MFun) (cx : Cx) (o : Option St) (r : List MOp) (kill : List Nat) (k : List Item) (Q : St → Prop) : Prop := onO o fun s' => W T cx (.ops r kill :: k) s' Q
@[go_sem] theorem W2_some {s : St} : W2 T cx (some s) r kill k Q = W T cx (.ops r kill :: k) s Q := rfl
@[go_sem] theorem W2_none : W2 T cx none r kill k Q = False := rfl
def WX (T : Nat → Option MFun) (cx : Cx) (o : Option (List Item)) (s : St) (Q : St → Prop) : Prop := onO o fun k' => W T cx k' s Q
@[go_sem] theorem WX_some {s : St} : WX T cx (some k) s Q = W T cx k s Q := rfl
@[go_sem] theorem WX_none {s : St} : WX T cx none s Q = False := rfl
theorem W_iff {s s1 : St} {k k1 : List Item} (hn : next T cx k s = .go k1 s1) : W T cx k s Q = W T cx k1 s1 Q := by
  apply propext
  constructor
  · rintro ⟨n, s', hr, hq⟩
    cases n with
    | zero => simp [run] at hr
    | succ n => rw [run, hn] at hr; exact ⟨n, s', hr, hq⟩
  · exact W_go hn
theorem W_fail {s : St} {k : List Item} (hn : next T cx k s = .fail) : W T cx k s Q = False := by
  apply propext
  constructor
  · rintro ⟨n, s', hr, hq⟩
    cases n with
    | zero => simp [run] at hr
    | succ n => rw [run, hn] at hr; simp at hr
  · exact False.elim
theorem W_iff_done {s s1 : St} {k : List Item} (hn : next T cx k s = .done s1) : W T cx k s Q = Q s1 := by
  apply propext
  constructor
  · rintro ⟨n, s', hr, hq⟩
    cases n with
    | zero => simp [run] at hr
    | succ n => rw [run, hn] at hr; simp at hr; subst hr; exact hq
  · exact W_done hn

@[congr] theorem W_congr {s s' : St} {k : List Item} (hs : s = s') : W T cx k s Q = W T cx k s' Q := by rw [hs]
@[go_sem] theorem W_nil {s : St} : W T cx [] s Q = Q s := W_iff_done rfl
@[go_sem] theorem W_inBlock {i : Nat} {s : St} : W T cx (.inBlock i :: k) s Q = W T cx k s Q := W_iff rfl
@[go_sem] theorem W_skip {s : St} : W T cx (.code .skip :: k) s Q = W T cx k s Q := W_iff rfl
@[go_sem] theorem W_seq {a b : MC} {s : St} : W T cx (.code (.seq a b) :: k) s Q = W T cx (.code a :: .code b :: k) s Q := W_iff rfl
@[go_sem] theorem W_block {i : Nat} {b : MC} {s : St} : W T cx (.code (.block i b) :: k) s Q = W T cx (.code b :: .inBlock i :: k) s Q := W_iff rfl
@[go_sem] theorem W_ret {s : St} : W T cx (.code .ret :: k) s Q = Q s := W_iff_done rfl
@[go_sem] theorem W_regF {ops : List MOp} {s : St} : W T cx (.code (.reg false ops kill) :: k) s Q = W T cx (.ops ops kill :: k) s Q := W_iff rfl
@[go_sem] theorem W_exit {i : Nat} {s : St} : W T cx (.code (.exit i) :: k) s Q = WX T cx (exitTo i k) s Q := by
  cases hk : exitTo i k with
  | none => exact W_fail (by simp [next, hk])
  | some k' => exact W_iff (by simp [next, hk])
@[go_sem] theorem exitTo_here {j : Nat} : exitTo j (.inBlock j :: k) = some k := by simp [exitTo]
@[go_sem] theorem exitTo_block {i j : Nat} : exitTo i (.inBlock j :: k) = if j = i then some k else exitTo i k := rfl
@[go_sem] theorem exitTo_code {i : Nat} {c : MC} : exitTo i (.code c :: k) = exitTo i k := rfl
@[go_sem] theorem exitTo_ops {i : Nat} {l : List MOp} : exitTo i (.ops l kill :: k) = exitTo i k := rfl
@[go_sem] theorem exitTo_loop {i : Nat} {a b : List Nat} {c : MC} : exitTo i (.inLoop a b c :: k) = exitTo i k := rfl

def bCond (v : AV) (A B : Prop) : Prop := match v with | .bool b => if b = true then A else B | _ => False
theorem bCond_true (A B : Prop) : bCond (.bool true) A B = A := rfl
theorem bCond_false (A B : Prop) : bCond (.bool false) A B = B := rfl
theorem bCond_bool (b : Bool) (A B : Prop) : bCond (.bool b) A B = if b = true then A else B := rfl
def WC (T : Nat → Option MFun) (cx : Cx) (v : AV) (t e : MC) (k : List Item) (s : St) (Q : St → Prop) : Prop := bCond v (W T cx (.code t :: k) s Q) (W T cx (.code e :: k) s Q)
@[go_sem] theorem WC_true {t e : MC} {s : St} : WC T cx (.bool true) t e k s Q = W T cx (.code t :: k) s Q := rfl
@[go_sem] theorem WC_false {t e : MC} {s : St} : WC T cx (.bool false) t e k s Q = W T cx (.code e :: k) s Q := rfl
theorem WC_intro {b : Bool} {t e : MC} {s : St} (h1 : b = true → W T cx (.code t :: k) s Q) (h2 : b = false → W T cx (.code e :: k) s Q) : WC T cx (.bool b) t e k s Q := by
  cases b
  · exact h2 rfl
  · exact h1 rfl
@[go_sem] theorem W_cond {c : Opd} {t e : MC} {s : St} : W T cx (.code (.cond c t e) :: k) s Q = WC T cx (s.opd c) t e k s Q := by
  show _ = bCond (s.opd c) (W T cx (.code t :: k) s Q) (W T cx (.code e :: k) s Q)
  cases hc : s.opd c with
  | bool b => cases b <;> simp only [bCond] <;> exact W_iff (by simp [next, hc])
  | _ => exact W_fail (by simp [next, hc])
@[go_sem] theorem W_opsnil : W T cx (.ops [] kill :: k) ⟨sl, own, h⟩ Q = W T cx k ⟨sl.without kill, own, h⟩ Q := W_iff rfl

/-- A guard: an operation that is done only if. -/
def gCond (v : AV) (b : Bool) (A B : Prop) : Prop := match v with
  | .bool c => if (c == b) = true then A else B
  | .tup .unit => B
  | _ => False
theorem gCond_tt (A B : Prop) : gCond (.bool true) true A B = A := rfl
theorem gCond_tf (A B : Prop) : gCond (.bool true) false A B = B := rfl
theorem gCond_ft (A B : Prop) : gCond (.bool false) true A B = B := rfl
theorem gCond_ff (A B : Prop) : gCond (.bool false) false A B = A := rfl
theorem gCond_undef (b : Bool) (A B : Prop) : gCond .undef b A B = B := rfl
def WG (T : Nat → Option MFun) (cx : Cx) (v : AV) (b : Bool) (d : Option Nat) (o : MK) (r : List MOp) (kill : List Nat) (k : List Item) (s : St) (Q : St → Prop) : Prop :=
  gCond v b (W T cx (.ops (⟨d, o, none⟩ :: r) kill :: k) s Q) (W T cx (.ops r kill :: k) (s.setd d .undef) Q)
@[go_sem] theorem WG_tt {d : Option Nat} {o : MK} {s : St} : WG T cx (.bool true) true d o r kill k s Q = W T cx (.ops (⟨d, o, none⟩ :: r) kill :: k) s Q := rfl
@[go_sem] theorem WG_ff {d : Option Nat} {o : MK} {s : St} : WG T cx (.bool false) false d o r kill k s Q = W T cx (.ops (⟨d, o, none⟩ :: r) kill :: k) s Q := rfl
@[go_sem] theorem WG_tf {d : Option Nat} {o : MK} {s : St} : WG T cx (.bool true) false d o r kill k s Q = W T cx (.ops r kill :: k) (s.setd d .undef) Q := rfl
@[go_sem] theorem WG_ft {d : Option Nat} {o : MK} {s : St} : WG T cx (.bool false) true d o r kill k s Q = W T cx (.ops r kill :: k) (s.setd d .undef) Q := rfl
@[go_sem] theorem WG_undef {b : Bool} {d : Option Nat} {o : MK} {s : St} : WG T cx .undef b d o r kill k s Q = W T cx (.ops r kill :: k) (s.setd d .undef) Q := rfl
theorem WG_intro {b c : Bool} {d : Option Nat} {o : MK} {s : St} (h1 : b = c → W T cx (.ops (⟨d, o, none⟩ :: r) kill :: k) s Q) (h2 : b = (!c) → W T cx (.ops r kill :: k) (s.setd d .undef) Q) : WG T cx (.bool b) c d o r kill k s Q := by
  cases b <;> cases c
  · exact h1 rfl
  · exact h2 rfl
  · exact h2 rfl
  · exact h1 rfl
@[go_sem] theorem W_guard {d : Option Nat} {o : MK} {t : Nat} {b : Bool} {s : St} : W T cx (.ops (⟨d, o, some (t, b)⟩ :: r) kill :: k) s Q = WG T cx (Slots.get s.sl t) b d o r kill k s Q := by
  show _ = gCond (Slots.get s.sl t) b (W T cx (.ops (⟨d, o, none⟩ :: r) kill :: k) s Q) (W T cx (.ops r kill :: k) (s.setd d .undef) Q)
  have key : ∀ (o' : MOp), o'.d = d → o'.k = o → s.wanted o'.g = some true → next T cx (.ops (o' :: r) kill :: k) s = opCmd T cx d o (.ops r kill :: k) s := by
    intro o' h1 h2 h3; subst h1; subst h2; simp [next, h3]
  have e : s.wanted (some (t, b)) = some true → W T cx (.ops (⟨d, o, some (t, b)⟩ :: r) kill :: k) s Q = W T cx (.ops (⟨d, o, none⟩ :: r) kill :: k) s Q := by
    intro hw
    have h1 := key ⟨d, o, some (t, b)⟩ rfl rfl hw
    have h2 := key ⟨d, o, none⟩ rfl rfl rfl
    apply propext
    constructor <;> rintro ⟨n, s', hr, hq⟩ <;> refine ⟨n, s', ?_, hq⟩ <;> cases n <;> simp only [run] at hr ⊢
    · exact absurd hr (by simp)
    · rw [h2]; rw [h1] at hr; exact hr
    · exact absurd hr (by simp)
    · rw [h1]; rw [h2] at hr; exact hr
  have e2 : s.wanted (some (t, b)) = some false → W T cx (.ops (⟨d, o, some (t, b)⟩ :: r) kill :: k) s Q = W T cx (.ops r kill :: k) (s.setd d .undef) Q := by
    intro hw; exact W_iff (by simp [next, hw])
  have e3 : s.wanted (some (t, b)) = none → W T cx (.ops (⟨d, o, some (t, b)⟩ :: r) kill :: k) s Q = False := by
    intro hw; exact W_fail (by simp [next, hw])
  cases hv : Slots.get s.sl t with
  | bool c =>
    simp only [gCond]
    split
    · exact e (by simp_all [St.wanted])
    · exact e2 (by simp_all [St.wanted])
  | tup v => cases v with
    | unit => exact e2 (by simp [St.wanted, hv])
    | _ => exact e3 (by simp [St.wanted, hv])
  | _ => exact e3 (by simp [St.wanted, hv])

/-! The operations. -/
def MK.isCallK : MK → Bool
  | .call .. => true
  | .callv .. => true
  | _ => false

theorem W_op {d : Option Nat} {o : MK} (hc : o.isCallK = false) {s : St} : W T cx (.ops (⟨d, o, none⟩ :: r) kill :: k) s Q =
    onO (evOp cx d o s) fun p => W T cx (.ops r kill :: k) (p.2.setd d p.1) Q := by
  have hn : next T cx (.ops (⟨d, o, none⟩ :: r) kill :: k) s = match evOp cx d o s with
    | some (v, s') => .go (.ops r kill :: k) (s'.setd d v)
    | none => .fail := by
    simp only [next, St.wanted]
    cases o <;> first | rfl | simp [MK.isCallK] at hc
  cases he : evOp cx d o s with
  | none => rw [he] at hn; exact W_fail hn
  | some p => rw [he] at hn; exact W_iff hn

theorem W_val {d : Option Nat} {o : MK} (hc : o.isCallK = false) {s : St} {f : Option AV} (he : evK s.opd (s.look cx) o = f.map .val) : W T cx (.ops (⟨d, o, none⟩ :: r) kill :: k) s Q =
    onO f fun v => W T cx (.ops r kill :: k) (s.setd d v) Q := by
  rw [W_op hc, evOp, he]
  cases f <;> rfl

@[go_sem] theorem W_mov {d : Option Nat} {x : Opd} {s : St} : W T cx (.ops (⟨d, .mov x, none⟩ :: r) kill :: k) s Q = W T cx (.ops r kill :: k) (s.setd d (s.opd x)) Q :=
  W_val (f := some (s.opd x)) rfl rfl
def pickV : AV → AV → AV → Option AV
  | .bool true, a, _ => some a
  | .bool false, _, b => some b
  | _, _, _ => none
@[go_sem] theorem pickV_t (a b : AV) : pickV (.bool true) a b = some a := rfl
@[go_sem] theorem pickV_f (a b : AV) : pickV (.bool false) a b = some b := rfl
@[go_sem] theorem pickV_bb (c x y : Bool) : pickV (.bool c) (.bool x) (.bool y) = some (.bool (if c = true then x else y)) := by cases c <;> rfl
@[go_sem] theorem W_pick {d : Option Nat} {c x y : Opd} {s : St} : W T cx (.ops (⟨d, .pick c x y, none⟩ :: r) kill :: k) s Q = W1 T cx (pickV (s.opd c) (s.opd x) (s.opd y)) d r kill k s Q :=
  W_val rfl (by simp only [evK]; split <;> simp_all [pickV])
@[go_sem] theorem W_bin {d : Option Nat} {op : BinOp} {x y : Opd} {s : St} : W T cx (.ops (⟨d, .bin op x y, none⟩ :: r) kill :: k) s Q = W1 T cx (evBin op (s.opd x) (s.opd y)) d r kill k s Q :=
  W_val rfl rfl
@[go_sem] theorem W_un {d : Option Nat} {op : UnOp} {x : Opd} {s : St} : W T cx (.ops (⟨d, .un op x, none⟩ :: r) kill :: k) s Q = W1 T cx (evUn op (s.opd x)) d r kill k s Q :=
  W_val rfl rfl
/-- May values be held against each other, and are they the same? -/
def eqV (t : Ty) (neg : Bool) (x y : AV) : Option AV := if t.eqOk x && t.eqOk y then (x.eq y).map fun b => .bool (if neg then !b else b) else none
@[go_sem] theorem W_eq {d : Option Nat} {neg : Bool} {t : Ty} {x y : Opd} {s : St} : W T cx (.ops (⟨d, .eq neg t x y, none⟩ :: r) kill :: k) s Q = W1 T cx (eqV t neg (s.opd x) (s.opd y)) d r kill k s Q :=
  W_val rfl (by simp only [evK, eqV]; split <;> simp [Function.comp_def])
@[go_sem] theorem W_alloc {d : Nat} {t : Ty} : W T cx (.ops (⟨some d, .alloc false t, none⟩ :: r) kill :: k) ⟨sl, own, h⟩ Q =
    W T cx (.ops r kill :: k) ⟨(Slots.forget sl (.stk cx.lvl d)).set d (.ptr (.stk cx.lvl d) [] t), own.set d ⟨t, t.zero⟩, h⟩ Q := by
  rw [W_op rfl]; rfl
@[go_sem] theorem W_box {d : Nat} {t : Ty} {x : Opd} : W T cx (.ops (⟨some d, .box false t x, none⟩ :: r) kill :: k) ⟨sl, own, h⟩ Q =
    (t.fits (St.opd ⟨sl, own, h⟩ x) = true ∧ W T cx (.ops r kill :: k) ⟨(Slots.forget sl (.stk cx.lvl d)).set d (.ptr (.stk cx.lvl d) [] t), own.set d ⟨t, St.opd ⟨sl, own, h⟩ x⟩, h⟩ Q) := by
  rw [W_op rfl, evOp]
  simp only [evK]
  by_cases h1 : t.fits (St.opd ⟨sl, own, h⟩ x) = true
  · simp only [h1, true_and, if_true]; rfl
  · simp only [h1, false_and, Bool.false_eq_true, if_false]; rfl
@[go_sem] theorem W_build {d : Option Nat} {t : Ty} {ps : List (Nat × Opd)} {s : St} : W T cx (.ops (⟨d, .build t ps, none⟩ :: r) kill :: k) s Q = W1 T cx (fill t t.zero (ps.map fun p => (p.1, s.opd p.2))) d r kill k s Q :=
  W_val rfl rfl
def ldV (t : Ty) (x : AV) (R : Id → List Nat → Option AV) : Option AV := match x with
  | .ptr i p t' => if t = t' then match R i p with | some v => if t.fits v then some v else none | none => none else none
  | _ => none
def fitO (t : Ty) : Option AV → Option AV | some v => if t.fits v = true then some v else none | none => none
@[go_sem] theorem ldV_ptr (t : Ty) (i : Id) (p : List Nat) (R : Id → List Nat → Option AV) : ldV t (.ptr i p t) R = fitO t (R i p) := by simp only [ldV, if_true, fitO]
theorem fitO_some {t : Ty} {v : AV} (hv : t.fits v = true) : fitO t (some v) = some v := by simp [fitO, hv]
@[go_sem] theorem fitO_int (k : IntKind) (n : Int) : fitO (.leaf (.int k)) (some (.int k n)) = some (.int k n) := fitO_some (by simp [Ty.fits, LK.fits, AV.safe])
@[go_sem] theorem fitO_str (s : ByteArray) : fitO (.leaf .str) (some (.str s)) = some (.str s) := rfl
@[go_sem] theorem fitO_bool (b : Bool) : fitO (.leaf .bool) (some (.bool b)) = some (.bool b) := rfl
@[go_sem] theorem W_load {d : Option Nat} {t : Ty} {x : Opd} {s : St} : W T cx (.ops (⟨d, .load false none t x, none⟩ :: r) kill :: k) s Q = W1 T cx (ldV t (s.opd x) (s.rd cx)) d r kill k s Q :=
  W_val rfl (by
    simp only [evK]
    cases s.opd x <;> simp only [ldV, rooted, Bool.false_eq_true, false_implies, true_and, and_true, Option.map_none] <;> try rfl
    rename_i i p t'
    by_cases ht : t = t'
    · simp only [ht, if_true, St.rd]
      cases (s.look cx i).bind fun b => b.val.at p with
      | none => rfl
      | some v => by_cases hf : t'.fits v = true <;> simp [hf]
    · simp only [ht, if_false, Option.map_none])
def intoV (x v : AV) : Bool := match x with | .ptr i _ _ => v.into i | _ => false
@[go_sem] theorem intoV_ptr (i : Id) (p : List Nat) (t : Ty) (v : AV) : intoV (.ptr i p t) v = v.into i := rfl
def apartV (x v : AV) : Bool := match x with | .ptr i _ _ => v.apart i | _ => false
@[go_sem] theorem apartV_ptr (i : Id) (p : List Nat) (t : Ty) (v : AV) : apartV (.ptr i p t) v = v.apart i := rfl
def apAll (s : St) (x : AV) : List Nat → Prop
  | [] => True
  | u :: l => apartV x (Slots.get s.sl u) = true ∧ apAll s x l
@[go_sem] theorem apAll_nil (s : St) (x : AV) : apAll s x [] = True := rfl
@[go_sem] theorem apAll_cons (x : AV) (u : Nat) (l : List Nat) : apAll ⟨sl, own, h⟩ x (u :: l) = (apartV x (Slots.get sl u) = true ∧ apAll ⟨sl, own, h⟩ x l) := rfl
theorem apAll_iff (s : St) (x : AV) : ∀ l, apAll s x l = ∀ u ∈ l, apartV x (Slots.get s.sl u) = true
  | [] => by simp [apAll]
  | u :: l => by simp [apAll, apAll_iff s x l]
def nilV : AV → Option AV
  | .ptr i p t => some (.ptr i p t)
  | _ => none
@[go_sem] theorem nilV_ptr (i : Id) (p : List Nat) (t : Ty) : nilV (.ptr i p t) = some (.ptr i p t) := rfl
@[go_sem] theorem W_loadr {d : Option Nat} {u : Nat} {t : Ty} {x : Opd} {s : St} : W T cx (.ops (⟨d, .load false (some u) t x, none⟩ :: r) kill :: k) s Q =
    (intoV (s.opd x) (Slots.get s.sl u) = true ∧ W1 T cx (ldV t (s.opd x) (s.rd cx)) d r kill k s Q) := by
  rw [W_op rfl, evOp]
  simp only [evK]
  cases hx : s.opd x <;> simp only [intoV, ldV, rooted, Bool.false_eq_true, false_implies, true_and, and_true, false_and] <;> try rfl
  rename_i i p t'
  by_cases h1 : (Slots.get s.sl u).into i = true
  · have h1' : (s.opd (.s u)).into i = true := h1
    simp only [h1, h1', and_true, true_and]
    by_cases ht : t = t'
    · simp only [ht, if_true, St.rd]
      cases (s.look cx i).bind fun b => b.val.at p with
      | none => rfl
      | some v => by_cases hf : t'.fits v = true <;> simp [hf, onO, applyEff, W1]
    · simp only [ht, if_false]; rfl
  · have h1' : ¬(s.opd (.s u)).into i = true := h1
    simp only [h1, h1', and_false, false_and, if_false, Bool.false_eq_true, onO, W1]
@[go_sem] theorem W_nilck {d : Option Nat} {x : Opd} {s : St} : W T cx (.ops (⟨d, .nilck x, none⟩ :: r) kill :: k) s Q = W1 T cx (nilV (s.opd x)) d r kill k s Q :=
  W_val rfl (by simp only [evK, nilV]; split <;> simp_all)
def fldV (st : Ty) (i : Nat) (ft : Ty) (x : AV) : Option AV := match x with
  | .ptr j p t => if t = st ∧ st.field i = some ft then some (.ptr j (p ++ [i]) ft) else none
  | _ => none
@[go_sem] theorem fldV_ptr (st : Ty) (i : Nat) (ft : Ty) (j : Id) (p : List Nat) : fldV st i ft (.ptr j p st) = if st.field i = some ft then some (.ptr j (p ++ [i]) ft) else none := by simp [fldV]
@[go_sem] theorem W_fld {d : Option Nat} {i : Nat} {st ft : Ty} {x : Opd} {s : St} : W T cx (.ops (⟨d, .fld st i ft x, none⟩ :: r) kill :: k) s Q = W1 T cx (fldV st i ft (s.opd x)) d r kill k s Q :=
  W_val rfl (by simp only [evK, fldV]; cases s.opd x <;> simp only [Option.map_none] <;> split <;> rfl)
def idxV (n : Nat) (t : Ty) (x i : AV) : Option AV := match x, toIx i with
  | .ptr j p t', some z => if t' = .arr n t ∧ 0 ≤ z ∧ z < (n : Int) then some (.ptr j (p ++ [z.toNat]) t) else none
  | _, _ => none
@[go_sem] theorem idxV_nat {n : Nat} {t : Ty} {j : Id} {p : List Nat} {k : IntKind} {m : Nat} (hm : m < n) : idxV n t (.ptr j p (.arr n t)) (.int k (m : Int)) = some (.ptr j (p ++ [m]) t) := by
  simp only [idxV, toIx]; rw [if_pos ⟨trivial, by omega, by omega⟩]; rfl
@[go_sem] theorem idxV_int {n : Nat} {t : Ty} {j : Id} {p : List Nat} {k : IntKind} {z : Int} (h0 : 0 ≤ z) (hm : z < n) : idxV n t (.ptr j p (.arr n t)) (.int k z) = some (.ptr j (p ++ [z.toNat]) t) := by
  simp only [idxV, toIx]; rw [if_pos ⟨trivial, by omega, by omega⟩]
@[go_sem] theorem W_idx {d : Option Nat} {n : Nat} {t : Ty} {x i : Opd} {s : St} : W T cx (.ops (⟨d, .idx n t x i, none⟩ :: r) kill :: k) s Q = W1 T cx (idxV n t (s.opd x) (s.opd i)) d r kill k s Q :=
  W_val rfl (by
    simp only [evK, idxV]
    cases s.opd x <;> try rfl
    cases toIx (s.opd i) <;> try rfl
    simp only
    split <;> rfl)
def aidxV (n : Nat) (t : Ty) (x i : AV) : Option AV := match x, toIx i with
  | .arr m f, some z => if h : 0 ≤ z ∧ z < (m : Int) then if (Ty.arr n t).fits (.arr m f) then some (f ⟨z.toNat, by omega⟩) else none else none
  | _, _ => none
@[go_sem] theorem aidxV_nat {n : Nat} {t : Ty} {f : Fin n → AV} {k : IntKind} {m : Nat} (hm : m < n) (hf : (Ty.arr n t).fits (.arr n f) = true) : aidxV n t (.arr n f) (.int k (m : Int)) = some (f ⟨m, hm⟩) := by
  simp only [aidxV, toIx]; rw [dif_pos ⟨by omega, by omega⟩, if_pos hf]; rfl
@[go_sem] theorem W_aidx {d : Option Nat} {n : Nat} {t : Ty} {x i : Opd} {s : St} : W T cx (.ops (⟨d, .aidx n t x i, none⟩ :: r) kill :: k) s Q = W1 T cx (aidxV n t (s.opd x) (s.opd i)) d r kill k s Q :=
  W_val rfl (by
    simp only [evK, aidxV]
    cases s.opd x <;> try rfl
    cases toIx (s.opd i) <;> try rfl
    simp only
    split <;> try rfl
    split <;> rfl)
def stridxV (x i : AV) : Option AV := match x, toIx i with
  | .str b, some z => if 0 ≤ z then (b[z.toNat]?).map fun c => .int .u8 c.toNat else none
  | _, _ => none
@[go_sem] theorem W_stridx {d : Option Nat} {x i : Opd} {s : St} : W T cx (.ops (⟨d, .stridx x i, none⟩ :: r) kill :: k) s Q = W1 T cx (stridxV (s.opd x) (s.opd i)) d r kill k s Q :=
  W_val rfl (by
    simp only [evK, stridxV]
    cases s.opd x <;> try rfl
    cases toIx (s.opd i) <;> try rfl
    simp only
    split <;> simp [Function.comp_def])
def fieldV (t : Ty) (x : AV) (i : Nat) : Option AV := if t.fits x then x.field i else none
@[go_sem] theorem W_field {d : Option Nat} {t : Ty} {x : Opd} {i : Nat} {s : St} : W T cx (.ops (⟨d, .field t x i, none⟩ :: r) kill :: k) s Q = W1 T cx (fieldV t (s.opd x) i) d r kill k s Q :=
  W_val rfl (by simp only [evK, fieldV]; split <;> simp)
def extV (x : AV) (i : Nat) : Option AV := match x with
  | .tup v => match v.field i with
    | some u => if u.safe then some u else none
    | none => none
  | _ => none
@[go_sem] theorem W_ext {d : Option Nat} {x : Opd} {i : Nat} {s : St} : W T cx (.ops (⟨d, .ext x i, none⟩ :: r) kill :: k) s Q = W1 T cx (extV (s.opd x) i) d r kill k s Q :=
  W_val rfl (by
    simp only [evK, extV]
    cases s.opd x <;> try rfl
    rename_i w
    simp only
    cases w.field i with
    | none => rfl
    | some u => by_cases hu : u.safe = true <;> simp [hu])
def convV (k : IntKind) (x : AV) : Option AV := match x with | .int _ n => some (.int k (k.wrap n)) | _ => none
@[go_sem] theorem convV_int (k k' : IntKind) (n : Int) : convV k (.int k' n) = some (.int k (k.wrap n)) := rfl
@[go_sem] theorem W_conv {d : Option Nat} {kk : IntKind} {x : Opd} {s : St} : W T cx (.ops (⟨d, .conv kk x, none⟩ :: r) kill :: k) s Q = W1 T cx (convV kk (s.opd x)) d r kill k s Q :=
  W_val rfl (by simp only [evK, convV]; cases s.opd x <;> rfl)
def lenV (str : Bool) (x : AV) : Option AV := match str, x with
  | true, .str b => some (.int .i64 b.size)
  | false, .nilsl => some (.int .i64 0)
  | false, .sl _ _ n => some (.int .i64 n)
  | false, .slz => some (.int .i64 0)
  | _, _ => none
@[go_sem] theorem lenV_str (b : ByteArray) : lenV true (.str b) = some (.int .i64 b.size) := rfl
@[go_sem] theorem lenV_nil : lenV false .nilsl = some (.int .i64 0) := rfl
@[go_sem] theorem lenV_slz : lenV false .slz = some (.int .i64 0) := rfl
@[go_sem] theorem lenV_sl (i : Id) (o n : Nat) : lenV false (.sl i o n) = some (.int .i64 n) := rfl
@[go_sem] theorem W_len {d : Option Nat} {b : Bool} {x : Opd} {s : St} : W T cx (.ops (⟨d, .len b x, none⟩ :: r) kill :: k) s Q = W1 T cx (lenV b (s.opd x)) d r kill k s Q :=
  W_val rfl (by simp only [evK, lenV]; cases b <;> cases s.opd x <;> rfl)
def minV (x y : AV) : Option AV := match x, y with
  | .int k a, .int k' b => if k = k' then some (.int k (if b < a then b else a)) else none
  | _, _ => none
@[go_sem] theorem W_min {d : Option Nat} {x y : Opd} {s : St} : W T cx (.ops (⟨d, .min x y, none⟩ :: r) kill :: k) s Q = W1 T cx (minV (s.opd x) (s.opd y)) d r kill k s Q :=
  W_val rfl (by simp only [evK, minV]; cases s.opd x <;> try rfl
                cases s.opd y <;> try rfl
                simp only; split <;> rfl)

/-! Stores. -/
/-- What lies behind a pointer turns. -/
def HP.wr (h : HP) (i : Id) (p : List Nat) (v : AV) : HP := match h.look i with
  | some b => match b.val.put p v with
    | some u => h.set i ⟨b.ty, u⟩
    | none => h
  | none => h
def stV (cx : Cx) (t : Ty) (x v : AV) (s : St) : Option St := match x with
  | .ptr i p t' => if t = t' ∧ t.fits v = true then match s.look cx i with
      | some b => match b.val.put p v with
        | some u => s.write cx i ⟨b.ty, u⟩
        | none => none
      | none => none
    else none
  | _ => none
@[go_sem] theorem W_store {t : Ty} {x v : Opd} {s : St} : W T cx (.ops (⟨none, .store t [] x v, none⟩ :: r) kill :: k) s Q = W2 T cx (stV cx t (s.opd x) (s.opd v) s) r kill k Q := by
  rw [W_op rfl, evOp]
  simp only [evK, List.all_nil, and_true]
  cases s.opd x <;> simp only [stV] <;> try rfl
  rename_i i p t'
  by_cases hc : t = t' ∧ t.fits (s.opd v) = true
  · rw [if_pos hc, if_pos hc]
    cases s.look cx i with
    | none => rfl
    | some b =>
      simp only
      cases b.val.put p (s.opd v) with
      | none => rfl
      | some u =>
        simp only [applyEff]
        cases s.write cx i ⟨b.ty, u⟩ <;> rfl
  · rw [if_neg hc, if_neg hc]; rfl
@[go_sem] theorem W_storea {t : Ty} {a : Nat} {ap : List Nat} {x v : Opd} {s : St} : W T cx (.ops (⟨none, .store t (a :: ap) x v, none⟩ :: r) kill :: k) s Q =
    (apAll s (s.opd x) (a :: ap) ∧ W2 T cx (stV cx t (s.opd x) (s.opd v) s) r kill k Q) := by
  rw [W_op rfl, evOp, apAll_iff]
  simp only [evK]
  cases hx : s.opd x <;> simp only [apartV, stV, W2, onO, and_false] <;> try rfl
  rename_i i p t'
  by_cases ha : ((a :: ap).all fun u => (s.opd (.s u)).apart i) = true
  · have ha' : ∀ u ∈ a :: ap, (Slots.get s.sl u).apart i = true := by simpa [List.all_eq_true, St.opd] using ha
    simp only [ha, and_true]
    rw [eq_true ha', true_and]
    by_cases hc : t = t' ∧ t.fits (s.opd v) = true
    · rw [if_pos hc, if_pos hc]
      cases s.look cx i with
      | none => rfl
      | some b =>
        simp only
        cases b.val.put p (s.opd v) with
        | none => rfl
        | some u =>
          simp only [applyEff]
          cases s.write cx i ⟨b.ty, u⟩ <;> rfl
    · rw [if_neg hc, if_neg hc]
  · have ha' : ¬∀ u ∈ a :: ap, (Slots.get s.sl u).apart i = true := by simpa [List.all_eq_true, St.opd] using ha
    rw [eq_false ha', false_and]
    simp only [ha, Bool.false_eq_true, and_false, if_false]

/-- A store into an own block. -/
def ownW (own : Own) (d : Nat) (p : List Nat) (v : AV) : Option Own := match own.get d with
  | some b => match b.val.put p v with
    | some u => some (own.set d ⟨b.ty, u⟩)
    | none => none
  | none => none
@[go_sem] theorem stV_own {t : Ty} {d : Nat} {p : List Nat} {v : AV} : stV cx t (.ptr (.stk cx.lvl d) p t) v ⟨sl, own, h⟩ = if t.fits v = true then (ownW own d p v).map fun o => ⟨sl, o, h⟩ else none := by
  simp only [stV, true_and, St.look, Id.own, if_true, St.write, ownW]
  split <;> try rfl
  cases own.get d with
  | none => rfl
  | some b =>
    simp only
    cases b.val.put p v <;> rfl
end
end Go.Mini
