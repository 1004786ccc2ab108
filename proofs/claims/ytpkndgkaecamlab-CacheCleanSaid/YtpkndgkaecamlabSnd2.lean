/- A part of the proof: Snd2. -/
import Derived.Test.YtpkndgkaecamlabSnd1
import Derived.WalkKit
import Derived.Laws.CopyRow
import Derived.Deep.MidRow
import Derived.Orders
namespace Go.Mini
open Go.RowKit

/-- Two lists, place by place. -/
def All2 {α β : Type} (R : α → β → Prop) (l : List α) (m : List β) : Prop := l.length = m.length ∧ ∀ (k : Nat) (a : α) (b : β), l[k]? = some a → m[k]? = some b → R a b

theorem All2.nil {α β : Type} {R : α → β → Prop} : All2 R [] [] := ⟨rfl, by simp⟩
theorem All2.cons {α β : Type} {R : α → β → Prop} {a : α} {b : β} {l : List α} {m : List β} (h : R a b) (t : All2 R l m) : All2 R (a :: l) (b :: m) :=
  ⟨by simp [t.1], fun k x y hx hy => by
    cases k with
    | zero => simp at hx hy; subst hx hy; exact h
    | succ k => exact t.2 k x y (by simpa using hx) (by simpa using hy)⟩
theorem All2.head {α β : Type} {R : α → β → Prop} {a : α} {b : β} {l : List α} {m : List β} (h : All2 R (a :: l) (b :: m)) : R a b := h.2 0 a b rfl rfl
theorem All2.tail {α β : Type} {R : α → β → Prop} {a : α} {b : β} {l : List α} {m : List β} (h : All2 R (a :: l) (b :: m)) : All2 R l m :=
  ⟨by simpa using h.1, fun k x y hx hy => h.2 (k + 1) x y (by simpa using hx) (by simpa using hy)⟩
theorem All2.append {α β : Type} {R : α → β → Prop} {l l' : List α} {m m' : List β} (h : All2 R l m) (h' : All2 R l' m') : All2 R (l ++ l') (m ++ m') := by
  obtain ⟨hl, h⟩ := h
  obtain ⟨hl', h'⟩ := h'
  refine ⟨by simp [hl, hl'], fun k x y hx hy => ?_⟩
  rcases Nat.lt_or_ge k l.length with hk | hk
  · rw [List.getElem?_append_left hk] at hx
    rw [List.getElem?_append_left (by omega)] at hy
    exact h k x y hx hy
  · rw [List.getElem?_append_right hk] at hx
    rw [List.getElem?_append_right (by omega)] at hy
    exact h' (k - l.length) x y hx (by rw [hl]; exact hy)
theorem All2.mono {α β : Type} {R R' : α → β → Prop} {l : List α} {m : List β} (h : All2 R l m) (f : ∀ a ∈ l, ∀ b, R a b → R' a b) : All2 R' l m :=
  ⟨h.1, fun k a b ha hb => f a (List.mem_of_getElem? ha) b (h.2 k a b ha hb)⟩
theorem All2.seg {α β : Type} {R : α → β → Prop} {l : List α} {m : List β} (h : All2 R l m) (o n : Nat) : All2 R ((l.drop o).take n) ((m.drop o).take n) := by
  refine ⟨by simp [h.1], fun k a b ha hb => ?_⟩
  simp only [List.getElem?_take, List.getElem?_drop] at ha hb
  split at ha
  · rename_i hk; rw [if_pos hk] at hb; exact h.2 _ a b ha hb
  · simp at ha

/-- Where a block of the small machine lies: the real block, the cell of its beginning, its shape, how many cells are there from its beginning on. -/
structure Place where
  r : Nat
  base : Nat
  ty : Ty
  room : Nat
abbrev Beta := Id → Option Place

/-- A leaf, and a list of captured values. -/
def AV.rel (φ : Nat → Option FuncId) (β : Beta) : AV → (Value → Prop) × (List Value → Prop)
  | .bot => (fun _ => True, fun _ => False)
  | .bool b => (fun x => x = .bool b, fun _ => False)
  | .int k n => (fun x => x = .int k n, fun _ => False)
  | .str s => (fun x => x = .string s, fun _ => False)
  | .nilp => (fun x => x = .pointer none, fun _ => False)
  | .ptr i p t => (fun x => ∃ pl o, β i = some pl ∧ pl.ty.find p = some (o, t) ∧ x = .pointer (some ⟨pl.r, pl.base + o, none⟩), fun _ => False)
  | .nilsl => (fun x => x = .slice none 0 0, fun _ => False)
  | .sl i off len => (fun x => ∃ pl n t cap, β i = some pl ∧ pl.ty = .arr n t ∧ off + len ≤ n ∧ n ≤ off + cap ∧ (off + cap) * t.size ≤ pl.room ∧ x = .slice (some ⟨pl.r, pl.base + off * t.size, none⟩) len cap, fun _ => False)
  | .slz => (fun x => ∃ a cap, x = .slice (some a) 0 cap, fun _ => False)
  | .nilf => (fun x => x = .nilFunc, fun _ => False)
  | .func f c => (fun x => ∃ F caps, φ f = some F ∧ (c.rel φ β).2 caps ∧ x = .func (.func F) #[] caps.toArray, fun _ => False)
  | .unit => (fun _ => False, fun l => l = [])
  | .cons a b => (fun _ => False, fun l => ∃ x xs, l = x :: xs ∧ (a.rel φ β).1 x ∧ (b.rel φ β).2 xs)
  | .arr _ _ => (fun _ => False, fun _ => False)
  | .tup _ => (fun _ => False, fun _ => False)

def LR (φ : Nat → Option FuncId) (β : Beta) (v : AV) (x : Value) : Prop := (v.rel φ β).1 x

/-- A value that is no tuple. -/
def VR1 (φ : Nat → Option FuncId) (β : Beta) (v : AV) (x : Value) : Prop :=
  if v.isAgg then v.safe = true ∧ ∃ cs : List Value, x = .agg cs.toArray ∧ All2 (LR φ β) v.flat cs else LR φ β v x

def TR (φ : Nat → Option FuncId) (β : Beta) : AV → List Value → Prop
  | .unit, [] => True
  | .cons a b, x :: xs => a.safe = true ∧ VR1 φ β a x ∧ TR φ β b xs
  | _, _ => False

def VR (φ : Nat → Option FuncId) (β : Beta) (v : AV) (x : Value) : Prop :=
  match v with
  | .tup w => ∃ xs : List Value, x = .tuple xs.toArray ∧ TR φ β w xs
  | v => VR1 φ β v x

theorem VR_of_VR1 {φ : Nat → Option FuncId} {β : Beta} {v : AV} {x : Value} (h : VR1 φ β v x) : VR φ β v x := by
  cases v <;> first | exact h | (simp [VR1, AV.isAgg, LR, AV.rel] at h)
theorem VR_undef {φ : Nat → Option FuncId} {β : Beta} : VR φ β .undef undef := ⟨[], rfl, trivial⟩
theorem VR_bot {φ : Nat → Option FuncId} {β : Beta} {x : Value} : VR φ β .bot x := by simp [VR, VR1, AV.isAgg, LR, AV.rel]

/-- Two maps of blocks agree where a value looks. -/
theorem rel_congr {φ : Nat → Option FuncId} {β β' : Beta} : ∀ {v : AV}, (∀ i pl, v.names i = true → β i = some pl → β' i = some pl) →
    (∀ x, (v.rel φ β).1 x → (v.rel φ β').1 x) ∧ (∀ l, (v.rel φ β).2 l → (v.rel φ β').2 l) := by
  intro v
  induction v with
  | ptr i p t =>
    intro h
    refine ⟨fun x hx => ?_, fun l hl => hl⟩
    obtain ⟨pl, o, hb, hf, rfl⟩ := hx
    exact ⟨pl, o, h i pl (by simp [AV.names]) hb, hf, rfl⟩
  | sl i off len =>
    intro h
    refine ⟨fun x hx => ?_, fun l hl => hl⟩
    obtain ⟨pl, n, t, cap, hb, r⟩ := hx
    exact ⟨pl, n, t, cap, h i pl (by simp [AV.names]) hb, r⟩
  | func f c ih =>
    intro h
    refine ⟨fun x hx => ?_, fun l hl => hl⟩
    obtain ⟨F, caps, hF, hc, rfl⟩ := hx
    exact ⟨F, caps, hF, (ih fun i pl hn hb => h i pl (by simpa [AV.names] using hn) hb).2 _ hc, rfl⟩
  | cons a b iha ihb =>
    intro h
    refine ⟨fun x hx => hx, fun l hl => ?_⟩
    obtain ⟨x, xs, rfl, ha, hb⟩ := hl
    exact ⟨x, xs, rfl, (iha fun i pl hn hb => h i pl (by simp [AV.names, hn]) hb).1 _ ha, (ihb fun i pl hn hb => h i pl (by simp [AV.names, hn]) hb).2 _ hb⟩
  | _ => intro h; exact ⟨fun x hx => hx, fun l hl => hl⟩

theorem LR_congr {φ : Nat → Option FuncId} {β β' : Beta} {v : AV} {x : Value} (h : ∀ i pl, v.names i = true → β i = some pl → β' i = some pl) (hx : LR φ β v x) : LR φ β' v x := (rel_congr h).1 x hx

def Id.isStk : Id → Bool
  | .stk .. => true
  | _ => false

theorem safe_names {v : AV} (h : v.safe = true) (ha : v.isAgg = false) {i : Id} (hn : v.names i = true) : i.isStk = false := by
  cases v with
  | ptr j p t => simp [AV.names] at hn; subst hn; cases i <;> simp_all [AV.safe, Id.isStk]
  | sl j o l => simp [AV.names] at hn; subst hn; cases i <;> simp_all [AV.safe, Id.isStk]
  | _ => simp_all [AV.names, AV.safe, AV.isAgg]

theorem safe_flat : ∀ {v : AV}, v.safe = true → ∀ c ∈ v.flat, c.safe = true ∧ c.isAgg = false := by
  intro v
  induction v with
  | cons a b iha ihb =>
    intro h c hc
    simp [AV.safe] at h
    simp only [AV.flat, List.mem_append] at hc
    exact hc.elim (iha h.1 c) (ihb h.2 c)
  | arr n f ih =>
    intro h c hc
    simp only [AV.safe, List.all_eq_true] at h
    simp only [AV.flat, List.mem_flatMap] at hc
    obtain ⟨i, hi, hc⟩ := hc
    exact ih i (h i hi) c hc
  | _ => intro h c hc; simp_all [AV.flat, AV.isAgg]

theorem LR_safe {φ : Nat → Option FuncId} {β β' : Beta} {v : AV} {x : Value} (hs : v.safe = true) (ha : v.isAgg = false) (h : ∀ i pl, i.isStk = false → β i = some pl → β' i = some pl) (hx : LR φ β v x) : LR φ β' v x :=
  LR_congr (fun i pl hn hb => h i pl (safe_names hs ha hn) hb) hx

theorem VR1_safe {φ : Nat → Option FuncId} {β β' : Beta} {v : AV} {x : Value} (hs : v.safe = true) (h : ∀ i pl, i.isStk = false → β i = some pl → β' i = some pl) (hx : VR1 φ β v x) : VR1 φ β' v x := by
  unfold VR1 at *
  split
  · rename_i ha
    rw [if_pos ha] at hx
    obtain ⟨_, cs, rfl, hc⟩ := hx
    exact ⟨hs, cs, rfl, hc.mono fun a hm b hab => LR_safe (safe_flat hs a hm).1 (safe_flat hs a hm).2 h hab⟩
  · rename_i ha
    rw [if_neg ha] at hx
    exact LR_safe hs (by simpa using ha) h hx

theorem TR_safe {φ : Nat → Option FuncId} {β β' : Beta} (h : ∀ i pl, i.isStk = false → β i = some pl → β' i = some pl) : ∀ {v : AV} {xs : List Value}, TR φ β v xs → TR φ β' v xs := by
  intro v
  induction v with
  | cons a b _ ihb =>
    intro xs hx
    cases xs with
    | nil => exact hx
    | cons x xs => exact ⟨hx.1, VR1_safe hx.1 h hx.2.1, ihb hx.2.2⟩
  | unit => intro xs hx; cases xs <;> exact hx
  | _ => intro xs hx; exact hx.elim

/-- A slot's value that does not lead to the blocks that turn. -/
theorem VR_congr {φ : Nat → Option FuncId} {β β' : Beta} {v : AV} {x : Value} (h : ∀ i pl, (v.leads i = true ∨ i.isStk = false) → β i = some pl → β' i = some pl) (hx : VR φ β v x) : VR φ β' v x := by
  have key : ∀ {v : AV}, (∀ i pl, (v.leads i = true ∨ i.isStk = false) → β i = some pl → β' i = some pl) → VR1 φ β v x → VR1 φ β' v x := by
    intro v h hx
    unfold VR1 at *
    split
    · rename_i ha
      rw [if_pos ha] at hx
      obtain ⟨hs, cs, rfl, hc⟩ := hx
      exact ⟨hs, cs, rfl, hc.mono fun a hm b hab => LR_safe (safe_flat hs a hm).1 (safe_flat hs a hm).2 (fun i pl hi hb => h i pl (.inr hi) hb) hab⟩
    · rename_i ha
      rw [if_neg ha] at hx
      exact LR_congr (fun i pl hn hb => h i pl (.inl (by simp [AV.leads, ha, hn])) hb) hx
  cases v with
  | tup w =>
    obtain ⟨xs, rfl, hx⟩ := hx
    exact ⟨xs, rfl, TR_safe (fun i pl hi hb => h i pl (.inr hi) hb) hx⟩
  | _ => exact key h hx

theorem VR_mono {φ : Nat → Option FuncId} {β β' : Beta} {v : AV} {x : Value} (h : ∀ i pl, β i = some pl → β' i = some pl) (hx : VR φ β v x) : VR φ β' v x :=
  VR_congr (fun i pl _ hb => h i pl hb) hx


/-- A block lies where it is said to lie. -/
structure BR (φ : Nat → Option FuncId) (β : Beta) (O : Nat → Prop) (i : Id) (b : Blk) (w : World) (pl : Place) (cs : Array Value) (T : TypeId) (fr : Nat × Nat) : Prop where
  place : β i = some pl
  ty : pl.ty = b.ty
  fits : b.ty.fits b.val = true
  heap : w.heap[pl.r]? = some (.cells cs T fr)
  room : pl.base + pl.room ≤ cs.size
  size : b.ty.size ≤ pl.room
  cells : ∀ k c, b.val.flat[k]? = some c → ∃ x, cs[pl.base + k]? = some x ∧ LR φ β c x
  own : i.isArg = false → fr = (0, 0) ∧ O pl.r

/-- The memory. -/
structure HR (φ : Nat → Option FuncId) (β : Beta) (O : Nat → Prop) (look : Id → Option Blk) (w : World) : Prop where
  live : ∀ i b, look i = some b → ∃ pl cs T fr, BR φ β O i b w pl cs T fr
  apart : ∀ i j bi bj pi pj, look i = some bi → look j = some bj → β i = some pi → β j = some pj → i ≠ j → pi.r = pj.r → i.isArg = true ∧ j.isArg = true

/-- The slots. -/
def SR (φ : Nat → Option FuncId) (β : Beta) (sl : Slots) (tmps : Array Value) : Prop := ∀ t, VR φ β (Slots.get sl t) (tmps.getD t undef)

/-! Slots. -/
theorem Slots.get_set {s : Slots} {t u : Nat} {v : AV} : Slots.get (Slots.set s t v) u = if t = u then v else Slots.get s u := by
  induction s with
  | nil => simp [Slots.set, Slots.get]
  | cons p s ih =>
    obtain ⟨a, x⟩ := p
    simp only [Slots.set]
    by_cases h1 : a = t
    · subst h1
      simp only [if_true, Slots.get]
      by_cases h2 : a = u <;> simp [h2]
    · rw [if_neg h1]
      by_cases h2 : t < a
      · rw [if_pos h2]; simp only [Slots.get]
      · rw [if_neg h2]
        simp only [Slots.get, ih]
        by_cases h3 : a = u
        · subst h3; simp [Ne.symm h1]
        · simp [h3]

theorem Slots.get_forget {s : Slots} {i : Id} {t : Nat} : Slots.get (Slots.forget s i) t = if (Slots.get s t).leads i then .bot else Slots.get s t := by
  induction s with
  | nil => simp [Slots.forget, Slots.get, AV.leads, AV.names]
  | cons p s ih =>
    obtain ⟨a, x⟩ := p
    simp only [Slots.forget, Slots.get]
    by_cases h2 : a = t
    · simp [h2]
    · simp [h2, ih]
theorem Slots.get_without {s : Slots} {l : List Nat} {t : Nat} : Slots.get (Slots.without s l) t = if has l t then .bot else Slots.get s t := by
  induction s with
  | nil => simp [Slots.without, Slots.get]
  | cons p s ih =>
    obtain ⟨a, x⟩ := p
    simp only [Slots.without]
    by_cases h1 : has l a = true
    · rw [if_pos h1, ih]
      simp only [Slots.get]
      by_cases h2 : a = t
      · subst h2; simp [h1]
      · simp [h2]
    · rw [if_neg h1]
      simp only [Slots.get, ih]
      by_cases h2 : a = t
      · subst h2; simp [h1]
      · simp [h2]
theorem Slots.get_only {s : Slots} {l : List Nat} {t : Nat} : Slots.get (Slots.only s l) t = if has l t then Slots.get s t else .bot := by
  induction s with
  | nil => simp [Slots.only, Slots.get]
  | cons p s ih =>
    obtain ⟨a, x⟩ := p
    simp only [Slots.only]
    by_cases h1 : has l a = true
    · rw [if_pos h1]
      simp only [Slots.get, ih]
      by_cases h2 : a = t
      · subst h2; simp [h1]
      · simp [h2]
    · rw [if_neg h1, ih]
      simp only [Slots.get]
      by_cases h2 : a = t
      · subst h2; simp [h1]
      · simp [h2]
theorem Own.get_only {s : Own} {l : List Nat} {t : Nat} : Own.get (Own.only s l) t = if has l t then Own.get s t else none := by
  induction s with
  | nil => simp [Own.only, Own.get]
  | cons p s ih =>
    obtain ⟨a, x⟩ := p
    simp only [Own.only]
    by_cases h1 : has l a = true
    · rw [if_pos h1]
      simp only [Own.get, ih]
      by_cases h2 : a = t
      · subst h2; simp [h1]
      · simp [h2]
    · rw [if_neg h1, ih]
      simp only [Own.get]
      by_cases h2 : a = t
      · subst h2; simp [h1]
      · simp [h2]
theorem Own.get_rid {s : Own} {u t : Nat} : Own.get (Own.rid s u) t = if u = t then none else Own.get s t := by
  induction s with
  | nil => simp [Own.rid, Own.get]
  | cons p s ih =>
    obtain ⟨a, x⟩ := p
    simp only [Own.rid]
    by_cases h1 : a = u
    · subst h1
      rw [if_pos rfl, ih]
      simp only [Own.get]
      by_cases h2 : a = t <;> simp [h2]
    · rw [if_neg h1]
      simp only [Own.get, ih]
      by_cases h2 : a = t
      · subst h2; simp [Ne.symm h1]
      · simp [h2]
theorem Own.get_set {s : Own} {t u : Nat} {v : Blk} : Own.get (Own.set s t v) u = if t = u then some v else Own.get s u := by
  induction s with
  | nil => simp [Own.set, Own.get]
  | cons p s ih =>
    obtain ⟨a, x⟩ := p
    simp only [Own.set]
    by_cases h1 : a = t
    · subst h1
      simp only [if_true, Own.get]
      by_cases h2 : a = u <;> simp [h2]
    · rw [if_neg h1]
      by_cases h2 : t < a
      · rw [if_pos h2]; simp only [Own.get]
      · rw [if_neg h2]
        simp only [Own.get, ih]
        by_cases h3 : a = u
        · subst h3; simp [Ne.symm h1]
        · simp [h3]

theorem Own.get_without {s : Own} {l : List Nat} {t : Nat} : Own.get (Own.without s l) t = if has l t then none else Own.get s t := by
  induction s with
  | nil => simp [Own.without, Own.get]
  | cons p s ih =>
    obtain ⟨u, v⟩ := p
    simp only [Own.without]
    split
    · rename_i h
      rw [ih]
      simp only [Own.get]
      by_cases hu : u = t
      · subst hu; simp [h]
      · simp [hu]
    · rename_i h
      simp only [Own.get]
      by_cases hu : u = t
      · subst hu; simp [h]
      · simp [hu, ih]
theorem Own.get_veil {s : Own} {l : List Nat} {t : Nat} : Own.get (Own.veil s l) t = if has l t then none else Own.get s t := by
  cases l with
  | nil => simp [Own.veil, has]
  | cons a l => simp only [Own.veil]; rw [Own.get_without]
theorem Own.get_foldr {l m : Own} {t : Nat} : Own.get (l.foldr (fun p acc => Own.set acc p.1 p.2) m) t = match Own.get l t with | some b => some b | none => Own.get m t := by
  induction l with
  | nil => simp [Own.get]
  | cons p l ih =>
    obtain ⟨u, v⟩ := p
    simp only [List.foldr, Own.get, Own.get_set]
    by_cases hu : u = t
    · subst hu; simp
    · simp [hu, ih]
theorem Own.get_unveil {s m : Own} {l : List Nat} {t : Nat} : Own.get (Own.unveil s m l) t = if has l t then Own.get s t else Own.get m t := by
  cases l with
  | nil => simp [Own.unveil, has]
  | cons a l =>
    simp only [Own.unveil]
    rw [Own.get_foldr, Own.get_only, Own.get_without]
    by_cases h : has (a :: l) t = true
    · simp [h]; cases Own.get s t <;> rfl
    · simp [h]
end Go.Mini
