/- A part of the proof: Swap1. -/
import Derived.Test.YtpkndgkaecamlaaSnd15
namespace Go.Mini
set_option linter.unusedSimpArgs false
set_option linter.unusedVariables false

/-! Operations that may be done in either order. -/

def MK.ops : MK → List Opd
  | .mov x => [x]
  | .pick c a b => [c, a, b]
  | .bin _ x y => [x, y]
  | .eq _ _ x y => [x, y]
  | .un _ x => [x]
  | .alloc .. => []
  | .box _ _ x => [x]
  | .build _ ps => ps.map (·.2)
  | .bslice _ _ _ ps => ps.map (·.2)
  | .load _ rt _ x => x :: rt.toList.map .s
  | .store _ ap x v => x :: v :: ap.map .s
  | .nilck x => [x]
  | .fld _ _ _ x => [x]
  | .idx _ _ x i => [x, i]
  | .sidx _ _ x i => [x, i]
  | .aidx _ _ x i => [x, i]
  | .stridx x i => [x, i]
  | .field _ x _ => [x]
  | .ext x _ => [x]
  | .conv _ x => [x]
  | .len _ x => [x]
  | .min x y => [x, y]
  | .append _ _ x y => [x, y]
  | .slice _ x lo hi => x :: (lo.toList ++ hi.toList)
  | .call _ _ _ args => args
  | .callv _ _ x args => x :: args
  | .mkfn _ caps => caps

/-- Does it ask of a block only what its shape is? -/
def MK.shape : MK → Bool
  | .sidx .. => true
  | .slice .. => true
  | _ => false

def MK.agree (k : MK) (a b : Option Blk) : Prop := if k.shape then a.map (·.ty) = b.map (·.ty) else a = b

theorem MK.agree_refl {k : MK} {a : Option Blk} : k.agree a a := by unfold MK.agree; split <;> rfl

section
variable {g g' : Opd → AV} {look look' : Id → Option Blk} {k : MK}

theorem into_ptr {i : Id} {p : List Nat} {t : Ty} : (AV.ptr i p t).into i = true := by simp [AV.into]
theorem into_sl {i : Id} {o n : Nat} : (AV.sl i o n).into i = true := by simp [AV.into]

theorem parts_congr {ps : List (Nat × Opd)} (hg : ∀ x ∈ ps.map (·.2), g x = g' x) : (ps.map fun p => (p.1, g p.2)) = ps.map fun p => (p.1, g' p.2) :=
  List.map_congr_left fun p hp => by rw [hg p.2 (List.mem_map.2 ⟨p, hp, rfl⟩)]

theorem elems_congr {t : Ty} {v : AV} (hl : ∀ i, v.into i = true → look i = look' i) : elems look t v = elems look' t v := by
  cases v <;> try rfl
  rename_i j off len
  simp only [elems, hl j into_sl]

theorem evAppend_congr {t : Ty} {v : AV} {add : List AV} (hl : ∀ i, v.into i = true → look i = look' i) : evAppend look t v add = evAppend look' t v add := by
  cases v <;> try rfl
  rename_i j off len
  simp only [evAppend, hl j into_sl]

theorem map_ty {a b : Option Blk} (h : a.map (·.ty) = b.map (·.ty)) {α : Type} {f : Ty → Option α} : (match a with | some ⟨t, _⟩ => f t | none => none) = (match b with | some ⟨t, _⟩ => f t | none => none) := by
  cases a with
  | none => cases b with
    | none => rfl
    | some b => simp at h
  | some a => cases b with
    | none => simp at h
    | some b => obtain ⟨t, v⟩ := a; obtain ⟨u, x⟩ := b; simp at h; subst h; rfl

theorem evK_congr (hg : ∀ x ∈ k.ops, g x = g' x) (hl : ∀ x ∈ k.ops, ∀ i, (g x).into i = true → k.agree (look i) (look' i)) : evK g look k = evK g' look' k := by
  cases k <;> simp only [MK.ops] at hg hl <;> simp only [evK]
  case build t ps => rw [parts_congr hg]
  case bslice e t n ps => rw [parts_congr hg]
  case mkfn f caps =>
    have h1 : (caps.all fun y => (g y).isLeaf) = caps.all fun y => (g' y).isLeaf := by
      rw [Bool.eq_iff_iff]
      simp only [List.all_eq_true]
      exact ⟨fun h x hx => by rw [← hg x hx]; exact h x hx, fun h x hx => by rw [hg x hx]; exact h x hx⟩
    have h2 : ∀ l : List Opd, (∀ x ∈ l, g x = g' x) → l.foldr (fun x acc => AV.cons (g x) acc) .unit = l.foldr (fun x acc => AV.cons (g' x) acc) .unit := by
      intro l
      induction l with
      | nil => intro _; rfl
      | cons x l ih =>
        intro h
        simp only [List.foldr]
        rw [ih fun y hy => h y (List.mem_cons_of_mem _ hy), h x (List.mem_cons_self ..)]
    rw [h1, h2 caps hg]
  case load ro rt t x =>
    have h1 : rooted g = rooted g' ∨ True := .inr trivial
    have hr : ∀ i, rooted g i rt = rooted g' i rt := by
      intro i
      cases rt with
      | none => rfl
      | some u => simp only [rooted]; rw [hg (.s u) (by simp)]
    have hx := hg x (by simp)
    have hlx := hl x (by simp)
    rw [← hx]
    cases hv : g x <;> simp only
    rename_i i p t'
    have := hlx i (by rw [hv]; exact into_ptr)
    simp only [MK.agree, MK.shape, Bool.false_eq_true, if_false] at this
    rw [hr, this]
  case store t ap x v =>
    have hx := hg x (by simp)
    have hv := hg v (by simp)
    have hlx := hl x (by simp)
    have ha : ∀ i, (ap.all fun u => (g (.s u)).apart i) = ap.all fun u => (g' (.s u)).apart i := by
      intro i
      rw [Bool.eq_iff_iff]
      simp only [List.all_eq_true]
      have h1 : ∀ u ∈ ap, g (.s u) = g' (.s u) := fun u hu => hg _ (by simp [hu])
      exact ⟨fun h x hx => by rw [← h1 x hx]; exact h x hx, fun h x hx => by rw [h1 x hx]; exact h x hx⟩
    rw [← hx, ← hv]
    cases hgx : g x <;> simp only
    rename_i i p t'
    have := hlx i (by rw [hgx]; exact into_ptr)
    simp only [MK.agree, MK.shape, Bool.false_eq_true, if_false] at this
    rw [ha, this]
  case sidx ro t x i =>
    have hx := hg x (by simp)
    have hi := hg i (by simp)
    have hlx := hl x (by simp)
    rw [← hx, ← hi]
    cases hgx : g x <;> try rfl
    rename_i j off len
    cases hgi : toIx (g i) <;> try rfl
    rename_i z
    simp only
    have := hlx j (by rw [hgx]; exact into_sl)
    simp only [MK.agree, MK.shape, if_true] at this
    split
    · cases h1 : look j with
      | none => rw [h1] at this; cases h2 : look' j with
        | none => rfl
        | some b => rw [h2] at this; simp at this
      | some a => rw [h1] at this; cases h2 : look' j with
        | none => rw [h2] at this; simp at this
        | some b => rw [h2] at this; obtain ⟨t1, v1⟩ := a; obtain ⟨t2, v2⟩ := b; simp at this; subst this; cases t1 <;> rfl
    · rfl
  case slice t x lo hi =>
    have hx := hg x (by simp)
    have hlx := hl x (by simp)
    have hlo : ∀ o, lo = some o → g o = g' o := fun o e => hg o (by simp [e])
    have hhi : ∀ o, hi = some o → g o = g' o := fun o e => hg o (by simp [e])
    have main : ∀ (a b : Option Int) (j : Id) (off len : Nat), g x = .sl j off len → (match a, b with
      | some a, some b => match look j with
        | some ⟨.arr n t', _⟩ => if t = t' ∧ 0 ≤ a ∧ a ≤ b ∧ b ≤ (len : Int) ∧ (off + a.toNat < n ∨ a = 0) then some (Eff.val (.sl j (off + a.toNat) (b - a).toNat)) else
            if t = t' ∧ 0 ≤ a ∧ a ≤ b ∧ b ≤ (len : Int) then some (.val .slz) else none
        | _ => none
      | _, _ => none) = (match a, b with
      | some a, some b => match look' j with
        | some ⟨.arr n t', _⟩ => if t = t' ∧ 0 ≤ a ∧ a ≤ b ∧ b ≤ (len : Int) ∧ (off + a.toNat < n ∨ a = 0) then some (Eff.val (.sl j (off + a.toNat) (b - a).toNat)) else
            if t = t' ∧ 0 ≤ a ∧ a ≤ b ∧ b ≤ (len : Int) then some (.val .slz) else none
        | _ => none
      | _, _ => none) := by
      intro a b j off len hgx
      have := hlx j (by rw [hgx]; exact into_sl)
      simp only [MK.agree, MK.shape, if_true] at this
      cases a <;> cases b <;> try rfl
      simp only
      cases h1 : look j with
      | none => rw [h1] at this; cases h2 : look' j with
        | none => rfl
        | some b => rw [h2] at this; simp at this
      | some a => rw [h1] at this; cases h2 : look' j with
        | none => rw [h2] at this; simp at this
        | some b => rw [h2] at this; obtain ⟨t1, v1⟩ := a; obtain ⟨t2, v2⟩ := b; simp at this; subst this; cases t1 <;> rfl
    rw [← hx]
    cases hgx : g x <;> try rfl
    · cases lo <;> cases hi <;> dsimp only <;> (try rw [← hlo _ rfl]) <;> (try rw [← hhi _ rfl])
    · rename_i j off len
      have := fun a b => main a b j off len hgx
      cases lo <;> cases hi <;> dsimp only <;> (try rw [← hlo _ rfl]) <;> (try rw [← hhi _ rfl]) <;> (first | exact this (some 0) (some (len : Int)) | exact this (some 0) _ | exact this _ (some (len : Int)) | exact this _ _)
  case append e t x y =>
    have hx := hg x (by simp)
    have hy := hg y (by simp)
    simp only [MK.agree, MK.shape, Bool.false_eq_true, if_false] at hl
    rw [← hx, ← hy, elems_congr (look' := look') (fun i hi => hl y (by simp) i hi)]
    split
    · rw [evAppend_congr (look' := look') (fun i hi => hl x (by simp) i hi)]
    · rfl
  all_goals (first | rfl | (simp only [List.mem_cons, List.mem_singleton, List.not_mem_nil, or_false, forall_eq_or_imp, forall_eq] at hg; simp only [hg]; done) | skip)

/-- A leaf that may lie in a block leads to no local one. -/
theorem safe_leads {v : AV} (h : v.safe = true) {l u : Nat} : v.leads (.stk l u) = false := by
  cases v <;> simp [AV.leads, AV.isAgg, AV.names, AV.safe] at h ⊢ <;> (rename_i i _ _; cases i <;> simp_all [AV.safe])

theorem evBin_leads {op : BinOp} {x y v : AV} {i : Id} (h : evBin op x y = some v) : v.leads i = false := by
  unfold evBin at h
  split at h
  · split at h
    · unfold evInt at h
      split at h <;> (try split at h) <;> simp at h <;> subst h <;> rfl
    · simp at h
  · unfold evStr at h
    split at h <;> (try split at h) <;> simp at h <;> subst h <;> rfl
  · simp at h

theorem evUn_leads {op : UnOp} {x v : AV} {i : Id} (h : evUn op x = some v) : v.leads i = false := by
  unfold evUn at h
  split at h <;> simp at h <;> subst h <;> rfl

theorem agg_leads {v : AV} {i : Id} (h : v.isAgg = true) : v.leads i = false := by simp [AV.leads, h]

theorem put_agg {v x w : AV} {j : Nat} (h : v.put [j] x = some w) : w.isAgg = true := by
  cases v with
  | cons a b =>
    cases j <;> simp only [AV.put, Option.map_eq_some_iff] at h
    · obtain ⟨y, _, rfl⟩ := h; rfl
    · obtain ⟨y, _, rfl⟩ := h; rfl
  | arr n f =>
    simp only [AV.put] at h
    split at h
    · simp only [Option.map_eq_some_iff] at h
      obtain ⟨y, _, rfl⟩ := h; rfl
    · simp at h
  | _ => simp [AV.put] at h

theorem fill_leads {t : Ty} {i : Id} : ∀ {l : List (Nat × AV)} {v w : AV}, fill t v l = some w → v.leads i = false → w.leads i = false
  | [], v, w, h, hv => by simp [fill] at h; subst h; exact hv
  | (j, x) :: l, v, w, h, hv => by
    simp only [fill] at h
    split at h
    · split at h
      · split at h
        · rename_i hp; exact fill_leads h (agg_leads (put_agg hp))
        · simp at h
      · simp at h
    · simp at h

theorem zero_leads {t : Ty} {i : Id} : t.zero.leads i = false := by
  cases t with
  | leaf k => cases k <;> rfl
  | _ => rfl

theorem safe_field : ∀ {v : AV} {i : Nat} {u : AV}, v.safe = true → v.field i = some u → u.safe = true := by
  intro v
  induction v with
  | cons a b iha ihb =>
    intro i u h hf
    simp only [AV.safe, Bool.and_eq_true] at h
    cases i with
    | zero => simp [AV.field] at hf; subst hf; exact h.1
    | succ i => exact ihb h.2 hf
  | _ => intro i u h hf; simp [AV.field] at hf

theorem caps_leads {g : Opd → AV} {i : Id} : ∀ {l : List Opd}, (∀ y ∈ l, (g y).isLeaf = true) → (∀ y ∈ l, (g y).leads i = false) → (l.foldr (fun x acc => AV.cons (g x) acc) .unit).names i = false
  | [], _, _ => rfl
  | y :: l, h1, h2 => by
    have hl := h1 y (List.mem_cons_self ..)
    have hn := h2 y (List.mem_cons_self ..)
    have ha : (g y).isAgg = false := by cases hg : g y <;> simp [hg, AV.isLeaf] at hl <;> rfl
    simp only [AV.leads, ha, Bool.not_false, Bool.true_and] at hn
    simp only [List.foldr, AV.names, hn, Bool.false_or]
    exact caps_leads (fun z hz => h1 z (List.mem_cons_of_mem _ hz)) fun z hz => h2 z (List.mem_cons_of_mem _ hz)

theorem val_inj {v : AV} {e : Eff} (he : e = .val v ∨ ∃ i b, e = .wr i b v) {u : AV} (h : Eff.val u = e) : u = v := by
  rcases he with rfl | ⟨i, b, rfl⟩
  · injection h
  · simp at h

/-- A value leads to a local block only where an operand does. -/
theorem evK_leads {e : Eff} {v : AV} {l u : Nat} (h : evK g look k = some e) (he : e = .val v ∨ ∃ i b, e = .wr i b v) (hn : ∀ x ∈ k.ops, (g x).leads (.stk l u) = false) : v.leads (.stk l u) = false := by
  cases k <;> simp only [MK.ops] at hn <;> simp only [evK] at h
  case mov x =>
    injection h with h; rw [← val_inj he h]; exact hn x (by simp)
  case pick c a b =>
    split at h <;> try (simp at h; done)
    · injection h with h; rw [← val_inj he h]; exact hn a (by simp)
    · injection h with h; rw [← val_inj he h]; exact hn b (by simp)
  case bin op x y =>
    simp only [Option.map_eq_some_iff] at h
    obtain ⟨w, hw, h⟩ := h
    rw [← val_inj he h]; exact evBin_leads hw
  case eq neg t x y =>
    split at h
    · simp only [Option.map_eq_some_iff] at h
      obtain ⟨w, hw, h⟩ := h
      rw [← val_inj he h]; rfl
    · simp at h
  case un op x =>
    simp only [Option.map_eq_some_iff] at h
    obtain ⟨w, hw, h⟩ := h
    rw [← val_inj he h]; exact evUn_leads hw
  case alloc e t => injection h with h; subst h; rcases he with he | ⟨_, _, he⟩ <;> simp at he
  case box e t x =>
    split at h
    · injection h with h; subst h; rcases he with he | ⟨_, _, he⟩ <;> simp at he
    · simp at h
  case build t ps =>
    simp only [Option.map_eq_some_iff] at h
    obtain ⟨w, hw, h⟩ := h
    rw [← val_inj he h]; exact fill_leads hw zero_leads
  case bslice e t n ps =>
    simp only [Option.map_eq_some_iff] at h
    obtain ⟨w, hw, h⟩ := h
    subst h; rcases he with he | ⟨_, _, he⟩ <;> simp at he
  case load ro rt t x =>
    split at h <;> try (simp at h; done)
    split at h <;> try (simp at h; done)
    split at h <;> try (simp at h; done)
    split at h <;> try (simp at h; done)
    rename_i hf
    injection h with h; rw [← val_inj he h]; exact safe_leads (Ty.fits_safe hf)
  case store t ap x w =>
    split at h <;> try (simp at h; done)
    split at h <;> try (simp at h; done)
    split at h <;> try (simp at h; done)
    split at h <;> try (simp at h; done)
    injection h with h
    subst h
    rcases he with he | ⟨_, _, he⟩
    · simp at he
    · simp at he; rw [← he.2.2]; rfl
  case nilck x =>
    split at h <;> try (simp at h; done)
    rename_i hx
    injection h with h; rw [← val_inj he h]
    have := hn x (by simp); rw [hx] at this; exact this
  case fld st i ft x =>
    split at h <;> try (simp at h; done)
    rename_i hx
    split at h <;> try (simp at h; done)
    injection h with h; rw [← val_inj he h]
    have := hn x (by simp); rw [hx] at this; exact this
  case idx n t x i =>
    split at h <;> try (simp at h; done)
    rename_i hx _
    split at h <;> try (simp at h; done)
    injection h with h; rw [← val_inj he h]
    have := hn x (by simp); rw [hx] at this; exact this
  case sidx ro t x i =>
    split at h <;> try (simp at h; done)
    rename_i hx _
    split at h <;> try (simp at h; done)
    split at h <;> try (simp at h; done)
    split at h <;> try (simp at h; done)
    injection h with h; rw [← val_inj he h]
    have := hn x (by simp); rw [hx] at this; exact this
  case aidx n t x i =>
    split at h <;> try (simp at h; done)
    split at h <;> try (simp at h; done)
    split at h <;> try (simp at h; done)
    rename_i hf
    injection h with h; rw [← val_inj he h]
    have := Ty.fits_safe hf
    simp only [AV.safe, List.all_eq_true] at this
    exact safe_leads (this _ (List.mem_finRange _))
  case stridx x i =>
    split at h <;> try (simp at h; done)
    split at h <;> try (simp at h; done)
    simp only [Option.map_eq_some_iff] at h
    obtain ⟨w, hw, h⟩ := h
    rw [← val_inj he h]; rfl
  case field t x i =>
    split at h <;> try (simp at h; done)
    rename_i hf
    simp only [Option.map_eq_some_iff] at h
    obtain ⟨w, hw, h⟩ := h
    rw [← val_inj he h]; exact safe_leads (safe_field (Ty.fits_safe hf) hw)
  case ext x i =>
    split at h <;> try (simp at h; done)
    split at h <;> try (simp at h; done)
    split at h <;> try (simp at h; done)
    rename_i hs
    injection h with h; rw [← val_inj he h]; exact safe_leads hs
  case conv k x =>
    split at h <;> try (simp at h; done)
    injection h with h; rw [← val_inj he h]; rfl
  case len str x =>
    split at h <;> try (simp at h; done)
    all_goals (injection h with h; rw [← val_inj he h]; rfl)
  case min x y =>
    split at h <;> try (simp at h; done)
    split at h <;> try (simp at h; done)
    injection h with h; rw [← val_inj he h]; rfl
  case append e t x y =>
    split at h <;> try (simp at h; done)
    unfold evAppend at h
    split at h <;> try (simp at h; done)
    · split at h
      · injection h with h; rw [← val_inj he h]; rfl
      · split at h
        · injection h with h; subst h; rcases he with he | ⟨_, _, he⟩ <;> simp at he
        · simp at h
    · rename_i j off len hx
      have hx := hn x (by simp)
      split at h <;> try (simp at h; done)
      split at h <;> try (simp at h; done)
      split at h <;> try (simp at h; done)
      split at h
      · split at h <;> try (simp at h; done)
        injection h with h
        subst h
        rcases he with he | ⟨_, _, he⟩
        · simp at he
        · simp at he; rw [← he.2.2]; simp_all [AV.leads, AV.names, AV.isAgg]
      · split at h <;> try (simp at h; done)
        split at h <;> try (simp at h; done)
        injection h with h; subst h; rcases he with he | ⟨_, _, he⟩ <;> simp at he
  case slice t x lo hi =>
    split at h <;> try (simp at h; done)
    · rename_i hx
      split at h <;> try (simp at h; done)
      split at h <;> try (simp at h; done)
      split at h
      · injection h with h; rw [← val_inj he h]
        have := hn x (by simp); rw [hx] at this; exact this
      · split at h <;> try (simp at h; done)
        injection h with h; rw [← val_inj he h]; rfl
    · split at h <;> try (simp at h; done)
      injection h with h; rw [← val_inj he h]; rfl
  case mkfn f caps =>
    split at h <;> try (simp at h; done)
    rename_i hc
    simp only [List.all_eq_true] at hc
    injection h with h; rw [← val_inj he h]
    simp only [AV.leads, AV.isAgg, Bool.not_false, Bool.true_and, AV.names]
    exact caps_leads hc hn
  all_goals simp at h

/-- Which block an effect turns. -/
def Eff.at : Eff → Option Id
  | .wr i _ _ => some i
  | .grow j _ _ => some j
  | _ => none

theorem evAppend_at {t : Ty} {v : AV} {add : List AV} {e : Eff} {i : Id} (h : evAppend look t v add = some e) (he : e.at = some i) : v.into i = true := by
  unfold evAppend at h
  split at h <;> try (simp at h; done)
  · split at h
    · injection h with h; subst h; simp [Eff.at] at he
    · split at h <;> try (simp at h; done)
      injection h with h; subst h; simp [Eff.at] at he
  · split at h <;> try (simp at h; done)
    split at h <;> try (simp at h; done)
    split at h <;> try (simp at h; done)
    split at h
    · split at h <;> try (simp at h; done)
      injection h with h; subst h; simp [Eff.at] at he; subst he; exact into_sl
    · split at h <;> try (simp at h; done)
      split at h <;> try (simp at h; done)
      injection h with h; subst h; simp [Eff.at] at he; subst he; exact into_sl

/-- Only these do more than to yield a value. -/
def MK.quiet : MK → Bool
  | .alloc .. => false
  | .box .. => false
  | .bslice .. => false
  | .store .. => false
  | .append .. => false
  | .call .. => false
  | .callv .. => false
  | _ => true

theorem evK_quiet {e : Eff} (h : evK g look k = some e) (hq : k.quiet = true) : ∃ v, e = .val v := by
  cases k <;> simp only [MK.quiet, Bool.false_eq_true] at hq <;> simp only [evK] at h
  all_goals (repeat' (split at h))
  all_goals (try simp only [Option.map_eq_some_iff] at h)
  all_goals (first | (simp at h; done) | (obtain ⟨_, _, h⟩ := h; exact ⟨_, h.symm⟩) | (injection h with h; exact ⟨_, h.symm⟩))

theorem evK_at {e : Eff} {i : Id} (h : evK g look k = some e) (he : e.at = some i) : ∃ x ∈ k.ops, (g x).into i = true := by
  by_cases hq : k.quiet = true
  · obtain ⟨v, rfl⟩ := evK_quiet h hq; simp [Eff.at] at he
  · cases k <;> simp only [MK.quiet, not_true_eq_false] at hq <;> simp only [evK] at h
    case alloc e t => injection h with h; subst h; simp [Eff.at] at he
    case box e t x =>
      split at h <;> try (simp at h; done)
      injection h with h; subst h; simp [Eff.at] at he
    case bslice e t n ps =>
      simp only [Option.map_eq_some_iff] at h
      obtain ⟨w, hw, h⟩ := h
      subst h; simp [Eff.at] at he
    case store t ap x w =>
      split at h <;> try (simp at h; done)
      rename_i hx
      split at h <;> try (simp at h; done)
      split at h <;> try (simp at h; done)
      split at h <;> try (simp at h; done)
      injection h with h
      subst h
      simp [Eff.at] at he
      subst he
      exact ⟨x, by simp [MK.ops], by rw [hx]; exact into_ptr⟩
    case append e t x y =>
      split at h <;> try (simp at h; done)
      exact ⟨x, by simp [MK.ops], evAppend_at h he⟩
    all_goals simp at h
end
end Go.Mini
