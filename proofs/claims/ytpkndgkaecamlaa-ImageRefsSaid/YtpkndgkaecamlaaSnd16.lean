/- A part of the proof: Snd16. -/
import Derived.Test.YtpkndgkaecamlaaSwap7
namespace Go.Mini
open Go.RowKit
set_option linter.unusedSimpArgs false
set_option linter.unusedVariables false

/-! Regions that draw their order. -/

def mask (B : List Nat) (o : Oper) : Nat := o.after.toList.foldr (fun e m => if Region.binds .any e then m ||| (2 ^ e.on ||| B.getD e.on 0) else m) 0

def masks : List Oper → List Nat → List Nat
  | [], B => B
  | o :: os, B => masks os (B ++ [mask B o])

def MOp.dummy : MOp := ⟨none, .mov (.c .bot), none⟩
def opAt (l : List MOp) (i : Nat) : MOp := (l[i]?).getD .dummy

def siteOk (B : List Nat) (l : List MOp) (i j : Nat) : Bool :=
  j == i || match (opAt l j).site with
    | some u => (opAt l i).site != some u && (!(opAt l i).k.isCall || has (opAt l i).k.hide u || (decide (j < i) && (B.getD i 0).testBit j))
    | none => true

def drawRow (B : List Nat) (n : Nat) (l : List MOp) (o : Oper) (i : Nat) : Bool :=
  B.getD i 0 == mask B o && o.after.toList.all (fun e => !Region.binds .any e || decide (e.on < i)) && (opAt l i).k.ops.all Opd.plain &&
  (List.range i).all (fun j => (B.getD i 0).testBit j || pairOk (opAt l j) (opAt l i)) && (List.range n).all (siteOk B l i)

def drawRows (B : List Nat) (n : Nat) (l : List MOp) : List Oper → Nat → Bool
  | [], _ => true
  | o :: os, i => drawRow B n l o i && drawRows B n l os (i + 1)

def drawOk (ops : Array Oper) (l : List MOp) : Bool := drawRows (masks ops.toList []) l.length l ops.toList 0

theorem drawRows_get {B : List Nat} {n : Nat} {l : List MOp} : ∀ {os : List Oper} {k : Nat}, drawRows B n l os k = true → ∀ i (h : i < os.length), drawRow B n l os[i] (k + i) = true
  | [], k, _, i, h => by simp at h
  | o :: os, k, hd, i, h => by
    simp only [drawRows, Bool.and_eq_true] at hd
    cases i with
    | zero => exact hd.1
    | succ i =>
      have := drawRows_get hd.2 i (by simpa using h)
      rw [show k + (i + 1) = k + 1 + i by omega]
      exact this

theorem mask_bit {B : List Nat} {o : Oper} {j : Nat} (h : (mask B o).testBit j = true) : ∃ e ∈ o.after, Region.binds .any e = true ∧ (e.on = j ∨ (B.getD e.on 0).testBit j = true) := by
  unfold mask at h
  have key : ∀ l : List Edge, (l.foldr (fun e m => if Region.binds .any e then m ||| (2 ^ e.on ||| B.getD e.on 0) else m) 0).testBit j = true → ∃ e ∈ l, Region.binds .any e = true ∧ (e.on = j ∨ (B.getD e.on 0).testBit j = true) := by
    intro l
    induction l with
    | nil => intro h; simp at h
    | cons e l ih =>
      intro h
      simp only [List.foldr] at h
      split at h
      · rename_i hb
        simp only [Nat.testBit_or, Bool.or_eq_true, Nat.testBit_two_pow, decide_eq_true_eq] at h
        rcases h with h | h
        · obtain ⟨e', he', h'⟩ := ih h
          exact ⟨e', List.mem_cons_of_mem _ he', h'⟩
        · exact ⟨e, List.mem_cons_self .., hb, h⟩
      · obtain ⟨e', he', h'⟩ := ih h
        exact ⟨e', List.mem_cons_of_mem _ he', h'⟩
  obtain ⟨e, he, h'⟩ := key _ h
  exact ⟨e, by simpa using he, h'⟩

section
variable {φ : Nat → Option FuncId} {β : Beta} {P : Program} {O : Nat → Prop} {w w' : World} {nt n : Nat} {cx : Cx} {s s' s1 sN : St} {a : Act} {T : Nat → Option MFun} {draw : Array Oper → List MOp → Bool} {l : List MOp}

/-- Behind a step there is such a world. -/
theorem step_exists {oper : Oper} {o : MOp} {ops : Array Oper} (hT : TblOk P T φ draw) (ih : ∀ m, m < n → CallSim P T φ draw m) (h : Rel φ β O nt cx s a w) (hs : Step T n cx o s s1) (hm : matchOp P φ nt ops oper o = true) :
    ∃ β' a' w', Rel φ β' O nt cx s1 a' w' := by
  have := step_sound (K := fun a' w' => ∃ β', Rel φ β' O nt cx s1 a' w') (Q := fun _ _ _ => False) hT ih h hs hm fun a' w' β' hr _ _ _ => ⟨β', hr⟩
  split at this
  · unfold Oper.wp at this
    generalize (execOp a.eval oper).run P w = r at this
    cases r with
    | ok nx w1 =>
      cases nx <;> simp only [Oper.upon] at this
      case value v => obtain ⟨β', h⟩ := this; exact ⟨β', _, _, h⟩
      case skip => obtain ⟨β', h⟩ := this; exact ⟨β', _, _, h⟩
      case defer d => obtain ⟨β', h⟩ := this; exact ⟨β', _, _, h⟩
      case enter f args =>
        obtain ⟨e, w2, fr, hR, _⟩ := this []
        cases e <;> simp only at hR
        · obtain ⟨β', h⟩ := hR; exact ⟨β', _, _, h⟩
        · obtain ⟨_, _, hR⟩ := hR; exact hR.elim
      case row rw args =>
        obtain ⟨v, w2, hR, _⟩ := this default []
        obtain ⟨β', h⟩ := hR; exact ⟨β', _, _, h⟩
    | halt x w1 => cases x <;> simp only [Oper.upon] at this
  · obtain ⟨β', h⟩ := this; exact ⟨β', _, _, h⟩

theorem Rel.lows (h : Rel φ β O nt cx s a w) : Lows cx s := by
  intro t i hi
  have hv := h.slots t
  cases hg : Slots.get s.sl t <;> rw [hg] at hi hv <;> simp [AV.into] at hi
  · subst hi
    obtain ⟨pl, o, hb, _⟩ := LR_ptr hv
    exact h.dom _ _ hb
  · subst hi
    obtain ⟨pl, m, t', cap, hb, _⟩ := LR_sl hv
    exact h.dom _ _ hb

/-- Steps that are left, in the text's order. -/
def Chain (T : Nat → Option MFun) (n : Nat) (cx : Cx) (l : List MOp) : List Nat → St → St → Prop
  | [], s, sN => s = sN
  | i :: r, s, sN => ∃ s1, Step T n cx (opAt l i) s s1 ∧ Chain T n cx l r s1 sN

theorem chain_range {tr : Nat → St} (h : ∀ i (hi : i < l.length), Step T n cx l[i] (tr i) (tr (i + 1))) : ∀ d k, k + d = l.length → Chain T n cx l (List.range' k d) (tr k) (tr l.length) := by
  intro d
  induction d with
  | zero => intro k hk; simp only [List.range'_zero, Chain]; congr
  | succ d ih =>
    intro k hk
    simp only [List.range'_succ, Chain]
    refine ⟨tr (k + 1), ?_, ih (k + 1) (by omega)⟩
    have : opAt l k = l[k]'(by omega) := by simp [opAt, List.getElem?_eq_getElem (show k < l.length by omega)]
    rw [this]
    exact h k (by omega)

/-- An operation that is free goes ahead. -/
theorem bubble {i : Nat} {post : List Nat} {ops : Array Oper} (hT : TblOk P T φ draw) (ih : ∀ m, m < n → CallSim P T φ draw m) : ∀ {pre : List Nat} {s : St}, (∃ β a w, Rel φ β O nt cx s a w) → Chain T n cx l (pre ++ i :: post) s sN →
    (∀ j ∈ pre, pairOk (opAt l j) (opAt l i) = true ∧ ∃ oper, matchOp P φ nt ops oper (opAt l j) = true) → (∀ j ∈ pre ++ [i], ∀ x ∈ (opAt l j).k.ops, x.plain = true) →
    (∀ j ∈ pre ++ [i], ∀ u, (opAt l j).site = some u → Fresh cx u s) →
    (pre ++ [i]).Pairwise (fun j k => ∀ u, (opAt l k).site = some u → (opAt l j).site ≠ some u ∧ ((opAt l j).k.isCall = true → has (opAt l j).k.hide u = true)) →
    ∃ s1, Step T n cx (opAt l i) s s1 ∧ Chain T n cx l (pre ++ post) s1 sN
  | [], s, _, hc, _, _, _, _ => hc
  | j :: pre, s, ⟨β, a, w, hR⟩, hc, hpr, hpl, hfr, hpw => by
    obtain ⟨t, hj, hc⟩ := hc
    obtain ⟨hok, oper, hm⟩ := hpr j (List.mem_cons_self ..)
    rw [List.cons_append, List.pairwise_cons] at hpw
    have hplj := hpl j (by simp)
    obtain ⟨t1, ht1, hc1⟩ := bubble hT ih (pre := pre) (step_exists hT ih hR hj hm) hc (fun k hk => hpr k (List.mem_cons_of_mem _ hk)) (fun k hk => hpl k (by rw [List.cons_append]; exact List.mem_cons_of_mem _ hk))
      (fun k hk u hu => Step_fresh hj (hfr k (by rw [List.cons_append]; exact List.mem_cons_of_mem _ hk) u hu) hplj (hpw.1 k hk u hu).1 (hpw.1 k hk u hu).2) hpw.2
    obtain ⟨s1, h1, h2⟩ := swap hj ht1 hok hR.lows hplj (hpl i (by simp)) (hfr j (by simp)) (hfr i (by simp))
    exact ⟨s1, h1, t1, h2, hc1⟩

theorem getD_false {L : Array Bool} {i : Nat} (h : i < L.size) : L.getD i true = L.getD i false := by simp [h]

theorem Rel_drawn (h : Rel φ β O nt cx s a w) : Rel φ β O nt cx s a { w with drawn := w.drawn + 1 } :=
  ⟨h.slots, ⟨fun i b hb => by
    obtain ⟨pl, cs, Ty, fr, hB⟩ := h.mem.live i b hb
    exact ⟨pl, cs, Ty, fr, hB.place, hB.ty, hB.fits, hB.heap, hB.room, hB.size, hB.cells, hB.own⟩, h.mem.apart⟩, h.dom, h.top, h.fresh, h.defers, h.size⟩

theorem drawSound (hT : TblOk P T φ drawOk) (hmo : P.follows .mixedOrders = true) : DrawSound P T φ drawOk := by
  intro n id ops l β0 O nt cx tr a0 w0 ih hdr hmat hst hR0 hhead
  obtain ⟨hlen, hget⟩ := matchOps_get hmat
  have hsz : ops.size = l.length := by simpa using hlen
  -- what was asked of the text
  let B := masks ops.toList []
  have hrow : ∀ i (h : i < l.length), drawRow B l.length l (ops[i]'(by omega)) i = true := by
    intro i h
    have := drawRows_get hdr i (by simpa using (show i < ops.size by omega))
    simpa using this
  have hat : ∀ i (h : i < l.length), opAt l i = l[i] := by
    intro i h
    simp [opAt, List.getElem?_eq_getElem h]
  have hmatch : ∀ i (h : i < l.length), matchOp P φ nt ops (ops[i]'(by omega)) (opAt l i) = true := by
    intro i h
    rw [hat i h]
    have := hget i h (by simpa using (show i < ops.size by omega))
    simpa using this
  have hacyc : ∀ i (h : i < l.length), ∀ e ∈ (ops[i]'(by omega)).after, Region.binds .any e = true → e.on < i := by
    intro i h e he hb
    have := hrow i h
    simp only [drawRow, Bool.and_eq_true, List.all_eq_true] at this
    have := this.1.1.1.2 e (by simpa using he)
    simpa [hb] using this
  have hmask : ∀ i (h : i < l.length), B.getD i 0 = mask B (ops[i]'(by omega)) := by
    intro i h
    have := hrow i h
    simp only [drawRow, Bool.and_eq_true, beq_iff_eq] at this
    exact this.1.1.1.1
  have hplain : ∀ i, i < l.length → ∀ x ∈ (opAt l i).k.ops, x.plain = true := by
    intro i h x hx
    have := hrow i h
    simp only [drawRow, Bool.and_eq_true, List.all_eq_true] at this
    exact this.1.1.2 x hx
  have hpair : ∀ i j, i < l.length → j < i → (B.getD i 0).testBit j = false → pairOk (opAt l j) (opAt l i) = true := by
    intro i j h hj hb
    have := hrow i h
    simp only [drawRow, Bool.and_eq_true, List.all_eq_true] at this
    have := this.1.2 j (by simpa using hj)
    rw [hb] at this
    simpa using this
  have hsite : ∀ i j, i < l.length → j < l.length → j ≠ i → ∀ u, (opAt l j).site = some u → (opAt l i).site ≠ some u ∧ ((opAt l i).k.isCall = true → has (opAt l i).k.hide u = true ∨ (j < i ∧ (B.getD i 0).testBit j = true)) := by
    intro i j h hj hne u hu
    have := hrow i h
    simp only [drawRow, Bool.and_eq_true, List.all_eq_true] at this
    have := this.2 j (by simpa using hj)
    simp only [siteOk, hu, Bool.or_eq_true, beq_iff_eq, hne, false_or, Bool.and_eq_true, bne_iff_ne, Bool.not_eq_true', decide_eq_true_eq] at this
    refine ⟨this.1, fun hc => ?_⟩
    rcases this.2 with (h1 | h1) | h1
    · rw [hc] at h1; simp at h1
    · exact .inl h1
    · exact .inr h1
  -- what is behind is listed
  have hclos : ∀ (L : Array Bool), (∀ k (h : k < l.length), L.getD k false = true → ∀ e ∈ (ops[k]'(by omega)).after, Region.binds .any e = true → L.getD e.on false = true) →
      ∀ i (h : i < l.length), (∀ e ∈ (ops[i]'(by omega)).after, Region.binds .any e = true → L.getD e.on false = true) → ∀ j, (B.getD i 0).testBit j = true → L.getD j false = true := by
    intro L hdown i
    induction i using Nat.strongRecOn with
    | _ i ihi =>
      intro h hpre j hj
      rw [hmask i h] at hj
      obtain ⟨e, he, hb, hor⟩ := mask_bit hj
      have hlt := hacyc i h e he hb
      rcases hor with rfl | hor
      · exact hpre e he hb
      · exact ihi e.on hlt (by omega) (hdown e.on (by omega) (hpre e he hb)) j hor
  apply wp_region_any hmo
  have main : ∀ fuel (L : Array Bool) (rem : List Nat) (s : St) (a : Act) (w : World) (β : Beta), rem.length = fuel → L.size = l.length → Left φ O nt cx β0 (tr 0).hp.next w0 s β a w → Chain T n cx l rem s (tr l.length) →
      (∀ i, i ∈ rem ↔ i < l.length ∧ L.getD i true = false) → rem.Pairwise (· < ·) → (∀ i ∈ rem, ∀ u, (opAt l i).site = some u → Fresh cx u s) →
      (∀ k (h : k < l.length), L.getD k false = true → ∀ e ∈ (ops[k]'(by omega)).after, Region.binds .any e = true → L.getD e.on false = true) →
      wpAny P .any ops (RegPost φ O nt cx β0 (tr 0).hp.next w0 (tr l.length)) fuel L a w := by
    intro fuel
    induction fuel with
    | zero =>
      intro L rem s a w β hfu hLs hL hC hrem hsort hfr hdown
      have : rem = [] := List.eq_nil_of_length_eq_zero hfu
      subst this
      simp only [Chain] at hC
      subst hC
      refine ⟨?_, β, hL⟩
      refine List.eq_nil_iff_forall_not_mem.2 fun j hj => ?_
      obtain ⟨h1, o, ho, _⟩ := mem_ready.1 hj
      have hj' : j < l.length := by rw [← hsz]; exact (Array.getElem?_eq_some_iff.1 ho).1
      have := (hrem j).2 ⟨hj', h1⟩
      simp at this
    | succ fuel ihf =>
      intro L rem s a w β hfu hLs hL hC hrem hsort hfr hdown
      refine ⟨fun hnil => ?_, fun i hi => ?_⟩
      · exfalso
        cases rem with
        | nil => simp at hfu
        | cons i0 r =>
          have hi0 := (hrem i0).1 (List.mem_cons_self ..)
          have : i0 ∈ Region.ready .any ops L := by
            refine mem_ready.2 ⟨hi0.2, ops[i0]'(by omega), Array.getElem?_eq_getElem _, fun e he hb => ?_⟩
            have hlt := hacyc i0 hi0.1 e he hb
            cases hg : L.getD e.on true with
            | true => rw [← getD_false (by omega)]; exact hg
            | false =>
              have := (hrem e.on).2 ⟨by omega, hg⟩
              rcases List.mem_cons.1 this with h | h
              · omega
              · have := (List.pairwise_cons.1 hsort).1 e.on h
                omega
          rw [hnil] at this
          simp at this
      · obtain ⟨h1, o, ho, hpre⟩ := mem_ready.1 hi
        have hil : i < l.length := by rw [← hsz]; exact (Array.getElem?_eq_some_iff.1 ho).1
        have hio : o = ops[i]'(by omega) := (Array.getElem?_eq_some_iff.1 ho).2.symm
        subst hio
        have hmem := (hrem i).2 ⟨hil, h1⟩
        obtain ⟨pre, post, rfl⟩ := List.append_of_mem hmem
        have hpw := List.pairwise_append.1 hsort
        have hprelt : ∀ j ∈ pre, j < i := fun j hj => hpw.2.2 j hj i (List.mem_cons_self ..)
        have hprel : ∀ j ∈ pre ++ [i], j < l.length := by
          intro j hj
          rcases List.mem_append.1 hj with h | h
          · exact ((hrem j).1 (List.mem_append_left _ h)).1
          · simp at h; subst h; exact hil
        have hunl : ∀ j ∈ pre ++ i :: post, L.getD j false = false := by
          intro j hj
          have := (hrem j).1 hj
          rw [← getD_false (by omega)]; exact this.2
        have hbit : ∀ j ∈ pre ++ i :: post, (B.getD i 0).testBit j = false := by
          intro j hj
          cases hb : (B.getD i 0).testBit j with
          | false => rfl
          | true =>
            have := hclos L hdown i hil hpre j hb
            rw [hunl j hj] at this
            simp at this
        obtain ⟨s1, hs1, hC1⟩ := bubble (φ := φ) (O := O) (nt := nt) (ops := ops) hT ih (pre := pre) (post := post) (i := i) ⟨β, a, w, hL.rel⟩ hC
          (fun j hj => ⟨hpair i j hil (hprelt j hj) (hbit j (List.mem_append_left _ hj)), _, hmatch j (hprel j (List.mem_append_left _ hj))⟩)
          (fun j hj => hplain j (hprel j hj))
          (fun j hj => hfr j (by
            rcases List.mem_append.1 hj with h | h
            · exact List.mem_append_left _ h
            · simp at h; subst h; exact List.mem_append_right _ (List.mem_cons_self ..)))
          (by
            have hsrt : (pre ++ [i]).Pairwise (· < ·) := by
              refine List.pairwise_append.2 ⟨hpw.1, by simp, fun j hj k hk => ?_⟩
              simp at hk; subst hk; exact hprelt j hj
            refine hsrt.imp_of_mem fun {j k} hj hk hlt u hu => ?_
            obtain ⟨h1, h2⟩ := hsite j k (hprel j hj) (hprel k hk) (by omega) u hu
            refine ⟨h1, fun hc => ?_⟩
            rcases h2 hc with h | h
            · exact h
            · omega)
        have hstep := step_sound (K := wpAny P .any ops (RegPost φ O nt cx β0 (tr 0).hp.next w0 (tr l.length)) fuel (L.setIfInBounds i true)) (Q := RegPost φ O nt cx β0 (tr 0).hp.next w0 (tr l.length)) (ops := ops) hT ih hL.rel hs1 (hmatch i hil)
          fun a' w' β' hr hsame hext hn => by
            have hset : ∀ j, j < l.length → (L.setIfInBounds i true).getD j true = if j = i then true else L.getD j true := by
              intro j hj
              by_cases e : j = i
              · subst e; simp [hLs, hj]
              · rw [if_neg e]; exact getD_set_ne true (Ne.symm e)
            refine ihf (L.setIfInBounds i true) (pre ++ post) s1 a' w' β' (by simp at hfu ⊢; omega) (by simpa using hLs) (hL.step hr hsame hext hn) hC1 (fun j => ?_) (hsort.sublist ?_) (fun k hk u hu => ?_) (fun k hk hkl e he hb => ?_)
            · constructor
              · intro hj
                have hj' : j ∈ pre ++ i :: post := by
                  rcases List.mem_append.1 hj with h | h
                  · exact List.mem_append_left _ h
                  · exact List.mem_append_right _ (List.mem_cons_of_mem _ h)
                have hjl := (hrem j).1 hj'
                have hne : j ≠ i := by
                  rcases List.mem_append.1 hj with h | h
                  · have := hprelt j h; omega
                  · have := (List.pairwise_cons.1 hpw.2.1).1 j h; omega
                rw [hset j hjl.1, if_neg hne]
                exact hjl
              · rintro ⟨hjl, hj⟩
                rw [hset j hjl] at hj
                by_cases e : j = i
                · rw [if_pos e] at hj; simp at hj
                · rw [if_neg e] at hj
                  have := (hrem j).2 ⟨hjl, hj⟩
                  rcases List.mem_append.1 this with h | h
                  · exact List.mem_append_left _ h
                  · rcases List.mem_cons.1 h with h | h
                    · exact absurd h e
                    · exact List.mem_append_right _ h
            · exact List.Sublist.append (List.Sublist.refl _) (List.sublist_cons_self ..)
            · have hk' : k ∈ pre ++ i :: post := by
                rcases List.mem_append.1 hk with h | h
                · exact List.mem_append_left _ h
                · exact List.mem_append_right _ (List.mem_cons_of_mem _ h)
              have hkl := ((hrem k).1 hk').1
              have hne : k ≠ i := by
                rcases List.mem_append.1 hk with h | h
                · have := hprelt k h; omega
                · have := (List.pairwise_cons.1 hpw.2.1).1 k h; omega
              obtain ⟨h1, h2⟩ := hsite i k hil hkl hne u hu
              refine Step_fresh hs1 (hfr k hk' u hu) (hplain i hil) h1 fun hc => ?_
              rcases h2 hc with h | ⟨_, h⟩
              · exact h
              · rw [hbit k hk'] at h; simp at h
            · by_cases e' : k = i
              · subst e'; exact getD_set_true (hpre e he hb)
              · rw [getD_set_ne false (Ne.symm e')] at hkl
                exact getD_set_true (hdown k hk hkl e he hb)
        unfold wpOp
        rw [ho]
        simp only
        split
        · rename_i hw; rw [if_pos (by simpa using hw)] at hstep; exact .inl (by simpa using hstep)
        · rename_i hw; rw [if_neg (by simpa using hw)] at hstep; simpa using hstep
  have hsz' : ops.size = (List.range' 0 l.length).length := by simp [hsz]
  have hR1 := Rel_drawn hR0
  refine main ops.size (Array.replicate ops.size false) (List.range' 0 l.length) (tr 0) a0 _ β0 (by simp [hsz]) (by simp [hsz]) ⟨hR1, ⟨rfl, rfl, rfl, Nat.le_refl _, fun _ _ _ => rfl⟩, .refl, Nat.le_refl _⟩ (chain_range hst l.length 0 (by omega)) (fun i => ?_) (List.pairwise_lt_range' ..) (fun i hi u hu => ?_) (fun k hk hkl => ?_)
  · simp only [List.mem_range'_1, Nat.zero_le, Nat.zero_add, true_and]
    constructor
    · intro h; exact ⟨h, by simp [hsz, h]⟩
    · exact fun h => h.1
  · simp only [List.mem_range'_1, Nat.zero_le, Nat.zero_add, true_and] at hi
    rw [hat i hi] at hu
    simp only [drawHead, List.all_eq_true] at hhead
    have := hhead _ (List.getElem_mem hi)
    rw [hu] at this
    simp only [Bool.and_eq_true, Option.isNone_iff_eq_none, List.all_eq_true, Bool.not_eq_true'] at this
    exact ⟨this.1, this.2⟩
  · rw [← getD_false (by simp [hsz, hk])] at hkl
    simp [hsz, hk] at hkl
end
end Go.Mini
