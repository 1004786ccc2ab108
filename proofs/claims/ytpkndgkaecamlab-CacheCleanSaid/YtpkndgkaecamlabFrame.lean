/- A part of the proof: Frame. -/
import Derived.Test.YtpkndgkaecamlabSnd10
namespace Go.Mini
set_option linter.unusedSimpArgs false
set_option linter.unusedVariables false

/-! What a callee leaves as it was. -/

def Held (cx : Cx) (nx : Nat) : Id → Prop
  | .arg _ => True
  | .stk l _ => l < cx.prot.lvl ∧ cx.prot.lvl ≤ cx.lvl
  | .obj n => n < cx.prot.obj ∧ cx.prot.obj ≤ nx

section
variable {cx cx' : Cx} {s s' s1 : St} {T : Nat → Option MFun}

theorem Held.mono {n m : Nat} {i : Id} (h : Held cx n i) (hm : n ≤ m) : Held cx m i := by
  cases i <;> simp_all [Held]; omega

def Same (i : Id) (h h' : HP) : Prop := h'.look i = h.look i ∧ h.next ≤ h'.next

theorem fresh_frame {i : Id} {esc : Bool} {d : Nat} {b : Blk} (hi : Held cx s.hp.next i) : Same i s.hp (s.fresh cx esc d b).2.hp := by
  unfold St.fresh
  cases esc with
  | false => exact ⟨rfl, Nat.le_refl _⟩
  | true =>
    refine ⟨?_, Nat.le_succ _⟩
    cases i with
    | obj n => simp only [Held] at hi; simp only [HP.look, if_true]; rw [if_neg (by omega)]
    | _ => rfl

theorem write_frame {i j : Id} {b : Blk} (hi : Held cx s.hp.next i) (h : s.write cx j b = some s') : Same i s.hp s'.hp := by
  unfold St.write at h
  cases ho : j.own cx.lvl with
  | some t => simp [ho] at h; subst h; exact ⟨rfl, Nat.le_refl _⟩
  | none =>
    simp only [ho] at h
    split at h
    · rename_i hl
      simp at h
      subst h
      cases j with
      | arg n => exact ⟨rfl, Nat.le_refl _⟩
      | obj n =>
        refine ⟨?_, Nat.le_refl _⟩
        cases i with
        | obj m => simp only [Held] at hi; simp [Prot.lets] at hl; simp only [HP.look, HP.set]; rw [if_neg (by omega)]
        | _ => rfl
      | stk l t =>
        refine ⟨?_, Nat.le_refl _⟩
        cases i with
        | stk l' t' => simp only [Held] at hi; simp [Prot.lets] at hl; simp only [HP.look, HP.set]; rw [if_neg (by omega)]
        | _ => rfl
    · simp at h

theorem drop_frame {i j : Id} (hi : Held cx s.hp.next i) (h : s.drop cx j = some s') : Same i s.hp s'.hp := by
  unfold St.drop at h
  cases ho : j.own cx.lvl with
  | some t => simp [ho] at h; subst h; exact ⟨rfl, Nat.le_refl _⟩
  | none =>
    simp only [ho] at h
    cases j with
    | arg n => simp at h
    | stk l t => simp at h
    | obj n =>
      simp only at h
      split at h
      · rename_i hl
        simp at h
        subst h
        refine ⟨?_, Nat.le_refl _⟩
        cases i with
        | obj m => simp only [Held] at hi; simp [Prot.lets] at hl; simp only [HP.look]; rw [if_neg (by omega)]
        | _ => rfl
      · simp at h

theorem Same.trans {i : Id} {a b c : HP} (h : Same i a b) (k : Same i b c) : Same i a c := ⟨k.1.trans h.1, Nat.le_trans h.2 k.2⟩

theorem eff_frame {i : Id} {d : Option Nat} {esc : Bool} {e : Eff} {v : AV} (hi : Held cx s.hp.next i) (h : applyEff cx d esc s e = some (v, s')) : Same i s.hp s'.hp := by
  cases e with
  | val u => simp [applyEff] at h; obtain ⟨_, rfl⟩ := h; exact ⟨rfl, Nat.le_refl _⟩
  | new sl b =>
    cases d with
    | none => simp [applyEff] at h
    | some t => simp [applyEff] at h; obtain ⟨_, rfl⟩ := h; exact fresh_frame hi
  | wr j b u =>
    simp only [applyEff, Option.map_eq_some_iff] at h
    obtain ⟨s1, hw, heq⟩ := h
    simp at heq
    obtain ⟨_, rfl⟩ := heq
    exact write_frame hi hw
  | grow j b n =>
    cases d with
    | none => simp [applyEff] at h
    | some t =>
      simp only [applyEff, Option.map_eq_some_iff] at h
      obtain ⟨s1, hdr, heq⟩ := h
      simp at heq
      obtain ⟨_, rfl⟩ := heq
      have h1 := drop_frame hi hdr
      exact h1.trans (fresh_frame (hi.mono h1.2))

theorem setd_hp {d : Option Nat} {v : AV} : (s.setd d v).hp = s.hp := by cases d <;> rfl

theorem enterCmd_shape {prot : Bool} {hide : List Nat} {f : Nat} {args caps : List AV} {d : Option Nat} {todo : List Item} :
    enterCmd T cx prot hide f args caps d todo s = .fail ∨ ∃ fn l, T f = some fn ∧ l = args ++ caps ∧ enterCmd T cx prot hide f args caps d todo s = .call (s.callCx cx prot) hide fn (St.enter l (s.hp.push cx.lvl (s.own.veil hide))) d todo s := by
  unfold enterCmd
  cases hT : T f with
  | none => exact .inl rfl
  | some fn =>
    simp only
    split
    · exact .inr ⟨fn, _, rfl, rfl, rfl⟩
    · exact .inl rfl

/-- What an operation may come to. -/
theorem opCmd_cases (cx : Cx) (d : Option Nat) (k : MK) (todo : List Item) (s : St) :
    opCmd T cx d k todo s = .fail ∨ (∃ v s', evOp cx d k s = some (v, s') ∧ opCmd T cx d k todo s = .go todo (s'.setd d v)) ∨
    (∃ prot hide fn l, opCmd T cx d k todo s = .call (s.callCx cx prot) hide fn (St.enter l (s.hp.push cx.lvl (s.own.veil hide))) d todo s) := by
  cases k
  case call prot hide f args =>
    simp only [opCmd]
    rcases enterCmd_shape (T := T) (cx := cx) (s := s) (prot := prot) (hide := hide) (f := f) (args := args.map s.opd) (caps := []) (d := d) (todo := todo) with h | ⟨fn, l, _, _, h⟩
    · exact .inl h
    · exact .inr (.inr ⟨prot, hide, fn, l, h⟩)
  case callv prot hide x args =>
    simp only [opCmd]
    split
    · rename_i f cap hx
      rcases enterCmd_shape (T := T) (cx := cx) (s := s) (prot := prot) (hide := hide) (f := f) (args := args.map s.opd) (caps := capList cap) (d := d) (todo := todo) with h | ⟨fn, l, _, _, h⟩
      · exact .inl h
      · exact .inr (.inr ⟨prot, hide, fn, l, h⟩)
    · exact .inl rfl
  all_goals
    simp only [opCmd]
    split
    · rename_i v s' he; exact .inr (.inl ⟨v, s', he, rfl⟩)
    · exact .inl rfl

theorem evOp_frame {i : Id} {d : Option Nat} {k : MK} {v : AV} (hi : Held cx s.hp.next i) (h : evOp cx d k s = some (v, s')) : Same i s.hp s'.hp := by
  unfold evOp at h
  split at h
  · exact eff_frame hi h
  · simp at h

theorem next_frame {i : Id} {k : List Item} (hi : Held cx s.hp.next i) :
    (next T cx k s = .fail) ∨ (∃ s1, next T cx k s = .done s1 ∧ s1.hp = s.hp) ∨ (∃ k1 s1, next T cx k s = .go k1 s1 ∧ Same i s.hp s1.hp) ∨
    (∃ prot hide fn l d k1, next T cx k s = .call (s.callCx cx prot) hide fn (St.enter l (s.hp.push cx.lvl (s.own.veil hide))) d k1 s) := by
  have rf : Same i s.hp s.hp := ⟨rfl, Nat.le_refl _⟩
  cases k with
  | nil => exact .inr (.inl ⟨_, rfl, rfl⟩)
  | cons it k =>
    cases it with
    | inBlock j => exact .inr (.inr (.inl ⟨_, _, rfl, rf⟩))
    | inLoop keep ko b => exact .inr (.inr (.inl ⟨_, _, rfl, rf⟩))
    | ops l kill =>
      cases l with
      | nil => exact .inr (.inr (.inl ⟨_, _, rfl, rf⟩))
      | cons o r =>
        simp only [next]
        cases hw : s.wanted o.g with
        | none => exact .inl rfl
        | some b =>
          cases b with
          | false => exact .inr (.inr (.inl ⟨_, _, rfl, by rw [setd_hp]; exact rf⟩))
          | true =>
            simp only
            rcases opCmd_cases (T := T) cx o.d o.k (.ops r kill :: k) s with h | ⟨v, s', he, h⟩ | ⟨prot, hide, fn, l, h⟩
            · exact .inl h
            · exact .inr (.inr (.inl ⟨_, _, h, by rw [setd_hp]; exact evOp_frame hi he⟩))
            · exact .inr (.inr (.inr ⟨_, _, _, _, _, _, h⟩))
    | code c =>
      cases c with
      | skip => exact .inr (.inr (.inl ⟨_, _, rfl, rf⟩))
      | reg dr ops kill =>
        simp only [next]
        split
        · exact .inl rfl
        · exact .inr (.inr (.inl ⟨_, _, rfl, rf⟩))
      | seq a b => exact .inr (.inr (.inl ⟨_, _, rfl, rf⟩))
      | cond c t e =>
        simp only [next]
        split
        · exact .inr (.inr (.inl ⟨_, _, rfl, rf⟩))
        · exact .inl rfl
      | block id b => exact .inr (.inr (.inl ⟨_, _, rfl, rf⟩))
      | loop keep ko b => exact .inr (.inr (.inl ⟨_, _, rfl, rf⟩))
      | exit id =>
        simp only [next]
        split
        · exact .inr (.inr (.inl ⟨_, _, rfl, rf⟩))
        · exact .inl rfl
      | ret => exact .inr (.inl ⟨_, rfl, rfl⟩)

theorem callCx_held {i : Id} {prot : Bool} (hi : Held cx s.hp.next i) : Held (s.callCx cx prot) s.hp.next i := by
  cases prot <;> cases i <;> simp_all [Held, St.callCx] <;> omega

theorem push_held {i : Id} {o : Own} (hi : Held cx s.hp.next i) : (s.hp.push cx.lvl o).look i = s.hp.look i := by
  cases i with
  | stk l t =>
    simp only [Held] at hi
    simp only [HP.look, HP.push]
    rw [if_neg (by omega)]
  | _ => rfl

theorem pop_held {i : Id} {h h' : HP} {n : Nat} (hi : Held cx n i) (hs : h'.look i = h.look i) : (h.pop h' cx.lvl).look i = h.look i := by
  cases i with
  | stk l t =>
    simp only [Held] at hi
    simp only [HP.look, HP.pop]
    rw [if_neg (by omega)]
    exact hs
  | _ => exact hs

theorem run_frame {n : Nat} : ∀ {cx : Cx} {k : List Item} {s s' : St} {i : Id}, run T n cx k s = some s' → Held cx s.hp.next i → Same i s.hp s'.hp := by
  induction n with
  | zero => intro cx k s s' i h; simp [run] at h
  | succ n ih =>
    intro cx k s s' i h hi
    rw [run] at h
    rcases next_frame (T := T) (k := k) hi with h1 | ⟨s1, h1, he⟩ | ⟨k1, s1, h1, hs⟩ | ⟨prot, hide, fn, l, d, k1, h1⟩
    · simp [h1] at h
    · simp [h1] at h
      subst h
      rw [he]; exact ⟨rfl, Nat.le_refl _⟩
    · simp only [h1] at h
      exact hs.trans (ih h (hi.mono hs.2))
    · simp only [h1] at h
      cases hr : run T n (s.callCx cx prot) [.code fn.body] (St.enter l (s.hp.push cx.lvl (s.own.veil hide))) with
      | none => simp [hr] at h
      | some s2 =>
        simp only [hr] at h
        cases hb : back cx (s.callCx cx prot) hide fn d s s2 with
        | none => simp [hb] at h
        | some s3 =>
          simp only [hb] at h
          have hs2 := ih hr (i := i) (callCx_held hi)
          unfold back at hb
          simp only [Option.map_eq_some_iff] at hb
          obtain ⟨v, hv, rfl⟩ := hb
          have h3 : Same i s.hp ((s.pop cx.lvl hide s2.hp).setd d v).hp := by
            rw [setd_hp]
            refine ⟨pop_held hi ?_, hs2.2⟩
            rw [hs2.1]; exact push_held hi
          exact h3.trans (ih h (hi.mono h3.2))
end
end Go.Mini
