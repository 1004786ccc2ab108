/- A part of the proof: Snd10. -/
import Derived.Test.YtpkndgkaecamlabSnd9
namespace Go.Mini
open Go.RowKit
set_option linter.unusedSimpArgs false
set_option linter.unusedVariables false

/-! The text of a function: is it that? -/

def matchCall (φ : Nat → Option FuncId) (o : Op) (k : MK) : Bool :=
  match o, k with
  | .call ⟨.value (.func F), args, _⟩, .call _ _ f args' => φ f == some F && opdsOk φ args.toList args'
  | .call ⟨.value (.tmp t), args, _⟩, .callv _ _ x args' => opdOk φ (.tmp t) x && opdsOk φ args.toList args'
  | _, _ => false

def MK.isCall : MK → Bool
  | .call .. => true
  | .callv .. => true
  | _ => false

def guardOk (ops : Array Oper) (g : Option (Nat × Bool)) (h : Option (Nat × Bool)) : Bool :=
  match g, h with
  | none, none => true
  | some (j, b), some (t, c) => b == c && (match ops[j]? with | some o => o.dst == some t | none => false)
  | _, _ => false

def matchOp (P : Program) (φ : Nat → Option FuncId) (nt : Nat) (ops : Array Oper) (o : Oper) (m : MOp) : Bool :=
  o.dst == m.d && (match m.d with | some d => decide (d < nt) | none => true) && guardOk ops o.guard m.g && (if m.k.isCall then matchCall φ o.op m.k else matchK P φ o.op m.k)

def matchOps (P : Program) (φ : Nat → Option FuncId) (nt : Nat) (ops : Array Oper) : List Oper → List MOp → Bool
  | [], [] => true
  | o :: os, m :: ms => matchOp P φ nt ops o m && matchOps P φ nt ops os ms
  | _, _ => false

def matchC (P : Program) (φ : Nat → Option FuncId) (nt : Nat) (draw : Array Oper → List MOp → Bool) : Code → MC → Bool
  | .skip, .skip => true
  | .ret, .ret => true
  | .seq a b, .seq c d => matchC P φ nt draw a c && matchC P φ nt draw b d
  | .cond x a b, .cond y c d => opdOk φ x y && matchC P φ nt draw a c && matchC P φ nt draw b d
  | .block i a, .block j c => i == j && matchC P φ nt draw a c
  | .loop a, .loop _ _ c => matchC P φ nt draw a c
  | .exit i, .exit j => i == j
  | .region _ ops d, .reg e l _ => d == e && matchOps P φ nt ops ops.toList l && (!d || draw ops l)
  | _, _ => false

def matchRes (P : Program) : List ResultVar → List MRes → Bool
  | [], [] => true
  | .tmp t :: r, .tmp u :: m => t == u && matchRes P r m
  | .cell t T :: r, .cell u ty :: m => t == u && tyOk P ty (.inl T) && matchRes P r m
  | _, _ => false

def matchFn (P : Program) (φ : Nat → Option FuncId) (draw : Array Oper → List MOp → Bool) (F : FuncId) (fn : MFun) : Bool :=
  match P.funcs[F]? with
  | some f => (match f.body with
    | some c => matchC P φ f.ntmps draw c fn.body
    | none => false) && matchRes P f.results.toList fn.res && decide (fn.params + fn.nfree ≤ f.ntmps) && !(f.name == "runtime.NumGoroutine")
  | none => false

section
variable {φ : Nat → Option FuncId} {β : Beta} {P : Program} {O : Nat → Prop} {w w' : World} {look look' : Id → Option Blk} {nt : Nat} {cx : Cx} {s s' : St} {a : Act} {T : Nat → Option MFun}

/-- One operation, be it a call or none. -/
def Step (T : Nat → Option MFun) (n : Nat) (cx : Cx) (o : MOp) (s s1 : St) : Prop :=
  match s.wanted o.g with
  | none => False
  | some false => s1 = s.setd o.d .undef
  | some true => match opCmd T cx o.d o.k [] s with
    | .go _ s2 => s1 = s2
    | .call cx' hide fn e _ _ _ => ∃ m s2, m < n ∧ run T m cx' [.code fn.body] e = some s2 ∧ back cx cx' hide fn o.d s s2 = some s1
    | _ => False

theorem Step.mono {n n' : Nat} {o : MOp} {s s1 : St} (h : Step T n cx o s s1) (hn : n ≤ n') : Step T n' cx o s s1 := by
  unfold Step at h ⊢
  cases hw : s.wanted o.g with
  | none => simp [hw] at h
  | some b =>
    cases b with
    | false => simpa [hw] using h
    | true =>
      simp only [hw] at h ⊢
      cases hc : opCmd T cx o.d o.k [] s with
      | done s2 => simp [hc] at h
      | fail => simp [hc] at h
      | go k s2 => simpa [hc] using h
      | call cx' hide fn e d k s2 =>
        simp only [hc] at h ⊢
        obtain ⟨m, s2, hm, r⟩ := h
        exact ⟨m, s2, Nat.lt_of_lt_of_le hm hn, r⟩

theorem opCmd_shape {cx : Cx} {d : Option Nat} {k : MK} {todo : List Item} {s : St} :
    (∃ s2, opCmd T cx d k [] s = .go [] s2 ∧ opCmd T cx d k todo s = .go todo s2) ∨ (∃ cx' hide fn e, opCmd T cx d k [] s = .call cx' hide fn e d [] s ∧ opCmd T cx d k todo s = .call cx' hide fn e d todo s) ∨ opCmd T cx d k todo s = .fail := by
  cases k <;> simp only [opCmd] <;> (try simp only [enterCmd]) <;> (repeat' split) <;> simp

/-- The states on the way through a region. -/
theorem trace {n : Nat} {l : List MOp} {kill : List Nat} {k : List Item} : ∀ {s s' : St}, run T n cx (.ops l kill :: k) s = some s' →
    ∃ tr : Nat → St, tr 0 = s ∧ (∀ i (h : i < l.length), Step T n cx l[i] (tr i) (tr (i + 1))) ∧ ∃ m, m < n ∧ run T m cx k ((tr l.length).kill kill) = some s' := by
  induction l generalizing n with
  | nil =>
    intro s s' h
    cases n with
    | zero => simp [run] at h
    | succ n =>
      simp only [run, next] at h
      exact ⟨fun _ => s, rfl, fun i hi => by simp at hi, n, by omega, h⟩
  | cons o l ih =>
    intro s s' h
    cases n with
    | zero => simp [run] at h
    | succ n =>
      simp only [run, next] at h
      cases hw : s.wanted o.g with
      | none => simp [hw] at h
      | some b =>
        cases b with
        | false =>
          simp only [hw] at h
          obtain ⟨tr, h0, hs, m, hm, hr⟩ := ih h
          refine ⟨fun i => match i with | 0 => s | i + 1 => tr i, rfl, fun i hi => ?_, m, by omega, by simpa using hr⟩
          cases i with
          | zero => simp only [List.getElem_cons_zero, Step, hw]; exact h0
          | succ i =>
            exact (hs i (by simpa using hi)).mono (by omega)
        | true =>
          simp only [hw] at h
          have key : ∃ s1, Step T (n + 1) cx o s s1 ∧ ∃ n', n' ≤ n ∧ run T n' cx (.ops l kill :: k) s1 = some s' := by
            rcases opCmd_shape (T := T) (cx := cx) (d := o.d) (k := o.k) (todo := .ops l kill :: k) (s := s) with ⟨s2, h1, h2⟩ | ⟨cx', hide, fn, e, h1, h2⟩ | h2
            · simp only [h2] at h
              exact ⟨s2, by simp only [Step, hw, h1], n, Nat.le_refl _, h⟩
            · simp only [h2] at h
              cases hr : run T n cx' [.code fn.body] e with
              | none => simp [hr] at h
              | some s2 =>
                simp only [hr] at h
                cases hb : back cx cx' hide fn o.d s s2 with
                | none => simp [hb] at h
                | some s1 =>
                  simp only [hb] at h
                  exact ⟨s1, by simp only [Step, hw, h1]; exact ⟨n, s2, by omega, hr, hb⟩, n, Nat.le_refl _, h⟩
            · simp [h2] at h
          obtain ⟨s1, hst, n', hn', hrun⟩ := key
          obtain ⟨tr, h0, hs, m, hm, hr⟩ := ih hrun
          refine ⟨fun i => match i with | 0 => s | i + 1 => tr i, rfl, fun i hi => ?_, m, by omega, by simpa using hr⟩
          cases i with
          | zero => simp only [List.getElem_cons_zero]; rw [h0]; exact hst
          | succ i =>
            exact (hs i (by simpa using hi)).mono (by omega)
end
end Go.Mini
