/- A part of the proof: MiniW. -/
import Derived.Test.YtpkndgkaecamlabMiniDefs
namespace Go.Mini
theorem run_mono {T : Nat → Option MFun} : ∀ {n : Nat} {cx : Cx} {k : List Item} {s r : St}, run T n cx k s = some r → run T (n + 1) cx k s = some r := by
  intro n
  induction n with
  | zero => intro cx k s r h; simp [run] at h
  | succ n ih =>
    intro cx k s r h
    rw [run] at h ⊢
    split at h
    · exact h
    · exact absurd h (by simp)
    · exact ih h
    · rename_i cx' hide fn e d k' s1 hn
      cases h1 : run T n cx' [.code fn.body] e with
      | none => rw [h1] at h; exact absurd h (by simp)
      | some s' =>
        rw [h1] at h
        rw [ih h1]
        dsimp only at h ⊢
        cases h2 : back cx cx' hide fn d s1 s' with
        | none => rw [h2] at h; exact absurd h (by simp)
        | some s2 => rw [h2] at h; exact ih h

theorem run_le {T : Nat → Option MFun} {n m : Nat} (hm : n ≤ m) {cx : Cx} {k : List Item} {s r : St} (h : run T n cx k s = some r) : run T m cx k s = some r := by
  obtain ⟨d, rfl⟩ := Nat.le.dest hm
  clear hm
  induction d with
  | zero => exact h
  | succ d ih => exact run_mono ih

/-- From here the machine comes to an end of which Q holds. -/
def W (T : Nat → Option MFun) (cx : Cx) (k : List Item) (s : St) (Q : St → Prop) : Prop := ∃ n s', run T n cx k s = some s' ∧ Q s'

theorem W_done {T : Nat → Option MFun} {cx : Cx} {k : List Item} {s s1 : St} {Q : St → Prop} (h : next T cx k s = .done s1) (hq : Q s1) : W T cx k s Q :=
  ⟨1, s1, by simp [run, h], hq⟩
theorem W_go {T : Nat → Option MFun} {cx : Cx} {k k1 : List Item} {s s1 : St} {Q : St → Prop} (h : next T cx k s = .go k1 s1) (hq : W T cx k1 s1 Q) : W T cx k s Q := by
  obtain ⟨n, s', hr, hq⟩ := hq
  exact ⟨n + 1, s', by simp [run, h, hr], hq⟩

/-- What a call comes to. -/
def Ok (T : Nat → Option MFun) (cx : Cx) (fn : MFun) (e : St) (R : AV → HP → Prop) : Prop := ∃ n s' v, run T n cx [.code fn.body] e = some s' ∧ results cx s' fn.res = some v ∧ R v s'.hp

theorem W_call {T : Nat → Option MFun} {cx cx' : Cx} {hide : List Nat} {k k1 : List Item} {s s1 e : St} {fn : MFun} {d : Option Nat} {Q : St → Prop} {R : AV → HP → Prop}
    (h : next T cx k s = .call cx' hide fn e d k1 s1) (hc : Ok T cx' fn e R) (hq : ∀ v h', R v h' → W T cx k1 ((s1.pop cx.lvl hide h').setd d v) Q) : W T cx k s Q := by
  obtain ⟨n, s', v, hr, hv, hR⟩ := hc
  obtain ⟨m, s2, hr2, hQ⟩ := hq v _ hR
  refine ⟨max n m + 1, s2, ?_, hQ⟩
  have h1 := run_le (Nat.le_max_left n m) hr
  have h2 := run_le (Nat.le_max_right n m) hr2
  simp only [run, h, h1, back, hv, Option.map]
  exact h2

theorem W_loop {T : Nat → Option MFun} {cx : Cx} {keep ko : List Nat} {b : MC} {k : List Item} {s : St} {Q : St → Prop} (N : Nat) (J : Nat → St → Prop) (h0 : J 0 (s.keep keep ko))
    (step : ∀ j s, j ≤ N → J j s → (∀ s', j < N → J (j + 1) (s'.keep keep ko) → W T cx (.inLoop keep ko b :: k) s' Q) → W T cx (.code b :: .inLoop keep ko b :: k) s Q) :
    W T cx (.code (.loop keep ko b) :: k) s Q := by
  have key : ∀ d j s, N - j = d → j ≤ N → J j s → W T cx (.code b :: .inLoop keep ko b :: k) s Q := by
    intro d
    induction d with
    | zero => intro j s hd hj hJ; exact step j s hj hJ fun s' hlt _ => by omega
    | succ d ih =>
      intro j s hd hj hJ
      exact step j s hj hJ fun s' hlt hJ' => W_go rfl (ih (j + 1) _ (by omega) (by omega) hJ')
  exact W_go rfl (key _ 0 _ rfl (Nat.zero_le _) h0)
end Go.Mini
