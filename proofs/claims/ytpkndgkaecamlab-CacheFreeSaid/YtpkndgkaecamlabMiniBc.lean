/- A part of the proof: MiniBc. -/
import Derived.Test.YtpkndgkaecamlabMiniZ
import Derived.Test.YtpkndgkaecamlabMiniFnC
namespace Go.Mini
set_option linter.unusedSimpArgs false
set_option linter.unusedVariables false

/-! A table that has more functions. -/
theorem enterCmd_ext {T T' : Nat → Option MFun} (hT : ∀ i fn, T i = some fn → T' i = some fn) {cx : Cx} {prot : Bool} {hide : List Nat} {f : Nat} {args caps : List AV} {d : Option Nat} {todo : List Item} {s : St} :
    enterCmd T cx prot hide f args caps d todo s = .fail ∨ enterCmd T' cx prot hide f args caps d todo s = enterCmd T cx prot hide f args caps d todo s := by
  unfold enterCmd
  cases h : T f with
  | none => exact .inl rfl
  | some fn => rw [hT f fn h]; exact .inr rfl
theorem opCmd_ext {T T' : Nat → Option MFun} (hT : ∀ i fn, T i = some fn → T' i = some fn) {cx : Cx} {d : Option Nat} {o : MK} {k : List Item} {s : St} : opCmd T cx d o k s = .fail ∨ opCmd T' cx d o k s = opCmd T cx d o k s := by
  cases o <;> try exact .inr rfl
  · exact enterCmd_ext hT
  · simp only [opCmd]
    split
    · exact enterCmd_ext hT
    · exact .inl rfl
theorem next_ext {T T' : Nat → Option MFun} (hT : ∀ i fn, T i = some fn → T' i = some fn) {cx : Cx} {k : List Item} {s : St} : next T cx k s = .fail ∨ next T' cx k s = next T cx k s := by
  unfold next
  split <;> try exact .inr rfl
  split
  · exact .inr rfl
  · exact .inr rfl
  · exact opCmd_ext hT
theorem run_ext {T T' : Nat → Option MFun} (hT : ∀ i fn, T i = some fn → T' i = some fn) : ∀ {n : Nat} {cx : Cx} {k : List Item} {s r : St}, run T n cx k s = some r → run T' n cx k s = some r := by
  intro n
  induction n with
  | zero => intro cx k s r h; simp [run] at h
  | succ n ih =>
    intro cx k s r h
    rw [run] at h ⊢
    rcases next_ext hT (cx := cx) (k := k) (s := s) with hf | he
    · rw [hf] at h; exact absurd h (by simp)
    · rw [he]
      split at h
      · exact h
      · exact absurd h (by simp)
      · exact ih h
      · rename_i cx' hide fn e d k' s1 hn
        cases h1 : run T n cx' [.code fn.body] e with
        | none => rw [h1] at h; exact absurd h (by simp)
        | some s' =>
          rw [h1] at h
          rw [ih h1]
          dsimp only at h ⊢
          cases h2 : back cx cx' hide fn d s1 s' with
          | none => rw [h2] at h; exact absurd h (by simp)
          | some s2 => rw [h2] at h; exact ih h
def tblBL : List (Option MFun) := tblL ++ List.replicate 9 none ++ tblNL
def tblB (f : Nat) : Option MFun := tblBL.getD f none
theorem tbl_B (i : Nat) (fn : MFun) (h : tbl i = some fn) : tblB i = some fn := by
  unfold tbl at h
  have hl : i < tblL.length := by
    rcases Nat.lt_or_ge i tblL.length with h' | h'
    · exact h'
    · rw [List.getD_eq_getElem?_getD, List.getElem?_eq_none h'] at h; simp at h
  unfold tblB tblBL
  rw [List.getD_eq_getElem?_getD] at h ⊢
  rw [List.append_assoc, List.getElem?_append_left hl]
  exact h
theorem up {cx : Cx} {fn : MFun} {e : St} {R : AV → HP → Prop} (h : Ok tbl cx fn e R) : Ok tblB cx fn e R := by
  obtain ⟨n, s', v, hr, hv, hR⟩ := h
  exact ⟨n, s', v, run_ext tbl_B hr, hv, hR⟩
end Go.Mini
