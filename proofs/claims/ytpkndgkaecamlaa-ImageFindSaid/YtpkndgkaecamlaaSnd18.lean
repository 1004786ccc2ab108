/- A part of the proof: Snd18. -/
import Derived.Test.YtpkndgkaecamlaaSnd17
namespace Go.Mini

/-- The closed check of a table against a program. -/
def allOk (P : Program) (φ : Nat → Option FuncId) : List (Option MFun) → Nat → Bool
  | [], _ => true
  | none :: r, i => allOk P φ r (i + 1)
  | some fn :: r, i => (match φ i with | some F => matchFn P φ drawOk F fn | none => true) && allOk P φ r (i + 1)

theorem allOk_get {P : Program} {φ : Nat → Option FuncId} : ∀ {l : List (Option MFun)} {k : Nat}, allOk P φ l k = true → ∀ i fn F, l.getD i none = some fn → φ (k + i) = some F → matchFn P φ drawOk F fn = true
  | [], k, _, i, fn, F, h, _ => by simp at h
  | none :: r, k, ha, i, fn, F, h, hF => by
    cases i with
    | zero => simp at h
    | succ i => exact allOk_get (l := r) (k := k + 1) ha i fn F (by simpa using h) (by rw [← hF]; congr 1; omega)
  | some g :: r, k, ha, i, fn, F, h, hF => by
    simp only [allOk, Bool.and_eq_true] at ha
    cases i with
    | zero =>
      simp at h
      subst h
      have h1 := ha.1
      rw [show k = k + 0 by rfl, hF] at h1
      exact h1
    | succ i => exact allOk_get (l := r) (k := k + 1) ha.2 i fn F (by simpa using h) (by rw [← hF]; congr 1; omega)

theorem tblOk_of {P : Program} {φ : Nat → Option FuncId} {l : List (Option MFun)} {T : Nat → Option MFun} (hT : ∀ f, T f = l.getD f none) (h : allOk P φ l 0 = true) : TblOk P T φ drawOk :=
  fun f fn F h1 h2 => allOk_get h f fn F (by rw [← hT]; exact h1) (by simpa using h2)
end Go.Mini
