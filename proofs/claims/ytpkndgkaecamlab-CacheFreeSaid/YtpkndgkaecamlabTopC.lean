/- A part of the proof: TopC. -/
import Derived.Test.YtpkndgkaecamlabTopA
namespace Go.Mini
open Go.RowKit Go.ChangeShapes
set_option linter.unusedVariables false
/-- A law that holds over Mini, whatever it leaves behind. -/
theorem runFn_ofT {T : Nat → Option MFun} {f : Nat} {fn : MFun} {args : List AV} (hf : T f = some fn) (h : Ok T ⟨0, ⟨0, 0⟩⟩ fn (St.enter args HP.empty) fun v _ => v = .bool true) : ∃ n hp, runFn T n f args HP.empty = some (.bool true, hp) := by
  obtain ⟨n, s', v, hr, hv, rfl⟩ := h
  exact ⟨n, s'.hp, by simp only [runFn, hf, hr, hv]; rfl⟩
theorem law_callsT {P : Program} {T : Nat → Option MFun} {φ : Nat → Option FuncId} {F f : Nat} {fn : MFun} (hT : TblOk P T φ drawOk) (hmo : P.follows .mixedOrders = true) (hf : T f = some fn) (hF : φ f = some F) (hfree : fn.nfree = 0)
    {args : Array Value} {avs : List AV} (ha : All2 (VR φ (fun _ => none)) avs args.toList) (hlen : avs.length = fn.params) (h : Ok T ⟨0, ⟨0, 0⟩⟩ fn (St.enter avs HP.empty) fun v _ => v = .bool true) (W : World) :
    Calls P F args W fun e W' => e = .returned (.bool true) ∧ Below W.heap.size W W' := by
  obtain ⟨n, hp, hr⟩ := runFn_ofT hf h
  have := law_run hT hmo hf hF hfree hr hlen ha W
  rw [Array.toArray_toList] at this
  refine this.mono fun e W' h => ⟨?_, h.2⟩
  obtain ⟨⟨x, β', rfl, hv⟩, _⟩ := h
  simp [VR, VR1, AV.isAgg, LR, AV.rel] at hv
  rw [hv]
theorem lets_top (n : Nat) : (⟨0, ⟨0, 0⟩⟩ : Cx).prot.lets (.obj n) = true := decide_eq_true (Nat.zero_le n)
end Go.Mini
