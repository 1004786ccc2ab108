/- The table of the statement's functions is the program's; some functions have contracts of their own. -/
import Derived.Test.YtpkndgkaecamlacDoorRows
import Derived.Test.YtpkndgkaecamlacDoorTie
import Derived.Test.YtpkndgkaecamlacDoorTxC

set_option linter.unusedSectionVars false
set_option linter.unnecessarySimpa false
set_option linter.unusedVariables false
set_option linter.unusedSimpArgs false
namespace Go.Proofs.YtpkndgkaecamlacDoor.Base
set_option linter.unusedVariables false
set_option maxRecDepth 100000
open Go.Mini Go.ChangeShapes Go.WideShapes Go.ChangeAt Go.RowKit
def phiL : List (Option FuncId) := [none, none, none, none, none, none, none, none, none, none, some 5, none, none, some 13, none, some 11, some 14, none, none, none, some 12, none, some 6, none, none, none, none, none, none, some 8, some 18, some 21, none, none, none, none, none, none, none, none, none, none, none, none, none, none, none, none, none, none, none, none, none, none, none, none, none, none, none, none, none, none, none, none, none, none, none, none, none, none, none, none, none, none, none, none, none, none, none, none, none, none, none, none, none, none, none, none, none, none, none, none, none, none, none, none, none, none, none, none, none, none, none, none, none, none, none, none, none, none, none, none, none, none, none, none, none, none, none, none, none, none, none, none, none, none, none, none, none, none, none, none, none, none, none, none, none, none, none, none, none, none, none, none, none, none, none, none, none, none, none, none, none, none, none, none, none, none, none, none, none, none, none, none, none, none, none, none, none, none, none, none, none, none, none, none, none, none, none, none, none, none, none, none, none, none, none, none, none, none, none, none, none, none, none, none, none, none, none, none, none, none, none, none, none, none, none, none, none, none, none, none, none, none, none, none, none, none, none, none, none, none, none, none, none, none, none, none, none, none, none, none, none, none, none, none, none, none, none, none, none, none, none, none, none, none, none, none, none, none, none, none, none, none, none, none, none, none, none, none, none, none, none, none, none, none, none, none, none, none, none, none, none, none, none, none, none, none, none, none, none, none, none, none, none, none, none, none, none, none, none, none, none, none, none, none, none, none, none, none, none, none, none, none, none, none, none, none, none, none, none, none, none, none, none, none, none, none, none, none, none, none, none, none, none, none, none, none, none, none, none, none, none, none, none, none, none, none, none, none, some 7, none, some 10, none, none, some 9, some 4, none, some 20, some 19, none, some 25, some 31, none, none, none, none, none, none, none, some 3]
def phi (f : Nat) : Option FuncId := phiL.getD f none
theorem mixed : Tryd.prog.follows .mixedOrders = true := by kernel_rfl
theorem own : ownKnob Tryd.prog.godebug = none := by kernel_rfl
theorem laidOut : laidOutB Tryd.prog = true := by kernel_rfl

/-! Show, by the engine alone. -/
noncomputable def tblS (f : Nat) : Option MFun := if f = 342 then some Fn.text_Show else none
def phiS (f : Nat) : Option FuncId := if f = 342 then some 10 else none
theorem matchS : matchFn Tryd.prog phiS drawOk 10 Fn.text_Show = true := by kernel_rfl
theorem tblOkS (X : Fix) : @TblOk X Tryd.prog tblS phiS drawOk := by
  intro f fn F h1 h2
  unfold tblS at h1
  unfold phiS at h2
  split at h1 <;> simp only [Option.some.injEq, reduceCtorEq] at h1
  rename_i hf
  rw [if_pos hf] at h2
  simp only [Option.some.injEq] at h2
  subst h1 h2
  exact .inl matchS
theorem showRaw (s : ByteArray) (w : World) (hs : s.size ≤ 10000) : Calls Tryd.prog 10 #[.string s] w fun e w' => e = .returned (.string ⟨(showL s.data.toList).toArray⟩) ∧ Below w.heap.size w w' := by
  obtain ⟨n, s', v, hr, hv, hR⟩ := Show_ok (T := tblS) (cx := ⟨0, ⟨0, 0⟩⟩) (h := HP.empty) (s := s) (fun n _ => by simp [Prot.lets]) (by omega)
  have hrun : runFn tblS n 342 [.str s] HP.empty = some (v, s'.hp) := by
    simp only [runFn, tblS, if_true, hr, hv, Option.map_some]
  have := law_run (P := Tryd.prog) (T := tblS) (φ := phiS) (F := 10) (f := 342) (rargs := [.string s]) tblOkS mixed rfl rfl rfl hrun rfl (All2.cons (VR_of_VR1 (by simp [VR1, AV.isAgg, LR, AV.rel])) All2.nil) w
  refine this.mono fun e w' h => ?_
  obtain ⟨⟨x, β', rfl, hx⟩, hb⟩ := h
  rw [hR.1] at hx
  rw [LR_str hx]
  exact ⟨rfl, hb⟩

/-! The three functions with contracts of their own. -/
/-- What the listed variables give. -/
def Cond (W : World) : Prop := tabN W ∧ ∃ tp p, W.cell? ⟨0, 0, none⟩ = some (.iface tp p)
theorem tab_fix {W w : World} {O : Nat → Prop} (h : tabN W) (hI : @Fix.I (fixAt W) O w) : tabN w := by
  unfold tabN Lib.TabIs World.var? at *
  cases hg : Tryd.prog.globalNamed "internal/strconv.uint64pow10" with
  | none => simp [hg] at h
  | some g =>
    simp only [hg, Option.bind_some] at h ⊢
    have hlt : g < W.heap.size := by
      rcases Nat.lt_or_ge g W.heap.size with h' | h'
      · exact h'
      · rw [Array.getElem?_eq_none h'] at h; simp at h
    rw [(hI g hlt).2.2]
    exact h
theorem err_fix {W w : World} {O : Nat → Prop} {v : Value} (h : W.cell? ⟨0, 0, none⟩ = some v) (hI : @Fix.I (fixAt W) O w) : w.cell? ⟨0, 0, none⟩ = some v := by
  have hlt : 0 < W.heap.size := Lib.lt_of_cell h
  have e := (hI 0 hlt).2.2
  unfold World.cell? at *
  simp only at h ⊢
  rw [e]
  exact h
theorem itoaX (W : World) (hC : Cond W) : @ExtOk (fixAt W) Tryd.prog tblU phi 24 Fn.strconv_Itoa := by
  letI : Fix := fixAt W
  refine ItoaX ⟨_, _, Tryd.func24, rfl, by kernel_rfl⟩ fun O w hI n hn => ?_
  refine (Any.strconv_Itoa Tryd.laysM171 n hn.1 hn.2 w (tab_fix hC.1 hI)).mono ?_
  rintro e w' ⟨rfl, k, os, rfl⟩
  exact ⟨rfl, Lib.below_grow _ _ (Nat.le_refl _) _ _⟩
theorem puX (W : World) (hC : Cond W) : @ExtOk (fixAt W) Tryd.prog tblU phi 20 Fn.strconv_ParseUint := by
  letI : Fix := fixAt W
  refine PuX ⟨_, _, Tryd.func20, rfl, by kernel_rfl⟩ fun O w hI t ht => ?_
  obtain ⟨tp, p, hp⟩ := hC.2
  have h := puP Tryd.laysPu14 t ht (.iface tp p) w (err_fix hp hI) (.inr ⟨tp, p, rfl⟩)
  have e : hexAcc 0 t.data.toList = hex2 t := by
    match hd : t.data.toList, (by rw [← Lib.size_eq, ht] : t.data.toList.length = 2) with
    | [x, y], _ =>
      rw [hexAcc_two]
      have : t = ⟨#[x, y]⟩ := by apply ByteArray.ext; apply Array.toList_inj.1; rw [hd]
      rw [this]
  rw [e] at h
  refine h.mono ?_
  rintro e w' ⟨h1, h2⟩
  refine ⟨?_, h2⟩
  cases hq : hex2 t with
  | some n => rw [hq] at h1; exact h1
  | none => rw [hq] at h1; obtain ⟨N, h1⟩ := h1; exact ⟨_, _, h1⟩
theorem printX (W : World) (hC : Cond W) : @ExtOk (fixAt W) Tryd.prog tblU phi 7 Fn.text_Print := by
  letI : Fix := fixAt W
  refine PrintX ⟨_, _, Tryd.func7, rfl, by kernel_rfl⟩ fun O w hI m r off hm hr h1 h2 h3 => ?_
  exact printC showRaw m hm r off w (tab_fix hC.1 hI) hr h1 h2 h3
theorem allT : allOk Tryd.prog phi (skipL [340, 348, 350] tblUL 0) 0 = true := by kernel_rfl
theorem tblOk (W : World) (hC : Cond W) : @TblOk (fixAt W) Tryd.prog tblU phi drawOk := by
  letI : Fix := fixAt W
  refine tblOk_ofX (l := tblUL) [340, 348, 350] (fun _ => rfl) allT fun f fn F hs h1 h2 => ?_
  have hf : 340 = f ∨ 348 = f ∨ 350 = f := by simpa [has, List.any] using hs
  rcases hf with rfl | rfl | rfl
  · have e1 : some Fn.text_Print = some fn := h1
    have e2 : some 7 = some F := h2
    simp only [Option.some.injEq] at e1 e2
    subst e1 e2
    exact printX W hC
  · have e1 : some Fn.strconv_ParseUint = some fn := h1
    have e2 : some 20 = some F := h2
    simp only [Option.some.injEq] at e1 e2
    subst e1 e2
    exact puX W hC
  · exact absurd (show none = some F from h2) (by simp)
end Go.Proofs.YtpkndgkaecamlacDoor.Base
