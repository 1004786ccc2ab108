/- The table of the statement's functions is the program's; some functions have contracts of their own. -/
import Derived.Test.YtpkndgkaecamlabGreatDoorRows
import Derived.Test.YtpkndgkaecamlabGreatDoorTie
import Derived.Test.YtpkndgkaecamlabGreatDoorDjC

set_option linter.unusedSectionVars false
set_option linter.unnecessarySimpa false
set_option linter.unusedVariables false
set_option linter.unusedSimpArgs false
namespace Go.Proofs.YtpkndgkaecamlabGreatDoor.Base
set_option linter.unusedVariables false
set_option maxRecDepth 100000
open Go.Mini Go.ChangeShapes Go.WideShapes Go.ChangeAt Go.RowKit
def phiL : List (Option FuncId) := [some 128, none, some 104, none, some 105, none, none, some 63, none, some 77, none, none, some 107, none, some 133, none, none, some 108, none, some 59, none, some 106, none, none, none, none, none, some 79, none, none, none, none, some 129, some 92, some 65, some 132, some 131, some 130, some 144, some 150, none, none, none, none, none, none, none, none, none, none, none, none, none, none, none, none, none, none, none, none, none, none, none, none, none, none, none, none, none, none, none, none, none, none, none, none, none, none, none, none, none, none, none, none, none, none, none, none, none, none, none, none, none, none, none, none, none, none, none, none, none, none, none, none, none, none, none, none, none, none, none, none, none, none, none, none, none, none, none, none, none, none, none, none, none, none, none, none, none, none, none, none, none, none, none, none, none, none, none, none, none, none, none, none, none, none, none, none, none, none, none, none, none, none, none, none, none, none, none, none, none, none, none, none, none, none, none, none, none, none, none, none, none, none, none, none, none, none, none, none, none, none, none, none, none, none, none, none, none, none, none, none, none, none, none, none, none, none, none, none, none, some 50, none, some 34, some 37, some 111, none, some 134, none, some 113, none, some 78, some 49, none, some 109, none, some 81, none, none, none, none, none, none, none, none, none, none, none, none, none, none, some 41, some 110, none, none, none, some 55, none, none, none, some 88, some 87, some 57, some 89, some 122, some 121, some 120, some 119, some 118, some 117, some 116, some 115, some 124, some 123, some 139, some 141, some 140, some 143, some 142, some 149, none, none, none, none, none, none, some 32, none, some 33, none, none, some 54, some 30, none, none, some 52, some 19, none, some 80, none, none, some 27, none, some 39, some 38, some 8, none, none, none, some 56, some 83, some 84, some 85, some 82, some 51, none, none, some 112, none, none, none, none, none, none, none, none, none, none, none, none, none, none, none, none, none, none, none, none, none, none, none, none, none, none, none, none, none, none, none, none, none, none, none, none, none, none, none, none, none, none, some 36, none, some 48, none, none, some 26, none, none, some 47, some 46, some 53, some 75, some 101, none, none, none, none, none, none, none, none, none, none, none, none, none, none, none, none, none, none, none, none, none, none, none, none, none, none, none, none, none, none, none, none, none, none, none, none, none, none, none, none, none, none, none, none, none, none, none, some 6, some 7, some 5, some 4, some 18, some 15, some 17, some 16, some 14, some 12, some 11, some 13, some 10, some 9, some 28, some 21, some 40, some 35, some 25, some 24, some 23, some 29, some 31, some 60, some 45, some 58, some 3]
def phi (f : Nat) : Option FuncId := phiL.getD f none
theorem mixed : Tryz.prog.follows .mixedOrders = true := by kernel_rfl
theorem own : ownKnob Tryz.prog.godebug = none := by kernel_rfl
theorem laidOut : laidOutB Tryz.prog = true := by kernel_rfl

/-! Show, by the engine alone. -/
noncomputable def tblS (f : Nat) : Option MFun := if f = 342 then some Fn.text_Show else none
def phiS (f : Nat) : Option FuncId := if f = 342 then some 48 else none
theorem matchS : matchFn Tryz.prog phiS drawOk 48 Fn.text_Show = true := by kernel_rfl
theorem tblOkS (X : Fix) : @TblOk X Tryz.prog tblS phiS drawOk := by
  intro f fn F h1 h2
  unfold tblS at h1
  unfold phiS at h2
  split at h1 <;> simp only [Option.some.injEq, reduceCtorEq] at h1
  rename_i hf
  rw [if_pos hf] at h2
  simp only [Option.some.injEq] at h2
  subst h1 h2
  exact .inl matchS
theorem showRaw (s : ByteArray) (w : World) (hs : s.size ≤ 10000) : Calls Tryz.prog 48 #[.string s] w fun e w' => e = .returned (.string ⟨(showL s.data.toList).toArray⟩) ∧ Below w.heap.size w w' := by
  obtain ⟨n, s', v, hr, hv, hR⟩ := Show_ok (T := tblS) (cx := ⟨0, ⟨0, 0⟩⟩) (h := HP.empty) (s := s) (fun n _ => by simp [Prot.lets]) (by omega)
  have hrun : runFn tblS n 342 [.str s] HP.empty = some (v, s'.hp) := by
    simp only [runFn, tblS, if_true, hr, hv, Option.map_some]
  have := law_run (P := Tryz.prog) (T := tblS) (φ := phiS) (F := 48) (f := 342) (rargs := [.string s]) tblOkS mixed rfl rfl rfl hrun rfl (All2.cons (VR_of_VR1 (by simp [VR1, AV.isAgg, LR, AV.rel])) All2.nil) w
  refine this.mono fun e w' h => ?_
  obtain ⟨⟨x, β', rfl, hx⟩, hb⟩ := h
  letI : Tk := (fixAt Tryz.prog w).toTk
  rw [hR.1] at hx
  rw [LR_str hx]
  exact ⟨rfl, hb⟩

/-! The three functions with contracts of their own. -/
/-- What the listed variables give. -/
def Cond (W : World) : Prop := tabN W ∧ (∃ tp p, W.cell? ⟨3, 0, none⟩ = some (.iface tp p)) ∧ (∃ tp p, W.cell? ⟨4, 0, none⟩ = some (.iface tp p)) ∧ ∃ m, W.cell? ⟨0, 0, none⟩ = some (.int .i64 m)
theorem tab_fix {W w : World} {O : Nat → Prop} (h : tabN W) (hI : @Fix.I (fixAt Tryz.prog W) O w) : tabN w := by
  unfold tabN Lib.TabIs World.var? at *
  cases hg : Tryz.prog.globalNamed "internal/strconv.uint64pow10" with
  | none => simp [hg] at h
  | some g =>
    simp only [hg, Option.bind_some] at h ⊢
    have hlt : g < W.heap.size := by
      rcases Nat.lt_or_ge g W.heap.size with h' | h'
      · exact h'
      · rw [Array.getElem?_eq_none h'] at h; simp at h
    rw [(hI g hlt).2.2]
    exact h
theorem cell_fix {W w : World} {O : Nat → Prop} {g : Nat} {v : Value} (h : W.cell? ⟨g, 0, none⟩ = some v) (hI : @Fix.I (fixAt Tryz.prog W) O w) : w.cell? ⟨g, 0, none⟩ = some v := by
  have hlt : g < W.heap.size := Lib.lt_of_cell h
  have e := (hI g hlt).2.2
  unfold World.cell? at *
  simp only at h ⊢
  rw [e]
  exact h
theorem itoaX (W : World) (hC : Cond W) : @ExtOk (fixAt Tryz.prog W) Tryz.prog tblV phi 53 Fn.strconv_Itoa := by
  letI : Fix := fixAt Tryz.prog W
  refine ItoaX ⟨_, _, Tryz.func53, rfl, by kernel_rfl⟩ fun O w hI n hn => ?_
  refine (Any.strconv_Itoa Tryz.laysM171 n hn.1 hn.2 w (tab_fix hC.1 hI)).mono ?_
  rintro e w' ⟨rfl, k, os, rfl⟩
  exact ⟨rfl, Lib.below_grow _ _ (Nat.le_refl _) _ _⟩
theorem puX (W : World) (hC : Cond W) : @ExtOk (fixAt Tryz.prog W) Tryz.prog tblV phi 47 Fn.strconv_ParseUint := by
  letI : Fix := fixAt Tryz.prog W
  refine PuX ⟨_, _, Tryz.func47, rfl, by kernel_rfl⟩ fun O w hI t ht => ?_
  obtain ⟨tp, p, hp⟩ := hC.2.1
  have h := puP Tryz.laysPu14 t ht (.iface tp p) w (cell_fix hp hI) (.inr ⟨tp, p, rfl⟩)
  have e : hexAcc 0 t.data.toList = hex2 t := by
    match hd : t.data.toList, (by rw [← Lib.size_eq, ht] : t.data.toList.length = 2) with
    | [x, y], _ =>
      rw [hexAcc_two]
      have : t = ⟨#[x, y]⟩ := by apply ByteArray.ext; apply Array.toList_inj.1; rw [hd]
      rw [this]
  rw [e] at h
  refine h.mono ?_
  rintro e w' ⟨h1, h2⟩
  refine ⟨?_, h2⟩
  cases hq : hex2 t with
  | some n => rw [hq] at h1; exact h1
  | none => rw [hq] at h1; obtain ⟨N, h1⟩ := h1; exact ⟨_, _, h1⟩
theorem printX (W : World) (hC : Cond W) : @ExtOk (fixAt Tryz.prog W) Tryz.prog tblV phi 36 Fn.text_Print := by
  letI : Fix := fixAt Tryz.prog W
  refine PrintX ⟨_, _, Tryz.func36, rfl, by kernel_rfl⟩ fun O w hI m r off hm hr h1 h2 h3 => ?_
  exact printC showRaw m hm r off w (tab_fix hC.1 hI) hr h1 h2 h3
theorem joinX (W : World) : @ExtOk (fixAt Tryz.prog W) Tryz.prog tblV phi 40 Fn.strings_Join := by
  letI : Fix := fixAt Tryz.prog W
  refine JoinX ⟨_, _, Tryz.func40, rfl, by kernel_rfl⟩ (fun w a c sep => Any.strings_Join_none Tryz.lays156 Tryz.Builder_Extra_156 a c sep w) fun w bk o c ws sep hcells hbk h1 hc h2 => ?_
  exact Any.strings_Join Tryz.lays156 Tryz.Builder_Extra_156 bk o c ws sep w hcells hbk (by omega) hc (Nat.le_trans h2 (by decide))
theorem containsX (W : World) : @ExtOk (fixAt Tryz.prog W) Tryz.prog tblV phi 9 Fn.strings_Contains := by
  letI : Fix := fixAt Tryz.prog W
  exact ContainsX ⟨_, _, Tryz.func9, rfl, by kernel_rfl⟩ fun w t c => Any.strings_Contains_one Tryz.lays144 t c w
theorem splitX (W : World) (hC : Cond W) : @ExtOk (fixAt Tryz.prog W) Tryz.prog tblV phi 12 Fn.strings_Split := by
  letI : Fix := fixAt Tryz.prog W
  obtain ⟨m, hm⟩ := hC.2.2.2
  refine SplitX (TT := 9) (show tyOk Tryz.prog tS (.inl 9) = true by kernel_rfl) ⟨_, _, Tryz.func12, rfl, by kernel_rfl⟩ fun O w hI t c ht => ?_
  have h1 : 1 ≤ (⟨#[c]⟩ : ByteArray).size := Nat.le_refl 1
  have h := Any.strings_Split (P := Tryz.prog) (ρ := Tryz.laysM146_ren) { Tryz.laysM146 with } Tryz.laysM146.i9 t ⟨#[c]⟩ m w (by omega) (cell_fix hm hI) h1
  have e : (cutB t c).length = Lib.countB t ⟨#[c]⟩ + 1 := Lib.splitB_all ⟨#[c]⟩ h1 0 _ t rfl
  rw [e]
  exact h
theorem atoiX (W : World) (hC : Cond W) : @ExtOk (fixAt Tryz.prog W) Tryz.prog tblV phi 45 Fn.strconv_Atoi := by
  letI : Fix := fixAt Tryz.prog W
  obtain ⟨tp, p, hp⟩ := hC.2.1
  obtain ⟨tq, q, hq⟩ := hC.2.2.1
  refine AtoiX ⟨_, _, Tryz.func45, rfl, by kernel_rfl⟩ fun O w hI t ht => ?_
  cases ha : Lib.atoiAll t.data.toList with
  | ok v =>
    refine (Any.strconv_Atoi_ok Tryz.laysC172 t (by omega) v ha w).mono ?_
    rintro e w' ⟨rfl, hw⟩
    refine ⟨⟨.nilIface, by simp only [atoiV, ha], .inl ⟨by simp only [atoiE, ha], rfl⟩⟩, ?_⟩
    rcases hw with rfl | ⟨b, rfl⟩
    · exact Below.refl _ _
    · exact Lib.bytesWorld_below _ _ _
  | range =>
    refine (Any.strconv_Atoi_range Tryz.laysC172 t (by omega) ha (.iface tq q) w (cell_fix hq hI) (.inr ⟨_, _, rfl⟩)).mono ?_
    rintro e w' ⟨K, rfl, _, _, hb⟩
    have ev : atoiV t = Lib.atoiSat t.data.toList := by simp only [atoiV, ha]
    rw [ev]
    exact ⟨⟨_, rfl, .inr ⟨by simp only [atoiE, ha], _, _, rfl⟩⟩, hb⟩
  | _ =>
    refine (Any.strconv_Atoi_syntax Tryz.laysC172 t (by omega) ha (.iface tp p) w (cell_fix hp hI) (.inr ⟨_, _, rfl⟩)).mono ?_
    rintro e w' ⟨K, rfl, _, _, hb⟩
    have ev : atoiV t = 0 := by simp only [atoiV, ha]
    rw [ev]
    exact ⟨⟨_, rfl, .inr ⟨by simp only [atoiE, ha], _, _, rfl⟩⟩, hb⟩
theorem deskTys : ((List.range Tryz.prog.types.size).all fun U => !tyOk Tryz.prog tDesk (.inl U) || liesAt Tryz.prog Tryz.prog.depth U (3 / Tryz.prog.cellsOf U) 0 38 1) = true := by kernel_rfl
theorem deskTy (U : TypeId) (h : tyOk Tryz.prog tDesk (.inl U) = true) : liesAt Tryz.prog Tryz.prog.depth U (3 / Tryz.prog.cellsOf U) 0 38 1 = true := by
  have := List.all_eq_true.1 deskTys U (List.mem_range.2 (tyOk_lt h))
  rw [h] at this
  simpa using this
theorem copyX (W : World) : @ExtOk (fixAt Tryz.prog W) Tryz.prog tblV phi 60 Fn.strings_Builder_copyCheck :=
  CopyCheckP (ρ := Tryz.lays156_ren) { Tryz.lays156 with } Tryz.Builder_Extra_156.toX72 deskTy rfl ⟨_, _, Tryz.func60, rfl, by kernel_rfl⟩
theorem strX (W : World) : @ExtOk (fixAt Tryz.prog W) Tryz.prog tblV phi 18 Fn.strings_Builder_String :=
  StringP (ρ := Tryz.lays156_ren) { Tryz.lays156 with } Tryz.Builder_Extra_156 Tryz.Builder_Extra_156.t5 rfl ⟨_, _, Tryz.func18, rfl, by kernel_rfl⟩
theorem allT : allOk Tryz.prog phi (skipL [340, 348, 350, 404, 409, 413, 416, 423, 424] tblVL 0) 0 = true := by kernel_rfl
theorem tblOk (W : World) (hC : Cond W) : @TblOk (fixAt Tryz.prog W) Tryz.prog tblV phi drawOk := by
  letI : Fix := fixAt Tryz.prog W
  refine tblOk_ofX (l := tblVL) [340, 348, 350, 404, 409, 413, 416, 423, 424] (fun _ => rfl) allT fun f fn F hs h1 h2 => ?_
  have hf : 340 = f ∨ 348 = f ∨ 350 = f ∨ 404 = f ∨ 409 = f ∨ 413 = f ∨ 416 = f ∨ 423 = f ∨ 424 = f := by simpa [has, List.any] using hs
  rcases hf with rfl | rfl | rfl | rfl | rfl | rfl | rfl | rfl | rfl
  · have e1 : some Fn.text_Print = some fn := h1
    have e2 : some 36 = some F := h2
    simp only [Option.some.injEq] at e1 e2
    subst e1 e2
    exact printX W hC
  · have e1 : some Fn.strconv_ParseUint = some fn := h1
    have e2 : some 47 = some F := h2
    simp only [Option.some.injEq] at e1 e2
    subst e1 e2
    exact puX W hC
  · have e1 : some Fn.strconv_Itoa = some fn := h1
    have e2 : some 53 = some F := h2
    simp only [Option.some.injEq] at e1 e2
    subst e1 e2
    exact itoaX W hC
  · have e1 : some Fn.strings_Builder_String = some fn := h1
    have e2 : some 18 = some F := h2
    simp only [Option.some.injEq] at e1 e2
    subst e1 e2
    exact strX W
  · have e1 : some Fn.strings_Split = some fn := h1
    have e2 : some 12 = some F := h2
    simp only [Option.some.injEq] at e1 e2
    subst e1 e2
    exact splitX W hC
  · have e1 : some Fn.strings_Contains = some fn := h1
    have e2 : some 9 = some F := h2
    simp only [Option.some.injEq] at e1 e2
    subst e1 e2
    exact containsX W
  · have e1 : some Fn.strings_Join = some fn := h1
    have e2 : some 40 = some F := h2
    simp only [Option.some.injEq] at e1 e2
    subst e1 e2
    exact joinX W
  · have e1 : some Fn.strings_Builder_copyCheck = some fn := h1
    have e2 : some 60 = some F := h2
    simp only [Option.some.injEq] at e1 e2
    subst e1 e2
    exact copyX W
  · have e1 : some Fn.strconv_Atoi = some fn := h1
    have e2 : some 45 = some F := h2
    simp only [Option.some.injEq] at e1 e2
    subst e1 e2
    exact atoiX W hC
end Go.Proofs.YtpkndgkaecamlabGreatDoor.Base
