/- The table of this seat's functions is the program's, function by function: no condition. -/
import Derived.Test.YtpkndgkaecamlabRows
import Derived.Test.YtpkndgkaecamlabTopC
import Derived.Test.YtpkndgkaecamlabMiniBc
import Derived.JoinedCond
namespace Go.Proofs.Ytpkndgkaecamlab
set_option maxRecDepth 100000
open Go.Mini Go.ChangeShapes Go.WideShapes Go.ChangeAt Go.RowKit
def phiL : List (Option FuncId) := [some 55, none, some 56, none, some 57, none, some 32, some 15, none, some 14, some 13, some 12, some 58, some 65, some 78, some 63, some 36, some 67, some 37, none, some 64, some 17, some 21, some 16, none, none, none, none, none, some 53, some 54, some 68, some 77, some 76, some 80, some 61, some 60, some 59, some 79, some 88, none, none, none, none, none, none, none, none, none, none, none, none, none, none, none, none, none, none, none, none, none, none, none, none, none, none, none, none, none, none, none, none, none, none, none, none, none, none, none, none, none, none, none, none, none, none, none, none, none, none, none, none, none, none, none, none, none, none, none, none, none, none, none, none, none, none, none, none, none, none, none, none, none, none, none, none, none, none, none, none, none, none, none, none, none, none, none, none, none, none, none, none, none, none, none, none, none, none, none, none, none, none, none, none, none, none, none, none, none, none, none, none, none, none, none, none, none, none, none, none, none, none, none, none, none, none, none, none, none, none, none, none, none, none, none, none, none, none, none, none, none, none, none, none, none, none, none, none, none, none, none, none, none, none, none, none, none, none, none, none, some 18, some 34, none, some 22, some 33, some 25, none, some 27, none, some 29, none, some 31, some 23, none, some 20, some 19, none, none, none, none, none, none, none, none, none, none, none, none, none, none, none, some 62, none, none, none, none, none, none, none, none, none, none, none, none, none, none, none, none, none, none, none, none, none, none, none, none, none, none, none, none, some 3, some 4, some 6, some 7]
def phi (f : Nat) : Option FuncId := phiL.getD f none
theorem tblOk : TblOk Try.prog tblB phi drawOk := tblOk_of (l := tblBL) (fun _ => rfl) (by kernel_rfl)
theorem mixed : Try.prog.follows .mixedOrders = true := by kernel_rfl
theorem own : ownKnob Try.prog.godebug = none := by kernel_rfl
theorem laidOut : laidOutB Try.prog = true := by kernel_rfl
theorem read34 : Try.prog.readableRec 34 = true ∧ 34 < Try.prog.types.size := ⟨by kernel_rfl, of_decide_eq_true (by kernel_rfl)⟩
theorem read3 : Try.prog.readableRec 3 = true ∧ 3 < Try.prog.types.size := ⟨by kernel_rfl, of_decide_eq_true (by kernel_rfl)⟩
theorem read9 : Try.prog.readableRec 9 = true ∧ 9 < Try.prog.types.size := ⟨by kernel_rfl, of_decide_eq_true (by kernel_rfl)⟩
theorem kinds34 : ((Try.prog.cellTypes Try.prog.depth 34).map fun ts => ts.map fun u => kindOf (Try.prog.underlying u)) = some (tImage.kinds.map some) := by kernel_rfl
theorem cells34 : Try.prog.cellsOf 34 = tImage.kinds.length := by kernel_rfl
def zeroImg : Value := .agg #[.bool false, .int .i64 0, .int .i64 0, .int .i64 0, .int .i64 0, .bool false, .int .i64 0, .int .i64 0, .int .i64 0, .int .i64 0, .bool false, .int .i64 0, .int .i64 0, .int .i64 0, .int .i64 0, .bool false, .int .i64 0, .int .i64 0, .int .i64 0, .int .i64 0, .bool false, .int .i64 0, .int .i64 0, .int .i64 0, .int .i64 0, .bool false, .int .i64 0, .int .i64 0, .int .i64 0, .int .i64 0, .bool false, .int .i64 0, .int .i64 0, .int .i64 0, .int .i64 0, .bool false, .int .i64 0, .int .i64 0, .int .i64 0, .int .i64 0, .string ⟨#[]⟩, .int .i64 0, .int .i64 0, .string ⟨#[]⟩, .int .i64 0, .int .i64 0, .string ⟨#[]⟩, .int .i64 0, .int .i64 0, .string ⟨#[]⟩, .int .i64 0, .int .i64 0, .string ⟨#[]⟩, .int .i64 0, .int .i64 0, .string ⟨#[]⟩, .int .i64 0, .int .i64 0, .string ⟨#[]⟩, .int .i64 0, .int .i64 0, .string ⟨#[]⟩, .int .i64 0, .int .i64 0, .string ⟨#[]⟩, .int .i64 0, .int .i64 0, .string ⟨#[]⟩, .int .i64 0, .int .i64 0, .string ⟨#[]⟩, .int .i64 0, .int .i64 0, .string ⟨#[]⟩, .int .i64 0, .int .i64 0, .int .i64 0, .string ⟨#[]⟩, .int .i64 0, .string ⟨#[]⟩, .int .i64 0, .string ⟨#[]⟩, .int .i64 0, .string ⟨#[]⟩, .int .i64 0, .string ⟨#[]⟩, .int .i64 0, .string ⟨#[]⟩, .int .i64 0, .string ⟨#[]⟩, .int .i64 0, .string ⟨#[]⟩, .int .i64 0, .string ⟨#[]⟩]
section
variable {W : World} {b : Nat} {x : Value}
theorem argImg (h : Value.okWide Try.prog W .any b 34 x) : ∃ m : Img, VR phi (fun _ => none) m.enc x := by
  obtain ⟨ts, h1, h2⟩ := Option.map_eq_some_iff.1 kinds34
  exact given_img h1 h2 ⟨_, Try.underlying34⟩ cells34 h
theorem argInt (h : Value.okWide Try.prog W .any b 3 x) : ∃ n, VR phi (fun _ => none) (.int .i64 n) x :=
  given_int (by kernel_rfl) h
theorem argStr (h : Value.okWide Try.prog W .any b 9 x) : ∃ s, VR phi (fun _ => none) (.str s) x :=
  given_str (by kernel_rfl) h
end
end Go.Proofs.Ytpkndgkaecamlab
