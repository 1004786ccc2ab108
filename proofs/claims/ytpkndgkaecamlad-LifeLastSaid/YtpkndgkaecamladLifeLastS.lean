/- The table of this statement's functions is the program's, function by function: no condition. -/
import Derived.Test.YtpkndgkaecamladRows
import Derived.Test.YtpkndgkaecamladLifeLastPe
import Derived.JoinedCond
namespace Go.Proofs.Ytpkndgkaecamlad.lifeLast
set_option maxRecDepth 100000
open Go.Mini Go.ChangeShapes Go.WideShapes Go.ChangeAt Go.RowKit
def phiL : List (Option FuncId) := [some 64, none, some 45, none, some 46, none, none, some 28, none, some 33, none, none, some 17, none, some 69, none, none, some 21, none, some 11, none, some 47, none, none, none, none, none, some 34, none, none, none, none, some 65, some 48, some 44, some 68, some 67, some 66, some 76, some 78, none, none, none, none, none, none, none, none, none, none, none, none, none, none, none, none, none, none, none, none, none, none, none, none, none, none, none, none, none, none, none, none, none, none, none, none, none, none, none, none, none, none, none, none, none, none, none, none, none, none, none, none, none, none, none, none, none, none, none, none, none, none, none, none, none, none, none, none, none, none, none, none, none, none, none, none, none, none, none, none, none, none, none, none, none, none, none, none, none, none, none, none, none, none, none, none, none, none, none, none, none, none, none, none, none, none, none, none, none, none, none, none, none, none, none, none, none, none, none, none, none, none, none, none, none, none, none, none, none, none, none, none, none, none, none, none, none, none, none, none, none, none, none, none, none, none, none, none, none, none, none, none, none, none, none, none, none, none, none, none, none, some 18, none, some 13, none, some 51, none, some 70, none, some 53, none, some 15, some 25, none, some 49, none, some 36, none, none, none, none, none, none, none, some 22, none, none, none, some 7, some 8, none, some 32, some 50, none, none, none, some 29, none, none, none, some 42, some 41, some 31, some 43, some 61, some 60, some 59, some 58, some 57, some 56, some 55, some 54, some 63, some 62, some 71, some 73, some 72, some 75, some 74, some 77, none, none, none, none, none, none, none, none, some 14, none, none, none, some 23, none, none, some 27, some 24, none, some 35, none, none, some 10, none, some 16, some 20, some 9, some 6, none, none, some 30, some 38, some 39, some 40, some 37, some 26, none, none, some 52, none, none, none, none, none, none, none, none, none, none, none, none, none, none, none, none, some 4]
def phi (f : Nat) : Option FuncId := phiL.getD f none
theorem tblOk : TblOk Try.prog tblE phi drawOk := tblOk_of (l := tblEL) (fun _ => rfl) (by kernel_rfl)
theorem mixed : Try.prog.follows .mixedOrders = true := by kernel_rfl
theorem own : ownKnob Try.prog.godebug = none := by kernel_rfl
theorem laidOut : laidOutB Try.prog = true := by kernel_rfl
theorem bool4 : Try.prog.underlying 4 = some .bool := by kernel_rfl
theorem read22 : Try.prog.readableRec 22 = true ∧ 22 < Try.prog.types.size := ⟨by kernel_rfl, of_decide_eq_true (by kernel_rfl)⟩
theorem under22 : Try.prog.underlying 22 = some (.slice 24) := by kernel_rfl
theorem elem22 : elemOk Try.prog tStep.kinds 24 = true := by kernel_rfl
theorem cells22 : Try.prog.cellsOf 24 = tStep.size := by kernel_rfl
theorem read3 : Try.prog.readableRec 3 = true ∧ 3 < Try.prog.types.size := ⟨by kernel_rfl, of_decide_eq_true (by kernel_rfl)⟩
theorem read9 : Try.prog.readableRec 9 = true ∧ 9 < Try.prog.types.size := ⟨by kernel_rfl, of_decide_eq_true (by kernel_rfl)⟩
end Go.Proofs.Ytpkndgkaecamlad.lifeLast
