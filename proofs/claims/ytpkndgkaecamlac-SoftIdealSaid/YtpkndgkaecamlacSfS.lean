/- The table of this statement's functions is the program's, function by function: no condition. -/
import Derived.Test.YtpkndgkaecamlacRows
import Derived.Test.YtpkndgkaecamlacSfPg
import Derived.JoinedCond
set_option maxRecDepth 100000
namespace Go.Proofs.Ytpkndgkaecamlac.seatSf
open Go.Mini Go.ChangeShapes Go.WideShapes Go.ChangeAt Go.RowKit
def phiL : List (Option FuncId):=[some 116,none,some 93,none,some 94,none,none,some 92,none,some 69,none,none,some 42,none,some 100,some 57,none,some 119,none,some 41,none,some 51,none,none,none,none,none,none,none,none,none,none,some 117,some 97,some 81,some 80,some 79,some 78,some 101,some 120,none,none,none,none,none,none,none,none,none,none,none,none,none,none,none,none,none,none,none,none,none,none,none,none,none,none,none,none,none,none,none,none,none,none,none,none,none,none,none,none,none,none,none,none,none,none,none,none,none,none,none,none,none,none,none,none,none,none,none,none,none,none,none,none,none,none,none,none,none,none,none,none,none,none,none,none,none,none,none,none,none,none,none,none,none,none,none,none,none,none,none,none,none,none,none,none,none,none,none,none,none,none,none,none,none,none,none,none,none,none,none,none,none,none,none,none,none,none,none,none,none,none,none,none,none,none,none,none,none,none,none,none,none,none,none,none,none,none,none,none,none,none,none,none,none,none,none,none,none,none,none,none,none,none,none,none,none,none,none,none,none,some 35,none,some 24,none,some 95,none,some 118,none,some 98,none,some 53,some 34,none,some 56,none,some 67,some 68,none,some 40,some 39,none,none,some 38,some 25,none,some 37,none,some 16,some 17,none,some 54,some 91,none,none,some 74,some 64,none,none,none,some 89,some 88,some 66,some 90,some 113,some 112,some 111,some 110,some 109,some 108,some 107,some 106,some 115,some 114,some 122,some 124,some 123,some 126,some 125,some 127,none,none,none,none,none,none,some 30,none,some 32,none,none,some 28,some 26,none,none,some 36,some 18,some 14,some 20,none,none,none,none,none,none,none,none,none,none,some 65,some 71,some 72,some 73,some 70,none,none,none,some 96,some 4]
def phi (f : Nat) : Option FuncId:=phiL.getD f none
theorem tblOk : TblOk Try.prog tblE phi drawOk:=tblOk_of (l:=tblEL) (fun _=>rfl) (by kernel_rfl)
theorem mixed : Try.prog.follows .mixedOrders = true:=by kernel_rfl
theorem own : ownKnob Try.prog.godebug = none:=by kernel_rfl
theorem laidOut : laidOutB Try.prog = true:=by kernel_rfl
theorem bool4 : Try.prog.underlying 4 = some .bool:=by kernel_rfl
theorem read35 : Try.prog.readableRec 35 = true ∧ 35 < Try.prog.types.size:=⟨by kernel_rfl,of_decide_eq_true (by kernel_rfl)⟩
theorem under35 : Try.prog.underlying 35 = some (.slice 37):=by kernel_rfl
theorem elem35 : elemOk Try.prog tStep.kinds 37 = true:=by kernel_rfl
theorem cells35 : Try.prog.cellsOf 37 = tStep.size:=by kernel_rfl
end Go.Proofs.Ytpkndgkaecamlac.seatSf
