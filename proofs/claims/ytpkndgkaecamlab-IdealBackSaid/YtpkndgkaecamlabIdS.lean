/- The table of this statement's functions is the program's, function by function: no condition. -/
import Derived.Test.YtpkndgkaecamlabRows
import Derived.Test.YtpkndgkaecamlabIdPg
import Derived.JoinedCond
set_option maxRecDepth 100000
namespace Go.Proofs.Ytpkndgkaecamlab.seatId
open Go.Mini Go.ChangeShapes Go.WideShapes Go.ChangeAt Go.RowKit
def phiL : List (Option FuncId):=[none,none,none,none,none,none,none,none,none,none,none,none,none,none,some 78,some 63,none,none,none,none,none,none,none,none,none,none,none,none,none,none,none,none,none,none,none,none,none,none,none,none,none,none,none,none,none,none,none,none,none,none,none,none,none,none,none,none,none,none,none,none,none,none,none,none,none,none,none,none,none,none,none,none,none,none,none,none,none,none,none,none,none,none,none,none,none,none,none,none,none,none,none,none,none,none,none,none,none,none,none,none,none,none,none,none,none,none,none,none,none,none,none,none,none,none,none,none,none,none,none,none,none,none,none,none,none,none,none,none,none,none,none,none,none,none,none,none,none,none,none,none,none,none,none,none,none,none,none,none,none,none,none,none,none,none,none,none,none,none,none,none,none,none,none,none,none,none,none,none,none,none,none,none,none,none,none,none,none,none,none,none,none,none,none,none,none,none,none,none,none,none,none,none,none,none,none,none,none,none,none,none,none,none,none,none,none,none,none,none,none,none,none,none,none,none,none,none,some 42,some 43,none,some 52,some 50,none,none,some 48,some 46,none,some 45,none,some 39,some 40,none,none,some 69,none,none,some 72,some 73,none,none,none,some 86,some 85,some 75,some 87,some 97,some 96,some 95,some 94,some 93,some 92,some 91,some 90,some 99,some 98,some 100,some 102,some 101,some 104,some 103,some 105,none,none,none,none,none,none,none,none,none,none,none,none,none,none,none,none,none,none,none,none,none,none,none,none,none,none,none,none,none,none,none,none,none,none,none,none,none,none,none,none,none,none,none,none,none,none,none,none,none,none,none,none,none,none,none,none,none,none,none,none,some 51,some 49,some 47,some 44,some 41,some 38,some 70,some 74,some 71,some 84,some 83,some 8,some 9,some 10,some 11]
def phi (f : Nat) : Option FuncId:=phiL.getD f none
theorem tblOk : TblOk Try.prog tblE phi drawOk:=tblOk_of (l:=tblEL) (fun _=>rfl) (by kernel_rfl)
theorem mixed : Try.prog.follows .mixedOrders = true:=by kernel_rfl
theorem own : ownKnob Try.prog.godebug = none:=by kernel_rfl
theorem laidOut : laidOutB Try.prog = true:=by kernel_rfl
theorem bool4 : Try.prog.underlying 4 = some .bool:=by kernel_rfl
theorem read63 : Try.prog.readableRec 63 = true ∧ 63 < Try.prog.types.size:=⟨by kernel_rfl,of_decide_eq_true (by kernel_rfl)⟩
theorem kinds63 : ((Try.prog.cellTypes Try.prog.depth 63).map fun ts=>ts.map fun u=>kindOf (Try.prog.underlying u)) = some (tStep.kinds.map some):=by kernel_rfl
theorem cells63 : Try.prog.cellsOf 63 = tStep.kinds.length:=by kernel_rfl
theorem struct63 : ∃ fs,Try.prog.underlying 63 = some (.struct fs):=⟨_,Try.underlying63⟩
def zeroStep : Value:=.agg #[.int .i64 0,.int .i64 0,.int .i64 0,.int .i64 0,.string ⟨#[]⟩,.string ⟨#[]⟩,.string ⟨#[]⟩]
theorem read61 : Try.prog.readableRec 61 = true ∧ 61 < Try.prog.types.size:=⟨by kernel_rfl,of_decide_eq_true (by kernel_rfl)⟩
theorem under61 : Try.prog.underlying 61 = some (.slice 63):=by kernel_rfl
theorem elem61 : elemOk Try.prog tStep.kinds 63 = true:=by kernel_rfl
theorem cells61 : Try.prog.cellsOf 63 = tStep.size:=by kernel_rfl
theorem read3 : Try.prog.readableRec 3 = true ∧ 3 < Try.prog.types.size:=⟨by kernel_rfl,of_decide_eq_true (by kernel_rfl)⟩
theorem read9 : Try.prog.readableRec 9 = true ∧ 9 < Try.prog.types.size:=⟨by kernel_rfl,of_decide_eq_true (by kernel_rfl)⟩
end Go.Proofs.Ytpkndgkaecamlab.seatId
