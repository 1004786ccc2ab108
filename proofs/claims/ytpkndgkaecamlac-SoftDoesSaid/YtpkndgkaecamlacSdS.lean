/- The table of this statement's functions is the program's, function by function: no condition. -/
import Derived.Test.YtpkndgkaecamlacRows
import Derived.Test.YtpkndgkaecamlacSdPh
import Derived.JoinedCond
set_option maxRecDepth 100000
namespace Go.Proofs.Ytpkndgkaecamlac.seatSd
open Go.Mini Go.ChangeShapes Go.WideShapes Go.ChangeAt Go.RowKit
def phiL : List (Option FuncId):=[some 116,some 121,some 93,some 103,some 94,some 104,some 102,some 92,some 83,some 69,some 15,none,some 42,some 59,some 100,some 57,some 60,some 119,some 75,some 41,some 58,some 51,some 21,none,some 22,none,some 77,some 99,none,none,some 55,some 82,some 117,some 97,some 81,some 80,some 79,some 78,some 101,some 120,none,none,none,none,none,none,none,none,none,none,none,none,none,none,none,none,none,none,none,none,none,none,none,none,none,none,none,none,none,none,none,none,none,none,none,none,none,none,none,none,none,none,none,none,none,none,none,none,none,none,none,none,none,none,none,none,none,none,none,none,none,none,none,none,none,none,none,none,none,none,none,none,none,none,none,none,none,none,none,none,none,none,none,none,none,none,none,none,none,none,none,none,none,none,none,none,none,none,none,none,none,none,none,none,none,none,none,none,none,none,none,none,none,none,none,none,none,none,none,none,none,none,none,none,none,none,none,none,none,none,none,none,none,none,none,none,none,none,none,none,none,none,none,none,none,none,none,none,none,none,none,none,none,none,none,none,none,none,none,none,none,some 35,some 62,some 24,none,some 95,some 84,some 118,some 105,some 98,some 87,some 53,some 34,some 61,some 56,none,some 67,some 68,none,none,none,none,none,some 38,some 25,none,none,none,some 16,some 17,none,some 54,some 91,none,none,none,some 64,none,none,none,some 89,some 88,some 66,some 90,some 113,some 112,some 111,some 110,some 109,some 108,some 107,some 106,some 115,some 114,some 122,some 124,some 123,some 126,some 125,some 127,none,none,none,none,none,none,some 30,none,some 32,none,none,some 28,some 26,some 27,some 23,some 36,some 18,some 14,some 20,some 19,none,some 47,some 48,some 49,some 50,some 46,some 45,none,some 63,some 65,some 71,some 72,some 73,some 70,some 76,some 86,some 85,some 96,none,none,none,none,some 8,none,none,none,none,none,none,none,some 31,some 33,some 29,some 3]
def phi (f : Nat) : Option FuncId:=phiL.getD f none
theorem tblOk : TblOk Try.prog tblE phi drawOk:=tblOk_of (l:=tblEL) (fun _=>rfl) (by kernel_rfl)
theorem mixed : Try.prog.follows .mixedOrders = true:=by kernel_rfl
theorem own : ownKnob Try.prog.godebug = none:=by kernel_rfl
theorem laidOut : laidOutB Try.prog = true:=by kernel_rfl
theorem bool4 : Try.prog.underlying 4 = some .bool:=by kernel_rfl
theorem read37 : Try.prog.readableRec 37 = true ∧ 37 < Try.prog.types.size:=⟨by kernel_rfl,of_decide_eq_true (by kernel_rfl)⟩
theorem kinds37 : ((Try.prog.cellTypes Try.prog.depth 37).map fun ts=>ts.map fun u=>kindOf (Try.prog.underlying u)) = some (tStep.kinds.map some):=by kernel_rfl
theorem cells37 : Try.prog.cellsOf 37 = tStep.kinds.length:=by kernel_rfl
theorem struct37 : ∃ fs,Try.prog.underlying 37 = some (.struct fs):=⟨_,Try.underlying37⟩
def zeroStep : Value:=.agg #[.int .i64 0,.int .i64 0,.int .i64 0,.int .i64 0,.string ⟨#[]⟩,.string ⟨#[]⟩,.string ⟨#[]⟩]
theorem read34 : Try.prog.readableRec 34 = true ∧ 34 < Try.prog.types.size:=⟨by kernel_rfl,of_decide_eq_true (by kernel_rfl)⟩
theorem kinds34 : ((Try.prog.cellTypes Try.prog.depth 34).map fun ts=>ts.map fun u=>kindOf (Try.prog.underlying u)) = some (tImage.kinds.map some):=by kernel_rfl
theorem cells34 : Try.prog.cellsOf 34 = tImage.kinds.length:=by kernel_rfl
theorem struct34 : ∃ fs,Try.prog.underlying 34 = some (.struct fs):=⟨_,Try.underlying34⟩
def zeroImg : Value:=.agg #[.bool false,.int .i64 0,.int .i64 0,.int .i64 0,.int .i64 0,.bool false,.int .i64 0,.int .i64 0,.int .i64 0,.int .i64 0,.bool false,.int .i64 0,.int .i64 0,.int .i64 0,.int .i64 0,.bool false,.int .i64 0,.int .i64 0,.int .i64 0,.int .i64 0,.bool false,.int .i64 0,.int .i64 0,.int .i64 0,.int .i64 0,.bool false,.int .i64 0,.int .i64 0,.int .i64 0,.int .i64 0,.bool false,.int .i64 0,.int .i64 0,.int .i64 0,.int .i64 0,.bool false,.int .i64 0,.int .i64 0,.int .i64 0,.int .i64 0,.string ⟨#[]⟩,.int .i64 0,.int .i64 0,.string ⟨#[]⟩,.int .i64 0,.int .i64 0,.string ⟨#[]⟩,.int .i64 0,.int .i64 0,.string ⟨#[]⟩,.int .i64 0,.int .i64 0,.string ⟨#[]⟩,.int .i64 0,.int .i64 0,.string ⟨#[]⟩,.int .i64 0,.int .i64 0,.string ⟨#[]⟩,.int .i64 0,.int .i64 0,.string ⟨#[]⟩,.int .i64 0,.int .i64 0,.string ⟨#[]⟩,.int .i64 0,.int .i64 0,.string ⟨#[]⟩,.int .i64 0,.int .i64 0,.string ⟨#[]⟩,.int .i64 0,.int .i64 0,.string ⟨#[]⟩,.int .i64 0,.int .i64 0,.int .i64 0,.string ⟨#[]⟩,.int .i64 0,.string ⟨#[]⟩,.int .i64 0,.string ⟨#[]⟩,.int .i64 0,.string ⟨#[]⟩,.int .i64 0,.string ⟨#[]⟩,.int .i64 0,.string ⟨#[]⟩,.int .i64 0,.string ⟨#[]⟩,.int .i64 0,.string ⟨#[]⟩,.int .i64 0,.string ⟨#[]⟩]
theorem read35 : Try.prog.readableRec 35 = true ∧ 35 < Try.prog.types.size:=⟨by kernel_rfl,of_decide_eq_true (by kernel_rfl)⟩
theorem under35 : Try.prog.underlying 35 = some (.slice 37):=by kernel_rfl
theorem elem35 : elemOk Try.prog tStep.kinds 37 = true:=by kernel_rfl
theorem cells35 : Try.prog.cellsOf 37 = tStep.size:=by kernel_rfl
end Go.Proofs.Ytpkndgkaecamlac.seatSd
