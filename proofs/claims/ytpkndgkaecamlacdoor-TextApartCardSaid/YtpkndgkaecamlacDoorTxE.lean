/- What the listed variables give. -/
import Derived.Test.YtpkndgkaecamlacDoorTxD
import Derived.Stop.LaidErr
import Derived.LaidMore
import Derived.Stop.Joined
import Derived.SevenTiedAt
import Derived.OpenShut
import Derived.Lib.LaidTab
import Derived.JoinedCond
import Derived.ProofKit

set_option linter.unusedSectionVars false
set_option linter.unnecessarySimpa false
set_option linter.unusedVariables false
set_option linter.unusedSimpArgs false
namespace Go.Proofs.YtpkndgkaecamlacDoor.Base
set_option linter.unusedVariables false
set_option maxRecDepth 100000
open Go.Mini Go.ChangeShapes Go.WideShapes Go.ChangeAt Go.RowKit
theorem rowErr (u : TypeId) (h : Tryd.prog.typeName? 3 u = some "*errors.errorString") : u = 92 :=
  typeName_ptr_named (nm := "errors.errorString") (by kernel_rfl) (by kernel_rfl) (by decide) u h
abbrev laidL : List (String × DataW Unit) := Rows.textApartRow.laid
theorem cond_of_laid {W : World} (h : laidMetH Tryd.prog Rows.textApartRow.laid W) : Cond W := by
  rw [MakeChecks.laidMetH_plain _ _ _ (by kernel_rfl)] at h
  have h3 := laidMet.tail (laidMet.tail h)
  have h5 := laidMet.tail (laidMet.tail h3)
  refine ⟨?_, ?_⟩
  · exact Lib.tabIs_of_head (P := Tryd.prog) (name := "internal/strconv.uint64pow10") (k := .u64) (zs := Lib.pow10Tab) (g := 3) (by kernel_rfl) (by kernel_rfl) Tryd.underlying97 Tryd.underlying60 (by kernel_rfl) (by kernel_rfl) h3
  · obtain ⟨a, s, hv, _⟩ := laid_sentinel h5 (g := 0) (by kernel_rfl) (by kernel_rfl) Tryd.underlying62 rowErr Tryd.underlying92 Tryd.underlying94 rfl rfl Tryd.underlying9 (by kernel_rfl) (by kernel_rfl)
    have := World.var?_cell (P := Tryd.prog) (g := 0) (by kernel_rfl) hv 0
    exact ⟨_, _, by simpa using this⟩
/-- The door's own heap meets the condition. -/
theorem door_met (os : Os) (args : Array Value) : laidMetH Tryd.prog Rows.textApartRow.laid ((World.doorLaid Tryd.prog 62 os).forCall (fun _ _ => 0) ⟨#[], args, []⟩).memory :=
  laidMetH_of_parts3 (fuel := 8) (laidMet_of_run' 8 (by kernel_rfl) (by kernel_rfl)) (by kernel_rfl) (by kernel_rfl)
end Go.Proofs.YtpkndgkaecamlacDoor.Base
