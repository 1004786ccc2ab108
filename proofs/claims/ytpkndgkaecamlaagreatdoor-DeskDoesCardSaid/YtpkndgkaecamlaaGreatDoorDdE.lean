/- What the listed variables give. -/
import Derived.Test.YtpkndgkaecamlaaGreatDoorDdD
import Derived.Stop.LaidErr
import Derived.LaidMore
import Derived.Stop.Joined
import Derived.SevenTiedAt
import Derived.OpenShut
import Derived.Lib.LaidTab
import Derived.JoinedCond
import Derived.ProofKit
import Derived.Lay

set_option linter.unusedSectionVars false
set_option linter.unnecessarySimpa false
set_option linter.unusedVariables false
set_option linter.unusedSimpArgs false
namespace Go.Proofs.YtpkndgkaecamlaaGreatDoor.Base
set_option linter.unusedVariables false
set_option maxRecDepth 100000
open Go.Mini Go.ChangeShapes Go.WideShapes Go.ChangeAt Go.RowKit
theorem rowErr(u:TypeId)(h:Tryz.prog.typeName? 3 u=some "*errors.errorString"):u=218:=
  typeName_ptr_named (nm:= "errors.errorString") (by kernel_rfl) (by kernel_rfl) (by decide) u h
abbrev laidL:List (String×DataW Unit):=Rows.deskDoesRow.laid
theorem cond_of_laid{W:World}(h:laidMetH Tryz.prog Rows.deskDoesRow.laid W)(hsh:W.ShapedOpen Tryz.prog):Cond W:=by
  rw[MakeChecks.laidMetH_plain _ _ _ (by kernel_rfl)]at h
  have h3:=laidMet.tail (laidMet.tail h)
  have h5:=laidMet.tail (laidMet.tail h3)
  have h6:=laidMet.tail h5
  refine⟨?_,?_,?_,Tryz.laysM146.s1_3 W hsh⟩
  ·exact Lib.tabIs_of_head (P:=Tryz.prog) (name:= "internal/strconv.uint64pow10") (k:=.u64) (zs:=Lib.pow10Tab) (g:=5) (by kernel_rfl) (by kernel_rfl) Tryz.underlying223 Tryz.underlying126 (by kernel_rfl) (by kernel_rfl) h3
  ·obtain⟨a,s,hv,_⟩:=laid_sentinel h6 (g:=3) (by kernel_rfl) (by kernel_rfl) Tryz.underlying104 rowErr Tryz.underlying218 Tryz.underlying220 rfl rfl Tryz.underlying9 (by kernel_rfl) (by kernel_rfl)
   have:=World.var?_cell (P:=Tryz.prog) (g:=3) (by kernel_rfl) hv 0
   exact⟨_,_,by simpa using this⟩
  ·obtain⟨a,s,hv,_⟩:=laid_sentinel h5 (g:=4) (by kernel_rfl) (by kernel_rfl) Tryz.underlying104 rowErr Tryz.underlying218 Tryz.underlying220 rfl rfl Tryz.underlying9 (by kernel_rfl) (by kernel_rfl)
   have:=World.var?_cell (P:=Tryz.prog) (g:=4) (by kernel_rfl) hv 0
   exact⟨_,_,by simpa using this⟩

theorem door_met(os:Os)(args:Array Value):laidMetH Tryz.prog Rows.deskDoesRow.laid ((World.laidAll Tryz.prog os Rows.deskDoesRow.laid).forCall (fun _ _=>0) ⟨#[],args,[]⟩).memory:=by
  rw[MakeChecks.laidMetH_plain _ _ _ (by kernel_rfl)]
  exact laidMet_laidAll _ (by kernel_rfl) (by kernel_rfl)
end Go.Proofs.YtpkndgkaecamlaaGreatDoor.Base
