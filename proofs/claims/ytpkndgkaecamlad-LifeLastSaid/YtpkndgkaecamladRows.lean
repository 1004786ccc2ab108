/-
  No cell of these rows narrows 'for every input' (looked for: loops, veiled, ifaces, maps, wideKeys, modest, calm, conditions, laid).
  DERIVED. THE GIVEN ROWS OF THIS SEAT. 3 by the template 'for every input the law returns true; each argument reads behind the call as it read before'; 0 by the template 'total and deterministic' (their statements: YtpkndgkaecamladTotals.lean).
  GIVEN WITH THE SEED: the statements are not yours to turn. If you find one false, say at which input.
  Laid BY PROGRAM, IN A SANDBOX (cutbox-rows.mjs): the forced cells as the released guide's own fill.sh prints them over the translation 0323c4120eeb4f55… (all of the seat's roots in one cut). By AI agents, Wed Nov 11 2026. No macro, syntax, notation, axiom, sorry.
-/
import Derived.Test.YtpkndgkaecamladChecked
import GoSem.Claim
import GoSem.ClaimJoined
import GoSem.ClaimMapViews
import Derived.JoinedTies
import Derived.KernelRfl
namespace Go.Proofs.Ytpkndgkaecamlad
/- THE CELL 'sum', in the pinned program and in every row, IS THE sha256 OF THE DUMP (.gsa) THAT YtpkndgkaecamladProg.lean LOADS. Nothing in Lean hashes anything: it is a label: what it is worth is what the hold of that sum in a sandbox is worth. -/
noncomputable def Try.pinned : Pinned := { name := "ytpkndgkaecamlad", sum := "0323c4120eeb4f5560e8d482c8dfcca781d4ed220091b51822d7bb6c6081cec1", checked := Try.checked }
namespace Rows
def none {H : Type} : Left H := { results := [], args := [] }

/-- 'eiderdownlaw.LifeRename': WHATEVER THE INPUT: true; the input reads as it did. -/
def lifeRenameSpec : ChangeSpec := { name := "lifeRename", fn := fun _ => fun
  | [d1, d2, d3] => { results := [.lit (.bool true)], args := [d1, d2, d3] }
  | _ => none }
def lifeRenameRow : OpenClaim := { program := "ytpkndgkaecamlad", sum := "0323c4120eeb4f5560e8d482c8dfcca781d4ed220091b51822d7bb6c6081cec1", func := "eiderdown/eiderdownlaw.LifeRename", spec := "lifeRename", unfollowed := true, recurses := true, apart := false }
def LifeRenameSaid : Prop := lifeRenameRow.holds Try.pinned (OpenSpec.ofChange lifeRenameSpec)

/-- ITS FALSE NEIGHBOUR: 'it returns false'. Refute it at one input. -/
def lifeRenameWrong : ChangeSpec := { name := "lifeRename", fn := fun _ => fun
  | [d1, d2, d3] => { results := [.lit (.bool false)], args := [d1, d2, d3] }
  | _ => none }
def LifeRenameWrongFalsely : Prop := lifeRenameRow.holds Try.pinned (OpenSpec.ofChange lifeRenameWrong)

/-- 'eiderdownlaw.LifeLast': WHATEVER THE INPUT: true; the input reads as it did. -/
def lifeLastSpec : ChangeSpec := { name := "lifeLast", fn := fun _ => fun
  | [d1, d2, d3] => { results := [.lit (.bool true)], args := [d1, d2, d3] }
  | _ => none }
def lifeLastRow : OpenClaim := { program := "ytpkndgkaecamlad", sum := "0323c4120eeb4f5560e8d482c8dfcca781d4ed220091b51822d7bb6c6081cec1", func := "eiderdown/eiderdownlaw.LifeLast", spec := "lifeLast", unfollowed := true, recurses := true, apart := false }
def LifeLastSaid : Prop := lifeLastRow.holds Try.pinned (OpenSpec.ofChange lifeLastSpec)

/-- ITS FALSE NEIGHBOUR: 'it returns false'. Refute it at one input. -/
def lifeLastWrong : ChangeSpec := { name := "lifeLast", fn := fun _ => fun
  | [d1, d2, d3] => { results := [.lit (.bool false)], args := [d1, d2, d3] }
  | _ => none }
def LifeLastWrongFalsely : Prop := lifeLastRow.holds Try.pinned (OpenSpec.ofChange lifeLastWrong)

/-- 'eiderdownlaw.LifeSync': WHATEVER THE INPUT: true; the input reads as it did. -/
def lifeSyncSpec : ChangeSpec := { name := "lifeSync", fn := fun _ => fun
  | [d] => { results := [.lit (.bool true)], args := [d] }
  | _ => none }
def lifeSyncRow : OpenClaim := { program := "ytpkndgkaecamlad", sum := "0323c4120eeb4f5560e8d482c8dfcca781d4ed220091b51822d7bb6c6081cec1", func := "eiderdown/eiderdownlaw.LifeSync", spec := "lifeSync", unfollowed := true, recurses := true, apart := false }
def LifeSyncSaid : Prop := lifeSyncRow.holds Try.pinned (OpenSpec.ofChange lifeSyncSpec)

/-- ITS FALSE NEIGHBOUR: 'it returns false'. Refute it at one input. -/
def lifeSyncWrong : ChangeSpec := { name := "lifeSync", fn := fun _ => fun
  | [d] => { results := [.lit (.bool false)], args := [d] }
  | _ => none }
def LifeSyncWrongFalsely : Prop := lifeSyncRow.holds Try.pinned (OpenSpec.ofChange lifeSyncWrong)

/- THE SECOND FORM. 'bulk': how many values and letters a reading holds, each counted each time it is reached (what is shared counts as often as it is met; a slice's spare places count too). A statement '..UptoSaid' is the law's where the arguments, and the package variables that the reading takes, are together of bulk at most 1048576: NARROWER than '..Said'. Prove '..Said' where nothing that the law and all that it calls make is longer than what came in: it says more and counts as full. Else prove '..UptoSaid'. A law counts once. -/
mutual
def uptoBulk {H : Type} : DataW H → Nat
  | .lit (.string bytes) => bytes.length + 1
  | .lit _ => 1
  | .nil => 1
  | .ptr d => uptoBulk d + 1
  | .slice elems spare => uptoBulkAll elems + uptoBulkAll spare + 1
  | .agg parts => uptoBulkAll parts + 1
  | .iface _ d => uptoBulk d + 1
  | .map entries => uptoBulkEntries entries + 1
  | .held _ => 1
def uptoBulkAll {H : Type} : List (DataW H) → Nat
  | [] => 0
  | d :: r => uptoBulk d + uptoBulkAll r
def uptoBulkEntries {H : Type} : List (Lit × DataW H) → Nat
  | [] => 0
  | x :: r => uptoBulkEntry x + uptoBulkEntries r
def uptoBulkEntry {H : Type} : Lit × DataW H → Nat
  | (.string bytes, d) => bytes.length + uptoBulk d + 1
  | (_, d) => uptoBulk d + 1
 end
def uptoSmall : (H : Type) → List (DataW H) → Bool := fun _ ds => decide (uptoBulkAll ds ≤ 1048576)
def OpenSpec.upto (s : _root_.Go.ChangeSpec) : _root_.Go.OpenSpec := { _root_.Go.OpenSpec.ofChange s with cond := some uptoSmall }

/-- 'eiderdownlaw.LifeRename', WHERE WHAT IT READS IS OF BULK AT MOST 1048576: true; the input reads as it did. -/
def lifeRenameUptoRow : OpenClaim := { program := "ytpkndgkaecamlad", sum := "0323c4120eeb4f5560e8d482c8dfcca781d4ed220091b51822d7bb6c6081cec1", func := "eiderdown/eiderdownlaw.LifeRename", spec := "lifeRename", unfollowed := true, recurses := true, apart := false, narrowed := true }
def LifeRenameUptoSaid : Prop := lifeRenameUptoRow.holds Try.pinned (OpenSpec.upto lifeRenameSpec)

/-- 'eiderdownlaw.LifeLast', WHERE WHAT IT READS IS OF BULK AT MOST 1048576: true; the input reads as it did. -/
def lifeLastUptoRow : OpenClaim := { program := "ytpkndgkaecamlad", sum := "0323c4120eeb4f5560e8d482c8dfcca781d4ed220091b51822d7bb6c6081cec1", func := "eiderdown/eiderdownlaw.LifeLast", spec := "lifeLast", unfollowed := true, recurses := true, apart := false, narrowed := true }
def LifeLastUptoSaid : Prop := lifeLastUptoRow.holds Try.pinned (OpenSpec.upto lifeLastSpec)

/-- 'eiderdownlaw.LifeSync', WHERE WHAT IT READS IS OF BULK AT MOST 1048576: true; the input reads as it did. -/
def lifeSyncUptoRow : OpenClaim := { program := "ytpkndgkaecamlad", sum := "0323c4120eeb4f5560e8d482c8dfcca781d4ed220091b51822d7bb6c6081cec1", func := "eiderdown/eiderdownlaw.LifeSync", spec := "lifeSync", unfollowed := true, recurses := true, apart := false, narrowed := true }
def LifeSyncUptoSaid : Prop := lifeSyncUptoRow.holds Try.pinned (OpenSpec.upto lifeSyncSpec)

end Rows
end Go.Proofs.Ytpkndgkaecamlad
