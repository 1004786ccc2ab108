/-
  No cell of these rows narrows 'for every input' (looked for: loops, veiled, ifaces, maps, wideKeys, modest, calm, conditions, laid).
  DERIVED. THE GIVEN ROWS OF THIS SEAT. 11 by the template 'for every input the law returns true; each argument reads behind the call as it read before'; 0 by the template 'total and deterministic' (their statements: YtpkndgkaecamlacTotals.lean).
  GIVEN WITH THE SEED: the statements are not yours to turn. If you find one false, say at which input.
  Laid BY PROGRAM, IN A SANDBOX (cutbox-rows.mjs): the forced cells as the released guide's own fill.sh prints them over the translation 402672e90b327f41… (all of the seat's roots in one cut). By AI agents, Wed Nov 11 2026. No macro, syntax, notation, axiom, sorry.
-/
import Derived.Test.YtpkndgkaecamlacChecked
import GoSem.Claim
import GoSem.ClaimJoined
import GoSem.ClaimMapViews
import Derived.JoinedTies
import Derived.KernelRfl
namespace Go.Proofs.Ytpkndgkaecamlac
/- THE CELL 'sum', in the pinned program and in every row, IS THE sha256 OF THE DUMP (.gsa) THAT YtpkndgkaecamlacProg.lean LOADS. Nothing in Lean hashes anything: it is a label: what it is worth is what the hold of that sum in a sandbox is worth. -/
noncomputable def Try.pinned : Pinned := { name := "ytpkndgkaecamlac", sum := "402672e90b327f410697cf3386636e9c274444f5ee5f5c2e73e94241b30c11cb", checked := Try.checked }
namespace Rows
def none {H : Type} : Left H := { results := [], args := [] }

/-- 'eiderdownlaw.SoftDoes': WHATEVER THE INPUT: true; the input reads as it did. -/
def softDoesSpec : ChangeSpec := { name := "softDoes", fn := fun _ => fun
  | [d1, d2, d3] => { results := [.lit (.bool true)], args := [d1, d2, d3] }
  | _ => none }
def softDoesRow : OpenClaim := { program := "ytpkndgkaecamlac", sum := "402672e90b327f410697cf3386636e9c274444f5ee5f5c2e73e94241b30c11cb", func := "eiderdown/eiderdownlaw.SoftDoes", spec := "softDoes", unfollowed := true, recurses := true, apart := false }
def SoftDoesSaid : Prop := softDoesRow.holds Try.pinned (OpenSpec.ofChange softDoesSpec)

/-- ITS FALSE NEIGHBOUR: 'it returns false'. Refute it at one input. -/
def softDoesWrong : ChangeSpec := { name := "softDoes", fn := fun _ => fun
  | [d1, d2, d3] => { results := [.lit (.bool false)], args := [d1, d2, d3] }
  | _ => none }
def SoftDoesWrongFalsely : Prop := softDoesRow.holds Try.pinned (OpenSpec.ofChange softDoesWrong)

/-- 'eiderdownlaw.SoftIdeal': WHATEVER THE INPUT: true; the input reads as it did. -/
def softIdealSpec : ChangeSpec := { name := "softIdeal", fn := fun _ => fun
  | [d] => { results := [.lit (.bool true)], args := [d] }
  | _ => none }
def softIdealRow : OpenClaim := { program := "ytpkndgkaecamlac", sum := "402672e90b327f410697cf3386636e9c274444f5ee5f5c2e73e94241b30c11cb", func := "eiderdown/eiderdownlaw.SoftIdeal", spec := "softIdeal", unfollowed := true, recurses := true, apart := false }
def SoftIdealSaid : Prop := softIdealRow.holds Try.pinned (OpenSpec.ofChange softIdealSpec)

/-- ITS FALSE NEIGHBOUR: 'it returns false'. Refute it at one input. -/
def softIdealWrong : ChangeSpec := { name := "softIdeal", fn := fun _ => fun
  | [d] => { results := [.lit (.bool false)], args := [d] }
  | _ => none }
def SoftIdealWrongFalsely : Prop := softIdealRow.holds Try.pinned (OpenSpec.ofChange softIdealWrong)

/-- 'eiderdownlaw.SoftAgain': WHATEVER THE INPUT: true; the input reads as it did. -/
def softAgainSpec : ChangeSpec := { name := "softAgain", fn := fun _ => fun
  | [d] => { results := [.lit (.bool true)], args := [d] }
  | _ => none }
def softAgainRow : OpenClaim := { program := "ytpkndgkaecamlac", sum := "402672e90b327f410697cf3386636e9c274444f5ee5f5c2e73e94241b30c11cb", func := "eiderdown/eiderdownlaw.SoftAgain", spec := "softAgain", unfollowed := true, recurses := true, apart := false }
def SoftAgainSaid : Prop := softAgainRow.holds Try.pinned (OpenSpec.ofChange softAgainSpec)

/-- ITS FALSE NEIGHBOUR: 'it returns false'. Refute it at one input. -/
def softAgainWrong : ChangeSpec := { name := "softAgain", fn := fun _ => fun
  | [d] => { results := [.lit (.bool false)], args := [d] }
  | _ => none }
def SoftAgainWrongFalsely : Prop := softAgainRow.holds Try.pinned (OpenSpec.ofChange softAgainWrong)

/-- 'eiderdownlaw.SoftFresh': WHATEVER THE INPUT: true; the input reads as it did. -/
def softFreshSpec : ChangeSpec := { name := "softFresh", fn := fun _ => fun
  | [d1, d2, d3] => { results := [.lit (.bool true)], args := [d1, d2, d3] }
  | _ => none }
def softFreshRow : OpenClaim := { program := "ytpkndgkaecamlac", sum := "402672e90b327f410697cf3386636e9c274444f5ee5f5c2e73e94241b30c11cb", func := "eiderdown/eiderdownlaw.SoftFresh", spec := "softFresh", unfollowed := true, recurses := true, apart := false }
def SoftFreshSaid : Prop := softFreshRow.holds Try.pinned (OpenSpec.ofChange softFreshSpec)

/-- ITS FALSE NEIGHBOUR: 'it returns false'. Refute it at one input. -/
def softFreshWrong : ChangeSpec := { name := "softFresh", fn := fun _ => fun
  | [d1, d2, d3] => { results := [.lit (.bool false)], args := [d1, d2, d3] }
  | _ => none }
def SoftFreshWrongFalsely : Prop := softFreshRow.holds Try.pinned (OpenSpec.ofChange softFreshWrong)

/-- 'eiderdownlaw.SoftExact': WHATEVER THE INPUT: true; the input reads as it did. -/
def softExactSpec : ChangeSpec := { name := "softExact", fn := fun _ => fun
  | [d] => { results := [.lit (.bool true)], args := [d] }
  | _ => none }
def softExactRow : OpenClaim := { program := "ytpkndgkaecamlac", sum := "402672e90b327f410697cf3386636e9c274444f5ee5f5c2e73e94241b30c11cb", func := "eiderdown/eiderdownlaw.SoftExact", spec := "softExact", unfollowed := true, recurses := true, apart := false }
def SoftExactSaid : Prop := softExactRow.holds Try.pinned (OpenSpec.ofChange softExactSpec)

/-- ITS FALSE NEIGHBOUR: 'it returns false'. Refute it at one input. -/
def softExactWrong : ChangeSpec := { name := "softExact", fn := fun _ => fun
  | [d] => { results := [.lit (.bool false)], args := [d] }
  | _ => none }
def SoftExactWrongFalsely : Prop := softExactRow.holds Try.pinned (OpenSpec.ofChange softExactWrong)

/-- 'eiderdownlaw.LifeDoes': WHATEVER THE INPUT: true; the input reads as it did. -/
def lifeDoesSpec : ChangeSpec := { name := "lifeDoes", fn := fun _ => fun
  | [d] => { results := [.lit (.bool true)], args := [d] }
  | _ => none }
def lifeDoesRow : OpenClaim := { program := "ytpkndgkaecamlac", sum := "402672e90b327f410697cf3386636e9c274444f5ee5f5c2e73e94241b30c11cb", func := "eiderdown/eiderdownlaw.LifeDoes", spec := "lifeDoes", unfollowed := true, recurses := true, apart := false }
def LifeDoesSaid : Prop := lifeDoesRow.holds Try.pinned (OpenSpec.ofChange lifeDoesSpec)

/-- ITS FALSE NEIGHBOUR: 'it returns false'. Refute it at one input. -/
def lifeDoesWrong : ChangeSpec := { name := "lifeDoes", fn := fun _ => fun
  | [d] => { results := [.lit (.bool false)], args := [d] }
  | _ => none }
def LifeDoesWrongFalsely : Prop := lifeDoesRow.holds Try.pinned (OpenSpec.ofChange lifeDoesWrong)

/-- 'eiderdownlaw.LifeMends': WHATEVER THE INPUT: true; the input reads as it did. -/
def lifeMendsSpec : ChangeSpec := { name := "lifeMends", fn := fun _ => fun
  | [d] => { results := [.lit (.bool true)], args := [d] }
  | _ => none }
def lifeMendsRow : OpenClaim := { program := "ytpkndgkaecamlac", sum := "402672e90b327f410697cf3386636e9c274444f5ee5f5c2e73e94241b30c11cb", func := "eiderdown/eiderdownlaw.LifeMends", spec := "lifeMends", unfollowed := true, recurses := true, apart := false }
def LifeMendsSaid : Prop := lifeMendsRow.holds Try.pinned (OpenSpec.ofChange lifeMendsSpec)

/-- ITS FALSE NEIGHBOUR: 'it returns false'. Refute it at one input. -/
def lifeMendsWrong : ChangeSpec := { name := "lifeMends", fn := fun _ => fun
  | [d] => { results := [.lit (.bool false)], args := [d] }
  | _ => none }
def LifeMendsWrongFalsely : Prop := lifeMendsRow.holds Try.pinned (OpenSpec.ofChange lifeMendsWrong)

/-- 'eiderdownlaw.LifeKeeps': WHATEVER THE INPUT: true; the input reads as it did. -/
def lifeKeepsSpec : ChangeSpec := { name := "lifeKeeps", fn := fun _ => fun
  | [d] => { results := [.lit (.bool true)], args := [d] }
  | _ => none }
def lifeKeepsRow : OpenClaim := { program := "ytpkndgkaecamlac", sum := "402672e90b327f410697cf3386636e9c274444f5ee5f5c2e73e94241b30c11cb", func := "eiderdown/eiderdownlaw.LifeKeeps", spec := "lifeKeeps", unfollowed := true, recurses := true, apart := false }
def LifeKeepsSaid : Prop := lifeKeepsRow.holds Try.pinned (OpenSpec.ofChange lifeKeepsSpec)

/-- ITS FALSE NEIGHBOUR: 'it returns false'. Refute it at one input. -/
def lifeKeepsWrong : ChangeSpec := { name := "lifeKeeps", fn := fun _ => fun
  | [d] => { results := [.lit (.bool false)], args := [d] }
  | _ => none }
def LifeKeepsWrongFalsely : Prop := lifeKeepsRow.holds Try.pinned (OpenSpec.ofChange lifeKeepsWrong)

/-- 'eiderdownlaw.LifeOwn': WHATEVER THE INPUT: true; the input reads as it did. -/
def lifeOwnSpec : ChangeSpec := { name := "lifeOwn", fn := fun _ => fun
  | [d] => { results := [.lit (.bool true)], args := [d] }
  | _ => none }
def lifeOwnRow : OpenClaim := { program := "ytpkndgkaecamlac", sum := "402672e90b327f410697cf3386636e9c274444f5ee5f5c2e73e94241b30c11cb", func := "eiderdown/eiderdownlaw.LifeOwn", spec := "lifeOwn", unfollowed := true, recurses := true, apart := false }
def LifeOwnSaid : Prop := lifeOwnRow.holds Try.pinned (OpenSpec.ofChange lifeOwnSpec)

/-- ITS FALSE NEIGHBOUR: 'it returns false'. Refute it at one input. -/
def lifeOwnWrong : ChangeSpec := { name := "lifeOwn", fn := fun _ => fun
  | [d] => { results := [.lit (.bool false)], args := [d] }
  | _ => none }
def LifeOwnWrongFalsely : Prop := lifeOwnRow.holds Try.pinned (OpenSpec.ofChange lifeOwnWrong)

/-- 'eiderdownlaw.LifeAgain': WHATEVER THE INPUT: true; the input reads as it did. -/
def lifeAgainSpec : ChangeSpec := { name := "lifeAgain", fn := fun _ => fun
  | [d] => { results := [.lit (.bool true)], args := [d] }
  | _ => none }
def lifeAgainRow : OpenClaim := { program := "ytpkndgkaecamlac", sum := "402672e90b327f410697cf3386636e9c274444f5ee5f5c2e73e94241b30c11cb", func := "eiderdown/eiderdownlaw.LifeAgain", spec := "lifeAgain", unfollowed := true, recurses := true, apart := false }
def LifeAgainSaid : Prop := lifeAgainRow.holds Try.pinned (OpenSpec.ofChange lifeAgainSpec)

/-- ITS FALSE NEIGHBOUR: 'it returns false'. Refute it at one input. -/
def lifeAgainWrong : ChangeSpec := { name := "lifeAgain", fn := fun _ => fun
  | [d] => { results := [.lit (.bool false)], args := [d] }
  | _ => none }
def LifeAgainWrongFalsely : Prop := lifeAgainRow.holds Try.pinned (OpenSpec.ofChange lifeAgainWrong)

/-- 'eiderdownlaw.LifeNever': WHATEVER THE INPUT: true; the input reads as it did. -/
def lifeNeverSpec : ChangeSpec := { name := "lifeNever", fn := fun _ => fun
  | [d1, d2] => { results := [.lit (.bool true)], args := [d1, d2] }
  | _ => none }
def lifeNeverRow : OpenClaim := { program := "ytpkndgkaecamlac", sum := "402672e90b327f410697cf3386636e9c274444f5ee5f5c2e73e94241b30c11cb", func := "eiderdown/eiderdownlaw.LifeNever", spec := "lifeNever", unfollowed := true, recurses := true, apart := false }
def LifeNeverSaid : Prop := lifeNeverRow.holds Try.pinned (OpenSpec.ofChange lifeNeverSpec)

/-- ITS FALSE NEIGHBOUR: 'it returns false'. Refute it at one input. -/
def lifeNeverWrong : ChangeSpec := { name := "lifeNever", fn := fun _ => fun
  | [d1, d2] => { results := [.lit (.bool false)], args := [d1, d2] }
  | _ => none }
def LifeNeverWrongFalsely : Prop := lifeNeverRow.holds Try.pinned (OpenSpec.ofChange lifeNeverWrong)

/- THE SECOND FORM. 'bulk': how many values and letters a reading holds, each counted each time it is reached (what is shared counts as often as it is met; a slice's spare places count too). A statement '..UptoSaid' is the law's where the arguments, and the package variables that the reading takes, are together of bulk at most 1048576: NARROWER than '..Said'. Prove '..Said' where nothing that the law and all that it calls make is longer than what came in: it says more and counts as full. Else prove '..UptoSaid'. A law counts once. -/
mutual
def uptoBulk {H : Type} : DataW H → Nat
  | .lit (.string bytes) => bytes.length + 1
  | .lit _ => 1
  | .nil => 1
  | .ptr d => uptoBulk d + 1
  | .slice elems spare => uptoBulkAll elems + uptoBulkAll spare + 1
  | .agg parts => uptoBulkAll parts + 1
  | .iface _ d => uptoBulk d + 1
  | .map entries => uptoBulkEntries entries + 1
  | .held _ => 1
def uptoBulkAll {H : Type} : List (DataW H) → Nat
  | [] => 0
  | d :: r => uptoBulk d + uptoBulkAll r
def uptoBulkEntries {H : Type} : List (Lit × DataW H) → Nat
  | [] => 0
  | x :: r => uptoBulkEntry x + uptoBulkEntries r
def uptoBulkEntry {H : Type} : Lit × DataW H → Nat
  | (.string bytes, d) => bytes.length + uptoBulk d + 1
  | (_, d) => uptoBulk d + 1
 end
def uptoSmall : (H : Type) → List (DataW H) → Bool := fun _ ds => decide (uptoBulkAll ds ≤ 1048576)
def OpenSpec.upto (s : _root_.Go.ChangeSpec) : _root_.Go.OpenSpec := { _root_.Go.OpenSpec.ofChange s with cond := some uptoSmall }

/-- 'eiderdownlaw.SoftDoes', WHERE WHAT IT READS IS OF BULK AT MOST 1048576: true; the input reads as it did. -/
def softDoesUptoRow : OpenClaim := { program := "ytpkndgkaecamlac", sum := "402672e90b327f410697cf3386636e9c274444f5ee5f5c2e73e94241b30c11cb", func := "eiderdown/eiderdownlaw.SoftDoes", spec := "softDoes", unfollowed := true, recurses := true, apart := false, narrowed := true }
def SoftDoesUptoSaid : Prop := softDoesUptoRow.holds Try.pinned (OpenSpec.upto softDoesSpec)

/-- 'eiderdownlaw.SoftIdeal', WHERE WHAT IT READS IS OF BULK AT MOST 1048576: true; the input reads as it did. -/
def softIdealUptoRow : OpenClaim := { program := "ytpkndgkaecamlac", sum := "402672e90b327f410697cf3386636e9c274444f5ee5f5c2e73e94241b30c11cb", func := "eiderdown/eiderdownlaw.SoftIdeal", spec := "softIdeal", unfollowed := true, recurses := true, apart := false, narrowed := true }
def SoftIdealUptoSaid : Prop := softIdealUptoRow.holds Try.pinned (OpenSpec.upto softIdealSpec)

/-- 'eiderdownlaw.SoftAgain', WHERE WHAT IT READS IS OF BULK AT MOST 1048576: true; the input reads as it did. -/
def softAgainUptoRow : OpenClaim := { program := "ytpkndgkaecamlac", sum := "402672e90b327f410697cf3386636e9c274444f5ee5f5c2e73e94241b30c11cb", func := "eiderdown/eiderdownlaw.SoftAgain", spec := "softAgain", unfollowed := true, recurses := true, apart := false, narrowed := true }
def SoftAgainUptoSaid : Prop := softAgainUptoRow.holds Try.pinned (OpenSpec.upto softAgainSpec)

/-- 'eiderdownlaw.SoftFresh', WHERE WHAT IT READS IS OF BULK AT MOST 1048576: true; the input reads as it did. -/
def softFreshUptoRow : OpenClaim := { program := "ytpkndgkaecamlac", sum := "402672e90b327f410697cf3386636e9c274444f5ee5f5c2e73e94241b30c11cb", func := "eiderdown/eiderdownlaw.SoftFresh", spec := "softFresh", unfollowed := true, recurses := true, apart := false, narrowed := true }
def SoftFreshUptoSaid : Prop := softFreshUptoRow.holds Try.pinned (OpenSpec.upto softFreshSpec)

/-- 'eiderdownlaw.SoftExact', WHERE WHAT IT READS IS OF BULK AT MOST 1048576: true; the input reads as it did. -/
def softExactUptoRow : OpenClaim := { program := "ytpkndgkaecamlac", sum := "402672e90b327f410697cf3386636e9c274444f5ee5f5c2e73e94241b30c11cb", func := "eiderdown/eiderdownlaw.SoftExact", spec := "softExact", unfollowed := true, recurses := true, apart := false, narrowed := true }
def SoftExactUptoSaid : Prop := softExactUptoRow.holds Try.pinned (OpenSpec.upto softExactSpec)

/-- 'eiderdownlaw.LifeDoes', WHERE WHAT IT READS IS OF BULK AT MOST 1048576: true; the input reads as it did. -/
def lifeDoesUptoRow : OpenClaim := { program := "ytpkndgkaecamlac", sum := "402672e90b327f410697cf3386636e9c274444f5ee5f5c2e73e94241b30c11cb", func := "eiderdown/eiderdownlaw.LifeDoes", spec := "lifeDoes", unfollowed := true, recurses := true, apart := false, narrowed := true }
def LifeDoesUptoSaid : Prop := lifeDoesUptoRow.holds Try.pinned (OpenSpec.upto lifeDoesSpec)

/-- 'eiderdownlaw.LifeMends', WHERE WHAT IT READS IS OF BULK AT MOST 1048576: true; the input reads as it did. -/
def lifeMendsUptoRow : OpenClaim := { program := "ytpkndgkaecamlac", sum := "402672e90b327f410697cf3386636e9c274444f5ee5f5c2e73e94241b30c11cb", func := "eiderdown/eiderdownlaw.LifeMends", spec := "lifeMends", unfollowed := true, recurses := true, apart := false, narrowed := true }
def LifeMendsUptoSaid : Prop := lifeMendsUptoRow.holds Try.pinned (OpenSpec.upto lifeMendsSpec)

/-- 'eiderdownlaw.LifeKeeps', WHERE WHAT IT READS IS OF BULK AT MOST 1048576: true; the input reads as it did. -/
def lifeKeepsUptoRow : OpenClaim := { program := "ytpkndgkaecamlac", sum := "402672e90b327f410697cf3386636e9c274444f5ee5f5c2e73e94241b30c11cb", func := "eiderdown/eiderdownlaw.LifeKeeps", spec := "lifeKeeps", unfollowed := true, recurses := true, apart := false, narrowed := true }
def LifeKeepsUptoSaid : Prop := lifeKeepsUptoRow.holds Try.pinned (OpenSpec.upto lifeKeepsSpec)

/-- 'eiderdownlaw.LifeOwn', WHERE WHAT IT READS IS OF BULK AT MOST 1048576: true; the input reads as it did. -/
def lifeOwnUptoRow : OpenClaim := { program := "ytpkndgkaecamlac", sum := "402672e90b327f410697cf3386636e9c274444f5ee5f5c2e73e94241b30c11cb", func := "eiderdown/eiderdownlaw.LifeOwn", spec := "lifeOwn", unfollowed := true, recurses := true, apart := false, narrowed := true }
def LifeOwnUptoSaid : Prop := lifeOwnUptoRow.holds Try.pinned (OpenSpec.upto lifeOwnSpec)

/-- 'eiderdownlaw.LifeAgain', WHERE WHAT IT READS IS OF BULK AT MOST 1048576: true; the input reads as it did. -/
def lifeAgainUptoRow : OpenClaim := { program := "ytpkndgkaecamlac", sum := "402672e90b327f410697cf3386636e9c274444f5ee5f5c2e73e94241b30c11cb", func := "eiderdown/eiderdownlaw.LifeAgain", spec := "lifeAgain", unfollowed := true, recurses := true, apart := false, narrowed := true }
def LifeAgainUptoSaid : Prop := lifeAgainUptoRow.holds Try.pinned (OpenSpec.upto lifeAgainSpec)

/-- 'eiderdownlaw.LifeNever', WHERE WHAT IT READS IS OF BULK AT MOST 1048576: true; the input reads as it did. -/
def lifeNeverUptoRow : OpenClaim := { program := "ytpkndgkaecamlac", sum := "402672e90b327f410697cf3386636e9c274444f5ee5f5c2e73e94241b30c11cb", func := "eiderdown/eiderdownlaw.LifeNever", spec := "lifeNever", unfollowed := true, recurses := true, apart := false, narrowed := true }
def LifeNeverUptoSaid : Prop := lifeNeverUptoRow.holds Try.pinned (OpenSpec.upto lifeNeverSpec)

end Rows
end Go.Proofs.Ytpkndgkaecamlac
