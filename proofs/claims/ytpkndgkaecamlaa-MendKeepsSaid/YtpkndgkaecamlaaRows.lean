/-
  No cell of these rows narrows 'for every input' (looked for: loops, veiled, ifaces, maps, wideKeys, modest, calm, conditions, laid).
  DERIVED. THE GIVEN ROWS OF THIS SEAT. 11 by the template 'for every input the law returns true; each argument reads behind the call as it read before'; 0 by the template 'total and deterministic' (their statements: YtpkndgkaecamlaaTotals.lean).
  GIVEN WITH THE SEED: the statements are not yours to turn. If you find one false, say at which input.
  Laid BY PROGRAM, IN A SANDBOX (cutbox-rows.mjs): the forced cells as the released guide's own fill.sh prints them over the translation fb55cbb23b3aa621… (all of the seat's roots in one cut). By AI agents, Wed Nov 11 2026. No macro, syntax, notation, axiom, sorry.
-/
import Derived.Test.YtpkndgkaecamlaaChecked
import GoSem.Claim
import GoSem.ClaimJoined
import GoSem.ClaimMapViews
import Derived.JoinedTies
import Derived.KernelRfl
namespace Go.Proofs.Ytpkndgkaecamlaa
/- THE CELL 'sum', in the pinned program and in every row, IS THE sha256 OF THE DUMP (.gsa) THAT YtpkndgkaecamlaaProg.lean LOADS. Nothing in Lean hashes anything: it is a label: what it is worth is what the hold of that sum in a sandbox is worth. -/
noncomputable def Try.pinned : Pinned := { name := "ytpkndgkaecamlaa", sum := "fb55cbb23b3aa6212c57720e12235248ebe5e9da26b2a42a4cb0dbf23cb96b4a", checked := Try.checked }
namespace Rows
def none {H : Type} : Left H := { results := [], args := [] }

/-- 'eiderdownlaw.SafeDoes': WHATEVER THE INPUT: true; the input reads as it did. -/
def safeDoesSpec : ChangeSpec := { name := "safeDoes", fn := fun _ => fun
  | [d1, d2, d3, d4, d5, d6] => { results := [.lit (.bool true)], args := [d1, d2, d3, d4, d5, d6] }
  | _ => none }
def safeDoesRow : OpenClaim := { program := "ytpkndgkaecamlaa", sum := "fb55cbb23b3aa6212c57720e12235248ebe5e9da26b2a42a4cb0dbf23cb96b4a", func := "eiderdown/eiderdownlaw.SafeDoes", spec := "safeDoes", apart := false }
def SafeDoesSaid : Prop := safeDoesRow.holds Try.pinned (OpenSpec.ofChange safeDoesSpec)

/-- ITS FALSE NEIGHBOUR: 'it returns false'. Refute it at one input. -/
def safeDoesWrong : ChangeSpec := { name := "safeDoes", fn := fun _ => fun
  | [d1, d2, d3, d4, d5, d6] => { results := [.lit (.bool false)], args := [d1, d2, d3, d4, d5, d6] }
  | _ => none }
def SafeDoesWrongFalsely : Prop := safeDoesRow.holds Try.pinned (OpenSpec.ofChange safeDoesWrong)

/-- 'eiderdownlaw.SafeUnion': WHATEVER THE INPUT: true; the input reads as it did. -/
def safeUnionSpec : ChangeSpec := { name := "safeUnion", fn := fun _ => fun
  | [d1, d2, d3] => { results := [.lit (.bool true)], args := [d1, d2, d3] }
  | _ => none }
def safeUnionRow : OpenClaim := { program := "ytpkndgkaecamlaa", sum := "fb55cbb23b3aa6212c57720e12235248ebe5e9da26b2a42a4cb0dbf23cb96b4a", func := "eiderdown/eiderdownlaw.SafeUnion", spec := "safeUnion", apart := false }
def SafeUnionSaid : Prop := safeUnionRow.holds Try.pinned (OpenSpec.ofChange safeUnionSpec)

/-- ITS FALSE NEIGHBOUR: 'it returns false'. Refute it at one input. -/
def safeUnionWrong : ChangeSpec := { name := "safeUnion", fn := fun _ => fun
  | [d1, d2, d3] => { results := [.lit (.bool false)], args := [d1, d2, d3] }
  | _ => none }
def SafeUnionWrongFalsely : Prop := safeUnionRow.holds Try.pinned (OpenSpec.ofChange safeUnionWrong)

/-- 'eiderdownlaw.SafeCounts': WHATEVER THE INPUT: true; the input reads as it did. -/
def safeCountsSpec : ChangeSpec := { name := "safeCounts", fn := fun _ => fun
  | [d1, d2, d3] => { results := [.lit (.bool true)], args := [d1, d2, d3] }
  | _ => none }
def safeCountsRow : OpenClaim := { program := "ytpkndgkaecamlaa", sum := "fb55cbb23b3aa6212c57720e12235248ebe5e9da26b2a42a4cb0dbf23cb96b4a", func := "eiderdown/eiderdownlaw.SafeCounts", spec := "safeCounts", apart := false }
def SafeCountsSaid : Prop := safeCountsRow.holds Try.pinned (OpenSpec.ofChange safeCountsSpec)

/-- ITS FALSE NEIGHBOUR: 'it returns false'. Refute it at one input. -/
def safeCountsWrong : ChangeSpec := { name := "safeCounts", fn := fun _ => fun
  | [d1, d2, d3] => { results := [.lit (.bool false)], args := [d1, d2, d3] }
  | _ => none }
def SafeCountsWrongFalsely : Prop := safeCountsRow.holds Try.pinned (OpenSpec.ofChange safeCountsWrong)

/-- 'eiderdownlaw.ImageDoes': WHATEVER THE INPUT: true; the input reads as it did. -/
def imageDoesSpec : ChangeSpec := { name := "imageDoes", fn := fun _ => fun
  | [d1, d2, d3, d4] => { results := [.lit (.bool true)], args := [d1, d2, d3, d4] }
  | _ => none }
def imageDoesRow : OpenClaim := { program := "ytpkndgkaecamlaa", sum := "fb55cbb23b3aa6212c57720e12235248ebe5e9da26b2a42a4cb0dbf23cb96b4a", func := "eiderdown/eiderdownlaw.ImageDoes", spec := "imageDoes", apart := false }
def ImageDoesSaid : Prop := imageDoesRow.holds Try.pinned (OpenSpec.ofChange imageDoesSpec)

/-- ITS FALSE NEIGHBOUR: 'it returns false'. Refute it at one input. -/
def imageDoesWrong : ChangeSpec := { name := "imageDoes", fn := fun _ => fun
  | [d1, d2, d3, d4] => { results := [.lit (.bool false)], args := [d1, d2, d3, d4] }
  | _ => none }
def ImageDoesWrongFalsely : Prop := imageDoesRow.holds Try.pinned (OpenSpec.ofChange imageDoesWrong)

/-- 'eiderdownlaw.ImageRefs': WHATEVER THE INPUT: true; the input reads as it did. -/
def imageRefsSpec : ChangeSpec := { name := "imageRefs", fn := fun _ => fun
  | [d] => { results := [.lit (.bool true)], args := [d] }
  | _ => none }
def imageRefsRow : OpenClaim := { program := "ytpkndgkaecamlaa", sum := "fb55cbb23b3aa6212c57720e12235248ebe5e9da26b2a42a4cb0dbf23cb96b4a", func := "eiderdown/eiderdownlaw.ImageRefs", spec := "imageRefs", apart := false }
def ImageRefsSaid : Prop := imageRefsRow.holds Try.pinned (OpenSpec.ofChange imageRefsSpec)

/-- ITS FALSE NEIGHBOUR: 'it returns false'. Refute it at one input. -/
def imageRefsWrong : ChangeSpec := { name := "imageRefs", fn := fun _ => fun
  | [d] => { results := [.lit (.bool false)], args := [d] }
  | _ => none }
def ImageRefsWrongFalsely : Prop := imageRefsRow.holds Try.pinned (OpenSpec.ofChange imageRefsWrong)

/-- 'eiderdownlaw.ImageExact': WHATEVER THE INPUT: true; the input reads as it did. -/
def imageExactSpec : ChangeSpec := { name := "imageExact", fn := fun _ => fun
  | [d1, d2, d3] => { results := [.lit (.bool true)], args := [d1, d2, d3] }
  | _ => none }
def imageExactRow : OpenClaim := { program := "ytpkndgkaecamlaa", sum := "fb55cbb23b3aa6212c57720e12235248ebe5e9da26b2a42a4cb0dbf23cb96b4a", func := "eiderdown/eiderdownlaw.ImageExact", spec := "imageExact", apart := false }
def ImageExactSaid : Prop := imageExactRow.holds Try.pinned (OpenSpec.ofChange imageExactSpec)

/-- ITS FALSE NEIGHBOUR: 'it returns false'. Refute it at one input. -/
def imageExactWrong : ChangeSpec := { name := "imageExact", fn := fun _ => fun
  | [d1, d2, d3] => { results := [.lit (.bool false)], args := [d1, d2, d3] }
  | _ => none }
def ImageExactWrongFalsely : Prop := imageExactRow.holds Try.pinned (OpenSpec.ofChange imageExactWrong)

/-- 'eiderdownlaw.ImageFind': WHATEVER THE INPUT: true; the input reads as it did. -/
def imageFindSpec : ChangeSpec := { name := "imageFind", fn := fun _ => fun
  | [d1, d2, d3] => { results := [.lit (.bool true)], args := [d1, d2, d3] }
  | _ => none }
def imageFindRow : OpenClaim := { program := "ytpkndgkaecamlaa", sum := "fb55cbb23b3aa6212c57720e12235248ebe5e9da26b2a42a4cb0dbf23cb96b4a", func := "eiderdown/eiderdownlaw.ImageFind", spec := "imageFind", apart := false }
def ImageFindSaid : Prop := imageFindRow.holds Try.pinned (OpenSpec.ofChange imageFindSpec)

/-- ITS FALSE NEIGHBOUR: 'it returns false'. Refute it at one input. -/
def imageFindWrong : ChangeSpec := { name := "imageFind", fn := fun _ => fun
  | [d1, d2, d3] => { results := [.lit (.bool false)], args := [d1, d2, d3] }
  | _ => none }
def ImageFindWrongFalsely : Prop := imageFindRow.holds Try.pinned (OpenSpec.ofChange imageFindWrong)

/-- 'eiderdownlaw.MendDoes': WHATEVER THE INPUT: true; the input reads as it did. -/
def mendDoesSpec : ChangeSpec := { name := "mendDoes", fn := fun _ => fun
  | [d] => { results := [.lit (.bool true)], args := [d] }
  | _ => none }
def mendDoesRow : OpenClaim := { program := "ytpkndgkaecamlaa", sum := "fb55cbb23b3aa6212c57720e12235248ebe5e9da26b2a42a4cb0dbf23cb96b4a", func := "eiderdown/eiderdownlaw.MendDoes", spec := "mendDoes", apart := false }
def MendDoesSaid : Prop := mendDoesRow.holds Try.pinned (OpenSpec.ofChange mendDoesSpec)

/-- ITS FALSE NEIGHBOUR: 'it returns false'. Refute it at one input. -/
def mendDoesWrong : ChangeSpec := { name := "mendDoes", fn := fun _ => fun
  | [d] => { results := [.lit (.bool false)], args := [d] }
  | _ => none }
def MendDoesWrongFalsely : Prop := mendDoesRow.holds Try.pinned (OpenSpec.ofChange mendDoesWrong)

/-- 'eiderdownlaw.MendCounts': WHATEVER THE INPUT: true; the input reads as it did. -/
def mendCountsSpec : ChangeSpec := { name := "mendCounts", fn := fun _ => fun
  | [d] => { results := [.lit (.bool true)], args := [d] }
  | _ => none }
def mendCountsRow : OpenClaim := { program := "ytpkndgkaecamlaa", sum := "fb55cbb23b3aa6212c57720e12235248ebe5e9da26b2a42a4cb0dbf23cb96b4a", func := "eiderdown/eiderdownlaw.MendCounts", spec := "mendCounts", apart := false }
def MendCountsSaid : Prop := mendCountsRow.holds Try.pinned (OpenSpec.ofChange mendCountsSpec)

/-- ITS FALSE NEIGHBOUR: 'it returns false'. Refute it at one input. -/
def mendCountsWrong : ChangeSpec := { name := "mendCounts", fn := fun _ => fun
  | [d] => { results := [.lit (.bool false)], args := [d] }
  | _ => none }
def MendCountsWrongFalsely : Prop := mendCountsRow.holds Try.pinned (OpenSpec.ofChange mendCountsWrong)

/-- 'eiderdownlaw.MendKeeps': WHATEVER THE INPUT: true; the input reads as it did. -/
def mendKeepsSpec : ChangeSpec := { name := "mendKeeps", fn := fun _ => fun
  | [d] => { results := [.lit (.bool true)], args := [d] }
  | _ => none }
def mendKeepsRow : OpenClaim := { program := "ytpkndgkaecamlaa", sum := "fb55cbb23b3aa6212c57720e12235248ebe5e9da26b2a42a4cb0dbf23cb96b4a", func := "eiderdown/eiderdownlaw.MendKeeps", spec := "mendKeeps", apart := false }
def MendKeepsSaid : Prop := mendKeepsRow.holds Try.pinned (OpenSpec.ofChange mendKeepsSpec)

/-- ITS FALSE NEIGHBOUR: 'it returns false'. Refute it at one input. -/
def mendKeepsWrong : ChangeSpec := { name := "mendKeeps", fn := fun _ => fun
  | [d] => { results := [.lit (.bool false)], args := [d] }
  | _ => none }
def MendKeepsWrongFalsely : Prop := mendKeepsRow.holds Try.pinned (OpenSpec.ofChange mendKeepsWrong)

/-- 'eiderdownlaw.SafeLast': WHATEVER THE INPUT: true; the input reads as it did. -/
def safeLastSpec : ChangeSpec := { name := "safeLast", fn := fun _ => fun
  | [d1, d2, d3] => { results := [.lit (.bool true)], args := [d1, d2, d3] }
  | _ => none }
def safeLastRow : OpenClaim := { program := "ytpkndgkaecamlaa", sum := "fb55cbb23b3aa6212c57720e12235248ebe5e9da26b2a42a4cb0dbf23cb96b4a", func := "eiderdown/eiderdownlaw.SafeLast", spec := "safeLast", apart := false }
def SafeLastSaid : Prop := safeLastRow.holds Try.pinned (OpenSpec.ofChange safeLastSpec)

/-- ITS FALSE NEIGHBOUR: 'it returns false'. Refute it at one input. -/
def safeLastWrong : ChangeSpec := { name := "safeLast", fn := fun _ => fun
  | [d1, d2, d3] => { results := [.lit (.bool false)], args := [d1, d2, d3] }
  | _ => none }
def SafeLastWrongFalsely : Prop := safeLastRow.holds Try.pinned (OpenSpec.ofChange safeLastWrong)

/- THE SECOND FORM. 'bulk': how many values and letters a reading holds, each counted each time it is reached (what is shared counts as often as it is met; a slice's spare places count too). A statement '..UptoSaid' is the law's where the arguments, and the package variables that the reading takes, are together of bulk at most 1048576: NARROWER than '..Said'. Prove '..Said' where nothing that the law and all that it calls make is longer than what came in: it says more and counts as full. Else prove '..UptoSaid'. A law counts once. -/
mutual
def uptoBulk {H : Type} : DataW H → Nat
  | .lit (.string bytes) => bytes.length + 1
  | .lit _ => 1
  | .nil => 1
  | .ptr d => uptoBulk d + 1
  | .slice elems spare => uptoBulkAll elems + uptoBulkAll spare + 1
  | .agg parts => uptoBulkAll parts + 1
  | .iface _ d => uptoBulk d + 1
  | .map entries => uptoBulkEntries entries + 1
  | .held _ => 1
def uptoBulkAll {H : Type} : List (DataW H) → Nat
  | [] => 0
  | d :: r => uptoBulk d + uptoBulkAll r
def uptoBulkEntries {H : Type} : List (Lit × DataW H) → Nat
  | [] => 0
  | x :: r => uptoBulkEntry x + uptoBulkEntries r
def uptoBulkEntry {H : Type} : Lit × DataW H → Nat
  | (.string bytes, d) => bytes.length + uptoBulk d + 1
  | (_, d) => uptoBulk d + 1
 end
def uptoSmall : (H : Type) → List (DataW H) → Bool := fun _ ds => decide (uptoBulkAll ds ≤ 1048576)
def OpenSpec.upto (s : _root_.Go.ChangeSpec) : _root_.Go.OpenSpec := { _root_.Go.OpenSpec.ofChange s with cond := some uptoSmall }

/-- 'eiderdownlaw.SafeDoes', WHERE WHAT IT READS IS OF BULK AT MOST 1048576: true; the input reads as it did. -/
def safeDoesUptoRow : OpenClaim := { program := "ytpkndgkaecamlaa", sum := "fb55cbb23b3aa6212c57720e12235248ebe5e9da26b2a42a4cb0dbf23cb96b4a", func := "eiderdown/eiderdownlaw.SafeDoes", spec := "safeDoes", apart := false, narrowed := true }
def SafeDoesUptoSaid : Prop := safeDoesUptoRow.holds Try.pinned (OpenSpec.upto safeDoesSpec)

/-- 'eiderdownlaw.SafeUnion', WHERE WHAT IT READS IS OF BULK AT MOST 1048576: true; the input reads as it did. -/
def safeUnionUptoRow : OpenClaim := { program := "ytpkndgkaecamlaa", sum := "fb55cbb23b3aa6212c57720e12235248ebe5e9da26b2a42a4cb0dbf23cb96b4a", func := "eiderdown/eiderdownlaw.SafeUnion", spec := "safeUnion", apart := false, narrowed := true }
def SafeUnionUptoSaid : Prop := safeUnionUptoRow.holds Try.pinned (OpenSpec.upto safeUnionSpec)

/-- 'eiderdownlaw.SafeCounts', WHERE WHAT IT READS IS OF BULK AT MOST 1048576: true; the input reads as it did. -/
def safeCountsUptoRow : OpenClaim := { program := "ytpkndgkaecamlaa", sum := "fb55cbb23b3aa6212c57720e12235248ebe5e9da26b2a42a4cb0dbf23cb96b4a", func := "eiderdown/eiderdownlaw.SafeCounts", spec := "safeCounts", apart := false, narrowed := true }
def SafeCountsUptoSaid : Prop := safeCountsUptoRow.holds Try.pinned (OpenSpec.upto safeCountsSpec)

/-- 'eiderdownlaw.ImageDoes', WHERE WHAT IT READS IS OF BULK AT MOST 1048576: true; the input reads as it did. -/
def imageDoesUptoRow : OpenClaim := { program := "ytpkndgkaecamlaa", sum := "fb55cbb23b3aa6212c57720e12235248ebe5e9da26b2a42a4cb0dbf23cb96b4a", func := "eiderdown/eiderdownlaw.ImageDoes", spec := "imageDoes", apart := false, narrowed := true }
def ImageDoesUptoSaid : Prop := imageDoesUptoRow.holds Try.pinned (OpenSpec.upto imageDoesSpec)

/-- 'eiderdownlaw.ImageRefs', WHERE WHAT IT READS IS OF BULK AT MOST 1048576: true; the input reads as it did. -/
def imageRefsUptoRow : OpenClaim := { program := "ytpkndgkaecamlaa", sum := "fb55cbb23b3aa6212c57720e12235248ebe5e9da26b2a42a4cb0dbf23cb96b4a", func := "eiderdown/eiderdownlaw.ImageRefs", spec := "imageRefs", apart := false, narrowed := true }
def ImageRefsUptoSaid : Prop := imageRefsUptoRow.holds Try.pinned (OpenSpec.upto imageRefsSpec)

/-- 'eiderdownlaw.ImageExact', WHERE WHAT IT READS IS OF BULK AT MOST 1048576: true; the input reads as it did. -/
def imageExactUptoRow : OpenClaim := { program := "ytpkndgkaecamlaa", sum := "fb55cbb23b3aa6212c57720e12235248ebe5e9da26b2a42a4cb0dbf23cb96b4a", func := "eiderdown/eiderdownlaw.ImageExact", spec := "imageExact", apart := false, narrowed := true }
def ImageExactUptoSaid : Prop := imageExactUptoRow.holds Try.pinned (OpenSpec.upto imageExactSpec)

/-- 'eiderdownlaw.ImageFind', WHERE WHAT IT READS IS OF BULK AT MOST 1048576: true; the input reads as it did. -/
def imageFindUptoRow : OpenClaim := { program := "ytpkndgkaecamlaa", sum := "fb55cbb23b3aa6212c57720e12235248ebe5e9da26b2a42a4cb0dbf23cb96b4a", func := "eiderdown/eiderdownlaw.ImageFind", spec := "imageFind", apart := false, narrowed := true }
def ImageFindUptoSaid : Prop := imageFindUptoRow.holds Try.pinned (OpenSpec.upto imageFindSpec)

/-- 'eiderdownlaw.MendDoes', WHERE WHAT IT READS IS OF BULK AT MOST 1048576: true; the input reads as it did. -/
def mendDoesUptoRow : OpenClaim := { program := "ytpkndgkaecamlaa", sum := "fb55cbb23b3aa6212c57720e12235248ebe5e9da26b2a42a4cb0dbf23cb96b4a", func := "eiderdown/eiderdownlaw.MendDoes", spec := "mendDoes", apart := false, narrowed := true }
def MendDoesUptoSaid : Prop := mendDoesUptoRow.holds Try.pinned (OpenSpec.upto mendDoesSpec)

/-- 'eiderdownlaw.MendCounts', WHERE WHAT IT READS IS OF BULK AT MOST 1048576: true; the input reads as it did. -/
def mendCountsUptoRow : OpenClaim := { program := "ytpkndgkaecamlaa", sum := "fb55cbb23b3aa6212c57720e12235248ebe5e9da26b2a42a4cb0dbf23cb96b4a", func := "eiderdown/eiderdownlaw.MendCounts", spec := "mendCounts", apart := false, narrowed := true }
def MendCountsUptoSaid : Prop := mendCountsUptoRow.holds Try.pinned (OpenSpec.upto mendCountsSpec)

/-- 'eiderdownlaw.MendKeeps', WHERE WHAT IT READS IS OF BULK AT MOST 1048576: true; the input reads as it did. -/
def mendKeepsUptoRow : OpenClaim := { program := "ytpkndgkaecamlaa", sum := "fb55cbb23b3aa6212c57720e12235248ebe5e9da26b2a42a4cb0dbf23cb96b4a", func := "eiderdown/eiderdownlaw.MendKeeps", spec := "mendKeeps", apart := false, narrowed := true }
def MendKeepsUptoSaid : Prop := mendKeepsUptoRow.holds Try.pinned (OpenSpec.upto mendKeepsSpec)

/-- 'eiderdownlaw.SafeLast', WHERE WHAT IT READS IS OF BULK AT MOST 1048576: true; the input reads as it did. -/
def safeLastUptoRow : OpenClaim := { program := "ytpkndgkaecamlaa", sum := "fb55cbb23b3aa6212c57720e12235248ebe5e9da26b2a42a4cb0dbf23cb96b4a", func := "eiderdown/eiderdownlaw.SafeLast", spec := "safeLast", apart := false, narrowed := true }
def SafeLastUptoSaid : Prop := safeLastUptoRow.holds Try.pinned (OpenSpec.upto safeLastSpec)

end Rows
end Go.Proofs.Ytpkndgkaecamlaa
