/-
  No cell of these rows narrows 'for every input' (looked for: loops, veiled, ifaces, maps, wideKeys, modest, calm, conditions, laid).
  DERIVED. THE GIVEN ROWS OF THIS SEAT. 9 by the template 'for every input the law returns true; each argument reads behind the call as it read before'; 0 by the template 'total and deterministic' (their statements: YtpkndgkaecamlabTotals.lean).
  GIVEN WITH THE SEED: the statements are not yours to turn. If you find one false, say at which input.
  Laid BY PROGRAM, IN A SANDBOX (cutbox-rows.mjs): the forced cells as the released guide's own fill.sh prints them over the translation 2ddc5ec2558e3048… (all of the seat's roots in one cut). By AI agents, Wed Nov 11 2026. No macro, syntax, notation, axiom, sorry.
-/
import Derived.Test.YtpkndgkaecamlabChecked
import GoSem.Claim
import GoSem.ClaimJoined
import GoSem.ClaimMapViews
import Derived.JoinedTies
import Derived.KernelRfl
namespace Go.Proofs.Ytpkndgkaecamlab
/- THE CELL 'sum', in the pinned program and in every row, IS THE sha256 OF THE DUMP (.gsa) THAT YtpkndgkaecamlabProg.lean LOADS. Nothing in Lean hashes anything: it is a label: what it is worth is what the hold of that sum in a sandbox is worth. -/
noncomputable def Try.pinned : Pinned := { name := "ytpkndgkaecamlab", sum := "2ddc5ec2558e30483de5c70cab0f7b55984d6877bd83eb53fcb3a8aa641754a5", checked := Try.checked }
namespace Rows
def none {H : Type} : Left H := { results := [], args := [] }

/-- 'eiderdownlaw.SafeOne': WHATEVER THE INPUT: true; the input reads as it did. -/
def safeOneSpec : ChangeSpec := { name := "safeOne", fn := fun _ => fun
  | [d1, d2, d3] => { results := [.lit (.bool true)], args := [d1, d2, d3] }
  | _ => none }
def safeOneRow : OpenClaim := { program := "ytpkndgkaecamlab", sum := "2ddc5ec2558e30483de5c70cab0f7b55984d6877bd83eb53fcb3a8aa641754a5", func := "eiderdown/eiderdownlaw.SafeOne", spec := "safeOne", apart := false }
def SafeOneSaid : Prop := safeOneRow.holds Try.pinned (OpenSpec.ofChange safeOneSpec)

/-- ITS FALSE NEIGHBOUR: 'it returns false'. Refute it at one input. -/
def safeOneWrong : ChangeSpec := { name := "safeOne", fn := fun _ => fun
  | [d1, d2, d3] => { results := [.lit (.bool false)], args := [d1, d2, d3] }
  | _ => none }
def SafeOneWrongFalsely : Prop := safeOneRow.holds Try.pinned (OpenSpec.ofChange safeOneWrong)

/-- 'eiderdownlaw.SafeMends': WHATEVER THE INPUT: true; the input reads as it did. -/
def safeMendsSpec : ChangeSpec := { name := "safeMends", fn := fun _ => fun
  | [d1, d2, d3] => { results := [.lit (.bool true)], args := [d1, d2, d3] }
  | _ => none }
def safeMendsRow : OpenClaim := { program := "ytpkndgkaecamlab", sum := "2ddc5ec2558e30483de5c70cab0f7b55984d6877bd83eb53fcb3a8aa641754a5", func := "eiderdown/eiderdownlaw.SafeMends", spec := "safeMends", apart := false }
def SafeMendsSaid : Prop := safeMendsRow.holds Try.pinned (OpenSpec.ofChange safeMendsSpec)

/-- ITS FALSE NEIGHBOUR: 'it returns false'. Refute it at one input. -/
def safeMendsWrong : ChangeSpec := { name := "safeMends", fn := fun _ => fun
  | [d1, d2, d3] => { results := [.lit (.bool false)], args := [d1, d2, d3] }
  | _ => none }
def SafeMendsWrongFalsely : Prop := safeMendsRow.holds Try.pinned (OpenSpec.ofChange safeMendsWrong)

/-- 'eiderdownlaw.CacheDoes': WHATEVER THE INPUT: true; the input reads as it did. -/
def cacheDoesSpec : ChangeSpec := { name := "cacheDoes", fn := fun _ => fun
  | [d1, d2, d3, d4] => { results := [.lit (.bool true)], args := [d1, d2, d3, d4] }
  | _ => none }
def cacheDoesRow : OpenClaim := { program := "ytpkndgkaecamlab", sum := "2ddc5ec2558e30483de5c70cab0f7b55984d6877bd83eb53fcb3a8aa641754a5", func := "eiderdown/eiderdownlaw.CacheDoes", spec := "cacheDoes", apart := false }
def CacheDoesSaid : Prop := cacheDoesRow.holds Try.pinned (OpenSpec.ofChange cacheDoesSpec)

/-- ITS FALSE NEIGHBOUR: 'it returns false'. Refute it at one input. -/
def cacheDoesWrong : ChangeSpec := { name := "cacheDoes", fn := fun _ => fun
  | [d1, d2, d3, d4] => { results := [.lit (.bool false)], args := [d1, d2, d3, d4] }
  | _ => none }
def CacheDoesWrongFalsely : Prop := cacheDoesRow.holds Try.pinned (OpenSpec.ofChange cacheDoesWrong)

/-- 'eiderdownlaw.CacheClean': WHATEVER THE INPUT: true; the input reads as it did. -/
def cacheCleanSpec : ChangeSpec := { name := "cacheClean", fn := fun _ => fun
  | [d1, d2, d3] => { results := [.lit (.bool true)], args := [d1, d2, d3] }
  | _ => none }
def cacheCleanRow : OpenClaim := { program := "ytpkndgkaecamlab", sum := "2ddc5ec2558e30483de5c70cab0f7b55984d6877bd83eb53fcb3a8aa641754a5", func := "eiderdown/eiderdownlaw.CacheClean", spec := "cacheClean", apart := false }
def CacheCleanSaid : Prop := cacheCleanRow.holds Try.pinned (OpenSpec.ofChange cacheCleanSpec)

/-- ITS FALSE NEIGHBOUR: 'it returns false'. Refute it at one input. -/
def cacheCleanWrong : ChangeSpec := { name := "cacheClean", fn := fun _ => fun
  | [d1, d2, d3] => { results := [.lit (.bool false)], args := [d1, d2, d3] }
  | _ => none }
def CacheCleanWrongFalsely : Prop := cacheCleanRow.holds Try.pinned (OpenSpec.ofChange cacheCleanWrong)

/-- 'eiderdownlaw.CacheFree': WHATEVER THE INPUT: true; the input reads as it did. -/
def cacheFreeSpec : ChangeSpec := { name := "cacheFree", fn := fun _ => fun
  | [d1, d2, d3] => { results := [.lit (.bool true)], args := [d1, d2, d3] }
  | _ => none }
def cacheFreeRow : OpenClaim := { program := "ytpkndgkaecamlab", sum := "2ddc5ec2558e30483de5c70cab0f7b55984d6877bd83eb53fcb3a8aa641754a5", func := "eiderdown/eiderdownlaw.CacheFree", spec := "cacheFree", apart := false }
def CacheFreeSaid : Prop := cacheFreeRow.holds Try.pinned (OpenSpec.ofChange cacheFreeSpec)

/-- ITS FALSE NEIGHBOUR: 'it returns false'. Refute it at one input. -/
def cacheFreeWrong : ChangeSpec := { name := "cacheFree", fn := fun _ => fun
  | [d1, d2, d3] => { results := [.lit (.bool false)], args := [d1, d2, d3] }
  | _ => none }
def CacheFreeWrongFalsely : Prop := cacheFreeRow.holds Try.pinned (OpenSpec.ofChange cacheFreeWrong)

/-- 'eiderdownlaw.IdealDoes': WHATEVER THE INPUT: true; the input reads as it did. -/
def idealDoesSpec : ChangeSpec := { name := "idealDoes", fn := fun _ => fun
  | [d1, d2] => { results := [.lit (.bool true)], args := [d1, d2] }
  | _ => none }
def idealDoesRow : OpenClaim := { program := "ytpkndgkaecamlab", sum := "2ddc5ec2558e30483de5c70cab0f7b55984d6877bd83eb53fcb3a8aa641754a5", func := "eiderdown/eiderdownlaw.IdealDoes", spec := "idealDoes", unfollowed := true, recurses := true, apart := false }
def IdealDoesSaid : Prop := idealDoesRow.holds Try.pinned (OpenSpec.ofChange idealDoesSpec)

/-- ITS FALSE NEIGHBOUR: 'it returns false'. Refute it at one input. -/
def idealDoesWrong : ChangeSpec := { name := "idealDoes", fn := fun _ => fun
  | [d1, d2] => { results := [.lit (.bool false)], args := [d1, d2] }
  | _ => none }
def IdealDoesWrongFalsely : Prop := idealDoesRow.holds Try.pinned (OpenSpec.ofChange idealDoesWrong)

/-- 'eiderdownlaw.IdealBack': WHATEVER THE INPUT: true; the input reads as it did. -/
def idealBackSpec : ChangeSpec := { name := "idealBack", fn := fun _ => fun
  | [d1, d2] => { results := [.lit (.bool true)], args := [d1, d2] }
  | _ => none }
def idealBackRow : OpenClaim := { program := "ytpkndgkaecamlab", sum := "2ddc5ec2558e30483de5c70cab0f7b55984d6877bd83eb53fcb3a8aa641754a5", func := "eiderdown/eiderdownlaw.IdealBack", spec := "idealBack", unfollowed := true, recurses := true, apart := false }
def IdealBackSaid : Prop := idealBackRow.holds Try.pinned (OpenSpec.ofChange idealBackSpec)

/-- ITS FALSE NEIGHBOUR: 'it returns false'. Refute it at one input. -/
def idealBackWrong : ChangeSpec := { name := "idealBack", fn := fun _ => fun
  | [d1, d2] => { results := [.lit (.bool false)], args := [d1, d2] }
  | _ => none }
def IdealBackWrongFalsely : Prop := idealBackRow.holds Try.pinned (OpenSpec.ofChange idealBackWrong)

/-- 'eiderdownlaw.IdealApart': WHATEVER THE INPUT: true; the input reads as it did. -/
def idealApartSpec : ChangeSpec := { name := "idealApart", fn := fun _ => fun
  | [d1, d2] => { results := [.lit (.bool true)], args := [d1, d2] }
  | _ => none }
def idealApartRow : OpenClaim := { program := "ytpkndgkaecamlab", sum := "2ddc5ec2558e30483de5c70cab0f7b55984d6877bd83eb53fcb3a8aa641754a5", func := "eiderdown/eiderdownlaw.IdealApart", spec := "idealApart", unfollowed := true, recurses := true, apart := false }
def IdealApartSaid : Prop := idealApartRow.holds Try.pinned (OpenSpec.ofChange idealApartSpec)

/-- ITS FALSE NEIGHBOUR: 'it returns false'. Refute it at one input. -/
def idealApartWrong : ChangeSpec := { name := "idealApart", fn := fun _ => fun
  | [d1, d2] => { results := [.lit (.bool false)], args := [d1, d2] }
  | _ => none }
def IdealApartWrongFalsely : Prop := idealApartRow.holds Try.pinned (OpenSpec.ofChange idealApartWrong)

/-- 'eiderdownlaw.IdealLinks': WHATEVER THE INPUT: true; the input reads as it did. -/
def idealLinksSpec : ChangeSpec := { name := "idealLinks", fn := fun _ => fun
  | [d1, d2, d3] => { results := [.lit (.bool true)], args := [d1, d2, d3] }
  | _ => none }
def idealLinksRow : OpenClaim := { program := "ytpkndgkaecamlab", sum := "2ddc5ec2558e30483de5c70cab0f7b55984d6877bd83eb53fcb3a8aa641754a5", func := "eiderdown/eiderdownlaw.IdealLinks", spec := "idealLinks", unfollowed := true, recurses := true, apart := false }
def IdealLinksSaid : Prop := idealLinksRow.holds Try.pinned (OpenSpec.ofChange idealLinksSpec)

/-- ITS FALSE NEIGHBOUR: 'it returns false'. Refute it at one input. -/
def idealLinksWrong : ChangeSpec := { name := "idealLinks", fn := fun _ => fun
  | [d1, d2, d3] => { results := [.lit (.bool false)], args := [d1, d2, d3] }
  | _ => none }
def IdealLinksWrongFalsely : Prop := idealLinksRow.holds Try.pinned (OpenSpec.ofChange idealLinksWrong)

/- THE SECOND FORM. 'bulk': how many values and letters a reading holds, each counted each time it is reached (what is shared counts as often as it is met; a slice's spare places count too). A statement '..UptoSaid' is the law's where the arguments, and the package variables that the reading takes, are together of bulk at most 1048576: NARROWER than '..Said'. Prove '..Said' where nothing that the law and all that it calls make is longer than what came in: it says more and counts as full. Else prove '..UptoSaid'. A law counts once. -/
mutual
def uptoBulk {H : Type} : DataW H → Nat
  | .lit (.string bytes) => bytes.length + 1
  | .lit _ => 1
  | .nil => 1
  | .ptr d => uptoBulk d + 1
  | .slice elems spare => uptoBulkAll elems + uptoBulkAll spare + 1
  | .agg parts => uptoBulkAll parts + 1
  | .iface _ d => uptoBulk d + 1
  | .map entries => uptoBulkEntries entries + 1
  | .held _ => 1
def uptoBulkAll {H : Type} : List (DataW H) → Nat
  | [] => 0
  | d :: r => uptoBulk d + uptoBulkAll r
def uptoBulkEntries {H : Type} : List (Lit × DataW H) → Nat
  | [] => 0
  | x :: r => uptoBulkEntry x + uptoBulkEntries r
def uptoBulkEntry {H : Type} : Lit × DataW H → Nat
  | (.string bytes, d) => bytes.length + uptoBulk d + 1
  | (_, d) => uptoBulk d + 1
 end
def uptoSmall : (H : Type) → List (DataW H) → Bool := fun _ ds => decide (uptoBulkAll ds ≤ 1048576)
def OpenSpec.upto (s : _root_.Go.ChangeSpec) : _root_.Go.OpenSpec := { _root_.Go.OpenSpec.ofChange s with cond := some uptoSmall }

/-- 'eiderdownlaw.SafeOne', WHERE WHAT IT READS IS OF BULK AT MOST 1048576: true; the input reads as it did. -/
def safeOneUptoRow : OpenClaim := { program := "ytpkndgkaecamlab", sum := "2ddc5ec2558e30483de5c70cab0f7b55984d6877bd83eb53fcb3a8aa641754a5", func := "eiderdown/eiderdownlaw.SafeOne", spec := "safeOne", apart := false, narrowed := true }
def SafeOneUptoSaid : Prop := safeOneUptoRow.holds Try.pinned (OpenSpec.upto safeOneSpec)

/-- 'eiderdownlaw.SafeMends', WHERE WHAT IT READS IS OF BULK AT MOST 1048576: true; the input reads as it did. -/
def safeMendsUptoRow : OpenClaim := { program := "ytpkndgkaecamlab", sum := "2ddc5ec2558e30483de5c70cab0f7b55984d6877bd83eb53fcb3a8aa641754a5", func := "eiderdown/eiderdownlaw.SafeMends", spec := "safeMends", apart := false, narrowed := true }
def SafeMendsUptoSaid : Prop := safeMendsUptoRow.holds Try.pinned (OpenSpec.upto safeMendsSpec)

/-- 'eiderdownlaw.CacheDoes', WHERE WHAT IT READS IS OF BULK AT MOST 1048576: true; the input reads as it did. -/
def cacheDoesUptoRow : OpenClaim := { program := "ytpkndgkaecamlab", sum := "2ddc5ec2558e30483de5c70cab0f7b55984d6877bd83eb53fcb3a8aa641754a5", func := "eiderdown/eiderdownlaw.CacheDoes", spec := "cacheDoes", apart := false, narrowed := true }
def CacheDoesUptoSaid : Prop := cacheDoesUptoRow.holds Try.pinned (OpenSpec.upto cacheDoesSpec)

/-- 'eiderdownlaw.CacheClean', WHERE WHAT IT READS IS OF BULK AT MOST 1048576: true; the input reads as it did. -/
def cacheCleanUptoRow : OpenClaim := { program := "ytpkndgkaecamlab", sum := "2ddc5ec2558e30483de5c70cab0f7b55984d6877bd83eb53fcb3a8aa641754a5", func := "eiderdown/eiderdownlaw.CacheClean", spec := "cacheClean", apart := false, narrowed := true }
def CacheCleanUptoSaid : Prop := cacheCleanUptoRow.holds Try.pinned (OpenSpec.upto cacheCleanSpec)

/-- 'eiderdownlaw.CacheFree', WHERE WHAT IT READS IS OF BULK AT MOST 1048576: true; the input reads as it did. -/
def cacheFreeUptoRow : OpenClaim := { program := "ytpkndgkaecamlab", sum := "2ddc5ec2558e30483de5c70cab0f7b55984d6877bd83eb53fcb3a8aa641754a5", func := "eiderdown/eiderdownlaw.CacheFree", spec := "cacheFree", apart := false, narrowed := true }
def CacheFreeUptoSaid : Prop := cacheFreeUptoRow.holds Try.pinned (OpenSpec.upto cacheFreeSpec)

/-- 'eiderdownlaw.IdealDoes', WHERE WHAT IT READS IS OF BULK AT MOST 1048576: true; the input reads as it did. -/
def idealDoesUptoRow : OpenClaim := { program := "ytpkndgkaecamlab", sum := "2ddc5ec2558e30483de5c70cab0f7b55984d6877bd83eb53fcb3a8aa641754a5", func := "eiderdown/eiderdownlaw.IdealDoes", spec := "idealDoes", unfollowed := true, recurses := true, apart := false, narrowed := true }
def IdealDoesUptoSaid : Prop := idealDoesUptoRow.holds Try.pinned (OpenSpec.upto idealDoesSpec)

/-- 'eiderdownlaw.IdealBack', WHERE WHAT IT READS IS OF BULK AT MOST 1048576: true; the input reads as it did. -/
def idealBackUptoRow : OpenClaim := { program := "ytpkndgkaecamlab", sum := "2ddc5ec2558e30483de5c70cab0f7b55984d6877bd83eb53fcb3a8aa641754a5", func := "eiderdown/eiderdownlaw.IdealBack", spec := "idealBack", unfollowed := true, recurses := true, apart := false, narrowed := true }
def IdealBackUptoSaid : Prop := idealBackUptoRow.holds Try.pinned (OpenSpec.upto idealBackSpec)

/-- 'eiderdownlaw.IdealApart', WHERE WHAT IT READS IS OF BULK AT MOST 1048576: true; the input reads as it did. -/
def idealApartUptoRow : OpenClaim := { program := "ytpkndgkaecamlab", sum := "2ddc5ec2558e30483de5c70cab0f7b55984d6877bd83eb53fcb3a8aa641754a5", func := "eiderdown/eiderdownlaw.IdealApart", spec := "idealApart", unfollowed := true, recurses := true, apart := false, narrowed := true }
def IdealApartUptoSaid : Prop := idealApartUptoRow.holds Try.pinned (OpenSpec.upto idealApartSpec)

/-- 'eiderdownlaw.IdealLinks', WHERE WHAT IT READS IS OF BULK AT MOST 1048576: true; the input reads as it did. -/
def idealLinksUptoRow : OpenClaim := { program := "ytpkndgkaecamlab", sum := "2ddc5ec2558e30483de5c70cab0f7b55984d6877bd83eb53fcb3a8aa641754a5", func := "eiderdown/eiderdownlaw.IdealLinks", spec := "idealLinks", unfollowed := true, recurses := true, apart := false, narrowed := true }
def IdealLinksUptoSaid : Prop := idealLinksUptoRow.holds Try.pinned (OpenSpec.upto idealLinksSpec)

end Rows
end Go.Proofs.Ytpkndgkaecamlab
