/-
  No cell of these rows narrows 'for every input' (looked for: loops, veiled, ifaces, maps, wideKeys, modest, calm, conditions, laid).
  DERIVED. THE GIVEN ROWS OF THIS SEAT. 12 by the template 'for every input the law returns true; each argument reads behind the call as it read before'; 0 by the template 'total and deterministic' (their statements: YtfanohebejemmaaTotals.lean).
  GIVEN WITH THE SEED: the statements are not yours to turn. If you find one false, say at which input.
  Laid BY PROGRAM, IN A SANDBOX (cutbox-rows.mjs): the forced cells as the released guide's own fill.sh prints them over the translation 6992b84b0c6287cf… (all of the seat's roots in one cut). By AI agents, Wed Nov 11 2026. No macro, syntax, notation, axiom, sorry.
-/
import Derived.Test.YtfanohebejemmaaChecked
import GoSem.Claim
import GoSem.ClaimJoined
import GoSem.ClaimMapViews
import Derived.JoinedTies
import Derived.KernelRfl
namespace Go.Proofs.Ytfanohebejemmaa
/- THE CELL 'sum', in the pinned program and in every row, IS THE sha256 OF THE DUMP (.gsa) THAT YtfanohebejemmaaProg.lean LOADS. Nothing in Lean hashes anything: it is a label: what it is worth is what the hold of that sum in a sandbox is worth. -/
noncomputable def Try.pinned : Pinned := { name := "ytfanohebejemmaa", sum := "6992b84b0c6287cf7a52bc052457ca4f35ccf7ca43c11fe26cce2088b3e471af", checked := Try.checked }
namespace Rows
def none {H : Type} : Left H := { results := [], args := [] }

/-- 'laws.FnExactGroupOk': WHATEVER THE INPUT: true; the input reads as it did. -/
def fnExactGroupOkSpec : ChangeSpec := { name := "fnExactGroupOk", fn := fun _ => fun
  | [d] => { results := [.lit (.bool true)], args := [d] }
  | _ => none }
def fnExactGroupOkRow : OpenClaim := { program := "ytfanohebejemmaa", sum := "6992b84b0c6287cf7a52bc052457ca4f35ccf7ca43c11fe26cce2088b3e471af", func := "loop.example/g01041/laws.FnExactGroupOk", spec := "fnExactGroupOk", unfollowed := true, recurses := true, apart := false }
def FnExactGroupOkSaid : Prop := fnExactGroupOkRow.holds Try.pinned (OpenSpec.ofChange fnExactGroupOkSpec)

/-- ITS FALSE NEIGHBOUR: 'it returns false'. Refute it at one input. -/
def fnExactGroupOkWrong : ChangeSpec := { name := "fnExactGroupOk", fn := fun _ => fun
  | [d] => { results := [.lit (.bool false)], args := [d] }
  | _ => none }
def FnExactGroupOkWrongFalsely : Prop := fnExactGroupOkRow.holds Try.pinned (OpenSpec.ofChange fnExactGroupOkWrong)

/-- 'laws.FnExactHasPerm': WHATEVER THE INPUT: true; the input reads as it did. -/
def fnExactHasPermSpec : ChangeSpec := { name := "fnExactHasPerm", fn := fun _ => fun
  | [d1, d2] => { results := [.lit (.bool true)], args := [d1, d2] }
  | _ => none }
def fnExactHasPermRow : OpenClaim := { program := "ytfanohebejemmaa", sum := "6992b84b0c6287cf7a52bc052457ca4f35ccf7ca43c11fe26cce2088b3e471af", func := "loop.example/g01041/laws.FnExactHasPerm", spec := "fnExactHasPerm", unfollowed := true, recurses := true, apart := false }
def FnExactHasPermSaid : Prop := fnExactHasPermRow.holds Try.pinned (OpenSpec.ofChange fnExactHasPermSpec)

/-- ITS FALSE NEIGHBOUR: 'it returns false'. Refute it at one input. -/
def fnExactHasPermWrong : ChangeSpec := { name := "fnExactHasPerm", fn := fun _ => fun
  | [d1, d2] => { results := [.lit (.bool false)], args := [d1, d2] }
  | _ => none }
def FnExactHasPermWrongFalsely : Prop := fnExactHasPermRow.holds Try.pinned (OpenSpec.ofChange fnExactHasPermWrong)

/-- 'laws.FnExactFixedPairs': WHATEVER THE INPUT: true; the input reads as it did. -/
def fnExactFixedPairsSpec : ChangeSpec := { name := "fnExactFixedPairs", fn := fun _ => fun
  | [d] => { results := [.lit (.bool true)], args := [d] }
  | _ => none }
def fnExactFixedPairsRow : OpenClaim := { program := "ytfanohebejemmaa", sum := "6992b84b0c6287cf7a52bc052457ca4f35ccf7ca43c11fe26cce2088b3e471af", func := "loop.example/g01041/laws.FnExactFixedPairs", spec := "fnExactFixedPairs", unfollowed := true, recurses := true, apart := false }
def FnExactFixedPairsSaid : Prop := fnExactFixedPairsRow.holds Try.pinned (OpenSpec.ofChange fnExactFixedPairsSpec)

/-- ITS FALSE NEIGHBOUR: 'it returns false'. Refute it at one input. -/
def fnExactFixedPairsWrong : ChangeSpec := { name := "fnExactFixedPairs", fn := fun _ => fun
  | [d] => { results := [.lit (.bool false)], args := [d] }
  | _ => none }
def FnExactFixedPairsWrongFalsely : Prop := fnExactFixedPairsRow.holds Try.pinned (OpenSpec.ofChange fnExactFixedPairsWrong)

/-- 'laws.FnExactIsAbelian': WHATEVER THE INPUT: true; the input reads as it did. -/
def fnExactIsAbelianSpec : ChangeSpec := { name := "fnExactIsAbelian", fn := fun _ => fun
  | [d] => { results := [.lit (.bool true)], args := [d] }
  | _ => none }
def fnExactIsAbelianRow : OpenClaim := { program := "ytfanohebejemmaa", sum := "6992b84b0c6287cf7a52bc052457ca4f35ccf7ca43c11fe26cce2088b3e471af", func := "loop.example/g01041/laws.FnExactIsAbelian", spec := "fnExactIsAbelian", unfollowed := true, recurses := true, apart := false }
def FnExactIsAbelianSaid : Prop := fnExactIsAbelianRow.holds Try.pinned (OpenSpec.ofChange fnExactIsAbelianSpec)

/-- ITS FALSE NEIGHBOUR: 'it returns false'. Refute it at one input. -/
def fnExactIsAbelianWrong : ChangeSpec := { name := "fnExactIsAbelian", fn := fun _ => fun
  | [d] => { results := [.lit (.bool false)], args := [d] }
  | _ => none }
def FnExactIsAbelianWrongFalsely : Prop := fnExactIsAbelianRow.holds Try.pinned (OpenSpec.ofChange fnExactIsAbelianWrong)

/-- 'laws.FnExactStabilizerOf': WHATEVER THE INPUT: true; the input reads as it did. -/
def fnExactStabilizerOfSpec : ChangeSpec := { name := "fnExactStabilizerOf", fn := fun _ => fun
  | [d1, d2] => { results := [.lit (.bool true)], args := [d1, d2] }
  | _ => none }
def fnExactStabilizerOfRow : OpenClaim := { program := "ytfanohebejemmaa", sum := "6992b84b0c6287cf7a52bc052457ca4f35ccf7ca43c11fe26cce2088b3e471af", func := "loop.example/g01041/laws.FnExactStabilizerOf", spec := "fnExactStabilizerOf", unfollowed := true, recurses := true, apart := false }
def FnExactStabilizerOfSaid : Prop := fnExactStabilizerOfRow.holds Try.pinned (OpenSpec.ofChange fnExactStabilizerOfSpec)

/-- ITS FALSE NEIGHBOUR: 'it returns false'. Refute it at one input. -/
def fnExactStabilizerOfWrong : ChangeSpec := { name := "fnExactStabilizerOf", fn := fun _ => fun
  | [d1, d2] => { results := [.lit (.bool false)], args := [d1, d2] }
  | _ => none }
def FnExactStabilizerOfWrongFalsely : Prop := fnExactStabilizerOfRow.holds Try.pinned (OpenSpec.ofChange fnExactStabilizerOfWrong)

/-- 'laws.FnExactCountColorings': WHATEVER THE INPUT: true; the input reads as it did. -/
def fnExactCountColoringsSpec : ChangeSpec := { name := "fnExactCountColorings", fn := fun _ => fun
  | [d1, d2] => { results := [.lit (.bool true)], args := [d1, d2] }
  | _ => none }
def fnExactCountColoringsRow : OpenClaim := { program := "ytfanohebejemmaa", sum := "6992b84b0c6287cf7a52bc052457ca4f35ccf7ca43c11fe26cce2088b3e471af", func := "loop.example/g01041/laws.FnExactCountColorings", spec := "fnExactCountColorings", unfollowed := true, recurses := true, apart := false }
def FnExactCountColoringsSaid : Prop := fnExactCountColoringsRow.holds Try.pinned (OpenSpec.ofChange fnExactCountColoringsSpec)

/-- ITS FALSE NEIGHBOUR: 'it returns false'. Refute it at one input. -/
def fnExactCountColoringsWrong : ChangeSpec := { name := "fnExactCountColorings", fn := fun _ => fun
  | [d1, d2] => { results := [.lit (.bool false)], args := [d1, d2] }
  | _ => none }
def FnExactCountColoringsWrongFalsely : Prop := fnExactCountColoringsRow.holds Try.pinned (OpenSpec.ofChange fnExactCountColoringsWrong)

/-- 'laws.FnExactClassesOf': WHATEVER THE INPUT: true; the input reads as it did. -/
def fnExactClassesOfSpec : ChangeSpec := { name := "fnExactClassesOf", fn := fun _ => fun
  | [d] => { results := [.lit (.bool true)], args := [d] }
  | _ => none }
def fnExactClassesOfRow : OpenClaim := { program := "ytfanohebejemmaa", sum := "6992b84b0c6287cf7a52bc052457ca4f35ccf7ca43c11fe26cce2088b3e471af", func := "loop.example/g01041/laws.FnExactClassesOf", spec := "fnExactClassesOf", unfollowed := true, recurses := true, apart := false }
def FnExactClassesOfSaid : Prop := fnExactClassesOfRow.holds Try.pinned (OpenSpec.ofChange fnExactClassesOfSpec)

/-- ITS FALSE NEIGHBOUR: 'it returns false'. Refute it at one input. -/
def fnExactClassesOfWrong : ChangeSpec := { name := "fnExactClassesOf", fn := fun _ => fun
  | [d] => { results := [.lit (.bool false)], args := [d] }
  | _ => none }
def FnExactClassesOfWrongFalsely : Prop := fnExactClassesOfRow.holds Try.pinned (OpenSpec.ofChange fnExactClassesOfWrong)

/-- 'laws.FnExactCountContents': WHATEVER THE INPUT: true; the input reads as it did. -/
def fnExactCountContentsSpec : ChangeSpec := { name := "fnExactCountContents", fn := fun _ => fun
  | [d1, d2] => { results := [.lit (.bool true)], args := [d1, d2] }
  | _ => none }
def fnExactCountContentsRow : OpenClaim := { program := "ytfanohebejemmaa", sum := "6992b84b0c6287cf7a52bc052457ca4f35ccf7ca43c11fe26cce2088b3e471af", func := "loop.example/g01041/laws.FnExactCountContents", spec := "fnExactCountContents", unfollowed := true, recurses := true, apart := false }
def FnExactCountContentsSaid : Prop := fnExactCountContentsRow.holds Try.pinned (OpenSpec.ofChange fnExactCountContentsSpec)

/-- ITS FALSE NEIGHBOUR: 'it returns false'. Refute it at one input. -/
def fnExactCountContentsWrong : ChangeSpec := { name := "fnExactCountContents", fn := fun _ => fun
  | [d1, d2] => { results := [.lit (.bool false)], args := [d1, d2] }
  | _ => none }
def FnExactCountContentsWrongFalsely : Prop := fnExactCountContentsRow.holds Try.pinned (OpenSpec.ofChange fnExactCountContentsWrong)

/-- 'laws.FnExactTwoColors': WHATEVER THE INPUT: true; the input reads as it did. -/
def fnExactTwoColorsSpec : ChangeSpec := { name := "fnExactTwoColors", fn := fun _ => fun
  | [d] => { results := [.lit (.bool true)], args := [d] }
  | _ => none }
def fnExactTwoColorsRow : OpenClaim := { program := "ytfanohebejemmaa", sum := "6992b84b0c6287cf7a52bc052457ca4f35ccf7ca43c11fe26cce2088b3e471af", func := "loop.example/g01041/laws.FnExactTwoColors", spec := "fnExactTwoColors", unfollowed := true, recurses := true, apart := false }
def FnExactTwoColorsSaid : Prop := fnExactTwoColorsRow.holds Try.pinned (OpenSpec.ofChange fnExactTwoColorsSpec)

/-- ITS FALSE NEIGHBOUR: 'it returns false'. Refute it at one input. -/
def fnExactTwoColorsWrong : ChangeSpec := { name := "fnExactTwoColors", fn := fun _ => fun
  | [d] => { results := [.lit (.bool false)], args := [d] }
  | _ => none }
def FnExactTwoColorsWrongFalsely : Prop := fnExactTwoColorsRow.holds Try.pinned (OpenSpec.ofChange fnExactTwoColorsWrong)

/-- 'laws.FnExactOrbitsOf': WHATEVER THE INPUT: true; the input reads as it did. -/
def fnExactOrbitsOfSpec : ChangeSpec := { name := "fnExactOrbitsOf", fn := fun _ => fun
  | [d] => { results := [.lit (.bool true)], args := [d] }
  | _ => none }
def fnExactOrbitsOfRow : OpenClaim := { program := "ytfanohebejemmaa", sum := "6992b84b0c6287cf7a52bc052457ca4f35ccf7ca43c11fe26cce2088b3e471af", func := "loop.example/g01041/laws.FnExactOrbitsOf", spec := "fnExactOrbitsOf", unfollowed := true, recurses := true, apart := false }
def FnExactOrbitsOfSaid : Prop := fnExactOrbitsOfRow.holds Try.pinned (OpenSpec.ofChange fnExactOrbitsOfSpec)

/-- ITS FALSE NEIGHBOUR: 'it returns false'. Refute it at one input. -/
def fnExactOrbitsOfWrong : ChangeSpec := { name := "fnExactOrbitsOf", fn := fun _ => fun
  | [d] => { results := [.lit (.bool false)], args := [d] }
  | _ => none }
def FnExactOrbitsOfWrongFalsely : Prop := fnExactOrbitsOfRow.holds Try.pinned (OpenSpec.ofChange fnExactOrbitsOfWrong)

/-- 'laws.FnExactCycleIndex': WHATEVER THE INPUT: true; the input reads as it did. -/
def fnExactCycleIndexSpec : ChangeSpec := { name := "fnExactCycleIndex", fn := fun _ => fun
  | [d] => { results := [.lit (.bool true)], args := [d] }
  | _ => none }
def fnExactCycleIndexRow : OpenClaim := { program := "ytfanohebejemmaa", sum := "6992b84b0c6287cf7a52bc052457ca4f35ccf7ca43c11fe26cce2088b3e471af", func := "loop.example/g01041/laws.FnExactCycleIndex", spec := "fnExactCycleIndex", unfollowed := true, recurses := true, apart := false }
def FnExactCycleIndexSaid : Prop := fnExactCycleIndexRow.holds Try.pinned (OpenSpec.ofChange fnExactCycleIndexSpec)

/-- ITS FALSE NEIGHBOUR: 'it returns false'. Refute it at one input. -/
def fnExactCycleIndexWrong : ChangeSpec := { name := "fnExactCycleIndex", fn := fun _ => fun
  | [d] => { results := [.lit (.bool false)], args := [d] }
  | _ => none }
def FnExactCycleIndexWrongFalsely : Prop := fnExactCycleIndexRow.holds Try.pinned (OpenSpec.ofChange fnExactCycleIndexWrong)

/-- 'laws.FnClasses': WHATEVER THE INPUT: true; the input reads as it did. -/
def fnClassesSpec : ChangeSpec := { name := "fnClasses", fn := fun _ => fun
  | [d] => { results := [.lit (.bool true)], args := [d] }
  | _ => none }
def fnClassesRow : OpenClaim := { program := "ytfanohebejemmaa", sum := "6992b84b0c6287cf7a52bc052457ca4f35ccf7ca43c11fe26cce2088b3e471af", func := "loop.example/g01041/laws.FnClasses", spec := "fnClasses", unfollowed := true, recurses := true, apart := false }
def FnClassesSaid : Prop := fnClassesRow.holds Try.pinned (OpenSpec.ofChange fnClassesSpec)

/-- ITS FALSE NEIGHBOUR: 'it returns false'. Refute it at one input. -/
def fnClassesWrong : ChangeSpec := { name := "fnClasses", fn := fun _ => fun
  | [d] => { results := [.lit (.bool false)], args := [d] }
  | _ => none }
def FnClassesWrongFalsely : Prop := fnClassesRow.holds Try.pinned (OpenSpec.ofChange fnClassesWrong)

/- THE SECOND FORM. 'bulk': how many values and letters a reading holds, each counted each time it is reached (what is shared counts as often as it is met; a slice's spare places count too). A statement '..UptoSaid' is the law's where the arguments, and the package variables that the reading takes, are together of bulk at most 1048576: NARROWER than '..Said'. Prove '..Said' where nothing that the law and all that it calls make is longer than what came in: it says more and counts as full. Else prove '..UptoSaid'. A law counts once. -/
mutual
def uptoBulk {H : Type} : DataW H → Nat
  | .lit (.string bytes) => bytes.length + 1
  | .lit _ => 1
  | .nil => 1
  | .ptr d => uptoBulk d + 1
  | .slice elems spare => uptoBulkAll elems + uptoBulkAll spare + 1
  | .agg parts => uptoBulkAll parts + 1
  | .iface _ d => uptoBulk d + 1
  | .map entries => uptoBulkEntries entries + 1
  | .held _ => 1
def uptoBulkAll {H : Type} : List (DataW H) → Nat
  | [] => 0
  | d :: r => uptoBulk d + uptoBulkAll r
def uptoBulkEntries {H : Type} : List (Lit × DataW H) → Nat
  | [] => 0
  | x :: r => uptoBulkEntry x + uptoBulkEntries r
def uptoBulkEntry {H : Type} : Lit × DataW H → Nat
  | (.string bytes, d) => bytes.length + uptoBulk d + 1
  | (_, d) => uptoBulk d + 1
 end
def uptoSmall : (H : Type) → List (DataW H) → Bool := fun _ ds => decide (uptoBulkAll ds ≤ 1048576)
def OpenSpec.upto (s : _root_.Go.ChangeSpec) : _root_.Go.OpenSpec := { _root_.Go.OpenSpec.ofChange s with cond := some uptoSmall }

/-- 'laws.FnExactGroupOk', WHERE WHAT IT READS IS OF BULK AT MOST 1048576: true; the input reads as it did. -/
def fnExactGroupOkUptoRow : OpenClaim := { program := "ytfanohebejemmaa", sum := "6992b84b0c6287cf7a52bc052457ca4f35ccf7ca43c11fe26cce2088b3e471af", func := "loop.example/g01041/laws.FnExactGroupOk", spec := "fnExactGroupOk", unfollowed := true, recurses := true, apart := false, narrowed := true }
def FnExactGroupOkUptoSaid : Prop := fnExactGroupOkUptoRow.holds Try.pinned (OpenSpec.upto fnExactGroupOkSpec)

/-- 'laws.FnExactHasPerm', WHERE WHAT IT READS IS OF BULK AT MOST 1048576: true; the input reads as it did. -/
def fnExactHasPermUptoRow : OpenClaim := { program := "ytfanohebejemmaa", sum := "6992b84b0c6287cf7a52bc052457ca4f35ccf7ca43c11fe26cce2088b3e471af", func := "loop.example/g01041/laws.FnExactHasPerm", spec := "fnExactHasPerm", unfollowed := true, recurses := true, apart := false, narrowed := true }
def FnExactHasPermUptoSaid : Prop := fnExactHasPermUptoRow.holds Try.pinned (OpenSpec.upto fnExactHasPermSpec)

/-- 'laws.FnExactFixedPairs', WHERE WHAT IT READS IS OF BULK AT MOST 1048576: true; the input reads as it did. -/
def fnExactFixedPairsUptoRow : OpenClaim := { program := "ytfanohebejemmaa", sum := "6992b84b0c6287cf7a52bc052457ca4f35ccf7ca43c11fe26cce2088b3e471af", func := "loop.example/g01041/laws.FnExactFixedPairs", spec := "fnExactFixedPairs", unfollowed := true, recurses := true, apart := false, narrowed := true }
def FnExactFixedPairsUptoSaid : Prop := fnExactFixedPairsUptoRow.holds Try.pinned (OpenSpec.upto fnExactFixedPairsSpec)

/-- 'laws.FnExactIsAbelian', WHERE WHAT IT READS IS OF BULK AT MOST 1048576: true; the input reads as it did. -/
def fnExactIsAbelianUptoRow : OpenClaim := { program := "ytfanohebejemmaa", sum := "6992b84b0c6287cf7a52bc052457ca4f35ccf7ca43c11fe26cce2088b3e471af", func := "loop.example/g01041/laws.FnExactIsAbelian", spec := "fnExactIsAbelian", unfollowed := true, recurses := true, apart := false, narrowed := true }
def FnExactIsAbelianUptoSaid : Prop := fnExactIsAbelianUptoRow.holds Try.pinned (OpenSpec.upto fnExactIsAbelianSpec)

/-- 'laws.FnExactStabilizerOf', WHERE WHAT IT READS IS OF BULK AT MOST 1048576: true; the input reads as it did. -/
def fnExactStabilizerOfUptoRow : OpenClaim := { program := "ytfanohebejemmaa", sum := "6992b84b0c6287cf7a52bc052457ca4f35ccf7ca43c11fe26cce2088b3e471af", func := "loop.example/g01041/laws.FnExactStabilizerOf", spec := "fnExactStabilizerOf", unfollowed := true, recurses := true, apart := false, narrowed := true }
def FnExactStabilizerOfUptoSaid : Prop := fnExactStabilizerOfUptoRow.holds Try.pinned (OpenSpec.upto fnExactStabilizerOfSpec)

/-- 'laws.FnExactCountColorings', WHERE WHAT IT READS IS OF BULK AT MOST 1048576: true; the input reads as it did. -/
def fnExactCountColoringsUptoRow : OpenClaim := { program := "ytfanohebejemmaa", sum := "6992b84b0c6287cf7a52bc052457ca4f35ccf7ca43c11fe26cce2088b3e471af", func := "loop.example/g01041/laws.FnExactCountColorings", spec := "fnExactCountColorings", unfollowed := true, recurses := true, apart := false, narrowed := true }
def FnExactCountColoringsUptoSaid : Prop := fnExactCountColoringsUptoRow.holds Try.pinned (OpenSpec.upto fnExactCountColoringsSpec)

/-- 'laws.FnExactClassesOf', WHERE WHAT IT READS IS OF BULK AT MOST 1048576: true; the input reads as it did. -/
def fnExactClassesOfUptoRow : OpenClaim := { program := "ytfanohebejemmaa", sum := "6992b84b0c6287cf7a52bc052457ca4f35ccf7ca43c11fe26cce2088b3e471af", func := "loop.example/g01041/laws.FnExactClassesOf", spec := "fnExactClassesOf", unfollowed := true, recurses := true, apart := false, narrowed := true }
def FnExactClassesOfUptoSaid : Prop := fnExactClassesOfUptoRow.holds Try.pinned (OpenSpec.upto fnExactClassesOfSpec)

/-- 'laws.FnExactCountContents', WHERE WHAT IT READS IS OF BULK AT MOST 1048576: true; the input reads as it did. -/
def fnExactCountContentsUptoRow : OpenClaim := { program := "ytfanohebejemmaa", sum := "6992b84b0c6287cf7a52bc052457ca4f35ccf7ca43c11fe26cce2088b3e471af", func := "loop.example/g01041/laws.FnExactCountContents", spec := "fnExactCountContents", unfollowed := true, recurses := true, apart := false, narrowed := true }
def FnExactCountContentsUptoSaid : Prop := fnExactCountContentsUptoRow.holds Try.pinned (OpenSpec.upto fnExactCountContentsSpec)

/-- 'laws.FnExactTwoColors', WHERE WHAT IT READS IS OF BULK AT MOST 1048576: true; the input reads as it did. -/
def fnExactTwoColorsUptoRow : OpenClaim := { program := "ytfanohebejemmaa", sum := "6992b84b0c6287cf7a52bc052457ca4f35ccf7ca43c11fe26cce2088b3e471af", func := "loop.example/g01041/laws.FnExactTwoColors", spec := "fnExactTwoColors", unfollowed := true, recurses := true, apart := false, narrowed := true }
def FnExactTwoColorsUptoSaid : Prop := fnExactTwoColorsUptoRow.holds Try.pinned (OpenSpec.upto fnExactTwoColorsSpec)

/-- 'laws.FnExactOrbitsOf', WHERE WHAT IT READS IS OF BULK AT MOST 1048576: true; the input reads as it did. -/
def fnExactOrbitsOfUptoRow : OpenClaim := { program := "ytfanohebejemmaa", sum := "6992b84b0c6287cf7a52bc052457ca4f35ccf7ca43c11fe26cce2088b3e471af", func := "loop.example/g01041/laws.FnExactOrbitsOf", spec := "fnExactOrbitsOf", unfollowed := true, recurses := true, apart := false, narrowed := true }
def FnExactOrbitsOfUptoSaid : Prop := fnExactOrbitsOfUptoRow.holds Try.pinned (OpenSpec.upto fnExactOrbitsOfSpec)

/-- 'laws.FnExactCycleIndex', WHERE WHAT IT READS IS OF BULK AT MOST 1048576: true; the input reads as it did. -/
def fnExactCycleIndexUptoRow : OpenClaim := { program := "ytfanohebejemmaa", sum := "6992b84b0c6287cf7a52bc052457ca4f35ccf7ca43c11fe26cce2088b3e471af", func := "loop.example/g01041/laws.FnExactCycleIndex", spec := "fnExactCycleIndex", unfollowed := true, recurses := true, apart := false, narrowed := true }
def FnExactCycleIndexUptoSaid : Prop := fnExactCycleIndexUptoRow.holds Try.pinned (OpenSpec.upto fnExactCycleIndexSpec)

/-- 'laws.FnClasses', WHERE WHAT IT READS IS OF BULK AT MOST 1048576: true; the input reads as it did. -/
def fnClassesUptoRow : OpenClaim := { program := "ytfanohebejemmaa", sum := "6992b84b0c6287cf7a52bc052457ca4f35ccf7ca43c11fe26cce2088b3e471af", func := "loop.example/g01041/laws.FnClasses", spec := "fnClasses", unfollowed := true, recurses := true, apart := false, narrowed := true }
def FnClassesUptoSaid : Prop := fnClassesUptoRow.holds Try.pinned (OpenSpec.upto fnClassesSpec)

end Rows
end Go.Proofs.Ytfanohebejemmaa
