/-
  No cell of these rows narrows 'for every input' (looked for: loops, veiled, ifaces, maps, wideKeys, modest, calm, conditions, laid).
  DERIVED. THE GIVEN ROWS OF THIS SEAT. 12 by the template 'for every input the law returns true; each argument reads behind the call as it read before'; 0 by the template 'total and deterministic' (their statements: YtogenfooeplkmaaTotals.lean).
  GIVEN WITH THE SEED: the statements are not yours to turn. If you find one false, say at which input.
  Laid BY PROGRAM, IN A SANDBOX (cutbox-rows.mjs): the forced cells as the released guide's own fill.sh prints them over the translation 12e911af7081b90d… (all of the seat's roots in one cut). By AI agents, Wed Nov 11 2026. No macro, syntax, notation, axiom, sorry.
-/
import Derived.Test.YtogenfooeplkmaaChecked
import GoSem.Claim
import GoSem.ClaimJoined
import GoSem.ClaimMapViews
import Derived.JoinedTies
import Derived.KernelRfl
namespace Go.Proofs.Ytogenfooeplkmaa
/- THE CELL 'sum', in the pinned program and in every row, IS THE sha256 OF THE DUMP (.gsa) THAT YtogenfooeplkmaaProg.lean LOADS. Nothing in Lean hashes anything: it is a label: what it is worth is what the hold of that sum in a sandbox is worth. -/
noncomputable def Try.pinned : Pinned := { name := "ytogenfooeplkmaa", sum := "12e911af7081b90d168d4660e80407047ecc59528bf5d53520b229a8fc89337c", checked := Try.checked }
namespace Rows
def none {H : Type} : Left H := { results := [], args := [] }

/-- 'laws.FnExactCyclicGroup': WHATEVER THE INPUT: true; the input reads as it did. -/
def fnExactCyclicGroupSpec : ChangeSpec := { name := "fnExactCyclicGroup", fn := fun _ => fun
  | [d] => { results := [.lit (.bool true)], args := [d] }
  | _ => none }
def fnExactCyclicGroupRow : OpenClaim := { program := "ytogenfooeplkmaa", sum := "12e911af7081b90d168d4660e80407047ecc59528bf5d53520b229a8fc89337c", func := "loop.example/g01041/laws.FnExactCyclicGroup", spec := "fnExactCyclicGroup", unfollowed := true, recurses := true, apart := false }
def FnExactCyclicGroupSaid : Prop := fnExactCyclicGroupRow.holds Try.pinned (OpenSpec.ofChange fnExactCyclicGroupSpec)

/-- ITS FALSE NEIGHBOUR: 'it returns false'. Refute it at one input. -/
def fnExactCyclicGroupWrong : ChangeSpec := { name := "fnExactCyclicGroup", fn := fun _ => fun
  | [d] => { results := [.lit (.bool false)], args := [d] }
  | _ => none }
def FnExactCyclicGroupWrongFalsely : Prop := fnExactCyclicGroupRow.holds Try.pinned (OpenSpec.ofChange fnExactCyclicGroupWrong)

/-- 'laws.FnExactGroupOf': WHATEVER THE INPUT: true; the input reads as it did. -/
def fnExactGroupOfSpec : ChangeSpec := { name := "fnExactGroupOf", fn := fun _ => fun
  | [d1, d2] => { results := [.lit (.bool true)], args := [d1, d2] }
  | _ => none }
def fnExactGroupOfRow : OpenClaim := { program := "ytogenfooeplkmaa", sum := "12e911af7081b90d168d4660e80407047ecc59528bf5d53520b229a8fc89337c", func := "loop.example/g01041/laws.FnExactGroupOf", spec := "fnExactGroupOf", unfollowed := true, recurses := true, apart := false }
def FnExactGroupOfSaid : Prop := fnExactGroupOfRow.holds Try.pinned (OpenSpec.ofChange fnExactGroupOfSpec)

/-- ITS FALSE NEIGHBOUR: 'it returns false'. Refute it at one input. -/
def fnExactGroupOfWrong : ChangeSpec := { name := "fnExactGroupOf", fn := fun _ => fun
  | [d1, d2] => { results := [.lit (.bool false)], args := [d1, d2] }
  | _ => none }
def FnExactGroupOfWrongFalsely : Prop := fnExactGroupOfRow.holds Try.pinned (OpenSpec.ofChange fnExactGroupOfWrong)

/-- 'laws.FnExactSymmetricGroup': WHATEVER THE INPUT: true; the input reads as it did. -/
def fnExactSymmetricGroupSpec : ChangeSpec := { name := "fnExactSymmetricGroup", fn := fun _ => fun
  | [d] => { results := [.lit (.bool true)], args := [d] }
  | _ => none }
def fnExactSymmetricGroupRow : OpenClaim := { program := "ytogenfooeplkmaa", sum := "12e911af7081b90d168d4660e80407047ecc59528bf5d53520b229a8fc89337c", func := "loop.example/g01041/laws.FnExactSymmetricGroup", spec := "fnExactSymmetricGroup", unfollowed := true, recurses := true, apart := false }
def FnExactSymmetricGroupSaid : Prop := fnExactSymmetricGroupRow.holds Try.pinned (OpenSpec.ofChange fnExactSymmetricGroupSpec)

/-- ITS FALSE NEIGHBOUR: 'it returns false'. Refute it at one input. -/
def fnExactSymmetricGroupWrong : ChangeSpec := { name := "fnExactSymmetricGroup", fn := fun _ => fun
  | [d] => { results := [.lit (.bool false)], args := [d] }
  | _ => none }
def FnExactSymmetricGroupWrongFalsely : Prop := fnExactSymmetricGroupRow.holds Try.pinned (OpenSpec.ofChange fnExactSymmetricGroupWrong)

/-- 'laws.FnExactDihedralGroup': WHATEVER THE INPUT: true; the input reads as it did. -/
def fnExactDihedralGroupSpec : ChangeSpec := { name := "fnExactDihedralGroup", fn := fun _ => fun
  | [d] => { results := [.lit (.bool true)], args := [d] }
  | _ => none }
def fnExactDihedralGroupRow : OpenClaim := { program := "ytogenfooeplkmaa", sum := "12e911af7081b90d168d4660e80407047ecc59528bf5d53520b229a8fc89337c", func := "loop.example/g01041/laws.FnExactDihedralGroup", spec := "fnExactDihedralGroup", unfollowed := true, recurses := true, apart := false }
def FnExactDihedralGroupSaid : Prop := fnExactDihedralGroupRow.holds Try.pinned (OpenSpec.ofChange fnExactDihedralGroupSpec)

/-- ITS FALSE NEIGHBOUR: 'it returns false'. Refute it at one input. -/
def fnExactDihedralGroupWrong : ChangeSpec := { name := "fnExactDihedralGroup", fn := fun _ => fun
  | [d] => { results := [.lit (.bool false)], args := [d] }
  | _ => none }
def FnExactDihedralGroupWrongFalsely : Prop := fnExactDihedralGroupRow.holds Try.pinned (OpenSpec.ofChange fnExactDihedralGroupWrong)

/-- 'laws.FnOrbits': WHATEVER THE INPUT: true; the input reads as it did. -/
def fnOrbitsSpec : ChangeSpec := { name := "fnOrbits", fn := fun _ => fun
  | [d] => { results := [.lit (.bool true)], args := [d] }
  | _ => none }
def fnOrbitsRow : OpenClaim := { program := "ytogenfooeplkmaa", sum := "12e911af7081b90d168d4660e80407047ecc59528bf5d53520b229a8fc89337c", func := "loop.example/g01041/laws.FnOrbits", spec := "fnOrbits", unfollowed := true, recurses := true, apart := false }
def FnOrbitsSaid : Prop := fnOrbitsRow.holds Try.pinned (OpenSpec.ofChange fnOrbitsSpec)

/-- ITS FALSE NEIGHBOUR: 'it returns false'. Refute it at one input. -/
def fnOrbitsWrong : ChangeSpec := { name := "fnOrbits", fn := fun _ => fun
  | [d] => { results := [.lit (.bool false)], args := [d] }
  | _ => none }
def FnOrbitsWrongFalsely : Prop := fnOrbitsRow.holds Try.pinned (OpenSpec.ofChange fnOrbitsWrong)

/-- 'laws.FnGroups': WHATEVER THE INPUT: true; the input reads as it did. -/
def fnGroupsSpec : ChangeSpec := { name := "fnGroups", fn := fun _ => fun
  | [d] => { results := [.lit (.bool true)], args := [d] }
  | _ => none }
def fnGroupsRow : OpenClaim := { program := "ytogenfooeplkmaa", sum := "12e911af7081b90d168d4660e80407047ecc59528bf5d53520b229a8fc89337c", func := "loop.example/g01041/laws.FnGroups", spec := "fnGroups", unfollowed := true, recurses := true, apart := false }
def FnGroupsSaid : Prop := fnGroupsRow.holds Try.pinned (OpenSpec.ofChange fnGroupsSpec)

/-- ITS FALSE NEIGHBOUR: 'it returns false'. Refute it at one input. -/
def fnGroupsWrong : ChangeSpec := { name := "fnGroups", fn := fun _ => fun
  | [d] => { results := [.lit (.bool false)], args := [d] }
  | _ => none }
def FnGroupsWrongFalsely : Prop := fnGroupsRow.holds Try.pinned (OpenSpec.ofChange fnGroupsWrong)

/-- 'laws.FnExactSubsetsOf': WHATEVER THE INPUT: true; the input reads as it did. -/
def fnExactSubsetsOfSpec : ChangeSpec := { name := "fnExactSubsetsOf", fn := fun _ => fun
  | [d1, d2] => { results := [.lit (.bool true)], args := [d1, d2] }
  | _ => none }
def fnExactSubsetsOfRow : OpenClaim := { program := "ytogenfooeplkmaa", sum := "12e911af7081b90d168d4660e80407047ecc59528bf5d53520b229a8fc89337c", func := "loop.example/g01041/laws.FnExactSubsetsOf", spec := "fnExactSubsetsOf", unfollowed := true, recurses := true, apart := false }
def FnExactSubsetsOfSaid : Prop := fnExactSubsetsOfRow.holds Try.pinned (OpenSpec.ofChange fnExactSubsetsOfSpec)

/-- ITS FALSE NEIGHBOUR: 'it returns false'. Refute it at one input. -/
def fnExactSubsetsOfWrong : ChangeSpec := { name := "fnExactSubsetsOf", fn := fun _ => fun
  | [d1, d2] => { results := [.lit (.bool false)], args := [d1, d2] }
  | _ => none }
def FnExactSubsetsOfWrongFalsely : Prop := fnExactSubsetsOfRow.holds Try.pinned (OpenSpec.ofChange fnExactSubsetsOfWrong)

/-- 'laws.FnExactPairsOf': WHATEVER THE INPUT: true; the input reads as it did. -/
def fnExactPairsOfSpec : ChangeSpec := { name := "fnExactPairsOf", fn := fun _ => fun
  | [d] => { results := [.lit (.bool true)], args := [d] }
  | _ => none }
def fnExactPairsOfRow : OpenClaim := { program := "ytogenfooeplkmaa", sum := "12e911af7081b90d168d4660e80407047ecc59528bf5d53520b229a8fc89337c", func := "loop.example/g01041/laws.FnExactPairsOf", spec := "fnExactPairsOf", unfollowed := true, recurses := true, apart := false }
def FnExactPairsOfSaid : Prop := fnExactPairsOfRow.holds Try.pinned (OpenSpec.ofChange fnExactPairsOfSpec)

/-- ITS FALSE NEIGHBOUR: 'it returns false'. Refute it at one input. -/
def fnExactPairsOfWrong : ChangeSpec := { name := "fnExactPairsOf", fn := fun _ => fun
  | [d] => { results := [.lit (.bool false)], args := [d] }
  | _ => none }
def FnExactPairsOfWrongFalsely : Prop := fnExactPairsOfRow.holds Try.pinned (OpenSpec.ofChange fnExactPairsOfWrong)

/-- 'laws.FnExactSubsetAction': WHATEVER THE INPUT: true; the input reads as it did. -/
def fnExactSubsetActionSpec : ChangeSpec := { name := "fnExactSubsetAction", fn := fun _ => fun
  | [d1, d2] => { results := [.lit (.bool true)], args := [d1, d2] }
  | _ => none }
def fnExactSubsetActionRow : OpenClaim := { program := "ytogenfooeplkmaa", sum := "12e911af7081b90d168d4660e80407047ecc59528bf5d53520b229a8fc89337c", func := "loop.example/g01041/laws.FnExactSubsetAction", spec := "fnExactSubsetAction", unfollowed := true, recurses := true, apart := false }
def FnExactSubsetActionSaid : Prop := fnExactSubsetActionRow.holds Try.pinned (OpenSpec.ofChange fnExactSubsetActionSpec)

/-- ITS FALSE NEIGHBOUR: 'it returns false'. Refute it at one input. -/
def fnExactSubsetActionWrong : ChangeSpec := { name := "fnExactSubsetAction", fn := fun _ => fun
  | [d1, d2] => { results := [.lit (.bool false)], args := [d1, d2] }
  | _ => none }
def FnExactSubsetActionWrongFalsely : Prop := fnExactSubsetActionRow.holds Try.pinned (OpenSpec.ofChange fnExactSubsetActionWrong)

/-- 'laws.FnExactPairAction': WHATEVER THE INPUT: true; the input reads as it did. -/
def fnExactPairActionSpec : ChangeSpec := { name := "fnExactPairAction", fn := fun _ => fun
  | [d] => { results := [.lit (.bool true)], args := [d] }
  | _ => none }
def fnExactPairActionRow : OpenClaim := { program := "ytogenfooeplkmaa", sum := "12e911af7081b90d168d4660e80407047ecc59528bf5d53520b229a8fc89337c", func := "loop.example/g01041/laws.FnExactPairAction", spec := "fnExactPairAction", unfollowed := true, recurses := true, apart := false }
def FnExactPairActionSaid : Prop := fnExactPairActionRow.holds Try.pinned (OpenSpec.ofChange fnExactPairActionSpec)

/-- ITS FALSE NEIGHBOUR: 'it returns false'. Refute it at one input. -/
def fnExactPairActionWrong : ChangeSpec := { name := "fnExactPairAction", fn := fun _ => fun
  | [d] => { results := [.lit (.bool false)], args := [d] }
  | _ => none }
def FnExactPairActionWrongFalsely : Prop := fnExactPairActionRow.holds Try.pinned (OpenSpec.ofChange fnExactPairActionWrong)

/-- 'laws.FnPairs': WHATEVER THE INPUT: true; the input reads as it did. -/
def fnPairsSpec : ChangeSpec := { name := "fnPairs", fn := fun _ => fun
  | [d] => { results := [.lit (.bool true)], args := [d] }
  | _ => none }
def fnPairsRow : OpenClaim := { program := "ytogenfooeplkmaa", sum := "12e911af7081b90d168d4660e80407047ecc59528bf5d53520b229a8fc89337c", func := "loop.example/g01041/laws.FnPairs", spec := "fnPairs", unfollowed := true, recurses := true, apart := false }
def FnPairsSaid : Prop := fnPairsRow.holds Try.pinned (OpenSpec.ofChange fnPairsSpec)

/-- ITS FALSE NEIGHBOUR: 'it returns false'. Refute it at one input. -/
def fnPairsWrong : ChangeSpec := { name := "fnPairs", fn := fun _ => fun
  | [d] => { results := [.lit (.bool false)], args := [d] }
  | _ => none }
def FnPairsWrongFalsely : Prop := fnPairsRow.holds Try.pinned (OpenSpec.ofChange fnPairsWrong)

/-- 'laws.FnExactPairGroup': WHATEVER THE INPUT: true; the input reads as it did. -/
def fnExactPairGroupSpec : ChangeSpec := { name := "fnExactPairGroup", fn := fun _ => fun
  | [d] => { results := [.lit (.bool true)], args := [d] }
  | _ => none }
def fnExactPairGroupRow : OpenClaim := { program := "ytogenfooeplkmaa", sum := "12e911af7081b90d168d4660e80407047ecc59528bf5d53520b229a8fc89337c", func := "loop.example/g01041/laws.FnExactPairGroup", spec := "fnExactPairGroup", unfollowed := true, recurses := true, apart := false }
def FnExactPairGroupSaid : Prop := fnExactPairGroupRow.holds Try.pinned (OpenSpec.ofChange fnExactPairGroupSpec)

/-- ITS FALSE NEIGHBOUR: 'it returns false'. Refute it at one input. -/
def fnExactPairGroupWrong : ChangeSpec := { name := "fnExactPairGroup", fn := fun _ => fun
  | [d] => { results := [.lit (.bool false)], args := [d] }
  | _ => none }
def FnExactPairGroupWrongFalsely : Prop := fnExactPairGroupRow.holds Try.pinned (OpenSpec.ofChange fnExactPairGroupWrong)

/- THE SECOND FORM. 'bulk': how many values and letters a reading holds, each counted each time it is reached (what is shared counts as often as it is met; a slice's spare places count too). A statement '..UptoSaid' is the law's where the arguments, and the package variables that the reading takes, are together of bulk at most 1048576: NARROWER than '..Said'. Prove '..Said' where nothing that the law and all that it calls make is longer than what came in: it says more and counts as full. Else prove '..UptoSaid'. A law counts once. -/
mutual
def uptoBulk {H : Type} : DataW H → Nat
  | .lit (.string bytes) => bytes.length + 1
  | .lit _ => 1
  | .nil => 1
  | .ptr d => uptoBulk d + 1
  | .slice elems spare => uptoBulkAll elems + uptoBulkAll spare + 1
  | .agg parts => uptoBulkAll parts + 1
  | .iface _ d => uptoBulk d + 1
  | .map entries => uptoBulkEntries entries + 1
  | .held _ => 1
def uptoBulkAll {H : Type} : List (DataW H) → Nat
  | [] => 0
  | d :: r => uptoBulk d + uptoBulkAll r
def uptoBulkEntries {H : Type} : List (Lit × DataW H) → Nat
  | [] => 0
  | x :: r => uptoBulkEntry x + uptoBulkEntries r
def uptoBulkEntry {H : Type} : Lit × DataW H → Nat
  | (.string bytes, d) => bytes.length + uptoBulk d + 1
  | (_, d) => uptoBulk d + 1
 end
def uptoSmall : (H : Type) → List (DataW H) → Bool := fun _ ds => decide (uptoBulkAll ds ≤ 1048576)
def OpenSpec.upto (s : _root_.Go.ChangeSpec) : _root_.Go.OpenSpec := { _root_.Go.OpenSpec.ofChange s with cond := some uptoSmall }

/-- 'laws.FnExactCyclicGroup', WHERE WHAT IT READS IS OF BULK AT MOST 1048576: true; the input reads as it did. -/
def fnExactCyclicGroupUptoRow : OpenClaim := { program := "ytogenfooeplkmaa", sum := "12e911af7081b90d168d4660e80407047ecc59528bf5d53520b229a8fc89337c", func := "loop.example/g01041/laws.FnExactCyclicGroup", spec := "fnExactCyclicGroup", unfollowed := true, recurses := true, apart := false, narrowed := true }
def FnExactCyclicGroupUptoSaid : Prop := fnExactCyclicGroupUptoRow.holds Try.pinned (OpenSpec.upto fnExactCyclicGroupSpec)

/-- 'laws.FnExactGroupOf', WHERE WHAT IT READS IS OF BULK AT MOST 1048576: true; the input reads as it did. -/
def fnExactGroupOfUptoRow : OpenClaim := { program := "ytogenfooeplkmaa", sum := "12e911af7081b90d168d4660e80407047ecc59528bf5d53520b229a8fc89337c", func := "loop.example/g01041/laws.FnExactGroupOf", spec := "fnExactGroupOf", unfollowed := true, recurses := true, apart := false, narrowed := true }
def FnExactGroupOfUptoSaid : Prop := fnExactGroupOfUptoRow.holds Try.pinned (OpenSpec.upto fnExactGroupOfSpec)

/-- 'laws.FnExactSymmetricGroup', WHERE WHAT IT READS IS OF BULK AT MOST 1048576: true; the input reads as it did. -/
def fnExactSymmetricGroupUptoRow : OpenClaim := { program := "ytogenfooeplkmaa", sum := "12e911af7081b90d168d4660e80407047ecc59528bf5d53520b229a8fc89337c", func := "loop.example/g01041/laws.FnExactSymmetricGroup", spec := "fnExactSymmetricGroup", unfollowed := true, recurses := true, apart := false, narrowed := true }
def FnExactSymmetricGroupUptoSaid : Prop := fnExactSymmetricGroupUptoRow.holds Try.pinned (OpenSpec.upto fnExactSymmetricGroupSpec)

/-- 'laws.FnExactDihedralGroup', WHERE WHAT IT READS IS OF BULK AT MOST 1048576: true; the input reads as it did. -/
def fnExactDihedralGroupUptoRow : OpenClaim := { program := "ytogenfooeplkmaa", sum := "12e911af7081b90d168d4660e80407047ecc59528bf5d53520b229a8fc89337c", func := "loop.example/g01041/laws.FnExactDihedralGroup", spec := "fnExactDihedralGroup", unfollowed := true, recurses := true, apart := false, narrowed := true }
def FnExactDihedralGroupUptoSaid : Prop := fnExactDihedralGroupUptoRow.holds Try.pinned (OpenSpec.upto fnExactDihedralGroupSpec)

/-- 'laws.FnOrbits', WHERE WHAT IT READS IS OF BULK AT MOST 1048576: true; the input reads as it did. -/
def fnOrbitsUptoRow : OpenClaim := { program := "ytogenfooeplkmaa", sum := "12e911af7081b90d168d4660e80407047ecc59528bf5d53520b229a8fc89337c", func := "loop.example/g01041/laws.FnOrbits", spec := "fnOrbits", unfollowed := true, recurses := true, apart := false, narrowed := true }
def FnOrbitsUptoSaid : Prop := fnOrbitsUptoRow.holds Try.pinned (OpenSpec.upto fnOrbitsSpec)

/-- 'laws.FnGroups', WHERE WHAT IT READS IS OF BULK AT MOST 1048576: true; the input reads as it did. -/
def fnGroupsUptoRow : OpenClaim := { program := "ytogenfooeplkmaa", sum := "12e911af7081b90d168d4660e80407047ecc59528bf5d53520b229a8fc89337c", func := "loop.example/g01041/laws.FnGroups", spec := "fnGroups", unfollowed := true, recurses := true, apart := false, narrowed := true }
def FnGroupsUptoSaid : Prop := fnGroupsUptoRow.holds Try.pinned (OpenSpec.upto fnGroupsSpec)

/-- 'laws.FnExactSubsetsOf', WHERE WHAT IT READS IS OF BULK AT MOST 1048576: true; the input reads as it did. -/
def fnExactSubsetsOfUptoRow : OpenClaim := { program := "ytogenfooeplkmaa", sum := "12e911af7081b90d168d4660e80407047ecc59528bf5d53520b229a8fc89337c", func := "loop.example/g01041/laws.FnExactSubsetsOf", spec := "fnExactSubsetsOf", unfollowed := true, recurses := true, apart := false, narrowed := true }
def FnExactSubsetsOfUptoSaid : Prop := fnExactSubsetsOfUptoRow.holds Try.pinned (OpenSpec.upto fnExactSubsetsOfSpec)

/-- 'laws.FnExactPairsOf', WHERE WHAT IT READS IS OF BULK AT MOST 1048576: true; the input reads as it did. -/
def fnExactPairsOfUptoRow : OpenClaim := { program := "ytogenfooeplkmaa", sum := "12e911af7081b90d168d4660e80407047ecc59528bf5d53520b229a8fc89337c", func := "loop.example/g01041/laws.FnExactPairsOf", spec := "fnExactPairsOf", unfollowed := true, recurses := true, apart := false, narrowed := true }
def FnExactPairsOfUptoSaid : Prop := fnExactPairsOfUptoRow.holds Try.pinned (OpenSpec.upto fnExactPairsOfSpec)

/-- 'laws.FnExactSubsetAction', WHERE WHAT IT READS IS OF BULK AT MOST 1048576: true; the input reads as it did. -/
def fnExactSubsetActionUptoRow : OpenClaim := { program := "ytogenfooeplkmaa", sum := "12e911af7081b90d168d4660e80407047ecc59528bf5d53520b229a8fc89337c", func := "loop.example/g01041/laws.FnExactSubsetAction", spec := "fnExactSubsetAction", unfollowed := true, recurses := true, apart := false, narrowed := true }
def FnExactSubsetActionUptoSaid : Prop := fnExactSubsetActionUptoRow.holds Try.pinned (OpenSpec.upto fnExactSubsetActionSpec)

/-- 'laws.FnExactPairAction', WHERE WHAT IT READS IS OF BULK AT MOST 1048576: true; the input reads as it did. -/
def fnExactPairActionUptoRow : OpenClaim := { program := "ytogenfooeplkmaa", sum := "12e911af7081b90d168d4660e80407047ecc59528bf5d53520b229a8fc89337c", func := "loop.example/g01041/laws.FnExactPairAction", spec := "fnExactPairAction", unfollowed := true, recurses := true, apart := false, narrowed := true }
def FnExactPairActionUptoSaid : Prop := fnExactPairActionUptoRow.holds Try.pinned (OpenSpec.upto fnExactPairActionSpec)

/-- 'laws.FnPairs', WHERE WHAT IT READS IS OF BULK AT MOST 1048576: true; the input reads as it did. -/
def fnPairsUptoRow : OpenClaim := { program := "ytogenfooeplkmaa", sum := "12e911af7081b90d168d4660e80407047ecc59528bf5d53520b229a8fc89337c", func := "loop.example/g01041/laws.FnPairs", spec := "fnPairs", unfollowed := true, recurses := true, apart := false, narrowed := true }
def FnPairsUptoSaid : Prop := fnPairsUptoRow.holds Try.pinned (OpenSpec.upto fnPairsSpec)

/-- 'laws.FnExactPairGroup', WHERE WHAT IT READS IS OF BULK AT MOST 1048576: true; the input reads as it did. -/
def fnExactPairGroupUptoRow : OpenClaim := { program := "ytogenfooeplkmaa", sum := "12e911af7081b90d168d4660e80407047ecc59528bf5d53520b229a8fc89337c", func := "loop.example/g01041/laws.FnExactPairGroup", spec := "fnExactPairGroup", unfollowed := true, recurses := true, apart := false, narrowed := true }
def FnExactPairGroupUptoSaid : Prop := fnExactPairGroupUptoRow.holds Try.pinned (OpenSpec.upto fnExactPairGroupSpec)

end Rows
end Go.Proofs.Ytogenfooeplkmaa
