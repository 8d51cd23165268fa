/-
  No cell of these rows narrows 'for every input' (looked for: loops, veiled, ifaces, maps, wideKeys, modest, calm, conditions, laid).
  DERIVED. THE GIVEN ROWS OF THIS SEAT. 9 by the template 'for every input the law returns true; each argument reads behind the call as it read before'; 0 by the template 'total and deterministic' (their statements: YtmgighhdkgcigaaTotals.lean).
  GIVEN WITH THE SEED: the statements are not yours to turn. If you find one false, say at which input.
  Laid BY PROGRAM, IN A SANDBOX (cutbox-rows.mjs): the forced cells as the released guide's own fill.sh prints them over the translation 76d23a4ebbe25db1… (all of the seat's roots in one cut). By AI agents, Wed Nov 11 2026. No macro, syntax, notation, axiom, sorry.
-/
import Derived.Test.YtmgighhdkgcigaaChecked
import GoSem.Claim
import GoSem.ClaimJoined
import GoSem.ClaimMapViews
import Derived.JoinedTies
import Derived.KernelRfl
namespace Go.Proofs.Ytmgighhdkgcigaa
/- THE CELL 'sum', in the pinned program and in every row, IS THE sha256 OF THE DUMP (.gsa) THAT YtmgighhdkgcigaaProg.lean LOADS. Nothing in Lean hashes anything: it is a label: what it is worth is what the hold of that sum in a sandbox is worth. -/
noncomputable def Try.pinned : Pinned := { name := "ytmgighhdkgcigaa", sum := "76d23a4ebbe25db1da53a99adc16e81705c5b41eaa78a736f5de8181a78f6ed9", checked := Try.checked }
namespace Rows
def none {H : Type} : Left H := { results := [], args := [] }

/-- 'laws.FnExactActOn': WHATEVER THE INPUT: true; the input reads as it did. -/
def fnExactActOnSpec : ChangeSpec := { name := "fnExactActOn", fn := fun _ => fun
  | [d1, d2] => { results := [.lit (.bool true)], args := [d1, d2] }
  | _ => none }
def fnExactActOnRow : OpenClaim := { program := "ytmgighhdkgcigaa", sum := "76d23a4ebbe25db1da53a99adc16e81705c5b41eaa78a736f5de8181a78f6ed9", func := "loop.example/g01041/laws.FnExactActOn", spec := "fnExactActOn", apart := false }
def FnExactActOnSaid : Prop := fnExactActOnRow.holds Try.pinned (OpenSpec.ofChange fnExactActOnSpec)

/-- ITS FALSE NEIGHBOUR: 'it returns false'. Refute it at one input. -/
def fnExactActOnWrong : ChangeSpec := { name := "fnExactActOn", fn := fun _ => fun
  | [d1, d2] => { results := [.lit (.bool false)], args := [d1, d2] }
  | _ => none }
def FnExactActOnWrongFalsely : Prop := fnExactActOnRow.holds Try.pinned (OpenSpec.ofChange fnExactActOnWrong)

/-- 'laws.FnExactPowerPerm': WHATEVER THE INPUT: true; the input reads as it did. -/
def fnExactPowerPermSpec : ChangeSpec := { name := "fnExactPowerPerm", fn := fun _ => fun
  | [d1, d2] => { results := [.lit (.bool true)], args := [d1, d2] }
  | _ => none }
def fnExactPowerPermRow : OpenClaim := { program := "ytmgighhdkgcigaa", sum := "76d23a4ebbe25db1da53a99adc16e81705c5b41eaa78a736f5de8181a78f6ed9", func := "loop.example/g01041/laws.FnExactPowerPerm", spec := "fnExactPowerPerm", apart := false }
def FnExactPowerPermSaid : Prop := fnExactPowerPermRow.holds Try.pinned (OpenSpec.ofChange fnExactPowerPermSpec)

/-- ITS FALSE NEIGHBOUR: 'it returns false'. Refute it at one input. -/
def fnExactPowerPermWrong : ChangeSpec := { name := "fnExactPowerPerm", fn := fun _ => fun
  | [d1, d2] => { results := [.lit (.bool false)], args := [d1, d2] }
  | _ => none }
def FnExactPowerPermWrongFalsely : Prop := fnExactPowerPermRow.holds Try.pinned (OpenSpec.ofChange fnExactPowerPermWrong)

/-- 'laws.FnExactIsFixed': WHATEVER THE INPUT: true; the input reads as it did. -/
def fnExactIsFixedSpec : ChangeSpec := { name := "fnExactIsFixed", fn := fun _ => fun
  | [d1, d2] => { results := [.lit (.bool true)], args := [d1, d2] }
  | _ => none }
def fnExactIsFixedRow : OpenClaim := { program := "ytmgighhdkgcigaa", sum := "76d23a4ebbe25db1da53a99adc16e81705c5b41eaa78a736f5de8181a78f6ed9", func := "loop.example/g01041/laws.FnExactIsFixed", spec := "fnExactIsFixed", apart := false }
def FnExactIsFixedSaid : Prop := fnExactIsFixedRow.holds Try.pinned (OpenSpec.ofChange fnExactIsFixedSpec)

/-- ITS FALSE NEIGHBOUR: 'it returns false'. Refute it at one input. -/
def fnExactIsFixedWrong : ChangeSpec := { name := "fnExactIsFixed", fn := fun _ => fun
  | [d1, d2] => { results := [.lit (.bool false)], args := [d1, d2] }
  | _ => none }
def FnExactIsFixedWrongFalsely : Prop := fnExactIsFixedRow.holds Try.pinned (OpenSpec.ofChange fnExactIsFixedWrong)

/-- 'laws.FnExactCycleType': WHATEVER THE INPUT: true; the input reads as it did. -/
def fnExactCycleTypeSpec : ChangeSpec := { name := "fnExactCycleType", fn := fun _ => fun
  | [d] => { results := [.lit (.bool true)], args := [d] }
  | _ => none }
def fnExactCycleTypeRow : OpenClaim := { program := "ytmgighhdkgcigaa", sum := "76d23a4ebbe25db1da53a99adc16e81705c5b41eaa78a736f5de8181a78f6ed9", func := "loop.example/g01041/laws.FnExactCycleType", spec := "fnExactCycleType", apart := false }
def FnExactCycleTypeSaid : Prop := fnExactCycleTypeRow.holds Try.pinned (OpenSpec.ofChange fnExactCycleTypeSpec)

/-- ITS FALSE NEIGHBOUR: 'it returns false'. Refute it at one input. -/
def fnExactCycleTypeWrong : ChangeSpec := { name := "fnExactCycleType", fn := fun _ => fun
  | [d] => { results := [.lit (.bool false)], args := [d] }
  | _ => none }
def FnExactCycleTypeWrongFalsely : Prop := fnExactCycleTypeRow.holds Try.pinned (OpenSpec.ofChange fnExactCycleTypeWrong)

/-- 'laws.FnExactOrderOf': WHATEVER THE INPUT: true; the input reads as it did. -/
def fnExactOrderOfSpec : ChangeSpec := { name := "fnExactOrderOf", fn := fun _ => fun
  | [d] => { results := [.lit (.bool true)], args := [d] }
  | _ => none }
def fnExactOrderOfRow : OpenClaim := { program := "ytmgighhdkgcigaa", sum := "76d23a4ebbe25db1da53a99adc16e81705c5b41eaa78a736f5de8181a78f6ed9", func := "loop.example/g01041/laws.FnExactOrderOf", spec := "fnExactOrderOf", apart := false }
def FnExactOrderOfSaid : Prop := fnExactOrderOfRow.holds Try.pinned (OpenSpec.ofChange fnExactOrderOfSpec)

/-- ITS FALSE NEIGHBOUR: 'it returns false'. Refute it at one input. -/
def fnExactOrderOfWrong : ChangeSpec := { name := "fnExactOrderOf", fn := fun _ => fun
  | [d] => { results := [.lit (.bool false)], args := [d] }
  | _ => none }
def FnExactOrderOfWrongFalsely : Prop := fnExactOrderOfRow.holds Try.pinned (OpenSpec.ofChange fnExactOrderOfWrong)

/-- 'laws.FnExactCyclesOf': WHATEVER THE INPUT: true; the input reads as it did. -/
def fnExactCyclesOfSpec : ChangeSpec := { name := "fnExactCyclesOf", fn := fun _ => fun
  | [d] => { results := [.lit (.bool true)], args := [d] }
  | _ => none }
def fnExactCyclesOfRow : OpenClaim := { program := "ytmgighhdkgcigaa", sum := "76d23a4ebbe25db1da53a99adc16e81705c5b41eaa78a736f5de8181a78f6ed9", func := "loop.example/g01041/laws.FnExactCyclesOf", spec := "fnExactCyclesOf", apart := false }
def FnExactCyclesOfSaid : Prop := fnExactCyclesOfRow.holds Try.pinned (OpenSpec.ofChange fnExactCyclesOfSpec)

/-- ITS FALSE NEIGHBOUR: 'it returns false'. Refute it at one input. -/
def fnExactCyclesOfWrong : ChangeSpec := { name := "fnExactCyclesOf", fn := fun _ => fun
  | [d] => { results := [.lit (.bool false)], args := [d] }
  | _ => none }
def FnExactCyclesOfWrongFalsely : Prop := fnExactCyclesOfRow.holds Try.pinned (OpenSpec.ofChange fnExactCyclesOfWrong)

/-- 'laws.FnActions': WHATEVER THE INPUT: true; the input reads as it did. -/
def fnActionsSpec : ChangeSpec := { name := "fnActions", fn := fun _ => fun
  | [d] => { results := [.lit (.bool true)], args := [d] }
  | _ => none }
def fnActionsRow : OpenClaim := { program := "ytmgighhdkgcigaa", sum := "76d23a4ebbe25db1da53a99adc16e81705c5b41eaa78a736f5de8181a78f6ed9", func := "loop.example/g01041/laws.FnActions", spec := "fnActions", apart := false }
def FnActionsSaid : Prop := fnActionsRow.holds Try.pinned (OpenSpec.ofChange fnActionsSpec)

/-- ITS FALSE NEIGHBOUR: 'it returns false'. Refute it at one input. -/
def fnActionsWrong : ChangeSpec := { name := "fnActions", fn := fun _ => fun
  | [d] => { results := [.lit (.bool false)], args := [d] }
  | _ => none }
def FnActionsWrongFalsely : Prop := fnActionsRow.holds Try.pinned (OpenSpec.ofChange fnActionsWrong)

/-- 'laws.FnExactCountFixed': WHATEVER THE INPUT: true; the input reads as it did. -/
def fnExactCountFixedSpec : ChangeSpec := { name := "fnExactCountFixed", fn := fun _ => fun
  | [d1, d2] => { results := [.lit (.bool true)], args := [d1, d2] }
  | _ => none }
def fnExactCountFixedRow : OpenClaim := { program := "ytmgighhdkgcigaa", sum := "76d23a4ebbe25db1da53a99adc16e81705c5b41eaa78a736f5de8181a78f6ed9", func := "loop.example/g01041/laws.FnExactCountFixed", spec := "fnExactCountFixed", recurses := true, apart := false }
def FnExactCountFixedSaid : Prop := fnExactCountFixedRow.holds Try.pinned (OpenSpec.ofChange fnExactCountFixedSpec)

/-- ITS FALSE NEIGHBOUR: 'it returns false'. Refute it at one input. -/
def fnExactCountFixedWrong : ChangeSpec := { name := "fnExactCountFixed", fn := fun _ => fun
  | [d1, d2] => { results := [.lit (.bool false)], args := [d1, d2] }
  | _ => none }
def FnExactCountFixedWrongFalsely : Prop := fnExactCountFixedRow.holds Try.pinned (OpenSpec.ofChange fnExactCountFixedWrong)

/-- 'laws.FnPerms': WHATEVER THE INPUT: true; the input reads as it did. -/
def fnPermsSpec : ChangeSpec := { name := "fnPerms", fn := fun _ => fun
  | [d] => { results := [.lit (.bool true)], args := [d] }
  | _ => none }
def fnPermsRow : OpenClaim := { program := "ytmgighhdkgcigaa", sum := "76d23a4ebbe25db1da53a99adc16e81705c5b41eaa78a736f5de8181a78f6ed9", func := "loop.example/g01041/laws.FnPerms", spec := "fnPerms", apart := false }
def FnPermsSaid : Prop := fnPermsRow.holds Try.pinned (OpenSpec.ofChange fnPermsSpec)

/-- ITS FALSE NEIGHBOUR: 'it returns false'. Refute it at one input. -/
def fnPermsWrong : ChangeSpec := { name := "fnPerms", fn := fun _ => fun
  | [d] => { results := [.lit (.bool false)], args := [d] }
  | _ => none }
def FnPermsWrongFalsely : Prop := fnPermsRow.holds Try.pinned (OpenSpec.ofChange fnPermsWrong)

/- THE SECOND FORM. 'bulk': how many values and letters a reading holds, each counted each time it is reached (what is shared counts as often as it is met; a slice's spare places count too). A statement '..UptoSaid' is the law's where the arguments, and the package variables that the reading takes, are together of bulk at most 1048576: NARROWER than '..Said'. Prove '..Said' where nothing that the law and all that it calls make is longer than what came in: it says more and counts as full. Else prove '..UptoSaid'. A law counts once. -/
mutual
def uptoBulk {H : Type} : DataW H → Nat
  | .lit (.string bytes) => bytes.length + 1
  | .lit _ => 1
  | .nil => 1
  | .ptr d => uptoBulk d + 1
  | .slice elems spare => uptoBulkAll elems + uptoBulkAll spare + 1
  | .agg parts => uptoBulkAll parts + 1
  | .iface _ d => uptoBulk d + 1
  | .map entries => uptoBulkEntries entries + 1
  | .held _ => 1
def uptoBulkAll {H : Type} : List (DataW H) → Nat
  | [] => 0
  | d :: r => uptoBulk d + uptoBulkAll r
def uptoBulkEntries {H : Type} : List (Lit × DataW H) → Nat
  | [] => 0
  | x :: r => uptoBulkEntry x + uptoBulkEntries r
def uptoBulkEntry {H : Type} : Lit × DataW H → Nat
  | (.string bytes, d) => bytes.length + uptoBulk d + 1
  | (_, d) => uptoBulk d + 1
 end
def uptoSmall : (H : Type) → List (DataW H) → Bool := fun _ ds => decide (uptoBulkAll ds ≤ 1048576)
def OpenSpec.upto (s : _root_.Go.ChangeSpec) : _root_.Go.OpenSpec := { _root_.Go.OpenSpec.ofChange s with cond := some uptoSmall }

/-- 'laws.FnExactActOn', WHERE WHAT IT READS IS OF BULK AT MOST 1048576: true; the input reads as it did. -/
def fnExactActOnUptoRow : OpenClaim := { program := "ytmgighhdkgcigaa", sum := "76d23a4ebbe25db1da53a99adc16e81705c5b41eaa78a736f5de8181a78f6ed9", func := "loop.example/g01041/laws.FnExactActOn", spec := "fnExactActOn", apart := false, narrowed := true }
def FnExactActOnUptoSaid : Prop := fnExactActOnUptoRow.holds Try.pinned (OpenSpec.upto fnExactActOnSpec)

/-- 'laws.FnExactPowerPerm', WHERE WHAT IT READS IS OF BULK AT MOST 1048576: true; the input reads as it did. -/
def fnExactPowerPermUptoRow : OpenClaim := { program := "ytmgighhdkgcigaa", sum := "76d23a4ebbe25db1da53a99adc16e81705c5b41eaa78a736f5de8181a78f6ed9", func := "loop.example/g01041/laws.FnExactPowerPerm", spec := "fnExactPowerPerm", apart := false, narrowed := true }
def FnExactPowerPermUptoSaid : Prop := fnExactPowerPermUptoRow.holds Try.pinned (OpenSpec.upto fnExactPowerPermSpec)

/-- 'laws.FnExactIsFixed', WHERE WHAT IT READS IS OF BULK AT MOST 1048576: true; the input reads as it did. -/
def fnExactIsFixedUptoRow : OpenClaim := { program := "ytmgighhdkgcigaa", sum := "76d23a4ebbe25db1da53a99adc16e81705c5b41eaa78a736f5de8181a78f6ed9", func := "loop.example/g01041/laws.FnExactIsFixed", spec := "fnExactIsFixed", apart := false, narrowed := true }
def FnExactIsFixedUptoSaid : Prop := fnExactIsFixedUptoRow.holds Try.pinned (OpenSpec.upto fnExactIsFixedSpec)

/-- 'laws.FnExactCycleType', WHERE WHAT IT READS IS OF BULK AT MOST 1048576: true; the input reads as it did. -/
def fnExactCycleTypeUptoRow : OpenClaim := { program := "ytmgighhdkgcigaa", sum := "76d23a4ebbe25db1da53a99adc16e81705c5b41eaa78a736f5de8181a78f6ed9", func := "loop.example/g01041/laws.FnExactCycleType", spec := "fnExactCycleType", apart := false, narrowed := true }
def FnExactCycleTypeUptoSaid : Prop := fnExactCycleTypeUptoRow.holds Try.pinned (OpenSpec.upto fnExactCycleTypeSpec)

/-- 'laws.FnExactOrderOf', WHERE WHAT IT READS IS OF BULK AT MOST 1048576: true; the input reads as it did. -/
def fnExactOrderOfUptoRow : OpenClaim := { program := "ytmgighhdkgcigaa", sum := "76d23a4ebbe25db1da53a99adc16e81705c5b41eaa78a736f5de8181a78f6ed9", func := "loop.example/g01041/laws.FnExactOrderOf", spec := "fnExactOrderOf", apart := false, narrowed := true }
def FnExactOrderOfUptoSaid : Prop := fnExactOrderOfUptoRow.holds Try.pinned (OpenSpec.upto fnExactOrderOfSpec)

/-- 'laws.FnExactCyclesOf', WHERE WHAT IT READS IS OF BULK AT MOST 1048576: true; the input reads as it did. -/
def fnExactCyclesOfUptoRow : OpenClaim := { program := "ytmgighhdkgcigaa", sum := "76d23a4ebbe25db1da53a99adc16e81705c5b41eaa78a736f5de8181a78f6ed9", func := "loop.example/g01041/laws.FnExactCyclesOf", spec := "fnExactCyclesOf", apart := false, narrowed := true }
def FnExactCyclesOfUptoSaid : Prop := fnExactCyclesOfUptoRow.holds Try.pinned (OpenSpec.upto fnExactCyclesOfSpec)

/-- 'laws.FnActions', WHERE WHAT IT READS IS OF BULK AT MOST 1048576: true; the input reads as it did. -/
def fnActionsUptoRow : OpenClaim := { program := "ytmgighhdkgcigaa", sum := "76d23a4ebbe25db1da53a99adc16e81705c5b41eaa78a736f5de8181a78f6ed9", func := "loop.example/g01041/laws.FnActions", spec := "fnActions", apart := false, narrowed := true }
def FnActionsUptoSaid : Prop := fnActionsUptoRow.holds Try.pinned (OpenSpec.upto fnActionsSpec)

/-- 'laws.FnExactCountFixed', WHERE WHAT IT READS IS OF BULK AT MOST 1048576: true; the input reads as it did. -/
def fnExactCountFixedUptoRow : OpenClaim := { program := "ytmgighhdkgcigaa", sum := "76d23a4ebbe25db1da53a99adc16e81705c5b41eaa78a736f5de8181a78f6ed9", func := "loop.example/g01041/laws.FnExactCountFixed", spec := "fnExactCountFixed", recurses := true, apart := false, narrowed := true }
def FnExactCountFixedUptoSaid : Prop := fnExactCountFixedUptoRow.holds Try.pinned (OpenSpec.upto fnExactCountFixedSpec)

/-- 'laws.FnPerms', WHERE WHAT IT READS IS OF BULK AT MOST 1048576: true; the input reads as it did. -/
def fnPermsUptoRow : OpenClaim := { program := "ytmgighhdkgcigaa", sum := "76d23a4ebbe25db1da53a99adc16e81705c5b41eaa78a736f5de8181a78f6ed9", func := "loop.example/g01041/laws.FnPerms", spec := "fnPerms", apart := false, narrowed := true }
def FnPermsUptoSaid : Prop := fnPermsUptoRow.holds Try.pinned (OpenSpec.upto fnPermsSpec)

end Rows
end Go.Proofs.Ytmgighhdkgcigaa
