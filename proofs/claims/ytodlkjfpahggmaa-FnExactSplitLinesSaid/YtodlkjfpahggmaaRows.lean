/-
  No cell of these rows narrows 'for every input' (looked for: loops, veiled, ifaces, maps, wideKeys, modest, calm, conditions, laid).
  DERIVED. THE GIVEN ROWS OF THIS SEAT. 12 by the template 'for every input the law returns true; each argument reads behind the call as it read before'; 0 by the template 'total and deterministic' (their statements: YtodlkjfpahggmaaTotals.lean).
  GIVEN WITH THE SEED: the statements are not yours to turn. If you find one false, say at which input.
  Laid BY PROGRAM, IN A SANDBOX (cutbox-rows.mjs): the forced cells as the released guide's own fill.sh prints them over the translation f66997ac7d7d5534… (all of the seat's roots in one cut). By AI agents, Wed Nov 11 2026. No macro, syntax, notation, axiom, sorry.
-/
import Derived.Test.YtodlkjfpahggmaaChecked
import GoSem.Claim
import GoSem.ClaimJoined
import GoSem.ClaimMapViews
import Derived.JoinedTies
import Derived.KernelRfl
namespace Go.Proofs.Ytodlkjfpahggmaa
/- THE CELL 'sum', in the pinned program and in every row, IS THE sha256 OF THE DUMP (.gsa) THAT YtodlkjfpahggmaaProg.lean LOADS. Nothing in Lean hashes anything: it is a label: what it is worth is what the hold of that sum in a sandbox is worth. -/
noncomputable def Try.pinned : Pinned := { name := "ytodlkjfpahggmaa", sum := "f66997ac7d7d553428f93f056d51a59fa428106511b291db34e60780aec48029", checked := Try.checked }
namespace Rows
def none {H : Type} : Left H := { results := [], args := [] }

/-- 'laws.FnExactConstants': WHATEVER THE INPUT: true; the input reads as it did. -/
def fnExactConstantsSpec : ChangeSpec := { name := "fnExactConstants", fn := fun _ => fun
  | [] => { results := [.lit (.bool true)], args := [] }
  | _ => none }
def fnExactConstantsRow : OpenClaim := { program := "ytodlkjfpahggmaa", sum := "f66997ac7d7d553428f93f056d51a59fa428106511b291db34e60780aec48029", func := "loop.example/g01041/laws.FnExactConstants", spec := "fnExactConstants", apart := false }
def FnExactConstantsSaid : Prop := fnExactConstantsRow.holds Try.pinned (OpenSpec.ofChange fnExactConstantsSpec)

/-- ITS FALSE NEIGHBOUR: 'it returns false'. Refute it at one input. -/
def fnExactConstantsWrong : ChangeSpec := { name := "fnExactConstants", fn := fun _ => fun
  | [] => { results := [.lit (.bool false)], args := [] }
  | _ => none }
def FnExactConstantsWrongFalsely : Prop := fnExactConstantsRow.holds Try.pinned (OpenSpec.ofChange fnExactConstantsWrong)

/-- 'laws.FnExactIsDigits': WHATEVER THE INPUT: true; the input reads as it did. -/
def fnExactIsDigitsSpec : ChangeSpec := { name := "fnExactIsDigits", fn := fun _ => fun
  | [d] => { results := [.lit (.bool true)], args := [d] }
  | _ => none }
def fnExactIsDigitsRow : OpenClaim := { program := "ytodlkjfpahggmaa", sum := "f66997ac7d7d553428f93f056d51a59fa428106511b291db34e60780aec48029", func := "loop.example/g01041/laws.FnExactIsDigits", spec := "fnExactIsDigits", apart := false }
def FnExactIsDigitsSaid : Prop := fnExactIsDigitsRow.holds Try.pinned (OpenSpec.ofChange fnExactIsDigitsSpec)

/-- ITS FALSE NEIGHBOUR: 'it returns false'. Refute it at one input. -/
def fnExactIsDigitsWrong : ChangeSpec := { name := "fnExactIsDigits", fn := fun _ => fun
  | [d] => { results := [.lit (.bool false)], args := [d] }
  | _ => none }
def FnExactIsDigitsWrongFalsely : Prop := fnExactIsDigitsRow.holds Try.pinned (OpenSpec.ofChange fnExactIsDigitsWrong)

/-- 'laws.FnExactIsName': WHATEVER THE INPUT: true; the input reads as it did. -/
def fnExactIsNameSpec : ChangeSpec := { name := "fnExactIsName", fn := fun _ => fun
  | [d] => { results := [.lit (.bool true)], args := [d] }
  | _ => none }
def fnExactIsNameRow : OpenClaim := { program := "ytodlkjfpahggmaa", sum := "f66997ac7d7d553428f93f056d51a59fa428106511b291db34e60780aec48029", func := "loop.example/g01041/laws.FnExactIsName", spec := "fnExactIsName", apart := false }
def FnExactIsNameSaid : Prop := fnExactIsNameRow.holds Try.pinned (OpenSpec.ofChange fnExactIsNameSpec)

/-- ITS FALSE NEIGHBOUR: 'it returns false'. Refute it at one input. -/
def fnExactIsNameWrong : ChangeSpec := { name := "fnExactIsName", fn := fun _ => fun
  | [d] => { results := [.lit (.bool false)], args := [d] }
  | _ => none }
def FnExactIsNameWrongFalsely : Prop := fnExactIsNameRow.holds Try.pinned (OpenSpec.ofChange fnExactIsNameWrong)

/-- 'laws.FnExactFormatInt': WHATEVER THE INPUT: true; the input reads as it did. -/
def fnExactFormatIntSpec : ChangeSpec := { name := "fnExactFormatInt", fn := fun _ => fun
  | [d] => { results := [.lit (.bool true)], args := [d] }
  | _ => none }
def fnExactFormatIntRow : OpenClaim := { program := "ytodlkjfpahggmaa", sum := "f66997ac7d7d553428f93f056d51a59fa428106511b291db34e60780aec48029", func := "loop.example/g01041/laws.FnExactFormatInt", spec := "fnExactFormatInt", recurses := true, apart := false }
def FnExactFormatIntSaid : Prop := fnExactFormatIntRow.holds Try.pinned (OpenSpec.ofChange fnExactFormatIntSpec)

/-- ITS FALSE NEIGHBOUR: 'it returns false'. Refute it at one input. -/
def fnExactFormatIntWrong : ChangeSpec := { name := "fnExactFormatInt", fn := fun _ => fun
  | [d] => { results := [.lit (.bool false)], args := [d] }
  | _ => none }
def FnExactFormatIntWrongFalsely : Prop := fnExactFormatIntRow.holds Try.pinned (OpenSpec.ofChange fnExactFormatIntWrong)

/-- 'laws.FnExactColoringOk': WHATEVER THE INPUT: true; the input reads as it did. -/
def fnExactColoringOkSpec : ChangeSpec := { name := "fnExactColoringOk", fn := fun _ => fun
  | [d] => { results := [.lit (.bool true)], args := [d] }
  | _ => none }
def fnExactColoringOkRow : OpenClaim := { program := "ytodlkjfpahggmaa", sum := "f66997ac7d7d553428f93f056d51a59fa428106511b291db34e60780aec48029", func := "loop.example/g01041/laws.FnExactColoringOk", spec := "fnExactColoringOk", apart := false }
def FnExactColoringOkSaid : Prop := fnExactColoringOkRow.holds Try.pinned (OpenSpec.ofChange fnExactColoringOkSpec)

/-- ITS FALSE NEIGHBOUR: 'it returns false'. Refute it at one input. -/
def fnExactColoringOkWrong : ChangeSpec := { name := "fnExactColoringOk", fn := fun _ => fun
  | [d] => { results := [.lit (.bool false)], args := [d] }
  | _ => none }
def FnExactColoringOkWrongFalsely : Prop := fnExactColoringOkRow.holds Try.pinned (OpenSpec.ofChange fnExactColoringOkWrong)

/-- 'laws.FnExactPermOk': WHATEVER THE INPUT: true; the input reads as it did. -/
def fnExactPermOkSpec : ChangeSpec := { name := "fnExactPermOk", fn := fun _ => fun
  | [d] => { results := [.lit (.bool true)], args := [d] }
  | _ => none }
def fnExactPermOkRow : OpenClaim := { program := "ytodlkjfpahggmaa", sum := "f66997ac7d7d553428f93f056d51a59fa428106511b291db34e60780aec48029", func := "loop.example/g01041/laws.FnExactPermOk", spec := "fnExactPermOk", apart := false }
def FnExactPermOkSaid : Prop := fnExactPermOkRow.holds Try.pinned (OpenSpec.ofChange fnExactPermOkSpec)

/-- ITS FALSE NEIGHBOUR: 'it returns false'. Refute it at one input. -/
def fnExactPermOkWrong : ChangeSpec := { name := "fnExactPermOk", fn := fun _ => fun
  | [d] => { results := [.lit (.bool false)], args := [d] }
  | _ => none }
def FnExactPermOkWrongFalsely : Prop := fnExactPermOkRow.holds Try.pinned (OpenSpec.ofChange fnExactPermOkWrong)

/-- 'laws.FnExactIdentityPerm': WHATEVER THE INPUT: true; the input reads as it did. -/
def fnExactIdentityPermSpec : ChangeSpec := { name := "fnExactIdentityPerm", fn := fun _ => fun
  | [d] => { results := [.lit (.bool true)], args := [d] }
  | _ => none }
def fnExactIdentityPermRow : OpenClaim := { program := "ytodlkjfpahggmaa", sum := "f66997ac7d7d553428f93f056d51a59fa428106511b291db34e60780aec48029", func := "loop.example/g01041/laws.FnExactIdentityPerm", spec := "fnExactIdentityPerm", apart := false }
def FnExactIdentityPermSaid : Prop := fnExactIdentityPermRow.holds Try.pinned (OpenSpec.ofChange fnExactIdentityPermSpec)

/-- ITS FALSE NEIGHBOUR: 'it returns false'. Refute it at one input. -/
def fnExactIdentityPermWrong : ChangeSpec := { name := "fnExactIdentityPerm", fn := fun _ => fun
  | [d] => { results := [.lit (.bool false)], args := [d] }
  | _ => none }
def FnExactIdentityPermWrongFalsely : Prop := fnExactIdentityPermRow.holds Try.pinned (OpenSpec.ofChange fnExactIdentityPermWrong)

/-- 'laws.FnExactSplitAny': WHATEVER THE INPUT: true; the input reads as it did. -/
def fnExactSplitAnySpec : ChangeSpec := { name := "fnExactSplitAny", fn := fun _ => fun
  | [d1, d2] => { results := [.lit (.bool true)], args := [d1, d2] }
  | _ => none }
def fnExactSplitAnyRow : OpenClaim := { program := "ytodlkjfpahggmaa", sum := "f66997ac7d7d553428f93f056d51a59fa428106511b291db34e60780aec48029", func := "loop.example/g01041/laws.FnExactSplitAny", spec := "fnExactSplitAny", inPlace := ["internal/bytealg.IndexByteString"], apart := false }
def FnExactSplitAnySaid : Prop := fnExactSplitAnyRow.holds Try.pinned (OpenSpec.ofChange fnExactSplitAnySpec)

/-- ITS FALSE NEIGHBOUR: 'it returns false'. Refute it at one input. -/
def fnExactSplitAnyWrong : ChangeSpec := { name := "fnExactSplitAny", fn := fun _ => fun
  | [d1, d2] => { results := [.lit (.bool false)], args := [d1, d2] }
  | _ => none }
def FnExactSplitAnyWrongFalsely : Prop := fnExactSplitAnyRow.holds Try.pinned (OpenSpec.ofChange fnExactSplitAnyWrong)

/-- 'laws.FnExactSplitLines': WHATEVER THE INPUT: true; the input reads as it did. -/
def fnExactSplitLinesSpec : ChangeSpec := { name := "fnExactSplitLines", fn := fun _ => fun
  | [d] => { results := [.lit (.bool true)], args := [d] }
  | _ => none }
def fnExactSplitLinesRow : OpenClaim := { program := "ytodlkjfpahggmaa", sum := "f66997ac7d7d553428f93f056d51a59fa428106511b291db34e60780aec48029", func := "loop.example/g01041/laws.FnExactSplitLines", spec := "fnExactSplitLines", inPlace := ["internal/bytealg.IndexByteString"], apart := false }
def FnExactSplitLinesSaid : Prop := fnExactSplitLinesRow.holds Try.pinned (OpenSpec.ofChange fnExactSplitLinesSpec)

/-- ITS FALSE NEIGHBOUR: 'it returns false'. Refute it at one input. -/
def fnExactSplitLinesWrong : ChangeSpec := { name := "fnExactSplitLines", fn := fun _ => fun
  | [d] => { results := [.lit (.bool false)], args := [d] }
  | _ => none }
def FnExactSplitLinesWrongFalsely : Prop := fnExactSplitLinesRow.holds Try.pinned (OpenSpec.ofChange fnExactSplitLinesWrong)

/-- 'laws.FnExactInversePerm': WHATEVER THE INPUT: true; the input reads as it did. -/
def fnExactInversePermSpec : ChangeSpec := { name := "fnExactInversePerm", fn := fun _ => fun
  | [d] => { results := [.lit (.bool true)], args := [d] }
  | _ => none }
def fnExactInversePermRow : OpenClaim := { program := "ytodlkjfpahggmaa", sum := "f66997ac7d7d553428f93f056d51a59fa428106511b291db34e60780aec48029", func := "loop.example/g01041/laws.FnExactInversePerm", spec := "fnExactInversePerm", apart := false }
def FnExactInversePermSaid : Prop := fnExactInversePermRow.holds Try.pinned (OpenSpec.ofChange fnExactInversePermSpec)

/-- ITS FALSE NEIGHBOUR: 'it returns false'. Refute it at one input. -/
def fnExactInversePermWrong : ChangeSpec := { name := "fnExactInversePerm", fn := fun _ => fun
  | [d] => { results := [.lit (.bool false)], args := [d] }
  | _ => none }
def FnExactInversePermWrongFalsely : Prop := fnExactInversePermRow.holds Try.pinned (OpenSpec.ofChange fnExactInversePermWrong)

/-- 'laws.FnExactCountCycles': WHATEVER THE INPUT: true; the input reads as it did. -/
def fnExactCountCyclesSpec : ChangeSpec := { name := "fnExactCountCycles", fn := fun _ => fun
  | [d] => { results := [.lit (.bool true)], args := [d] }
  | _ => none }
def fnExactCountCyclesRow : OpenClaim := { program := "ytodlkjfpahggmaa", sum := "f66997ac7d7d553428f93f056d51a59fa428106511b291db34e60780aec48029", func := "loop.example/g01041/laws.FnExactCountCycles", spec := "fnExactCountCycles", apart := false }
def FnExactCountCyclesSaid : Prop := fnExactCountCyclesRow.holds Try.pinned (OpenSpec.ofChange fnExactCountCyclesSpec)

/-- ITS FALSE NEIGHBOUR: 'it returns false'. Refute it at one input. -/
def fnExactCountCyclesWrong : ChangeSpec := { name := "fnExactCountCycles", fn := fun _ => fun
  | [d] => { results := [.lit (.bool false)], args := [d] }
  | _ => none }
def FnExactCountCyclesWrongFalsely : Prop := fnExactCountCyclesRow.holds Try.pinned (OpenSpec.ofChange fnExactCountCyclesWrong)

/-- 'laws.FnExactComposePerm': WHATEVER THE INPUT: true; the input reads as it did. -/
def fnExactComposePermSpec : ChangeSpec := { name := "fnExactComposePerm", fn := fun _ => fun
  | [d1, d2] => { results := [.lit (.bool true)], args := [d1, d2] }
  | _ => none }
def fnExactComposePermRow : OpenClaim := { program := "ytodlkjfpahggmaa", sum := "f66997ac7d7d553428f93f056d51a59fa428106511b291db34e60780aec48029", func := "loop.example/g01041/laws.FnExactComposePerm", spec := "fnExactComposePerm", apart := false }
def FnExactComposePermSaid : Prop := fnExactComposePermRow.holds Try.pinned (OpenSpec.ofChange fnExactComposePermSpec)

/-- ITS FALSE NEIGHBOUR: 'it returns false'. Refute it at one input. -/
def fnExactComposePermWrong : ChangeSpec := { name := "fnExactComposePerm", fn := fun _ => fun
  | [d1, d2] => { results := [.lit (.bool false)], args := [d1, d2] }
  | _ => none }
def FnExactComposePermWrongFalsely : Prop := fnExactComposePermRow.holds Try.pinned (OpenSpec.ofChange fnExactComposePermWrong)

/- THE SECOND FORM. 'bulk': how many values and letters a reading holds, each counted each time it is reached (what is shared counts as often as it is met; a slice's spare places count too). A statement '..UptoSaid' is the law's where the arguments, and the package variables that the reading takes, are together of bulk at most 1048576: NARROWER than '..Said'. Prove '..Said' where nothing that the law and all that it calls make is longer than what came in: it says more and counts as full. Else prove '..UptoSaid'. A law counts once. -/
mutual
def uptoBulk {H : Type} : DataW H → Nat
  | .lit (.string bytes) => bytes.length + 1
  | .lit _ => 1
  | .nil => 1
  | .ptr d => uptoBulk d + 1
  | .slice elems spare => uptoBulkAll elems + uptoBulkAll spare + 1
  | .agg parts => uptoBulkAll parts + 1
  | .iface _ d => uptoBulk d + 1
  | .map entries => uptoBulkEntries entries + 1
  | .held _ => 1
def uptoBulkAll {H : Type} : List (DataW H) → Nat
  | [] => 0
  | d :: r => uptoBulk d + uptoBulkAll r
def uptoBulkEntries {H : Type} : List (Lit × DataW H) → Nat
  | [] => 0
  | x :: r => uptoBulkEntry x + uptoBulkEntries r
def uptoBulkEntry {H : Type} : Lit × DataW H → Nat
  | (.string bytes, d) => bytes.length + uptoBulk d + 1
  | (_, d) => uptoBulk d + 1
 end
def uptoSmall : (H : Type) → List (DataW H) → Bool := fun _ ds => decide (uptoBulkAll ds ≤ 1048576)
def OpenSpec.upto (s : _root_.Go.ChangeSpec) : _root_.Go.OpenSpec := { _root_.Go.OpenSpec.ofChange s with cond := some uptoSmall }

/-- 'laws.FnExactConstants', WHERE WHAT IT READS IS OF BULK AT MOST 1048576: true; the input reads as it did. -/
def fnExactConstantsUptoRow : OpenClaim := { program := "ytodlkjfpahggmaa", sum := "f66997ac7d7d553428f93f056d51a59fa428106511b291db34e60780aec48029", func := "loop.example/g01041/laws.FnExactConstants", spec := "fnExactConstants", apart := false, narrowed := true }
def FnExactConstantsUptoSaid : Prop := fnExactConstantsUptoRow.holds Try.pinned (OpenSpec.upto fnExactConstantsSpec)

/-- 'laws.FnExactIsDigits', WHERE WHAT IT READS IS OF BULK AT MOST 1048576: true; the input reads as it did. -/
def fnExactIsDigitsUptoRow : OpenClaim := { program := "ytodlkjfpahggmaa", sum := "f66997ac7d7d553428f93f056d51a59fa428106511b291db34e60780aec48029", func := "loop.example/g01041/laws.FnExactIsDigits", spec := "fnExactIsDigits", apart := false, narrowed := true }
def FnExactIsDigitsUptoSaid : Prop := fnExactIsDigitsUptoRow.holds Try.pinned (OpenSpec.upto fnExactIsDigitsSpec)

/-- 'laws.FnExactIsName', WHERE WHAT IT READS IS OF BULK AT MOST 1048576: true; the input reads as it did. -/
def fnExactIsNameUptoRow : OpenClaim := { program := "ytodlkjfpahggmaa", sum := "f66997ac7d7d553428f93f056d51a59fa428106511b291db34e60780aec48029", func := "loop.example/g01041/laws.FnExactIsName", spec := "fnExactIsName", apart := false, narrowed := true }
def FnExactIsNameUptoSaid : Prop := fnExactIsNameUptoRow.holds Try.pinned (OpenSpec.upto fnExactIsNameSpec)

/-- 'laws.FnExactFormatInt', WHERE WHAT IT READS IS OF BULK AT MOST 1048576: true; the input reads as it did. -/
def fnExactFormatIntUptoRow : OpenClaim := { program := "ytodlkjfpahggmaa", sum := "f66997ac7d7d553428f93f056d51a59fa428106511b291db34e60780aec48029", func := "loop.example/g01041/laws.FnExactFormatInt", spec := "fnExactFormatInt", recurses := true, apart := false, narrowed := true }
def FnExactFormatIntUptoSaid : Prop := fnExactFormatIntUptoRow.holds Try.pinned (OpenSpec.upto fnExactFormatIntSpec)

/-- 'laws.FnExactColoringOk', WHERE WHAT IT READS IS OF BULK AT MOST 1048576: true; the input reads as it did. -/
def fnExactColoringOkUptoRow : OpenClaim := { program := "ytodlkjfpahggmaa", sum := "f66997ac7d7d553428f93f056d51a59fa428106511b291db34e60780aec48029", func := "loop.example/g01041/laws.FnExactColoringOk", spec := "fnExactColoringOk", apart := false, narrowed := true }
def FnExactColoringOkUptoSaid : Prop := fnExactColoringOkUptoRow.holds Try.pinned (OpenSpec.upto fnExactColoringOkSpec)

/-- 'laws.FnExactPermOk', WHERE WHAT IT READS IS OF BULK AT MOST 1048576: true; the input reads as it did. -/
def fnExactPermOkUptoRow : OpenClaim := { program := "ytodlkjfpahggmaa", sum := "f66997ac7d7d553428f93f056d51a59fa428106511b291db34e60780aec48029", func := "loop.example/g01041/laws.FnExactPermOk", spec := "fnExactPermOk", apart := false, narrowed := true }
def FnExactPermOkUptoSaid : Prop := fnExactPermOkUptoRow.holds Try.pinned (OpenSpec.upto fnExactPermOkSpec)

/-- 'laws.FnExactIdentityPerm', WHERE WHAT IT READS IS OF BULK AT MOST 1048576: true; the input reads as it did. -/
def fnExactIdentityPermUptoRow : OpenClaim := { program := "ytodlkjfpahggmaa", sum := "f66997ac7d7d553428f93f056d51a59fa428106511b291db34e60780aec48029", func := "loop.example/g01041/laws.FnExactIdentityPerm", spec := "fnExactIdentityPerm", apart := false, narrowed := true }
def FnExactIdentityPermUptoSaid : Prop := fnExactIdentityPermUptoRow.holds Try.pinned (OpenSpec.upto fnExactIdentityPermSpec)

/-- 'laws.FnExactSplitAny', WHERE WHAT IT READS IS OF BULK AT MOST 1048576: true; the input reads as it did. -/
def fnExactSplitAnyUptoRow : OpenClaim := { program := "ytodlkjfpahggmaa", sum := "f66997ac7d7d553428f93f056d51a59fa428106511b291db34e60780aec48029", func := "loop.example/g01041/laws.FnExactSplitAny", spec := "fnExactSplitAny", inPlace := ["internal/bytealg.IndexByteString"], apart := false, narrowed := true }
def FnExactSplitAnyUptoSaid : Prop := fnExactSplitAnyUptoRow.holds Try.pinned (OpenSpec.upto fnExactSplitAnySpec)

/-- 'laws.FnExactSplitLines', WHERE WHAT IT READS IS OF BULK AT MOST 1048576: true; the input reads as it did. -/
def fnExactSplitLinesUptoRow : OpenClaim := { program := "ytodlkjfpahggmaa", sum := "f66997ac7d7d553428f93f056d51a59fa428106511b291db34e60780aec48029", func := "loop.example/g01041/laws.FnExactSplitLines", spec := "fnExactSplitLines", inPlace := ["internal/bytealg.IndexByteString"], apart := false, narrowed := true }
def FnExactSplitLinesUptoSaid : Prop := fnExactSplitLinesUptoRow.holds Try.pinned (OpenSpec.upto fnExactSplitLinesSpec)

/-- 'laws.FnExactInversePerm', WHERE WHAT IT READS IS OF BULK AT MOST 1048576: true; the input reads as it did. -/
def fnExactInversePermUptoRow : OpenClaim := { program := "ytodlkjfpahggmaa", sum := "f66997ac7d7d553428f93f056d51a59fa428106511b291db34e60780aec48029", func := "loop.example/g01041/laws.FnExactInversePerm", spec := "fnExactInversePerm", apart := false, narrowed := true }
def FnExactInversePermUptoSaid : Prop := fnExactInversePermUptoRow.holds Try.pinned (OpenSpec.upto fnExactInversePermSpec)

/-- 'laws.FnExactCountCycles', WHERE WHAT IT READS IS OF BULK AT MOST 1048576: true; the input reads as it did. -/
def fnExactCountCyclesUptoRow : OpenClaim := { program := "ytodlkjfpahggmaa", sum := "f66997ac7d7d553428f93f056d51a59fa428106511b291db34e60780aec48029", func := "loop.example/g01041/laws.FnExactCountCycles", spec := "fnExactCountCycles", apart := false, narrowed := true }
def FnExactCountCyclesUptoSaid : Prop := fnExactCountCyclesUptoRow.holds Try.pinned (OpenSpec.upto fnExactCountCyclesSpec)

/-- 'laws.FnExactComposePerm', WHERE WHAT IT READS IS OF BULK AT MOST 1048576: true; the input reads as it did. -/
def fnExactComposePermUptoRow : OpenClaim := { program := "ytodlkjfpahggmaa", sum := "f66997ac7d7d553428f93f056d51a59fa428106511b291db34e60780aec48029", func := "loop.example/g01041/laws.FnExactComposePerm", spec := "fnExactComposePerm", apart := false, narrowed := true }
def FnExactComposePermUptoSaid : Prop := fnExactComposePermUptoRow.holds Try.pinned (OpenSpec.upto fnExactComposePermSpec)

end Rows
end Go.Proofs.Ytodlkjfpahggmaa
