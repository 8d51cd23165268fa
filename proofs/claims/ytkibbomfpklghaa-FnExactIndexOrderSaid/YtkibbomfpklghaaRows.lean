/-
  No cell of these rows narrows 'for every input' (looked for: loops, veiled, ifaces, maps, wideKeys, modest, calm, conditions, laid).
  DERIVED. THE GIVEN ROWS OF THIS SEAT. 8 by the template 'for every input the law returns true; each argument reads behind the call as it read before'; 0 by the template 'total and deterministic' (their statements: YtkibbomfpklghaaTotals.lean).
  GIVEN WITH THE SEED: the statements are not yours to turn. If you find one false, say at which input.
  Laid BY PROGRAM, IN A SANDBOX (cutbox-rows.mjs): the forced cells as the released guide's own fill.sh prints them over the translation 44f7096b3c55f9a8… (all of the seat's roots in one cut). By AI agents, Wed Nov 11 2026. No macro, syntax, notation, axiom, sorry.
-/
import Derived.Test.YtkibbomfpklghaaChecked
import GoSem.Claim
import GoSem.ClaimJoined
import GoSem.ClaimMapViews
import Derived.JoinedTies
import Derived.KernelRfl
namespace Go.Proofs.Ytkibbomfpklghaa
/- THE CELL 'sum', in the pinned program and in every row, IS THE sha256 OF THE DUMP (.gsa) THAT YtkibbomfpklghaaProg.lean LOADS. Nothing in Lean hashes anything: it is a label: what it is worth is what the hold of that sum in a sandbox is worth. -/
noncomputable def Try.pinned : Pinned := { name := "ytkibbomfpklghaa", sum := "44f7096b3c55f9a8d857c049b99e9e49986f274a8c5ceef228d22b59bde7351b", checked := Try.checked }
namespace Rows
def none {H : Type} : Left H := { results := [], args := [] }

/-- 'laws.FnExactParseInt': WHATEVER THE INPUT: true; the input reads as it did. -/
def fnExactParseIntSpec : ChangeSpec := { name := "fnExactParseInt", fn := fun _ => fun
  | [d] => { results := [.lit (.bool true)], args := [d] }
  | _ => none }
def fnExactParseIntRow : OpenClaim := { program := "ytkibbomfpklghaa", sum := "44f7096b3c55f9a8d857c049b99e9e49986f274a8c5ceef228d22b59bde7351b", func := "loop.example/g01041/laws.FnExactParseInt", spec := "fnExactParseInt", recurses := true, apart := false }
def FnExactParseIntSaid : Prop := fnExactParseIntRow.holds Try.pinned (OpenSpec.ofChange fnExactParseIntSpec)

/-- ITS FALSE NEIGHBOUR: 'it returns false'. Refute it at one input. -/
def fnExactParseIntWrong : ChangeSpec := { name := "fnExactParseInt", fn := fun _ => fun
  | [d] => { results := [.lit (.bool false)], args := [d] }
  | _ => none }
def FnExactParseIntWrongFalsely : Prop := fnExactParseIntRow.holds Try.pinned (OpenSpec.ofChange fnExactParseIntWrong)

/-- 'laws.FnExactJoin': WHATEVER THE INPUT: true; the input reads as it did. -/
def fnExactJoinSpec : ChangeSpec := { name := "fnExactJoin", fn := fun _ => fun
  | [d1, d2] => { results := [.lit (.bool true)], args := [d1, d2] }
  | _ => none }
def fnExactJoinRow : OpenClaim := { program := "ytkibbomfpklghaa", sum := "44f7096b3c55f9a8d857c049b99e9e49986f274a8c5ceef228d22b59bde7351b", func := "loop.example/g01041/laws.FnExactJoin", spec := "fnExactJoin", inPlace := ["internal/abi.NoEscape", "internal/bytealg.MakeNoZero"], apart := false }
def FnExactJoinSaid : Prop := fnExactJoinRow.holds Try.pinned (OpenSpec.ofChange fnExactJoinSpec)

/-- ITS FALSE NEIGHBOUR: 'it returns false'. Refute it at one input. -/
def fnExactJoinWrong : ChangeSpec := { name := "fnExactJoin", fn := fun _ => fun
  | [d1, d2] => { results := [.lit (.bool false)], args := [d1, d2] }
  | _ => none }
def FnExactJoinWrongFalsely : Prop := fnExactJoinRow.holds Try.pinned (OpenSpec.ofChange fnExactJoinWrong)

/-- 'laws.FnExactPadZeros': WHATEVER THE INPUT: true; the input reads as it did. -/
def fnExactPadZerosSpec : ChangeSpec := { name := "fnExactPadZeros", fn := fun _ => fun
  | [d1, d2] => { results := [.lit (.bool true)], args := [d1, d2] }
  | _ => none }
def fnExactPadZerosRow : OpenClaim := { program := "ytkibbomfpklghaa", sum := "44f7096b3c55f9a8d857c049b99e9e49986f274a8c5ceef228d22b59bde7351b", func := "loop.example/g01041/laws.FnExactPadZeros", spec := "fnExactPadZeros", inPlace := ["internal/abi.NoEscape", "internal/bytealg.MakeNoZero"], apart := false }
def FnExactPadZerosSaid : Prop := fnExactPadZerosRow.holds Try.pinned (OpenSpec.ofChange fnExactPadZerosSpec)

/-- ITS FALSE NEIGHBOUR: 'it returns false'. Refute it at one input. -/
def fnExactPadZerosWrong : ChangeSpec := { name := "fnExactPadZeros", fn := fun _ => fun
  | [d1, d2] => { results := [.lit (.bool false)], args := [d1, d2] }
  | _ => none }
def FnExactPadZerosWrongFalsely : Prop := fnExactPadZerosRow.holds Try.pinned (OpenSpec.ofChange fnExactPadZerosWrong)

/-- 'laws.FnExactFormatPerm': WHATEVER THE INPUT: true; the input reads as it did. -/
def fnExactFormatPermSpec : ChangeSpec := { name := "fnExactFormatPerm", fn := fun _ => fun
  | [d] => { results := [.lit (.bool true)], args := [d] }
  | _ => none }
def fnExactFormatPermRow : OpenClaim := { program := "ytkibbomfpklghaa", sum := "44f7096b3c55f9a8d857c049b99e9e49986f274a8c5ceef228d22b59bde7351b", func := "loop.example/g01041/laws.FnExactFormatPerm", spec := "fnExactFormatPerm", inPlace := ["internal/abi.NoEscape", "internal/bytealg.MakeNoZero"], recurses := true, apart := false }
def FnExactFormatPermSaid : Prop := fnExactFormatPermRow.holds Try.pinned (OpenSpec.ofChange fnExactFormatPermSpec)

/-- ITS FALSE NEIGHBOUR: 'it returns false'. Refute it at one input. -/
def fnExactFormatPermWrong : ChangeSpec := { name := "fnExactFormatPerm", fn := fun _ => fun
  | [d] => { results := [.lit (.bool false)], args := [d] }
  | _ => none }
def FnExactFormatPermWrongFalsely : Prop := fnExactFormatPermRow.holds Try.pinned (OpenSpec.ofChange fnExactFormatPermWrong)

/-- 'laws.FnExactFormatTerm': WHATEVER THE INPUT: true; the input reads as it did. -/
def fnExactFormatTermSpec : ChangeSpec := { name := "fnExactFormatTerm", fn := fun _ => fun
  | [d] => { results := [.lit (.bool true)], args := [d] }
  | _ => none }
def fnExactFormatTermRow : OpenClaim := { program := "ytkibbomfpklghaa", sum := "44f7096b3c55f9a8d857c049b99e9e49986f274a8c5ceef228d22b59bde7351b", func := "loop.example/g01041/laws.FnExactFormatTerm", spec := "fnExactFormatTerm", inPlace := ["internal/abi.NoEscape", "internal/bytealg.MakeNoZero"], recurses := true, apart := false }
def FnExactFormatTermSaid : Prop := fnExactFormatTermRow.holds Try.pinned (OpenSpec.ofChange fnExactFormatTermSpec)

/-- ITS FALSE NEIGHBOUR: 'it returns false'. Refute it at one input. -/
def fnExactFormatTermWrong : ChangeSpec := { name := "fnExactFormatTerm", fn := fun _ => fun
  | [d] => { results := [.lit (.bool false)], args := [d] }
  | _ => none }
def FnExactFormatTermWrongFalsely : Prop := fnExactFormatTermRow.holds Try.pinned (OpenSpec.ofChange fnExactFormatTermWrong)

/-- 'laws.FnExactParsePerm': WHATEVER THE INPUT: true; the input reads as it did. -/
def fnExactParsePermSpec : ChangeSpec := { name := "fnExactParsePerm", fn := fun _ => fun
  | [d] => { results := [.lit (.bool true)], args := [d] }
  | _ => none }
def fnExactParsePermRow : OpenClaim := { program := "ytkibbomfpklghaa", sum := "44f7096b3c55f9a8d857c049b99e9e49986f274a8c5ceef228d22b59bde7351b", func := "loop.example/g01041/laws.FnExactParsePerm", spec := "fnExactParsePerm", inPlace := ["internal/bytealg.IndexByteString"], recurses := true, apart := false }
def FnExactParsePermSaid : Prop := fnExactParsePermRow.holds Try.pinned (OpenSpec.ofChange fnExactParsePermSpec)

/-- ITS FALSE NEIGHBOUR: 'it returns false'. Refute it at one input. -/
def fnExactParsePermWrong : ChangeSpec := { name := "fnExactParsePerm", fn := fun _ => fun
  | [d] => { results := [.lit (.bool false)], args := [d] }
  | _ => none }
def FnExactParsePermWrongFalsely : Prop := fnExactParsePermRow.holds Try.pinned (OpenSpec.ofChange fnExactParsePermWrong)

/-- 'laws.FnWords': WHATEVER THE INPUT: true; the input reads as it did. -/
def fnWordsSpec : ChangeSpec := { name := "fnWords", fn := fun _ => fun
  | [d] => { results := [.lit (.bool true)], args := [d] }
  | _ => none }
def fnWordsRow : OpenClaim := { program := "ytkibbomfpklghaa", sum := "44f7096b3c55f9a8d857c049b99e9e49986f274a8c5ceef228d22b59bde7351b", func := "loop.example/g01041/laws.FnWords", spec := "fnWords", inPlace := ["internal/bytealg.IndexByteString", "internal/abi.NoEscape", "internal/bytealg.MakeNoZero"], recurses := true, apart := false }
def FnWordsSaid : Prop := fnWordsRow.holds Try.pinned (OpenSpec.ofChange fnWordsSpec)

/-- ITS FALSE NEIGHBOUR: 'it returns false'. Refute it at one input. -/
def fnWordsWrong : ChangeSpec := { name := "fnWords", fn := fun _ => fun
  | [d] => { results := [.lit (.bool false)], args := [d] }
  | _ => none }
def FnWordsWrongFalsely : Prop := fnWordsRow.holds Try.pinned (OpenSpec.ofChange fnWordsWrong)

/-- 'laws.FnExactIndexOrder': WHATEVER THE INPUT: true; the input reads as it did. -/
def fnExactIndexOrderSpec : ChangeSpec := { name := "fnExactIndexOrder", fn := fun _ => fun
  | [d] => { results := [.lit (.bool true)], args := [d] }
  | _ => none }
def fnExactIndexOrderRow : OpenClaim := { program := "ytkibbomfpklghaa", sum := "44f7096b3c55f9a8d857c049b99e9e49986f274a8c5ceef228d22b59bde7351b", func := "loop.example/g01041/laws.FnExactIndexOrder", spec := "fnExactIndexOrder", apart := false }
def FnExactIndexOrderSaid : Prop := fnExactIndexOrderRow.holds Try.pinned (OpenSpec.ofChange fnExactIndexOrderSpec)

/-- ITS FALSE NEIGHBOUR: 'it returns false'. Refute it at one input. -/
def fnExactIndexOrderWrong : ChangeSpec := { name := "fnExactIndexOrder", fn := fun _ => fun
  | [d] => { results := [.lit (.bool false)], args := [d] }
  | _ => none }
def FnExactIndexOrderWrongFalsely : Prop := fnExactIndexOrderRow.holds Try.pinned (OpenSpec.ofChange fnExactIndexOrderWrong)

/- THE SECOND FORM. 'bulk': how many values and letters a reading holds, each counted each time it is reached (what is shared counts as often as it is met; a slice's spare places count too). A statement '..UptoSaid' is the law's where the arguments, and the package variables that the reading takes, are together of bulk at most 1048576: NARROWER than '..Said'. Prove '..Said' where nothing that the law and all that it calls make is longer than what came in: it says more and counts as full. Else prove '..UptoSaid'. A law counts once. -/
mutual
def uptoBulk {H : Type} : DataW H → Nat
  | .lit (.string bytes) => bytes.length + 1
  | .lit _ => 1
  | .nil => 1
  | .ptr d => uptoBulk d + 1
  | .slice elems spare => uptoBulkAll elems + uptoBulkAll spare + 1
  | .agg parts => uptoBulkAll parts + 1
  | .iface _ d => uptoBulk d + 1
  | .map entries => uptoBulkEntries entries + 1
  | .held _ => 1
def uptoBulkAll {H : Type} : List (DataW H) → Nat
  | [] => 0
  | d :: r => uptoBulk d + uptoBulkAll r
def uptoBulkEntries {H : Type} : List (Lit × DataW H) → Nat
  | [] => 0
  | x :: r => uptoBulkEntry x + uptoBulkEntries r
def uptoBulkEntry {H : Type} : Lit × DataW H → Nat
  | (.string bytes, d) => bytes.length + uptoBulk d + 1
  | (_, d) => uptoBulk d + 1
 end
def uptoSmall : (H : Type) → List (DataW H) → Bool := fun _ ds => decide (uptoBulkAll ds ≤ 1048576)
def OpenSpec.upto (s : _root_.Go.ChangeSpec) : _root_.Go.OpenSpec := { _root_.Go.OpenSpec.ofChange s with cond := some uptoSmall }

/-- 'laws.FnExactParseInt', WHERE WHAT IT READS IS OF BULK AT MOST 1048576: true; the input reads as it did. -/
def fnExactParseIntUptoRow : OpenClaim := { program := "ytkibbomfpklghaa", sum := "44f7096b3c55f9a8d857c049b99e9e49986f274a8c5ceef228d22b59bde7351b", func := "loop.example/g01041/laws.FnExactParseInt", spec := "fnExactParseInt", recurses := true, apart := false, narrowed := true }
def FnExactParseIntUptoSaid : Prop := fnExactParseIntUptoRow.holds Try.pinned (OpenSpec.upto fnExactParseIntSpec)

/-- 'laws.FnExactJoin', WHERE WHAT IT READS IS OF BULK AT MOST 1048576: true; the input reads as it did. -/
def fnExactJoinUptoRow : OpenClaim := { program := "ytkibbomfpklghaa", sum := "44f7096b3c55f9a8d857c049b99e9e49986f274a8c5ceef228d22b59bde7351b", func := "loop.example/g01041/laws.FnExactJoin", spec := "fnExactJoin", inPlace := ["internal/abi.NoEscape", "internal/bytealg.MakeNoZero"], apart := false, narrowed := true }
def FnExactJoinUptoSaid : Prop := fnExactJoinUptoRow.holds Try.pinned (OpenSpec.upto fnExactJoinSpec)

/-- 'laws.FnExactPadZeros', WHERE WHAT IT READS IS OF BULK AT MOST 1048576: true; the input reads as it did. -/
def fnExactPadZerosUptoRow : OpenClaim := { program := "ytkibbomfpklghaa", sum := "44f7096b3c55f9a8d857c049b99e9e49986f274a8c5ceef228d22b59bde7351b", func := "loop.example/g01041/laws.FnExactPadZeros", spec := "fnExactPadZeros", inPlace := ["internal/abi.NoEscape", "internal/bytealg.MakeNoZero"], apart := false, narrowed := true }
def FnExactPadZerosUptoSaid : Prop := fnExactPadZerosUptoRow.holds Try.pinned (OpenSpec.upto fnExactPadZerosSpec)

/-- 'laws.FnExactFormatPerm', WHERE WHAT IT READS IS OF BULK AT MOST 1048576: true; the input reads as it did. -/
def fnExactFormatPermUptoRow : OpenClaim := { program := "ytkibbomfpklghaa", sum := "44f7096b3c55f9a8d857c049b99e9e49986f274a8c5ceef228d22b59bde7351b", func := "loop.example/g01041/laws.FnExactFormatPerm", spec := "fnExactFormatPerm", inPlace := ["internal/abi.NoEscape", "internal/bytealg.MakeNoZero"], recurses := true, apart := false, narrowed := true }
def FnExactFormatPermUptoSaid : Prop := fnExactFormatPermUptoRow.holds Try.pinned (OpenSpec.upto fnExactFormatPermSpec)

/-- 'laws.FnExactFormatTerm', WHERE WHAT IT READS IS OF BULK AT MOST 1048576: true; the input reads as it did. -/
def fnExactFormatTermUptoRow : OpenClaim := { program := "ytkibbomfpklghaa", sum := "44f7096b3c55f9a8d857c049b99e9e49986f274a8c5ceef228d22b59bde7351b", func := "loop.example/g01041/laws.FnExactFormatTerm", spec := "fnExactFormatTerm", inPlace := ["internal/abi.NoEscape", "internal/bytealg.MakeNoZero"], recurses := true, apart := false, narrowed := true }
def FnExactFormatTermUptoSaid : Prop := fnExactFormatTermUptoRow.holds Try.pinned (OpenSpec.upto fnExactFormatTermSpec)

/-- 'laws.FnExactParsePerm', WHERE WHAT IT READS IS OF BULK AT MOST 1048576: true; the input reads as it did. -/
def fnExactParsePermUptoRow : OpenClaim := { program := "ytkibbomfpklghaa", sum := "44f7096b3c55f9a8d857c049b99e9e49986f274a8c5ceef228d22b59bde7351b", func := "loop.example/g01041/laws.FnExactParsePerm", spec := "fnExactParsePerm", inPlace := ["internal/bytealg.IndexByteString"], recurses := true, apart := false, narrowed := true }
def FnExactParsePermUptoSaid : Prop := fnExactParsePermUptoRow.holds Try.pinned (OpenSpec.upto fnExactParsePermSpec)

/-- 'laws.FnWords', WHERE WHAT IT READS IS OF BULK AT MOST 1048576: true; the input reads as it did. -/
def fnWordsUptoRow : OpenClaim := { program := "ytkibbomfpklghaa", sum := "44f7096b3c55f9a8d857c049b99e9e49986f274a8c5ceef228d22b59bde7351b", func := "loop.example/g01041/laws.FnWords", spec := "fnWords", inPlace := ["internal/bytealg.IndexByteString", "internal/abi.NoEscape", "internal/bytealg.MakeNoZero"], recurses := true, apart := false, narrowed := true }
def FnWordsUptoSaid : Prop := fnWordsUptoRow.holds Try.pinned (OpenSpec.upto fnWordsSpec)

/-- 'laws.FnExactIndexOrder', WHERE WHAT IT READS IS OF BULK AT MOST 1048576: true; the input reads as it did. -/
def fnExactIndexOrderUptoRow : OpenClaim := { program := "ytkibbomfpklghaa", sum := "44f7096b3c55f9a8d857c049b99e9e49986f274a8c5ceef228d22b59bde7351b", func := "loop.example/g01041/laws.FnExactIndexOrder", spec := "fnExactIndexOrder", apart := false, narrowed := true }
def FnExactIndexOrderUptoSaid : Prop := fnExactIndexOrderUptoRow.holds Try.pinned (OpenSpec.upto fnExactIndexOrderSpec)

end Rows
end Go.Proofs.Ytkibbomfpklghaa
