/-
  No cell of these rows narrows 'for every input' (looked for: loops, veiled, ifaces, maps, wideKeys, modest, calm, conditions, laid).
  DERIVED. THE GIVEN ROWS OF THIS SEAT. 7 by the template 'for every input the law returns true; each argument reads behind the call as it read before'; 0 by the template 'total and deterministic' (their statements: YtagdkdoknaiicaaTotals.lean).
  GIVEN WITH THE SEED: the statements are not yours to turn. If you find one false, say at which input.
  Laid BY PROGRAM, IN A SANDBOX (cutbox-rows.mjs): the forced cells as the released guide's own fill.sh prints them over the translation 2ac05ffb7fea4c65… (all of the seat's roots in one cut). By AI agents, Wed Nov 11 2026. No macro, syntax, notation, axiom, sorry.
-/
import Derived.Test.YtagdkdoknaiicaaChecked
import GoSem.Claim
import GoSem.ClaimJoined
import GoSem.ClaimMapViews
import Derived.JoinedTies
import Derived.KernelRfl
namespace Go.Proofs.Ytagdkdoknaiicaa
/- THE CELL 'sum', in the pinned program and in every row, IS THE sha256 OF THE DUMP (.gsa) THAT YtagdkdoknaiicaaProg.lean LOADS. Nothing in Lean hashes anything: it is a label: what it is worth is what the hold of that sum in a sandbox is worth. -/
noncomputable def Try.pinned : Pinned := { name := "ytagdkdoknaiicaa", sum := "2ac05ffb7fea4c657d44abba15730addc61723472290e0a7ae5c0d6e5c97855a", checked := Try.checked }
namespace Rows
def none {H : Type} : Left H := { results := [], args := [] }

/-- 'laws.FnExactHandOf': WHATEVER THE INPUT: true; the input reads as it did. -/
def fnExactHandOfSpec : ChangeSpec := { name := "fnExactHandOf", fn := fun _ => fun
  | [d1, d2] => { results := [.lit (.bool true)], args := [d1, d2] }
  | _ => none }
def fnExactHandOfRow : OpenClaim := { program := "ytagdkdoknaiicaa", sum := "2ac05ffb7fea4c657d44abba15730addc61723472290e0a7ae5c0d6e5c97855a", func := "loop.example/g00476/laws.FnExactHandOf", spec := "fnExactHandOf", apart := false }
def FnExactHandOfSaid : Prop := fnExactHandOfRow.holds Try.pinned (OpenSpec.ofChange fnExactHandOfSpec)

/-- ITS FALSE NEIGHBOUR: 'it returns false'. Refute it at one input. -/
def fnExactHandOfWrong : ChangeSpec := { name := "fnExactHandOf", fn := fun _ => fun
  | [d1, d2] => { results := [.lit (.bool false)], args := [d1, d2] }
  | _ => none }
def FnExactHandOfWrongFalsely : Prop := fnExactHandOfRow.holds Try.pinned (OpenSpec.ofChange fnExactHandOfWrong)

/-- 'laws.FnExactShares': WHATEVER THE INPUT: true; the input reads as it did. -/
def fnExactSharesSpec : ChangeSpec := { name := "fnExactShares", fn := fun _ => fun
  | [d1, d2, d3] => { results := [.lit (.bool true)], args := [d1, d2, d3] }
  | _ => none }
def fnExactSharesRow : OpenClaim := { program := "ytagdkdoknaiicaa", sum := "2ac05ffb7fea4c657d44abba15730addc61723472290e0a7ae5c0d6e5c97855a", func := "loop.example/g00476/laws.FnExactShares", spec := "fnExactShares", apart := false }
def FnExactSharesSaid : Prop := fnExactSharesRow.holds Try.pinned (OpenSpec.ofChange fnExactSharesSpec)

/-- ITS FALSE NEIGHBOUR: 'it returns false'. Refute it at one input. -/
def fnExactSharesWrong : ChangeSpec := { name := "fnExactShares", fn := fun _ => fun
  | [d1, d2, d3] => { results := [.lit (.bool false)], args := [d1, d2, d3] }
  | _ => none }
def FnExactSharesWrongFalsely : Prop := fnExactSharesRow.holds Try.pinned (OpenSpec.ofChange fnExactSharesWrong)

/-- 'laws.FnExactLast': WHATEVER THE INPUT: true; the input reads as it did. -/
def fnExactLastSpec : ChangeSpec := { name := "fnExactLast", fn := fun _ => fun
  | [d1, d2, d3] => { results := [.lit (.bool true)], args := [d1, d2, d3] }
  | _ => none }
def fnExactLastRow : OpenClaim := { program := "ytagdkdoknaiicaa", sum := "2ac05ffb7fea4c657d44abba15730addc61723472290e0a7ae5c0d6e5c97855a", func := "loop.example/g00476/laws.FnExactLast", spec := "fnExactLast", apart := false }
def FnExactLastSaid : Prop := fnExactLastRow.holds Try.pinned (OpenSpec.ofChange fnExactLastSpec)

/-- ITS FALSE NEIGHBOUR: 'it returns false'. Refute it at one input. -/
def fnExactLastWrong : ChangeSpec := { name := "fnExactLast", fn := fun _ => fun
  | [d1, d2, d3] => { results := [.lit (.bool false)], args := [d1, d2, d3] }
  | _ => none }
def FnExactLastWrongFalsely : Prop := fnExactLastRow.holds Try.pinned (OpenSpec.ofChange fnExactLastWrong)

/-- 'laws.FnNums': WHATEVER THE INPUT: true; the input reads as it did. -/
def fnNumsSpec : ChangeSpec := { name := "fnNums", fn := fun _ => fun
  | [d] => { results := [.lit (.bool true)], args := [d] }
  | _ => none }
def fnNumsRow : OpenClaim := { program := "ytagdkdoknaiicaa", sum := "2ac05ffb7fea4c657d44abba15730addc61723472290e0a7ae5c0d6e5c97855a", func := "loop.example/g00476/laws.FnNums", spec := "fnNums", apart := false }
def FnNumsSaid : Prop := fnNumsRow.holds Try.pinned (OpenSpec.ofChange fnNumsSpec)

/-- ITS FALSE NEIGHBOUR: 'it returns false'. Refute it at one input. -/
def fnNumsWrong : ChangeSpec := { name := "fnNums", fn := fun _ => fun
  | [d] => { results := [.lit (.bool false)], args := [d] }
  | _ => none }
def FnNumsWrongFalsely : Prop := fnNumsRow.holds Try.pinned (OpenSpec.ofChange fnNumsWrong)

/-- 'laws.FnExactCodeOk': WHATEVER THE INPUT: true; the input reads as it did. -/
def fnExactCodeOkSpec : ChangeSpec := { name := "fnExactCodeOk", fn := fun _ => fun
  | [d1, d2, d3] => { results := [.lit (.bool true)], args := [d1, d2, d3] }
  | _ => none }
def fnExactCodeOkRow : OpenClaim := { program := "ytagdkdoknaiicaa", sum := "2ac05ffb7fea4c657d44abba15730addc61723472290e0a7ae5c0d6e5c97855a", func := "loop.example/g00476/laws.FnExactCodeOk", spec := "fnExactCodeOk", apart := false }
def FnExactCodeOkSaid : Prop := fnExactCodeOkRow.holds Try.pinned (OpenSpec.ofChange fnExactCodeOkSpec)

/-- ITS FALSE NEIGHBOUR: 'it returns false'. Refute it at one input. -/
def fnExactCodeOkWrong : ChangeSpec := { name := "fnExactCodeOk", fn := fun _ => fun
  | [d1, d2, d3] => { results := [.lit (.bool false)], args := [d1, d2, d3] }
  | _ => none }
def FnExactCodeOkWrongFalsely : Prop := fnExactCodeOkRow.holds Try.pinned (OpenSpec.ofChange fnExactCodeOkWrong)

/-- 'laws.FnShares': WHATEVER THE INPUT: true; the input reads as it did. -/
def fnSharesSpec : ChangeSpec := { name := "fnShares", fn := fun _ => fun
  | [d] => { results := [.lit (.bool true)], args := [d] }
  | _ => none }
def fnSharesRow : OpenClaim := { program := "ytagdkdoknaiicaa", sum := "2ac05ffb7fea4c657d44abba15730addc61723472290e0a7ae5c0d6e5c97855a", func := "loop.example/g00476/laws.FnShares", spec := "fnShares", apart := false }
def FnSharesSaid : Prop := fnSharesRow.holds Try.pinned (OpenSpec.ofChange fnSharesSpec)

/-- ITS FALSE NEIGHBOUR: 'it returns false'. Refute it at one input. -/
def fnSharesWrong : ChangeSpec := { name := "fnShares", fn := fun _ => fun
  | [d] => { results := [.lit (.bool false)], args := [d] }
  | _ => none }
def FnSharesWrongFalsely : Prop := fnSharesRow.holds Try.pinned (OpenSpec.ofChange fnSharesWrong)

/-- 'laws.FnExactSeen': WHATEVER THE INPUT: true; the input reads as it did. -/
def fnExactSeenSpec : ChangeSpec := { name := "fnExactSeen", fn := fun _ => fun
  | [d1, d2, d3] => { results := [.lit (.bool true)], args := [d1, d2, d3] }
  | _ => none }
def fnExactSeenRow : OpenClaim := { program := "ytagdkdoknaiicaa", sum := "2ac05ffb7fea4c657d44abba15730addc61723472290e0a7ae5c0d6e5c97855a", func := "loop.example/g00476/laws.FnExactSeen", spec := "fnExactSeen", apart := false }
def FnExactSeenSaid : Prop := fnExactSeenRow.holds Try.pinned (OpenSpec.ofChange fnExactSeenSpec)

/-- ITS FALSE NEIGHBOUR: 'it returns false'. Refute it at one input. -/
def fnExactSeenWrong : ChangeSpec := { name := "fnExactSeen", fn := fun _ => fun
  | [d1, d2, d3] => { results := [.lit (.bool false)], args := [d1, d2, d3] }
  | _ => none }
def FnExactSeenWrongFalsely : Prop := fnExactSeenRow.holds Try.pinned (OpenSpec.ofChange fnExactSeenWrong)

/- THE SECOND FORM. 'bulk': how many values and letters a reading holds, each counted each time it is reached (what is shared counts as often as it is met; a slice's spare places count too). A statement '..UptoSaid' is the law's where the arguments, and the package variables that the reading takes, are together of bulk at most 1048576: NARROWER than '..Said'. Prove '..Said' where nothing that the law and all that it calls make is longer than what came in: it says more and counts as full. Else prove '..UptoSaid'. A law counts once. -/
mutual
def uptoBulk {H : Type} : DataW H → Nat
  | .lit (.string bytes) => bytes.length + 1
  | .lit _ => 1
  | .nil => 1
  | .ptr d => uptoBulk d + 1
  | .slice elems spare => uptoBulkAll elems + uptoBulkAll spare + 1
  | .agg parts => uptoBulkAll parts + 1
  | .iface _ d => uptoBulk d + 1
  | .map entries => uptoBulkEntries entries + 1
  | .held _ => 1
def uptoBulkAll {H : Type} : List (DataW H) → Nat
  | [] => 0
  | d :: r => uptoBulk d + uptoBulkAll r
def uptoBulkEntries {H : Type} : List (Lit × DataW H) → Nat
  | [] => 0
  | x :: r => uptoBulkEntry x + uptoBulkEntries r
def uptoBulkEntry {H : Type} : Lit × DataW H → Nat
  | (.string bytes, d) => bytes.length + uptoBulk d + 1
  | (_, d) => uptoBulk d + 1
 end
def uptoSmall : (H : Type) → List (DataW H) → Bool := fun _ ds => decide (uptoBulkAll ds ≤ 1048576)
def OpenSpec.upto (s : _root_.Go.ChangeSpec) : _root_.Go.OpenSpec := { _root_.Go.OpenSpec.ofChange s with cond := some uptoSmall }

/-- 'laws.FnExactHandOf', WHERE WHAT IT READS IS OF BULK AT MOST 1048576: true; the input reads as it did. -/
def fnExactHandOfUptoRow : OpenClaim := { program := "ytagdkdoknaiicaa", sum := "2ac05ffb7fea4c657d44abba15730addc61723472290e0a7ae5c0d6e5c97855a", func := "loop.example/g00476/laws.FnExactHandOf", spec := "fnExactHandOf", apart := false, narrowed := true }
def FnExactHandOfUptoSaid : Prop := fnExactHandOfUptoRow.holds Try.pinned (OpenSpec.upto fnExactHandOfSpec)

/-- 'laws.FnExactShares', WHERE WHAT IT READS IS OF BULK AT MOST 1048576: true; the input reads as it did. -/
def fnExactSharesUptoRow : OpenClaim := { program := "ytagdkdoknaiicaa", sum := "2ac05ffb7fea4c657d44abba15730addc61723472290e0a7ae5c0d6e5c97855a", func := "loop.example/g00476/laws.FnExactShares", spec := "fnExactShares", apart := false, narrowed := true }
def FnExactSharesUptoSaid : Prop := fnExactSharesUptoRow.holds Try.pinned (OpenSpec.upto fnExactSharesSpec)

/-- 'laws.FnExactLast', WHERE WHAT IT READS IS OF BULK AT MOST 1048576: true; the input reads as it did. -/
def fnExactLastUptoRow : OpenClaim := { program := "ytagdkdoknaiicaa", sum := "2ac05ffb7fea4c657d44abba15730addc61723472290e0a7ae5c0d6e5c97855a", func := "loop.example/g00476/laws.FnExactLast", spec := "fnExactLast", apart := false, narrowed := true }
def FnExactLastUptoSaid : Prop := fnExactLastUptoRow.holds Try.pinned (OpenSpec.upto fnExactLastSpec)

/-- 'laws.FnNums', WHERE WHAT IT READS IS OF BULK AT MOST 1048576: true; the input reads as it did. -/
def fnNumsUptoRow : OpenClaim := { program := "ytagdkdoknaiicaa", sum := "2ac05ffb7fea4c657d44abba15730addc61723472290e0a7ae5c0d6e5c97855a", func := "loop.example/g00476/laws.FnNums", spec := "fnNums", apart := false, narrowed := true }
def FnNumsUptoSaid : Prop := fnNumsUptoRow.holds Try.pinned (OpenSpec.upto fnNumsSpec)

/-- 'laws.FnExactCodeOk', WHERE WHAT IT READS IS OF BULK AT MOST 1048576: true; the input reads as it did. -/
def fnExactCodeOkUptoRow : OpenClaim := { program := "ytagdkdoknaiicaa", sum := "2ac05ffb7fea4c657d44abba15730addc61723472290e0a7ae5c0d6e5c97855a", func := "loop.example/g00476/laws.FnExactCodeOk", spec := "fnExactCodeOk", apart := false, narrowed := true }
def FnExactCodeOkUptoSaid : Prop := fnExactCodeOkUptoRow.holds Try.pinned (OpenSpec.upto fnExactCodeOkSpec)

/-- 'laws.FnShares', WHERE WHAT IT READS IS OF BULK AT MOST 1048576: true; the input reads as it did. -/
def fnSharesUptoRow : OpenClaim := { program := "ytagdkdoknaiicaa", sum := "2ac05ffb7fea4c657d44abba15730addc61723472290e0a7ae5c0d6e5c97855a", func := "loop.example/g00476/laws.FnShares", spec := "fnShares", apart := false, narrowed := true }
def FnSharesUptoSaid : Prop := fnSharesUptoRow.holds Try.pinned (OpenSpec.upto fnSharesSpec)

/-- 'laws.FnExactSeen', WHERE WHAT IT READS IS OF BULK AT MOST 1048576: true; the input reads as it did. -/
def fnExactSeenUptoRow : OpenClaim := { program := "ytagdkdoknaiicaa", sum := "2ac05ffb7fea4c657d44abba15730addc61723472290e0a7ae5c0d6e5c97855a", func := "loop.example/g00476/laws.FnExactSeen", spec := "fnExactSeen", apart := false, narrowed := true }
def FnExactSeenUptoSaid : Prop := fnExactSeenUptoRow.holds Try.pinned (OpenSpec.upto fnExactSeenSpec)

end Rows
end Go.Proofs.Ytagdkdoknaiicaa
