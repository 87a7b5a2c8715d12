/-
  NARROWER THAN 'FOR EVERY INPUT', by the rows' own cells (each row's printed sentence says how): FnExactSums: loops.
  DERIVED. THE GIVEN ROWS OF THIS SEAT. 3 by the template 'for every input the law returns true; each argument reads behind the call as it read before'; 0 by the template 'total and deterministic' (their statements: YtjpgifmkikmbgaaTotals.lean).
  GIVEN WITH THE SEED: the statements are not yours to turn. If you find one false, say at which input.
  Laid BY PROGRAM, IN A SANDBOX (cutbox-rows.mjs): the forced cells as the released guide's own fill.sh prints them over the translation c27d7a6c508ceb2e… (all of the seat's roots in one cut). By AI agents, Wed Nov 11 2026. No macro, syntax, notation, axiom, sorry.
-/
import Derived.Test.YtjpgifmkikmbgaaChecked
import GoSem.Claim
import GoSem.ClaimJoined
import GoSem.ClaimMapViews
import Derived.JoinedTies
import Derived.KernelRfl
namespace Go.Proofs.Ytjpgifmkikmbgaa
/- THE CELL 'sum', in the pinned program and in every row, IS THE sha256 OF THE DUMP (.gsa) THAT YtjpgifmkikmbgaaProg.lean LOADS. Nothing in Lean hashes anything: it is a label: what it is worth is what the hold of that sum in a sandbox is worth. -/
noncomputable def Try.pinned : Pinned := { name := "ytjpgifmkikmbgaa", sum := "c27d7a6c508ceb2ee0673619f74d51bf1ab1e87c8303e7b78a77aee41b67dd89", checked := Try.checked }
namespace Rows
def none {H : Type} : Left H := { results := [], args := [] }

/-- 'laws.FnExactSeen': WHATEVER THE INPUT: true; the input reads as it did. -/
def fnExactSeenSpec : ChangeSpec := { name := "fnExactSeen", fn := fun _ => fun
  | [d1, d2, d3] => { results := [.lit (.bool true)], args := [d1, d2, d3] }
  | _ => none }
def fnExactSeenRow : OpenClaim := { program := "ytjpgifmkikmbgaa", sum := "c27d7a6c508ceb2ee0673619f74d51bf1ab1e87c8303e7b78a77aee41b67dd89", func := "loop.example/g00476/laws.FnExactSeen", spec := "fnExactSeen", apart := false }
def FnExactSeenSaid : Prop := fnExactSeenRow.holds Try.pinned (OpenSpec.ofChange fnExactSeenSpec)

/-- ITS FALSE NEIGHBOUR: 'it returns false'. Refute it at one input. -/
def fnExactSeenWrong : ChangeSpec := { name := "fnExactSeen", fn := fun _ => fun
  | [d1, d2, d3] => { results := [.lit (.bool false)], args := [d1, d2, d3] }
  | _ => none }
def FnExactSeenWrongFalsely : Prop := fnExactSeenRow.holds Try.pinned (OpenSpec.ofChange fnExactSeenWrong)

/-- 'laws.FnExactMayMeet': WHATEVER THE INPUT: true; the input reads as it did. -/
def fnExactMayMeetSpec : ChangeSpec := { name := "fnExactMayMeet", fn := fun _ => fun
  | [d1, d2, d3, d4] => { results := [.lit (.bool true)], args := [d1, d2, d3, d4] }
  | _ => none }
def fnExactMayMeetRow : OpenClaim := { program := "ytjpgifmkikmbgaa", sum := "c27d7a6c508ceb2ee0673619f74d51bf1ab1e87c8303e7b78a77aee41b67dd89", func := "loop.example/g00476/laws.FnExactMayMeet", spec := "fnExactMayMeet", unfollowed := true, recurses := true, apart := false }
def FnExactMayMeetSaid : Prop := fnExactMayMeetRow.holds Try.pinned (OpenSpec.ofChange fnExactMayMeetSpec)

/-- ITS FALSE NEIGHBOUR: 'it returns false'. Refute it at one input. -/
def fnExactMayMeetWrong : ChangeSpec := { name := "fnExactMayMeet", fn := fun _ => fun
  | [d1, d2, d3, d4] => { results := [.lit (.bool false)], args := [d1, d2, d3, d4] }
  | _ => none }
def FnExactMayMeetWrongFalsely : Prop := fnExactMayMeetRow.holds Try.pinned (OpenSpec.ofChange fnExactMayMeetWrong)

/-- 'laws.FnExactSums': WHATEVER THE INPUT: true; the input reads as it did. -/
def fnExactSumsSpec : ChangeSpec := { name := "fnExactSums", fn := fun _ => fun
  | [d] => { results := [.lit (.bool true)], args := [d] }
  | _ => none }
def fnExactSumsRow : OpenClaim := { program := "ytjpgifmkikmbgaa", sum := "c27d7a6c508ceb2ee0673619f74d51bf1ab1e87c8303e7b78a77aee41b67dd89", func := "loop.example/g00476/laws.FnExactSums", spec := "fnExactSums", unfollowed := true, recurses := true, loops := true, apart := false }
def FnExactSumsSaid : Prop := fnExactSumsRow.holds Try.pinned (OpenSpec.ofChange fnExactSumsSpec)

/-- ITS FALSE NEIGHBOUR: 'it returns false'. Refute it at one input. -/
def fnExactSumsWrong : ChangeSpec := { name := "fnExactSums", fn := fun _ => fun
  | [d] => { results := [.lit (.bool false)], args := [d] }
  | _ => none }
def FnExactSumsWrongFalsely : Prop := fnExactSumsRow.holds Try.pinned (OpenSpec.ofChange fnExactSumsWrong)

/- THE SECOND FORM. 'bulk': how many values and letters a reading holds, each counted each time it is reached (what is shared counts as often as it is met; a slice's spare places count too). A statement '..UptoSaid' is the law's where the arguments, and the package variables that the reading takes, are together of bulk at most 1048576: NARROWER than '..Said'. Prove '..Said' where nothing that the law and all that it calls make is longer than what came in: it says more and counts as full. Else prove '..UptoSaid'. A law counts once. -/
mutual
def uptoBulk {H : Type} : DataW H → Nat
  | .lit (.string bytes) => bytes.length + 1
  | .lit _ => 1
  | .nil => 1
  | .ptr d => uptoBulk d + 1
  | .slice elems spare => uptoBulkAll elems + uptoBulkAll spare + 1
  | .agg parts => uptoBulkAll parts + 1
  | .iface _ d => uptoBulk d + 1
  | .map entries => uptoBulkEntries entries + 1
  | .held _ => 1
def uptoBulkAll {H : Type} : List (DataW H) → Nat
  | [] => 0
  | d :: r => uptoBulk d + uptoBulkAll r
def uptoBulkEntries {H : Type} : List (Lit × DataW H) → Nat
  | [] => 0
  | x :: r => uptoBulkEntry x + uptoBulkEntries r
def uptoBulkEntry {H : Type} : Lit × DataW H → Nat
  | (.string bytes, d) => bytes.length + uptoBulk d + 1
  | (_, d) => uptoBulk d + 1
 end
def uptoSmall : (H : Type) → List (DataW H) → Bool := fun _ ds => decide (uptoBulkAll ds ≤ 1048576)
def OpenSpec.upto (s : _root_.Go.ChangeSpec) : _root_.Go.OpenSpec := { _root_.Go.OpenSpec.ofChange s with cond := some uptoSmall }

/-- 'laws.FnExactSeen', WHERE WHAT IT READS IS OF BULK AT MOST 1048576: true; the input reads as it did. -/
def fnExactSeenUptoRow : OpenClaim := { program := "ytjpgifmkikmbgaa", sum := "c27d7a6c508ceb2ee0673619f74d51bf1ab1e87c8303e7b78a77aee41b67dd89", func := "loop.example/g00476/laws.FnExactSeen", spec := "fnExactSeen", apart := false, narrowed := true }
def FnExactSeenUptoSaid : Prop := fnExactSeenUptoRow.holds Try.pinned (OpenSpec.upto fnExactSeenSpec)

/-- 'laws.FnExactMayMeet', WHERE WHAT IT READS IS OF BULK AT MOST 1048576: true; the input reads as it did. -/
def fnExactMayMeetUptoRow : OpenClaim := { program := "ytjpgifmkikmbgaa", sum := "c27d7a6c508ceb2ee0673619f74d51bf1ab1e87c8303e7b78a77aee41b67dd89", func := "loop.example/g00476/laws.FnExactMayMeet", spec := "fnExactMayMeet", unfollowed := true, recurses := true, apart := false, narrowed := true }
def FnExactMayMeetUptoSaid : Prop := fnExactMayMeetUptoRow.holds Try.pinned (OpenSpec.upto fnExactMayMeetSpec)

/-- 'laws.FnExactSums', WHERE WHAT IT READS IS OF BULK AT MOST 1048576: true; the input reads as it did. -/
def fnExactSumsUptoRow : OpenClaim := { program := "ytjpgifmkikmbgaa", sum := "c27d7a6c508ceb2ee0673619f74d51bf1ab1e87c8303e7b78a77aee41b67dd89", func := "loop.example/g00476/laws.FnExactSums", spec := "fnExactSums", unfollowed := true, recurses := true, loops := true, apart := false, narrowed := true }
def FnExactSumsUptoSaid : Prop := fnExactSumsUptoRow.holds Try.pinned (OpenSpec.upto fnExactSumsSpec)

end Rows
end Go.Proofs.Ytjpgifmkikmbgaa
