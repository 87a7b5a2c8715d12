/-
  NARROWER THAN 'FOR EVERY INPUT', by the rows' own cells (each row's printed sentence says how): FnExactRegAt: loops · FnExactBaseOf: loops · FnExactFlagAt: loops · FnExactVarAt: loops · FnExactSlotAt: loops · FnExactBarAt: loops · FnExactMemSize: loops · FnExactMachOk: loops · FnExactMachNew: loops.
  DERIVED. THE GIVEN ROWS OF THIS SEAT. 9 by the template 'for every input the law returns true; each argument reads behind the call as it read before'; 0 by the template 'total and deterministic' (their statements: YtjpgifmkikmbgaaGreatTotals.lean).
  GIVEN WITH THE SEED: the statements are not yours to turn. If you find one false, say at which input.
  Laid BY PROGRAM, IN A SANDBOX (cutbox-rows.mjs): the forced cells as the released guide's own fill.sh prints them over the translation 7adf454b7a6b30ff… (all of the seat's roots in one cut). By AI agents, Wed Nov 11 2026. No macro, syntax, notation, axiom, sorry.
-/
import Derived.Test.YtjpgifmkikmbgaaGreatChecked
import GoSem.Claim
import GoSem.ClaimJoined
import GoSem.ClaimMapViews
import Derived.JoinedTies
import Derived.KernelRfl
namespace Go.Proofs.YtjpgifmkikmbgaaGreat
/- THE CELL 'sum', in the pinned program and in every row, IS THE sha256 OF THE DUMP (.gsa) THAT YtjpgifmkikmbgaaGreatProg.lean LOADS. Nothing in Lean hashes anything: it is a label: what it is worth is what the hold of that sum in a sandbox is worth. -/
noncomputable def Tryz.pinned : Pinned := { name := "ytjpgifmkikmbgaagreat", sum := "7adf454b7a6b30ffa581ede0ed2b57f9147a89fb7febdea443506ba78482c462", checked := Tryz.checked }
namespace Rows
def none {H : Type} : Left H := { results := [], args := [] }

/-- 'laws.FnExactRegAt': WHATEVER THE INPUT: true; the input reads as it did. -/
def fnExactRegAtSpec : ChangeSpec := { name := "fnExactRegAt", fn := fun _ => fun
  | [d1, d2] => { results := [.lit (.bool true)], args := [d1, d2] }
  | _ => none }
def fnExactRegAtRow : OpenClaim := { program := "ytjpgifmkikmbgaagreat", sum := "7adf454b7a6b30ffa581ede0ed2b57f9147a89fb7febdea443506ba78482c462", func := "loop.example/g00476/laws.FnExactRegAt", spec := "fnExactRegAt", unfollowed := true, recurses := true, loops := true, apart := false }
def FnExactRegAtSaid : Prop := fnExactRegAtRow.holds Tryz.pinned (OpenSpec.ofChange fnExactRegAtSpec)

/-- ITS FALSE NEIGHBOUR: 'it returns false'. Refute it at one input. -/
def fnExactRegAtWrong : ChangeSpec := { name := "fnExactRegAt", fn := fun _ => fun
  | [d1, d2] => { results := [.lit (.bool false)], args := [d1, d2] }
  | _ => none }
def FnExactRegAtWrongFalsely : Prop := fnExactRegAtRow.holds Tryz.pinned (OpenSpec.ofChange fnExactRegAtWrong)

/-- 'laws.FnExactBaseOf': WHATEVER THE INPUT: true; the input reads as it did. -/
def fnExactBaseOfSpec : ChangeSpec := { name := "fnExactBaseOf", fn := fun _ => fun
  | [d1, d2] => { results := [.lit (.bool true)], args := [d1, d2] }
  | _ => none }
def fnExactBaseOfRow : OpenClaim := { program := "ytjpgifmkikmbgaagreat", sum := "7adf454b7a6b30ffa581ede0ed2b57f9147a89fb7febdea443506ba78482c462", func := "loop.example/g00476/laws.FnExactBaseOf", spec := "fnExactBaseOf", unfollowed := true, recurses := true, loops := true, apart := false }
def FnExactBaseOfSaid : Prop := fnExactBaseOfRow.holds Tryz.pinned (OpenSpec.ofChange fnExactBaseOfSpec)

/-- ITS FALSE NEIGHBOUR: 'it returns false'. Refute it at one input. -/
def fnExactBaseOfWrong : ChangeSpec := { name := "fnExactBaseOf", fn := fun _ => fun
  | [d1, d2] => { results := [.lit (.bool false)], args := [d1, d2] }
  | _ => none }
def FnExactBaseOfWrongFalsely : Prop := fnExactBaseOfRow.holds Tryz.pinned (OpenSpec.ofChange fnExactBaseOfWrong)

/-- 'laws.FnExactFlagAt': WHATEVER THE INPUT: true; the input reads as it did. -/
def fnExactFlagAtSpec : ChangeSpec := { name := "fnExactFlagAt", fn := fun _ => fun
  | [d1, d2] => { results := [.lit (.bool true)], args := [d1, d2] }
  | _ => none }
def fnExactFlagAtRow : OpenClaim := { program := "ytjpgifmkikmbgaagreat", sum := "7adf454b7a6b30ffa581ede0ed2b57f9147a89fb7febdea443506ba78482c462", func := "loop.example/g00476/laws.FnExactFlagAt", spec := "fnExactFlagAt", unfollowed := true, recurses := true, loops := true, apart := false }
def FnExactFlagAtSaid : Prop := fnExactFlagAtRow.holds Tryz.pinned (OpenSpec.ofChange fnExactFlagAtSpec)

/-- ITS FALSE NEIGHBOUR: 'it returns false'. Refute it at one input. -/
def fnExactFlagAtWrong : ChangeSpec := { name := "fnExactFlagAt", fn := fun _ => fun
  | [d1, d2] => { results := [.lit (.bool false)], args := [d1, d2] }
  | _ => none }
def FnExactFlagAtWrongFalsely : Prop := fnExactFlagAtRow.holds Tryz.pinned (OpenSpec.ofChange fnExactFlagAtWrong)

/-- 'laws.FnExactVarAt': WHATEVER THE INPUT: true; the input reads as it did. -/
def fnExactVarAtSpec : ChangeSpec := { name := "fnExactVarAt", fn := fun _ => fun
  | [d1, d2] => { results := [.lit (.bool true)], args := [d1, d2] }
  | _ => none }
def fnExactVarAtRow : OpenClaim := { program := "ytjpgifmkikmbgaagreat", sum := "7adf454b7a6b30ffa581ede0ed2b57f9147a89fb7febdea443506ba78482c462", func := "loop.example/g00476/laws.FnExactVarAt", spec := "fnExactVarAt", unfollowed := true, recurses := true, loops := true, apart := false }
def FnExactVarAtSaid : Prop := fnExactVarAtRow.holds Tryz.pinned (OpenSpec.ofChange fnExactVarAtSpec)

/-- ITS FALSE NEIGHBOUR: 'it returns false'. Refute it at one input. -/
def fnExactVarAtWrong : ChangeSpec := { name := "fnExactVarAt", fn := fun _ => fun
  | [d1, d2] => { results := [.lit (.bool false)], args := [d1, d2] }
  | _ => none }
def FnExactVarAtWrongFalsely : Prop := fnExactVarAtRow.holds Tryz.pinned (OpenSpec.ofChange fnExactVarAtWrong)

/-- 'laws.FnExactSlotAt': WHATEVER THE INPUT: true; the input reads as it did. -/
def fnExactSlotAtSpec : ChangeSpec := { name := "fnExactSlotAt", fn := fun _ => fun
  | [d1, d2, d3] => { results := [.lit (.bool true)], args := [d1, d2, d3] }
  | _ => none }
def fnExactSlotAtRow : OpenClaim := { program := "ytjpgifmkikmbgaagreat", sum := "7adf454b7a6b30ffa581ede0ed2b57f9147a89fb7febdea443506ba78482c462", func := "loop.example/g00476/laws.FnExactSlotAt", spec := "fnExactSlotAt", unfollowed := true, recurses := true, loops := true, apart := false }
def FnExactSlotAtSaid : Prop := fnExactSlotAtRow.holds Tryz.pinned (OpenSpec.ofChange fnExactSlotAtSpec)

/-- ITS FALSE NEIGHBOUR: 'it returns false'. Refute it at one input. -/
def fnExactSlotAtWrong : ChangeSpec := { name := "fnExactSlotAt", fn := fun _ => fun
  | [d1, d2, d3] => { results := [.lit (.bool false)], args := [d1, d2, d3] }
  | _ => none }
def FnExactSlotAtWrongFalsely : Prop := fnExactSlotAtRow.holds Tryz.pinned (OpenSpec.ofChange fnExactSlotAtWrong)

/-- 'laws.FnExactBarAt': WHATEVER THE INPUT: true; the input reads as it did. -/
def fnExactBarAtSpec : ChangeSpec := { name := "fnExactBarAt", fn := fun _ => fun
  | [d1, d2] => { results := [.lit (.bool true)], args := [d1, d2] }
  | _ => none }
def fnExactBarAtRow : OpenClaim := { program := "ytjpgifmkikmbgaagreat", sum := "7adf454b7a6b30ffa581ede0ed2b57f9147a89fb7febdea443506ba78482c462", func := "loop.example/g00476/laws.FnExactBarAt", spec := "fnExactBarAt", unfollowed := true, recurses := true, loops := true, apart := false }
def FnExactBarAtSaid : Prop := fnExactBarAtRow.holds Tryz.pinned (OpenSpec.ofChange fnExactBarAtSpec)

/-- ITS FALSE NEIGHBOUR: 'it returns false'. Refute it at one input. -/
def fnExactBarAtWrong : ChangeSpec := { name := "fnExactBarAt", fn := fun _ => fun
  | [d1, d2] => { results := [.lit (.bool false)], args := [d1, d2] }
  | _ => none }
def FnExactBarAtWrongFalsely : Prop := fnExactBarAtRow.holds Tryz.pinned (OpenSpec.ofChange fnExactBarAtWrong)

/-- 'laws.FnExactMemSize': WHATEVER THE INPUT: true; the input reads as it did. -/
def fnExactMemSizeSpec : ChangeSpec := { name := "fnExactMemSize", fn := fun _ => fun
  | [d] => { results := [.lit (.bool true)], args := [d] }
  | _ => none }
def fnExactMemSizeRow : OpenClaim := { program := "ytjpgifmkikmbgaagreat", sum := "7adf454b7a6b30ffa581ede0ed2b57f9147a89fb7febdea443506ba78482c462", func := "loop.example/g00476/laws.FnExactMemSize", spec := "fnExactMemSize", unfollowed := true, recurses := true, loops := true, apart := false }
def FnExactMemSizeSaid : Prop := fnExactMemSizeRow.holds Tryz.pinned (OpenSpec.ofChange fnExactMemSizeSpec)

/-- ITS FALSE NEIGHBOUR: 'it returns false'. Refute it at one input. -/
def fnExactMemSizeWrong : ChangeSpec := { name := "fnExactMemSize", fn := fun _ => fun
  | [d] => { results := [.lit (.bool false)], args := [d] }
  | _ => none }
def FnExactMemSizeWrongFalsely : Prop := fnExactMemSizeRow.holds Tryz.pinned (OpenSpec.ofChange fnExactMemSizeWrong)

/-- 'laws.FnExactMachOk': WHATEVER THE INPUT: true; the input reads as it did. -/
def fnExactMachOkSpec : ChangeSpec := { name := "fnExactMachOk", fn := fun _ => fun
  | [d1, d2] => { results := [.lit (.bool true)], args := [d1, d2] }
  | _ => none }
def fnExactMachOkRow : OpenClaim := { program := "ytjpgifmkikmbgaagreat", sum := "7adf454b7a6b30ffa581ede0ed2b57f9147a89fb7febdea443506ba78482c462", func := "loop.example/g00476/laws.FnExactMachOk", spec := "fnExactMachOk", unfollowed := true, recurses := true, loops := true, apart := false }
def FnExactMachOkSaid : Prop := fnExactMachOkRow.holds Tryz.pinned (OpenSpec.ofChange fnExactMachOkSpec)

/-- ITS FALSE NEIGHBOUR: 'it returns false'. Refute it at one input. -/
def fnExactMachOkWrong : ChangeSpec := { name := "fnExactMachOk", fn := fun _ => fun
  | [d1, d2] => { results := [.lit (.bool false)], args := [d1, d2] }
  | _ => none }
def FnExactMachOkWrongFalsely : Prop := fnExactMachOkRow.holds Tryz.pinned (OpenSpec.ofChange fnExactMachOkWrong)

/-- 'laws.FnExactMachNew': WHATEVER THE INPUT: true; the input reads as it did. -/
def fnExactMachNewSpec : ChangeSpec := { name := "fnExactMachNew", fn := fun _ => fun
  | [d1, d2] => { results := [.lit (.bool true)], args := [d1, d2] }
  | _ => none }
def fnExactMachNewRow : OpenClaim := { program := "ytjpgifmkikmbgaagreat", sum := "7adf454b7a6b30ffa581ede0ed2b57f9147a89fb7febdea443506ba78482c462", func := "loop.example/g00476/laws.FnExactMachNew", spec := "fnExactMachNew", unfollowed := true, recurses := true, loops := true, apart := false }
def FnExactMachNewSaid : Prop := fnExactMachNewRow.holds Tryz.pinned (OpenSpec.ofChange fnExactMachNewSpec)

/-- ITS FALSE NEIGHBOUR: 'it returns false'. Refute it at one input. -/
def fnExactMachNewWrong : ChangeSpec := { name := "fnExactMachNew", fn := fun _ => fun
  | [d1, d2] => { results := [.lit (.bool false)], args := [d1, d2] }
  | _ => none }
def FnExactMachNewWrongFalsely : Prop := fnExactMachNewRow.holds Tryz.pinned (OpenSpec.ofChange fnExactMachNewWrong)

/- THE SECOND FORM. 'bulk': how many values and letters a reading holds, each counted each time it is reached (what is shared counts as often as it is met; a slice's spare places count too). A statement '..UptoSaid' is the law's where the arguments, and the package variables that the reading takes, are together of bulk at most 1048576: NARROWER than '..Said'. Prove '..Said' where nothing that the law and all that it calls make is longer than what came in: it says more and counts as full. Else prove '..UptoSaid'. A law counts once. -/
mutual
def uptoBulk {H : Type} : DataW H → Nat
  | .lit (.string bytes) => bytes.length + 1
  | .lit _ => 1
  | .nil => 1
  | .ptr d => uptoBulk d + 1
  | .slice elems spare => uptoBulkAll elems + uptoBulkAll spare + 1
  | .agg parts => uptoBulkAll parts + 1
  | .iface _ d => uptoBulk d + 1
  | .map entries => uptoBulkEntries entries + 1
  | .held _ => 1
def uptoBulkAll {H : Type} : List (DataW H) → Nat
  | [] => 0
  | d :: r => uptoBulk d + uptoBulkAll r
def uptoBulkEntries {H : Type} : List (Lit × DataW H) → Nat
  | [] => 0
  | x :: r => uptoBulkEntry x + uptoBulkEntries r
def uptoBulkEntry {H : Type} : Lit × DataW H → Nat
  | (.string bytes, d) => bytes.length + uptoBulk d + 1
  | (_, d) => uptoBulk d + 1
 end
def uptoSmall : (H : Type) → List (DataW H) → Bool := fun _ ds => decide (uptoBulkAll ds ≤ 1048576)
def OpenSpec.upto (s : _root_.Go.ChangeSpec) : _root_.Go.OpenSpec := { _root_.Go.OpenSpec.ofChange s with cond := some uptoSmall }

/-- 'laws.FnExactRegAt', WHERE WHAT IT READS IS OF BULK AT MOST 1048576: true; the input reads as it did. -/
def fnExactRegAtUptoRow : OpenClaim := { program := "ytjpgifmkikmbgaagreat", sum := "7adf454b7a6b30ffa581ede0ed2b57f9147a89fb7febdea443506ba78482c462", func := "loop.example/g00476/laws.FnExactRegAt", spec := "fnExactRegAt", unfollowed := true, recurses := true, loops := true, apart := false, narrowed := true }
def FnExactRegAtUptoSaid : Prop := fnExactRegAtUptoRow.holds Tryz.pinned (OpenSpec.upto fnExactRegAtSpec)

/-- 'laws.FnExactBaseOf', WHERE WHAT IT READS IS OF BULK AT MOST 1048576: true; the input reads as it did. -/
def fnExactBaseOfUptoRow : OpenClaim := { program := "ytjpgifmkikmbgaagreat", sum := "7adf454b7a6b30ffa581ede0ed2b57f9147a89fb7febdea443506ba78482c462", func := "loop.example/g00476/laws.FnExactBaseOf", spec := "fnExactBaseOf", unfollowed := true, recurses := true, loops := true, apart := false, narrowed := true }
def FnExactBaseOfUptoSaid : Prop := fnExactBaseOfUptoRow.holds Tryz.pinned (OpenSpec.upto fnExactBaseOfSpec)

/-- 'laws.FnExactFlagAt', WHERE WHAT IT READS IS OF BULK AT MOST 1048576: true; the input reads as it did. -/
def fnExactFlagAtUptoRow : OpenClaim := { program := "ytjpgifmkikmbgaagreat", sum := "7adf454b7a6b30ffa581ede0ed2b57f9147a89fb7febdea443506ba78482c462", func := "loop.example/g00476/laws.FnExactFlagAt", spec := "fnExactFlagAt", unfollowed := true, recurses := true, loops := true, apart := false, narrowed := true }
def FnExactFlagAtUptoSaid : Prop := fnExactFlagAtUptoRow.holds Tryz.pinned (OpenSpec.upto fnExactFlagAtSpec)

/-- 'laws.FnExactVarAt', WHERE WHAT IT READS IS OF BULK AT MOST 1048576: true; the input reads as it did. -/
def fnExactVarAtUptoRow : OpenClaim := { program := "ytjpgifmkikmbgaagreat", sum := "7adf454b7a6b30ffa581ede0ed2b57f9147a89fb7febdea443506ba78482c462", func := "loop.example/g00476/laws.FnExactVarAt", spec := "fnExactVarAt", unfollowed := true, recurses := true, loops := true, apart := false, narrowed := true }
def FnExactVarAtUptoSaid : Prop := fnExactVarAtUptoRow.holds Tryz.pinned (OpenSpec.upto fnExactVarAtSpec)

/-- 'laws.FnExactSlotAt', WHERE WHAT IT READS IS OF BULK AT MOST 1048576: true; the input reads as it did. -/
def fnExactSlotAtUptoRow : OpenClaim := { program := "ytjpgifmkikmbgaagreat", sum := "7adf454b7a6b30ffa581ede0ed2b57f9147a89fb7febdea443506ba78482c462", func := "loop.example/g00476/laws.FnExactSlotAt", spec := "fnExactSlotAt", unfollowed := true, recurses := true, loops := true, apart := false, narrowed := true }
def FnExactSlotAtUptoSaid : Prop := fnExactSlotAtUptoRow.holds Tryz.pinned (OpenSpec.upto fnExactSlotAtSpec)

/-- 'laws.FnExactBarAt', WHERE WHAT IT READS IS OF BULK AT MOST 1048576: true; the input reads as it did. -/
def fnExactBarAtUptoRow : OpenClaim := { program := "ytjpgifmkikmbgaagreat", sum := "7adf454b7a6b30ffa581ede0ed2b57f9147a89fb7febdea443506ba78482c462", func := "loop.example/g00476/laws.FnExactBarAt", spec := "fnExactBarAt", unfollowed := true, recurses := true, loops := true, apart := false, narrowed := true }
def FnExactBarAtUptoSaid : Prop := fnExactBarAtUptoRow.holds Tryz.pinned (OpenSpec.upto fnExactBarAtSpec)

/-- 'laws.FnExactMemSize', WHERE WHAT IT READS IS OF BULK AT MOST 1048576: true; the input reads as it did. -/
def fnExactMemSizeUptoRow : OpenClaim := { program := "ytjpgifmkikmbgaagreat", sum := "7adf454b7a6b30ffa581ede0ed2b57f9147a89fb7febdea443506ba78482c462", func := "loop.example/g00476/laws.FnExactMemSize", spec := "fnExactMemSize", unfollowed := true, recurses := true, loops := true, apart := false, narrowed := true }
def FnExactMemSizeUptoSaid : Prop := fnExactMemSizeUptoRow.holds Tryz.pinned (OpenSpec.upto fnExactMemSizeSpec)

/-- 'laws.FnExactMachOk', WHERE WHAT IT READS IS OF BULK AT MOST 1048576: true; the input reads as it did. -/
def fnExactMachOkUptoRow : OpenClaim := { program := "ytjpgifmkikmbgaagreat", sum := "7adf454b7a6b30ffa581ede0ed2b57f9147a89fb7febdea443506ba78482c462", func := "loop.example/g00476/laws.FnExactMachOk", spec := "fnExactMachOk", unfollowed := true, recurses := true, loops := true, apart := false, narrowed := true }
def FnExactMachOkUptoSaid : Prop := fnExactMachOkUptoRow.holds Tryz.pinned (OpenSpec.upto fnExactMachOkSpec)

/-- 'laws.FnExactMachNew', WHERE WHAT IT READS IS OF BULK AT MOST 1048576: true; the input reads as it did. -/
def fnExactMachNewUptoRow : OpenClaim := { program := "ytjpgifmkikmbgaagreat", sum := "7adf454b7a6b30ffa581ede0ed2b57f9147a89fb7febdea443506ba78482c462", func := "loop.example/g00476/laws.FnExactMachNew", spec := "fnExactMachNew", unfollowed := true, recurses := true, loops := true, apart := false, narrowed := true }
def FnExactMachNewUptoSaid : Prop := fnExactMachNewUptoRow.holds Tryz.pinned (OpenSpec.upto fnExactMachNewSpec)

end Rows
end Go.Proofs.YtjpgifmkikmbgaaGreat
