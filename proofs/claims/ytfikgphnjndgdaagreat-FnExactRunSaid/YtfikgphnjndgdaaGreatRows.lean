/-
  NARROWER THAN 'FOR EVERY INPUT', by the rows' own cells (each row's printed sentence says how): FnExactGenExp: loops · FnExactRun: loops · FnExactKinds: loops · FnExactStep: loops.
  DERIVED. THE GIVEN ROWS OF THIS SEAT. 9 by the template 'for every input the law returns true; each argument reads behind the call as it read before'; 0 by the template 'total and deterministic' (their statements: YtfikgphnjndgdaaGreatTotals.lean).
  GIVEN WITH THE SEED: the statements are not yours to turn. If you find one false, say at which input.
  Laid BY PROGRAM, IN A SANDBOX (cutbox-rows.mjs): the forced cells as the released guide's own fill.sh prints them over the translation dc260a09064bb587… (all of the seat's roots in one cut). By AI agents, Wed Nov 11 2026. No macro, syntax, notation, axiom, sorry.
-/
import Derived.Test.YtfikgphnjndgdaaGreatChecked
import GoSem.Claim
import GoSem.ClaimJoined
import GoSem.ClaimMapViews
import Derived.JoinedTies
import Derived.KernelRfl
namespace Go.Proofs.YtfikgphnjndgdaaGreat
/- THE CELL 'sum', in the pinned program and in every row, IS THE sha256 OF THE DUMP (.gsa) THAT YtfikgphnjndgdaaGreatProg.lean LOADS. Nothing in Lean hashes anything: it is a label: what it is worth is what the hold of that sum in a sandbox is worth. -/
noncomputable def Tryz.pinned : Pinned := { name := "ytfikgphnjndgdaagreat", sum := "dc260a09064bb58710074cff985a856e97a66d17d4193877f5d143230080dd1c", checked := Tryz.checked }
namespace Rows
def none {H : Type} : Left H := { results := [], args := [] }

/-- 'laws.FnExactGenExp': WHATEVER THE INPUT: true; the input reads as it did. -/
def fnExactGenExpSpec : ChangeSpec := { name := "fnExactGenExp", fn := fun _ => fun
  | [d1, d2, d3] => { results := [.lit (.bool true)], args := [d1, d2, d3] }
  | _ => none }
def fnExactGenExpRow : OpenClaim := { program := "ytfikgphnjndgdaagreat", sum := "dc260a09064bb58710074cff985a856e97a66d17d4193877f5d143230080dd1c", func := "loop.example/g00476/laws.FnExactGenExp", spec := "fnExactGenExp", unfollowed := true, recurses := true, loops := true, apart := false }
def FnExactGenExpSaid : Prop := fnExactGenExpRow.holds Tryz.pinned (OpenSpec.ofChange fnExactGenExpSpec)

/-- ITS FALSE NEIGHBOUR: 'it returns false'. Refute it at one input. -/
def fnExactGenExpWrong : ChangeSpec := { name := "fnExactGenExp", fn := fun _ => fun
  | [d1, d2, d3] => { results := [.lit (.bool false)], args := [d1, d2, d3] }
  | _ => none }
def FnExactGenExpWrongFalsely : Prop := fnExactGenExpRow.holds Tryz.pinned (OpenSpec.ofChange fnExactGenExpWrong)

/-- 'laws.FnExactRun': WHATEVER THE INPUT: true; the input reads as it did. -/
def fnExactRunSpec : ChangeSpec := { name := "fnExactRun", fn := fun _ => fun
  | [d1, d2] => { results := [.lit (.bool true)], args := [d1, d2] }
  | _ => none }
def fnExactRunRow : OpenClaim := { program := "ytfikgphnjndgdaagreat", sum := "dc260a09064bb58710074cff985a856e97a66d17d4193877f5d143230080dd1c", func := "loop.example/g00476/laws.FnExactRun", spec := "fnExactRun", unfollowed := true, recurses := true, loops := true, apart := false }
def FnExactRunSaid : Prop := fnExactRunRow.holds Tryz.pinned (OpenSpec.ofChange fnExactRunSpec)

/-- ITS FALSE NEIGHBOUR: 'it returns false'. Refute it at one input. -/
def fnExactRunWrong : ChangeSpec := { name := "fnExactRun", fn := fun _ => fun
  | [d1, d2] => { results := [.lit (.bool false)], args := [d1, d2] }
  | _ => none }
def FnExactRunWrongFalsely : Prop := fnExactRunRow.holds Tryz.pinned (OpenSpec.ofChange fnExactRunWrong)

/-- 'laws.FnRuns': WHATEVER THE INPUT: true; the input reads as it did. -/
def fnRunsSpec : ChangeSpec := { name := "fnRuns", fn := fun _ => fun
  | [d] => { results := [.lit (.bool true)], args := [d] }
  | _ => none }
def fnRunsRow : OpenClaim := { program := "ytfikgphnjndgdaagreat", sum := "dc260a09064bb58710074cff985a856e97a66d17d4193877f5d143230080dd1c", func := "loop.example/g00476/laws.FnRuns", spec := "fnRuns", unfollowed := true, recurses := true, apart := false }
def FnRunsSaid : Prop := fnRunsRow.holds Tryz.pinned (OpenSpec.ofChange fnRunsSpec)

/-- ITS FALSE NEIGHBOUR: 'it returns false'. Refute it at one input. -/
def fnRunsWrong : ChangeSpec := { name := "fnRuns", fn := fun _ => fun
  | [d] => { results := [.lit (.bool false)], args := [d] }
  | _ => none }
def FnRunsWrongFalsely : Prop := fnRunsRow.holds Tryz.pinned (OpenSpec.ofChange fnRunsWrong)

/-- 'laws.FnExactKinds': WHATEVER THE INPUT: true; the input reads as it did. -/
def fnExactKindsSpec : ChangeSpec := { name := "fnExactKinds", fn := fun _ => fun
  | [d] => { results := [.lit (.bool true)], args := [d] }
  | _ => none }
def fnExactKindsRow : OpenClaim := { program := "ytfikgphnjndgdaagreat", sum := "dc260a09064bb58710074cff985a856e97a66d17d4193877f5d143230080dd1c", func := "loop.example/g00476/laws.FnExactKinds", spec := "fnExactKinds", unfollowed := true, recurses := true, loops := true, apart := false }
def FnExactKindsSaid : Prop := fnExactKindsRow.holds Tryz.pinned (OpenSpec.ofChange fnExactKindsSpec)

/-- ITS FALSE NEIGHBOUR: 'it returns false'. Refute it at one input. -/
def fnExactKindsWrong : ChangeSpec := { name := "fnExactKinds", fn := fun _ => fun
  | [d] => { results := [.lit (.bool false)], args := [d] }
  | _ => none }
def FnExactKindsWrongFalsely : Prop := fnExactKindsRow.holds Tryz.pinned (OpenSpec.ofChange fnExactKindsWrong)

/-- 'laws.FnPlans': WHATEVER THE INPUT: true; the input reads as it did. -/
def fnPlansSpec : ChangeSpec := { name := "fnPlans", fn := fun _ => fun
  | [d] => { results := [.lit (.bool true)], args := [d] }
  | _ => none }
def fnPlansRow : OpenClaim := { program := "ytfikgphnjndgdaagreat", sum := "dc260a09064bb58710074cff985a856e97a66d17d4193877f5d143230080dd1c", func := "loop.example/g00476/laws.FnPlans", spec := "fnPlans", unfollowed := true, recurses := true, apart := false }
def FnPlansSaid : Prop := fnPlansRow.holds Tryz.pinned (OpenSpec.ofChange fnPlansSpec)

/-- ITS FALSE NEIGHBOUR: 'it returns false'. Refute it at one input. -/
def fnPlansWrong : ChangeSpec := { name := "fnPlans", fn := fun _ => fun
  | [d] => { results := [.lit (.bool false)], args := [d] }
  | _ => none }
def FnPlansWrongFalsely : Prop := fnPlansRow.holds Tryz.pinned (OpenSpec.ofChange fnPlansWrong)

/-- 'laws.FnDeps': WHATEVER THE INPUT: true; the input reads as it did. -/
def fnDepsSpec : ChangeSpec := { name := "fnDeps", fn := fun _ => fun
  | [d] => { results := [.lit (.bool true)], args := [d] }
  | _ => none }
def fnDepsRow : OpenClaim := { program := "ytfikgphnjndgdaagreat", sum := "dc260a09064bb58710074cff985a856e97a66d17d4193877f5d143230080dd1c", func := "loop.example/g00476/laws.FnDeps", spec := "fnDeps", unfollowed := true, recurses := true, apart := false }
def FnDepsSaid : Prop := fnDepsRow.holds Tryz.pinned (OpenSpec.ofChange fnDepsSpec)

/-- ITS FALSE NEIGHBOUR: 'it returns false'. Refute it at one input. -/
def fnDepsWrong : ChangeSpec := { name := "fnDeps", fn := fun _ => fun
  | [d] => { results := [.lit (.bool false)], args := [d] }
  | _ => none }
def FnDepsWrongFalsely : Prop := fnDepsRow.holds Tryz.pinned (OpenSpec.ofChange fnDepsWrong)

/-- 'laws.FnDepsBent': WHATEVER THE INPUT: true; the input reads as it did. -/
def fnDepsBentSpec : ChangeSpec := { name := "fnDepsBent", fn := fun _ => fun
  | [d] => { results := [.lit (.bool true)], args := [d] }
  | _ => none }
def fnDepsBentRow : OpenClaim := { program := "ytfikgphnjndgdaagreat", sum := "dc260a09064bb58710074cff985a856e97a66d17d4193877f5d143230080dd1c", func := "loop.example/g00476/laws.FnDepsBent", spec := "fnDepsBent", unfollowed := true, recurses := true, apart := false }
def FnDepsBentSaid : Prop := fnDepsBentRow.holds Tryz.pinned (OpenSpec.ofChange fnDepsBentSpec)

/-- ITS FALSE NEIGHBOUR: 'it returns false'. Refute it at one input. -/
def fnDepsBentWrong : ChangeSpec := { name := "fnDepsBent", fn := fun _ => fun
  | [d] => { results := [.lit (.bool false)], args := [d] }
  | _ => none }
def FnDepsBentWrongFalsely : Prop := fnDepsBentRow.holds Tryz.pinned (OpenSpec.ofChange fnDepsBentWrong)

/-- 'laws.FnExactStep': WHATEVER THE INPUT: true; the input reads as it did. -/
def fnExactStepSpec : ChangeSpec := { name := "fnExactStep", fn := fun _ => fun
  | [d1, d2, d3, d4] => { results := [.lit (.bool true)], args := [d1, d2, d3, d4] }
  | _ => none }
def fnExactStepRow : OpenClaim := { program := "ytfikgphnjndgdaagreat", sum := "dc260a09064bb58710074cff985a856e97a66d17d4193877f5d143230080dd1c", func := "loop.example/g00476/laws.FnExactStep", spec := "fnExactStep", unfollowed := true, recurses := true, loops := true, apart := false }
def FnExactStepSaid : Prop := fnExactStepRow.holds Tryz.pinned (OpenSpec.ofChange fnExactStepSpec)

/-- ITS FALSE NEIGHBOUR: 'it returns false'. Refute it at one input. -/
def fnExactStepWrong : ChangeSpec := { name := "fnExactStep", fn := fun _ => fun
  | [d1, d2, d3, d4] => { results := [.lit (.bool false)], args := [d1, d2, d3, d4] }
  | _ => none }
def FnExactStepWrongFalsely : Prop := fnExactStepRow.holds Tryz.pinned (OpenSpec.ofChange fnExactStepWrong)

/-- 'laws.FnSteps': WHATEVER THE INPUT: true; the input reads as it did. -/
def fnStepsSpec : ChangeSpec := { name := "fnSteps", fn := fun _ => fun
  | [d] => { results := [.lit (.bool true)], args := [d] }
  | _ => none }
def fnStepsRow : OpenClaim := { program := "ytfikgphnjndgdaagreat", sum := "dc260a09064bb58710074cff985a856e97a66d17d4193877f5d143230080dd1c", func := "loop.example/g00476/laws.FnSteps", spec := "fnSteps", unfollowed := true, recurses := true, apart := false }
def FnStepsSaid : Prop := fnStepsRow.holds Tryz.pinned (OpenSpec.ofChange fnStepsSpec)

/-- ITS FALSE NEIGHBOUR: 'it returns false'. Refute it at one input. -/
def fnStepsWrong : ChangeSpec := { name := "fnSteps", fn := fun _ => fun
  | [d] => { results := [.lit (.bool false)], args := [d] }
  | _ => none }
def FnStepsWrongFalsely : Prop := fnStepsRow.holds Tryz.pinned (OpenSpec.ofChange fnStepsWrong)

/- THE SECOND FORM. 'bulk': how many values and letters a reading holds, each counted each time it is reached (what is shared counts as often as it is met; a slice's spare places count too). A statement '..UptoSaid' is the law's where the arguments, and the package variables that the reading takes, are together of bulk at most 1048576: NARROWER than '..Said'. Prove '..Said' where nothing that the law and all that it calls make is longer than what came in: it says more and counts as full. Else prove '..UptoSaid'. A law counts once. -/
mutual
def uptoBulk {H : Type} : DataW H → Nat
  | .lit (.string bytes) => bytes.length + 1
  | .lit _ => 1
  | .nil => 1
  | .ptr d => uptoBulk d + 1
  | .slice elems spare => uptoBulkAll elems + uptoBulkAll spare + 1
  | .agg parts => uptoBulkAll parts + 1
  | .iface _ d => uptoBulk d + 1
  | .map entries => uptoBulkEntries entries + 1
  | .held _ => 1
def uptoBulkAll {H : Type} : List (DataW H) → Nat
  | [] => 0
  | d :: r => uptoBulk d + uptoBulkAll r
def uptoBulkEntries {H : Type} : List (Lit × DataW H) → Nat
  | [] => 0
  | x :: r => uptoBulkEntry x + uptoBulkEntries r
def uptoBulkEntry {H : Type} : Lit × DataW H → Nat
  | (.string bytes, d) => bytes.length + uptoBulk d + 1
  | (_, d) => uptoBulk d + 1
 end
def uptoSmall : (H : Type) → List (DataW H) → Bool := fun _ ds => decide (uptoBulkAll ds ≤ 1048576)
def OpenSpec.upto (s : _root_.Go.ChangeSpec) : _root_.Go.OpenSpec := { _root_.Go.OpenSpec.ofChange s with cond := some uptoSmall }

/-- 'laws.FnExactGenExp', WHERE WHAT IT READS IS OF BULK AT MOST 1048576: true; the input reads as it did. -/
def fnExactGenExpUptoRow : OpenClaim := { program := "ytfikgphnjndgdaagreat", sum := "dc260a09064bb58710074cff985a856e97a66d17d4193877f5d143230080dd1c", func := "loop.example/g00476/laws.FnExactGenExp", spec := "fnExactGenExp", unfollowed := true, recurses := true, loops := true, apart := false, narrowed := true }
def FnExactGenExpUptoSaid : Prop := fnExactGenExpUptoRow.holds Tryz.pinned (OpenSpec.upto fnExactGenExpSpec)

/-- 'laws.FnExactRun', WHERE WHAT IT READS IS OF BULK AT MOST 1048576: true; the input reads as it did. -/
def fnExactRunUptoRow : OpenClaim := { program := "ytfikgphnjndgdaagreat", sum := "dc260a09064bb58710074cff985a856e97a66d17d4193877f5d143230080dd1c", func := "loop.example/g00476/laws.FnExactRun", spec := "fnExactRun", unfollowed := true, recurses := true, loops := true, apart := false, narrowed := true }
def FnExactRunUptoSaid : Prop := fnExactRunUptoRow.holds Tryz.pinned (OpenSpec.upto fnExactRunSpec)

/-- 'laws.FnRuns', WHERE WHAT IT READS IS OF BULK AT MOST 1048576: true; the input reads as it did. -/
def fnRunsUptoRow : OpenClaim := { program := "ytfikgphnjndgdaagreat", sum := "dc260a09064bb58710074cff985a856e97a66d17d4193877f5d143230080dd1c", func := "loop.example/g00476/laws.FnRuns", spec := "fnRuns", unfollowed := true, recurses := true, apart := false, narrowed := true }
def FnRunsUptoSaid : Prop := fnRunsUptoRow.holds Tryz.pinned (OpenSpec.upto fnRunsSpec)

/-- 'laws.FnExactKinds', WHERE WHAT IT READS IS OF BULK AT MOST 1048576: true; the input reads as it did. -/
def fnExactKindsUptoRow : OpenClaim := { program := "ytfikgphnjndgdaagreat", sum := "dc260a09064bb58710074cff985a856e97a66d17d4193877f5d143230080dd1c", func := "loop.example/g00476/laws.FnExactKinds", spec := "fnExactKinds", unfollowed := true, recurses := true, loops := true, apart := false, narrowed := true }
def FnExactKindsUptoSaid : Prop := fnExactKindsUptoRow.holds Tryz.pinned (OpenSpec.upto fnExactKindsSpec)

/-- 'laws.FnPlans', WHERE WHAT IT READS IS OF BULK AT MOST 1048576: true; the input reads as it did. -/
def fnPlansUptoRow : OpenClaim := { program := "ytfikgphnjndgdaagreat", sum := "dc260a09064bb58710074cff985a856e97a66d17d4193877f5d143230080dd1c", func := "loop.example/g00476/laws.FnPlans", spec := "fnPlans", unfollowed := true, recurses := true, apart := false, narrowed := true }
def FnPlansUptoSaid : Prop := fnPlansUptoRow.holds Tryz.pinned (OpenSpec.upto fnPlansSpec)

/-- 'laws.FnDeps', WHERE WHAT IT READS IS OF BULK AT MOST 1048576: true; the input reads as it did. -/
def fnDepsUptoRow : OpenClaim := { program := "ytfikgphnjndgdaagreat", sum := "dc260a09064bb58710074cff985a856e97a66d17d4193877f5d143230080dd1c", func := "loop.example/g00476/laws.FnDeps", spec := "fnDeps", unfollowed := true, recurses := true, apart := false, narrowed := true }
def FnDepsUptoSaid : Prop := fnDepsUptoRow.holds Tryz.pinned (OpenSpec.upto fnDepsSpec)

/-- 'laws.FnDepsBent', WHERE WHAT IT READS IS OF BULK AT MOST 1048576: true; the input reads as it did. -/
def fnDepsBentUptoRow : OpenClaim := { program := "ytfikgphnjndgdaagreat", sum := "dc260a09064bb58710074cff985a856e97a66d17d4193877f5d143230080dd1c", func := "loop.example/g00476/laws.FnDepsBent", spec := "fnDepsBent", unfollowed := true, recurses := true, apart := false, narrowed := true }
def FnDepsBentUptoSaid : Prop := fnDepsBentUptoRow.holds Tryz.pinned (OpenSpec.upto fnDepsBentSpec)

/-- 'laws.FnExactStep', WHERE WHAT IT READS IS OF BULK AT MOST 1048576: true; the input reads as it did. -/
def fnExactStepUptoRow : OpenClaim := { program := "ytfikgphnjndgdaagreat", sum := "dc260a09064bb58710074cff985a856e97a66d17d4193877f5d143230080dd1c", func := "loop.example/g00476/laws.FnExactStep", spec := "fnExactStep", unfollowed := true, recurses := true, loops := true, apart := false, narrowed := true }
def FnExactStepUptoSaid : Prop := fnExactStepUptoRow.holds Tryz.pinned (OpenSpec.upto fnExactStepSpec)

/-- 'laws.FnSteps', WHERE WHAT IT READS IS OF BULK AT MOST 1048576: true; the input reads as it did. -/
def fnStepsUptoRow : OpenClaim := { program := "ytfikgphnjndgdaagreat", sum := "dc260a09064bb58710074cff985a856e97a66d17d4193877f5d143230080dd1c", func := "loop.example/g00476/laws.FnSteps", spec := "fnSteps", unfollowed := true, recurses := true, apart := false, narrowed := true }
def FnStepsUptoSaid : Prop := fnStepsUptoRow.holds Tryz.pinned (OpenSpec.upto fnStepsSpec)

end Rows
end Go.Proofs.YtfikgphnjndgdaaGreat
