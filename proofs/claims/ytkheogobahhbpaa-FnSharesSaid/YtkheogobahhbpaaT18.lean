/- How operations are worked out, further still. -/
import Derived.Test.YtkheogobahhbpaaT17
namespace Go.T
open Go
set_option linter.unusedSimpArgs false
set_option linter.unusedVariables false
section
variable {P : Program} (p : Bool) (s : St) (K : St → Prop) (d : Option Tmp) (T : TypeId) (pos : String) (af : Array Edge) (g : Option (Nat × Bool))
def nilA : AV → Option AV
  | .ptr g o => some (.ptr g o)
  | .ref cs => some (.ref cs)
  | .elt g e i o => some (.elt g e i o)
  | .func (.func f) cs => some (.func (.func f) cs)
  | _ => none
@[simp] theorem nilA_ptr (g o : Nat) : nilA (.ptr g o) = some (.ptr g o) := (_root_.id rfl)
@[simp] theorem nilA_ref (cs : List AV) : nilA (.ref cs) = some (.ref cs) := (_root_.id rfl)
@[simp] theorem nilA_elt (g e i o : Nat) : nilA (.elt g e i o) = some (.elt g e i o) := (_root_.id rfl)
@[simp] theorem nilA_func (f : FuncId) (cs : List AV) : nilA (.func (.func f) cs) = some (.func (.func f) cs) := (_root_.id rfl)
theorem outR_nil (m : Mem) (ev : Operand → AV) (x : Operand) : outR P m ev (.nilCheck x) = nilA (ev x) := by
  simp only [outR]
  generalize ev x = v
  cases v with
  | func fn cs => cases fn <;> rfl
  | _ => rfl
@[simp] theorem sidx_agg (T : TypeId) (cs : List AV) (k : IntKind) (i : Int) : sidxA P T (.agg cs) (.int k i) = match P.underlying T with
    | some (.array n e) => if 0 ≤ i ∧ i < n then (match szT P e, aggT P e with | some z, some b => loadC z b (cs.drop (i.toNat * z)) | _, _ => none) else none
    | _ => none := (_root_.id rfl)
@[simp] theorem aop_nilCheck (x : Operand) : AOp P p ⟨d, .nilCheck x, T, pos, af, g⟩ s K = goO (nilA (s.eval x)) d s K := by
  exact aop_go (outR_nil ..) (fun _ h => h)
end
end Go.T
