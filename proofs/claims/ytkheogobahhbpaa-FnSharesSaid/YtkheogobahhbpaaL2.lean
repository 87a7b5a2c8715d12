/- An argument that is a slice. -/
import Derived.Test.YtkheogobahhbpaaL1
import Derived.WideShapes
namespace Go.T
open Go
set_option linter.unusedSimpArgs false
set_option linter.unusedVariables false
theorem okw_slice {P : Program} {w : World} {r : Reach} {base : Nat} {t e : TypeId} {v : Value} (ht : P.underlying t = some (.slice e)) (h : Value.okWide P w r base t v) : ∃ A n c, v = .slice A n c := by
  simp only [Value.okWide, ht, Cell.okWide] at h
  cases v <;> simp_all [Cell.ok]
theorem arg_slice {P : Program} {W : World} {S : Nat → Prop} {r : Reach} {base : Nat} {t e : TypeId} {v : Value} (ht : P.underlying t = some (.slice e)) (hv : Value.okWide P W r base t v) {x : AV} (h : Reps W S [x] v.cells.toList) : Rep W S x v := by
  obtain ⟨A, n, c, rfl⟩ := okw_slice ht hv
  have h2 : Reps W S [x] [Value.slice A n c] := h
  cases h2 with | cons h _ => exact h
theorem opens_u8 {H : Type} {enc : TypeId × Value → H} {P : Program} {W : World} {T : TypeId} (hu : P.underlying T = some (.int .u8)) (fuel : Nat) : Opens enc P W T (fun n : Int => [.int .u8 n]) (fun n => 0 ≤ n ∧ n ≤ 255) fuel := fun cs d h => by
  cases fuel with
  | zero => simp [DataW.trod] at h
  | succ m =>
    unfold DataW.trod at h
    rw [hu] at h
    split at h <;> simp_all
    obtain ⟨hq, hw⟩ := h.1
    rename_i he
    subst he
    simp only [Lit.wf, Bool.and_eq_true, decide_eq_true_eq] at hw
    have h1 : IntKind.u8.min = 0 := by decide
    have h2 : IntKind.u8.max = 255 := by decide
    exact ⟨_, ⟨by omega, by omega⟩, .cons (.int _ _) .nil⟩
end Go.T
