/- An argument that is a slice. -/
import Derived.Test.YtjpgifmkikmbgaaL1
import Derived.WideShapes
namespace Go.T
open Go
set_option linter.unusedSimpArgs false
set_option linter.unusedVariables false
theorem okw_slice {P : Program} {w : World} {r : Reach} {base : Nat} {t e : TypeId} {v : Value} (ht : P.underlying t = some (.slice e)) (h : Value.okWide P w r base t v) : ∃ A n c, v = .slice A n c := by
  simp only [Value.okWide, ht, Cell.okWide] at h
  cases v <;> simp_all [Cell.ok]
theorem arg_slice {P : Program} {W : World} {S : Nat → Prop} {r : Reach} {base : Nat} {t e : TypeId} {v : Value} (ht : P.underlying t = some (.slice e)) (hv : Value.okWide P W r base t v) {x : AV} (h : Reps W S [x] v.cells.toList) : Rep W S x v := by
  obtain ⟨A, n, c, rfl⟩ := okw_slice ht hv
  have h2 : Reps W S [x] [Value.slice A n c] := h
  cases h2 with | cons h _ => exact h
end Go.T
