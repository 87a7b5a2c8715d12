/- At every argument impl.HandOf answers what spec.HandOf answers, so the law FnExactHandOf returns true; no condition. -/
import Derived.Test.YtagdkdoknaiicaaPFnExactHandOfx1
namespace Go.Proofs.Ytagdkdoknaiicaa.Pure
open Go.RowKit Go.Proofs.Ytagdkdoknaiicaa.PFnExactHandOf Go.Proofs.YtagdkdoknaiicaaW.PrintWords Go.Proofs.YtagdkdoknaiicaaW.PrintLast

theorem handOf_same (a b : Int) : impl_HandOf.f a b = spec_HandOf.f a b := rfl

theorem handOf_some (a b : Int) : ∃ r, spec_HandOf.f a b = some r := by
  unfold spec_HandOf.f spec_l1In.f
  by_cases h : a < 0
  · exact ⟨0, by rw [if_pos h]⟩
  · rw [if_neg h]
    by_cases h1 : b ≥ 1
    · rw [if_pos h1]
      simp only [Option.bind_some]
      by_cases h2 : b ≤ 4
      · rw [decide_eq_true h2, if_pos rfl, if_neg (by omega)]
        exact ⟨_, rfl⟩
      · rw [decide_eq_false h2]
        exact ⟨0, rfl⟩
    · rw [if_neg h1]
      exact ⟨0, rfl⟩

theorem FnExactHandOf : laws_FnExactHandOf.Pure := by
  intro a b _ _
  obtain ⟨r, hr⟩ := handOf_some a b
  unfold laws_FnExactHandOf.f
  rw [handOf_same, hr]
  simp

end Go.Proofs.Ytagdkdoknaiicaa.Pure
