/- At every argument impl.Last answers what spec.Last answers, so the law FnExactLast returns true; no condition. -/
import Derived.Test.YtagdkdoknaiicaaPFnExactLastx1
namespace Go.Proofs.Ytagdkdoknaiicaa.Pure
open Go.RowKit Go.Proofs.Ytagdkdoknaiicaa.PFnExactLast Go.Proofs.YtagdkdoknaiicaaW.PrintWords Go.Proofs.YtagdkdoknaiicaaW.PrintLast Go.Proofs.YtagdkdoknaiicaaW.PrintMore

theorem last_less (a b : Int) : (if a < b then some (wrap64 (a - 1)) else some (wrap64 (b - 1))) = some (wrap64 ((mn a b) - 1)) := by
  unfold mn
  by_cases h : a < b
  · rw [if_pos h, if_neg (by omega)]
  · rw [if_neg h]
    by_cases h1 : b < a
    · rw [if_pos h1]
    · rw [if_neg h1]
      have e : a = b := by omega
      rw [e]

theorem last_j0 (k : Nat) (a b c : Int) (x : Bool) : impl_Last.j0 k a b c x = spec_Last.j0 k a b c x := by
  cases k with
  | zero => rfl
  | succ k =>
    simp only [impl_Last.j0, spec_Last.j0]
    rw [last_less]
    rfl

theorem last_same (k : Nat) (a b c : Int) : impl_Last.f k a b c = spec_Last.f k a b c := by
  unfold impl_Last.f spec_Last.f
  simp only [last_j0]
  rfl

theorem last_handOf (a b : Int) (h : 1 ≤ b) : ∃ r, spec_HandOf.f a b = some r := by
  unfold spec_HandOf.f spec_l1In.f
  by_cases h0 : a < 0
  · exact ⟨0, by rw [if_pos h0]⟩
  · rw [if_neg h0, if_pos h]
    simp only [Option.bind_some]
    by_cases h2 : b ≤ 4
    · rw [decide_eq_true h2, if_pos rfl, if_neg (by omega)]
      exact ⟨_, rfl⟩
    · rw [decide_eq_false h2]
      exact ⟨0, rfl⟩

theorem last_j0_some (a b c : Int) (x : Bool) (h : x = false → 1 ≤ b) : ∃ r, spec_Last.j0 1 a b c x = some r := by
  cases x with
  | true => exact ⟨0, rfl⟩
  | false =>
    simp only [spec_Last.j0]
    rw [if_neg (show ¬ (false = true) by decide)]
    by_cases h1 : c = 1
    · rw [if_pos h1, last_less]
      exact ⟨_, rfl⟩
    · rw [if_neg h1]
      by_cases h2 : c = 2
      · rw [if_pos h2]
        obtain ⟨r, hr⟩ := last_handOf (wrap64 (a - 1)) b (h rfl)
        rw [hr]
        exact ⟨r, rfl⟩
      · rw [if_neg h2]
        exact ⟨0, rfl⟩

theorem last_some (a b c : Int) : ∃ r, spec_Last.f 1 a b c = some r := by
  unfold spec_Last.f spec_l1In.f
  by_cases h : a < 1
  · rw [if_pos h]
    exact last_j0_some a b c true (fun h => by cases h)
  · rw [if_neg h]
    by_cases h1 : b ≥ 1
    · rw [if_pos h1]
      exact last_j0_some a b c _ (fun _ => h1)
    · rw [if_neg h1]
      exact last_j0_some a b c true (fun h => by cases h)

theorem FnExactLast : laws_FnExactLast.Pure := by
  intro a b c _ _ _
  obtain ⟨r, hr⟩ := last_some a b c
  refine ⟨1, ?_⟩
  unfold laws_FnExactLast.f
  rw [last_same, hr]
  simp

end Go.Proofs.Ytagdkdoknaiicaa.Pure
