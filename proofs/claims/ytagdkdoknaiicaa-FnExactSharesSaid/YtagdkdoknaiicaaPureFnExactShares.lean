/- At every argument impl.Shares answers what spec.Shares answers, so the law FnExactShares returns true; no condition. -/
import Derived.Test.YtagdkdoknaiicaaPFnExactSharesx1
namespace Go.Proofs.Ytagdkdoknaiicaa.Pure
open Go.RowKit Go.Proofs.Ytagdkdoknaiicaa.PFnExactShares Go.Proofs.YtagdkdoknaiicaaW.PrintWords Go.Proofs.YtagdkdoknaiicaaW.PrintLast Go.Proofs.YtagdkdoknaiicaaW.PrintMore

theorem shares_j0 (k : Nat) (a b c : Int) (x : Bool) : impl_Shares.j0 k a b c x = spec_Shares.j0 k a b c x := by
  cases k with
  | zero => rfl
  | succ k =>
    simp only [impl_Shares.j0, spec_Shares.j0]
    rw [Int.mul_comm c]
    cases x with
    | true => rfl
    | false =>
      rw [if_neg (show ¬ (false = true) by decide), if_neg (show ¬ (false = true) by decide)]
      by_cases hb : b = 0
      · rw [if_pos hb, if_pos hb]
      · rw [if_neg hb, if_neg hb]
        by_cases h : c < Int.tmod a b
        · have e : mn c (Int.tmod a b) = c := by unfold mn; rw [if_neg (by omega)]
          rw [if_pos h, if_pos h, e]
        · have e : mn c (Int.tmod a b) = Int.tmod a b := by unfold mn; split <;> omega
          rw [if_neg h, if_neg h, e]

theorem shares_same (k : Nat) (a b c : Int) : impl_Shares.f k a b c = spec_Shares.f k a b c := by
  unfold impl_Shares.f spec_Shares.f impl_isHand.f impl_inRange.f spec_l1In.f
  simp only [shares_j0]
  by_cases h : a < 0
  · rw [if_pos h, if_pos h]
  · rw [if_neg h, if_neg h]
    by_cases h1 : b ≥ 1
    · rw [if_pos h1]
      simp only [Option.bind_some]
      by_cases h2 : b ≤ 4
      · rw [decide_eq_true h2, if_pos rfl, if_pos rfl]
        by_cases h3 : c ≥ 0
        · rw [if_pos h3]; rfl
        · rw [if_neg h3]; rfl
      · rw [decide_eq_false h2]; rfl
    · rw [if_neg h1]; rfl

theorem shares_j0_some (a b c : Int) (x : Bool) (h : x = false → 1 ≤ b) : ∃ r, spec_Shares.j0 1 a b c x = some r := by
  cases x with
  | true => exact ⟨_, rfl⟩
  | false =>
    simp only [spec_Shares.j0]
    rw [if_neg (show ¬ (false = true) by decide), if_neg (by have := h rfl; omega)]
    by_cases h1 : c < Int.tmod a b
    · rw [if_pos h1]
      exact ⟨_, rfl⟩
    · rw [if_neg h1]
      exact ⟨_, rfl⟩

theorem shares_some (a b c : Int) : ∃ r, spec_Shares.f 1 a b c = some r := by
  unfold spec_Shares.f spec_l1In.f
  by_cases h : a < 0
  · rw [if_pos h]
    exact shares_j0_some a b c true (fun h => by cases h)
  · rw [if_neg h]
    by_cases h1 : b ≥ 1
    · rw [if_pos h1]
      simp only [Option.bind_some]
      by_cases h2 : b ≤ 4
      · rw [decide_eq_true h2, if_pos rfl]
        by_cases h3 : c ≥ 0
        · rw [if_pos h3]
          exact shares_j0_some a b c _ (fun _ => h1)
        · rw [if_neg h3]
          exact shares_j0_some a b c true (fun h => by cases h)
      · rw [decide_eq_false h2]
        exact shares_j0_some a b c true (fun h => by cases h)
    · rw [if_neg h1]
      exact shares_j0_some a b c true (fun h => by cases h)

theorem FnExactShares : laws_FnExactShares.Pure := by
  intro a b c _ _ _
  obtain ⟨r, hr⟩ := shares_some a b c
  refine ⟨1, ?_⟩
  unfold laws_FnExactShares.f
  rw [shares_same, hr]
  simp

end Go.Proofs.Ytagdkdoknaiicaa.Pure
