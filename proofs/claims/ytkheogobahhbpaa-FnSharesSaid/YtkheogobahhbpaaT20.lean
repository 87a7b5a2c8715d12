/- Ways that meet again. -/
import Derived.Test.YtkheogobahhbpaaT19
namespace Go.T
open Go
set_option linter.unusedSimpArgs false
set_option linter.unusedVariables false
section
variable {P : Program} {N : Nat} {c d : Code} {Q : Exit → St → Prop} {s : St}
theorem AWp.cutA {X : St → Prop} (M : St → Prop) (h : AWp P N c (thenA M Q) s) (hm : ∀ s', M s' → X s') : AWp P N c (thenA X Q) s :=
  h.mono fun e s' hs => by
    cases e with
    | normal => exact hm s' hs
    | _ => exact hs
/-- A slot's value seen as another one. -/
theorem Sees.view {s : St} {t : Tmp} {m' : Mem} {r' : AV} (h : View s.mem (s.slots t) m' r') : Sees s ⟨fun k => if k = t then r' else s.slots k, m'⟩ := fun w S f h1 h2 => by
  obtain ⟨S', k1, k2, k3, k4, k5⟩ := h w S (f t) h1 (h2 t)
  refine ⟨S', k1, k2, k3, fun k => ?_, k5⟩
  by_cases hk : k = t
  · subst hk
    simpa using k4
  · simp only [if_neg hk]
    exact (h2 k).mono (fun _ _ => rfl) k1
/-- A call of what is told for a value, with one that is seen as it. -/
theorem PCall.viewed {n : FuncId} {l l' : List AV} {a a' : AV} {r : AV} {m m' : Mem} (h : PCall P n (l ++ a' :: l') r) (hv : View m a m' a') {K : AV → Mem → Prop} (hK : K r m') : WCall P n (l ++ a :: l') m K := by
  refine ⟨h.1, fun w S cargs hm hr => ?_⟩
  obtain ⟨us, ws, rfl, h1, h2⟩ := hr.split
  cases h2 with | @cons _ v _ ws hv2 h3 =>
  obtain ⟨S', k1, k2, k3, k4, k5⟩ := hv w S v hm hv2
  have hst : Stays S w w := fun _ _ => rfl
  have := h.2 w S' (us ++ v :: ws) _ k3 ((h1.mono hst k1).append (.cons k4 (h3.mono hst k1)))
  refine calls_mono this ?_
  rintro e' w' ⟨v', S2, he, a1, a2, a3, a4, a5⟩
  refine ⟨v', r, m', S2, he, hK, fun b hb => a1 b (k1 b hb), fun b hb => ?_, a3, a4, a5.mono (fun _ h => h.elim), fun g' b hb => .inl (k5 g' b hb)⟩
  rcases a2 b hb with h | h
  · rcases k2 b h with h | h
    · exact .inl h
    · exact .inr (.inl h)
  · exact .inr (.inr h)
end
end Go.T
