/- FnExactGenExp: at every argument the program's GenExp answers as the reference. -/
import Derived.Test.YtfikgphnjndgdaaGreatRows
import Derived.Test.YtfikgphnjndgdaaGreatG13
import Derived.Test.YtfikgphnjndgdaaGreatG10
import Derived.Test.YtfikgphnjndgdaaGreatG4
import Derived.WalkKit
import Derived.ProofKit
import Derived.OpenShut
import Derived.ShutString
import Derived.ChangeOld
import Derived.Below
import Derived.SizedLaws
namespace Go.Proofs.YtfikgphnjndgdaaGreat.fnExactGenExp
open Go.ChangeShapes Go.WideShapes Go.ChangeAt Go.RowKit Go.T
open Go.ChangeMaps (open_string shut_string)
set_option linter.unusedVariables false
theorem own : ownKnob Tryz.prog.godebug = none := by kernel_rfl
theorem laidOut : laidOutB Tryz.prog = true := by kernel_rfl
set_option maxRecDepth 100000 in
theorem lifted (os : Os) (started : os.Started) (H : Type) (enc : TypeId × Value → H) :
    ReturnsInHanded {} Tryz.checked os 3 .any (Rows.fnExactGenExpSpec.pre6 enc Tryz.prog Tryz.f3 Rows.fnExactGenExpRow.domain false) (Rows.fnExactGenExpSpec.post enc Tryz.prog Tryz.f3 false true false false) := by
  refine returnsInHanded_of_change_sized (C := Tryz.checked) own started (by kernel_rfl) Tryz.func3
    (ChangeSpec.witness6 (enc := enc) (C := Tryz.checked) false ⟨#[], #[.agg #[.slice none 0 0, .slice none 0 0], .slice none 0 0, .agg #[.int .i64 0, .int .i64 0, .string ⟨#[]⟩, .slice none 0 0]], []⟩ 8 (by kernel_rfl) (by kernel_rfl) (by kernel_rfl) (by kernel_rfl)) ?_
  intro W base args ds gs before hval0 hW hcnd hsz0 _
  have hval : ∀ (j : Nat) t v, Tryz.f3.params[j]? = some t → args[j]? = some v → Value.okWide Tryz.prog W .any base t v := hval0
  have hW' := hW
  have hlt := hW.lt
  obtain ⟨p, q, hA0, hV, rfl, hfz, hnd⟩ := hW
  have hA : DataW.TrodAll enc Tryz.prog W 0 (fun _ => true) true Tryz.f3.params.toList args.toList ds p := hA0
  rw [Tryz.params3] at hA hval
  obtain ⟨v0, vs0, d0, ds0, p0, q0, hargs, rfl, rfl, h0, r0⟩ := trodAll_cons hA
  obtain ⟨v1, vs1, d1, ds1, p1, q1, rfl, rfl, rfl, h1, r1⟩ := trodAll_cons r0
  obtain ⟨v2, vs2, d2, ds2, p2, q2, rfl, rfl, rfl, h2, r2⟩ := trodAll_cons r1
  obtain ⟨rfl, rfl, rfl⟩ := trodAll_nil r2
  obtain rfl : args = #[v0, v1, v2] := by cases args; simp_all
  obtain ⟨rfl, rfl⟩ := trodVars_none hV
  have h0k := h0
  obtain ⟨fuel0, h0⟩ := h0
  obtain ⟨m0, fm0, rm0⟩ := o_Prog fuel0 _ _ h0
  have am0 := arg_agg rm0 (by simp)
  have h1k := h1
  obtain ⟨fuel1, h1⟩ := h1
  obtain ⟨m1, fm1, rm1⟩ := o_StringS fuel1 _ _ h1
  have am1 := arg_slice Tryz.underlying26 (hval 1 _ v1 rfl rfl) rm1
  have h2k := h2
  obtain ⟨fuel2, h2⟩ := h2
  obtain ⟨m2, fm2, rm2⟩ := o_Exp fuel2 _ _ h2
  have am2 := arg_agg rm2 (by simp)
  clear hA0 hval0 hsz0
  refine calls_mono (law_ends ((c_FnExactGenExp m0 fm0 m1 fm1 m2 fm2)) (.cons am0 (.cons am1 (.cons am2 .nil)))) fun e W' ⟨he, bel⟩ => ?_
  subst he
  exact ⟨_, rfl, _, _, _, [], _, [], hW', trodAll_mk1 (shut_bool Tryz.underlying4 _), (trodAll_cons_mk (Below.trod laidOut (by kernel_rfl) (of_decide_eq_true (by kernel_rfl)) h0k bel (fun x hx => hlt x (by simp [hx]))) (trodAll_cons_mk (Below.trod laidOut (by kernel_rfl) (of_decide_eq_true (by kernel_rfl)) h1k bel (fun x hx => hlt x (by simp [hx]))) (trodAll_cons_mk (Below.trod laidOut (by kernel_rfl) (of_decide_eq_true (by kernel_rfl)) h2k bel (fun x hx => hlt x (by simp [hx]))) trodAll_mk0))), rfl, bel.frame _, fun h => by cases h⟩
theorem and_of {a b : Bool} (ha : a = true) (hb : b = true) : (a && b) = true := by rw [ha, hb]; rfl
set_option maxHeartbeats 4000000 in
theorem closed : joinedFacts Tryz.pinned.checked.prog 3 Tryz.f3 Rows.fnExactGenExpSpec Rows.fnExactGenExpRow = true := by
  unfold joinedFacts
  repeat' with_reducible apply and_of
  all_goals as_aux_lemma => kernel_rfl
theorem over : Rows.fnExactGenExpRow.holds Tryz.pinned (OpenSpec.ofChange Rows.fnExactGenExpSpec) :=
  OpenClaim.holds_of_wide 3 Tryz.f3 rfl rfl rfl rfl rfl rfl rfl ⟨rfl, rfl, rfl, rfl, rfl⟩ rfl rfl rfl rfl rfl (by kernel_rfl) Tryz.func3 closed
    (of_decide_eq_true (by kernel_rfl)) (by unfold Func.isWrapper; first | (rw [if_pos (by decide +kernel)]; kernel_rfl) | (rw [if_neg (by decide +kernel)]; exact ⟨rfl, rfl⟩))
    (fun os started H enc _ => lifted os started H enc)
theorem proved : Rows.FnExactGenExpSaid := over
#print axioms proved
end Go.Proofs.YtfikgphnjndgdaaGreat.fnExactGenExp
namespace Go.Proofs.YtfikgphnjndgdaaGreat
/-- The row, under a short name, for the claim. -/
theorem fnExactGenExp_holds : Rows.FnExactGenExpSaid := fnExactGenExp.proved
end Go.Proofs.YtfikgphnjndgdaaGreat
