/- FnExactParse: at every argument the program's Parse answers as the reference; the card. -/
import Derived.Test.YtdbnllfjmkmdiaaGreatDoorRows
import Derived.Test.YtdbnllfjmkmdiaaGreatDoorCards
import Derived.Test.YtdbnllfjmkmdiaaGreatDoorTie
import Derived.Test.YtdbnllfjmkmdiaaGreatDoorG20
import Derived.WalkKit
import Derived.ProofKit
import Derived.OpenShut
import Derived.ShutString
import Derived.ChangeOld
import Derived.Below
import Derived.SizedLaws
import Derived.Handed
import Derived.LaidMore
import Derived.Stop.Joined
import Derived.Stop.LaidErr
import Derived.SevenTiedAt
set_option linter.unusedSimpArgs false
set_option linter.unusedVariables false
namespace Go.Proofs.YtdbnllfjmkmdiaaGreatDoor.fnExactParse
open Go.ChangeShapes Go.WideShapes Go.ChangeAt Go.RowKit Go.T
open Go.ChangeMaps (open_string shut_string)
theorem own : ownKnob Tryz.prog.godebug = none := by kernel_rfl
theorem laidOut : laidOutB Tryz.prog = true := by kernel_rfl
/-- The door's own heap meets the condition. -/
theorem door_met (os : Os) (args : Array Value) : laidMetH Tryz.prog Rows.fnExactParseRow.laid ((World.doorLaid Tryz.prog 4000 os).forCall (fun _ _ => 0) ⟨#[], args, []⟩).memory :=
 laidMetH_of_parts3 (fuel := 8) (laidMet_of_run' 8 (by kernel_rfl) (by kernel_rfl)) (by kernel_rfl) (by kernel_rfl)
theorem tab_datum : (Rows.laid_internal_strconv_uint64pow10 : DataW Unit) = Lib.tabData .u64 Lib.pow10Tab := by kernel_rfl
theorem tab_of {W : World} (h : laidMetH Tryz.prog Rows.fnExactParseRow.laid W) : ∃ T, BlkRep W (OldBut W TB) TB (tabBlk T) := by
 rw [MakeChecks.laidMetH_plain _ _ _ (by kernel_rfl)] at h
 have h2 := (laidMet.tail (laidMet.tail h))
 rw [tab_datum] at h2
 exact tab_blk tb_named (t := 189) (e := 180) (by kernel_rfl) Tryz.underlying189 Tryz.underlying180 (by kernel_rfl) (by kernel_rfl) h2 _
set_option maxRecDepth 100000 in
theorem lifted (os : Os) (started : os.Started) (H : Type) (enc : TypeId × Value → H) :
  ReturnsInHanded {} Tryz.checked os 4 .any (fun w args => (Rows.fnExactParseSpec.pre enc Tryz.prog Tryz.f4 [] false w args ∧ laidMetH Tryz.prog Rows.fnExactParseRow.laid w) ∧ sizedMet enc Tryz.prog Tryz.f4 (OpenSpec.ofChange Rows.fnExactParseSpec) false w args)
   (Rows.fnExactParseSpec.post enc Tryz.prog Tryz.f4 false true false false) := by
 refine returnsInHanded_of_change_and (C := Tryz.checked) (X := fun w _ => laidMetH Tryz.prog Rows.fnExactParseRow.laid w) (fun _ _ _ hh h => h.of_heap hh) own started (by kernel_rfl) Tryz.func4
  (ChangeSpec.witness_shaped (enc := enc) (C := Tryz.checked) (os := os) (X := fun w _ => laidMetH Tryz.prog Rows.fnExactParseRow.laid w) false (World.doorLaid Tryz.prog 4000 os) #[.string ⟨#[49]⟩] 8 rfl (World.shaped_of_RefB (by kernel_rfl) (by kernel_rfl)) (by kernel_rfl) (by kernel_rfl) (by kernel_rfl) (door_met os _)) ?_
 intro W base args ds gs before hval0 hW _ hsz0 hL _
 have hval : ∀ (j : Nat) t v, Tryz.f4.params[j]? = some t → args[j]? = some v → Value.okWide Tryz.prog W .any base t v := hval0
 have hW' := hW
 have hlt := hW.lt
 obtain ⟨p, q, hA0, hV, rfl, hfz, hnd⟩ := hW
 have hA : DataW.TrodAll enc Tryz.prog W 0 (fun _ => true) true Tryz.f4.params.toList args.toList ds p := hA0
 rw [Tryz.params4] at hA hval
 obtain ⟨v0, vs0, d0, ds0, p0, q0, hargs, rfl, rfl, h0, r0⟩ := trodAll_cons hA
 obtain ⟨rfl, rfl, rfl⟩ := trodAll_nil r0
 obtain rfl : args = #[v0] := by cases args; simp_all
 obtain ⟨rfl, rfl⟩ := trodVars_none hV
 obtain ⟨s, rfl, rfl, rfl, hsz⟩ := open_string (by kernel_rfl) (hval 0 _ _ rfl rfl) h0
 obtain ⟨T, hT⟩ := tab_of hL
 clear hA0 hval0 hsz0 h0
 refine calls_mono (law_ends_tab hT (c_FnExactParse s (by unfold maxLen at hsz; omega) T) (.cons (.str s) .nil)) fun e W' ⟨he, bel⟩ => ?_
 subst he
 exact ⟨_, rfl, _, _, _, [], _, [], hW', trodAll_mk1 (shut_bool Tryz.underlying4 _), (trodAll_cons_mk (shut_string (by kernel_rfl) hsz) trodAll_mk0), rfl, bel.frame _, fun h => by cases h⟩
theorem and_of {a b : Bool} (ha : a = true) (hb : b = true) : (a && b) = true := by rw [ha, hb]; rfl
set_option maxHeartbeats 4000000 in
theorem closed : joinedFacts Tryz.pinned.checked.prog 4 Tryz.f4 Rows.fnExactParseSpec Rows.fnExactParseRow = true := by
 unfold joinedFacts
 repeat' with_reducible apply and_of
 all_goals as_aux_lemma => kernel_rfl
theorem over : Rows.fnExactParseRow.holds Tryz.pinned (OpenSpec.ofChange Rows.fnExactParseSpec) :=
 OpenClaim.holds_of_wide 4 Tryz.f4 rfl rfl rfl rfl rfl rfl rfl ⟨rfl, rfl, rfl, rfl, rfl⟩ rfl rfl rfl rfl rfl (by kernel_rfl) Tryz.func4 closed
  (of_decide_eq_true (by kernel_rfl)) (by unfold Func.isWrapper; first | (rw [if_pos (by decide +kernel)]; kernel_rfl) | (rw [if_neg (by decide +kernel)]; exact ⟨rfl, rfl⟩))
  (fun os started H enc _ => lifted os started H enc)
theorem row : Rows.FnExactParseSaid := over
theorem proved : Rows.FnExactParseCardSaid :=
 Claim7.holds_tied_plain_at .later [] [.data, .data, .data] true (true, "4f8fc2a5815543951cf41b762ef81f80d139f81f10b3544cf0f8422d3720ee0a") false
  row (fun _ h => by cases h) (by kernel_rfl) (fun _ h => by cases h) fnExactParse_row_tie rfl ⟨rfl, rfl⟩ (by kernel_rfl) rfl
  (fun f fn hf hfn => by
   obtain rfl : f = 4 := Option.some.inj ((show Tryz.prog.funcNamed "loop.example/g00476/laws.FnExactParse" = some 4 by kernel_rfl).symm.trans hf) |>.symm
   obtain rfl : fn = Tryz.f4 := (Option.some.inj (Tryz.func4.symm.trans hfn)).symm
   exact ⟨by kernel_rfl, fun j t ht => by
    rw [Tryz.params4] at ht
    have hm : t ∈ [9] := by simpa using Array.mem_of_getElem? ht
    have hall : ([9].all fun u => !Tryz.prog.wantsStandIn u) = true := by kernel_rfl
    exact (show Tryz.prog.wantsStandIn t = false by simpa using List.all_eq_true.1 hall t hm)⟩)
  (by kernel_rfl)
#print axioms proved
end Go.Proofs.YtdbnllfjmkmdiaaGreatDoor.fnExactParse
namespace Go.Proofs.YtdbnllfjmkmdiaaGreatDoor
/-- The card, under a short name, for the claim. -/
theorem fnExactParse_holds : Rows.FnExactParseCardSaid := fnExactParse.proved
end Go.Proofs.YtdbnllfjmkmdiaaGreatDoor
