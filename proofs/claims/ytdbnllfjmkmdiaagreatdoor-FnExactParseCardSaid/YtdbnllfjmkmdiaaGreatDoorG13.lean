/- The program's parser: sums. The reference's reader: what it looks at and takes. The reference's reader: pairs, atoms. -/
import Derived.Test.YtdbnllfjmkmdiaaGreatDoorG12
set_option linter.unusedSimpArgs false
set_option linter.unusedVariables false
namespace Go.T
open Go Go.Proofs
set_option maxRecDepth 10000
set_option maxHeartbeats 1000000
open Go
theorem plus_minus {T : List Tk} {a : Nat} {bad : Bool} (h : isT (hdT T a bad) (ch 43) = true) : isT (hdT T a bad) (ch 45) = false := by
 unfold isT at h ⊢
 simp at h
 rw [h.2]
 have : ¬ ch 43 = ch 45 := by decide
 simp [this]
theorem c_sum0 (k : Nat) (hk30 : k ≤ 30) (hM : ∀ j, k = j + 1 → ExpC Tryz.prog 97 j (mulP (sumP j))) : ExpC Tryz.prog 41 k (sumP k) := by
 intro gr T a d bad m hP hT hd K hK
 have hgr := hP.at
 have eE : ByteArray.empty = (⟨#[]⟩ : ByteArray) := rfl
 refine wcall_of Tryz.func41 (by kernel_rfl) rfl (by simp [Tryz.f41]) ?_
 (repeat refine sqA ?_); refine rgA (by kernel_rfl) ?_
 simp
 intro g2 hg2
 have h := (PH.start hP).box hgr hg2 [.int .i64 0, .int .i64 0, .str ByteArray.empty, .lst true 0 []]
 refine AWp.gen (fun st => st.slots 0 = .ptr gr 0 ∧ st.slots 2 = .ptr g2 0 ∧ st.mem = m.set g2 (.box [.int .i64 0, .int .i64 0, .str ByteArray.empty, .lst true 0 []])) ⟨by simp, by simp, by simp⟩ ?_
 generalize m.set g2 (.box [.int .i64 0, .int .i64 0, .str ByteArray.empty, .lst true 0 []]) = m1 at *
 rintro st ⟨s0, s2, sm⟩
 have hbx := h.ps.box
 unfold pc at hbx
 obtain ⟨d', hd'⟩ : ∃ d' : Int, d' = IntKind.wrap .i64 (d + 1) := ⟨_, rfl⟩
 (repeat refine sqA ?_); refine rgA (by kernel_rfl) ?_
 simp [s0, sm, hbx, ← hd']
 have h := h.call hgr (Off.box _ _) (h.ps.step a d' bad h.ps.le)
 refine AWp.gen (fun st => st.slots 0 = .ptr gr 0 ∧ st.slots 2 = .ptr g2 0 ∧ st.mem = m1.set gr (.box (pc T a d' bad))) ⟨by simp [s0], by simp [s2], by simp [pc]⟩ ?_
 generalize m1.set gr (.box (pc T a d' bad)) = m2 at *
 clear s0 s2 sm hbx
 rintro st ⟨s0, s2, sm⟩
 have hbx := h.ps.box
 unfold pc at hbx
 have hdk : bad = false → d' = d + 1 ∧ d = 30 - (k : Int) := fun e => by
  have := hd e
  exact ⟨by rw [hd']; exact wrap64 (by omega) (by omega), this⟩
 by_cases hbd : bad = true ∨ 30 < d'
 ·have hrun : Run1 (sumP k) T a bad (Ex.mk 0 0 ⟨#[]⟩ []) a true := by
   cases bad with
   | true => exact Run1.bad _ _ _ _ _
   | false =>
    have h30 := hbd.resolve_left (by simp)
    have := hdk rfl
    have hk0 : k = 0 := by omega
    subst hk0
    exact ⟨fun _ _ _ he => (by cases he), fun _ => rfl⟩
  have h := h.call hgr (Off.box _ _) (h.ps.step a d' true h.ps.le)
  (repeat refine sqA ?_); refine AWp.cutA (fun st => st.slots 0 = .ptr gr 0 ∧ st.slots 2 = .ptr g2 0 ∧ st.mem = m2.set gr (.box (pc T a d' true))) ?_ ?_
  ·refine rgA (by kernel_rfl) ?_
   cases bad with
   | true => simp [s0, s2, sm, hbx, pc]
   | false =>
    have h30 := hbd.resolve_left (by simp)
    simp [s0, s2, sm, hbx, h30, pc]
  generalize m2.set gr (.box (pc T a d' true)) = m3 at *
  clear s0 s2 sm hbx
  rintro st ⟨s0, s2, sm⟩
  have hbx := h.ps.box
  unfold pc at hbx
  have w2 := h.box1 (g := g2) (cs := [.int .i64 0, .int .i64 0, .str ByteArray.empty, .lst true 0 []]) (by simp)
  (repeat refine sqA ?_); refine rgA (by kernel_rfl) ?_
  simp [s0, sm, hbx]
  (repeat refine sqA ?_); refine AWp.condT (by simp) ?_
  have h := h.leaf 0 0 ⟨#[]⟩
  (repeat refine sqA ?_); refine rgA (by kernel_rfl) ?_
  simp [s2, sm, w2]
  have q := PH.put (l1 := []) (cs' := [.int .i64 0, .int .i64 0, .str ⟨#[]⟩, .lst true 0 []]) h
  refine AWp.ret ⟨[.agg [.int .i64 0, .int .i64 0, .str ⟨#[]⟩, .lst true 0 []]], .agg [.int .i64 0, .int .i64 0, .str ⟨#[]⟩, .lst true 0 []], _, by simp [Tryz.f41, resA, s2, eE], by (try simp [eE]); exact View.refl _ _, hK _ _ _ _ _ _ _ q.ps q.off (q.tr _ (List.mem_cons_self ..)).1 (hrun) (fun e => by cases e)⟩
 have hbf : bad = false := by
  cases bad with
  | false => rfl
  | true => exact absurd (.inl rfl) hbd
 subst hbf
 have h30 : ¬ 30 < d' := fun h => hbd (.inr h)
 obtain ⟨hdd, hdk⟩ := hdk rfl
 obtain ⟨j, rfl⟩ : ∃ j, k = j + 1 := ⟨k - 1, by omega⟩
 have hM := hM j rfl
 have hf := sum_fit j
 have hdj : d' = 30 - (j : Int) := by omega
 have h := h.call hgr (Off.box _ _) (h.ps.step a d' false h.ps.le)
 (repeat refine sqA ?_); refine rgA (by kernel_rfl) ?_
 simp [s0, sm, hbx, h30]
 refine AWp.gen (fun st => st.slots 0 = .ptr gr 0 ∧ st.slots 2 = .ptr g2 0 ∧ st.mem = m2.set gr (.box (pc T a d' false))) ⟨by simp [s0], by simp [s2], by simp [pc]⟩ ?_
 generalize m2.set gr (.box (pc T a d' false)) = m3 at *
 clear s0 s2 sm hbx
 rintro st ⟨s0, s2, sm⟩
 have hbx := h.ps.box
 unfold pc at hbx
 (repeat refine sqA ?_); refine rgA (by kernel_rfl) ?_
 simp [s0, sm, hbx]
 (repeat refine sqA ?_); refine AWp.condF (by simp) ?_
 refine AWp.skip ?_
 try simp
 (repeat refine sqA ?_); refine rgA (by kernel_rfl) ?_
 simp [s0]
 refine aop_wcall _ _ _ _ _ _ _ _ rfl (eval_func _ _) ?_
 simp [sm]
 refine hM gr T a _ _ _ h.ps hT (fun _ => hdj) _ fun m4 F1 r1 e1 a1 d1 b1 hPn hOn hTn run1 hdd1 => ?_
 obtain ⟨c10, c11, c12, c13, rfl, o10, o11, o12, o13⟩ := hTn.cs
 have h := h.tree hgr hOn hPn hTn
 clear hPn hOn hTn
 simp [o10, o11, o12, o13]
 intro g3 hg3
 have h := h.box hgr hg3 [c10, c11, c12, c13]
 refine AWp.gen (fun st => st.slots 0 = .ptr gr 0 ∧ st.slots 2 = .ptr g2 0 ∧ st.slots 3 = .ptr g3 0 ∧ st.mem = m4.set g3 (.box [c10, c11, c12, c13])) ⟨by simp [s0], by simp [s2], by simp, by simp⟩ ?_
 generalize m4.set g3 (.box [c10, c11, c12, c13]) = m5 at *
 clear s0 s2 sm hg3 hbx
 rintro st ⟨s0, s2, s3, sm⟩
 obtain ⟨M, hMM⟩ : ∃ M : St → Prop, M = (fun st => ∃ cs F e a1 d1 b1, st.slots 0 = .ptr gr 0 ∧ st.slots 2 = .ptr g2 0 ∧ st.slots 3 = .ptr g3 0 ∧ PH m gr T a1 d1 b1 [(g3, cs), (g2, [.int .i64 0, .int .i64 0, .str ByteArray.empty, .lst true 0 []])] [(F, .agg cs, e)] st.mem ∧ (b1 = false → d1 = d') ∧ Run1 (sumP (j + 1)) T a false e a1 b1) := ⟨_, rfl⟩
 (repeat refine sqA ?_); refine AWp.cutA M ?_ ?_
 ·refine AWp.block (AWp.rounds (fun q st => ∃ cs F e a1 d1 b1, q = (if b1 = true then 0 else T.length - a1 + 1) ∧ st.slots 0 = .ptr gr 0 ∧ st.slots 2 = .ptr g2 0 ∧ st.slots 3 = .ptr g3 0 ∧ PH m gr T a1 d1 b1 [(g3, cs), (g2, [.int .i64 0, .int .i64 0, .str ByteArray.empty, .lst true 0 []])] [(F, .agg cs, e)] st.mem ∧ (b1 = false → d1 = d') ∧ ∀ y a2 b2, Run1 (addsL (sumP j) e) T a1 b1 y a2 b2 → Run1 (sumP (j + 1)) T a false y a2 b2) (if b1 = true then 0 else T.length - a1 + 1) ⟨[c10, c11, c12, c13], F1, e1, a1, d1, b1, rfl, s0, s2, s3, by rw [sm]; exact h, hdd1, fun y a2 b2 hr => sum_run run1 hr⟩ ?_)
  clear s0 s2 s3 sm h hdd1 run1
  rintro RR q st0 hRR ⟨cs, F, e, a1, d1, b1, rfl, s0, s2, s3, h, hd1, hinv⟩
  (repeat refine sqA ?_); refine rgA (by kernel_rfl) ?_
  simp [s0]
  refine aop_wcall _ _ _ _ _ _ _ _ rfl (eval_func _ _) ?_
  try simp
  refine c_is h.ps (ch 43) ?_
  try simp
  cases hpl : isT (hdT T a1 b1) (ch 43) with
  | true =>
   obtain ⟨rfl, hlt, hmk⟩ := is_mark_at hT hpl
   have hmi := plus_minus hpl
   have hd1 := hd1 rfl
   try simp
   (repeat refine sqA ?_); refine AWp.condT (by simp) ?_
   refine AWp.skip ?_
   try simp
   (repeat refine sqA ?_); refine AWp.block ?_
   (repeat refine sqA ?_); refine rgA (by kernel_rfl) ?_
   simp
   (repeat refine sqA ?_); refine rgA (by kernel_rfl) ?_
   simp [s0]
   refine aop_wcall _ _ _ _ _ _ _ _ rfl (eval_func _ _) ?_
   try simp
   refine c_is h.ps (ch 45) ?_
   simp [hmi]
   (repeat refine sqA ?_); refine AWp.condF (by simp) ?_
   refine AWp.skip ?_
   try simp
   refine AWp.gen (fun st => st.slots 0 = .ptr gr 0 ∧ st.slots 2 = .ptr g2 0 ∧ st.slots 3 = .ptr g3 0 ∧ st.slots 4 = .int .i64 4 ∧ st.mem = st0.mem) ⟨by simp [s0], by simp [s2], by simp [s3], by simp, by simp⟩ ?_
   clear s0 s2 s3
   rintro st ⟨s0, s2, s3, s4, sm⟩
   generalize st0.mem = n0 at *
   have hbx := h.ps.box
   have hle := h.ps.le
   have hsm := h.ps.small
   unfold pc at hbx
   have hw : IntKind.wrap .i64 ((a1 : Int) + 1) = (a1 : Int) + 1 := wrap64 (by omega) (by omega)
   (repeat refine sqA ?_); refine rgA (by kernel_rfl) ?_
   simp [s0, sm, hbx, hw]
   have h := h.call hgr (Off.box _ _) (h.ps.step (a1 + 1) d1 false (by omega))
   refine AWp.gen (fun st => st.slots 0 = .ptr gr 0 ∧ st.slots 2 = .ptr g2 0 ∧ st.slots 3 = .ptr g3 0 ∧ st.slots 4 = .int .i64 4 ∧ st.mem = n0.set gr (.box (pc T (a1 + 1) d1 false))) ⟨by simp [s0], by simp [s2], by simp [s3], by simp [s4], by simp [pc]⟩ ?_
   generalize n0.set gr (.box (pc T (a1 + 1) d1 false)) = n1 at *
   clear s0 s2 s3 s4 sm hbx
   rintro st ⟨s0, s2, s3, s4, sm⟩
   (repeat refine sqA ?_); refine rgA (by kernel_rfl) ?_
   simp [s0]
   refine aop_wcall _ _ _ _ _ _ _ _ rfl (eval_func _ _) ?_
   simp [sm]
   refine hM gr T (a1 + 1) _ _ _ h.ps hT (fun _ => by rw [hd1]; exact hdj) _ fun n2 F2 r2 e2 a2 d2 b2 hPn hOn hTn run2 hdd2 => ?_
   obtain ⟨c20, c21, c22, c23, rfl, o20, o21, o22, o23⟩ := hTn.cs
   have h := h.tree hgr hOn hPn hTn
   clear hPn hOn hTn
   simp [o20, o21, o22, o23]
   intro g5 hg5
   have h := h.box hgr hg5 [c20, c21, c22, c23]
   refine AWp.gen (fun st => st.slots 0 = .ptr gr 0 ∧ st.slots 2 = .ptr g2 0 ∧ st.slots 3 = .ptr g3 0 ∧ st.slots 4 = .int .i64 4 ∧ st.slots 5 = .ptr g5 0 ∧ st.mem = n2.set g5 (.box [c20, c21, c22, c23])) ⟨by simp [s0], by simp [s2], by simp [s3], by simp [s4], by simp, by simp⟩ ?_
   generalize n2.set g5 (.box [c20, c21, c22, c23]) = n3 at *
   clear s0 s2 s3 s4 sm hg5
   rintro st ⟨s0, s2, s3, s4, s5, sm⟩
   obtain ⟨y0, y1, y2, y3, hcs, q0, q1, q2, q3⟩ := (h.tr (F, .agg cs, e) (by simp)).1.cs
   cases hcs
   have w5 := h.box1 (g := g5) (cs := [c20, c21, c22, c23]) (by simp)
   have w3 := h.box1 (g := g3) (cs := [y0, y1, y2, y3]) (by simp)
   (repeat refine sqA ?_); refine AWp.regionN noP (fun i => i == 3) [0, 1, 2, 3, 4, 5] (by kernel_rfl) ?_
   simp [s3, s4, s5, sm, w3, w5, literalA]
   intro gL hgL
   obtain ⟨F', h⟩ := h.lit2 hgr hgL 26 4
   have w3 := h.box1 (g := g3) (cs := [y0, y1, y2, y3]) (by simp)
   simp [w3]
   have h := (PH.put (l1 := [(g5, [c20, c21, c22, c23])]) (cs' := [.int .i64 4, .int .i64 0, .str ⟨#[]⟩, .own gL 2 2]) h).less (bs' := [(g3, [.int .i64 4, .int .i64 0, .str ⟨#[]⟩, .own gL 2 2]), (g2, [.int .i64 0, .int .i64 0, .str ByteArray.empty, .lst true 0 []])]) (List.sublist_cons_self _ _) (List.Sublist.refl _)
   refine hRR _ (if b2 = true then 0 else T.length - a2 + 1) ?_ ⟨[.int .i64 4, .int .i64 0, .str ⟨#[]⟩, .own gL 2 2], F', two 4 e e2, a2, d2, b2, rfl, by simp [s0], by simp [s2], by simp [s3], by simpa [eE] using h, fun e => (hdd2 e).trans hd1, fun y a3 b3 hr => hinv y a3 b3 (adds_step hf hlt (.inl ⟨hmk, rfl⟩) run2 hr)⟩
   cases b2 with
   | true => simp
   | false =>
    have := run2.lt (mul_fit hf) h.ps.le
    simp
    omega
  | false =>
   have hnp := not_mark hT hpl
   try simp
   simp [s0]
   refine aop_wcall _ _ _ _ _ _ _ _ rfl (eval_func _ _) ?_
   try simp
   refine c_is h.ps (ch 45) ?_
   try simp
   cases hmi : isT (hdT T a1 b1) (ch 45) with
   | false =>
    have hnm := not_mark hT hmi
    try simp
    (repeat refine sqA ?_); refine AWp.condF (by simp) ?_
    refine AWp.exit ?_
    subst hMM
    refine ⟨cs, F, e, a1, d1, b1, by simp [s0], by simp [s2], by simp [s3], by simpa using h, hd1, hinv _ _ _ (adds_exit hf e ?_)⟩
    rcases hnp with e1 | e1
    ·exact .inl e1
    ·rcases hnm with e2 | e2
     ·exact .inl e2
     ·exact .inr ⟨e1, e2⟩
   | true =>
    obtain ⟨rfl, hlt, hmk⟩ := is_mark_at hT hmi
    have hm4 := (hnp.resolve_left (by simp)) hlt
    have hd1 := hd1 rfl
    try simp
    (repeat refine sqA ?_); refine AWp.condT (by simp) ?_
    refine AWp.skip ?_
    try simp
    (repeat refine sqA ?_); refine AWp.block ?_
    (repeat refine sqA ?_); refine rgA (by kernel_rfl) ?_
    simp
    (repeat refine sqA ?_); refine rgA (by kernel_rfl) ?_
    simp [s0]
    refine aop_wcall _ _ _ _ _ _ _ _ rfl (eval_func _ _) ?_
    try simp
    refine c_is h.ps (ch 45) ?_
    simp [hmi]
    (repeat refine sqA ?_); refine AWp.condT (by simp) ?_
    (repeat refine sqA ?_); refine rgA (by kernel_rfl) ?_
    simp
    refine AWp.gen (fun st => st.slots 0 = .ptr gr 0 ∧ st.slots 2 = .ptr g2 0 ∧ st.slots 3 = .ptr g3 0 ∧ st.slots 4 = .int .i64 5 ∧ st.mem = st0.mem) ⟨by simp [s0], by simp [s2], by simp [s3], by simp, by simp⟩ ?_
    clear s0 s2 s3
    rintro st ⟨s0, s2, s3, s4, sm⟩
    generalize st0.mem = n0 at *
    have hbx := h.ps.box
    have hle := h.ps.le
    have hsm := h.ps.small
    unfold pc at hbx
    have hw : IntKind.wrap .i64 ((a1 : Int) + 1) = (a1 : Int) + 1 := wrap64 (by omega) (by omega)
    (repeat refine sqA ?_); refine rgA (by kernel_rfl) ?_
    simp [s0, sm, hbx, hw]
    have h := h.call hgr (Off.box _ _) (h.ps.step (a1 + 1) d1 false (by omega))
    refine AWp.gen (fun st => st.slots 0 = .ptr gr 0 ∧ st.slots 2 = .ptr g2 0 ∧ st.slots 3 = .ptr g3 0 ∧ st.slots 4 = .int .i64 5 ∧ st.mem = n0.set gr (.box (pc T (a1 + 1) d1 false))) ⟨by simp [s0], by simp [s2], by simp [s3], by simp [s4], by simp [pc]⟩ ?_
    generalize n0.set gr (.box (pc T (a1 + 1) d1 false)) = n1 at *
    clear s0 s2 s3 s4 sm hbx
    rintro st ⟨s0, s2, s3, s4, sm⟩
    (repeat refine sqA ?_); refine rgA (by kernel_rfl) ?_
    simp [s0]
    refine aop_wcall _ _ _ _ _ _ _ _ rfl (eval_func _ _) ?_
    simp [sm]
    refine hM gr T (a1 + 1) _ _ _ h.ps hT (fun _ => by rw [hd1]; exact hdj) _ fun n2 F2 r2 e2 a2 d2 b2 hPn hOn hTn run2 hdd2 => ?_
    obtain ⟨c20, c21, c22, c23, rfl, o20, o21, o22, o23⟩ := hTn.cs
    have h := h.tree hgr hOn hPn hTn
    clear hPn hOn hTn
    simp [o20, o21, o22, o23]
    intro g5 hg5
    have h := h.box hgr hg5 [c20, c21, c22, c23]
    refine AWp.gen (fun st => st.slots 0 = .ptr gr 0 ∧ st.slots 2 = .ptr g2 0 ∧ st.slots 3 = .ptr g3 0 ∧ st.slots 4 = .int .i64 5 ∧ st.slots 5 = .ptr g5 0 ∧ st.mem = n2.set g5 (.box [c20, c21, c22, c23])) ⟨by simp [s0], by simp [s2], by simp [s3], by simp [s4], by simp, by simp⟩ ?_
    generalize n2.set g5 (.box [c20, c21, c22, c23]) = n3 at *
    clear s0 s2 s3 s4 sm hg5
    rintro st ⟨s0, s2, s3, s4, s5, sm⟩
    obtain ⟨y0, y1, y2, y3, hcs, q0, q1, q2, q3⟩ := (h.tr (F, .agg cs, e) (by simp)).1.cs
    cases hcs
    have w5 := h.box1 (g := g5) (cs := [c20, c21, c22, c23]) (by simp)
    have w3 := h.box1 (g := g3) (cs := [y0, y1, y2, y3]) (by simp)
    (repeat refine sqA ?_); refine AWp.regionN noP (fun i => i == 3) [0, 1, 2, 3, 4, 5] (by kernel_rfl) ?_
    simp [s3, s4, s5, sm, w3, w5, literalA]
    intro gL hgL
    obtain ⟨F', h⟩ := h.lit2 hgr hgL 26 5
    have w3 := h.box1 (g := g3) (cs := [y0, y1, y2, y3]) (by simp)
    simp [w3]
    have h := (PH.put (l1 := [(g5, [c20, c21, c22, c23])]) (cs' := [.int .i64 5, .int .i64 0, .str ⟨#[]⟩, .own gL 2 2]) h).less (bs' := [(g3, [.int .i64 5, .int .i64 0, .str ⟨#[]⟩, .own gL 2 2]), (g2, [.int .i64 0, .int .i64 0, .str ByteArray.empty, .lst true 0 []])]) (List.sublist_cons_self _ _) (List.Sublist.refl _)
    refine hRR _ (if b2 = true then 0 else T.length - a2 + 1) ?_ ⟨[.int .i64 5, .int .i64 0, .str ⟨#[]⟩, .own gL 2 2], F', two 5 e e2, a2, d2, b2, rfl, by simp [s0], by simp [s2], by simp [s3], by simpa [eE] using h, fun e => (hdd2 e).trans hd1, fun y a3 b3 hr => hinv y a3 b3 (adds_step hf hlt (.inr ⟨hm4, hmk, rfl⟩) run2 hr)⟩
    cases b2 with
    | true => simp
    | false =>
     have := run2.lt (mul_fit hf) h.ps.le
     simp
     omega
 intro st hst
 subst hMM
 obtain ⟨cs, F, e, a1, d1, b1, s0, s2, s3, h, hd1, hr⟩ := hst
 have hbx := h.ps.box
 unfold pc at hbx
 obtain ⟨d2, hd2⟩ : ∃ d2 : Int, d2 = IntKind.wrap .i64 (d1 - 1) := ⟨_, rfl⟩
 (repeat refine sqA ?_); refine rgA (by kernel_rfl) ?_
 simp [s0, hbx, ← hd2]
 have h := h.call hgr (Off.box _ _) (h.ps.step a1 d2 b1 h.ps.le)
 refine AWp.gen (fun st1 => st1.slots 2 = .ptr g2 0 ∧ st1.slots 3 = .ptr g3 0 ∧ st1.mem = st.mem.set gr (.box (pc T a1 d2 b1))) ⟨by simp [s2], by simp [s3], by simp [pc]⟩ ?_
 generalize st.mem.set gr (.box (pc T a1 d2 b1)) = m9 at *
 clear s0 s2 s3 hbx
 rintro st ⟨s2, s3, sm⟩
 obtain ⟨y0, y1, y2, y3, hcs, q0, q1, q2, q3⟩ := (h.tr (F, .agg cs, e) (by simp)).1.cs
 cases hcs
 have w3 := h.box1 (g := g3) (cs := [y0, y1, y2, y3]) (by simp)
 have w2 := h.box1 (g := g2) (cs := [.int .i64 0, .int .i64 0, .str ByteArray.empty, .lst true 0 []]) (by simp)
 have h := h.less (bs' := [(g2, [.int .i64 0, .int .i64 0, .str ByteArray.empty, .lst true 0 []])]) (List.sublist_cons_self _ _) (List.Sublist.refl _)
 (repeat refine sqA ?_); refine rgA (by kernel_rfl) ?_
 simp [s2, s3, sm, w2, w3, q0, q1, q2, q3]
 have q := PH.put (l1 := []) (cs' := [y0, y1, y2, y3]) h
 refine AWp.ret ⟨[.agg [y0, y1, y2, y3]], .agg [y0, y1, y2, y3], _, by simp [Tryz.f41, resA, s2, eE], by (try simp [eE]); exact View.refl _ _, hK _ _ _ _ _ _ _ q.ps q.off (q.tr _ (List.mem_cons_self ..)).1 (hr) (fun e => by rw [hd2, hd1 e, hdd, wrap64 (by omega) (by omega)]; omega)⟩
theorem c_sum : ∀ k : Nat, k ≤ 30 → ExpC Tryz.prog 41 k (sumP k)
 | 0, h => c_sum0 0 h fun j e => by cases e
 | k + 1, h => c_sum0 (k + 1) h fun j e => by
  cases e
  exact c_product k (c_atom k (c_sum k (by omega)))
end Go.T
namespace Go.T
open Go Go.Proofs
set_option maxRecDepth 10000
set_option maxHeartbeats 1000000
open Go
theorem c_l5Kind {gr : Nat} {T : List Tk} {a : Nat} {d : Int} {bad : Bool} {m : Mem} (h : PS gr T a d bad m) (k : Int) (hk : k ≠ 0) {K : AV → Mem → Prop} (hK : K (.bool (decide ((hdT T a bad).k = k))) m) : WCall Tryz.prog 122 [.ptr gr 0, .int .i64 k] m K := by
 have hb := h.box
 have hle := h.le
 have hsm := h.small
 unfold pc at hb
 refine wcall_of Tryz.func122 (by kernel_rfl) rfl (by simp [Tryz.f122]) ?_
 (repeat refine sqA ?_); refine rgA (by kernel_rfl) ?_
 try simp

 cases bad with
 | true =>
  have e : (decide ((hdT T a true).k = k)) = false := by rw [hdT_bad]; simp; exact Ne.symm hk
  rw [e] at hK
  (repeat refine sqA ?_); refine AWp.regionG (fun _ => false) (fun _ => false) [0, 1, 2, 3, 4, 5, 6, 7, 8, 9, 10, 11, 12, 13, 14, 15, 16, 17, 18, 19, 20, 21, 22, 23, 24, 25, 26, 27, 28, 29, 30, 31, 32] [0, 1, 2, 3, 4, 5, 6, 7, 8, 9, 10, 11, 12, 13, 14, 15, 16, 17, 18, 19, 20, 21, 22, 23, 24, 25, 26, 27, 28, 29, 30, 31, 32] (by kernel_rfl) ?_
  simp [hb]
  refine AWp.ret (post_retW rfl ⟨_, _, View.refl _ _, ?_⟩)
  simpa using hK
 | false =>
  by_cases hlt : a < T.length
  ·have hx : ∀ m : Mem, idxA Tryz.prog m 40 (.lst false 3 (T.map Tk.av)) (.int .i64 a) = some (.ref T[a].cells) := fun m => idx (y := T[a].av) es_40 (by simp [List.getElem?_eq_getElem hlt])
   rw [hdT_at hlt] at hK
   (repeat refine sqA ?_); refine AWp.regionG (fun _ => false) (fun _ => false) [0, 1, 2, 3, 4, 5, 6, 7, 8, 9, 10, 11, 12, 13, 14, 15, 16, 17, 18, 19, 20, 21, 22, 23, 24, 25, 26, 27, 28, 29, 30, 31, 32] [0, 1, 2, 3, 4, 5, 6, 7, 8, 9, 10, 11, 12, 13, 14, 15, 16, 17, 18, 19, 20, 21, 22, 23, 24, 25, 26, 27, 28, 29, 30, 31, 32] (by kernel_rfl) ?_
   have hl : (a : Int) < T.length := by omega
   simp [hb, hx, hl, Tk.cells_eq]
   refine AWp.ret (post_retW rfl ⟨_, _, View.refl _ _, ?_⟩)
   simpa using hK
  ·have e : (decide ((hdT T a false).k = k)) = false := by rw [hdT_end (by omega)]; simp; exact Ne.symm hk
   rw [e] at hK
   (repeat refine sqA ?_); refine AWp.regionG (fun _ => false) (fun _ => false) [0, 1, 2, 3, 4, 5, 6, 7, 8, 9, 10, 11, 12, 13, 14, 15, 16, 17, 18, 19, 20, 21, 22, 23, 24, 25, 26, 27, 28, 29, 30, 31, 32] [0, 1, 2, 3, 4, 5, 6, 7, 8, 9, 10, 11, 12, 13, 14, 15, 16, 17, 18, 19, 20, 21, 22, 23, 24, 25, 26, 27, 28, 29, 30, 31, 32] (by kernel_rfl) ?_
   have hl : ¬ (a : Int) < T.length := by omega
   simp [hb, hl]
   refine AWp.ret (post_retW rfl ⟨_, _, View.refl _ _, ?_⟩)
   simpa using hK
theorem c_l5Must {gr : Nat} {T : List Tk} {a : Nat} {d : Int} {bad : Bool} {m : Mem} (h : PS gr T a d bad m) (b : Bool) {K : AV → Mem → Prop}
  (hK : ∀ m', PS gr T a d (bad || !b) m' → Off gr m m' → K (.tup []) m') : WCall Tryz.prog 65 [.ptr gr 0, .bool b] m K := by
 have hb := h.box
 unfold pc at hb
 refine wcall_of Tryz.func65 (by kernel_rfl) rfl (by simp [Tryz.f65]) ?_
 (repeat refine sqA ?_); refine rgA (by kernel_rfl) ?_
 try simp
 cases b with
 | true =>
  simp at hK
  (repeat refine sqA ?_); refine AWp.condF (by simp) ?_
  refine AWp.skip ?_
  exact ⟨[], .tup [], m, by simp [Tryz.f65, resA], by simp; exact View.refl _ _, hK m h (Off.refl _ _)⟩
 | false =>
  simp at hK
  (repeat refine sqA ?_); refine AWp.condT (by simp) ?_
  (repeat refine sqA ?_); refine rgA (by kernel_rfl) ?_
  simp [hb]
  refine ⟨[], .tup [], m.set gr (.box (pc T a d true)), by simp [Tryz.f65, resA], by simp [pc]; exact View.refl _ _, hK _ (h.step a d true h.le) (Off.box _ _)⟩
theorem is_lt {T : List Tk} {a : Nat} {bad : Bool} {k : Int} (hk : k ≠ 0) (h : (hdT T a bad).k = k) : bad = false ∧ ∃ hlt : a < T.length, hdT T a bad = T[a] := by
 cases bad with
 | true => rw [hdT_bad] at h; exact absurd h.symm hk
 | false =>
  refine ⟨rfl, ?_⟩
  by_cases hlt : a < T.length
  ·exact ⟨hlt, hdT_at hlt⟩
  ·rw [hdT_end (by omega)] at h; exact absurd h.symm hk
theorem c_l5Is {gr : Nat} {T : List Tk} {a : Nat} {d : Int} {bad : Bool} {m : Mem} (h : PS gr T a d bad m) (k : Int) (hk : k ≠ 0) (s : ByteArray) {K : AV → Mem → Prop}
  (hK : ∀ m', PS gr T (if (hdT T a bad).is k s = true then a + 1 else a) d bad m' → Off gr m m' → K (.bool ((hdT T a bad).is k s)) m') : WCall Tryz.prog 121 [.ptr gr 0, .int .i64 k, .str s] m K := by
 have hb := h.box
 have hle := h.le
 have hsm := h.small
 unfold pc at hb
 refine wcall_of Tryz.func121 (by kernel_rfl) rfl (by simp [Tryz.f121]) ?_
 (repeat refine sqA ?_); refine rgA (by kernel_rfl) ?_
 try simp
 (repeat refine sqA ?_); refine AWp.regionG (fun _ => false) (fun _ => false) [0, 1, 2, 3, 4, 5, 6, 7, 8, 9, 10, 11, 12, 13, 14, 15, 16, 17, 18] [0, 1, 2, 3, 4, 5, 6, 7, 8, 9, 10, 11, 12, 13, 14, 15, 16, 17, 18] (by kernel_rfl) ?_
 simp
 refine aop_wcall _ _ _ _ _ _ _ _ rfl (eval_func _ _) ?_
 try simp
 refine c_l5Kind h k hk ?_
 by_cases hkk : (hdT T a bad).k = k
 ·obtain ⟨rfl, hlt, e⟩ := is_lt hk hkk
  have hx : ∀ m : Mem, idxA Tryz.prog m 40 (.lst false 3 (T.map Tk.av)) (.int .i64 a) = some (.ref T[a].cells) := fun m => idx (y := T[a].av) es_40 (by simp [List.getElem?_eq_getElem hlt])
  have hw : IntKind.wrap .i64 ((a : Int) + 1) = (a : Int) + 1 := wrap64 (by omega) (by omega)
  rw [e] at hK hkk
  simp [hkk, e, hb, hx, Tk.cells_eq]
  by_cases hs : T[a].s = s
  ·have hi : T[a].is k s = true := by simp [Tk.is, hkk, hs]
   rw [hi] at hK
   simp at hK
   (repeat refine sqA ?_); refine AWp.condF (by simp [*]) ?_
   refine AWp.skip ?_
   try simp
   (repeat refine sqA ?_); refine rgA (by kernel_rfl) ?_
   simp [hb, hw]
   (repeat refine sqA ?_); refine rgA (by kernel_rfl) ?_
   try simp
   refine AWp.ret (post_retW rfl ⟨_, _, View.refl _ _, ?_⟩)
   have := hK _ (h.step (a + 1) d false (by omega)) (Off.box _ _)
   simpa [pc] using this
  ·have hi : T[a].is k s = false := by simp [Tk.is, hs]
   rw [hi] at hK
   simp at hK
   (repeat refine sqA ?_); refine AWp.condT (by simp [*]) ?_
   (repeat refine sqA ?_); refine rgA (by kernel_rfl) ?_
   try simp
   refine AWp.ret (post_retW rfl ⟨_, _, View.refl _ _, ?_⟩)
   simpa using hK m h (Off.refl _ _)
 ·have hi : (hdT T a bad).is k s = false := by simp [Tk.is, hkk]
  rw [hi] at hK
  simp at hK
  simp [hkk]
  (repeat refine sqA ?_); refine AWp.condT (by simp [*]) ?_
  (repeat refine sqA ?_); refine rgA (by kernel_rfl) ?_
  try simp
  refine AWp.ret (post_retW rfl ⟨_, _, View.refl _ _, ?_⟩)
  simpa using hK m h (Off.refl _ _)
theorem c_l5Kept {gr : Nat} {T : List Tk} {a : Nat} {d : Int} {bad : Bool} {m : Mem} (h : PS gr T a d bad m) (s : ByteArray) {K : AV → Mem → Prop}
  (hK : ∀ m', PS gr T (if (hdT T a bad).is 3 s = true then a + 1 else a) d bad m' → Off gr m m' → K (.bool ((hdT T a bad).is 3 s)) m') : WCall Tryz.prog 61 [.ptr gr 0, .str s] m K := by
 refine wcall_of Tryz.func61 (by kernel_rfl) rfl (by simp [Tryz.f61]) ?_
 (repeat refine sqA ?_); refine rgA (by kernel_rfl) ?_
 try simp
 (repeat refine sqA ?_); refine rgA (by kernel_rfl) ?_
 simp
 refine aop_wcall _ _ _ _ _ _ _ _ rfl (eval_func _ _) ?_
 try simp
 refine c_l5Is h 3 (by omega) s fun m' h' hO => ?_
 try simp
 refine AWp.ret (post_retW rfl ⟨_, _, View.refl _ _, ?_⟩)
 exact hK m' h' hO
theorem c_l5Mark {gr : Nat} {T : List Tk} {a : Nat} {d : Int} {bad : Bool} {m : Mem} (h : PS gr T a d bad m) (s : ByteArray) {K : AV → Mem → Prop}
  (hK : ∀ m', PS gr T (if (hdT T a bad).is 4 s = true then a + 1 else a) d bad m' → Off gr m m' → K (.bool ((hdT T a bad).is 4 s)) m') : WCall Tryz.prog 66 [.ptr gr 0, .str s] m K := by
 refine wcall_of Tryz.func66 (by kernel_rfl) rfl (by simp [Tryz.f66]) ?_
 (repeat refine sqA ?_); refine rgA (by kernel_rfl) ?_
 try simp
 (repeat refine sqA ?_); refine rgA (by kernel_rfl) ?_
 simp
 refine aop_wcall _ _ _ _ _ _ _ _ rfl (eval_func _ _) ?_
 try simp
 refine c_l5Is h 4 (by omega) s fun m' h' hO => ?_
 try simp
 refine AWp.ret (post_retW rfl ⟨_, _, View.refl _ _, ?_⟩)
 exact hK m' h' hO
theorem c_l5Num {gr : Nat} {T : List Tk} {a : Nat} {d : Int} {bad : Bool} {m : Mem} (h : PS gr T a d bad m) {K : AV → Mem → Prop}
  (hK : ∀ m', PS gr T (if (hdT T a bad).k = 2 then a + 1 else a) d (!decide ((hdT T a bad).k = 2)) m' → Off gr m m' → K (.int .i64 (if (hdT T a bad).k = 2 then (hdT T a bad).n else (0 : Int))) m') : WCall Tryz.prog 63 [.ptr gr 0] m K := by
 have hb := h.box
 have hle := h.le
 have hsm := h.small
 have eE : ByteArray.empty = (⟨#[]⟩ : ByteArray) := rfl
 unfold pc at hb
 refine wcall_of Tryz.func63 (by kernel_rfl) rfl (by simp [Tryz.f63]) ?_
 (repeat refine sqA ?_); refine rgA (by kernel_rfl) ?_
 try simp
 (repeat refine sqA ?_); refine rgA (by kernel_rfl) ?_
 simp
 refine aop_wcall _ _ _ _ _ _ _ _ rfl (eval_func _ _) ?_
 try simp
 refine c_l5Kind h 2 (by omega) ?_
 by_cases hkk : (hdT T a bad).k = 2
 ·obtain ⟨rfl, hlt, e⟩ := is_lt (by omega) hkk
  have hx : ∀ m : Mem, idxA Tryz.prog m 40 (.lst false 3 (T.map Tk.av)) (.int .i64 a) = some (.ref T[a].cells) := fun m => idx (y := T[a].av) es_40 (by simp [List.getElem?_eq_getElem hlt])
  have hw : IntKind.wrap .i64 ((a : Int) + 1) = (a : Int) + 1 := wrap64 (by omega) (by omega)
  have hw2 : IntKind.wrap .i64 (a : Int) = (a : Int) := wrap64 (by omega) (by omega)
  rw [e] at hK hkk
  simp [hkk] at hK
  simp [hkk, e]
  (repeat refine sqA ?_); refine AWp.condF (by simp [*]) ?_
  refine AWp.skip ?_
  try simp
  (repeat refine sqA ?_); refine rgA (by kernel_rfl) ?_
  simp [hb, hw]
  (repeat refine sqA ?_); refine AWp.regionG (fun _ => false) (fun _ => false) [0, 1, 2, 3, 4, 5, 6, 7, 8, 9, 10, 11, 12] [0, 1, 2, 3, 4, 5, 6, 7, 8, 9, 10, 11, 12] (by kernel_rfl) ?_
  simp [hw, hw2, hx, Tk.cells_eq]
  refine AWp.ret (post_retW rfl ⟨_, _, View.refl _ _, ?_⟩)
  have := hK _ (h.step (a + 1) d false (by omega)) (Off.box _ _)
  simpa [pc] using this
 ·simp [hkk] at hK
  simp [hkk]
  (repeat refine sqA ?_); refine AWp.condT (by simp [*]) ?_
  (repeat refine sqA ?_); refine rgA (by kernel_rfl) ?_
  simp [hb]
  (repeat refine sqA ?_); refine rgA (by kernel_rfl) ?_
  try simp
  refine AWp.ret (post_retW rfl ⟨_, _, View.refl _ _, ?_⟩)
  have := hK _ (h.step a d true (by omega)) (Off.box _ _)
  simpa [pc, eE] using this
theorem c_l5Name {gr : Nat} {T : List Tk} {a : Nat} {d : Int} {bad : Bool} {m : Mem} (h : PS gr T a d bad m) {K : AV → Mem → Prop}
  (hK : ∀ m', PS gr T (if (hdT T a bad).k = 1 then a + 1 else a) d (!decide ((hdT T a bad).k = 1)) m' → Off gr m m' → K (.str (if (hdT T a bad).k = 1 then (hdT T a bad).s else (⟨#[]⟩ : ByteArray))) m') : WCall Tryz.prog 62 [.ptr gr 0] m K := by
 have hb := h.box
 have hle := h.le
 have hsm := h.small
 have eE : ByteArray.empty = (⟨#[]⟩ : ByteArray) := rfl
 unfold pc at hb
 refine wcall_of Tryz.func62 (by kernel_rfl) rfl (by simp [Tryz.f62]) ?_
 (repeat refine sqA ?_); refine rgA (by kernel_rfl) ?_
 try simp
 (repeat refine sqA ?_); refine rgA (by kernel_rfl) ?_
 simp
 refine aop_wcall _ _ _ _ _ _ _ _ rfl (eval_func _ _) ?_
 try simp
 refine c_l5Kind h 1 (by omega) ?_
 by_cases hkk : (hdT T a bad).k = 1
 ·obtain ⟨rfl, hlt, e⟩ := is_lt (by omega) hkk
  have hx : ∀ m : Mem, idxA Tryz.prog m 40 (.lst false 3 (T.map Tk.av)) (.int .i64 a) = some (.ref T[a].cells) := fun m => idx (y := T[a].av) es_40 (by simp [List.getElem?_eq_getElem hlt])
  have hw : IntKind.wrap .i64 ((a : Int) + 1) = (a : Int) + 1 := wrap64 (by omega) (by omega)
  have hw2 : IntKind.wrap .i64 (a : Int) = (a : Int) := wrap64 (by omega) (by omega)
  rw [e] at hK hkk
  simp [hkk] at hK
  simp [hkk, e]
  (repeat refine sqA ?_); refine AWp.condF (by simp [*]) ?_
  refine AWp.skip ?_
  try simp
  (repeat refine sqA ?_); refine rgA (by kernel_rfl) ?_
  simp [hb, hw]
  (repeat refine sqA ?_); refine AWp.regionG (fun _ => false) (fun _ => false) [0, 1, 2, 3, 4, 5, 6, 7, 8, 9, 10, 11, 12] [0, 1, 2, 3, 4, 5, 6, 7, 8, 9, 10, 11, 12] (by kernel_rfl) ?_
  simp [hw, hw2, hx, Tk.cells_eq]
  refine AWp.ret (post_retW rfl ⟨_, _, View.refl _ _, ?_⟩)
  have := hK _ (h.step (a + 1) d false (by omega)) (Off.box _ _)
  simpa [pc] using this
 ·simp [hkk] at hK
  simp [hkk]
  (repeat refine sqA ?_); refine AWp.condT (by simp [*]) ?_
  (repeat refine sqA ?_); refine rgA (by kernel_rfl) ?_
  simp [hb]
  (repeat refine sqA ?_); refine rgA (by kernel_rfl) ?_
  try simp
  refine AWp.ret (post_retW rfl ⟨_, _, View.refl _ _, ?_⟩)
  have := hK _ (h.step a d true (by omega)) (Off.box _ _)
  simpa [pc, eE] using this
theorem c_l3Num (n : Int) : PCall Tryz.prog 86 [.int .i64 n] (Ex.mk 1 n ⟨#[]⟩ []).av := by
 have eE : ByteArray.empty = (⟨#[]⟩ : ByteArray) := rfl
 have tk : ∀ e : Ex, List.take 4 e.av.cells = e.cells := fun e => List.take_of_length_le (by show e.cells.length ≤ 4; simp)
 have ln : ∀ e : Ex, e.av.cells.length = 4 := fun e => Ex.cells_len e
 refine PCall.le (r := .agg [.int .i64 1, .int .i64 n, .str ⟨#[]⟩, .lst true 0 []]) (args' := [.int .i64 n]) ?_ (Les.refl _) (by
  show Le _ (AV.agg (Ex.mk 1 n ⟨#[]⟩ []).cells)
  try unfold two
  rw [Ex.cells_mk]
  exact Le.agg (.cons (Le.refl _) (.cons (Le.refl _) (.cons (Le.refl _) (.cons (by first | exact Le.nil _ _ _ | exact Le.lst _ _ _) .nil)))))
 refine pcall_of Tryz.func86 (by kernel_rfl) rfl (by simp [Tryz.f86]) ?_
 (repeat refine sqA ?_); refine rgA (by kernel_rfl) ?_
 simp
 intro g2
 (repeat refine sqA ?_); refine rgA (by kernel_rfl) ?_
 simp [set_at, tk, ln, literalA]
 exact AWp.ret (post_cell (.inl rfl) rfl (by simp [eE, Ex.av]))
theorem c_l3Var (s : ByteArray) : PCall Tryz.prog 129 [.str s] (Ex.mk 2 0 s []).av := by
 have eE : ByteArray.empty = (⟨#[]⟩ : ByteArray) := rfl
 have tk : ∀ e : Ex, List.take 4 e.av.cells = e.cells := fun e => List.take_of_length_le (by show e.cells.length ≤ 4; simp)
 have ln : ∀ e : Ex, e.av.cells.length = 4 := fun e => Ex.cells_len e
 refine PCall.le (r := .agg [.int .i64 2, .int .i64 0, .str s, .lst true 0 []]) (args' := [.str s]) ?_ (Les.refl _) (by
  show Le _ (AV.agg (Ex.mk 2 0 s []).cells)
  try unfold two
  rw [Ex.cells_mk]
  exact Le.agg (.cons (Le.refl _) (.cons (Le.refl _) (.cons (Le.refl _) (.cons (by first | exact Le.nil _ _ _ | exact Le.lst _ _ _) .nil)))))
 refine pcall_of Tryz.func129 (by kernel_rfl) rfl (by simp [Tryz.f129]) ?_
 (repeat refine sqA ?_); refine rgA (by kernel_rfl) ?_
 simp
 intro g2
 (repeat refine sqA ?_); refine rgA (by kernel_rfl) ?_
 simp [set_at, tk, ln, literalA]
 exact AWp.ret (post_cell (.inl rfl) rfl (by simp [eE, Ex.av]))
theorem c_l3At (s : ByteArray) (e : Ex) : PCall Tryz.prog 130 [.str s, e.av] (Ex.mk 3 0 s [e]).av := by
 have eE : ByteArray.empty = (⟨#[]⟩ : ByteArray) := rfl
 have tk : ∀ e : Ex, List.take 4 e.av.cells = e.cells := fun e => List.take_of_length_le (by show e.cells.length ≤ 4; simp)
 have ln : ∀ e : Ex, e.av.cells.length = 4 := fun e => Ex.cells_len e
 refine PCall.le (r := .agg [.int .i64 3, .int .i64 0, .str s, .lst true 4 [e.av]]) (args' := [.str s, e.av]) ?_ (Les.refl _) (by
  show Le _ (AV.agg (Ex.mk 3 0 s [e]).cells)
  try unfold two
  rw [Ex.cells_mk]
  exact Le.agg (.cons (Le.refl _) (.cons (Le.refl _) (.cons (Le.refl _) (.cons (by first | exact Le.nil _ _ _ | exact Le.lst _ _ _) .nil)))))
 refine pcall_of Tryz.func130 (by kernel_rfl) rfl (by simp [Tryz.f130]) ?_
 (repeat refine sqA ?_); refine rgA (by kernel_rfl) ?_
 simp
 intro g3 g4 hg4
 have hg3g4 : g3 ≠ g4 := by rintro rfl; simp [Mem.set] at hg4 <;> (split at hg4 <;> cases hg4)
 (repeat refine sqA ?_); refine rgA (by kernel_rfl) ?_
 simp [set_at, tk, ln, literalA, hg3g4]
 exact AWp.ret (post_cell (.inl rfl) rfl (by simp [eE, Ex.av]))
theorem c_l3Two (k : Int) (x y : Ex) : PCall Tryz.prog 85 [.int .i64 k, x.av, y.av] (two k x y).av := by
 have eE : ByteArray.empty = (⟨#[]⟩ : ByteArray) := rfl
 have tk : ∀ e : Ex, List.take 4 e.av.cells = e.cells := fun e => List.take_of_length_le (by show e.cells.length ≤ 4; simp)
 have ln : ∀ e : Ex, e.av.cells.length = 4 := fun e => Ex.cells_len e
 refine PCall.le (r := .agg [.int .i64 k, .int .i64 0, .str ⟨#[]⟩, .lst true 4 [x.av, y.av]]) (args' := [.int .i64 k, x.av, y.av]) ?_ (Les.refl _) (by
  show Le _ (AV.agg (two k x y).cells)
  try unfold two
  rw [Ex.cells_mk]
  exact Le.agg (.cons (Le.refl _) (.cons (Le.refl _) (.cons (Le.refl _) (.cons (by first | exact Le.nil _ _ _ | exact Le.lst _ _ _) .nil)))))
 refine pcall_of Tryz.func85 (by kernel_rfl) rfl (by simp [Tryz.f85]) ?_
 (repeat refine sqA ?_); refine rgA (by kernel_rfl) ?_
 simp
 intro g4 g5 hg5 g6 hg6
 have hg4g5 : g4 ≠ g5 := by rintro rfl; simp [Mem.set] at hg5 <;> (split at hg5 <;> cases hg5)
 have hg4g6 : g4 ≠ g6 := by rintro rfl; simp [Mem.set] at hg6 <;> (split at hg6 <;> cases hg6)
 have hg5g6 : g5 ≠ g6 := by rintro rfl; simp [Mem.set] at hg6 <;> (split at hg6 <;> cases hg6)
 (repeat refine sqA ?_); refine rgA (by kernel_rfl) ?_
 simp [set_at, tk, ln, literalA, hg4g5, hg4g6, hg5g6]
 exact AWp.ret (post_cell (.inl rfl) rfl (by simp [eE, Ex.av]))
end Go.T
namespace Go.T
open Go Go.Proofs
set_option maxRecDepth 10000
set_option maxHeartbeats 1000000
open Go
theorem Run1.was {α : Type} {g : List Tk → Option (α × List Tk)} {T : List Tk} {a a' : Nat} {b b' : Bool} {x : α} (h : Run1 g T a b x a' b') : b' = false → b = false := by
 intro e
 cases b with
 | false => rfl
 | true => rw [h.ill (.inl rfl)] at e; cases e
theorem zero_le : Le (.agg [.int .i64 0, .int .i64 0, .str ⟨#[]⟩, .lst true 0 []]) (Ex.mk 0 0 ⟨#[]⟩ []).av := by
 show Le _ (AV.agg (Ex.mk 0 0 ⟨#[]⟩ []).cells)
 rw [Ex.cells_mk]
 exact Le.agg (.cons (Le.refl _) (.cons (Le.refl _) (.cons (Le.refl _) (.cons (Le.nil _ _ _) .nil))))
theorem okE (e : Ex) : ∀ x ∈ e.cells, okCell x = true := fun x hx => List.all_eq_true.1 (Ex.cells_ok e) x hx
theorem mark_run {T : List Tk} {a : Nat} (ha : a ≤ T.length) {bad : Bool} (c : UInt8) : Run1 (tkR (ch c)) T a bad () (if (hdT T a bad).is 4 (ch c) = true then a + 1 else a) (bad || !(hdT T a bad).is 4 (ch c)) := by
 cases bad with
 | true => simp; exact Run1.bad _ _ _ _ _
 | false =>
  by_cases hlt : a < T.length
  ·rw [hdT_at hlt]
   have hd : T.drop a = T[a] :: T.drop (a + 1) := List.drop_eq_getElem_cons hlt
   cases hi : T[a].is 4 (ch c) with
   | true =>
    refine ⟨fun x0 r _ he => ?_, fun h => ?_⟩
    ·rw [hd] at he
     simp only [tkR, tkS, hi, if_true, Option.map_some, Option.some.injEq, Prod.mk.injEq] at he
     exact ⟨rfl, rfl, he.2⟩
    ·have h := h.resolve_left (by simp)
     rw [hd] at h
     simp [tkR, tkS, hi] at h
   | false =>
    refine ⟨fun x0 r _ he => ?_, fun _ => rfl⟩
    rw [hd] at he
    simp [tkR, tkS, hi] at he
  ·rw [hdT_end (by omega)]
   have hd : T.drop a = [] := List.drop_eq_nil_of_le (by omega)
   refine ⟨fun x0 r _ he => ?_, fun _ => by simp [Tk.is]⟩
   rw [hd] at he
   simp [tkR, tkS] at he
/-- What the call of the reference's reader comes to. -/
def ExpS (P : Program) (n : FuncId) (k : Nat) (f : PE) : Prop :=
 ∀ (gr : Nat) (T : List Tk) (a : Nat) (d : Int) (bad : Bool) (m : Mem), PS gr T a d bad m → (∀ t ∈ T, t.fine) → (bad = false → d = 30 - (k : Int)) → ∀ K : AV → Mem → Prop,
  (∀ m' e a' d' bad', PS gr T a' d' bad' m' → Off gr m m' → Run1 f T a bad e a' bad' → (bad' = false → d' = d) → K e.av m') → WCall P n [.ptr gr 0] m K
theorem c_l5Pair (k : Nat) (hS : ExpS Tryz.prog 79 k (sumP k)) (kk : Int) {gr : Nat} {T : List Tk} {a : Nat} {d : Int} {bad : Bool} {m : Mem} (hP : PS gr T a d bad m) (hT : ∀ t ∈ T, t.fine) (hd : bad = false → d = 30 - (k : Int)) {K : AV → Mem → Prop}
  (hK : ∀ m' e a' d' bad', PS gr T a' d' bad' m' → Off gr m m' → Run1 (pairP (sumP k) kk) T a bad e a' bad' → (bad' = false → d' = d) → K e.av m') : WCall Tryz.prog 182 [.ptr gr 0, .int .i64 kk] m K := by
 have hgr := hP.at
 refine wcall_of Tryz.func182 (by kernel_rfl) rfl (by simp [Tryz.f182]) ?_
 (repeat refine sqA ?_); refine rgA (by kernel_rfl) ?_
 simp
 intro g4 hg4
 have h := (PH.start hP).box hgr hg4 [.int .i64 0, .int .i64 0, .str ByteArray.empty, .lst true 0 []]
 refine AWp.gen (fun st => st.slots 0 = .ptr gr 0 ∧ st.slots 1 = .int .i64 kk ∧ st.slots 4 = .ptr g4 0 ∧ st.mem = m.set g4 (.box [.int .i64 0, .int .i64 0, .str ByteArray.empty, .lst true 0 []])) ⟨by simp, by simp, by simp, by simp⟩ ?_
 generalize m.set g4 (.box [.int .i64 0, .int .i64 0, .str ByteArray.empty, .lst true 0 []]) = m1 at *
 rintro st ⟨s0, s1, s4, sm⟩
 (repeat refine sqA ?_); refine rgA (by kernel_rfl) ?_
 simp [s0]
 refine aop_wcall _ _ _ _ _ _ _ _ rfl (eval_func _ _) ?_
 simp [sm]
 refine c_l5Mark h.ps (ch 40) fun mA hPn hOn => ?_
 try simp
 refine aop_wcall _ _ _ _ _ _ _ _ rfl (eval_func _ _) ?_
 try simp
 refine c_l5Must hPn _ fun n1 hPm hOm => ?_
 obtain ⟨a1, b1, hPm, run1⟩ : ∃ a' b', PS gr T a' d b' n1 ∧ Run1 (tkR (ch 40)) T a bad () a' b' := ⟨_, _, hPm, mark_run h.ps.le _⟩
 have h := h.call hgr (hOn.trans hOm) hPm
 have was1 := Run1.was run1
 clear hPn hOn hPm hOm
 try simp
 refine AWp.gen (fun st => st.slots 0 = .ptr gr 0 ∧ st.slots 1 = .int .i64 kk ∧ st.slots 4 = .ptr g4 0 ∧ st.mem = n1) ⟨by first | (simp; done) | (simp [s0]; done), by first | (simp; done) | (simp [s1]; done), by first | (simp; done) | (simp [s4]; done), by first | (simp; done) | (simp [sm]; done)⟩ ?_
 clear s0 s1 s4 sm
 rintro st ⟨s0, s1, s4, sm⟩
 (repeat refine sqA ?_); refine rgA (by kernel_rfl) ?_
 simp [s0]
 refine aop_wcall _ _ _ _ _ _ _ _ rfl (eval_func _ _) ?_
 simp [sm]
 refine hS gr T _ _ _ _ h.ps hT (fun e => hd (was1 e)) _ fun m2 e2 a2 d2 b2 hPn hOn run2 hdd2 => ?_
 have h := h.call hgr hOn hPn
 have was2 := Run1.was run2
 clear hPn hOn
 simp [Ex.av]
 intro g5 hg2
 try refine ⟨okE _, ?_⟩
 have h := h.box hgr hg2 e2.cells
 refine AWp.gen (fun st => st.slots 0 = .ptr gr 0 ∧ st.slots 1 = .int .i64 kk ∧ st.slots 4 = .ptr g4 0 ∧ st.slots 5 = .ptr g5 0 ∧ st.mem = m2.set g5 (.box e2.cells)) ⟨by first | (simp; done) | (simp [s0]; done), by first | (simp; done) | (simp [s1]; done), by first | (simp; done) | (simp [s4]; done), by simp, by first | (simp; done) | (simp [sm]; done)⟩ ?_
 clear s0 s1 s4 sm
 rintro st ⟨s0, s1, s4, s5, sm⟩
 generalize m2.set g5 (.box e2.cells) = n2 at *
 clear hg2
 (repeat refine sqA ?_); refine rgA (by kernel_rfl) ?_
 simp [s0]
 refine aop_wcall _ _ _ _ _ _ _ _ rfl (eval_func _ _) ?_
 simp [sm]
 refine c_l5Mark h.ps (ch 44) fun mA hPn hOn => ?_
 try simp
 refine aop_wcall _ _ _ _ _ _ _ _ rfl (eval_func _ _) ?_
 try simp
 refine c_l5Must hPn _ fun n3 hPm hOm => ?_
 obtain ⟨a3, b3, hPm, run3⟩ : ∃ a' b', PS gr T a' d2 b' n3 ∧ Run1 (tkR (ch 44)) T a2 b2 () a' b' := ⟨_, _, hPm, mark_run h.ps.le _⟩
 have h := h.call hgr (hOn.trans hOm) hPm
 have was3 := Run1.was run3
 clear hPn hOn hPm hOm
 try simp
 refine AWp.gen (fun st => st.slots 0 = .ptr gr 0 ∧ st.slots 1 = .int .i64 kk ∧ st.slots 4 = .ptr g4 0 ∧ st.slots 5 = .ptr g5 0 ∧ st.mem = n3) ⟨by first | (simp; done) | (simp [s0]; done), by first | (simp; done) | (simp [s1]; done), by first | (simp; done) | (simp [s4]; done), by first | (simp; done) | (simp [s5]; done), by first | (simp; done) | (simp [sm]; done)⟩ ?_
 clear s0 s1 s4 s5 sm
 rintro st ⟨s0, s1, s4, s5, sm⟩
 (repeat refine sqA ?_); refine rgA (by kernel_rfl) ?_
 simp [s0]
 refine aop_wcall _ _ _ _ _ _ _ _ rfl (eval_func _ _) ?_
 simp [sm]
 refine hS gr T _ _ _ _ h.ps hT (fun e => by rw [hdd2 (was3 e)]; exact hd (was1 (was2 (was3 e)))) _ fun m4 e4 a4 d4 b4 hPn hOn run4 hdd4 => ?_
 have h := h.call hgr hOn hPn
 have was4 := Run1.was run4
 clear hPn hOn
 simp [Ex.av]
 intro g6 hg4
 try refine ⟨okE _, ?_⟩
 have h := h.box hgr hg4 e4.cells
 refine AWp.gen (fun st => st.slots 0 = .ptr gr 0 ∧ st.slots 1 = .int .i64 kk ∧ st.slots 4 = .ptr g4 0 ∧ st.slots 5 = .ptr g5 0 ∧ st.slots 6 = .ptr g6 0 ∧ st.mem = m4.set g6 (.box e4.cells)) ⟨by first | (simp; done) | (simp [s0]; done), by first | (simp; done) | (simp [s1]; done), by first | (simp; done) | (simp [s4]; done), by first | (simp; done) | (simp [s5]; done), by simp, by first | (simp; done) | (simp [sm]; done)⟩ ?_
 clear s0 s1 s4 s5 sm
 rintro st ⟨s0, s1, s4, s5, s6, sm⟩
 generalize m4.set g6 (.box e4.cells) = n4 at *
 clear hg4
 (repeat refine sqA ?_); refine rgA (by kernel_rfl) ?_
 simp [s0]
 refine aop_wcall _ _ _ _ _ _ _ _ rfl (eval_func _ _) ?_
 simp [sm]
 refine c_l5Mark h.ps (ch 41) fun mA hPn hOn => ?_
 try simp
 refine aop_wcall _ _ _ _ _ _ _ _ rfl (eval_func _ _) ?_
 try simp
 refine c_l5Must hPn _ fun n5 hPm hOm => ?_
 obtain ⟨a5, b5, hPm, run5⟩ : ∃ a' b', PS gr T a' d4 b' n5 ∧ Run1 (tkR (ch 41)) T a4 b4 () a' b' := ⟨_, _, hPm, mark_run h.ps.le _⟩
 have h := h.call hgr (hOn.trans hOm) hPm
 have was5 := Run1.was run5
 clear hPn hOn hPm hOm
 try simp
 refine AWp.gen (fun st => st.slots 0 = .ptr gr 0 ∧ st.slots 1 = .int .i64 kk ∧ st.slots 4 = .ptr g4 0 ∧ st.slots 5 = .ptr g5 0 ∧ st.slots 6 = .ptr g6 0 ∧ st.mem = n5) ⟨by first | (simp; done) | (simp [s0]; done), by first | (simp; done) | (simp [s1]; done), by first | (simp; done) | (simp [s4]; done), by first | (simp; done) | (simp [s5]; done), by first | (simp; done) | (simp [s6]; done), by first | (simp; done) | (simp [sm]; done)⟩ ?_
 clear s0 s1 s4 s5 s6 sm
 rintro st ⟨s0, s1, s4, s5, s6, sm⟩
 have w5 := h.box1 (g := g5) (cs := e2.cells) (by simp)
 have w6 := h.box1 (g := g6) (cs := e4.cells) (by simp)
 have w4 := h.box1 (g := g4) (cs := [.int .i64 0, .int .i64 0, .str ByteArray.empty, .lst true 0 []]) (by simp)
 have tk : ∀ e : Ex, List.take 4 e.cells = e.cells := fun e => List.take_of_length_le (by simp)
 (repeat refine sqA ?_); refine rgA (by kernel_rfl) ?_
 simp [s1, s5, s6, sm, w5, w6, tk]
 refine aop_call' (r := (two kk e2 e4).av) (by simpa [Ex.av] using c_l3Two kk e2 e4) ?_
 simp [s4, sm, w4, Ex.av]
 try refine ⟨okE _, ?_⟩
 have q := PH.put (l1 := [(g6, e4.cells), (g5, e2.cells)]) (cs' := (two kk e2 e4).cells) h
 refine AWp.ret ⟨[(two kk e2 e4).av], (two kk e2 e4).av, _, by simp [Tryz.f182, resA, s4, Ex.av, tk], by (try simp); exact View.refl _ _, hK _ _ _ _ _ q.ps q.off (pair_run kk run1 run2 run3 run4 run5) (fun e => (hdd4 (was5 e)).trans (hdd2 (was3 (was4 (was5 e)))))⟩
theorem is_at {T : List Tk} {a : Nat} {bad : Bool} {k : Int} (hk : k ≠ 0) {s : ByteArray} (h : (hdT T a bad).is k s = true) : bad = false ∧ ∃ hlt : a < T.length, hdT T a bad = T[a] ∧ T[a].is k s = true := by
 have hk2 : (hdT T a bad).k = k := by unfold Tk.is at h; simp at h; exact h.1
 obtain ⟨h1, hlt, h2⟩ := is_lt hk hk2
 exact ⟨h1, hlt, h2, by rw [← h2]; exact h⟩
theorem is_not {T : List Tk} {a : Nat} {c : UInt8} (h : (hdT T a false).is 4 (ch c) = false) : notM T a c := fun hlt => by rw [hdT_at hlt] at h; exact h
theorem c_l5Atom (k : Nat) {gr : Nat} {T : List Tk} {a : Nat} {d : Int} {bad : Bool} {m : Mem} (hP : PS gr T a d bad m) (hT : ∀ t ∈ T, t.fine) (hd : bad = false → d = 30 - (k : Int) ∧ ExpS Tryz.prog 79 k (sumP k)) {K : AV → Mem → Prop}
  (hK : ∀ m' e a' d' bad', PS gr T a' d' bad' m' → Off gr m m' → Run1 (atomP (sumP k)) T a bad e a' bad' → (bad' = false → d' = d) → K e.av m') : WCall Tryz.prog 162 [.ptr gr 0] m K := by
 have hgr := hP.at
 have tk : ∀ e : Ex, List.take 4 e.cells = e.cells := fun e => List.take_of_length_le (by simp)
 have eE : ByteArray.empty = (⟨#[]⟩ : ByteArray) := rfl
 refine wcall_of Tryz.func162 (by kernel_rfl) rfl (by simp [Tryz.f162]) ?_
 (repeat refine sqA ?_); refine rgA (by kernel_rfl) ?_
 simp
 intro g2 hg2
 have h := (PH.start hP).box hgr hg2 [.int .i64 0, .int .i64 0, .str ByteArray.empty, .lst true 0 []]
 refine AWp.gen (fun st => st.slots 0 = .ptr gr 0 ∧ st.slots 2 = .ptr g2 0 ∧ st.mem = m.set g2 (.box [.int .i64 0, .int .i64 0, .str ByteArray.empty, .lst true 0 []])) ⟨by simp, by simp, by simp⟩ ?_
 generalize m.set g2 (.box [.int .i64 0, .int .i64 0, .str ByteArray.empty, .lst true 0 []]) = m1 at *
 rintro st ⟨s0, s2, sm⟩
 (repeat refine sqA ?_); refine AWp.block ?_
 (repeat refine sqA ?_); refine rgA (by kernel_rfl) ?_
 simp [s0]
 refine aop_wcall _ _ _ _ _ _ _ _ rfl (eval_func _ _) ?_
 simp [sm]
 refine c_l5Kind h.ps 2 (by omega) ?_
 try simp
 by_cases h2 : (hdT T a bad).k = 2
 ·obtain ⟨rfl, hlt, ht⟩ := is_lt (by omega) h2
  simp only [h2, decide_true]
  (repeat refine sqA ?_); refine AWp.condT (by simp) ?_
  (repeat refine sqA ?_); refine rgA (by kernel_rfl) ?_
  simp [s0]
  refine aop_wcall _ _ _ _ _ _ _ _ rfl (eval_func _ _) ?_
  try simp
  try simp [sm]
  refine c_l5Num h.ps fun mA hPn hOn => ?_
  simp only [h2, if_true, decide_true, Bool.not_true] at hPn ⊢
  have h := h.call hgr hOn hPn
  clear hPn hOn sm
  try simp
  refine aop_call' (r := (Ex.mk 1 (hdT T a false).n ⟨#[]⟩ []).av) (by simpa using c_l3Num (hdT T a false).n) ?_
  have w2 := h.box1 (g := g2) (cs := [.int .i64 0, .int .i64 0, .str ByteArray.empty, .lst true 0 []]) (by simp)
  simp [s2, w2, Ex.av, tk]
  try refine ⟨okE _, ?_⟩
  have q := PH.put (l1 := []) (cs' := (Ex.mk 1 (hdT T a false).n ⟨#[]⟩ []).cells) h
  refine AWp.ret ⟨[(Ex.mk 1 (hdT T a false).n ⟨#[]⟩ []).av], (Ex.mk 1 (hdT T a false).n ⟨#[]⟩ []).av, _, by simp [Tryz.f162, resA, s2, Ex.av, tk], by (try simp); exact View.refl _ _, hK _ _ _ _ _ q.ps q.off (Run1.cons hlt (g := fun ts => some (.mk 1 (hdT T a false).n ⟨#[]⟩ [], ts)) (Run1.pure _ _ _ _) (fun l => by rw [ht] at h2 ⊢; exact atom_num h2)) (fun _ => rfl)⟩
 simp only [h2, decide_false]
 (repeat refine sqA ?_); refine AWp.condF (by simp) ?_
 refine AWp.gen (fun st => st.slots 0 = .ptr gr 0 ∧ st.slots 2 = .ptr g2 0 ∧ st.mem = m1) ⟨by first | (simp; done) | (simp [s0]; done), by first | (simp; done) | (simp [s2]; done), by first | (simp; done) | (simp [sm]; done)⟩ ?_
 clear s0 s2 sm
 rintro st ⟨s0, s2, sm⟩
 (repeat refine sqA ?_); refine rgA (by kernel_rfl) ?_
 simp [s0]
 refine aop_wcall _ _ _ _ _ _ _ _ rfl (eval_func _ _) ?_
 simp [sm]
 refine c_l5Kind h.ps 1 (by omega) ?_
 try simp
 by_cases h1 : (hdT T a bad).k = 1
 ·obtain ⟨rfl, hlt, ht⟩ := is_lt (by omega) h1
  simp only [h1, decide_true]
  (repeat refine sqA ?_); refine AWp.condT (by simp) ?_
  (repeat refine sqA ?_); refine rgA (by kernel_rfl) ?_
  simp [s0]
  refine aop_wcall _ _ _ _ _ _ _ _ rfl (eval_func _ _) ?_
  try simp
  try simp [sm]
  refine c_l5Name h.ps fun mA hPn hOn => ?_
  simp only [h1, if_true, decide_true, Bool.not_true] at hPn ⊢
  have h := h.call hgr hOn hPn
  clear hPn hOn
  try simp
  obtain ⟨w, hw⟩ : ∃ w, w = (hdT T a false).s := ⟨_, rfl⟩
  rw [← hw]
  have hat : ∀ l, atomP (sumP k) (T[a] :: l) = nameP (sumP k) w l := fun l => by
   have e := atom_name (sub := sumP k) (t := T[a]) (l := l) (by rw [← ht]; exact h1)
   rw [e, hw, ht]
  refine AWp.gen (fun st => st.slots 0 = .ptr gr 0 ∧ st.slots 2 = .ptr g2 0 ∧ st.slots 3 = .str w ∧ st.mem = mA) ⟨by first | (simp; done) | (simp [s0]; done), by first | (simp; done) | (simp [s2]; done), by simp, by first | (simp; done) | (simp [sm]; done)⟩ ?_
  clear s0 s2 sm
  rintro st ⟨s0, s2, s3, sm⟩
  (repeat refine sqA ?_); refine rgA (by kernel_rfl) ?_
  simp [s0]
  refine aop_wcall _ _ _ _ _ _ _ _ rfl (eval_func _ _) ?_
  simp [sm]
  refine c_l5Mark h.ps (ch 91) fun mB hPn hOn => ?_
  have h := h.call hgr hOn hPn
  clear hPn hOn
  try simp
  cases hq : (hdT T (a + 1) false).is 4 (ch 91) with
  | false =>
   try simp
   (repeat refine sqA ?_); refine AWp.condT (by simp) ?_
   rw [hq] at h
   simp at h
   refine AWp.gen (fun st => st.slots 0 = .ptr gr 0 ∧ st.slots 2 = .ptr g2 0 ∧ st.slots 3 = .str w ∧ st.mem = mB) ⟨by first | (simp; done) | (simp [s0]; done), by first | (simp; done) | (simp [s2]; done), by first | (simp; done) | (simp [s3]; done), by first | (simp; done) | (simp [sm]; done)⟩ ?_
   clear s0 s2 s3 sm
   rintro st ⟨s0, s2, s3, sm⟩
   (repeat refine sqA ?_); refine rgA (by kernel_rfl) ?_
   simp [s3]
   refine aop_call' (r := (Ex.mk 2 0 w []).av) (by simpa using c_l3Var w) ?_
   have w2 := h.box1 (g := g2) (cs := [.int .i64 0, .int .i64 0, .str ByteArray.empty, .lst true 0 []]) (by simp)
   simp [s2, sm, w2, Ex.av, tk]
   try refine ⟨okE _, ?_⟩
   have q := PH.put (l1 := []) (cs' := (Ex.mk 2 0 w []).cells) h
   refine AWp.ret ⟨[(Ex.mk 2 0 w []).av], (Ex.mk 2 0 w []).av, _, by simp [Tryz.f162, resA, s2, Ex.av, tk], by (try simp); exact View.refl _ _, hK _ _ _ _ _ q.ps q.off (Run1.cons hlt (name_run (is_not hq)) hat) (fun _ => rfl)⟩
  | true =>
   obtain ⟨_, hlt2, ht2, hmk⟩ := is_at (by omega) hq
   try simp
   (repeat refine sqA ?_); refine AWp.condF (by simp) ?_
   refine AWp.skip ?_
   try simp
   rw [hq] at h
   simp at h
   obtain ⟨hd0, hS⟩ := hd rfl
   refine AWp.gen (fun st => st.slots 0 = .ptr gr 0 ∧ st.slots 2 = .ptr g2 0 ∧ st.slots 3 = .str w ∧ st.mem = mB) ⟨by first | (simp; done) | (simp [s0]; done), by first | (simp; done) | (simp [s2]; done), by first | (simp; done) | (simp [s3]; done), by first | (simp; done) | (simp [sm]; done)⟩ ?_
   clear s0 s2 s3 sm
   rintro st ⟨s0, s2, s3, sm⟩
   (repeat refine sqA ?_); refine rgA (by kernel_rfl) ?_
   simp [s0]
   refine aop_wcall _ _ _ _ _ _ _ _ rfl (eval_func _ _) ?_
   simp [sm]
   refine hS gr T _ _ _ _ h.ps hT (fun _ => hd0) _ fun m2 e2 a2 d2 b2 hPn hOn run2 hdd2 => ?_
   have h := h.call hgr hOn hPn
   have was2 := Run1.was run2
   clear hPn hOn
   simp [Ex.av]
   intro g4 hg2
   try refine ⟨okE _, ?_⟩
   have h := h.box hgr hg2 e2.cells
   refine AWp.gen (fun st => st.slots 0 = .ptr gr 0 ∧ st.slots 2 = .ptr g2 0 ∧ st.slots 3 = .str w ∧ st.slots 4 = .ptr g4 0 ∧ st.mem = m2.set g4 (.box e2.cells)) ⟨by first | (simp; done) | (simp [s0]; done), by first | (simp; done) | (simp [s2]; done), by first | (simp; done) | (simp [s3]; done), by simp, by first | (simp; done) | (simp [sm]; done)⟩ ?_
   clear s0 s2 s3 sm
   rintro st ⟨s0, s2, s3, s4, sm⟩
   generalize m2.set g4 (.box e2.cells) = n2 at *
   clear hg2
   (repeat refine sqA ?_); refine rgA (by kernel_rfl) ?_
   simp [s0]
   refine aop_wcall _ _ _ _ _ _ _ _ rfl (eval_func _ _) ?_
   simp [sm]
   refine c_l5Mark h.ps (ch 93) fun mA hPn hOn => ?_
   try simp
   refine aop_wcall _ _ _ _ _ _ _ _ rfl (eval_func _ _) ?_
   try simp
   refine c_l5Must hPn _ fun n3 hPm hOm => ?_
   obtain ⟨a3, b3, hPm, run3⟩ : ∃ a' b', PS gr T a' d2 b' n3 ∧ Run1 (tkR (ch 93)) T a2 b2 () a' b' := ⟨_, _, hPm, mark_run h.ps.le _⟩
   have h := h.call hgr (hOn.trans hOm) hPm
   have was3 := Run1.was run3
   clear hPn hOn hPm hOm
   try simp
   refine AWp.gen (fun st => st.slots 0 = .ptr gr 0 ∧ st.slots 2 = .ptr g2 0 ∧ st.slots 3 = .str w ∧ st.slots 4 = .ptr g4 0 ∧ st.mem = n3) ⟨by first | (simp; done) | (simp [s0]; done), by first | (simp; done) | (simp [s2]; done), by first | (simp; done) | (simp [s3]; done), by first | (simp; done) | (simp [s4]; done), by first | (simp; done) | (simp [sm]; done)⟩ ?_
   clear s0 s2 s3 s4 sm
   rintro st ⟨s0, s2, s3, s4, sm⟩
   have w4 := h.box1 (g := g4) (cs := e2.cells) (by simp)
   (repeat refine sqA ?_); refine rgA (by kernel_rfl) ?_
   simp [s3, s4, sm, w4, tk]
   refine aop_call' (r := (Ex.mk 3 0 w [e2]).av) (by simpa [Ex.av] using c_l3At w e2) ?_
   have w2 := h.box1 (g := g2) (cs := [.int .i64 0, .int .i64 0, .str ByteArray.empty, .lst true 0 []]) (by simp)
   simp [s2, sm, w2, Ex.av, tk]
   try refine ⟨okE _, ?_⟩
   have q := PH.put (l1 := [(g4, e2.cells)]) (cs' := (Ex.mk 3 0 w [e2]).cells) h
   refine AWp.ret ⟨[(Ex.mk 3 0 w [e2]).av], (Ex.mk 3 0 w [e2]).av, _, by simp [Tryz.f162, resA, s2, Ex.av, tk], by (try simp); exact View.refl _ _, hK _ _ _ _ _ q.ps q.off (Run1.cons hlt (name_plc hlt2 hmk (plc_run w run2 run3)) hat) (fun e => hdd2 (was3 e))⟩
 simp only [h1, decide_false]
 (repeat refine sqA ?_); refine AWp.condF (by simp) ?_
 refine AWp.gen (fun st => st.slots 0 = .ptr gr 0 ∧ st.slots 2 = .ptr g2 0 ∧ st.mem = m1) ⟨by first | (simp; done) | (simp [s0]; done), by first | (simp; done) | (simp [s2]; done), by first | (simp; done) | (simp [sm]; done)⟩ ?_
 clear s0 s2 sm
 rintro st ⟨s0, s2, sm⟩
 (repeat refine sqA ?_); refine rgA (by kernel_rfl) ?_
 simp [s0]
 refine aop_wcall _ _ _ _ _ _ _ _ rfl (eval_func _ _) ?_
 simp [sm]
 refine c_l5Mark h.ps (ch 40) fun mA hPn hOn => ?_
 have h := h.call hgr hOn hPn
 clear hPn hOn
 try simp
 cases hq : (hdT T a bad).is 4 (ch 40) with
 | true =>
  obtain ⟨rfl, hlt, ht, hmk⟩ := is_at (by omega) hq
  try simp
  (repeat refine sqA ?_); refine AWp.condT (by simp) ?_
  rw [hq] at h
  simp at h
  obtain ⟨hd0, hS⟩ := hd rfl
  refine AWp.gen (fun st => st.slots 0 = .ptr gr 0 ∧ st.slots 2 = .ptr g2 0 ∧ st.mem = mA) ⟨by first | (simp; done) | (simp [s0]; done), by first | (simp; done) | (simp [s2]; done), by first | (simp; done) | (simp [sm]; done)⟩ ?_
  clear s0 s2 sm
  rintro st ⟨s0, s2, sm⟩
  (repeat refine sqA ?_); refine rgA (by kernel_rfl) ?_
  simp [s0]
  refine aop_wcall _ _ _ _ _ _ _ _ rfl (eval_func _ _) ?_
  simp [sm]
  refine hS gr T _ _ _ _ h.ps hT (fun _ => hd0) _ fun m2 e2 a2 d2 b2 hPn hOn run2 hdd2 => ?_
  have h := h.call hgr hOn hPn
  have was2 := Run1.was run2
  clear hPn hOn
  simp [Ex.av]
  intro g5 hg2
  try refine ⟨okE _, ?_⟩
  have h := h.box hgr hg2 e2.cells
  refine AWp.gen (fun st => st.slots 0 = .ptr gr 0 ∧ st.slots 2 = .ptr g2 0 ∧ st.slots 5 = .ptr g5 0 ∧ st.mem = m2.set g5 (.box e2.cells)) ⟨by first | (simp; done) | (simp [s0]; done), by first | (simp; done) | (simp [s2]; done), by simp, by first | (simp; done) | (simp [sm]; done)⟩ ?_
  clear s0 s2 sm
  rintro st ⟨s0, s2, s5, sm⟩
  generalize m2.set g5 (.box e2.cells) = n2 at *
  clear hg2
  (repeat refine sqA ?_); refine rgA (by kernel_rfl) ?_
  simp [s0]
  refine aop_wcall _ _ _ _ _ _ _ _ rfl (eval_func _ _) ?_
  simp [sm]
  refine c_l5Mark h.ps (ch 41) fun mA hPn hOn => ?_
  try simp
  refine aop_wcall _ _ _ _ _ _ _ _ rfl (eval_func _ _) ?_
  try simp
  refine c_l5Must hPn _ fun n3 hPm hOm => ?_
  obtain ⟨a3, b3, hPm, run3⟩ : ∃ a' b', PS gr T a' d2 b' n3 ∧ Run1 (tkR (ch 41)) T a2 b2 () a' b' := ⟨_, _, hPm, mark_run h.ps.le _⟩
  have h := h.call hgr (hOn.trans hOm) hPm
  have was3 := Run1.was run3
  clear hPn hOn hPm hOm
  try simp
  refine AWp.gen (fun st => st.slots 0 = .ptr gr 0 ∧ st.slots 2 = .ptr g2 0 ∧ st.slots 5 = .ptr g5 0 ∧ st.mem = n3) ⟨by first | (simp; done) | (simp [s0]; done), by first | (simp; done) | (simp [s2]; done), by first | (simp; done) | (simp [s5]; done), by first | (simp; done) | (simp [sm]; done)⟩ ?_
  clear s0 s2 s5 sm
  rintro st ⟨s0, s2, s5, sm⟩
  have w5 := h.box1 (g := g5) (cs := e2.cells) (by simp)
  (repeat refine sqA ?_); refine rgA (by kernel_rfl) ?_
  simp [s5, sm, w5, tk]
  have w2 := h.box1 (g := g2) (cs := [.int .i64 0, .int .i64 0, .str ByteArray.empty, .lst true 0 []]) (by simp)
  simp [s2, sm, w2, Ex.av, tk]
  try refine ⟨okE _, ?_⟩
  have q := PH.put (l1 := [(g5, e2.cells)]) (cs' := (e2).cells) h
  refine AWp.ret ⟨[(e2).av], (e2).av, _, by simp [Tryz.f162, resA, s2, Ex.av, tk], by (try simp); exact View.refl _ _, hK _ _ _ _ _ q.ps q.off (Run1.cons hlt (paren_run run2 run3) (fun l => atom_par hmk)) (fun e => hdd2 (was3 e))⟩
 | false =>
  have hpar := hq
  try simp
  (repeat refine sqA ?_); refine AWp.condF (by simp) ?_
  rw [hq] at h
  simp at h
  refine AWp.gen (fun st => st.slots 0 = .ptr gr 0 ∧ st.slots 2 = .ptr g2 0 ∧ st.mem = mA) ⟨by first | (simp; done) | (simp [s0]; done), by first | (simp; done) | (simp [s2]; done), by first | (simp; done) | (simp [sm]; done)⟩ ?_
  clear s0 s2 sm
  rintro st ⟨s0, s2, sm⟩
  (repeat refine sqA ?_); refine rgA (by kernel_rfl) ?_
  simp [s0]
  refine aop_wcall _ _ _ _ _ _ _ _ rfl (eval_func _ _) ?_
  simp [sm]
  refine c_l5Kept h.ps minB fun mC hPn hOn => ?_
  have h := h.call hgr hOn hPn
  clear hPn hOn
  try simp
  cases hmin : (hdT T a bad).is 3 minB with
  | true =>
   obtain ⟨rfl, hlt, ht, hmk⟩ := is_at (by omega) hmin
   try simp
   (repeat refine sqA ?_); refine AWp.condT (by simp) ?_
   rw [hmin] at h
   simp at h
   obtain ⟨hd0, hS⟩ := hd rfl
   (repeat refine sqA ?_); refine rgA (by kernel_rfl) ?_
   simp [s0]
   refine aop_wcall _ _ _ _ _ _ _ _ rfl (eval_func _ _) ?_
   try simp
   try simp [sm]
   refine c_l5Pair k hS 7 h.ps hT (fun _ => hd0) fun mP e2 a2 d2 b2 hPn hOn run2 hdd2 => ?_
   have h := h.call hgr hOn hPn
   clear hPn hOn
   try simp
   have w2 := h.box1 (g := g2) (cs := [.int .i64 0, .int .i64 0, .str ByteArray.empty, .lst true 0 []]) (by simp)
   simp [s2, w2, Ex.av, tk]
   try refine ⟨okE _, ?_⟩
   have q := PH.put (l1 := []) (cs' := (e2).cells) h
   refine AWp.ret ⟨[(e2).av], (e2).av, _, by simp [Tryz.f162, resA, s2, Ex.av, tk], by (try simp); exact View.refl _ _, hK _ _ _ _ _ q.ps q.off (Run1.cons hlt run2 (fun l => atom_7 hmk)) (hdd2)⟩
  | false =>
   try simp
   (repeat refine sqA ?_); refine AWp.condF (by simp) ?_
   rw [hmin] at h
   simp at h
   refine AWp.gen (fun st => st.slots 0 = .ptr gr 0 ∧ st.slots 2 = .ptr g2 0 ∧ st.mem = mC) ⟨by first | (simp; done) | (simp [s0]; done), by first | (simp; done) | (simp [s2]; done), by first | (simp; done) | (simp [sm]; done)⟩ ?_
   clear s0 s2 sm
   rintro st ⟨s0, s2, sm⟩
   (repeat refine sqA ?_); refine rgA (by kernel_rfl) ?_
   simp [s0]
   refine aop_wcall _ _ _ _ _ _ _ _ rfl (eval_func _ _) ?_
   simp [sm]
   refine c_l5Kept h.ps maxB fun mD hPn hOn => ?_
   have h := h.call hgr hOn hPn
   clear hPn hOn
   try simp
   cases hmax : (hdT T a bad).is 3 maxB with
   | true =>
    obtain ⟨rfl, hlt, ht, hmk⟩ := is_at (by omega) hmax
    try simp
    (repeat refine sqA ?_); refine AWp.condT (by simp) ?_
    rw [hmax] at h
    simp at h
    obtain ⟨hd0, hS⟩ := hd rfl
    (repeat refine sqA ?_); refine rgA (by kernel_rfl) ?_
    simp [s0]
    refine aop_wcall _ _ _ _ _ _ _ _ rfl (eval_func _ _) ?_
    try simp
    try simp [sm]
    refine c_l5Pair k hS 8 h.ps hT (fun _ => hd0) fun mP e2 a2 d2 b2 hPn hOn run2 hdd2 => ?_
    have h := h.call hgr hOn hPn
    clear hPn hOn
    try simp
    have w2 := h.box1 (g := g2) (cs := [.int .i64 0, .int .i64 0, .str ByteArray.empty, .lst true 0 []]) (by simp)
    simp [s2, w2, Ex.av, tk]
    try refine ⟨okE _, ?_⟩
    have q := PH.put (l1 := []) (cs' := (e2).cells) h
    refine AWp.ret ⟨[(e2).av], (e2).av, _, by simp [Tryz.f162, resA, s2, Ex.av, tk], by (try simp); exact View.refl _ _, hK _ _ _ _ _ q.ps q.off (Run1.cons hlt run2 (fun l => atom_8 hmk)) (hdd2)⟩
   | false =>
    try simp
    (repeat refine sqA ?_); refine AWp.condF (by simp) ?_
    rw [hmax] at h
    simp at h
    refine AWp.gen (fun st => st.slots 0 = .ptr gr 0 ∧ st.slots 2 = .ptr g2 0 ∧ st.mem = mD) ⟨by first | (simp; done) | (simp [s0]; done), by first | (simp; done) | (simp [s2]; done), by first | (simp; done) | (simp [sm]; done)⟩ ?_
    clear s0 s2 sm
    rintro st ⟨s0, s2, sm⟩
    refine AWp.skip ?_
    have hbx := h.ps.box
    unfold pc at hbx
    try simp
    (repeat refine sqA ?_); refine rgA (by kernel_rfl) ?_
    simp [s0, sm, hbx]
    have h := h.call hgr (Off.box _ _) (h.ps.step a d true h.ps.le)
    refine AWp.gen (fun st => st.slots 0 = .ptr gr 0 ∧ st.slots 2 = .ptr g2 0 ∧ st.mem = mD.set gr (.box (pc T a d true))) ⟨by first | (simp; done) | (simp [s0]; done), by first | (simp; done) | (simp [s2]; done), by simp [pc]⟩ ?_
    clear s0 s2 sm
    rintro st ⟨s0, s2, sm⟩
    generalize mD.set gr (.box (pc T a d true)) = mE at *
    clear hbx
    have hrun : ∀ e, Run1 (atomP (sumP k)) T a bad e a true := fun e => atom_ill (by
     cases bad with
     | true => exact .inl rfl
     | false =>
      right
      by_cases hlt : a < T.length
      ·have e := hdT_at hlt
       rw [e] at h2 h1 hpar hmin hmax
       exact atom_none hlt rfl h2 h1 hpar hmin hmax
      ·rw [List.drop_eq_nil_of_le (by omega)]
       rfl)
    have w2 := h.box1 (g := g2) (cs := [.int .i64 0, .int .i64 0, .str ByteArray.empty, .lst true 0 []]) (by simp)
    (repeat refine sqA ?_); refine rgA (by kernel_rfl) ?_
    simp [s2, sm, w2]
    have q := PH.put (l1 := []) (cs' := [.int .i64 0, .int .i64 0, .str ⟨#[]⟩, .lst true 0 []]) h
    refine AWp.ret ⟨[.agg [.int .i64 0, .int .i64 0, .str ⟨#[]⟩, .lst true 0 []]], (Ex.mk 0 0 ⟨#[]⟩ []).av, _, by simp [Tryz.f162, resA, s2, eE], by (try simp [eE]); exact View.le zero_le _, hK _ _ _ _ _ q.ps q.off (hrun _) (fun e => by cases e)⟩
end Go.T
