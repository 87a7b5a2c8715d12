/- Parts of the proof of FnParsed: The program's parser: sums. -/
import Derived.Test.YtdbnllfjmkmdiaaGreatDoorG14
import Derived.Test.YtdbnllfjmkmdiaaGreatDoorG5
import Derived.Test.YtdbnllfjmkmdiaaGreatDoorG6
set_option linter.unusedSimpArgs false
set_option linter.unusedVariables false
namespace Go.T
open _root_.ByteArray (empty)
open Go Go.Proofs
set_option maxRecDepth 10000
set_option maxHeartbeats 1000000
open Go
theorem zfd {T : List Tk} {a : Nat} {bad : Bool} (h : isT (hdT T a bad) (ch 43) = true) : isT (hdT T a bad) (ch 45) = false := by
 unfold isT at h ⊢;simp at h;rw [h.2];have : ¬ ch 43 = ch 45 := by decide
 simp [this]
theorem wPd (k : Nat) (hk30 : k <= 30) (hM : ∀ j, k = j + 1 -> zIe Tryz.prog 97 j (zjb (yPa j))) : zIe Tryz.prog 41 k (yPa k) := by
 intro gr T a d bad m hP hT hd K hK;have hgr := hP.at
 have eE : empty = (⟨#[]⟩ : ByteArray) := rfl;refine wO Tryz.func41 ?_;refine rA ?_;simp;intro g2 hg2;have h := (PH.start hP).box hgr hg2 [.int .i64 0, .int .i64 0, .str empty, .lst true 0 []];refine AWp.gen (fun st => st.sl 0 = .ptr gr 0 /\ st.sl 2 = .ptr g2 0 /\ st.mem = m.set g2 (.box [.int .i64 0, .int .i64 0, .str empty, .lst true 0 []])) ⟨by simp, by simp, by simp⟩ ?_;generalize m.set g2 (.box [.int .i64 0, .int .i64 0, .str empty, .lst true 0 []]) = m1 at *;rintro st ⟨s0, s2, sm⟩;have hbx := h.ps.box;unfold pc at hbx;obtain ⟨d', hd'⟩ : ∃ d' : Int, d' = IntKind.wrap .i64 (d + 1) := ⟨_, rfl⟩;refine rA ?_;simp [s0, sm, hbx, <- hd'];have h := h.call hgr (Off.box _ _) (h.ps.step a d' bad h.ps.le);refine AWp.gen (fun st => st.sl 0 = .ptr gr 0 /\ st.sl 2 = .ptr g2 0 /\ st.mem = m1.set gr (.box (pc T a d' bad))) ⟨by simp [s0], by simp [s2], by simp [pc]⟩ ?_;generalize m1.set gr (.box (pc T a d' bad)) = m2 at *;clear s0 s2 sm hbx;rintro st ⟨s0, s2, sm⟩;have hbx := h.ps.box;unfold pc at hbx;have hdk : bad = false -> d' = d + 1 /\ d = 30 - (k : Int) := fun e => by
  have := hd e;exact ⟨by rw [hd']; exact zga (by omega) (by omega), this⟩
 by_cases hbd : bad = true ∨ 30 < d'
 ·have hrun : zfa (yPa k) T a bad (Ex.mk 0 0 ⟨#[]⟩ []) a true := by
   cases bad with
   | true => exact zfa.bad _ _ _ _ _
   | false =>
    have h30 := hbd.resolve_left (by simp);have := hdk rfl;have hk0 : k = 0 := by omega
    subst hk0;exact ⟨fun _ _ _ he => (by cases he), fun _ => rfl⟩
  have h := h.call hgr (Off.box _ _) (h.ps.step a d' true h.ps.le);(repeat refine qA ?_);refine AWp.cA (fun st => st.sl 0 = .ptr gr 0 /\ st.sl 2 = .ptr g2 0 /\ st.mem = m2.set gr (.box (pc T a d' true))) ?_ ?_
  ·refine rA ?_;cases bad with
   | true => simp [s0, s2, sm, hbx, pc]
   | false =>
    have h30 := hbd.resolve_left (by simp);simp [s0, s2, sm, hbx, h30, pc]
  generalize m2.set gr (.box (pc T a d' true)) = m3 at *;clear s0 s2 sm hbx;rintro st ⟨s0, s2, sm⟩;have hbx := h.ps.box;unfold pc at hbx;have w2 := h.box1 (g := g2) (cs := [.int .i64 0, .int .i64 0, .str empty, .lst true 0 []]) (by simp);refine rA ?_;simp [s0, sm, hbx];refine tA ?_;have h := h.leaf 0 0 ⟨#[]⟩;refine rA ?_;simp [s2, sm, w2];have q := PH.put (l1 := []) (cs' := [.int .i64 0, .int .i64 0, .str ⟨#[]⟩, .lst true 0 []]) h;refine AWp.ret ⟨[.agg [.int .i64 0, .int .i64 0, .str ⟨#[]⟩, .lst true 0 []]], .agg [.int .i64 0, .int .i64 0, .str ⟨#[]⟩, .lst true 0 []], _, by simp [Tryz.f41, zQa, s2, eE], by (try simp [eE]); exact View.refl _ _, hK _ _ _ _ _ _ _ q.ps q.off (q.tr _ (List.mem_cons_self ..)).1 (hrun) (fun e => by cases e)⟩
 have hbf : bad = false := by
  cases bad with
  | false => rfl
  | true => exact absurd (.inl rfl) hbd
 subst hbf;have h30 : ¬ 30 < d' := fun h => hbd (.inr h);obtain ⟨hdd, hdk⟩ := hdk rfl;obtain ⟨j, rfl⟩ : ∃ j, k = j + 1 := ⟨k - 1, by omega⟩;have hM := hM j rfl;have hf := x2a j;have hdj : d' = 30 - (j : Int) := by omega
 have h := h.call hgr (Off.box _ _) (h.ps.step a d' false h.ps.le);refine rA ?_;simp [s0, sm, hbx, h30];refine AWp.gen (fun st => st.sl 0 = .ptr gr 0 /\ st.sl 2 = .ptr g2 0 /\ st.mem = m2.set gr (.box (pc T a d' false))) ⟨by simp [s0], by simp [s2], by simp [pc]⟩ ?_;generalize m2.set gr (.box (pc T a d' false)) = m3 at *;clear s0 s2 sm hbx;rintro st ⟨s0, s2, sm⟩;have hbx := h.ps.box;unfold pc at hbx;refine rA ?_;simp [s0, sm, hbx];refine fA ?_;refine kA ?_;try simp
 refine rA ?_;simp [s0];refine wA ?_;simp [sm];refine hM gr T a _ _ _ h.ps hT (fun _ => hdj) _ fun m4 F1 r1 e1 a1 d1 b1 hPn hOn hTn run1 hdd1 => ?_;obtain ⟨c10, c11, c12, c13, rfl, o10, o11, o12, o13⟩ := hTn.cs;have h := h.tree hgr hOn hPn hTn;clear hPn hOn hTn;simp [o10, o11, o12, o13];intro g3 hg3;have h := h.box hgr hg3 [c10, c11, c12, c13];refine AWp.gen (fun st => st.sl 0 = .ptr gr 0 /\ st.sl 2 = .ptr g2 0 /\ st.sl 3 = .ptr g3 0 /\ st.mem = m4.set g3 (.box [c10, c11, c12, c13])) ⟨by simp [s0], by simp [s2], by simp, by simp⟩ ?_;generalize m4.set g3 (.box [c10, c11, c12, c13]) = m5 at *;clear s0 s2 sm hg3 hbx;rintro st ⟨s0, s2, s3, sm⟩;obtain ⟨M, hMM⟩ : ∃ M : St -> Prop, M = (fun st => ∃ cs F e a1 d1 b1, st.sl 0 = .ptr gr 0 /\ st.sl 2 = .ptr g2 0 /\ st.sl 3 = .ptr g3 0 /\ PH m gr T a1 d1 b1 [(g3, cs), (g2, [.int .i64 0, .int .i64 0, .str empty, .lst true 0 []])] [(F, .agg cs, e)] st.mem /\ (b1 = false -> d1 = d') /\ zfa (yPa (j + 1)) T a false e a1 b1) := ⟨_, rfl⟩;(repeat refine qA ?_);refine AWp.cA M ?_ ?_
 ·refine AWp.block (AWp.ro (fun q st => ∃ cs F e a1 d1 b1, q = (if b1 = true then 0 else T.length - a1 + 1) /\ st.sl 0 = .ptr gr 0 /\ st.sl 2 = .ptr g2 0 /\ st.sl 3 = .ptr g3 0 /\ PH m gr T a1 d1 b1 [(g3, cs), (g2, [.int .i64 0, .int .i64 0, .str empty, .lst true 0 []])] [(F, .agg cs, e)] st.mem /\ (b1 = false -> d1 = d') /\ ∀ y a2 b2, zfa (wIa (yPa j) e) T a1 b1 y a2 b2 -> zfa (yPa (j + 1)) T a false y a2 b2) (if b1 = true then 0 else T.length - a1 + 1) ⟨[c10, c11, c12, c13], F1, e1, a1, d1, b1, rfl, s0, s2, s3, by rw [sm]; exact h, hdd1, fun y a2 b2 hr => yfd run1 hr⟩ ?_)
  clear s0 s2 s3 sm h hdd1 run1;rintro RR q st0 hRR ⟨cs, F, e, a1, d1, b1, rfl, s0, s2, s3, h, hd1, hinv⟩;refine rA ?_;simp [s0];refine wA ?_;try simp
  refine xrd h.ps (ch 43) ?_;try simp
  cases hpl : isT (hdT T a1 b1) (ch 43) with
  | true =>
   obtain ⟨rfl, hlt, hmk⟩ := yWa hT hpl;have hmi := zfd hpl;have hd1 := hd1 rfl;try simp
   refine tA ?_;refine kA ?_;try simp
   (repeat refine qA ?_);refine bA ?_;refine rA ?_;simp;refine rA ?_;simp [s0];refine wA ?_;try simp
   refine xrd h.ps (ch 45) ?_;simp [hmi];refine fA ?_;refine kA ?_;try simp
   refine AWp.gen (fun st => st.sl 0 = .ptr gr 0 /\ st.sl 2 = .ptr g2 0 /\ st.sl 3 = .ptr g3 0 /\ st.sl 4 = .int .i64 4 /\ st.mem = st0.mem) ⟨by simp [s0], by simp [s2], by simp [s3], by simp, by simp⟩ ?_;clear s0 s2 s3;rintro st ⟨s0, s2, s3, s4, sm⟩;generalize st0.mem = n0 at *;have hbx := h.ps.box;have hle := h.ps.le;have hsm := h.ps.small;unfold pc at hbx;have hw : IntKind.wrap .i64 ((a1 : Int) + 1) = (a1 : Int) + 1 := zga (by omega) (by omega);refine rA ?_;simp [s0, sm, hbx, hw];have h := h.call hgr (Off.box _ _) (h.ps.step (a1 + 1) d1 false (by omega));refine AWp.gen (fun st => st.sl 0 = .ptr gr 0 /\ st.sl 2 = .ptr g2 0 /\ st.sl 3 = .ptr g3 0 /\ st.sl 4 = .int .i64 4 /\ st.mem = n0.set gr (.box (pc T (a1 + 1) d1 false))) ⟨by simp [s0], by simp [s2], by simp [s3], by simp [s4], by simp [pc]⟩ ?_;generalize n0.set gr (.box (pc T (a1 + 1) d1 false)) = n1 at *;clear s0 s2 s3 s4 sm hbx;rintro st ⟨s0, s2, s3, s4, sm⟩;refine rA ?_;simp [s0];refine wA ?_;simp [sm];refine hM gr T (a1 + 1) _ _ _ h.ps hT (fun _ => by rw [hd1]; exact hdj) _ fun n2 F2 r2 e2 a2 d2 b2 hPn hOn hTn run2 hdd2 => ?_;obtain ⟨c20, c21, c22, c23, rfl, o20, o21, o22, o23⟩ := hTn.cs;have h := h.tree hgr hOn hPn hTn;clear hPn hOn hTn;simp [o20, o21, o22, o23];intro g5 hg5;have h := h.box hgr hg5 [c20, c21, c22, c23];refine AWp.gen (fun st => st.sl 0 = .ptr gr 0 /\ st.sl 2 = .ptr g2 0 /\ st.sl 3 = .ptr g3 0 /\ st.sl 4 = .int .i64 4 /\ st.sl 5 = .ptr g5 0 /\ st.mem = n2.set g5 (.box [c20, c21, c22, c23])) ⟨by simp [s0], by simp [s2], by simp [s3], by simp [s4], by simp, by simp⟩ ?_;generalize n2.set g5 (.box [c20, c21, c22, c23]) = n3 at *;clear s0 s2 s3 s4 sm hg5;rintro st ⟨s0, s2, s3, s4, s5, sm⟩;obtain ⟨y0, y1, y2, y3, hcs, q0, q1, q2, q3⟩ := (h.tr (F, .agg cs, e) (by simp)).1.cs;cases hcs;have w5 := h.box1 (g := g5) (cs := [c20, c21, c22, c23]) (by simp);have w3 := h.box1 (g := g3) (cs := [y0, y1, y2, y3]) (by simp);(repeat refine qA ?_);refine AWp.regionN noP (fun i => i == 3) [0, 1, 2, 3, 4, 5] (by kernel_rfl) ?_
   simp [s3, s4, s5, sm, w3, w5, zda];intro gL hgL;obtain ⟨F', h⟩ := h.lit2 hgr hgL 26 4;have w3 := h.box1 (g := g3) (cs := [y0, y1, y2, y3]) (by simp);simp [w3];have h := (PH.put (l1 := [(g5, [c20, c21, c22, c23])]) (cs' := [.int .i64 4, .int .i64 0, .str ⟨#[]⟩, .own gL 2 2]) h).less (bs' := [(g3, [.int .i64 4, .int .i64 0, .str ⟨#[]⟩, .own gL 2 2]), (g2, [.int .i64 0, .int .i64 0, .str empty, .lst true 0 []])]) (List.sublist_cons_self _ _) (List.Sublist.refl _);refine hRR _ (if b2 = true then 0 else T.length - a2 + 1) ?_ ⟨[.int .i64 4, .int .i64 0, .str ⟨#[]⟩, .own gL 2 2], F', two 4 e e2, a2, d2, b2, rfl, by simp [s0], by simp [s2], by simp [s3], by simpa [eE] using h, fun e => (hdd2 e).trans hd1, fun y a3 b3 hr => hinv y a3 b3 (zmb hf hlt (.inl ⟨hmk, rfl⟩) run2 hr)⟩
   cases b2 with
   | true => simp
   | false =>
    have := run2.lt (wpa hf) h.ps.le;simp;omega
  | false =>
   have hnp := x9a hT hpl;try simp
   simp [s0];refine wA ?_;try simp
   refine xrd h.ps (ch 45) ?_;try simp
   cases hmi : isT (hdT T a1 b1) (ch 45) with
   | false =>
    have hnm := x9a hT hmi;try simp
    refine fA ?_;refine eA ?_;subst hMM;refine ⟨cs, F, e, a1, d1, b1, by simp [s0], by simp [s2], by simp [s3], by simpa using h, hd1, hinv _ _ _ (zlb hf e ?_)⟩;rcases hnp with e1 | e1
    ·exact .inl e1
    rcases hnm with e2 | e2
    ·exact .inl e2
    exact .inr ⟨e1, e2⟩
   | true =>
    obtain ⟨rfl, hlt, hmk⟩ := yWa hT hmi;have hm4 := (hnp.resolve_left (by simp)) hlt;have hd1 := hd1 rfl;try simp
    refine tA ?_;refine kA ?_;try simp
    (repeat refine qA ?_);refine bA ?_;refine rA ?_;simp;refine rA ?_;simp [s0];refine wA ?_;try simp
    refine xrd h.ps (ch 45) ?_;simp [hmi];refine tA ?_;refine rA ?_;simp;refine AWp.gen (fun st => st.sl 0 = .ptr gr 0 /\ st.sl 2 = .ptr g2 0 /\ st.sl 3 = .ptr g3 0 /\ st.sl 4 = .int .i64 5 /\ st.mem = st0.mem) ⟨by simp [s0], by simp [s2], by simp [s3], by simp, by simp⟩ ?_;clear s0 s2 s3;rintro st ⟨s0, s2, s3, s4, sm⟩;generalize st0.mem = n0 at *;have hbx := h.ps.box;have hle := h.ps.le;have hsm := h.ps.small;unfold pc at hbx;have hw : IntKind.wrap .i64 ((a1 : Int) + 1) = (a1 : Int) + 1 := zga (by omega) (by omega);refine rA ?_;simp [s0, sm, hbx, hw];have h := h.call hgr (Off.box _ _) (h.ps.step (a1 + 1) d1 false (by omega));refine AWp.gen (fun st => st.sl 0 = .ptr gr 0 /\ st.sl 2 = .ptr g2 0 /\ st.sl 3 = .ptr g3 0 /\ st.sl 4 = .int .i64 5 /\ st.mem = n0.set gr (.box (pc T (a1 + 1) d1 false))) ⟨by simp [s0], by simp [s2], by simp [s3], by simp [s4], by simp [pc]⟩ ?_;generalize n0.set gr (.box (pc T (a1 + 1) d1 false)) = n1 at *;clear s0 s2 s3 s4 sm hbx;rintro st ⟨s0, s2, s3, s4, sm⟩;refine rA ?_;simp [s0];refine wA ?_;simp [sm];refine hM gr T (a1 + 1) _ _ _ h.ps hT (fun _ => by rw [hd1]; exact hdj) _ fun n2 F2 r2 e2 a2 d2 b2 hPn hOn hTn run2 hdd2 => ?_;obtain ⟨c20, c21, c22, c23, rfl, o20, o21, o22, o23⟩ := hTn.cs;have h := h.tree hgr hOn hPn hTn;clear hPn hOn hTn;simp [o20, o21, o22, o23];intro g5 hg5;have h := h.box hgr hg5 [c20, c21, c22, c23];refine AWp.gen (fun st => st.sl 0 = .ptr gr 0 /\ st.sl 2 = .ptr g2 0 /\ st.sl 3 = .ptr g3 0 /\ st.sl 4 = .int .i64 5 /\ st.sl 5 = .ptr g5 0 /\ st.mem = n2.set g5 (.box [c20, c21, c22, c23])) ⟨by simp [s0], by simp [s2], by simp [s3], by simp [s4], by simp, by simp⟩ ?_;generalize n2.set g5 (.box [c20, c21, c22, c23]) = n3 at *;clear s0 s2 s3 s4 sm hg5;rintro st ⟨s0, s2, s3, s4, s5, sm⟩;obtain ⟨y0, y1, y2, y3, hcs, q0, q1, q2, q3⟩ := (h.tr (F, .agg cs, e) (by simp)).1.cs;cases hcs;have w5 := h.box1 (g := g5) (cs := [c20, c21, c22, c23]) (by simp);have w3 := h.box1 (g := g3) (cs := [y0, y1, y2, y3]) (by simp);(repeat refine qA ?_);refine AWp.regionN noP (fun i => i == 3) [0, 1, 2, 3, 4, 5] (by kernel_rfl) ?_
    simp [s3, s4, s5, sm, w3, w5, zda];intro gL hgL;obtain ⟨F', h⟩ := h.lit2 hgr hgL 26 5;have w3 := h.box1 (g := g3) (cs := [y0, y1, y2, y3]) (by simp);simp [w3];have h := (PH.put (l1 := [(g5, [c20, c21, c22, c23])]) (cs' := [.int .i64 5, .int .i64 0, .str ⟨#[]⟩, .own gL 2 2]) h).less (bs' := [(g3, [.int .i64 5, .int .i64 0, .str ⟨#[]⟩, .own gL 2 2]), (g2, [.int .i64 0, .int .i64 0, .str empty, .lst true 0 []])]) (List.sublist_cons_self _ _) (List.Sublist.refl _);refine hRR _ (if b2 = true then 0 else T.length - a2 + 1) ?_ ⟨[.int .i64 5, .int .i64 0, .str ⟨#[]⟩, .own gL 2 2], F', two 5 e e2, a2, d2, b2, rfl, by simp [s0], by simp [s2], by simp [s3], by simpa [eE] using h, fun e => (hdd2 e).trans hd1, fun y a3 b3 hr => hinv y a3 b3 (zmb hf hlt (.inr ⟨hm4, hmk, rfl⟩) run2 hr)⟩
    cases b2 with
    | true => simp
    | false =>
     have := run2.lt (wpa hf) h.ps.le;simp;omega
 intro st hst;subst hMM;obtain ⟨cs, F, e, a1, d1, b1, s0, s2, s3, h, hd1, hr⟩ := hst;have hbx := h.ps.box;unfold pc at hbx;obtain ⟨d2, hd2⟩ : ∃ d2 : Int, d2 = IntKind.wrap .i64 (d1 - 1) := ⟨_, rfl⟩;refine rA ?_;simp [s0, hbx, <- hd2];have h := h.call hgr (Off.box _ _) (h.ps.step a1 d2 b1 h.ps.le);refine AWp.gen (fun st1 => st1.sl 2 = .ptr g2 0 /\ st1.sl 3 = .ptr g3 0 /\ st1.mem = st.mem.set gr (.box (pc T a1 d2 b1))) ⟨by simp [s2], by simp [s3], by simp [pc]⟩ ?_;generalize st.mem.set gr (.box (pc T a1 d2 b1)) = m9 at *;clear s0 s2 s3 hbx;rintro st ⟨s2, s3, sm⟩;obtain ⟨y0, y1, y2, y3, hcs, q0, q1, q2, q3⟩ := (h.tr (F, .agg cs, e) (by simp)).1.cs;cases hcs;have w3 := h.box1 (g := g3) (cs := [y0, y1, y2, y3]) (by simp);have w2 := h.box1 (g := g2) (cs := [.int .i64 0, .int .i64 0, .str empty, .lst true 0 []]) (by simp);have h := h.less (bs' := [(g2, [.int .i64 0, .int .i64 0, .str empty, .lst true 0 []])]) (List.sublist_cons_self _ _) (List.Sublist.refl _);refine rA ?_;simp [s2, s3, sm, w2, w3, q0, q1, q2, q3];have q := PH.put (l1 := []) (cs' := [y0, y1, y2, y3]) h;refine AWp.ret ⟨[.agg [y0, y1, y2, y3]], .agg [y0, y1, y2, y3], _, by simp [Tryz.f41, zQa, s2, eE], by (try simp [eE]); exact View.refl _ _, hK _ _ _ _ _ _ _ q.ps q.off (q.tr _ (List.mem_cons_self ..)).1 (hr) (fun e => by rw [hd2, hd1 e, hdd, zga (by omega) (by omega)]; omega)⟩
theorem zgd : ∀ k : Nat, k <= 30 -> zIe Tryz.prog 41 k (yPa k)
 | 0, h => wPd 0 h fun j e => by cases e
 | k + 1, h => wPd (k + 1) h fun j e => by
  cases e;exact yXd k (ySe k (zgd k (by omega)))
structure Tv (m0 m : Mem) (F : Nat -> Prop) (r x : AV) : Prop where
 own : z6a m F r x
 new : ∀ g, F g -> m0 g = none /\ m g ≠ none
theorem Tv.off {gr : Nat} {m0 m m' : Mem} {F : Nat -> Prop} {r e : AV} (h : Tv m0 m F r e) (hgr : m0 gr ≠ none) (hO : Off gr m m') : Tv m0 m' F r e := by
 have k : ∀ b, F b -> m' b = m b := fun b hb => yVd hO (by rintro rfl; exact hgr (h.new _ hb).1) (h.new b hb).2;exact ⟨h.own.mem k, fun g hg => ⟨(h.new g hg).1, by rw [k g hg]; exact (h.new g hg).2⟩⟩
theorem Tv.set {m0 m : Mem} {F : Nat -> Prop} {r e : AV} (h : Tv m0 m F r e) {g : Nat} (hg : ¬ F g) (b : Blk) : Tv m0 (m.set g b) F r e := by
 have k : ∀ x, F x -> (m.set g b) x = m x := fun x hx => Mem.so (by rintro rfl; exact hg hx);exact ⟨h.own.mem k, fun x hx => ⟨(h.new x hx).1, by rw [k x hx]; exact (h.new x hx).2⟩⟩
theorem Tv.base {gr : Nat} {m0 m1 m : Mem} {F : Nat -> Prop} {r e : AV} (h : Tv m1 m F r e) (hO : Off gr m0 m1) (hgr : m1 gr ≠ none) : Tv m0 m F r e :=
 ⟨h.own, fun g hg => ⟨yAa hO hgr (h.new g hg).1, (h.new g hg).2⟩⟩
theorem Tv.not {m0 m : Mem} {F : Nat -> Prop} {r e : AV} (h : Tv m0 m F r e) {g : Nat} (hg : m0 g ≠ none) : ¬ F g := fun hF => hg (h.new g hF).1
theorem Tv.fresh {m0 m : Mem} {F : Nat -> Prop} {r e : AV} (h : Tv m0 m F r e) {g : Nat} (hg : m g = none) : ¬ F g := fun hF => (h.new g hF).2 hg
structure QH (m1 : Mem) (gr : Nat) (T : List Tk) (a : Nat) (d : Int) (bad : Bool) (bs : List (Nat × List AV)) (ts : List ((Nat -> Prop) × AV × AV)) (m : Mem) : Prop where
 ps : PS gr T a d bad m
 off : Off gr m1 m
 bx : ∀ b ∈ bs, m b.1 = some (.box b.2) /\ b.1 ≠ gr /\ m1 b.1 = none
 bd : bs.Pairwise fun x y => x.1 ≠ y.1
 tr : ∀ t ∈ ts, Tv m1 m t.1 t.2.1 t.2.2 /\ ∀ b ∈ bs, ¬ t.1 b.1
 td : ts.Pairwise fun x y => ∀ g, x.1 g -> ¬ y.1 g
section
variable {m1 m m' : Mem} {gr : Nat} {T : List Tk} {a a' : Nat} {d d' : Int} {bad bad' : Bool} {bs : List (Nat × List AV)} {ts : List ((Nat -> Prop) × AV × AV)}
theorem QH.start (h : PS gr T a d bad m) : QH m gr T a d bad [] [] m := ⟨h, Off.refl _ _, by simp, .nil, by simp, .nil⟩
theorem QH.box1 (h : QH m1 gr T a d bad bs ts m) {g : Nat} {cs : List AV} (hb : (g, cs) ∈ bs) : m g = some (.box cs) := (h.bx _ hb).1
theorem QH.call (h : QH m1 gr T a d bad bs ts m) (h1 : m1 gr ≠ none) (hO : Off gr m m') (hP : PS gr T a' d' bad' m') : QH m1 gr T a' d' bad' bs ts m' :=
 ⟨hP, h.off.trans hO, fun b hb => ⟨hO _ _ (h.bx b hb).2.1 (h.bx b hb).1, (h.bx b hb).2⟩, h.bd, fun t ht => ⟨(h.tr t ht).1.off h1 hO, (h.tr t ht).2⟩, h.td⟩
theorem QH.treeV (h : QH m1 gr T a d bad bs ts m) (h1 : m1 gr ≠ none) (hO : Off gr m m') (hP : PS gr T a' d' bad' m') {F : Nat -> Prop} {r x : AV} (hT : Tv m m' F r x) : QH m1 gr T a' d' bad' bs ((F, r, x) :: ts) m' := by
 have k := h.call h1 hO hP;refine ⟨k.ps, k.off, k.bx, k.bd, fun t ht => ?_, List.pairwise_cons.2 ⟨fun t ht g hg hq => ?_, k.td⟩⟩
 ·rcases List.mem_cons.1 ht with rfl | ht
  ·exact ⟨hT.base h.off h.ps.at, fun b hb => hT.not (by rw [(h.bx b hb).1]; simp)⟩
  exact k.tr t ht
 exact ((h.tr t ht).1.new g hq).2 (hT.new g hg).1
theorem QH.tree (h : QH m1 gr T a d bad bs ts m) (h1 : m1 gr ≠ none) (hO : Off gr m m') (hP : PS gr T a' d' bad' m') {F : Nat -> Prop} {r : AV} {e : Ex} (hT : Tr m m' F r e) : QH m1 gr T a' d' bad' bs ((F, r, e.av) :: ts) m' := h.treeV h1 hO hP ⟨hT.own, hT.new⟩
theorem QH.box (h : QH m1 gr T a d bad bs ts m) (h1 : m1 gr ≠ none) {g : Nat} (hg : m g = none) (cs : List AV) : QH m1 gr T a d bad ((g, cs) :: bs) ts (m.set g (.box cs)) := by
 have hne : g ≠ gr := by rintro rfl; exact h.ps.at hg
 have hE := zFa hg (.box cs);have k := h.call h1 (Off.ext hE) (h.ps.off hne (.box cs));refine ⟨k.ps, k.off, fun b hb => ?_, List.pairwise_cons.2 ⟨fun b hb e => ?_, k.bd⟩, fun t ht => ⟨(k.tr t ht).1, fun b hb => ?_⟩, k.td⟩
 ·rcases List.mem_cons.1 hb with rfl | hb
  ·exact ⟨zaa _ _ _, hne, yAa h.off h.ps.at hg⟩
  exact k.bx b hb
 ·have := (h.bx b hb).1;rw [<- e] at this;simp only at this;rw [hg] at this;cases this
 rcases List.mem_cons.1 hb with rfl | hb
 ·exact (h.tr t ht).1.fresh hg
 exact (k.tr t ht).2 b hb
theorem QH.put {l1 l2 : List (Nat × List AV)} {g : Nat} {cs : List AV} (h : QH m1 gr T a d bad (l1 ++ (g, cs) :: l2) ts m) (cs' : List AV) : QH m1 gr T a d bad (l1 ++ (g, cs') :: l2) ts (m.set g (.box cs')) := by
 have hg := h.bx (g, cs) (by simp);have hd := List.pairwise_append.1 h.bd;have hd2 := List.pairwise_cons.1 hd.2.1;have ho : ∀ b, b ∈ l1 ∨ b ∈ l2 -> b.1 ≠ g := fun b hb => by
  rcases hb with hb | hb
  ·exact hd.2.2 b hb (g, cs) (by simp)
  exact Ne.symm (hd2.1 b hb)
 refine ⟨h.ps.off hg.2.1 _, fun k x hk hx => ?_, fun b hb => ?_, ?_, fun t ht => ?_, h.td⟩
 ·have hne : k ≠ g := by rintro rfl; rw [hg.2.2] at hx; cases hx
  rw [Mem.so hne];exact h.off k x hk hx
 ·rcases List.mem_append.1 hb with hb | hb
  ·have := h.bx b (by simp [hb]);exact ⟨by rw [Mem.so (ho b (.inl hb))]; exact this.1, this.2⟩
  rcases List.mem_cons.1 hb with rfl | hb
  ·exact ⟨zaa _ _ _, hg.2⟩
  have := h.bx b (by simp [hb]);exact ⟨by rw [Mem.so (ho b (.inr hb))]; exact this.1, this.2⟩
 ·exact List.pairwise_append.2 ⟨hd.1, List.pairwise_cons.2 ⟨fun b hb => hd2.1 b hb, hd2.2⟩, fun x hx y hy => by
   rcases List.mem_cons.1 hy with rfl | hy
   ·exact hd.2.2 x hx (g, cs) (by simp)
   exact hd.2.2 x hx y (by simp [hy])⟩
 have hT := h.tr t ht;refine ⟨hT.1.set (hT.2 (g, cs) (by simp)) _, fun b hb => ?_⟩;rcases List.mem_append.1 hb with hb | hb
 ·exact hT.2 b (by simp [hb])
 rcases List.mem_cons.1 hb with rfl | hb
 ·exact hT.2 (g, cs) (by simp)
 exact hT.2 b (by simp [hb])
theorem QH.less (h : QH m1 gr T a d bad bs ts m) {bs' : List (Nat × List AV)} {ts' : List ((Nat -> Prop) × AV × AV)} (hb : bs'.Sublist bs) (ht : ts'.Sublist ts) : QH m1 gr T a d bad bs' ts' m :=
 ⟨h.ps, h.off, fun b k => h.bx b (hb.subset k), h.bd.sublist hb, fun t k => ⟨(h.tr t (ht.subset k)).1, fun b q => (h.tr t (ht.subset k)).2 b (hb.subset q)⟩, h.td.sublist ht⟩
theorem QH.plain (h : QH m1 gr T a d bad bs ts m) {r x : AV} (hx : z6a m (fun _ => False) r x) : QH m1 gr T a d bad bs ((fun _ => False, r, x) :: ts) m := by
 refine ⟨h.ps, h.off, h.bx, h.bd, fun t ht => ?_, List.pairwise_cons.2 ⟨fun t ht x hx => hx.elim, h.td⟩⟩;rcases List.mem_cons.1 ht with rfl | ht
 ·exact ⟨⟨hx, fun _ h => h.elim⟩, fun _ _ h => h⟩
 exact h.tr t ht
theorem QH.as_ {F : Nat -> Prop} {r x r' x' : AV} (h : QH m1 gr T a d bad bs ((F, r, x) :: ts) m) (hx : z6a m F r x -> z6a m F r' x') : QH m1 gr T a d bad bs ((F, r', x') :: ts) m := by
 refine ⟨h.ps, h.off, h.bx, h.bd, fun t ht => ?_, List.pairwise_cons.2 ⟨fun t ht => (List.pairwise_cons.1 h.td).1 t ht, (List.pairwise_cons.1 h.td).2⟩⟩;have h0 := h.tr (F, r, x) (by simp);rcases List.mem_cons.1 ht with rfl | ht
 ·exact ⟨⟨hx h0.1.own, h0.1.new⟩, h0.2⟩
 exact h.tr t (by simp [ht])
theorem QH.swap {s t : (Nat -> Prop) × AV × AV} (h : QH m1 gr T a d bad bs (s :: t :: ts) m) : QH m1 gr T a d bad bs (t :: s :: ts) m := by
 have d1 := List.pairwise_cons.1 h.td;have d2 := List.pairwise_cons.1 d1.2;refine ⟨h.ps, h.off, h.bx, h.bd, fun x hx => h.tr x ?_, List.pairwise_cons.2 ⟨fun x hx g hg hq => ?_, List.pairwise_cons.2 ⟨fun x hx => d1.1 x (by simp [hx]), d2.2⟩⟩⟩
 ·simp only [List.mem_cons] at hx ⊢;rcases hx with h | h | h
  ·exact .inr (.inl h)
  ·exact .inl h
  exact .inr (.inr h)
 rcases List.mem_cons.1 hx with rfl | hx
 ·exact d1.1 t (by simp) g hq hg
 exact d2.1 x hx g hg hq
theorem QH.join {F G : Nat -> Prop} {r x s y r' x' : AV} (h : QH m1 gr T a d bad bs ((G, s, y) :: (F, r, x) :: ts) m) (hx : z6a m F r x -> z6a m G s y -> (∀ g, F g -> ¬ G g) -> z6a m (fun g => F g ∨ G g) r' x') : QH m1 gr T a d bad bs (((fun g => F g ∨ G g), r', x') :: ts) m := by
 have d1 := List.pairwise_cons.1 h.td;have d2 := List.pairwise_cons.1 d1.2;have hG := h.tr (G, s, y) (by simp);have hF := h.tr (F, r, x) (by simp);refine ⟨h.ps, h.off, h.bx, h.bd, fun t ht => ?_, List.pairwise_cons.2 ⟨fun t ht g hg hq => ?_, d2.2⟩⟩
 ·rcases List.mem_cons.1 ht with rfl | ht
  ·refine ⟨⟨hx hF.1.own hG.1.own fun g h1 h2 => d1.1 (F, r, x) (by simp) g h2 h1, fun g hg => ?_⟩, fun b hb hg => ?_⟩
   ·exact hg.elim (hF.1.new g) (hG.1.new g)
   exact hg.elim (hF.2 b hb) (hG.2 b hb)
  exact h.tr t (by simp [ht])
 rcases hg with hg | hg
 ·exact d2.1 t ht g hg hq
 exact d1.1 t (by simp [ht]) g hg hq
theorem zyb {m : Mem} {F G : Nat -> Prop} {u o v o' x y z y' : List AV} (h : z6a m F (.agg (u ++ (o ++ v))) (.agg (x ++ (y ++ z)))) (hu : u.length = x.length) (ho : o.length = y.length) (k : z6a m G (.agg o') (.agg y')) (hd : ∀ g, F g -> ¬ G g) : z6a m (fun g => F g ∨ G g) (.agg (u ++ (o' ++ v))) (.agg (x ++ (y' ++ z))) := by
 cases h with | agg h1 hok =>
 cases k with | agg h2 hok' =>
 obtain ⟨A, R, x1, r1, e1, l1, k1, k2, d1, s1, s2⟩ := zBa.split h1;obtain ⟨rfl, rfl⟩ := List.append_inj e1 (by omega);obtain ⟨B, C, y1, z1, e2, l2, k3, k4, d2, s3, s4⟩ := zBa.split k2;obtain ⟨rfl, rfl⟩ := List.append_inj e2 (by omega);refine .agg (zBa.append (A := A) (B := fun g => G g ∨ C g) k1 (zBa.append (A := G) (B := C) h2 k4 (fun g hg hc => hd g (s2 g (s4 g hc)) hg) (fun _ h => .inl h) (fun _ h => .inr h)) (fun g hg hq => hq.elim (hd g (s1 g hg)) (fun hc => d1 g hg (s4 g hc))) (fun g hg => .inl (s1 g hg)) (fun g hg => hg.elim .inr (fun hc => .inl (s2 g (s4 g hc))))) ?_;simp only [List.all_append, Bool.and_eq_true] at hok ⊢;exact ⟨hok.1, hok', hok.2.2⟩
def xoc (E : TypeId) (n : Nat) (F : Nat -> Prop) (v : AV) (len : Nat) (m : Mem) : Prop := (v = .lst true 0 [] /\ len = 0) ∨ ∃ g c ys, v = .own g len c /\ F g /\ m g = some (.arr E n c ys)
theorem xoc.keep {E : TypeId} {n len : Nat} {F : Nat -> Prop} {v : AV} (h : xoc E n F v len m) (hk : ∀ g, F g -> m' g = m g) : xoc E n F v len m' := by
 rcases h with h | ⟨g, c, ys, h1, h2, h3⟩
 ·exact .inl h
 exact .inr ⟨g, c, ys, h1, h2, by rw [hk g h2]; exact h3⟩
theorem xoc.ok {E : TypeId} {n len : Nat} {F : Nat -> Prop} {v : AV} (h : xoc E n F v len m) : v.cells = [v] /\ zya v = true /\ v ≠ .undef := by
 rcases h with ⟨rfl, _⟩ | ⟨g, c, ys, rfl, h2, h3⟩ <;> exact ⟨rfl, rfl, by simp⟩
theorem QH.same (h : QH m1 gr T a d bad bs ts m) (h1 : m1 gr ≠ none) {F : Nat -> Prop} {r x : AV} (ht : (F, r, x) ∈ ts) (hO : Off gr m m') : ∀ g, F g -> m' g = m g := fun g hg => yVd hO (by rintro rfl; exact h1 ((h.tr _ ht).1.new _ hg).1) ((h.tr _ ht).1.new g hg).2
theorem QH.samePut (h : QH m1 gr T a d bad bs ts m) {F : Nat -> Prop} {r x : AV} (ht : (F, r, x) ∈ ts) {g : Nat} {cs : List AV} (hb : (g, cs) ∈ bs) (b : Blk) : ∀ k, F k -> (m.set g b) k = m k := fun k hk => Mem.so (by rintro rfl; exact (h.tr _ ht).2 _ hb hk)
theorem QH.sameNew (h : QH m1 gr T a d bad bs ts m) {F : Nat -> Prop} {r x : AV} (ht : (F, r, x) ∈ ts) {g : Nat} (hg : m g = none) (b : Blk) : ∀ k, F k -> (m.set g b) k = m k := fun k hk => Mem.so (by rintro rfl; exact ((h.tr _ ht).1.new _ hk).2 hg)
theorem QH.app {P : Program} {Ty E : TypeId} {n b : Nat} (hT : zab P Ty E n b) {F G : Nat -> Prop} {v x s : AV} {l cx : List AV} (h : QH m1 gr T a d bad bs ((G, .agg cx, x) :: (F, v, .lst false n l) :: ts) m) (h1 : m1 gr ≠ none) (hv : xoc E n F v l.length m)
  (hs : wwa m n s = some [.agg cx]) (hb : (2 * (l.length + 1) + 1024) * b <= 281474976710656) {k : AV -> Mem -> Prop}
  (hk : ∀ F' v' m', QH m1 gr T a d bad bs ((F', v', .lst false n (l ++ [x])) :: ts) m' -> xoc E n F' v' (l ++ [x]).length m' -> (∀ t ∈ ts, ∀ q, t.1 q -> m' q = m q) -> k v' m') : zNa P m k #[Ty, Ty] v s := by
 obtain ⟨z, hz, hzl⟩ := hT.zero;have hG := h.tr (G, .agg cx, x) (by simp);have hF := h.tr (F, v, .lst false n l) (by simp);have d1 := List.pairwise_cons.1 h.td;have d2 := List.pairwise_cons.1 d1.2;have hokx : ∀ y ∈ [AV.agg cx], y.cells.all zya = true := by
  intro y hy;rw [List.mem_singleton] at hy;subst hy;cases hG.1.own with | agg _ hok => exact hok
 unfold zNa;simp only [List.getElem?_toArray, List.getElem?_cons_zero, List.getElem?_cons_succ, hT.int, hT.elem, hT.size, hT.byte, hz, hs, true_and];refine ⟨hT.pos.1, hT.pos.2, hzl, ?_⟩
 -- what comes of it, in the row's block or in a new one
 have fin : ∀ (g' c' : Nat) (ys : List AV) (G0 : Nat -> Prop), zBa m G0 ys l -> ys.length = l.length -> (∀ b, G0 b -> F b) -> ¬ G0 g' -> (F g' ∨ m g' = none) -> k (.own g' (l.length + 1) c') (m.set g' (.arr E n c' (ys ++ [.agg cx]))) := by
  intro g' c' ys G0 hO hl hsub hn hg';have n1 : ¬ G g' := fun hg => hg'.elim (fun hf => d1.1 (F, v, .lst false n l) (by simp) g' hg hf) (fun hf => (hG.1.new g' hg).2 hf);have hm1 : m1 g' = none := hg'.elim (fun hf => (hF.1.new g' hf).1) (fun hf => yAa h.off h.ps.at hf);have hne : g' ≠ gr := by rintro rfl; exact h1 hm1
  have hbx : ∀ b ∈ bs, b.1 ≠ g' := fun b hb e => by
   rcases hg' with hf | hf
   ·exact hF.2 b hb (by rw [e]; exact hf)
   have := (h.bx b hb).1; rw [e, hf] at this; cases this
  have hts : ∀ t ∈ ts, ¬ t.1 g' := fun t ht hq => by
   rcases hg' with hf | hf
   ·exact d2.1 t ht g' hf hq
   exact ((h.tr t (by simp [ht])).1.new g' hq).2 hf
  have k0 : ∀ b, G0 b -> (m.set g' (.arr E n c' (ys ++ [.agg cx]))) b = m b := fun b hb => Mem.so (by rintro rfl; exact hn hb);have kG : ∀ b, G b -> (m.set g' (.arr E n c' (ys ++ [.agg cx]))) b = m b := fun b hb => Mem.so (by rintro rfl; exact n1 hb);have own : z6a (m.set g' (.arr E n c' (ys ++ [.agg cx]))) (fun b => (G0 b ∨ G b) ∨ b = g') (.own g' (l.length + 1) c') (.lst false n (l ++ [x])) :=
   .own (G := fun b => G0 b ∨ G b) (zaa _ _ _) (by simp [hl]) (zBa.snoc (hO.mem k0) (hG.1.own.mem kG) fun g h2 h3 => d1.1 (F, v, .lst false n l) (by simp) g h3 (hsub g h2)) (fun h => h.elim hn n1) (fun _ h => .inl h) (.inr rfl)
  refine hk (fun b => (G0 b ∨ G b) ∨ b = g') _ _ ⟨h.ps.off hne _, fun g x hg hx => ?_, fun b hb => ?_, h.bd, fun t ht => ?_, List.pairwise_cons.2 ⟨fun t ht g hg hq => ?_, d2.2⟩⟩ (.inr ⟨g', c', _, by simp, .inr rfl, zaa _ _ _⟩) (fun t ht q hq => Mem.so (by rintro rfl; exact hts t ht hq))
  ·have hg2 : g ≠ g' := by rintro rfl; rw [hm1] at hx; cases hx
   rw [Mem.so hg2];exact h.off g x hg hx
  ·rw [Mem.so (hbx b hb)];exact h.bx b hb
  ·rcases List.mem_cons.1 ht with rfl | ht
   ·refine ⟨⟨own, fun g hg => ?_⟩, fun b hb hg => ?_⟩
    ·rcases hg with (hg | hg) | rfl
     ·rw [k0 g hg]; exact hF.1.new g (hsub g hg)
     ·rw [kG g hg]; exact hG.1.new g hg
     exact ⟨hm1, by rw [zaa]; simp⟩
    rcases hg with (hg | hg) | hg
    ·exact hF.2 b hb (hsub _ hg)
    ·exact hG.2 b hb hg
    exact hbx b hb hg
   have := h.tr t (by simp [ht]);exact ⟨this.1.set (hts t ht) _, this.2⟩
  rcases hg with (hg | hg) | rfl
  ·exact d2.1 t ht g (hsub g hg) hq
  ·exact d1.1 t (by simp [ht]) g hg hq
  exact hts t ht hq
 rcases hv with ⟨rfl, h0⟩ | ⟨g, c, ys0, rfl, hFg, hmg⟩
 ·have hl : l = [] := List.eq_nil_of_length_eq_zero h0;subst hl;refine ⟨.inr rfl, by simpa using hb, ⟨fun h0 => (by cases h0), fun _ g c hg hle => ?_⟩⟩;have := fin g c [] (fun _ => False) .nil rfl (fun _ h => h.elim) id (.inr hg);simpa using this
 cases hF.1.own with
 | @own _ G0 _ _ _ _ T0 ys _ k1 k2 k3 k4 k5 k6 =>
  rw [hmg] at k1;obtain ⟨rfl, -, -, rfl⟩ : E = T0 /\ n = n /\ c = c /\ ys0 = ys := by
   simp only [Option.some.injEq, Blk.arr.injEq] at k1;exact ⟨k1.1, rfl, rfl, k1.2.2.2⟩
  simp only [hmg];refine ⟨trivial, trivial, trivial, k2, hokx, by simpa [k2] using hb, fun g' c' hg' hle => ?_⟩;have := fin g' c' ys0 G0 k3 k2 k5 (by
   rcases hg' with rfl | hg'
   ·exact k4
   exact fun hq => (hF.1.new g' (k5 _ hq)).2 hg') (hg'.imp (fun e => by rw [e]; exact hFg) id)
  simpa [k2] using this
theorem QH.rot {s t u : (Nat -> Prop) × AV × AV} (h : QH m1 gr T a d bad bs (s :: t :: u :: ts) m) : QH m1 gr T a d bad bs (s :: u :: t :: ts) m := by
 have d1 := List.pairwise_cons.1 h.td;have d2 := List.pairwise_cons.1 d1.2;have d3 := List.pairwise_cons.1 d2.2;refine ⟨h.ps, h.off, h.bx, h.bd, fun x hx => h.tr x ?_, List.pairwise_cons.2 ⟨fun x hx => d1.1 x ?_, List.pairwise_cons.2 ⟨fun x hx g hg hq => ?_, List.pairwise_cons.2 ⟨fun x hx => d2.1 x (by simp [hx]), d3.2⟩⟩⟩⟩
 ·simp only [List.mem_cons] at hx ⊢;rcases hx with h | h | h | h
  ·exact .inl h
  ·exact .inr (.inr (.inl h))
  ·exact .inr (.inl h)
  exact .inr (.inr (.inr h))
 ·simp only [List.mem_cons] at hx ⊢;rcases hx with h | h | h
  ·exact .inr (.inl h)
  ·exact .inl h
  exact .inr (.inr h)
 rcases List.mem_cons.1 hx with rfl | hx
 ·exact d2.1 u (by simp) g hq hg
 exact d3.1 x hx g hg hq
end
theorem zLe {gr : Nat} {T : List Tk} {a : Nat} {d : Int} {bad : Bool} {m : Mem} (h : PS gr T a d bad m) (hT : ∀ t ∈ T, t.fine) (s : ByteArray) (hs : 2 <= s.size) {K : AV -> Mem -> Prop}
  (hK : ∀ m' a' b', PS gr T a' d b' m' -> Off gr m m' -> zfa (kpR s) T a bad () a' b' -> K (.tup []) m') : zka Tryz.prog 54 [.ptr gr 0, .str s] m K :=
 wMd h s fun m' hP hO => hK m' _ _ hP hO (zqe hT hs _ rfl)
theorem z1b {gr : Nat} {T : List Tk} {a : Nat} {d : Int} {bad : Bool} {m : Mem} (h : PS gr T a d bad m) {K : AV -> Mem -> Prop}
  (hK : ∀ m' s k n a' b', PS gr T a' d b' m' -> Off gr m m' -> zfa nmP T a bad s a' b' -> K (.agg [.int .i64 k, .str s, .int .i64 n]) m') : zka Tryz.prog 53 [.ptr gr 0, .int .i64 1] m K :=
 wdc h 1 (by omega) fun m' hP hO => hK m' _ _ _ _ _ hP hO (yod _ rfl)
theorem yYd {gr : Nat} {T : List Tk} {a : Nat} {d : Int} {bad : Bool} {m : Mem} (h : PS gr T a d bad m) {K : AV -> Mem -> Prop}
  (hK : ∀ m' s k n a' b', PS gr T a' d b' m' -> Off gr m m' -> zfa xod T a bad n a' b' -> K (.agg [.int .i64 k, .str s, .int .i64 n]) m') : zka Tryz.prog 53 [.ptr gr 0, .int .i64 2] m K :=
 wdc h 2 (by omega) fun m' hP hO => hK m' _ _ _ _ _ hP hO (x1c _ rfl)
open _root_.ByteArray (empty)
theorem zzb {gr : Nat} {T : List Tk} {a : Nat} {d : Int} {bad : Bool} {m : Mem} (h : PS gr T a d bad m) (k : Int) (hk : k ≠ 0) {K : AV -> Mem -> Prop} (hK : K (.bool (decide ((hdT T a bad).k = k))) m) : zka Tryz.prog 122 [.ptr gr 0, .int .i64 k] m K := by
 have hb := h.box;have hle := h.le;have hsm := h.small;unfold pc at hb;refine wO Tryz.func122 ?_;refine rA ?_;try simp
 cases bad with
 | true =>
  have e : (decide ((hdT T a true).k = k)) = false := by rw [z0b]; simp; exact Ne.symm hk
  rw [e] at hK;(repeat refine qA ?_);refine AWp.rG (fun _ => false) (fun _ => false) [0, 1, 2, 3, 4, 5, 6, 7, 8, 9, 10, 11, 12, 13, 14, 15, 16, 17, 18, 19, 20, 21, 22, 23, 24, 25, 26, 27, 28, 29, 30, 31, 32] [0, 1, 2, 3, 4, 5, 6, 7, 8, 9, 10, 11, 12, 13, 14, 15, 16, 17, 18, 19, 20, 21, 22, 23, 24, 25, 26, 27, 28, 29, 30, 31, 32] (by kernel_rfl) ?_;simp [hb];refine AWp.ret (zea rfl ⟨_, _, View.refl _ _, ?_⟩);simpa using hK
 | false =>
  by_cases hlt : a < T.length
  ·have hx : ∀ m : Mem, yga Tryz.prog m 40 (.lst false 3 (T.map Tk.av)) (.int .i64 a) = some (.ref T[a].cells) := fun m => idx (y := T[a].av) es_40 (by simp [gE hlt]);rw [xUa hlt] at hK;(repeat refine qA ?_);refine AWp.rG (fun _ => false) (fun _ => false) [0, 1, 2, 3, 4, 5, 6, 7, 8, 9, 10, 11, 12, 13, 14, 15, 16, 17, 18, 19, 20, 21, 22, 23, 24, 25, 26, 27, 28, 29, 30, 31, 32] [0, 1, 2, 3, 4, 5, 6, 7, 8, 9, 10, 11, 12, 13, 14, 15, 16, 17, 18, 19, 20, 21, 22, 23, 24, 25, 26, 27, 28, 29, 30, 31, 32] (by kernel_rfl) ?_;have hl : (a : Int) < T.length := by omega
   simp [hb, hx, hl, Tk.cells_eq];refine AWp.ret (zea rfl ⟨_, _, View.refl _ _, ?_⟩);simpa using hK
  have e : (decide ((hdT T a false).k = k)) = false := by rw [wta (by omega)]; simp; exact Ne.symm hk
  rw [e] at hK;(repeat refine qA ?_);refine AWp.rG (fun _ => false) (fun _ => false) [0, 1, 2, 3, 4, 5, 6, 7, 8, 9, 10, 11, 12, 13, 14, 15, 16, 17, 18, 19, 20, 21, 22, 23, 24, 25, 26, 27, 28, 29, 30, 31, 32] [0, 1, 2, 3, 4, 5, 6, 7, 8, 9, 10, 11, 12, 13, 14, 15, 16, 17, 18, 19, 20, 21, 22, 23, 24, 25, 26, 27, 28, 29, 30, 31, 32] (by kernel_rfl) ?_;have hl : ¬ (a : Int) < T.length := by omega
  simp [hb, hl];refine AWp.ret (zea rfl ⟨_, _, View.refl _ _, ?_⟩);simpa using hK
theorem yna {gr : Nat} {T : List Tk} {a : Nat} {d : Int} {bad : Bool} {m : Mem} (h : PS gr T a d bad m) (b : Bool) {K : AV -> Mem -> Prop}
  (hK : ∀ m', PS gr T a d (bad || !b) m' -> Off gr m m' -> K (.tup []) m') : zka Tryz.prog 65 [.ptr gr 0, .bool b] m K := by
 have hb := h.box;unfold pc at hb;refine wO Tryz.func65 ?_;refine rA ?_;try simp
 cases b with
 | true =>
  simp at hK;refine fA ?_;refine kA ?_;exact ⟨[], .tup [], m, by simp [Tryz.f65, zQa], by simp; exact View.refl _ _, hK m h (Off.refl _ _)⟩
 | false =>
  simp at hK;refine tA ?_;refine rA ?_;simp [hb];refine ⟨[], .tup [], m.set gr (.box (pc T a d true)), by simp [Tryz.f65, zQa], by simp [pc]; exact View.refl _ _, hK _ (h.step a d true h.le) (Off.box _ _)⟩
theorem zhd {T : List Tk} {a : Nat} {bad : Bool} {k : Int} (hk : k ≠ 0) (h : (hdT T a bad).k = k) : bad = false /\ ∃ hlt : a < T.length, hdT T a bad = T[a] := by
 cases bad with
 | true => rw [z0b] at h; exact absurd h.symm hk
 | false =>
  refine ⟨rfl, ?_⟩;by_cases hlt : a < T.length
  ·exact ⟨hlt, xUa hlt⟩
  rw [wta (by omega)] at h; exact absurd h.symm hk
theorem wQd {gr : Nat} {T : List Tk} {a : Nat} {d : Int} {bad : Bool} {m : Mem} (h : PS gr T a d bad m) (k : Int) (hk : k ≠ 0) (s : ByteArray) {K : AV -> Mem -> Prop}
  (hK : ∀ m', PS gr T (if (hdT T a bad).is k s = true then a + 1 else a) d bad m' -> Off gr m m' -> K (.bool ((hdT T a bad).is k s)) m') : zka Tryz.prog 121 [.ptr gr 0, .int .i64 k, .str s] m K := by
 have hb := h.box;have hle := h.le;have hsm := h.small;unfold pc at hb;refine wO Tryz.func121 ?_;refine rA ?_;try simp
 (repeat refine qA ?_);refine AWp.rG (fun _ => false) (fun _ => false) [0, 1, 2, 3, 4, 5, 6, 7, 8, 9, 10, 11, 12, 13, 14, 15, 16, 17, 18] [0, 1, 2, 3, 4, 5, 6, 7, 8, 9, 10, 11, 12, 13, 14, 15, 16, 17, 18] (by kernel_rfl) ?_;simp;refine wA ?_;try simp
 refine zzb h k hk ?_;by_cases hkk : (hdT T a bad).k = k
 ·obtain ⟨rfl, hlt, e⟩ := zhd hk hkk;have hx : ∀ m : Mem, yga Tryz.prog m 40 (.lst false 3 (T.map Tk.av)) (.int .i64 a) = some (.ref T[a].cells) := fun m => idx (y := T[a].av) es_40 (by simp [gE hlt]);have hw : IntKind.wrap .i64 ((a : Int) + 1) = (a : Int) + 1 := zga (by omega) (by omega);rw [e] at hK hkk;simp [hkk, e, hb, hx, Tk.cells_eq];by_cases hs : T[a].s = s
  ·have hi : T[a].is k s = true := by simp [Tk.is, hkk, hs]
   rw [hi] at hK;simp at hK;(repeat refine qA ?_);refine AWp.condF (by simp [*]) ?_;refine kA ?_;try simp
   refine rA ?_;simp [hb, hw];refine rA ?_;try simp
   refine AWp.ret (zea rfl ⟨_, _, View.refl _ _, ?_⟩);have := hK _ (h.step (a + 1) d false (by omega)) (Off.box _ _);simpa [pc] using this
  have hi : T[a].is k s = false := by simp [Tk.is, hs]
  rw [hi] at hK;simp at hK;(repeat refine qA ?_);refine AWp.condT (by simp [*]) ?_;refine rA ?_;try simp
  refine AWp.ret (zea rfl ⟨_, _, View.refl _ _, ?_⟩);simpa using hK m h (Off.refl _ _)
 have hi : (hdT T a bad).is k s = false := by simp [Tk.is, hkk]
 rw [hi] at hK;simp at hK;simp [hkk];(repeat refine qA ?_);refine AWp.condT (by simp [*]) ?_;refine rA ?_;try simp
 refine AWp.ret (zea rfl ⟨_, _, View.refl _ _, ?_⟩);simpa using hK m h (Off.refl _ _)
theorem wFa {gr : Nat} {T : List Tk} {a : Nat} {d : Int} {bad : Bool} {m : Mem} (h : PS gr T a d bad m) (s : ByteArray) {K : AV -> Mem -> Prop}
  (hK : ∀ m', PS gr T (if (hdT T a bad).is 3 s = true then a + 1 else a) d bad m' -> Off gr m m' -> K (.bool ((hdT T a bad).is 3 s)) m') : zka Tryz.prog 61 [.ptr gr 0, .str s] m K := by
 refine wO Tryz.func61 ?_;refine rA ?_;try simp
 refine rA ?_;simp;refine wA ?_;try simp
 refine wQd h 3 (by omega) s fun m' h' hO => ?_;try simp
 refine AWp.ret (zea rfl ⟨_, _, View.refl _ _, ?_⟩);exact hK m' h' hO
theorem zPa {gr : Nat} {T : List Tk} {a : Nat} {d : Int} {bad : Bool} {m : Mem} (h : PS gr T a d bad m) (s : ByteArray) {K : AV -> Mem -> Prop}
  (hK : ∀ m', PS gr T (if (hdT T a bad).is 4 s = true then a + 1 else a) d bad m' -> Off gr m m' -> K (.bool ((hdT T a bad).is 4 s)) m') : zka Tryz.prog 66 [.ptr gr 0, .str s] m K := by
 refine wO Tryz.func66 ?_;refine rA ?_;try simp
 refine rA ?_;simp;refine wA ?_;try simp
 refine wQd h 4 (by omega) s fun m' h' hO => ?_;try simp
 refine AWp.ret (zea rfl ⟨_, _, View.refl _ _, ?_⟩);exact hK m' h' hO
theorem yZd {gr : Nat} {T : List Tk} {a : Nat} {d : Int} {bad : Bool} {m : Mem} (h : PS gr T a d bad m) {K : AV -> Mem -> Prop}
  (hK : ∀ m', PS gr T (if (hdT T a bad).k = 2 then a + 1 else a) d (!decide ((hdT T a bad).k = 2)) m' -> Off gr m m' -> K (.int .i64 (if (hdT T a bad).k = 2 then (hdT T a bad).n else (0 : Int))) m') : zka Tryz.prog 63 [.ptr gr 0] m K := by
 have hb := h.box;have hle := h.le;have hsm := h.small;have eE : empty = (⟨#[]⟩ : ByteArray) := rfl;unfold pc at hb;refine wO Tryz.func63 ?_;refine rA ?_;try simp
 refine rA ?_;simp;refine wA ?_;try simp
 refine zzb h 2 (by omega) ?_;by_cases hkk : (hdT T a bad).k = 2
 ·obtain ⟨rfl, hlt, e⟩ := zhd (by omega) hkk;have hx : ∀ m : Mem, yga Tryz.prog m 40 (.lst false 3 (T.map Tk.av)) (.int .i64 a) = some (.ref T[a].cells) := fun m => idx (y := T[a].av) es_40 (by simp [gE hlt]);have hw : IntKind.wrap .i64 ((a : Int) + 1) = (a : Int) + 1 := zga (by omega) (by omega);have hw2 : IntKind.wrap .i64 (a : Int) = (a : Int) := zga (by omega) (by omega);rw [e] at hK hkk;simp [hkk] at hK;simp [hkk, e];(repeat refine qA ?_);refine AWp.condF (by simp [*]) ?_;refine kA ?_;try simp
  refine rA ?_;simp [hb, hw];(repeat refine qA ?_);refine AWp.rG (fun _ => false) (fun _ => false) [0, 1, 2, 3, 4, 5, 6, 7, 8, 9, 10, 11, 12] [0, 1, 2, 3, 4, 5, 6, 7, 8, 9, 10, 11, 12] (by kernel_rfl) ?_;simp [hw, hw2, hx, Tk.cells_eq];refine AWp.ret (zea rfl ⟨_, _, View.refl _ _, ?_⟩);have := hK _ (h.step (a + 1) d false (by omega)) (Off.box _ _);simpa [pc] using this
 simp [hkk] at hK;simp [hkk];(repeat refine qA ?_);refine AWp.condT (by simp [*]) ?_;refine rA ?_;simp [hb];refine rA ?_;try simp
 refine AWp.ret (zea rfl ⟨_, _, View.refl _ _, ?_⟩);have := hK _ (h.step a d true (by omega)) (Off.box _ _);simpa [pc, eE] using this
theorem wkc {gr : Nat} {T : List Tk} {a : Nat} {d : Int} {bad : Bool} {m : Mem} (h : PS gr T a d bad m) {K : AV -> Mem -> Prop}
  (hK : ∀ m', PS gr T (if (hdT T a bad).k = 1 then a + 1 else a) d (!decide ((hdT T a bad).k = 1)) m' -> Off gr m m' -> K (.str (if (hdT T a bad).k = 1 then (hdT T a bad).s else (⟨#[]⟩ : ByteArray))) m') : zka Tryz.prog 62 [.ptr gr 0] m K := by
 have hb := h.box;have hle := h.le;have hsm := h.small;have eE : empty = (⟨#[]⟩ : ByteArray) := rfl;unfold pc at hb;refine wO Tryz.func62 ?_;refine rA ?_;try simp
 refine rA ?_;simp;refine wA ?_;try simp
 refine zzb h 1 (by omega) ?_;by_cases hkk : (hdT T a bad).k = 1
 ·obtain ⟨rfl, hlt, e⟩ := zhd (by omega) hkk;have hx : ∀ m : Mem, yga Tryz.prog m 40 (.lst false 3 (T.map Tk.av)) (.int .i64 a) = some (.ref T[a].cells) := fun m => idx (y := T[a].av) es_40 (by simp [gE hlt]);have hw : IntKind.wrap .i64 ((a : Int) + 1) = (a : Int) + 1 := zga (by omega) (by omega);have hw2 : IntKind.wrap .i64 (a : Int) = (a : Int) := zga (by omega) (by omega);rw [e] at hK hkk;simp [hkk] at hK;simp [hkk, e];(repeat refine qA ?_);refine AWp.condF (by simp [*]) ?_;refine kA ?_;try simp
  refine rA ?_;simp [hb, hw];(repeat refine qA ?_);refine AWp.rG (fun _ => false) (fun _ => false) [0, 1, 2, 3, 4, 5, 6, 7, 8, 9, 10, 11, 12] [0, 1, 2, 3, 4, 5, 6, 7, 8, 9, 10, 11, 12] (by kernel_rfl) ?_;simp [hw, hw2, hx, Tk.cells_eq];refine AWp.ret (zea rfl ⟨_, _, View.refl _ _, ?_⟩);have := hK _ (h.step (a + 1) d false (by omega)) (Off.box _ _);simpa [pc] using this
 simp [hkk] at hK;simp [hkk];(repeat refine qA ?_);refine AWp.condT (by simp [*]) ?_;refine rA ?_;simp [hb];refine rA ?_;try simp
 refine AWp.ret (zea rfl ⟨_, _, View.refl _ _, ?_⟩);have := hK _ (h.step a d true (by omega)) (Off.box _ _);simpa [pc, eE] using this
theorem xtb (n : Int) : zca Tryz.prog 86 [.int .i64 n] (Ex.mk 1 n ⟨#[]⟩ []).av := by
 have eE : empty = (⟨#[]⟩ : ByteArray) := rfl;have tk : ∀ e : Ex, List.take 4 e.av.cells = e.cells := fun e => List.take_of_length_le (by show e.cells.length <= 4; simp);have ln : ∀ e : Ex, e.av.cells.length = 4 := fun e => Ex.cells_len e;refine zca.le (r := .agg [.int .i64 1, .int .i64 n, .str ⟨#[]⟩, .lst true 0 []]) (args' := [.int .i64 n]) ?_ (Les.refl _) (by
  show Le _ (AV.agg (Ex.mk 1 n ⟨#[]⟩ []).cells);try unfold two
  rw [Ex.cells_mk];exact Le.agg (.cons (Le.refl _) (.cons (Le.refl _) (.cons (Le.refl _) (.cons (by first | exact Le.nil _ _ _ | exact Le.lst _ _ _) .nil)))))
 refine pO Tryz.func86 ?_;refine rA ?_;simp;intro g2;refine rA ?_;simp [zia, tk, ln, zda];exact AWp.ret (zbb (.inl rfl) rfl (by simp [eE, Ex.av]))
theorem y0d (s : ByteArray) : zca Tryz.prog 129 [.str s] (Ex.mk 2 0 s []).av := by
 have eE : empty = (⟨#[]⟩ : ByteArray) := rfl;have tk : ∀ e : Ex, List.take 4 e.av.cells = e.cells := fun e => List.take_of_length_le (by show e.cells.length <= 4; simp);have ln : ∀ e : Ex, e.av.cells.length = 4 := fun e => Ex.cells_len e;refine zca.le (r := .agg [.int .i64 2, .int .i64 0, .str s, .lst true 0 []]) (args' := [.str s]) ?_ (Les.refl _) (by
  show Le _ (AV.agg (Ex.mk 2 0 s []).cells);try unfold two
  rw [Ex.cells_mk];exact Le.agg (.cons (Le.refl _) (.cons (Le.refl _) (.cons (Le.refl _) (.cons (by first | exact Le.nil _ _ _ | exact Le.lst _ _ _) .nil)))))
 refine pO Tryz.func129 ?_;refine rA ?_;simp;intro g2;refine rA ?_;simp [zia, tk, ln, zda];exact AWp.ret (zbb (.inl rfl) rfl (by simp [eE, Ex.av]))
theorem wRd (s : ByteArray) (e : Ex) : zca Tryz.prog 130 [.str s, e.av] (Ex.mk 3 0 s [e]).av := by
 have eE : empty = (⟨#[]⟩ : ByteArray) := rfl;have tk : ∀ e : Ex, List.take 4 e.av.cells = e.cells := fun e => List.take_of_length_le (by show e.cells.length <= 4; simp);have ln : ∀ e : Ex, e.av.cells.length = 4 := fun e => Ex.cells_len e;refine zca.le (r := .agg [.int .i64 3, .int .i64 0, .str s, .lst true 4 [e.av]]) (args' := [.str s, e.av]) ?_ (Les.refl _) (by
  show Le _ (AV.agg (Ex.mk 3 0 s [e]).cells);try unfold two
  rw [Ex.cells_mk];exact Le.agg (.cons (Le.refl _) (.cons (Le.refl _) (.cons (Le.refl _) (.cons (by first | exact Le.nil _ _ _ | exact Le.lst _ _ _) .nil)))))
 refine pO Tryz.func130 ?_;refine rA ?_;simp;intro g3 g4 hg4;have hg3g4 : g3 ≠ g4 := by rintro rfl; simp [Mem.set] at hg4 <;> (split at hg4 <;> cases hg4)
 refine rA ?_;simp [zia, tk, ln, zda, hg3g4];exact AWp.ret (zbb (.inl rfl) rfl (by simp [eE, Ex.av]))
theorem w2a (k : Int) (x y : Ex) : zca Tryz.prog 85 [.int .i64 k, x.av, y.av] (two k x y).av := by
 have eE : empty = (⟨#[]⟩ : ByteArray) := rfl;have tk : ∀ e : Ex, List.take 4 e.av.cells = e.cells := fun e => List.take_of_length_le (by show e.cells.length <= 4; simp);have ln : ∀ e : Ex, e.av.cells.length = 4 := fun e => Ex.cells_len e;refine zca.le (r := .agg [.int .i64 k, .int .i64 0, .str ⟨#[]⟩, .lst true 4 [x.av, y.av]]) (args' := [.int .i64 k, x.av, y.av]) ?_ (Les.refl _) (by
  show Le _ (AV.agg (two k x y).cells);try unfold two
  rw [Ex.cells_mk];exact Le.agg (.cons (Le.refl _) (.cons (Le.refl _) (.cons (Le.refl _) (.cons (by first | exact Le.nil _ _ _ | exact Le.lst _ _ _) .nil)))))
 refine pO Tryz.func85 ?_;refine rA ?_;simp;intro g4 g5 hg5 g6 hg6;have hg4g5 : g4 ≠ g5 := by rintro rfl; simp [Mem.set] at hg5 <;> (split at hg5 <;> cases hg5)
 have hg4g6 : g4 ≠ g6 := by rintro rfl; simp [Mem.set] at hg6 <;> (split at hg6 <;> cases hg6)
 have hg5g6 : g5 ≠ g6 := by rintro rfl; simp [Mem.set] at hg6 <;> (split at hg6 <;> cases hg6)
 refine rA ?_;simp [zia, tk, ln, zda, hg4g5, hg4g6, hg5g6];exact AWp.ret (zbb (.inl rfl) rfl (by simp [eE, Ex.av]))
open _root_.ByteArray (empty)
theorem zfa.was {α : Type} {g : List Tk -> Option (α × List Tk)} {T : List Tk} {a a' : Nat} {b b' : Bool} {x : α} (h : zfa g T a b x a' b') : b' = false -> b = false := by
 intro e;cases b with
 | false => rfl
 | true => rw [h.ill (.inl rfl)] at e; cases e
theorem y1d : Le (.agg [.int .i64 0, .int .i64 0, .str ⟨#[]⟩, .lst true 0 []]) (Ex.mk 0 0 ⟨#[]⟩ []).av := by
 show Le _ (AV.agg (Ex.mk 0 0 ⟨#[]⟩ []).cells);rw [Ex.cells_mk];exact Le.agg (.cons (Le.refl _) (.cons (Le.refl _) (.cons (Le.refl _) (.cons (Le.nil _ _ _) .nil))))
theorem okE (e : Ex) : ∀ x ∈ e.cells, zya x = true := fun x hx => List.all_eq_true.1 (Ex.cells_ok e) x hx
theorem yoa {T : List Tk} {a : Nat} (ha : a <= T.length) {bad : Bool} (c : UInt8) : zfa (tkR (ch c)) T a bad () (if (hdT T a bad).is 4 (ch c) = true then a + 1 else a) (bad || !(hdT T a bad).is 4 (ch c)) := by
 cases bad with
 | true => simp; exact zfa.bad _ _ _ _ _
 | false =>
  by_cases hlt : a < T.length
  ·rw [xUa hlt];have hd : T.drop a = T[a] :: T.drop (a + 1) := List.drop_eq_getElem_cons hlt;cases hi : T[a].is 4 (ch c) with
   | true =>
    refine ⟨fun x0 r _ he => ?_, fun h => ?_⟩
    ·rw [hd] at he;simp only [tkR, tkS, hi, if_true, Option.map_some, Option.some.injEq, Prod.mk.injEq] at he;exact ⟨rfl, rfl, he.2⟩
    have h := h.resolve_left (by simp);rw [hd] at h;simp [tkR, tkS, hi] at h
   | false =>
    refine ⟨fun x0 r _ he => ?_, fun _ => rfl⟩;rw [hd] at he;simp [tkR, tkS, hi] at he
  rw [wta (by omega)];have hd : T.drop a = [] := List.drop_eq_nil_of_le (by omega);refine ⟨fun x0 r _ he => ?_, fun _ => by simp [Tk.is]⟩;rw [hd] at he;simp [tkR, tkS] at he
def wSd (P : Program) (n : FuncId) (k : Nat) (f : PE) : Prop :=
 ∀ (gr : Nat) (T : List Tk) (a : Nat) (d : Int) (bad : Bool) (m : Mem), PS gr T a d bad m -> (∀ t ∈ T, t.fine) -> (bad = false -> d = 30 - (k : Int)) -> ∀ K : AV -> Mem -> Prop,
  (∀ m' e a' d' bad', PS gr T a' d' bad' m' -> Off gr m m' -> zfa f T a bad e a' bad' -> (bad' = false -> d' = d) -> K e.av m') -> zka P n [.ptr gr 0] m K
theorem wlc (k : Nat) (hS : wSd Tryz.prog 79 k (yPa k)) (kk : Int) {gr : Nat} {T : List Tk} {a : Nat} {d : Int} {bad : Bool} {m : Mem} (hP : PS gr T a d bad m) (hT : ∀ t ∈ T, t.fine) (hd : bad = false -> d = 30 - (k : Int)) {K : AV -> Mem -> Prop}
  (hK : ∀ m' e a' d' bad', PS gr T a' d' bad' m' -> Off gr m m' -> zfa (y1b (yPa k) kk) T a bad e a' bad' -> (bad' = false -> d' = d) -> K e.av m') : zka Tryz.prog 182 [.ptr gr 0, .int .i64 kk] m K := by
 have hgr := hP.at
 refine wO Tryz.func182 ?_;refine rA ?_;simp;intro g4 hg4;have h := (PH.start hP).box hgr hg4 [.int .i64 0, .int .i64 0, .str empty, .lst true 0 []];refine AWp.gen (fun st => st.sl 0 = .ptr gr 0 /\ st.sl 1 = .int .i64 kk /\ st.sl 4 = .ptr g4 0 /\ st.mem = m.set g4 (.box [.int .i64 0, .int .i64 0, .str empty, .lst true 0 []])) ⟨by simp, by simp, by simp, by simp⟩ ?_;generalize m.set g4 (.box [.int .i64 0, .int .i64 0, .str empty, .lst true 0 []]) = m1 at *;rintro st ⟨s0, s1, s4, sm⟩;refine rA ?_;simp [s0];refine wA ?_;simp [sm];refine zPa h.ps (ch 40) fun mA hPn hOn => ?_;try simp
 refine wA ?_;try simp
 refine yna hPn _ fun n1 hPm hOm => ?_;obtain ⟨a1, b1, hPm, run1⟩ : ∃ a' b', PS gr T a' d b' n1 /\ zfa (tkR (ch 40)) T a bad () a' b' := ⟨_, _, hPm, yoa h.ps.le _⟩;have h := h.call hgr (hOn.trans hOm) hPm;have was1 := zfa.was run1;clear hPn hOn hPm hOm;try simp
 refine AWp.gen (fun st => st.sl 0 = .ptr gr 0 /\ st.sl 1 = .int .i64 kk /\ st.sl 4 = .ptr g4 0 /\ st.mem = n1) ⟨by first | (simp; done) | (simp [s0]; done), by first | (simp; done) | (simp [s1]; done), by first | (simp; done) | (simp [s4]; done), by first | (simp; done) | (simp [sm]; done)⟩ ?_
 clear s0 s1 s4 sm;rintro st ⟨s0, s1, s4, sm⟩;refine rA ?_;simp [s0];refine wA ?_;simp [sm];refine hS gr T _ _ _ _ h.ps hT (fun e => hd (was1 e)) _ fun m2 e2 a2 d2 b2 hPn hOn run2 hdd2 => ?_;have h := h.call hgr hOn hPn;have was2 := zfa.was run2;clear hPn hOn;simp [Ex.av];intro g5 hg2;try refine ⟨okE _, ?_⟩
 have h := h.box hgr hg2 e2.cells;refine AWp.gen (fun st => st.sl 0 = .ptr gr 0 /\ st.sl 1 = .int .i64 kk /\ st.sl 4 = .ptr g4 0 /\ st.sl 5 = .ptr g5 0 /\ st.mem = m2.set g5 (.box e2.cells)) ⟨by first | (simp; done) | (simp [s0]; done), by first | (simp; done) | (simp [s1]; done), by first | (simp; done) | (simp [s4]; done), by simp, by first | (simp; done) | (simp [sm]; done)⟩ ?_
 clear s0 s1 s4 sm;rintro st ⟨s0, s1, s4, s5, sm⟩;generalize m2.set g5 (.box e2.cells) = n2 at *;clear hg2;refine rA ?_;simp [s0];refine wA ?_;simp [sm];refine zPa h.ps (ch 44) fun mA hPn hOn => ?_;try simp
 refine wA ?_;try simp
 refine yna hPn _ fun n3 hPm hOm => ?_;obtain ⟨a3, b3, hPm, run3⟩ : ∃ a' b', PS gr T a' d2 b' n3 /\ zfa (tkR (ch 44)) T a2 b2 () a' b' := ⟨_, _, hPm, yoa h.ps.le _⟩;have h := h.call hgr (hOn.trans hOm) hPm;have was3 := zfa.was run3;clear hPn hOn hPm hOm;try simp
 refine AWp.gen (fun st => st.sl 0 = .ptr gr 0 /\ st.sl 1 = .int .i64 kk /\ st.sl 4 = .ptr g4 0 /\ st.sl 5 = .ptr g5 0 /\ st.mem = n3) ⟨by first | (simp; done) | (simp [s0]; done), by first | (simp; done) | (simp [s1]; done), by first | (simp; done) | (simp [s4]; done), by first | (simp; done) | (simp [s5]; done), by first | (simp; done) | (simp [sm]; done)⟩ ?_
 clear s0 s1 s4 s5 sm;rintro st ⟨s0, s1, s4, s5, sm⟩;refine rA ?_;simp [s0];refine wA ?_;simp [sm];refine hS gr T _ _ _ _ h.ps hT (fun e => by rw [hdd2 (was3 e)]; exact hd (was1 (was2 (was3 e)))) _ fun m4 e4 a4 d4 b4 hPn hOn run4 hdd4 => ?_;have h := h.call hgr hOn hPn;have was4 := zfa.was run4;clear hPn hOn;simp [Ex.av];intro g6 hg4;try refine ⟨okE _, ?_⟩
 have h := h.box hgr hg4 e4.cells;refine AWp.gen (fun st => st.sl 0 = .ptr gr 0 /\ st.sl 1 = .int .i64 kk /\ st.sl 4 = .ptr g4 0 /\ st.sl 5 = .ptr g5 0 /\ st.sl 6 = .ptr g6 0 /\ st.mem = m4.set g6 (.box e4.cells)) ⟨by first | (simp; done) | (simp [s0]; done), by first | (simp; done) | (simp [s1]; done), by first | (simp; done) | (simp [s4]; done), by first | (simp; done) | (simp [s5]; done), by simp, by first | (simp; done) | (simp [sm]; done)⟩ ?_
 clear s0 s1 s4 s5 sm;rintro st ⟨s0, s1, s4, s5, s6, sm⟩;generalize m4.set g6 (.box e4.cells) = n4 at *;clear hg4;refine rA ?_;simp [s0];refine wA ?_;simp [sm];refine zPa h.ps (ch 41) fun mA hPn hOn => ?_;try simp
 refine wA ?_;try simp
 refine yna hPn _ fun n5 hPm hOm => ?_;obtain ⟨a5, b5, hPm, run5⟩ : ∃ a' b', PS gr T a' d4 b' n5 /\ zfa (tkR (ch 41)) T a4 b4 () a' b' := ⟨_, _, hPm, yoa h.ps.le _⟩;have h := h.call hgr (hOn.trans hOm) hPm;have was5 := zfa.was run5;clear hPn hOn hPm hOm;try simp
 refine AWp.gen (fun st => st.sl 0 = .ptr gr 0 /\ st.sl 1 = .int .i64 kk /\ st.sl 4 = .ptr g4 0 /\ st.sl 5 = .ptr g5 0 /\ st.sl 6 = .ptr g6 0 /\ st.mem = n5) ⟨by first | (simp; done) | (simp [s0]; done), by first | (simp; done) | (simp [s1]; done), by first | (simp; done) | (simp [s4]; done), by first | (simp; done) | (simp [s5]; done), by first | (simp; done) | (simp [s6]; done), by first | (simp; done) | (simp [sm]; done)⟩ ?_
 clear s0 s1 s4 s5 s6 sm;rintro st ⟨s0, s1, s4, s5, s6, sm⟩;have w5 := h.box1 (g := g5) (cs := e2.cells) (by simp);have w6 := h.box1 (g := g6) (cs := e4.cells) (by simp);have w4 := h.box1 (g := g4) (cs := [.int .i64 0, .int .i64 0, .str empty, .lst true 0 []]) (by simp);have tk : ∀ e : Ex, List.take 4 e.cells = e.cells := fun e => List.take_of_length_le (by simp);refine rA ?_;simp [s1, s5, s6, sm, w5, w6, tk];refine oC' (r := (two kk e2 e4).av) (by simpa [Ex.av] using w2a kk e2 e4) ?_;simp [s4, sm, w4, Ex.av];try refine ⟨okE _, ?_⟩
 have q := PH.put (l1 := [(g6, e4.cells), (g5, e2.cells)]) (cs' := (two kk e2 e4).cells) h;refine AWp.ret ⟨[(two kk e2 e4).av], (two kk e2 e4).av, _, by simp [Tryz.f182, zQa, s4, Ex.av, tk], by (try simp); exact View.refl _ _, hK _ _ _ _ _ q.ps q.off (wWb kk run1 run2 run3 run4 run5) (fun e => (hdd4 (was5 e)).trans (hdd2 (was3 (was4 (was5 e)))))⟩
theorem yjb {T : List Tk} {a : Nat} {bad : Bool} {k : Int} (hk : k ≠ 0) {s : ByteArray} (h : (hdT T a bad).is k s = true) : bad = false /\ ∃ hlt : a < T.length, hdT T a bad = T[a] /\ T[a].is k s = true := by
 have hk2 : (hdT T a bad).k = k := by unfold Tk.is at h; simp at h; exact h.1
 obtain ⟨h1, hlt, h2⟩ := zhd hk hk2;exact ⟨h1, hlt, h2, by rw [<- h2]; exact h⟩
theorem yBc {T : List Tk} {a : Nat} {c : UInt8} (h : (hdT T a false).is 4 (ch c) = false) : xPd T a c := fun hlt => by rw [xUa hlt] at h; exact h
theorem wmc (k : Nat) {gr : Nat} {T : List Tk} {a : Nat} {d : Int} {bad : Bool} {m : Mem} (hP : PS gr T a d bad m) (hT : ∀ t ∈ T, t.fine) (hd : bad = false -> d = 30 - (k : Int) /\ wSd Tryz.prog 79 k (yPa k)) {K : AV -> Mem -> Prop}
  (hK : ∀ m' e a' d' bad', PS gr T a' d' bad' m' -> Off gr m m' -> zfa (yda (yPa k)) T a bad e a' bad' -> (bad' = false -> d' = d) -> K e.av m') : zka Tryz.prog 162 [.ptr gr 0] m K := by
 have hgr := hP.at
 have tk : ∀ e : Ex, List.take 4 e.cells = e.cells := fun e => List.take_of_length_le (by simp);have eE : empty = (⟨#[]⟩ : ByteArray) := rfl;refine wO Tryz.func162 ?_;refine rA ?_;simp;intro g2 hg2;have h := (PH.start hP).box hgr hg2 [.int .i64 0, .int .i64 0, .str empty, .lst true 0 []];refine AWp.gen (fun st => st.sl 0 = .ptr gr 0 /\ st.sl 2 = .ptr g2 0 /\ st.mem = m.set g2 (.box [.int .i64 0, .int .i64 0, .str empty, .lst true 0 []])) ⟨by simp, by simp, by simp⟩ ?_;generalize m.set g2 (.box [.int .i64 0, .int .i64 0, .str empty, .lst true 0 []]) = m1 at *;rintro st ⟨s0, s2, sm⟩;(repeat refine qA ?_);refine bA ?_;refine rA ?_;simp [s0];refine wA ?_;simp [sm];refine zzb h.ps 2 (by omega) ?_;try simp
 by_cases h2 : (hdT T a bad).k = 2
 ·obtain ⟨rfl, hlt, ht⟩ := zhd (by omega) h2;simp only [h2, decide_true];refine tA ?_;refine rA ?_;simp [s0];refine wA ?_;try simp
  try simp [sm]
  refine yZd h.ps fun mA hPn hOn => ?_;simp only [h2, if_true, decide_true, Bool.not_true] at hPn ⊢;have h := h.call hgr hOn hPn;clear hPn hOn sm;try simp
  refine oC' (r := (Ex.mk 1 (hdT T a false).n ⟨#[]⟩ []).av) (by simpa using xtb (hdT T a false).n) ?_;have w2 := h.box1 (g := g2) (cs := [.int .i64 0, .int .i64 0, .str empty, .lst true 0 []]) (by simp);simp [s2, w2, Ex.av, tk];try refine ⟨okE _, ?_⟩
  have q := PH.put (l1 := []) (cs' := (Ex.mk 1 (hdT T a false).n ⟨#[]⟩ []).cells) h;refine AWp.ret ⟨[(Ex.mk 1 (hdT T a false).n ⟨#[]⟩ []).av], (Ex.mk 1 (hdT T a false).n ⟨#[]⟩ []).av, _, by simp [Tryz.f162, zQa, s2, Ex.av, tk], by (try simp); exact View.refl _ _, hK _ _ _ _ _ q.ps q.off (zfa.cons hlt (g := fun ts => some (.mk 1 (hdT T a false).n ⟨#[]⟩ [], ts)) (zfa.pure _ _ _ _) (fun l => by rw [ht] at h2 ⊢; exact wgc h2)) (fun _ => rfl)⟩
 simp only [h2, decide_false];refine fA ?_;refine AWp.gen (fun st => st.sl 0 = .ptr gr 0 /\ st.sl 2 = .ptr g2 0 /\ st.mem = m1) ⟨by first | (simp; done) | (simp [s0]; done), by first | (simp; done) | (simp [s2]; done), by first | (simp; done) | (simp [sm]; done)⟩ ?_
 clear s0 s2 sm;rintro st ⟨s0, s2, sm⟩;refine rA ?_;simp [s0];refine wA ?_;simp [sm];refine zzb h.ps 1 (by omega) ?_;try simp
 by_cases h1 : (hdT T a bad).k = 1
 ·obtain ⟨rfl, hlt, ht⟩ := zhd (by omega) h1;simp only [h1, decide_true];refine tA ?_;refine rA ?_;simp [s0];refine wA ?_;try simp
  try simp [sm]
  refine wkc h.ps fun mA hPn hOn => ?_;simp only [h1, if_true, decide_true, Bool.not_true] at hPn ⊢;have h := h.call hgr hOn hPn;clear hPn hOn;try simp
  obtain ⟨w, hw⟩ : ∃ w, w = (hdT T a false).s := ⟨_, rfl⟩;rw [<- hw];have hat : ∀ l, yda (yPa k) (T[a] :: l) = xnc (yPa k) w l := fun l => by
   have e := xsb (sub := yPa k) (t := T[a]) (l := l) (by rw [<- ht]; exact h1);rw [e, hw, ht]
  refine AWp.gen (fun st => st.sl 0 = .ptr gr 0 /\ st.sl 2 = .ptr g2 0 /\ st.sl 3 = .str w /\ st.mem = mA) ⟨by first | (simp; done) | (simp [s0]; done), by first | (simp; done) | (simp [s2]; done), by simp, by first | (simp; done) | (simp [sm]; done)⟩ ?_
  clear s0 s2 sm;rintro st ⟨s0, s2, s3, sm⟩;refine rA ?_;simp [s0];refine wA ?_;simp [sm];refine zPa h.ps (ch 91) fun mB hPn hOn => ?_;have h := h.call hgr hOn hPn;clear hPn hOn;try simp
  cases hq : (hdT T (a + 1) false).is 4 (ch 91) with
  | false =>
   try simp
   refine tA ?_;rw [hq] at h;simp at h;refine AWp.gen (fun st => st.sl 0 = .ptr gr 0 /\ st.sl 2 = .ptr g2 0 /\ st.sl 3 = .str w /\ st.mem = mB) ⟨by first | (simp; done) | (simp [s0]; done), by first | (simp; done) | (simp [s2]; done), by first | (simp; done) | (simp [s3]; done), by first | (simp; done) | (simp [sm]; done)⟩ ?_
   clear s0 s2 s3 sm;rintro st ⟨s0, s2, s3, sm⟩;refine rA ?_;simp [s3];refine oC' (r := (Ex.mk 2 0 w []).av) (by simpa using y0d w) ?_;have w2 := h.box1 (g := g2) (cs := [.int .i64 0, .int .i64 0, .str empty, .lst true 0 []]) (by simp);simp [s2, sm, w2, Ex.av, tk];try refine ⟨okE _, ?_⟩
   have q := PH.put (l1 := []) (cs' := (Ex.mk 2 0 w []).cells) h;refine AWp.ret ⟨[(Ex.mk 2 0 w []).av], (Ex.mk 2 0 w []).av, _, by simp [Tryz.f162, zQa, s2, Ex.av, tk], by (try simp); exact View.refl _ _, hK _ _ _ _ _ q.ps q.off (zfa.cons hlt (whc (yBc hq)) hat) (fun _ => rfl)⟩
  | true =>
   obtain ⟨_, hlt2, ht2, hmk⟩ := yjb (by omega) hq;try simp
   refine fA ?_;refine kA ?_;try simp
   rw [hq] at h;simp at h;obtain ⟨hd0, hS⟩ := hd rfl;refine AWp.gen (fun st => st.sl 0 = .ptr gr 0 /\ st.sl 2 = .ptr g2 0 /\ st.sl 3 = .str w /\ st.mem = mB) ⟨by first | (simp; done) | (simp [s0]; done), by first | (simp; done) | (simp [s2]; done), by first | (simp; done) | (simp [s3]; done), by first | (simp; done) | (simp [sm]; done)⟩ ?_
   clear s0 s2 s3 sm;rintro st ⟨s0, s2, s3, sm⟩;refine rA ?_;simp [s0];refine wA ?_;simp [sm];refine hS gr T _ _ _ _ h.ps hT (fun _ => hd0) _ fun m2 e2 a2 d2 b2 hPn hOn run2 hdd2 => ?_;have h := h.call hgr hOn hPn;have was2 := zfa.was run2;clear hPn hOn;simp [Ex.av];intro g4 hg2;try refine ⟨okE _, ?_⟩
   have h := h.box hgr hg2 e2.cells;refine AWp.gen (fun st => st.sl 0 = .ptr gr 0 /\ st.sl 2 = .ptr g2 0 /\ st.sl 3 = .str w /\ st.sl 4 = .ptr g4 0 /\ st.mem = m2.set g4 (.box e2.cells)) ⟨by first | (simp; done) | (simp [s0]; done), by first | (simp; done) | (simp [s2]; done), by first | (simp; done) | (simp [s3]; done), by simp, by first | (simp; done) | (simp [sm]; done)⟩ ?_
   clear s0 s2 s3 sm;rintro st ⟨s0, s2, s3, s4, sm⟩;generalize m2.set g4 (.box e2.cells) = n2 at *;clear hg2;refine rA ?_;simp [s0];refine wA ?_;simp [sm];refine zPa h.ps (ch 93) fun mA hPn hOn => ?_;try simp
   refine wA ?_;try simp
   refine yna hPn _ fun n3 hPm hOm => ?_;obtain ⟨a3, b3, hPm, run3⟩ : ∃ a' b', PS gr T a' d2 b' n3 /\ zfa (tkR (ch 93)) T a2 b2 () a' b' := ⟨_, _, hPm, yoa h.ps.le _⟩;have h := h.call hgr (hOn.trans hOm) hPm;have was3 := zfa.was run3;clear hPn hOn hPm hOm;try simp
   refine AWp.gen (fun st => st.sl 0 = .ptr gr 0 /\ st.sl 2 = .ptr g2 0 /\ st.sl 3 = .str w /\ st.sl 4 = .ptr g4 0 /\ st.mem = n3) ⟨by first | (simp; done) | (simp [s0]; done), by first | (simp; done) | (simp [s2]; done), by first | (simp; done) | (simp [s3]; done), by first | (simp; done) | (simp [s4]; done), by first | (simp; done) | (simp [sm]; done)⟩ ?_
   clear s0 s2 s3 s4 sm;rintro st ⟨s0, s2, s3, s4, sm⟩;have w4 := h.box1 (g := g4) (cs := e2.cells) (by simp);refine rA ?_;simp [s3, s4, sm, w4, tk];refine oC' (r := (Ex.mk 3 0 w [e2]).av) (by simpa [Ex.av] using wRd w e2) ?_;have w2 := h.box1 (g := g2) (cs := [.int .i64 0, .int .i64 0, .str empty, .lst true 0 []]) (by simp);simp [s2, sm, w2, Ex.av, tk];try refine ⟨okE _, ?_⟩
   have q := PH.put (l1 := [(g4, e2.cells)]) (cs' := (Ex.mk 3 0 w [e2]).cells) h;refine AWp.ret ⟨[(Ex.mk 3 0 w [e2]).av], (Ex.mk 3 0 w [e2]).av, _, by simp [Tryz.f162, zQa, s2, Ex.av, tk], by (try simp); exact View.refl _ _, hK _ _ _ _ _ q.ps q.off (zfa.cons hlt (wic hlt2 hmk (ydd w run2 run3)) hat) (fun e => hdd2 (was3 e))⟩
 simp only [h1, decide_false];refine fA ?_;refine AWp.gen (fun st => st.sl 0 = .ptr gr 0 /\ st.sl 2 = .ptr g2 0 /\ st.mem = m1) ⟨by first | (simp; done) | (simp [s0]; done), by first | (simp; done) | (simp [s2]; done), by first | (simp; done) | (simp [sm]; done)⟩ ?_
 clear s0 s2 sm;rintro st ⟨s0, s2, sm⟩;refine rA ?_;simp [s0];refine wA ?_;simp [sm];refine zPa h.ps (ch 40) fun mA hPn hOn => ?_;have h := h.call hgr hOn hPn;clear hPn hOn;try simp
 cases hq : (hdT T a bad).is 4 (ch 40) with
 | true =>
  obtain ⟨rfl, hlt, ht, hmk⟩ := yjb (by omega) hq;try simp
  refine tA ?_;rw [hq] at h;simp at h;obtain ⟨hd0, hS⟩ := hd rfl;refine AWp.gen (fun st => st.sl 0 = .ptr gr 0 /\ st.sl 2 = .ptr g2 0 /\ st.mem = mA) ⟨by first | (simp; done) | (simp [s0]; done), by first | (simp; done) | (simp [s2]; done), by first | (simp; done) | (simp [sm]; done)⟩ ?_
  clear s0 s2 sm;rintro st ⟨s0, s2, sm⟩;refine rA ?_;simp [s0];refine wA ?_;simp [sm];refine hS gr T _ _ _ _ h.ps hT (fun _ => hd0) _ fun m2 e2 a2 d2 b2 hPn hOn run2 hdd2 => ?_;have h := h.call hgr hOn hPn;have was2 := zfa.was run2;clear hPn hOn;simp [Ex.av];intro g5 hg2;try refine ⟨okE _, ?_⟩
  have h := h.box hgr hg2 e2.cells;refine AWp.gen (fun st => st.sl 0 = .ptr gr 0 /\ st.sl 2 = .ptr g2 0 /\ st.sl 5 = .ptr g5 0 /\ st.mem = m2.set g5 (.box e2.cells)) ⟨by first | (simp; done) | (simp [s0]; done), by first | (simp; done) | (simp [s2]; done), by simp, by first | (simp; done) | (simp [sm]; done)⟩ ?_
  clear s0 s2 sm;rintro st ⟨s0, s2, s5, sm⟩;generalize m2.set g5 (.box e2.cells) = n2 at *;clear hg2;refine rA ?_;simp [s0];refine wA ?_;simp [sm];refine zPa h.ps (ch 41) fun mA hPn hOn => ?_;try simp
  refine wA ?_;try simp
  refine yna hPn _ fun n3 hPm hOm => ?_;obtain ⟨a3, b3, hPm, run3⟩ : ∃ a' b', PS gr T a' d2 b' n3 /\ zfa (tkR (ch 41)) T a2 b2 () a' b' := ⟨_, _, hPm, yoa h.ps.le _⟩;have h := h.call hgr (hOn.trans hOm) hPm;have was3 := zfa.was run3;clear hPn hOn hPm hOm;try simp
  refine AWp.gen (fun st => st.sl 0 = .ptr gr 0 /\ st.sl 2 = .ptr g2 0 /\ st.sl 5 = .ptr g5 0 /\ st.mem = n3) ⟨by first | (simp; done) | (simp [s0]; done), by first | (simp; done) | (simp [s2]; done), by first | (simp; done) | (simp [s5]; done), by first | (simp; done) | (simp [sm]; done)⟩ ?_
  clear s0 s2 s5 sm;rintro st ⟨s0, s2, s5, sm⟩;have w5 := h.box1 (g := g5) (cs := e2.cells) (by simp);refine rA ?_;simp [s5, sm, w5, tk];have w2 := h.box1 (g := g2) (cs := [.int .i64 0, .int .i64 0, .str empty, .lst true 0 []]) (by simp);simp [s2, sm, w2, Ex.av, tk];try refine ⟨okE _, ?_⟩
  have q := PH.put (l1 := [(g5, e2.cells)]) (cs' := (e2).cells) h;refine AWp.ret ⟨[(e2).av], (e2).av, _, by simp [Tryz.f162, zQa, s2, Ex.av, tk], by (try simp); exact View.refl _ _, hK _ _ _ _ _ q.ps q.off (zfa.cons hlt (zSc run2 run3) (fun l => wfc hmk)) (fun e => hdd2 (was3 e))⟩
 | false =>
  have hpar := hq;try simp
  refine fA ?_;rw [hq] at h;simp at h;refine AWp.gen (fun st => st.sl 0 = .ptr gr 0 /\ st.sl 2 = .ptr g2 0 /\ st.mem = mA) ⟨by first | (simp; done) | (simp [s0]; done), by first | (simp; done) | (simp [s2]; done), by first | (simp; done) | (simp [sm]; done)⟩ ?_
  clear s0 s2 sm;rintro st ⟨s0, s2, sm⟩;refine rA ?_;simp [s0];refine wA ?_;simp [sm];refine wFa h.ps wjb fun mC hPn hOn => ?_;have h := h.call hgr hOn hPn;clear hPn hOn;try simp
  cases hmin : (hdT T a bad).is 3 wjb with
  | true =>
   obtain ⟨rfl, hlt, ht, hmk⟩ := yjb (by omega) hmin;try simp
   refine tA ?_;rw [hmin] at h;simp at h;obtain ⟨hd0, hS⟩ := hd rfl;refine rA ?_;simp [s0];refine wA ?_;try simp
   try simp [sm]
   refine wlc k hS 7 h.ps hT (fun _ => hd0) fun mP e2 a2 d2 b2 hPn hOn run2 hdd2 => ?_;have h := h.call hgr hOn hPn;clear hPn hOn;try simp
   have w2 := h.box1 (g := g2) (cs := [.int .i64 0, .int .i64 0, .str empty, .lst true 0 []]) (by simp);simp [s2, w2, Ex.av, tk];try refine ⟨okE _, ?_⟩
   have q := PH.put (l1 := []) (cs' := (e2).cells) h;refine AWp.ret ⟨[(e2).av], (e2).av, _, by simp [Tryz.f162, zQa, s2, Ex.av, tk], by (try simp); exact View.refl _ _, hK _ _ _ _ _ q.ps q.off (zfa.cons hlt run2 (fun l => wNd hmk)) (hdd2)⟩
  | false =>
   try simp
   refine fA ?_;rw [hmin] at h;simp at h;refine AWp.gen (fun st => st.sl 0 = .ptr gr 0 /\ st.sl 2 = .ptr g2 0 /\ st.mem = mC) ⟨by first | (simp; done) | (simp [s0]; done), by first | (simp; done) | (simp [s2]; done), by first | (simp; done) | (simp [sm]; done)⟩ ?_
   clear s0 s2 sm;rintro st ⟨s0, s2, sm⟩;refine rA ?_;simp [s0];refine wA ?_;simp [sm];refine wFa h.ps xGb fun mD hPn hOn => ?_;have h := h.call hgr hOn hPn;clear hPn hOn;try simp
   cases hmax : (hdT T a bad).is 3 xGb with
   | true =>
    obtain ⟨rfl, hlt, ht, hmk⟩ := yjb (by omega) hmax;try simp
    refine tA ?_;rw [hmax] at h;simp at h;obtain ⟨hd0, hS⟩ := hd rfl;refine rA ?_;simp [s0];refine wA ?_;try simp
    try simp [sm]
    refine wlc k hS 8 h.ps hT (fun _ => hd0) fun mP e2 a2 d2 b2 hPn hOn run2 hdd2 => ?_;have h := h.call hgr hOn hPn;clear hPn hOn;try simp
    have w2 := h.box1 (g := g2) (cs := [.int .i64 0, .int .i64 0, .str empty, .lst true 0 []]) (by simp);simp [s2, w2, Ex.av, tk];try refine ⟨okE _, ?_⟩
    have q := PH.put (l1 := []) (cs' := (e2).cells) h;refine AWp.ret ⟨[(e2).av], (e2).av, _, by simp [Tryz.f162, zQa, s2, Ex.av, tk], by (try simp); exact View.refl _ _, hK _ _ _ _ _ q.ps q.off (zfa.cons hlt run2 (fun l => wOd hmk)) (hdd2)⟩
   | false =>
    try simp
    refine fA ?_;rw [hmax] at h;simp at h;refine AWp.gen (fun st => st.sl 0 = .ptr gr 0 /\ st.sl 2 = .ptr g2 0 /\ st.mem = mD) ⟨by first | (simp; done) | (simp [s0]; done), by first | (simp; done) | (simp [s2]; done), by first | (simp; done) | (simp [sm]; done)⟩ ?_
    clear s0 s2 sm;rintro st ⟨s0, s2, sm⟩;refine kA ?_;have hbx := h.ps.box;unfold pc at hbx;try simp
    refine rA ?_;simp [s0, sm, hbx];have h := h.call hgr (Off.box _ _) (h.ps.step a d true h.ps.le);refine AWp.gen (fun st => st.sl 0 = .ptr gr 0 /\ st.sl 2 = .ptr g2 0 /\ st.mem = mD.set gr (.box (pc T a d true))) ⟨by first | (simp; done) | (simp [s0]; done), by first | (simp; done) | (simp [s2]; done), by simp [pc]⟩ ?_
    clear s0 s2 sm;rintro st ⟨s0, s2, sm⟩;generalize mD.set gr (.box (pc T a d true)) = mE at *;clear hbx;have hrun : ∀ e, zfa (yda (yPa k)) T a bad e a true := fun e => wjc (by
     cases bad with
     | true => exact .inl rfl
     | false =>
      right;by_cases hlt : a < T.length
      ·have e := xUa hlt;rw [e] at h2 h1 hpar hmin hmax;exact zTc hlt rfl h2 h1 hpar hmin hmax
      rw [List.drop_eq_nil_of_le (by omega)];rfl)
    have w2 := h.box1 (g := g2) (cs := [.int .i64 0, .int .i64 0, .str empty, .lst true 0 []]) (by simp);refine rA ?_;simp [s2, sm, w2];have q := PH.put (l1 := []) (cs' := [.int .i64 0, .int .i64 0, .str ⟨#[]⟩, .lst true 0 []]) h;refine AWp.ret ⟨[.agg [.int .i64 0, .int .i64 0, .str ⟨#[]⟩, .lst true 0 []]], (Ex.mk 0 0 ⟨#[]⟩ []).av, _, by simp [Tryz.f162, zQa, s2, eE], by (try simp [eE]); exact View.le y1d _, hK _ _ _ _ _ q.ps q.off (hrun _) (fun e => by cases e)⟩
end Go.T
