/- Parts of the proof of FnParsed: The reference's reader: products, sums. -/
import Derived.Test.YtdbnllfjmkmdiaaGreatDoorG15
import Derived.Test.YtdbnllfjmkmdiaaGreatDoorG6
import Derived.Test.YtdbnllfjmkmdiaaGreatDoorG9
set_option linter.unusedSimpArgs false
set_option linter.unusedVariables false
namespace Go.T
open _root_.ByteArray (empty)
open Go Go.Proofs
set_option maxRecDepth 10000
set_option maxHeartbeats 1000000
open Go
theorem xpc (k : Nat) {gr : Nat} {T : List Tk} {a : Nat} {d : Int} {bad : Bool} {m : Mem} (hP : PS gr T a d bad m) (hT : ∀ t ∈ T, t.fine) (hd : bad = false -> d = 30 - (k : Int) /\ wSd Tryz.prog 79 k (yPa k)) {K : AV -> Mem -> Prop}
  (hK : ∀ m' e a' d' bad', PS gr T a' d' bad' m' -> Off gr m m' -> zfa (zjb (yPa k)) T a bad e a' bad' -> (bad' = false -> d' = d) -> K e.av m') : zka Tryz.prog 131 [.ptr gr 0] m K := by
 have hgr := hP.at
 have hf := x2a k;have tk : ∀ e : Ex, List.take 4 e.cells = e.cells := fun e => List.take_of_length_le (by simp);have dr : ∀ e : Ex, List.drop 4 e.cells = [] := fun e => List.drop_eq_nil_of_le (by simp);have eE : empty = (⟨#[]⟩ : ByteArray) := rfl;refine wO Tryz.func131 ?_;refine rA ?_;simp;intro g2 hg2;have h := (PH.start hP).box hgr hg2 [.int .i64 0, .int .i64 0, .str empty, .lst true 0 []];refine AWp.gen (fun st => st.sl 0 = .ptr gr 0 /\ st.sl 2 = .ptr g2 0 /\ st.mem = m.set g2 (.box [.int .i64 0, .int .i64 0, .str empty, .lst true 0 []])) ⟨by simp, by simp, by simp⟩ ?_;generalize m.set g2 (.box [.int .i64 0, .int .i64 0, .str empty, .lst true 0 []]) = m1 at *;rintro st ⟨s0, s2, sm⟩;refine rA ?_;simp [s0];refine wA ?_;simp [sm];refine wmc k h.ps hT hd fun m1 e1 a1 d1 b1 hPn hOn run1 hdd1 => ?_;have h := h.call hgr hOn hPn;have was1 := zfa.was run1;clear hPn hOn;simp [Ex.av];intro g3 hg1;try refine ⟨okE _, ?_⟩
 have h := h.box hgr hg1 e1.cells;refine AWp.gen (fun st => st.sl 0 = .ptr gr 0 /\ st.sl 2 = .ptr g2 0 /\ st.sl 3 = .ptr g3 0 /\ st.mem = m1.set g3 (.box e1.cells)) ⟨by first | (simp; done) | (simp [s0]; done), by first | (simp; done) | (simp [s2]; done), by simp, by first | (simp; done) | (simp [sm]; done)⟩ ?_
 clear s0 s2 sm;rintro st ⟨s0, s2, s3, sm⟩;generalize m1.set g3 (.box e1.cells) = n1 at *;clear hg1;obtain ⟨M, hM⟩ : ∃ M : St -> Prop, M = (fun st => ∃ e a1 d1 b1, st.sl 2 = .ptr g2 0 /\ st.sl 3 = .ptr g3 0 /\ PH m gr T a1 d1 b1 [(g3, Ex.cells e), (g2, [.int .i64 0, .int .i64 0, .str empty, .lst true 0 []])] [] st.mem /\ (b1 = false -> d1 = d) /\ zfa (zjb (yPa k)) T a bad e a1 b1) := ⟨_, rfl⟩;(repeat refine qA ?_);refine AWp.cA M ?_ ?_
 ·refine AWp.block (AWp.ro (fun q st => ∃ e a1 d1 b1, q = (if b1 = true then 0 else T.length - a1 + 1) /\ st.sl 0 = .ptr gr 0 /\ st.sl 2 = .ptr g2 0 /\ st.sl 3 = .ptr g3 0 /\ PH m gr T a1 d1 b1 [(g3, Ex.cells e), (g2, [.int .i64 0, .int .i64 0, .str empty, .lst true 0 []])] [] st.mem /\ (b1 = false -> d1 = d /\ bad = false) /\ ∀ y a2 b2, zfa (zkb (yPa k) e) T a1 b1 y a2 b2 -> zfa (zjb (yPa k)) T a bad y a2 b2) (if b1 = true then 0 else T.length - a1 + 1) ⟨e1, a1, d1, b1, rfl, s0, s2, s3, by rw [sm]; exact h, fun e => ⟨hdd1 e, was1 e⟩, fun y a2 b2 hr => yed run1 hr⟩ ?_)
  clear s0 s2 s3 sm h hdd1 run1 was1;rintro RR q st0 hRR ⟨e, a1, d1, b1, rfl, s0, s2, s3, h, hd1, hinv⟩;refine rA ?_;simp [s0];refine wA ?_;try simp
  refine zPa h.ps (ch 42) fun mA hPn hOn => ?_;have h := h.call hgr hOn hPn;clear hPn hOn;try simp
  cases hq : (hdT T a1 b1).is 4 (ch 42) with
  | false =>
   rw [hq] at h;simp at h;try simp
   refine fA ?_;refine eA ?_;subst hM;refine ⟨e, a1, d1, b1, by simp [s2], by simp [s3], by simpa using h, fun e => (hd1 e).1, hinv _ _ _ (zWc hf e ?_)⟩;cases b1 with
   | true => exact .inl rfl
   | false => exact .inr (yBc hq)
  | true =>
   obtain ⟨rfl, hlt, ht, hmk⟩ := yjb (by omega) hq;rw [hq] at h;simp at h;obtain ⟨hd1, hbd⟩ := hd1 rfl;try simp
   refine tA ?_;refine kA ?_;try simp
   (repeat refine qA ?_);refine bA ?_;refine AWp.gen (fun st => st.sl 0 = .ptr gr 0 /\ st.sl 2 = .ptr g2 0 /\ st.sl 3 = .ptr g3 0 /\ st.mem = mA) ⟨by first | (simp; done) | (simp [s0]; done), by first | (simp; done) | (simp [s2]; done), by first | (simp; done) | (simp [s3]; done), by first | (simp; done) | (simp [sm]; done)⟩ ?_
   clear s0 s2 s3;rintro st ⟨s0, s2, s3, sm⟩;refine rA ?_;simp [s0];refine wA ?_;simp [sm];refine wmc k h.ps hT (fun _ => ⟨by rw [hd1]; exact (hd hbd).1, (hd hbd).2⟩) fun m2 e2 a2 d2 b2 hPn hOn run2 hdd2 => ?_;have h := h.call hgr hOn hPn;have was2 := zfa.was run2;clear hPn hOn;simp [Ex.av];intro g4 hg2;try refine ⟨okE _, ?_⟩
   have h := h.box hgr hg2 e2.cells;refine AWp.gen (fun st => st.sl 0 = .ptr gr 0 /\ st.sl 2 = .ptr g2 0 /\ st.sl 3 = .ptr g3 0 /\ st.sl 4 = .ptr g4 0 /\ st.mem = m2.set g4 (.box e2.cells)) ⟨by first | (simp; done) | (simp [s0]; done), by first | (simp; done) | (simp [s2]; done), by first | (simp; done) | (simp [s3]; done), by simp, by first | (simp; done) | (simp [sm]; done)⟩ ?_
   clear s0 s2 s3 sm;rintro st ⟨s0, s2, s3, s4, sm⟩;generalize m2.set g4 (.box e2.cells) = n2 at *;clear hg2;have w3 := h.box1 (g := g3) (cs := e.cells) (by simp);have wB := h.box1 (g := g4) (cs := e2.cells) (by simp);refine rA ?_;simp [s3, s4, sm, w3, wB, tk];refine oC' (r := (two 6 e e2).av) (by simpa [Ex.av] using w2a 6 e e2) ?_;simp [s3, sm, w3, Ex.av, dr];try refine ⟨okE _, ?_⟩
   have h := (PH.put (l1 := [(g4, e2.cells)]) (cs' := (two 6 e e2).cells) h).less (bs' := [(g3, (two 6 e e2).cells), (g2, [.int .i64 0, .int .i64 0, .str empty, .lst true 0 []])]) (List.sublist_cons_self _ _) (List.Sublist.refl _);refine hRR _ (if b2 = true then 0 else T.length - a2 + 1) ?_ ⟨two 6 e e2, a2, d2, b2, rfl, by simp [s0], by simp [s2], by simp [s3], by simpa using h, fun e => ⟨(hdd2 e).trans hd1, hbd⟩, fun y a3 b3 hr => hinv y a3 b3 (zXc hf hlt hmk run2 hr)⟩
   cases b2 with
   | true => simp
   | false =>
    have := run2.lt (wya hf) h.ps.le;simp;omega
 intro st hst;subst hM;obtain ⟨e, a1, d1, b1, s2, s3, h, hd1, hr⟩ := hst;have w3 := h.box1 (g := g3) (cs := e.cells) (by simp);have w2 := h.box1 (g := g2) (cs := [.int .i64 0, .int .i64 0, .str empty, .lst true 0 []]) (by simp);refine rA ?_;simp [s2, s3, w2, w3, tk];try refine ⟨okE _, ?_⟩
 have q := PH.put (l1 := [(g3, e.cells)]) (cs' := e.cells) h;refine AWp.ret ⟨[e.av], e.av, _, by simp [Tryz.f131, zQa, s2, Ex.av, tk], by (try simp); exact View.refl _ _, hK _ _ _ _ _ q.ps q.off hr hd1⟩
theorem wnc (k : Nat) (hk30 : k <= 30) (hS : ∀ j, k = j + 1 -> wSd Tryz.prog 79 j (yPa j)) : wSd Tryz.prog 79 k (yPa k) := by
 intro gr T a d bad m hP hT hd K hK;have hgr := hP.at
 have hf := x2a (k - 1);have tk : ∀ e : Ex, List.take 4 e.cells = e.cells := fun e => List.take_of_length_le (by simp);have dr : ∀ e : Ex, List.drop 4 e.cells = [] := fun e => List.drop_eq_nil_of_le (by simp);have eE : empty = (⟨#[]⟩ : ByteArray) := rfl;refine wO Tryz.func79 ?_;refine rA ?_;simp;intro g2 hg2;have h := (PH.start hP).box hgr hg2 [.int .i64 0, .int .i64 0, .str empty, .lst true 0 []];refine AWp.gen (fun st => st.sl 0 = .ptr gr 0 /\ st.sl 2 = .ptr g2 0 /\ st.mem = m.set g2 (.box [.int .i64 0, .int .i64 0, .str empty, .lst true 0 []])) ⟨by simp, by simp, by simp⟩ ?_;generalize m.set g2 (.box [.int .i64 0, .int .i64 0, .str empty, .lst true 0 []]) = m1 at *;rintro st ⟨s0, s2, sm⟩;have hbx := h.ps.box;unfold pc at hbx;obtain ⟨d', hd'⟩ : ∃ d' : Int, d' = IntKind.wrap .i64 (d + 1) := ⟨_, rfl⟩;refine rA ?_;simp [s0, sm, hbx, <- hd'];have h := h.call hgr (Off.box _ _) (h.ps.step a d' bad h.ps.le);refine AWp.gen (fun st => st.sl 0 = .ptr gr 0 /\ st.sl 2 = .ptr g2 0 /\ st.mem = m1.set gr (.box (pc T a d' bad))) ⟨by first | (simp; done) | (simp [s0]; done), by first | (simp; done) | (simp [s2]; done), by simp [pc]⟩ ?_
 clear s0 s2 sm;rintro st ⟨s0, s2, sm⟩;generalize m1.set gr (.box (pc T a d' bad)) = m2 at *;clear hbx;have hbx := h.ps.box;unfold pc at hbx;have hdk : bad = false -> d' = d + 1 /\ d = 30 - (k : Int) := fun e => by
  have := hd e;exact ⟨by rw [hd']; exact zga (by omega) (by omega), this⟩
 refine rA ?_;simp [s0, sm, hbx];obtain ⟨bad1, hb1⟩ : ∃ b : Bool, b = (bad || decide (30 < d')) := ⟨_, rfl⟩;obtain ⟨M, hM⟩ : ∃ M : St -> Prop, M = (fun st => st.sl 0 = .ptr gr 0 /\ st.sl 2 = .ptr g2 0 /\ PH m gr T a d' bad1 [(g2, [.int .i64 0, .int .i64 0, .str empty, .lst true 0 []])] [] st.mem) := ⟨_, rfl⟩;(repeat refine qA ?_);refine AWp.cA M ?_ ?_
 ·by_cases h30 : 30 < d'
  ·refine AWp.condT (by simp [h30]) ?_;refine rA ?_;simp [s0, sm, hbx];have h := h.call hgr (Off.box _ _) (h.ps.step a d' true h.ps.le);subst hM;have e1 : bad1 = true := by rw [hb1]; simp [h30]
   subst e1;exact ⟨by simp [s0], by simp [s2], by simpa [pc] using h⟩
  refine AWp.condF (by simp [h30]) ?_;refine kA ?_;subst hM;have e1 : bad1 = bad := by rw [hb1]; simp [h30]
  subst e1;exact ⟨by simp [s0], by simp [s2], by simpa [sm] using h⟩
 clear s0 s2 sm hbx h;intro st hst;subst hM;obtain ⟨s0, s2, h⟩ := hst;obtain ⟨mS, sm⟩ : ∃ mS, st.mem = mS := ⟨_, rfl⟩;rw [sm] at h;have hone : bad1 = false -> bad = false /\ k = (k - 1) + 1 /\ d' = d + 1 /\ d = 30 - (k : Int) := fun e => by
  rw [hb1] at e;simp at e;have := hdk e.1;exact ⟨e.1, by omega, this⟩
 have hall : ∀ e : Ex, ∀ a1, bad1 = true -> zfa (yPa k) T a bad e a1 true := fun e a1 hb => by
  cases bad with
  | true => exact zfa.bad _ _ _ _ _
  | false =>
   rw [hb1] at hb;simp at hb;have := hdk rfl;have hk0 : k = 0 := by omega
   subst hk0;exact ⟨fun _ _ _ he => (by cases he), fun _ => rfl⟩
 have hd2 : bad1 = false -> d' = 30 - ((k - 1 : Nat) : Int) /\ wSd Tryz.prog 79 (k - 1) (yPa (k - 1)) := fun e => by
  have := hone e;exact ⟨by omega, hS _ this.2.1⟩
 have hsum : ∀ x y a1 a2 b1 b2, bad1 = false -> zfa (zjb (yPa (k - 1))) T a bad1 x a1 b1 -> zfa (wIa (yPa (k - 1)) x) T a1 b1 y a2 b2 -> zfa (yPa k) T a bad y a2 b2 := fun x y a1 a2 b1 b2 e h1 h2 => by
  have := hone e;rw [this.2.1, this.1];rw [e] at h1;exact yfd h1 h2
 refine rA ?_;simp [s0];refine wA ?_;simp [sm];refine xpc (k - 1) h.ps hT hd2 fun m1 e1 a1 d1 b1 hPn hOn run1 hdd1 => ?_;have h := h.call hgr hOn hPn;have was1 := zfa.was run1;clear hPn hOn;simp [Ex.av];intro g3 hg1;try refine ⟨okE _, ?_⟩
 have h := h.box hgr hg1 e1.cells;refine AWp.gen (fun st => st.sl 0 = .ptr gr 0 /\ st.sl 2 = .ptr g2 0 /\ st.sl 3 = .ptr g3 0 /\ st.mem = m1.set g3 (.box e1.cells)) ⟨by first | (simp; done) | (simp [s0]; done), by first | (simp; done) | (simp [s2]; done), by simp, by first | (simp; done) | (simp [sm]; done)⟩ ?_
 clear s0 s2 sm;rintro st ⟨s0, s2, s3, sm⟩;generalize m1.set g3 (.box e1.cells) = n1 at *;clear hg1;have hbx := h.ps.box;unfold pc at hbx;refine rA ?_;simp [s0, sm, hbx];refine AWp.gen (fun st => st.sl 0 = .ptr gr 0 /\ st.sl 2 = .ptr g2 0 /\ st.sl 3 = .ptr g3 0 /\ st.sl 4 = .bool (!b1) /\ st.mem = n1) ⟨by first | (simp; done) | (simp [s0]; done), by first | (simp; done) | (simp [s2]; done), by first | (simp; done) | (simp [s3]; done), by simp, by first | (simp; done) | (simp [sm]; done)⟩ ?_
 clear s0 s2 s3 sm;rintro st ⟨s0, s2, s3, s4, sm⟩;clear hbx;obtain ⟨M, hM⟩ : ∃ M : St -> Prop, M = (fun st => ∃ e a1 d1 b1, st.sl 0 = .ptr gr 0 /\ st.sl 2 = .ptr g2 0 /\ st.sl 3 = .ptr g3 0 /\ PH m gr T a1 d1 b1 [(g3, Ex.cells e), (g2, [.int .i64 0, .int .i64 0, .str empty, .lst true 0 []])] [] st.mem /\ (b1 = false -> d1 = d' /\ bad1 = false) /\ zfa (yPa k) T a bad e a1 b1) := ⟨_, rfl⟩;(repeat refine qA ?_);refine AWp.cA M ?_ ?_
 ·refine AWp.block (AWp.ro (fun q st => ∃ e a1 d1 b1 fl, q = (if b1 = true ∨ fl = false then 0 else T.length - a1 + 1) /\ st.sl 0 = .ptr gr 0 /\ st.sl 2 = .ptr g2 0 /\ st.sl 3 = .ptr g3 0 /\ st.sl 4 = .bool fl /\ PH m gr T a1 d1 b1 [(g3, Ex.cells e), (g2, [.int .i64 0, .int .i64 0, .str empty, .lst true 0 []])] [] st.mem /\ (b1 = false -> d1 = d' /\ bad1 = false) /\ (fl = true -> ∀ y a2 b2, zfa (wIa (yPa (k - 1)) e) T a1 b1 y a2 b2 -> zfa (yPa k) T a bad y a2 b2) /\ (fl = false -> zfa (yPa k) T a bad e a1 b1)) (if b1 = true ∨ (!b1) = false then 0 else T.length - a1 + 1) ⟨e1, a1, d1, b1, !b1, rfl, s0, s2, s3, s4, by rw [sm]; exact h, fun e => ⟨hdd1 e, was1 e⟩, fun hfl y a2 b2 hr => hsum _ _ _ _ _ _ (was1 (by simpa using hfl)) run1 hr, fun hfl => ?_⟩ ?_)
  ·have hb : b1 = true := by simpa using hfl
   subst hb;cases hbd : bad1 with
   | true => exact hall _ _ hbd
   | false => exact hsum _ _ _ _ _ _ hbd run1 (zlb hf _ (.inl rfl))
  clear s0 s2 s3 s4 sm h hdd1 run1 was1;rintro RR q st0 hRR ⟨e, a1, d1, b1, fl, rfl, s0, s2, s3, s4, h, hd1, hinv, hdone⟩;have hbx := h.ps.box;unfold pc at hbx;by_cases hgo : fl = false ∨ b1 = true
  ·refine rA ?_;have hex : zfa (yPa k) T a bad e a1 b1 := by
    cases fl with
    | false => exact hdone rfl
    | true =>
     have hb := hgo.resolve_left (by simp);subst hb;exact hinv rfl _ _ _ (zlb hf e (.inl rfl))
   have out : ∀ st' : St, st'.sl 0 = .ptr gr 0 -> st'.sl 2 = .ptr g2 0 -> st'.sl 3 = .ptr g3 0 -> st'.mem = st0.mem -> M st' := fun st' t0 t2 t3 tm => by
    subst hM;exact ⟨e, a1, d1, b1, t0, t2, t3, by rw [tm]; exact h, hd1, hex⟩
   cases fl with
   | false =>
    simp [s0, s4];refine fA ?_;refine eA ?_;refine out _ ?_ ?_ ?_ ?_ <;> simp [s0, s2, s3]
   | true =>
    have hb := hgo.resolve_left (by simp);subst hb;simp [s0, s4, hbx];refine fA ?_;refine eA ?_;refine out _ ?_ ?_ ?_ ?_ <;> simp [s0, s2, s3]
  have hfl : fl = true := by cases fl with | true => rfl | false => exact absurd (.inl rfl) hgo
  have hb1 : b1 = false := by cases b1 with | false => rfl | true => exact absurd (.inr rfl) hgo
  subst hfl hb1;obtain ⟨hd1, hbd⟩ := hd1 rfl;have hinv := hinv rfl;obtain ⟨hd30, hS1⟩ := hd2 hbd;refine rA ?_;simp [s0, s4, hbx];refine tA ?_;refine kA ?_;try simp
  (repeat refine qA ?_);refine bA ?_;(repeat refine qA ?_);refine bA ?_;obtain ⟨mL, sm⟩ : ∃ mL, st0.mem = mL := ⟨_, rfl⟩;rw [sm] at h;refine AWp.gen (fun st => st.sl 0 = .ptr gr 0 /\ st.sl 2 = .ptr g2 0 /\ st.sl 3 = .ptr g3 0 /\ st.sl 4 = .bool true /\ st.mem = mL) ⟨by first | (simp; done) | (simp [s0]; done), by first | (simp; done) | (simp [s2]; done), by first | (simp; done) | (simp [s3]; done), by first | (simp; done) | (simp [s4]; done), by first | (simp; done) | (simp [sm]; done)⟩ ?_
  clear s0 s2 s3 s4 sm hbx;rintro st ⟨s0, s2, s3, s4, sm⟩;refine rA ?_;simp [s0];refine wA ?_;simp [sm];refine zPa h.ps (ch 43) fun mA hPn hOn => ?_;have h := h.call hgr hOn hPn;clear hPn hOn;try simp
  cases hq : (hdT T a1 false).is 4 (ch 43) with
  | true =>
   obtain ⟨_, hlt, ht, hmk⟩ := yjb (by omega) hq;rw [hq] at h;simp at h;try simp
   refine tA ?_;refine AWp.gen (fun st => st.sl 0 = .ptr gr 0 /\ st.sl 2 = .ptr g2 0 /\ st.sl 3 = .ptr g3 0 /\ st.sl 4 = .bool true /\ st.mem = mA) ⟨by first | (simp; done) | (simp [s0]; done), by first | (simp; done) | (simp [s2]; done), by first | (simp; done) | (simp [s3]; done), by first | (simp; done) | (simp [s4]; done), by first | (simp; done) | (simp [sm]; done)⟩ ?_
   clear s0 s2 s3 s4 sm;rintro st ⟨s0, s2, s3, s4, sm⟩;refine rA ?_;simp [s0];refine wA ?_;simp [sm];refine xpc (k - 1) h.ps hT (fun _ => ⟨by rw [hd1]; exact hd30, hS1⟩) fun m2 e2 a2 d2 b2 hPn hOn run2 hdd2 => ?_;have h := h.call hgr hOn hPn;have was2 := zfa.was run2;clear hPn hOn;simp [Ex.av];intro g5 hg2;try refine ⟨okE _, ?_⟩
   have h := h.box hgr hg2 e2.cells;refine AWp.gen (fun st => st.sl 0 = .ptr gr 0 /\ st.sl 2 = .ptr g2 0 /\ st.sl 3 = .ptr g3 0 /\ st.sl 4 = .bool true /\ st.sl 5 = .ptr g5 0 /\ st.mem = m2.set g5 (.box e2.cells)) ⟨by first | (simp; done) | (simp [s0]; done), by first | (simp; done) | (simp [s2]; done), by first | (simp; done) | (simp [s3]; done), by first | (simp; done) | (simp [s4]; done), by simp, by first | (simp; done) | (simp [sm]; done)⟩ ?_
   clear s0 s2 s3 s4 sm;rintro st ⟨s0, s2, s3, s4, s5, sm⟩;generalize m2.set g5 (.box e2.cells) = n2 at *;clear hg2;have w3 := h.box1 (g := g3) (cs := e.cells) (by simp);have wB := h.box1 (g := g5) (cs := e2.cells) (by simp);refine rA ?_;simp [s3, s5, sm, w3, wB, tk];refine oC' (r := (two 4 e e2).av) (by simpa [Ex.av] using w2a 4 e e2) ?_;simp [s3, sm, w3, Ex.av, dr];try refine ⟨okE _, ?_⟩
   have h := (PH.put (l1 := [(g5, e2.cells)]) (cs' := (two 4 e e2).cells) h).less (bs' := [(g3, (two 4 e e2).cells), (g2, [.int .i64 0, .int .i64 0, .str empty, .lst true 0 []])]) (List.sublist_cons_self _ _) (List.Sublist.refl _);refine hRR _ (if b2 = true then 0 else T.length - a2 + 1) ?_ ⟨two 4 e e2, a2, d2, b2, true, by simp, by simp [s0], by simp [s2], by simp [s3], by simp [s4], by simpa using h, fun e => ⟨(hdd2 e).trans hd1, hbd⟩, fun _ y a3 b3 hr => hinv y a3 b3 (zmb hf hlt (.inl ⟨hmk, rfl⟩) run2 hr), fun e => (by cases e)⟩
   cases b2 with
   | true => simp
   | false =>
    have := run2.lt (wpa hf) h.ps.le;simp;omega
  | false =>
   have hn1 := yBc hq;rw [hq] at h;simp at h;try simp
   refine fA ?_;refine AWp.gen (fun st => st.sl 0 = .ptr gr 0 /\ st.sl 2 = .ptr g2 0 /\ st.sl 3 = .ptr g3 0 /\ st.sl 4 = .bool true /\ st.mem = mA) ⟨by first | (simp; done) | (simp [s0]; done), by first | (simp; done) | (simp [s2]; done), by first | (simp; done) | (simp [s3]; done), by first | (simp; done) | (simp [s4]; done), by first | (simp; done) | (simp [sm]; done)⟩ ?_
   clear s0 s2 s3 s4 sm;rintro st ⟨s0, s2, s3, s4, sm⟩;refine rA ?_;simp [s0];refine wA ?_;simp [sm];refine zPa h.ps (ch 45) fun mB hPn hOn => ?_;have h := h.call hgr hOn hPn;clear hPn hOn;try simp
   cases hq2 : (hdT T a1 false).is 4 (ch 45) with
   | true =>
    obtain ⟨_, hlt, ht, hmk⟩ := yjb (by omega) hq2;rw [hq2] at h;simp at h;try simp
    refine tA ?_;refine AWp.gen (fun st => st.sl 0 = .ptr gr 0 /\ st.sl 2 = .ptr g2 0 /\ st.sl 3 = .ptr g3 0 /\ st.sl 4 = .bool true /\ st.mem = mB) ⟨by first | (simp; done) | (simp [s0]; done), by first | (simp; done) | (simp [s2]; done), by first | (simp; done) | (simp [s3]; done), by first | (simp; done) | (simp [s4]; done), by first | (simp; done) | (simp [sm]; done)⟩ ?_
    clear s0 s2 s3 s4 sm;rintro st ⟨s0, s2, s3, s4, sm⟩;refine rA ?_;simp [s0];refine wA ?_;simp [sm];refine xpc (k - 1) h.ps hT (fun _ => ⟨by rw [hd1]; exact hd30, hS1⟩) fun m2 e2 a2 d2 b2 hPn hOn run2 hdd2 => ?_;have h := h.call hgr hOn hPn;have was2 := zfa.was run2;clear hPn hOn;simp [Ex.av];intro g6 hg2;try refine ⟨okE _, ?_⟩
    have h := h.box hgr hg2 e2.cells;refine AWp.gen (fun st => st.sl 0 = .ptr gr 0 /\ st.sl 2 = .ptr g2 0 /\ st.sl 3 = .ptr g3 0 /\ st.sl 4 = .bool true /\ st.sl 6 = .ptr g6 0 /\ st.mem = m2.set g6 (.box e2.cells)) ⟨by first | (simp; done) | (simp [s0]; done), by first | (simp; done) | (simp [s2]; done), by first | (simp; done) | (simp [s3]; done), by first | (simp; done) | (simp [s4]; done), by simp, by first | (simp; done) | (simp [sm]; done)⟩ ?_
    clear s0 s2 s3 s4 sm;rintro st ⟨s0, s2, s3, s4, s6, sm⟩;generalize m2.set g6 (.box e2.cells) = n2 at *;clear hg2;have w3 := h.box1 (g := g3) (cs := e.cells) (by simp);have wB := h.box1 (g := g6) (cs := e2.cells) (by simp);refine rA ?_;simp [s3, s6, sm, w3, wB, tk];refine oC' (r := (two 5 e e2).av) (by simpa [Ex.av] using w2a 5 e e2) ?_;simp [s3, sm, w3, Ex.av, dr];try refine ⟨okE _, ?_⟩
    have h := (PH.put (l1 := [(g6, e2.cells)]) (cs' := (two 5 e e2).cells) h).less (bs' := [(g3, (two 5 e e2).cells), (g2, [.int .i64 0, .int .i64 0, .str empty, .lst true 0 []])]) (List.sublist_cons_self _ _) (List.Sublist.refl _);refine hRR _ (if b2 = true then 0 else T.length - a2 + 1) ?_ ⟨two 5 e e2, a2, d2, b2, true, by simp, by simp [s0], by simp [s2], by simp [s3], by simp [s4], by simpa using h, fun e => ⟨(hdd2 e).trans hd1, hbd⟩, fun _ y a3 b3 hr => hinv y a3 b3 (zmb hf hlt (.inr ⟨hn1 hlt, hmk, rfl⟩) run2 hr), fun e => (by cases e)⟩
    cases b2 with
    | true => simp
    | false =>
     have := run2.lt (wpa hf) h.ps.le;simp;omega
   | false =>
    rw [hq2] at h;simp at h;try simp
    refine fA ?_;refine rA ?_;simp;refine hRR _ 0 (by simp) ⟨e, a1, d1, false, false, by simp, by simp [s0], by simp [s2], by simp [s3], by simp, by simpa using h, fun _ => ⟨hd1, hbd⟩, fun e => (by cases e), fun _ => hinv _ _ _ (zlb hf e (.inr ⟨hn1, yBc hq2⟩))⟩
 intro st hst;subst hM;obtain ⟨e, a1, d1, b1, s0, s2, s3, h, hd1, hr⟩ := hst;have hbx := h.ps.box;unfold pc at hbx;obtain ⟨d2, hd2'⟩ : ∃ d2 : Int, d2 = IntKind.wrap .i64 (d1 - 1) := ⟨_, rfl⟩;refine rA ?_;simp [s0, hbx, <- hd2'];have h := h.call hgr (Off.box _ _) (h.ps.step a1 d2 b1 h.ps.le);refine AWp.gen (fun st1 => st1.sl 0 = .ptr gr 0 /\ st1.sl 2 = .ptr g2 0 /\ st1.sl 3 = .ptr g3 0 /\ st1.mem = st.mem.set gr (.box (pc T a1 d2 b1))) ⟨by first | (simp; done) | (simp [s0]; done), by first | (simp; done) | (simp [s2]; done), by first | (simp; done) | (simp [s3]; done), by simp [pc]⟩ ?_
 generalize st.mem.set gr (.box (pc T a1 d2 b1)) = m9 at *;clear s0 s2 s3 hbx;rintro st ⟨s0, s2, s3, sm⟩;have w3 := h.box1 (g := g3) (cs := e.cells) (by simp);have w2 := h.box1 (g := g2) (cs := [.int .i64 0, .int .i64 0, .str empty, .lst true 0 []]) (by simp);refine rA ?_;simp [s2, s3, sm, w2, w3, tk];try refine ⟨okE _, ?_⟩
 have q := PH.put (l1 := [(g3, e.cells)]) (cs' := e.cells) h;refine AWp.ret ⟨[e.av], e.av, _, by simp [Tryz.f79, zQa, s2, Ex.av, tk], by (try simp); exact View.refl _ _, hK _ _ _ _ _ q.ps q.off hr (fun e => ?_)⟩;have h1 := (hd1 e).1;have h2 := hone (hd1 e).2;rw [hd2', h1, zga (by omega) (by omega)];omega
theorem zic : ∀ k : Nat, k <= 30 -> wSd Tryz.prog 79 k (yPa k)
 | 0, h => wnc 0 h fun j e => by cases e
 | k + 1, h => wnc (k + 1) h fun j e => by
  cases e;exact zic k (by omega)
open _root_.ByteArray (empty)
structure BH (m1 : Mem) (gr : Nat) (T : List Tk) (a : Nat) (d : Int) (bad : Bool) (bs : List (Nat × Blk)) (m : Mem) : Prop where
 ps : PS gr T a d bad m
 off : Off gr m1 m
 bx : ∀ b ∈ bs, m b.1 = some b.2 /\ b.1 ≠ gr /\ m1 b.1 = none
 bd : bs.Pairwise fun x y => x.1 ≠ y.1
section
variable {m1 m m' : Mem} {gr : Nat} {T : List Tk} {a a' : Nat} {d d' : Int} {bad bad' : Bool} {bs : List (Nat × Blk)}
theorem BH.start (h : PS gr T a d bad m) : BH m gr T a d bad [] m := ⟨h, Off.refl _ _, by simp, .nil⟩
theorem BH.get (h : BH m1 gr T a d bad bs m) {g : Nat} {b : Blk} (hb : (g, b) ∈ bs) : m g = some b := (h.bx _ hb).1
theorem BH.call (h : BH m1 gr T a d bad bs m) (h1 : m1 gr ≠ none) (hO : Off gr m m') (hP : PS gr T a' d' bad' m') : BH m1 gr T a' d' bad' bs m' :=
 ⟨hP, h.off.trans hO, fun b hb => ⟨hO _ _ (h.bx b hb).2.1 (h.bx b hb).1, (h.bx b hb).2⟩, h.bd⟩
theorem BH.new (h : BH m1 gr T a d bad bs m) (h1 : m1 gr ≠ none) {g : Nat} (hg : m g = none) (b : Blk) : BH m1 gr T a d bad ((g, b) :: bs) (m.set g b) := by
 have hne : g ≠ gr := by rintro rfl; exact h.ps.at hg
 have k := h.call h1 (Off.ext (zFa hg b)) (h.ps.off hne b);refine ⟨k.ps, k.off, fun x hx => ?_, List.pairwise_cons.2 ⟨fun x hx e => ?_, k.bd⟩⟩
 ·rcases List.mem_cons.1 hx with rfl | hx
  ·exact ⟨zaa _ _ _, hne, yAa h.off h.ps.at hg⟩
  exact k.bx x hx
 have := (h.bx x hx).1;rw [<- e] at this;simp only at this;rw [hg] at this;cases this
theorem BH.put {l1 l2 : List (Nat × Blk)} {g : Nat} {b : Blk} (h : BH m1 gr T a d bad (l1 ++ (g, b) :: l2) m) (b' : Blk) : BH m1 gr T a d bad (l1 ++ (g, b') :: l2) (m.set g b') := by
 have hg := h.bx (g, b) (by simp);have hd := List.pairwise_append.1 h.bd;have hd2 := List.pairwise_cons.1 hd.2.1;have ho : ∀ x, x ∈ l1 ∨ x ∈ l2 -> x.1 ≠ g := fun x hx => by
  rcases hx with hx | hx
  ·exact hd.2.2 x hx (g, b) (by simp)
  exact Ne.symm (hd2.1 x hx)
 refine ⟨h.ps.off hg.2.1 _, fun k x hk hx => ?_, fun x hx => ?_, ?_⟩
 ·have hne : k ≠ g := by rintro rfl; rw [hg.2.2] at hx; cases hx
  rw [Mem.so hne];exact h.off k x hk hx
 ·rcases List.mem_append.1 hx with hx | hx
  ·have := h.bx x (by simp [hx]);exact ⟨by rw [Mem.so (ho x (.inl hx))]; exact this.1, this.2⟩
  rcases List.mem_cons.1 hx with rfl | hx
  ·exact ⟨zaa _ _ _, hg.2⟩
  have := h.bx x (by simp [hx]);exact ⟨by rw [Mem.so (ho x (.inr hx))]; exact this.1, this.2⟩
 exact List.pairwise_append.2 ⟨hd.1, List.pairwise_cons.2 ⟨fun x hx => hd2.1 x hx, hd2.2⟩, fun x hx y hy => by
  rcases List.mem_cons.1 hy with rfl | hy
  ·exact hd.2.2 x hx (g, b) (by simp)
  exact hd.2.2 x hx y (by simp [hy])⟩
theorem BH.less (h : BH m1 gr T a d bad bs m) {bs' : List (Nat × Blk)} (hb : bs'.Sublist bs) : BH m1 gr T a d bad bs' m := ⟨h.ps, h.off, fun x k => h.bx x (hb.subset k), h.bd.sublist hb⟩
theorem BH.del {g : Nat} {b : Blk} {l1 l2 : List (Nat × Blk)} (h : BH m1 gr T a d bad (l1 ++ (g, b) :: l2) m) : BH m1 gr T a d bad (l1 ++ l2) (m.del g) := by
 have hg := h.bx (g, b) (by simp);have hd := List.pairwise_append.1 h.bd;have hd2 := List.pairwise_cons.1 hd.2.1;have ho : ∀ x, x ∈ l1 ++ l2 -> x.1 ≠ g := fun x hx => by
  rcases List.mem_append.1 hx with hx | hx
  ·exact hd.2.2 x hx (g, b) (by simp)
  exact Ne.symm (hd2.1 x hx)
 have hdel : ∀ k, k ≠ g -> (m.del g) k = m k := fun k hk => by unfold Mem.del; rw [if_neg hk]
 refine ⟨⟨by rw [hdel _ (Ne.symm hg.2.1)]; exact h.ps.box, h.ps.le, h.ps.small⟩, fun k x hk hx => ?_, fun x hx => ?_, h.bd.sublist ((List.Sublist.refl l1).append (List.sublist_cons_self _ _))⟩
 ·have hne : k ≠ g := by rintro rfl; rw [hg.2.2] at hx; cases hx
  rw [hdel k hne];exact h.off k x hk hx
 have := h.bx x (by rcases List.mem_append.1 hx with hx | hx <;> simp [hx])
 rw [hdel _ (ho x hx)];exact this
def yva (E : TypeId) (n : Nat) (xs : List AV) : Option (Nat × Nat) -> List (Nat × Blk)
 | none => []
 | some (g, c) => [(g, .arr E n c xs)]
def waa (len : Nat) : Option (Nat × Nat) -> AV
 | none => .lst true 0 []
 | some (g, c) => .own g len c
theorem z2b (len : Nat) (o : Option (Nat × Nat)) : (waa len o).cells = [waa len o] /\ zya (waa len o) = true /\ waa len o ≠ .undef := by
 cases o with
 | none => exact ⟨rfl, rfl, by simp [waa]⟩
 | some p => exact ⟨rfl, rfl, by simp [waa]⟩
theorem BH.app {P : Program} {Ty E : TypeId} {n b : Nat} (hT : zab P Ty E n b) {xs : List AV} {x s : AV} {o : Option (Nat × Nat)} {ln : Nat} (hln : xs.length = ln) (h : BH m1 gr T a d bad (yva E n xs o ++ bs) m) (h1 : m1 gr ≠ none) (ho : o = none -> xs = [])
  (hs : wwa m n s = some [x]) (hx : x.cells.all zya = true) (hb : (2 * (ln + 1) + 1024) * b <= 281474976710656) {k : AV -> Mem -> Prop}
  (hk : ∀ g c m', BH m1 gr T a d bad (yva E n (xs ++ [x]) (some (g, c)) ++ bs) m' -> k (waa (ln + 1) (some (g, c))) m') : zNa P m k #[Ty, Ty] (waa ln o) s := by
 subst hln;obtain ⟨z, hz, hzl⟩ := hT.zero;unfold zNa;simp only [List.getElem?_toArray, List.getElem?_cons_zero, List.getElem?_cons_succ, hT.int, hT.elem, hT.size, hT.byte, hz, hs, true_and];refine ⟨hT.pos.1, hT.pos.2, hzl, ?_⟩;cases o with
 | none =>
  have := ho rfl;subst this;refine ⟨.inr rfl, by simpa using hb, ⟨fun h0 => (by cases h0), fun _ g c hg hle => ?_⟩⟩;exact hk g c _ (BH.new h h1 hg _)
 | some p =>
  obtain ⟨g, c⟩ := p;have hg := h.get (g := g) (b := .arr E n c xs) (by simp [yva]);simp only [waa, hg];refine ⟨trivial, trivial, trivial, trivial, by simpa using hx, by simpa using hb, fun g' c' hg' hle => ?_⟩;refine hk g' c' (m.set g' (.arr E n c' (xs ++ [x]))) ?_;rcases hg' with rfl | hg'
  ·exact BH.put (l1 := []) h _
  exact BH.new (h.less (bs' := bs) (List.sublist_cons_self _ _)) h1 hg' _
def sc (k : Int) (s : ByteArray) (a e lo hi : Ex) (v : AV) : List AV := .int .i64 k :: .str s :: (a.cells ++ (e.cells ++ (lo.cells ++ (hi.cells ++ [v]))))
theorem zjc (k : Int) (s : ByteArray) (a e lo hi : Ex) (b : List Sm) : (Sm.mk k s a e lo hi b).cells = sc k s a e lo hi (.lst false 19 (b.map Sm.av)) := Sm.cells_mk _ _ _ _ _ _ _
@[simp] theorem zLf (k : Int) (s : ByteArray) (a e lo hi : Ex) (v : AV) : (sc k s a e lo hi v).length = 19 := by simp [sc]
@[simp] theorem wEe (k : Int) (s : ByteArray) (a e lo hi : Ex) (v : AV) : List.take 19 (sc k s a e lo hi v) = sc k s a e lo hi v := List.take_of_length_le (by simp)
@[simp] theorem wFe (k : Int) (s : ByteArray) (a e lo hi : Ex) (v : AV) : List.drop 18 (sc k s a e lo hi v) = [v] := by
 have : sc k s a e lo hi v = (.int .i64 k :: .str s :: (a.cells ++ (e.cells ++ (lo.cells ++ hi.cells)))) ++ [v] := by simp [sc]
 rw [this];exact List.drop_left' (by simp)
theorem yTe (k : Int) (s : ByteArray) (a e lo hi : Ex) (b : List Sm) : ∀ x ∈ sc k s a e lo hi (.lst false 19 (b.map Sm.av)), zya x = true := by
 rw [<- zjc];exact List.all_eq_true.1 (Sm.cells_ok _)
theorem yXa {m : Mem} {g o : Nat} {u y w : List AV} {x : AV} (h : m g = some (.box (u ++ (y ++ w)))) (hu : u.length = o) (hy : y.length = x.cells.length) : zKa m (.ptr g o) x = some (m.set g (.box (u ++ (x.cells ++ w)))) := by
 simp only [zKa, h];rw [if_pos (by first | (simp [hu, hy]; done) | (simp [hu, hy]; omega))]
 congr 3;have e1 : List.take o (u ++ (y ++ w)) = u := List.take_left' hu;have e2 : List.drop (o + x.cells.length) (u ++ (y ++ w)) = w := by
  rw [<- List.append_assoc];exact List.drop_left' (by simp [hu, hy])
 rw [e1, e2, List.append_assoc]
theorem stK {g : Nat} {k : Int} {s : ByteArray} {a e lo hi : Ex} {v : AV} (h : m g = some (.box (sc k s a e lo hi v))) (k' : Int) : zKa m (.ptr g 0) (.int .i64 k') = some (m.set g (.box (sc k' s a e lo hi v))) := yXa (u := []) (y := [.int .i64 k]) (x := .int .i64 k') h rfl rfl
theorem stN {g : Nat} {k : Int} {s : ByteArray} {a e lo hi : Ex} {v : AV} (h : m g = some (.box (sc k s a e lo hi v))) (s' : ByteArray) : zKa m (.ptr g 1) (.str s') = some (m.set g (.box (sc k s' a e lo hi v))) := yXa (u := [.int .i64 k]) (y := [.str s]) (x := .str s') h rfl rfl
theorem stA {g : Nat} {k : Int} {s : ByteArray} {a e lo hi : Ex} {v : AV} (h : m g = some (.box (sc k s a e lo hi v))) (x : Ex) : zKa m (.ptr g 2) (.agg x.cells) = some (m.set g (.box (sc k s x e lo hi v))) := yXa (u := [.int .i64 k, .str s]) (y := a.cells) (x := .agg x.cells) h rfl (by simp [AV.cells])
theorem stE {g : Nat} {k : Int} {s : ByteArray} {a e lo hi : Ex} {v : AV} (h : m g = some (.box (sc k s a e lo hi v))) (x : Ex) : zKa m (.ptr g 6) (.agg x.cells) = some (m.set g (.box (sc k s a x lo hi v))) := by
 have e1 : ∀ e, sc k s a e lo hi v = (.int .i64 k :: .str s :: a.cells) ++ (e.cells ++ (lo.cells ++ (hi.cells ++ [v]))) := fun e => by simp [sc]
 rw [e1] at h ⊢;exact yXa (x := .agg x.cells) h (by simp) (by simp [AV.cells])
theorem stL {g : Nat} {k : Int} {s : ByteArray} {a e lo hi : Ex} {v : AV} (h : m g = some (.box (sc k s a e lo hi v))) (x : Ex) : zKa m (.ptr g 10) (.agg x.cells) = some (m.set g (.box (sc k s a e x hi v))) := by
 have e1 : ∀ lo, sc k s a e lo hi v = (.int .i64 k :: .str s :: (a.cells ++ e.cells)) ++ (lo.cells ++ (hi.cells ++ [v])) := fun e => by simp [sc]
 rw [e1] at h ⊢;exact yXa (x := .agg x.cells) h (by simp) (by simp [AV.cells])
theorem stH {g : Nat} {k : Int} {s : ByteArray} {a e lo hi : Ex} {v : AV} (h : m g = some (.box (sc k s a e lo hi v))) (x : Ex) : zKa m (.ptr g 14) (.agg x.cells) = some (m.set g (.box (sc k s a e lo x v))) := by
 have e1 : ∀ hi, sc k s a e lo hi v = (.int .i64 k :: .str s :: (a.cells ++ (e.cells ++ lo.cells))) ++ (hi.cells ++ [v]) := fun e => by simp [sc]
 rw [e1] at h ⊢;exact yXa (x := .agg x.cells) h (by simp) (by simp [AV.cells])
theorem stB {g : Nat} {k : Int} {s : ByteArray} {a e lo hi : Ex} {v : AV} (h : m g = some (.box (sc k s a e lo hi v))) (v' : AV) (hv : v'.cells = [v']) : zKa m (.ptr g 18) v' = some (m.set g (.box (sc k s a e lo hi v'))) := by
 have e1 : ∀ v, sc k s a e lo hi v = (.int .i64 k :: .str s :: (a.cells ++ (e.cells ++ (lo.cells ++ hi.cells)))) ++ ([v] ++ []) := fun e => by simp [sc]
 rw [e1] at h ⊢;have h2 := yXa (u := .int .i64 k :: .str s :: (a.cells ++ (e.cells ++ (lo.cells ++ hi.cells)))) (y := [v]) (w := []) (x := v') (o := 18) h (by simp) (by rw [hv]; rfl);rw [hv] at h2;exact h2
end
def wcd (P : Program) (n : FuncId) (k : Int) (f : PA Sm) : Prop :=
 ∀ (gr : Nat) (T : List Tk) (a : Nat) (d : Int) (bad : Bool) (m : Mem), PS gr T a d bad m -> (∀ t ∈ T, t.fine) -> (bad = false -> d = 0) -> ∀ K : AV -> Mem -> Prop,
  (∀ m' x a' d' bad', PS gr T a' d' bad' m' -> Off gr m m' -> zfa f T a bad x a' bad' -> (bad' = false -> d' = 0) -> K (Sm.av x) m') -> zka P n [.ptr gr 0, .int .i64 k] m K
theorem yUe : Les [.int .i64 0, .str empty, .int .i64 0, .int .i64 0, .str empty, .lst true 0 [], .int .i64 0, .int .i64 0, .str empty, .lst true 0 [], .int .i64 0, .int .i64 0, .str empty, .lst true 0 [], .int .i64 0, .int .i64 0, .str empty, .lst true 0 [], .lst true 0 []] (sc 0 ⟨#[]⟩ zE zE zE zE (.lst true 0 [])) := by
 unfold sc zE;simp only [Ex.cells_mk, List.map_nil, List.cons_append, List.nil_append];repeat (first | exact .nil | refine .cons (by first | exact Le.refl _ | exact Le.nil _ _ _) ?_)
theorem wdd {T : List Tk} {a : Nat} (ha : a <= T.length) {bad : Bool} (s : ByteArray) : zfa (kpR s) T a bad () (if (hdT T a bad).is 3 s = true then a + 1 else a) (bad || !(hdT T a bad).is 3 s) := by
 cases bad with
 | true => simp; exact zfa.bad _ _ _ _ _
 | false =>
  by_cases hlt : a < T.length
  ·rw [xUa hlt];have hd : T.drop a = T[a] :: T.drop (a + 1) := List.drop_eq_getElem_cons hlt;cases hi : T[a].is 3 s with
   | true =>
    refine ⟨fun x0 r _ he => ?_, fun h => ?_⟩
    ·rw [hd] at he;simp only [kpR, tkS, hi, if_true, Option.map_some, Option.some.injEq, Prod.mk.injEq] at he;exact ⟨rfl, rfl, he.2⟩
    have h := h.resolve_left (by simp);rw [hd] at h;simp [kpR, tkS, hi] at h
   | false =>
    refine ⟨fun x0 r _ he => ?_, fun _ => rfl⟩;rw [hd] at he;simp [kpR, tkS, hi] at he
  rw [wta (by omega)];have hd : T.drop a = [] := List.drop_eq_nil_of_le (by omega);refine ⟨fun x0 r _ he => ?_, fun _ => by simp [Tk.is]⟩;rw [hd] at he;simp [kpR, tkS] at he
theorem y2d {T : List Tk} {a : Nat} {bad : Bool} : zfa nmP T a bad (if (hdT T a bad).k = 1 then (hdT T a bad).s else ⟨#[]⟩) (if (hdT T a bad).k = 1 then a + 1 else a) (!decide ((hdT T a bad).k = 1)) := by
 have := yod (T := T) (a := a) (bad := bad) (hdT T a bad) rfl;split at this <;> split <;> simp_all
theorem wed {T : List Tk} {a : Nat} {bad : Bool} : zfa xod T a bad (if (hdT T a bad).k = 2 then (hdT T a bad).n else 0) (if (hdT T a bad).k = 2 then a + 1 else a) (!decide ((hdT T a bad).k = 2)) := by
 have := x1c (T := T) (a := a) (bad := bad) (hdT T a bad) rfl;split at this <;> split <;> simp_all
theorem xqc {gr : Nat} {T : List Tk} {a : Nat} {d : Int} {bad : Bool} {m : Mem} (h : PS gr T a d bad m) {K : AV -> Mem -> Prop}
  (hK : ∀ m' s a' b', PS gr T a' d b' m' -> Off gr m m' -> zfa nmP T a bad s a' b' -> K (.str s) m') : zka Tryz.prog 62 [.ptr gr 0] m K :=
 wkc h fun m' hP hO => hK m' _ _ _ hP hO y2d
theorem yVe {gr : Nat} {T : List Tk} {a : Nat} {d : Int} {bad : Bool} {m : Mem} (h : PS gr T a d bad m) {K : AV -> Mem -> Prop}
  (hK : ∀ m' n a' b', PS gr T a' d b' m' -> Off gr m m' -> zfa xod T a bad n a' b' -> K (.int .i64 n) m') : zka Tryz.prog 63 [.ptr gr 0] m K :=
 yZd h fun m' hP hO => hK m' _ _ _ hP hO wed
theorem xrc {T : List Tk} {a : Nat} {bad : Bool} {s : ByteArray} (h : (hdT T a bad).is 3 s = false) : bad = true ∨ ∀ hlt : a < T.length, T[a].is 3 s = false := by
 cases bad with
 | true => exact .inl rfl
 | false => exact .inr fun hlt => by rw [xUa hlt] at h; exact h
theorem y3d {T : List Tk} {a : Nat} {bad : Bool} {c : UInt8} (h : (hdT T a bad).is 4 (ch c) = false) : bad = true ∨ xPd T a c := by
 cases bad with
 | true => exact .inl rfl
 | false => exact .inr (yBc h)
theorem Cur.at {l : List Int} {g : Nat} {m : Mem} (h : Cur l g m) : m g ≠ none := by obtain ⟨i, k, _, _, h⟩ := h; rw [h]; simp
theorem Cur.of {l : List Int} {g : Nat} {m m' : Mem} (h : Cur l g m) (e : m' g = m g) : Cur l g m' := by obtain ⟨i, k, h1, h2, h⟩ := h; exact ⟨i, k, h1, h2, by rw [e]; exact h⟩
theorem Cur.off {l : List Int} {g : Nat} {m : Mem} (h : Cur l g m) {k : Nat} (hk : k ≠ g) (b : Blk) : Cur l g (m.set k b) := h.of (Mem.so (Ne.symm hk))
theorem yra {g : Nat} {m m' : Mem} (h : ∀ k, k ≠ g -> m' k = m k) : Off g m m' := fun k x hk hx => by rw [h k hk]; exact hx
structure DH (m1 : Mem) (l : List Int) (gr : Nat) (bs : List (Nat × Blk)) (m : Mem) : Prop where
 ps : Cur l gr m
 off : Off gr m1 m
 bx : ∀ b ∈ bs, m b.1 = some b.2 /\ b.1 ≠ gr /\ m1 b.1 = none
 bd : bs.Pairwise fun x y => x.1 ≠ y.1
section
variable {m1 m m' : Mem} {l : List Int} {gr : Nat} {bs : List (Nat × Blk)}
theorem DH.start (h : Cur l gr m) : DH m l gr [] m := ⟨h, Off.refl _ _, by simp, .nil⟩
theorem DH.get (h : DH m1 l gr bs m) {g : Nat} {b : Blk} (hb : (g, b) ∈ bs) : m g = some b := (h.bx _ hb).1
theorem DH.call (h : DH m1 l gr bs m) (h1 : m1 gr ≠ none) (hO : Off gr m m') (hP : Cur l gr m') : DH m1 l gr bs m' :=
 ⟨hP, h.off.trans hO, fun b hb => ⟨hO _ _ (h.bx b hb).2.1 (h.bx b hb).1, (h.bx b hb).2⟩, h.bd⟩
theorem DH.new (h : DH m1 l gr bs m) (h1 : m1 gr ≠ none) {g : Nat} (hg : m g = none) (b : Blk) : DH m1 l gr ((g, b) :: bs) (m.set g b) := by
 have hne : g ≠ gr := by rintro rfl; exact (Cur.at h.ps) hg
 have k := h.call h1 (Off.ext (zFa hg b)) (Cur.off h.ps hne b);refine ⟨k.ps, k.off, fun x hx => ?_, List.pairwise_cons.2 ⟨fun x hx e => ?_, k.bd⟩⟩
 ·rcases List.mem_cons.1 hx with rfl | hx
  ·exact ⟨zaa _ _ _, hne, yAa h.off (Cur.at h.ps) hg⟩
  exact k.bx x hx
 have := (h.bx x hx).1;rw [<- e] at this;simp only at this;rw [hg] at this;cases this
theorem DH.put {l1 l2 : List (Nat × Blk)} {g : Nat} {b : Blk} (h : DH m1 l gr (l1 ++ (g, b) :: l2) m) (b' : Blk) : DH m1 l gr (l1 ++ (g, b') :: l2) (m.set g b') := by
 have hg := h.bx (g, b) (by simp);have hd := List.pairwise_append.1 h.bd;have hd2 := List.pairwise_cons.1 hd.2.1;have ho : ∀ x, x ∈ l1 ∨ x ∈ l2 -> x.1 ≠ g := fun x hx => by
  rcases hx with hx | hx
  ·exact hd.2.2 x hx (g, b) (by simp)
  exact Ne.symm (hd2.1 x hx)
 refine ⟨Cur.off h.ps hg.2.1 _, fun k x hk hx => ?_, fun x hx => ?_, ?_⟩
 ·have hne : k ≠ g := by rintro rfl; rw [hg.2.2] at hx; cases hx
  rw [Mem.so hne];exact h.off k x hk hx
 ·rcases List.mem_append.1 hx with hx | hx
  ·have := h.bx x (by simp [hx]);exact ⟨by rw [Mem.so (ho x (.inl hx))]; exact this.1, this.2⟩
  rcases List.mem_cons.1 hx with rfl | hx
  ·exact ⟨zaa _ _ _, hg.2⟩
  have := h.bx x (by simp [hx]);exact ⟨by rw [Mem.so (ho x (.inr hx))]; exact this.1, this.2⟩
 exact List.pairwise_append.2 ⟨hd.1, List.pairwise_cons.2 ⟨fun x hx => hd2.1 x hx, hd2.2⟩, fun x hx y hy => by
  rcases List.mem_cons.1 hy with rfl | hy
  ·exact hd.2.2 x hx (g, b) (by simp)
  exact hd.2.2 x hx y (by simp [hy])⟩
theorem DH.less (h : DH m1 l gr bs m) {bs' : List (Nat × Blk)} (hb : bs'.Sublist bs) : DH m1 l gr bs' m := ⟨h.ps, h.off, fun x k => h.bx x (hb.subset k), h.bd.sublist hb⟩
theorem DH.del {g : Nat} {b : Blk} {l1 l2 : List (Nat × Blk)} (h : DH m1 l gr (l1 ++ (g, b) :: l2) m) : DH m1 l gr (l1 ++ l2) (m.del g) := by
 have hg := h.bx (g, b) (by simp);have hd := List.pairwise_append.1 h.bd;have hd2 := List.pairwise_cons.1 hd.2.1;have ho : ∀ x, x ∈ l1 ++ l2 -> x.1 ≠ g := fun x hx => by
  rcases List.mem_append.1 hx with hx | hx
  ·exact hd.2.2 x hx (g, b) (by simp)
  exact Ne.symm (hd2.1 x hx)
 have hdel : ∀ k, k ≠ g -> (m.del g) k = m k := fun k hk => by unfold Mem.del; rw [if_neg hk]
 refine ⟨Cur.of h.ps (hdel _ (Ne.symm hg.2.1)), fun k x hk hx => ?_, fun x hx => ?_, h.bd.sublist ((List.Sublist.refl l1).append (List.sublist_cons_self _ _))⟩
 ·have hne : k ≠ g := by rintro rfl; rw [hg.2.2] at hx; cases hx
  rw [hdel k hne];exact h.off k x hk hx
 have := h.bx x (by rcases List.mem_append.1 hx with hx | hx <;> simp [hx])
 rw [hdel _ (ho x hx)];exact this
def z1a (e0 len : Nat) : Option (Nat × Nat) -> AV
 | none => .lst true e0 []
 | some (g, c) => .own g len c
theorem wba (e0 len : Nat) (o : Option (Nat × Nat)) : (z1a e0 len o).cells = [z1a e0 len o] /\ zya (z1a e0 len o) = true /\ z1a e0 len o ≠ .undef := by
 cases o with
 | none => exact ⟨rfl, rfl, by simp [z1a]⟩
 | some p => exact ⟨rfl, rfl, by simp [z1a]⟩
theorem DH.app {P : Program} {Ty E : TypeId} {n b : Nat} (hT : zab P Ty E n b) {xs : List AV} {x s : AV} {o : Option (Nat × Nat)} {ln e0 : Nat} (hln : xs.length = ln) (h : DH m1 l gr (yva E n xs o ++ bs) m) (h1 : m1 gr ≠ none) (ho : o = none -> xs = [])
  (hs : wwa m n s = some [x]) (hx : x.cells.all zya = true) (hb : (2 * (ln + 1) + 1024) * b <= 281474976710656) {k : AV -> Mem -> Prop}
  (hk : ∀ g c m', DH m1 l gr (yva E n (xs ++ [x]) (some (g, c)) ++ bs) m' -> k (z1a e0 (ln + 1) (some (g, c))) m') : zNa P m k #[Ty, Ty] (z1a e0 ln o) s := by
 subst hln;obtain ⟨z, hz, hzl⟩ := hT.zero;unfold zNa;simp only [List.getElem?_toArray, List.getElem?_cons_zero, List.getElem?_cons_succ, hT.int, hT.elem, hT.size, hT.byte, hz, hs, true_and];refine ⟨hT.pos.1, hT.pos.2, hzl, ?_⟩;cases o with
 | none =>
  have := ho rfl;subst this;refine ⟨.inr rfl, by simpa using hb, ⟨fun h0 => (by cases h0), fun _ g c hg hle => ?_⟩⟩;exact hk g c _ (DH.new h h1 hg _)
 | some p =>
  obtain ⟨g, c⟩ := p;have hg := h.get (g := g) (b := .arr E n c xs) (by simp [yva]);simp only [z1a, hg];refine ⟨trivial, trivial, trivial, trivial, by simpa using hx, by simpa using hb, fun g' c' hg' hle => ?_⟩;refine hk g' c' (m.set g' (.arr E n c' (xs ++ [x]))) ?_;rcases hg' with rfl | hg'
  ·exact DH.put (l1 := []) h _
  exact DH.new (h.less (bs' := bs) (List.sublist_cons_self _ _)) h1 hg' _
end
theorem wca {l : List Int} (hl : yKc l) {g : Nat} {m : Mem} (hm : Cur l g m) (f : Bool) (ns : List ByteArray) (h0 : 0 < ns.length) (h1 : ns.length <= 1000) {K : AV -> Mem -> Prop} (hK : ∀ x m', x ∈ ns -> Cur l g m' -> Off g m m' -> K (.str x) m') : zka Tryz.prog 76 [.ptr g 0, .lst f 1 (ns.map AV.str)] m K := by
 refine wO Tryz.func76 ?_;refine rA ?_;try simp
 refine rA ?_;simp;refine wA ?_;refine zHa hl hm ns.length (by omega) fun x m' x0 x1 hc ho => ?_;obtain ⟨j, rfl⟩ := Int.eq_ofNat_of_zero_le x0;have hj : j < ns.length := by omega
 have hx : ∀ m, yga Tryz.prog m 70 (.lst f 1 (ns.map AV.str)) (.int .i64 j) = some (.ref [.str ns[j]]) := fun m => idx (y := .str ns[j]) es_70 (by simp [gE hj]);simp [hx];refine AWp.ret (zea rfl ⟨_, _, View.refl _ _, ?_⟩);simp;exact hK _ _ (List.getElem_mem hj) hc (yra ho)
def zMe (P : Program) (n : FuncId) (us : List AV) (B : Nat) : Prop := ∀ (l : List Int), yKc l -> ∀ (g : Nat) (m : Mem), Cur l g m -> ∀ K : AV -> Mem -> Prop, (∀ e m', e.tot <= B -> Cur l g m' -> Off g m m' -> K (Ex.av e) m') -> zka P n (.ptr g 0 :: us) m K
open _root_.ByteArray (empty)
theorem zAb (d : Int) (B : Nat) (hB : 1 <= B) (hd1 : -100 <= d) (hd2 : d <= 100) (hrec : 0 < d -> zMe Tryz.prog 78 [.int .i64 (d - 1)] B) : zMe Tryz.prog 78 [.int .i64 d] (2 * B + 2) := by
 intro l hl g m hc0 K hK;have hgr := hc0.at
 have tk : ∀ e : Ex, List.take 4 e.cells = e.cells := fun e => List.take_of_length_le (by simp);refine wO Tryz.func78 ?_;refine rA ?_;simp;intro g4 hg4;have h := (DH.start hc0).new hgr hg4 (.box [.int .i64 0, .int .i64 0, .str empty, .lst true 0 []]);refine AWp.gen (fun st => st.sl 0 = .ptr g 0 /\ st.sl 1 = .int .i64 d /\ st.sl 4 = .ptr g4 0 /\ st.mem = m.set g4 (.box [.int .i64 0, .int .i64 0, .str empty, .lst true 0 []])) ⟨by simp, by simp, by simp, by simp⟩ ?_;generalize m.set g4 (.box [.int .i64 0, .int .i64 0, .str empty, .lst true 0 []]) = m0 at *;rintro st ⟨s0, s1, s4, sm⟩;refine rA ?_;simp [s0, zda];refine wA ?_;simp [sm];refine zYb hl h.ps true [1, 2, 2, 3, 4, 4, 5, 6, 7, 8] (by simp) (by simp) fun k0 m1 hk0 hc ho => ?_;have h := h.call hgr (yra ho) hc;clear ho hc;have hk8 : 1 <= k0 /\ k0 <= 8 := by
  simp at hk0;omega
 try simp
 refine AWp.gen (fun st => st.sl 0 = .ptr g 0 /\ st.sl 1 = .int .i64 d /\ st.sl 4 = .ptr g4 0 /\ st.sl 5 = .int .i64 k0 /\ st.mem = m1) ⟨by simp [s0], by simp [s1], by simp [s4], by simp, by simp⟩ ?_;clear s0 s1 s4 sm hk0;rintro st ⟨s0, s1, s4, s5, sm⟩;obtain ⟨M, hM⟩ : ∃ M : St -> Prop, M = (fun st => ∃ k : Int, 1 <= k /\ k <= 8 /\ (d <= 0 -> k <= 2) /\ st.sl 0 = .ptr g 0 /\ st.sl 1 = .int .i64 d /\ st.sl 4 = .ptr g4 0 /\ st.sl 5 = .int .i64 k /\ st.mem = m1) := ⟨_, rfl⟩;refine qA ?_;refine AWp.cA M ?_ ?_
 ·by_cases hd0 : d <= 0
  ·by_cases h2 : 2 < k0
   ·refine rA ?_;simp [s1, s5, hd0, h2];refine tA ?_;refine rA ?_;simp;subst hM;exact ⟨1, by omega, by omega, fun _ => by omega, by simp [s0], by simp [s1], by simp [s4], by simp, by simp [sm]⟩
   refine rA ?_;simp [s1, s5, hd0, h2];refine fA ?_;refine kA ?_;subst hM;exact ⟨k0, by omega, by omega, fun _ => by omega, by simp [s0], by simp [s1], by simp [s4], by simp [s5], by simp [sm]⟩
  refine rA ?_;simp [s1, s5, hd0];refine fA ?_;refine kA ?_;subst hM;exact ⟨k0, by omega, by omega, fun e => absurd e hd0, by simp [s0], by simp [s1], by simp [s4], by simp [s5], by simp [sm]⟩
 intro st hst;subst hM;obtain ⟨k, hk1, hk8, hkd, s0, s1, s4, s5, sm⟩ := hst;refine rA ?_;simp [s5];obtain ⟨M, hM⟩ : ∃ M : St -> Prop, M = (fun st => 4 <= k /\ st.sl 0 = .ptr g 0 /\ st.sl 1 = .int .i64 d /\ st.sl 4 = .ptr g4 0 /\ st.sl 5 = .int .i64 k /\ st.mem = m1) := ⟨_, rfl⟩;(repeat refine qA ?_);refine AWp.cA M ?_ ?_
 ·(repeat refine qA ?_);refine bA ?_;refine rA ?_;simp;by_cases e1 : k = 1
  ·(repeat refine qA ?_);refine AWp.condT (by simp [e1]) ?_;refine rA ?_;simp [s0];refine wA ?_;simp [sm];refine zHa hl h.ps 10 (by omega) fun n m2 n0 n1 hc ho => ?_;have h := h.call hgr (yra ho) hc;try simp
   refine oC' (xtb n) ?_;have w4 := h.get (g := g4) (b := .box [.int .i64 0, .int .i64 0, .str empty, .lst true 0 []]) (by simp);simp [s4, w4, Ex.av, tk];try refine ⟨okE _, ?_⟩
   have q := DH.put (l1 := []) (b' := .box (Ex.mk 1 n ⟨#[]⟩ []).cells) h;exact AWp.ret ⟨[(Ex.mk 1 n ⟨#[]⟩ []).av], (Ex.mk 1 n ⟨#[]⟩ []).av, _, by simp [Tryz.f78, zQa, s4, Ex.av, tk], by (try simp); exact View.refl _ _, hK _ _ (by rw [Ex.tot_mk]; have : (⟨#[]⟩ : ByteArray).size = 0 := rfl; simp only [zAa]; omega) q.ps q.off⟩
  (repeat refine qA ?_);refine AWp.condF (by simp [e1]) ?_;refine rA ?_;simp;by_cases e2 : k = 2
  ·(repeat refine qA ?_);refine AWp.condT (by simp [e2]) ?_;refine rA ?_;simp [s0, zda];refine wA ?_;simp [sm];refine wca hl h.ps true [⟨#[120]⟩, ⟨#[121]⟩, ⟨#[105]⟩, ⟨#[106]⟩, ⟨#[115]⟩] (by simp) (by simp) fun nm m2 hn hc ho => ?_;have h := h.call hgr ho hc;try simp
   refine oC' (y0d nm) ?_;have w4 := h.get (g := g4) (b := .box [.int .i64 0, .int .i64 0, .str empty, .lst true 0 []]) (by simp);simp [s4, w4, Ex.av, tk];try refine ⟨okE _, ?_⟩
   have q := DH.put (l1 := []) (b' := .box (Ex.mk 2 0 nm []).cells) h;exact AWp.ret ⟨[(Ex.mk 2 0 nm []).av], (Ex.mk 2 0 nm []).av, _, by simp [Tryz.f78, zQa, s4, Ex.av, tk], by (try simp); exact View.refl _ _, hK _ _ (by have : nm.size <= 1 := (by simp at hn; rcases hn with rfl | rfl | rfl | rfl | rfl <;> decide); rw [Ex.tot_mk]; simp only [zAa]; omega) q.ps q.off⟩
  (repeat refine qA ?_);refine AWp.condF (by simp [e2]) ?_;refine rA ?_;simp;by_cases e3 : k = 3
  ·(repeat refine qA ?_);refine AWp.condT (by simp [e3]) ?_;have hd0 : 0 < d := by omega
   have hw : IntKind.wrap .i64 (d - 1) = d - 1 := zga (by omega) (by omega);refine rA ?_;simp [s0, s1, hw, zda];refine wA ?_;simp [sm];refine wca hl h.ps true [⟨#[97]⟩, ⟨#[98]⟩] (by simp) (by simp) fun nm m2 hn hc ho => ?_;have h := h.call hgr ho hc;simp [s0, s1, hw];refine wA ?_;try simp
   refine hrec hd0 l hl g _ h.ps _ fun x m3 hx hc ho => ?_;have h := h.call hgr ho hc;try simp
   refine oC' (r := (Ex.mk 3 0 nm [x]).av) (by simpa [Ex.av] using wRd nm x) ?_;have w4 := h.get (g := g4) (b := .box [.int .i64 0, .int .i64 0, .str empty, .lst true 0 []]) (by simp);simp [s4, w4, Ex.av, tk];try refine ⟨okE _, ?_⟩
   have q := DH.put (l1 := []) (b' := .box (Ex.mk 3 0 nm [x]).cells) h;exact AWp.ret ⟨[(Ex.mk 3 0 nm [x]).av], (Ex.mk 3 0 nm [x]).av, _, by simp [Tryz.f78, zQa, s4, Ex.av, tk], by (try simp); exact View.refl _ _, hK _ _ (by have : nm.size <= 1 := (by simp at hn; rcases hn with rfl | rfl <;> decide); rw [Ex.tot_mk]; simp only [zAa]; omega) q.ps q.off⟩
  (repeat refine qA ?_);refine AWp.condF (by simp [e3]) ?_;refine kA ?_;subst hM;exact ⟨by omega, by simp [s0], by simp [s1], by simp [s4], by simp [s5], by simp [sm]⟩
 clear s0 s1 s4 s5 sm;intro st hst;subst hM;obtain ⟨hk4, s0, s1, s4, s5, sm⟩ := hst;have hd0 : 0 < d := by omega
 have hw : IntKind.wrap .i64 (d - 1) = d - 1 := zga (by omega) (by omega);refine rA ?_;simp [s0, s1, hw];refine wA ?_;simp [sm];refine hrec hd0 l hl g _ h.ps _ fun x m2 hx hc ho => ?_;have h := h.call hgr ho hc;simp [Ex.av];intro g6 hg6;try refine ⟨okE _, ?_⟩
 have h := h.new hgr hg6 (.box x.cells);refine AWp.gen (fun st => st.sl 0 = .ptr g 0 /\ st.sl 1 = .int .i64 d /\ st.sl 4 = .ptr g4 0 /\ st.sl 5 = .int .i64 k /\ st.sl 6 = .ptr g6 0 /\ st.mem = m2.set g6 (.box x.cells)) ⟨by simp [s0], by simp [s1], by simp [s4], by simp [s5], by simp, by simp⟩ ?_;generalize m2.set g6 (.box x.cells) = m3 at *;clear s0 s1 s4 s5 sm hg6 ho hc;rintro st ⟨s0, s1, s4, s5, s6, sm⟩;(repeat refine qA ?_);refine AWp.regionX (fun _ => false) (fun _ => false) [0, 1, 2, 3, 4, 5, 6, 7] [0, 2, 3, 4, 5, 1, 6, 7] 1 5 [0, 1, 2, 3, 4, 5, 6, 7] (by kernel_rfl) ?_ ?_
 ·have w6 := h.get (g := g6) (b := .box x.cells) (by simp);simp [s0, s1, s5, s6, sm, w6, hw, tk];refine wA ?_;simp [sm];refine hrec hd0 l hl g _ h.ps _ fun y m4 hy hc ho => ?_;have h := h.call hgr ho hc;try simp
  refine oC' (r := (two k x y).av) (by simpa [Ex.av] using w2a k x y) ?_;have w4 := h.get (g := g4) (b := .box [.int .i64 0, .int .i64 0, .str empty, .lst true 0 []]) (by simp);simp [s4, w4, Ex.av, tk];try refine ⟨okE _, ?_⟩
  have q := DH.put (l1 := [(g6, .box x.cells)]) (b' := .box (two k x y).cells) h;exact AWp.ret ⟨[(two k x y).av], (two k x y).av, _, by simp [Tryz.f78, zQa, s4, Ex.av, tk], by (try simp); exact View.refl _ _, hK _ _ (by rw [zQb]; omega) q.ps q.off⟩
 simp [s0, s1, s5, s6, sm, hw];refine wA ?_;simp [sm];refine hrec hd0 l hl g _ h.ps _ fun y m4 hy hc ho => ?_;have h := h.call hgr ho hc;have w6 := h.get (g := g6) (b := .box x.cells) (by simp);simp [w6, s6, tk];refine oC' (r := (two k x y).av) (by simpa [Ex.av] using w2a k x y) ?_;have w4 := h.get (g := g4) (b := .box [.int .i64 0, .int .i64 0, .str empty, .lst true 0 []]) (by simp);simp [s4, w4, Ex.av, tk];try refine ⟨okE _, ?_⟩
 have q := DH.put (l1 := [(g6, .box x.cells)]) (b' := .box (two k x y).cells) h;exact AWp.ret ⟨[(two k x y).av], (two k x y).av, _, by simp [Tryz.f78, zQa, s4, Ex.av, tk], by (try simp); exact View.refl _ _, hK _ _ (by rw [zQb]; omega) q.ps q.off⟩
theorem wDb : zMe Tryz.prog 78 [.int .i64 0] 4 := zAb 0 1 (by omega) (by omega) (by omega) fun h => by omega
theorem z3b : zMe Tryz.prog 78 [.int .i64 1] 10 := zAb 1 4 (by omega) (by omega) (by omega) fun _ => wDb
theorem wGa : zMe Tryz.prog 78 [.int .i64 2] 22 := zAb 2 10 (by omega) (by omega) (by omega) fun _ => z3b
theorem wEb : zMe Tryz.prog 78 [.int .i64 3] 46 := zAb 3 22 (by omega) (by omega) (by omega) fun _ => wGa
open _root_.ByteArray (empty)
theorem xsc : zMe Tryz.prog 29 [] 100 := by
 intro l hl g m hc0 K hK;have hgr := hc0.at
 have tk : ∀ e : Ex, List.take 4 e.cells = e.cells := fun e => List.take_of_length_le (by simp);have dr : ∀ e : Ex, List.drop 4 e.cells = [] := fun e => List.drop_eq_nil_of_le (by simp);refine wO Tryz.func29 ?_;refine rA ?_;simp;intro g2 hg2;have h := (DH.start hc0).new hgr hg2 (.box [.int .i64 0, .int .i64 0, .str empty, .lst true 0 []]);refine AWp.gen (fun st => st.sl 0 = .ptr g 0 /\ st.sl 2 = .ptr g2 0 /\ st.mem = m.set g2 (.box [.int .i64 0, .int .i64 0, .str empty, .lst true 0 []])) ⟨by simp, by simp, by simp⟩ ?_;generalize m.set g2 (.box [.int .i64 0, .int .i64 0, .str empty, .lst true 0 []]) = m0 at *;rintro st ⟨s0, s2, sm⟩;refine rA ?_;simp [s0];refine wA ?_;simp [sm];refine wEb l hl g _ h.ps _ fun x m1 hx hc ho => ?_;have h := h.call hgr ho hc;simp [Ex.av];intro g3 hg3;try refine ⟨okE _, ?_⟩
 have h := h.new hgr hg3 (.box x.cells);refine AWp.gen (fun st => st.sl 0 = .ptr g 0 /\ st.sl 2 = .ptr g2 0 /\ st.sl 3 = .ptr g3 0 /\ st.mem = m1.set g3 (.box x.cells)) ⟨by simp [s0], by simp [s2], by simp, by simp⟩ ?_;generalize m1.set g3 (.box x.cells) = m2 at *;clear s0 s2 sm hg3 ho hc;rintro st ⟨s0, s2, s3, sm⟩;refine rA ?_;simp [s0];refine wA ?_;simp [sm];refine zHa hl h.ps 10 (by omega) fun n m3 n0 n1 hc ho => ?_;have h := h.call hgr (yra ho) hc;clear hc ho;try simp
 refine AWp.gen (fun st => st.sl 0 = .ptr g 0 /\ st.sl 2 = .ptr g2 0 /\ st.sl 3 = .ptr g3 0 /\ st.sl 8 = .int .i64 n /\ st.mem = m3) ⟨by simp [s0], by simp [s2], by simp [s3], by simp, by simp⟩ ?_;clear s0 s2 s3 sm;rintro st ⟨s0, s2, s3, s8, sm⟩;obtain ⟨M, hM⟩ : ∃ M : St -> Prop, M = (fun st => ∃ e : Ex, e.tot <= 100 /\ st.sl 2 = .ptr g2 0 /\ st.sl 3 = .ptr g3 0 /\ DH m l g [(g3, .box e.cells), (g2, .box [.int .i64 0, .int .i64 0, .str empty, .lst true 0 []])] st.mem) := ⟨_, rfl⟩;(repeat refine qA ?_);refine AWp.cA M ?_ ?_
 ·(repeat refine qA ?_);refine bA ?_;rcases x with ⟨ek, en, es, el⟩;have hxl : es.size + zAa Ex.tot el <= 46 := by rw [Ex.tot_mk] at hx; omega
  have w3 := h.get (g := g3) (b := .box (Ex.mk ek en es el).cells) (by simp);rw [Ex.cells_mk] at w3;refine rA ?_;simp [s8];by_cases e0 : n = 0
  ·(repeat refine qA ?_);refine AWp.condT (by simp [e0]) ?_;refine rA ?_;simp [s0];refine wA ?_;simp [sm];refine zHa hl h.ps 10 (by omega) fun k m4 k0 k1 hc ho => ?_;have h := h.call hgr (yra ho) hc;have w3 := h.get (g := g3) (b := .box (Ex.mk ek en es el).cells) (by simp);rw [Ex.cells_mk] at w3;simp [s3, w3];have h := DH.put (l1 := []) (b' := .box (Ex.mk k en es el).cells) h;subst hM;exact ⟨Ex.mk k en es el, by rw [Ex.tot_mk]; omega, by simp [s2], by simp [s3], by simpa [Ex.cells_mk] using h⟩
  (repeat refine qA ?_);refine AWp.condF (by simp [e0]) ?_;refine rA ?_;simp [s8];by_cases e1 : n = 1
  ·(repeat refine qA ?_);refine AWp.condT (by simp [e1]) ?_;refine rA ?_;simp [s0, zda];refine wA ?_;simp [sm];refine zYb hl h.ps true [-1, 999999, 1000000] (by simp) (by simp) fun k m4 hk hc ho => ?_;have h := h.call hgr (yra ho) hc;have w3 := h.get (g := g3) (b := .box (Ex.mk ek en es el).cells) (by simp);rw [Ex.cells_mk] at w3;simp [s3, w3];have h := DH.put (l1 := []) (b' := .box (Ex.mk ek k es el).cells) h;subst hM;exact ⟨Ex.mk ek k es el, by rw [Ex.tot_mk]; omega, by simp [s2], by simp [s3], by simpa [Ex.cells_mk] using h⟩
  (repeat refine qA ?_);refine AWp.condF (by simp [e1]) ?_;refine rA ?_;simp [s8];by_cases e2 : n = 2
  ·(repeat refine qA ?_);refine AWp.condT (by simp [e2]) ?_;refine rA ?_;simp [s0, zda];refine wA ?_;simp [sm];refine wca hl h.ps true [⟨#[]⟩, ⟨#[102, 111, 114]⟩, ⟨#[120]⟩] (by simp) (by simp) fun nm m4 hn hc ho => ?_;have h := h.call hgr ho hc;have w3 := h.get (g := g3) (b := .box (Ex.mk ek en es el).cells) (by simp);rw [Ex.cells_mk] at w3;simp [s3, w3];have hnm : nm.size <= 3 := by simp at hn; rcases hn with rfl | rfl | rfl <;> decide
   have h := DH.put (l1 := []) (b' := .box (Ex.mk ek en nm el).cells) h;subst hM;exact ⟨Ex.mk ek en nm el, by rw [Ex.tot_mk]; omega, by simp [s2], by simp [s3], by simpa [Ex.cells_mk] using h⟩
  (repeat refine qA ?_);refine AWp.condF (by simp [e2]) ?_;refine rA ?_;simp [s8];by_cases e3 : n = 3
  ·(repeat refine qA ?_);refine AWp.condT (by simp [e3]) ?_;refine rA ?_;simp [s0];refine wA ?_;simp [sm];refine zHa hl h.ps 9 (by omega) fun k m4 k0 k1 hc ho => ?_;have h := h.call hgr (yra ho) hc;obtain ⟨j, rfl⟩ := Int.eq_ofNat_of_zero_le k0;try simp
   refine AWp.lastQ M ?_ (fun st hst => by simpa [w9a, wSa] using hst);refine AWp.block (AWp.ro (fun q st => ∃ (i : Nat) (e : Ex), q = i /\ i <= 8 /\ e.tot + 2 * i <= 46 + 16 /\ st.sl 2 = .ptr g2 0 /\ st.sl 3 = .ptr g3 0 /\ st.sl 4 = .int .i64 i /\ DH m l g [(g3, .box e.cells), (g2, .box [.int .i64 0, .int .i64 0, .str empty, .lst true 0 []])] st.mem) j ⟨j, Ex.mk ek en es el, rfl, by omega, by rw [Ex.tot_mk]; omega, by simp [s2], by simp [s3], by simp, by simpa using h⟩ ?_);rintro RR q st hRR ⟨i, e, rfl, hi8, het, s2, s3, s4, h⟩;refine rA ?_;simp [s4];by_cases hlt : 0 < q
   ·(repeat refine qA ?_);refine AWp.condT (by simp [hlt]) ?_;refine kA ?_;try simp
    (repeat refine qA ?_);refine bA ?_;have w3 := h.get (g := g3) (b := .box e.cells) (by simp);have w : IntKind.wrap .i64 ((q : Int) - 1) = ((q - 1 : Nat) : Int) := by rw [zga (by omega) (by omega)]; omega
    (repeat refine qA ?_);refine AWp.rG (fun i => i == 1 || i == 2) (fun _ => false) [0, 1, 2, 3] [0, 1, 2, 3] (by kernel_rfl) ?_;simp [s3, w3, tk];refine oC' (xtb 1) ?_;simp;refine oC' (r := (two 4 e (Ex.mk 1 1 ⟨#[]⟩ [])).av) (by simpa [Ex.av] using w2a 4 e (Ex.mk 1 1 ⟨#[]⟩ [])) ?_;simp [Ex.av, s3, w3, dr];try refine ⟨okE _, ?_⟩
    have h := DH.put (l1 := []) (b' := .box (two 4 e (Ex.mk 1 1 ⟨#[]⟩ [])).cells) h;refine rA ?_;simp [s4, w];have ht : (two 4 e (Ex.mk 1 1 ⟨#[]⟩ [])).tot = e.tot + 2 := by rw [zQb, Ex.tot_mk]; have : (⟨#[]⟩ : ByteArray).size = 0 := rfl; simp only [zAa]; omega
    exact hRR _ (q - 1) (by omega) ⟨q - 1, two 4 e (Ex.mk 1 1 ⟨#[]⟩ []), rfl, by omega, by rw [ht]; omega, by simp [s2], by simp [s3], by simp, by simpa using h⟩
   (repeat refine qA ?_);refine AWp.condF (by simp; omega) ?_;refine eA ?_;subst hM;exact ⟨e, by omega, by simp [s2], by simp [s3], by simpa using h⟩
  (repeat refine qA ?_);refine AWp.condF (by simp [e3]) ?_;refine kA ?_;subst hM;exact ⟨Ex.mk ek en es el, by rw [Ex.tot_mk]; omega, by simp [s2], by simp [s3], by simpa [sm] using h⟩
 clear s0 s2 s3 s8 sm h;intro st hst;subst hM;obtain ⟨e, het, s2, s3, h⟩ := hst;have w3 := h.get (g := g3) (b := .box e.cells) (by simp);have w2 := h.get (g := g2) (b := .box [.int .i64 0, .int .i64 0, .str empty, .lst true 0 []]) (by simp);refine rA ?_;simp [s2, s3, w2, w3, tk];try refine ⟨okE _, ?_⟩
 have q := DH.put (l1 := [(g3, .box e.cells)]) (b' := .box e.cells) h;exact AWp.ret ⟨[e.av], e.av, _, by simp [Tryz.f29, zQa, s2, Ex.av, tk], by (try simp); exact View.refl _ _, hK _ _ het q.ps q.off⟩
end Go.T
