/- The reference's reader: products, sums. The reference's ParseExp. The program's ParseExp. Machines that are right: what the program and the reference compute; the law. Marks: what the program's marking functions compute. Rows marked: what the program's marking functions compute. -/
import Derived.Test.YtdbnllfjmkmdiaaGreatDoorG13
import Derived.Test.YtdbnllfjmkmdiaaGreatDoorG7
import Derived.Test.YtdbnllfjmkmdiaaGreatDoorG10
import Derived.Test.YtdbnllfjmkmdiaaGreatDoorG4
set_option linter.unusedSimpArgs false
set_option linter.unusedVariables false
namespace Go.T
open Go Go.Proofs
set_option maxRecDepth 10000
set_option maxHeartbeats 1000000
open Go
theorem c_l5Mul (k : Nat) {gr : Nat} {T : List Tk} {a : Nat} {d : Int} {bad : Bool} {m : Mem} (hP : PS gr T a d bad m) (hT : ∀ t ∈ T, t.fine) (hd : bad = false → d = 30 - (k : Int) ∧ ExpS Tryz.prog 79 k (sumP k)) {K : AV → Mem → Prop}
  (hK : ∀ m' e a' d' bad', PS gr T a' d' bad' m' → Off gr m m' → Run1 (mulP (sumP k)) T a bad e a' bad' → (bad' = false → d' = d) → K e.av m') : WCall Tryz.prog 131 [.ptr gr 0] m K := by
 have hgr := hP.at
 have hf := sum_fit k
 have tk : ∀ e : Ex, List.take 4 e.cells = e.cells := fun e => List.take_of_length_le (by simp)
 have dr : ∀ e : Ex, List.drop 4 e.cells = [] := fun e => List.drop_eq_nil_of_le (by simp)
 have eE : ByteArray.empty = (⟨#[]⟩ : ByteArray) := rfl
 refine wcall_of Tryz.func131 (by kernel_rfl) rfl (by simp [Tryz.f131]) ?_
 (repeat refine sqA ?_); refine rgA (by kernel_rfl) ?_
 simp
 intro g2 hg2
 have h := (PH.start hP).box hgr hg2 [.int .i64 0, .int .i64 0, .str ByteArray.empty, .lst true 0 []]
 refine AWp.gen (fun st => st.slots 0 = .ptr gr 0 ∧ st.slots 2 = .ptr g2 0 ∧ st.mem = m.set g2 (.box [.int .i64 0, .int .i64 0, .str ByteArray.empty, .lst true 0 []])) ⟨by simp, by simp, by simp⟩ ?_
 generalize m.set g2 (.box [.int .i64 0, .int .i64 0, .str ByteArray.empty, .lst true 0 []]) = m1 at *
 rintro st ⟨s0, s2, sm⟩
 (repeat refine sqA ?_); refine rgA (by kernel_rfl) ?_
 simp [s0]
 refine aop_wcall _ _ _ _ _ _ _ _ rfl (eval_func _ _) ?_
 simp [sm]
 refine c_l5Atom k h.ps hT hd fun m1 e1 a1 d1 b1 hPn hOn run1 hdd1 => ?_
 have h := h.call hgr hOn hPn
 have was1 := Run1.was run1
 clear hPn hOn
 simp [Ex.av]
 intro g3 hg1
 try refine ⟨okE _, ?_⟩
 have h := h.box hgr hg1 e1.cells
 refine AWp.gen (fun st => st.slots 0 = .ptr gr 0 ∧ st.slots 2 = .ptr g2 0 ∧ st.slots 3 = .ptr g3 0 ∧ st.mem = m1.set g3 (.box e1.cells)) ⟨by first | (simp; done) | (simp [s0]; done), by first | (simp; done) | (simp [s2]; done), by simp, by first | (simp; done) | (simp [sm]; done)⟩ ?_
 clear s0 s2 sm
 rintro st ⟨s0, s2, s3, sm⟩
 generalize m1.set g3 (.box e1.cells) = n1 at *
 clear hg1
 obtain ⟨M, hM⟩ : ∃ M : St → Prop, M = (fun st => ∃ e a1 d1 b1, st.slots 2 = .ptr g2 0 ∧ st.slots 3 = .ptr g3 0 ∧ PH m gr T a1 d1 b1 [(g3, Ex.cells e), (g2, [.int .i64 0, .int .i64 0, .str ByteArray.empty, .lst true 0 []])] [] st.mem ∧ (b1 = false → d1 = d) ∧ Run1 (mulP (sumP k)) T a bad e a1 b1) := ⟨_, rfl⟩
 (repeat refine sqA ?_); refine AWp.cutA M ?_ ?_
 ·refine AWp.block (AWp.rounds (fun q st => ∃ e a1 d1 b1, q = (if b1 = true then 0 else T.length - a1 + 1) ∧ st.slots 0 = .ptr gr 0 ∧ st.slots 2 = .ptr g2 0 ∧ st.slots 3 = .ptr g3 0 ∧ PH m gr T a1 d1 b1 [(g3, Ex.cells e), (g2, [.int .i64 0, .int .i64 0, .str ByteArray.empty, .lst true 0 []])] [] st.mem ∧ (b1 = false → d1 = d ∧ bad = false) ∧ ∀ y a2 b2, Run1 (mulsL (sumP k) e) T a1 b1 y a2 b2 → Run1 (mulP (sumP k)) T a bad y a2 b2) (if b1 = true then 0 else T.length - a1 + 1) ⟨e1, a1, d1, b1, rfl, s0, s2, s3, by rw [sm]; exact h, fun e => ⟨hdd1 e, was1 e⟩, fun y a2 b2 hr => mul_run run1 hr⟩ ?_)
  clear s0 s2 s3 sm h hdd1 run1 was1
  rintro RR q st0 hRR ⟨e, a1, d1, b1, rfl, s0, s2, s3, h, hd1, hinv⟩
  (repeat refine sqA ?_); refine rgA (by kernel_rfl) ?_
  simp [s0]
  refine aop_wcall _ _ _ _ _ _ _ _ rfl (eval_func _ _) ?_
  try simp
  refine c_l5Mark h.ps (ch 42) fun mA hPn hOn => ?_
  have h := h.call hgr hOn hPn
  clear hPn hOn
  try simp
  cases hq : (hdT T a1 b1).is 4 (ch 42) with
  | false =>
   rw [hq] at h
   simp at h
   try simp
   (repeat refine sqA ?_); refine AWp.condF (by simp) ?_
   refine AWp.exit ?_
   subst hM
   refine ⟨e, a1, d1, b1, by simp [s2], by simp [s3], by simpa using h, fun e => (hd1 e).1, hinv _ _ _ (muls_exit hf e ?_)⟩
   cases b1 with
   | true => exact .inl rfl
   | false => exact .inr (is_not hq)
  | true =>
   obtain ⟨rfl, hlt, ht, hmk⟩ := is_at (by omega) hq
   rw [hq] at h
   simp at h
   obtain ⟨hd1, hbd⟩ := hd1 rfl
   try simp
   (repeat refine sqA ?_); refine AWp.condT (by simp) ?_
   refine AWp.skip ?_
   try simp
   (repeat refine sqA ?_); refine AWp.block ?_
   refine AWp.gen (fun st => st.slots 0 = .ptr gr 0 ∧ st.slots 2 = .ptr g2 0 ∧ st.slots 3 = .ptr g3 0 ∧ st.mem = mA) ⟨by first | (simp; done) | (simp [s0]; done), by first | (simp; done) | (simp [s2]; done), by first | (simp; done) | (simp [s3]; done), by first | (simp; done) | (simp [sm]; done)⟩ ?_
   clear s0 s2 s3
   rintro st ⟨s0, s2, s3, sm⟩
   (repeat refine sqA ?_); refine rgA (by kernel_rfl) ?_
   simp [s0]
   refine aop_wcall _ _ _ _ _ _ _ _ rfl (eval_func _ _) ?_
   simp [sm]
   refine c_l5Atom k h.ps hT (fun _ => ⟨by rw [hd1]; exact (hd hbd).1, (hd hbd).2⟩) fun m2 e2 a2 d2 b2 hPn hOn run2 hdd2 => ?_
   have h := h.call hgr hOn hPn
   have was2 := Run1.was run2
   clear hPn hOn
   simp [Ex.av]
   intro g4 hg2
   try refine ⟨okE _, ?_⟩
   have h := h.box hgr hg2 e2.cells
   refine AWp.gen (fun st => st.slots 0 = .ptr gr 0 ∧ st.slots 2 = .ptr g2 0 ∧ st.slots 3 = .ptr g3 0 ∧ st.slots 4 = .ptr g4 0 ∧ st.mem = m2.set g4 (.box e2.cells)) ⟨by first | (simp; done) | (simp [s0]; done), by first | (simp; done) | (simp [s2]; done), by first | (simp; done) | (simp [s3]; done), by simp, by first | (simp; done) | (simp [sm]; done)⟩ ?_
   clear s0 s2 s3 sm
   rintro st ⟨s0, s2, s3, s4, sm⟩
   generalize m2.set g4 (.box e2.cells) = n2 at *
   clear hg2
   have w3 := h.box1 (g := g3) (cs := e.cells) (by simp)
   have wB := h.box1 (g := g4) (cs := e2.cells) (by simp)
   (repeat refine sqA ?_); refine rgA (by kernel_rfl) ?_
   simp [s3, s4, sm, w3, wB, tk]
   refine aop_call' (r := (two 6 e e2).av) (by simpa [Ex.av] using c_l3Two 6 e e2) ?_
   simp [s3, sm, w3, Ex.av, dr]
   try refine ⟨okE _, ?_⟩
   have h := (PH.put (l1 := [(g4, e2.cells)]) (cs' := (two 6 e e2).cells) h).less (bs' := [(g3, (two 6 e e2).cells), (g2, [.int .i64 0, .int .i64 0, .str ByteArray.empty, .lst true 0 []])]) (List.sublist_cons_self _ _) (List.Sublist.refl _)

   refine hRR _ (if b2 = true then 0 else T.length - a2 + 1) ?_ ⟨two 6 e e2, a2, d2, b2, rfl, by simp [s0], by simp [s2], by simp [s3], by simpa using h, fun e => ⟨(hdd2 e).trans hd1, hbd⟩, fun y a3 b3 hr => hinv y a3 b3 (muls_step hf hlt hmk run2 hr)⟩
   cases b2 with
   | true => simp
   | false =>
    have := run2.lt (atom_fit hf) h.ps.le
    simp
    omega
 intro st hst
 subst hM
 obtain ⟨e, a1, d1, b1, s2, s3, h, hd1, hr⟩ := hst
 have w3 := h.box1 (g := g3) (cs := e.cells) (by simp)
 have w2 := h.box1 (g := g2) (cs := [.int .i64 0, .int .i64 0, .str ByteArray.empty, .lst true 0 []]) (by simp)
 (repeat refine sqA ?_); refine rgA (by kernel_rfl) ?_
 simp [s2, s3, w2, w3, tk]
 try refine ⟨okE _, ?_⟩
 have q := PH.put (l1 := [(g3, e.cells)]) (cs' := e.cells) h
 refine AWp.ret ⟨[e.av], e.av, _, by simp [Tryz.f131, resA, s2, Ex.av, tk], by (try simp); exact View.refl _ _, hK _ _ _ _ _ q.ps q.off hr hd1⟩
theorem c_l5Sum0 (k : Nat) (hk30 : k ≤ 30) (hS : ∀ j, k = j + 1 → ExpS Tryz.prog 79 j (sumP j)) : ExpS Tryz.prog 79 k (sumP k) := by
 intro gr T a d bad m hP hT hd K hK
 have hgr := hP.at
 have hf := sum_fit (k - 1)
 have tk : ∀ e : Ex, List.take 4 e.cells = e.cells := fun e => List.take_of_length_le (by simp)
 have dr : ∀ e : Ex, List.drop 4 e.cells = [] := fun e => List.drop_eq_nil_of_le (by simp)
 have eE : ByteArray.empty = (⟨#[]⟩ : ByteArray) := rfl
 refine wcall_of Tryz.func79 (by kernel_rfl) rfl (by simp [Tryz.f79]) ?_
 (repeat refine sqA ?_); refine rgA (by kernel_rfl) ?_
 simp
 intro g2 hg2
 have h := (PH.start hP).box hgr hg2 [.int .i64 0, .int .i64 0, .str ByteArray.empty, .lst true 0 []]
 refine AWp.gen (fun st => st.slots 0 = .ptr gr 0 ∧ st.slots 2 = .ptr g2 0 ∧ st.mem = m.set g2 (.box [.int .i64 0, .int .i64 0, .str ByteArray.empty, .lst true 0 []])) ⟨by simp, by simp, by simp⟩ ?_
 generalize m.set g2 (.box [.int .i64 0, .int .i64 0, .str ByteArray.empty, .lst true 0 []]) = m1 at *
 rintro st ⟨s0, s2, sm⟩
 have hbx := h.ps.box
 unfold pc at hbx
 obtain ⟨d', hd'⟩ : ∃ d' : Int, d' = IntKind.wrap .i64 (d + 1) := ⟨_, rfl⟩
 (repeat refine sqA ?_); refine rgA (by kernel_rfl) ?_
 simp [s0, sm, hbx, ← hd']
 have h := h.call hgr (Off.box _ _) (h.ps.step a d' bad h.ps.le)
 refine AWp.gen (fun st => st.slots 0 = .ptr gr 0 ∧ st.slots 2 = .ptr g2 0 ∧ st.mem = m1.set gr (.box (pc T a d' bad))) ⟨by first | (simp; done) | (simp [s0]; done), by first | (simp; done) | (simp [s2]; done), by simp [pc]⟩ ?_
 clear s0 s2 sm
 rintro st ⟨s0, s2, sm⟩
 generalize m1.set gr (.box (pc T a d' bad)) = m2 at *
 clear hbx
 have hbx := h.ps.box
 unfold pc at hbx
 have hdk : bad = false → d' = d + 1 ∧ d = 30 - (k : Int) := fun e => by
  have := hd e
  exact ⟨by rw [hd']; exact wrap64 (by omega) (by omega), this⟩
 (repeat refine sqA ?_); refine rgA (by kernel_rfl) ?_
 simp [s0, sm, hbx]
 obtain ⟨bad1, hb1⟩ : ∃ b : Bool, b = (bad || decide (30 < d')) := ⟨_, rfl⟩
 obtain ⟨M, hM⟩ : ∃ M : St → Prop, M = (fun st => st.slots 0 = .ptr gr 0 ∧ st.slots 2 = .ptr g2 0 ∧ PH m gr T a d' bad1 [(g2, [.int .i64 0, .int .i64 0, .str ByteArray.empty, .lst true 0 []])] [] st.mem) := ⟨_, rfl⟩
 (repeat refine sqA ?_); refine AWp.cutA M ?_ ?_
 ·by_cases h30 : 30 < d'
  ·refine AWp.condT (by simp [h30]) ?_
   (repeat refine sqA ?_); refine rgA (by kernel_rfl) ?_
   simp [s0, sm, hbx]
   have h := h.call hgr (Off.box _ _) (h.ps.step a d' true h.ps.le)
   subst hM
   have e1 : bad1 = true := by rw [hb1]; simp [h30]
   subst e1
   exact ⟨by simp [s0], by simp [s2], by simpa [pc] using h⟩
  ·refine AWp.condF (by simp [h30]) ?_
   refine AWp.skip ?_
   subst hM
   have e1 : bad1 = bad := by rw [hb1]; simp [h30]
   subst e1
   exact ⟨by simp [s0], by simp [s2], by simpa [sm] using h⟩
 clear s0 s2 sm hbx h
 intro st hst
 subst hM
 obtain ⟨s0, s2, h⟩ := hst
 obtain ⟨mS, sm⟩ : ∃ mS, st.mem = mS := ⟨_, rfl⟩
 rw [sm] at h
 have hone : bad1 = false → bad = false ∧ k = (k - 1) + 1 ∧ d' = d + 1 ∧ d = 30 - (k : Int) := fun e => by
  rw [hb1] at e
  simp at e
  have := hdk e.1
  exact ⟨e.1, by omega, this⟩
 have hall : ∀ e : Ex, ∀ a1, bad1 = true → Run1 (sumP k) T a bad e a1 true := fun e a1 hb => by
  cases bad with
  | true => exact Run1.bad _ _ _ _ _
  | false =>
   rw [hb1] at hb
   simp at hb
   have := hdk rfl
   have hk0 : k = 0 := by omega
   subst hk0
   exact ⟨fun _ _ _ he => (by cases he), fun _ => rfl⟩
 have hd2 : bad1 = false → d' = 30 - ((k - 1 : Nat) : Int) ∧ ExpS Tryz.prog 79 (k - 1) (sumP (k - 1)) := fun e => by
  have := hone e
  exact ⟨by omega, hS _ this.2.1⟩
 have hsum : ∀ x y a1 a2 b1 b2, bad1 = false → Run1 (mulP (sumP (k - 1))) T a bad1 x a1 b1 → Run1 (addsL (sumP (k - 1)) x) T a1 b1 y a2 b2 → Run1 (sumP k) T a bad y a2 b2 := fun x y a1 a2 b1 b2 e h1 h2 => by
  have := hone e
  rw [this.2.1, this.1]
  rw [e] at h1
  exact sum_run h1 h2
 (repeat refine sqA ?_); refine rgA (by kernel_rfl) ?_
 simp [s0]
 refine aop_wcall _ _ _ _ _ _ _ _ rfl (eval_func _ _) ?_
 simp [sm]
 refine c_l5Mul (k - 1) h.ps hT hd2 fun m1 e1 a1 d1 b1 hPn hOn run1 hdd1 => ?_
 have h := h.call hgr hOn hPn
 have was1 := Run1.was run1
 clear hPn hOn
 simp [Ex.av]
 intro g3 hg1
 try refine ⟨okE _, ?_⟩
 have h := h.box hgr hg1 e1.cells
 refine AWp.gen (fun st => st.slots 0 = .ptr gr 0 ∧ st.slots 2 = .ptr g2 0 ∧ st.slots 3 = .ptr g3 0 ∧ st.mem = m1.set g3 (.box e1.cells)) ⟨by first | (simp; done) | (simp [s0]; done), by first | (simp; done) | (simp [s2]; done), by simp, by first | (simp; done) | (simp [sm]; done)⟩ ?_
 clear s0 s2 sm
 rintro st ⟨s0, s2, s3, sm⟩
 generalize m1.set g3 (.box e1.cells) = n1 at *
 clear hg1
 have hbx := h.ps.box
 unfold pc at hbx
 (repeat refine sqA ?_); refine rgA (by kernel_rfl) ?_
 simp [s0, sm, hbx]
 refine AWp.gen (fun st => st.slots 0 = .ptr gr 0 ∧ st.slots 2 = .ptr g2 0 ∧ st.slots 3 = .ptr g3 0 ∧ st.slots 4 = .bool (!b1) ∧ st.mem = n1) ⟨by first | (simp; done) | (simp [s0]; done), by first | (simp; done) | (simp [s2]; done), by first | (simp; done) | (simp [s3]; done), by simp, by first | (simp; done) | (simp [sm]; done)⟩ ?_
 clear s0 s2 s3 sm
 rintro st ⟨s0, s2, s3, s4, sm⟩
 clear hbx
 obtain ⟨M, hM⟩ : ∃ M : St → Prop, M = (fun st => ∃ e a1 d1 b1, st.slots 0 = .ptr gr 0 ∧ st.slots 2 = .ptr g2 0 ∧ st.slots 3 = .ptr g3 0 ∧ PH m gr T a1 d1 b1 [(g3, Ex.cells e), (g2, [.int .i64 0, .int .i64 0, .str ByteArray.empty, .lst true 0 []])] [] st.mem ∧ (b1 = false → d1 = d' ∧ bad1 = false) ∧ Run1 (sumP k) T a bad e a1 b1) := ⟨_, rfl⟩
 (repeat refine sqA ?_); refine AWp.cutA M ?_ ?_
 ·refine AWp.block (AWp.rounds (fun q st => ∃ e a1 d1 b1 fl, q = (if b1 = true ∨ fl = false then 0 else T.length - a1 + 1) ∧ st.slots 0 = .ptr gr 0 ∧ st.slots 2 = .ptr g2 0 ∧ st.slots 3 = .ptr g3 0 ∧ st.slots 4 = .bool fl ∧ PH m gr T a1 d1 b1 [(g3, Ex.cells e), (g2, [.int .i64 0, .int .i64 0, .str ByteArray.empty, .lst true 0 []])] [] st.mem ∧ (b1 = false → d1 = d' ∧ bad1 = false) ∧ (fl = true → ∀ y a2 b2, Run1 (addsL (sumP (k - 1)) e) T a1 b1 y a2 b2 → Run1 (sumP k) T a bad y a2 b2) ∧ (fl = false → Run1 (sumP k) T a bad e a1 b1)) (if b1 = true ∨ (!b1) = false then 0 else T.length - a1 + 1) ⟨e1, a1, d1, b1, !b1, rfl, s0, s2, s3, s4, by rw [sm]; exact h, fun e => ⟨hdd1 e, was1 e⟩, fun hfl y a2 b2 hr => hsum _ _ _ _ _ _ (was1 (by simpa using hfl)) run1 hr, fun hfl => ?_⟩ ?_)
  ·have hb : b1 = true := by simpa using hfl
   subst hb
   cases hbd : bad1 with
   | true => exact hall _ _ hbd
   | false => exact hsum _ _ _ _ _ _ hbd run1 (adds_exit hf _ (.inl rfl))
  clear s0 s2 s3 s4 sm h hdd1 run1 was1
  rintro RR q st0 hRR ⟨e, a1, d1, b1, fl, rfl, s0, s2, s3, s4, h, hd1, hinv, hdone⟩
  have hbx := h.ps.box
  unfold pc at hbx
  by_cases hgo : fl = false ∨ b1 = true
  ·(repeat refine sqA ?_); refine rgA (by kernel_rfl) ?_
   have hex : Run1 (sumP k) T a bad e a1 b1 := by
    cases fl with
    | false => exact hdone rfl
    | true =>
     have hb := hgo.resolve_left (by simp)
     subst hb
     exact hinv rfl _ _ _ (adds_exit hf e (.inl rfl))
   have out : ∀ st' : St, st'.slots 0 = .ptr gr 0 → st'.slots 2 = .ptr g2 0 → st'.slots 3 = .ptr g3 0 → st'.mem = st0.mem → M st' := fun st' t0 t2 t3 tm => by
    subst hM
    exact ⟨e, a1, d1, b1, t0, t2, t3, by rw [tm]; exact h, hd1, hex⟩
   cases fl with
   | false =>
    simp [s0, s4]
    (repeat refine sqA ?_); refine AWp.condF (by simp) ?_
    refine AWp.exit ?_
    refine out _ ?_ ?_ ?_ ?_ <;> simp [s0, s2, s3]
   | true =>
    have hb := hgo.resolve_left (by simp)
    subst hb
    simp [s0, s4, hbx]
    (repeat refine sqA ?_); refine AWp.condF (by simp) ?_
    refine AWp.exit ?_
    refine out _ ?_ ?_ ?_ ?_ <;> simp [s0, s2, s3]
  have hfl : fl = true := by cases fl with | true => rfl | false => exact absurd (.inl rfl) hgo
  have hb1 : b1 = false := by cases b1 with | false => rfl | true => exact absurd (.inr rfl) hgo
  subst hfl hb1
  obtain ⟨hd1, hbd⟩ := hd1 rfl
  have hinv := hinv rfl
  obtain ⟨hd30, hS1⟩ := hd2 hbd
  (repeat refine sqA ?_); refine rgA (by kernel_rfl) ?_
  simp [s0, s4, hbx]
  (repeat refine sqA ?_); refine AWp.condT (by simp) ?_
  refine AWp.skip ?_
  try simp
  (repeat refine sqA ?_); refine AWp.block ?_
  (repeat refine sqA ?_); refine AWp.block ?_
  obtain ⟨mL, sm⟩ : ∃ mL, st0.mem = mL := ⟨_, rfl⟩
  rw [sm] at h
  refine AWp.gen (fun st => st.slots 0 = .ptr gr 0 ∧ st.slots 2 = .ptr g2 0 ∧ st.slots 3 = .ptr g3 0 ∧ st.slots 4 = .bool true ∧ st.mem = mL) ⟨by first | (simp; done) | (simp [s0]; done), by first | (simp; done) | (simp [s2]; done), by first | (simp; done) | (simp [s3]; done), by first | (simp; done) | (simp [s4]; done), by first | (simp; done) | (simp [sm]; done)⟩ ?_
  clear s0 s2 s3 s4 sm hbx
  rintro st ⟨s0, s2, s3, s4, sm⟩
  (repeat refine sqA ?_); refine rgA (by kernel_rfl) ?_
  simp [s0]
  refine aop_wcall _ _ _ _ _ _ _ _ rfl (eval_func _ _) ?_
  simp [sm]
  refine c_l5Mark h.ps (ch 43) fun mA hPn hOn => ?_
  have h := h.call hgr hOn hPn
  clear hPn hOn
  try simp
  cases hq : (hdT T a1 false).is 4 (ch 43) with
  | true =>
   obtain ⟨_, hlt, ht, hmk⟩ := is_at (by omega) hq
   rw [hq] at h
   simp at h
   try simp
   (repeat refine sqA ?_); refine AWp.condT (by simp) ?_
   refine AWp.gen (fun st => st.slots 0 = .ptr gr 0 ∧ st.slots 2 = .ptr g2 0 ∧ st.slots 3 = .ptr g3 0 ∧ st.slots 4 = .bool true ∧ st.mem = mA) ⟨by first | (simp; done) | (simp [s0]; done), by first | (simp; done) | (simp [s2]; done), by first | (simp; done) | (simp [s3]; done), by first | (simp; done) | (simp [s4]; done), by first | (simp; done) | (simp [sm]; done)⟩ ?_
   clear s0 s2 s3 s4 sm
   rintro st ⟨s0, s2, s3, s4, sm⟩
   (repeat refine sqA ?_); refine rgA (by kernel_rfl) ?_
   simp [s0]
   refine aop_wcall _ _ _ _ _ _ _ _ rfl (eval_func _ _) ?_
   simp [sm]
   refine c_l5Mul (k - 1) h.ps hT (fun _ => ⟨by rw [hd1]; exact hd30, hS1⟩) fun m2 e2 a2 d2 b2 hPn hOn run2 hdd2 => ?_
   have h := h.call hgr hOn hPn
   have was2 := Run1.was run2
   clear hPn hOn
   simp [Ex.av]
   intro g5 hg2
   try refine ⟨okE _, ?_⟩
   have h := h.box hgr hg2 e2.cells
   refine AWp.gen (fun st => st.slots 0 = .ptr gr 0 ∧ st.slots 2 = .ptr g2 0 ∧ st.slots 3 = .ptr g3 0 ∧ st.slots 4 = .bool true ∧ st.slots 5 = .ptr g5 0 ∧ st.mem = m2.set g5 (.box e2.cells)) ⟨by first | (simp; done) | (simp [s0]; done), by first | (simp; done) | (simp [s2]; done), by first | (simp; done) | (simp [s3]; done), by first | (simp; done) | (simp [s4]; done), by simp, by first | (simp; done) | (simp [sm]; done)⟩ ?_
   clear s0 s2 s3 s4 sm
   rintro st ⟨s0, s2, s3, s4, s5, sm⟩
   generalize m2.set g5 (.box e2.cells) = n2 at *
   clear hg2
   have w3 := h.box1 (g := g3) (cs := e.cells) (by simp)
   have wB := h.box1 (g := g5) (cs := e2.cells) (by simp)
   (repeat refine sqA ?_); refine rgA (by kernel_rfl) ?_
   simp [s3, s5, sm, w3, wB, tk]
   refine aop_call' (r := (two 4 e e2).av) (by simpa [Ex.av] using c_l3Two 4 e e2) ?_
   simp [s3, sm, w3, Ex.av, dr]
   try refine ⟨okE _, ?_⟩
   have h := (PH.put (l1 := [(g5, e2.cells)]) (cs' := (two 4 e e2).cells) h).less (bs' := [(g3, (two 4 e e2).cells), (g2, [.int .i64 0, .int .i64 0, .str ByteArray.empty, .lst true 0 []])]) (List.sublist_cons_self _ _) (List.Sublist.refl _)

   refine hRR _ (if b2 = true then 0 else T.length - a2 + 1) ?_ ⟨two 4 e e2, a2, d2, b2, true, by simp, by simp [s0], by simp [s2], by simp [s3], by simp [s4], by simpa using h, fun e => ⟨(hdd2 e).trans hd1, hbd⟩, fun _ y a3 b3 hr => hinv y a3 b3 (adds_step hf hlt (.inl ⟨hmk, rfl⟩) run2 hr), fun e => (by cases e)⟩
   cases b2 with
   | true => simp
   | false =>
    have := run2.lt (mul_fit hf) h.ps.le
    simp
    omega
  | false =>
   have hn1 := is_not hq
   rw [hq] at h
   simp at h
   try simp
   (repeat refine sqA ?_); refine AWp.condF (by simp) ?_
   refine AWp.gen (fun st => st.slots 0 = .ptr gr 0 ∧ st.slots 2 = .ptr g2 0 ∧ st.slots 3 = .ptr g3 0 ∧ st.slots 4 = .bool true ∧ st.mem = mA) ⟨by first | (simp; done) | (simp [s0]; done), by first | (simp; done) | (simp [s2]; done), by first | (simp; done) | (simp [s3]; done), by first | (simp; done) | (simp [s4]; done), by first | (simp; done) | (simp [sm]; done)⟩ ?_
   clear s0 s2 s3 s4 sm
   rintro st ⟨s0, s2, s3, s4, sm⟩
   (repeat refine sqA ?_); refine rgA (by kernel_rfl) ?_
   simp [s0]
   refine aop_wcall _ _ _ _ _ _ _ _ rfl (eval_func _ _) ?_
   simp [sm]
   refine c_l5Mark h.ps (ch 45) fun mB hPn hOn => ?_
   have h := h.call hgr hOn hPn
   clear hPn hOn
   try simp
   cases hq2 : (hdT T a1 false).is 4 (ch 45) with
   | true =>
    obtain ⟨_, hlt, ht, hmk⟩ := is_at (by omega) hq2
    rw [hq2] at h
    simp at h
    try simp
    (repeat refine sqA ?_); refine AWp.condT (by simp) ?_
    refine AWp.gen (fun st => st.slots 0 = .ptr gr 0 ∧ st.slots 2 = .ptr g2 0 ∧ st.slots 3 = .ptr g3 0 ∧ st.slots 4 = .bool true ∧ st.mem = mB) ⟨by first | (simp; done) | (simp [s0]; done), by first | (simp; done) | (simp [s2]; done), by first | (simp; done) | (simp [s3]; done), by first | (simp; done) | (simp [s4]; done), by first | (simp; done) | (simp [sm]; done)⟩ ?_
    clear s0 s2 s3 s4 sm
    rintro st ⟨s0, s2, s3, s4, sm⟩
    (repeat refine sqA ?_); refine rgA (by kernel_rfl) ?_
    simp [s0]
    refine aop_wcall _ _ _ _ _ _ _ _ rfl (eval_func _ _) ?_
    simp [sm]
    refine c_l5Mul (k - 1) h.ps hT (fun _ => ⟨by rw [hd1]; exact hd30, hS1⟩) fun m2 e2 a2 d2 b2 hPn hOn run2 hdd2 => ?_
    have h := h.call hgr hOn hPn
    have was2 := Run1.was run2
    clear hPn hOn
    simp [Ex.av]
    intro g6 hg2
    try refine ⟨okE _, ?_⟩
    have h := h.box hgr hg2 e2.cells
    refine AWp.gen (fun st => st.slots 0 = .ptr gr 0 ∧ st.slots 2 = .ptr g2 0 ∧ st.slots 3 = .ptr g3 0 ∧ st.slots 4 = .bool true ∧ st.slots 6 = .ptr g6 0 ∧ st.mem = m2.set g6 (.box e2.cells)) ⟨by first | (simp; done) | (simp [s0]; done), by first | (simp; done) | (simp [s2]; done), by first | (simp; done) | (simp [s3]; done), by first | (simp; done) | (simp [s4]; done), by simp, by first | (simp; done) | (simp [sm]; done)⟩ ?_
    clear s0 s2 s3 s4 sm
    rintro st ⟨s0, s2, s3, s4, s6, sm⟩
    generalize m2.set g6 (.box e2.cells) = n2 at *
    clear hg2
    have w3 := h.box1 (g := g3) (cs := e.cells) (by simp)
    have wB := h.box1 (g := g6) (cs := e2.cells) (by simp)
    (repeat refine sqA ?_); refine rgA (by kernel_rfl) ?_
    simp [s3, s6, sm, w3, wB, tk]
    refine aop_call' (r := (two 5 e e2).av) (by simpa [Ex.av] using c_l3Two 5 e e2) ?_
    simp [s3, sm, w3, Ex.av, dr]
    try refine ⟨okE _, ?_⟩
    have h := (PH.put (l1 := [(g6, e2.cells)]) (cs' := (two 5 e e2).cells) h).less (bs' := [(g3, (two 5 e e2).cells), (g2, [.int .i64 0, .int .i64 0, .str ByteArray.empty, .lst true 0 []])]) (List.sublist_cons_self _ _) (List.Sublist.refl _)

    refine hRR _ (if b2 = true then 0 else T.length - a2 + 1) ?_ ⟨two 5 e e2, a2, d2, b2, true, by simp, by simp [s0], by simp [s2], by simp [s3], by simp [s4], by simpa using h, fun e => ⟨(hdd2 e).trans hd1, hbd⟩, fun _ y a3 b3 hr => hinv y a3 b3 (adds_step hf hlt (.inr ⟨hn1 hlt, hmk, rfl⟩) run2 hr), fun e => (by cases e)⟩
    cases b2 with
    | true => simp
    | false =>
     have := run2.lt (mul_fit hf) h.ps.le
     simp
     omega
   | false =>
    rw [hq2] at h
    simp at h
    try simp
    (repeat refine sqA ?_); refine AWp.condF (by simp) ?_
    (repeat refine sqA ?_); refine rgA (by kernel_rfl) ?_
    simp
    refine hRR _ 0 (by simp) ⟨e, a1, d1, false, false, by simp, by simp [s0], by simp [s2], by simp [s3], by simp, by simpa using h, fun _ => ⟨hd1, hbd⟩, fun e => (by cases e), fun _ => hinv _ _ _ (adds_exit hf e (.inr ⟨hn1, is_not hq2⟩))⟩
 intro st hst
 subst hM
 obtain ⟨e, a1, d1, b1, s0, s2, s3, h, hd1, hr⟩ := hst
 have hbx := h.ps.box
 unfold pc at hbx
 obtain ⟨d2, hd2'⟩ : ∃ d2 : Int, d2 = IntKind.wrap .i64 (d1 - 1) := ⟨_, rfl⟩
 (repeat refine sqA ?_); refine rgA (by kernel_rfl) ?_
 simp [s0, hbx, ← hd2']
 have h := h.call hgr (Off.box _ _) (h.ps.step a1 d2 b1 h.ps.le)
 refine AWp.gen (fun st1 => st1.slots 0 = .ptr gr 0 ∧ st1.slots 2 = .ptr g2 0 ∧ st1.slots 3 = .ptr g3 0 ∧ st1.mem = st.mem.set gr (.box (pc T a1 d2 b1))) ⟨by first | (simp; done) | (simp [s0]; done), by first | (simp; done) | (simp [s2]; done), by first | (simp; done) | (simp [s3]; done), by simp [pc]⟩ ?_
 generalize st.mem.set gr (.box (pc T a1 d2 b1)) = m9 at *
 clear s0 s2 s3 hbx
 rintro st ⟨s0, s2, s3, sm⟩
 have w3 := h.box1 (g := g3) (cs := e.cells) (by simp)
 have w2 := h.box1 (g := g2) (cs := [.int .i64 0, .int .i64 0, .str ByteArray.empty, .lst true 0 []]) (by simp)
 (repeat refine sqA ?_); refine rgA (by kernel_rfl) ?_
 simp [s2, s3, sm, w2, w3, tk]
 try refine ⟨okE _, ?_⟩
 have q := PH.put (l1 := [(g3, e.cells)]) (cs' := e.cells) h
 refine AWp.ret ⟨[e.av], e.av, _, by simp [Tryz.f79, resA, s2, Ex.av, tk], by (try simp); exact View.refl _ _, hK _ _ _ _ _ q.ps q.off hr (fun e => ?_)⟩
 have h1 := (hd1 e).1
 have h2 := hone (hd1 e).2
 rw [hd2', h1, wrap64 (by omega) (by omega)]
 omega
theorem c_l5Sum : ∀ k : Nat, k ≤ 30 → ExpS Tryz.prog 79 k (sumP k)
 | 0, h => c_l5Sum0 0 h fun j e => by cases e
 | k + 1, h => c_l5Sum0 (k + 1) h fun j e => by
  cases e
  exact c_l5Sum k (by omega)
end Go.T
namespace Go.T
open Go Go.Proofs
set_option maxRecDepth 10000
set_option maxHeartbeats 1000000
open Go
end Go.T
namespace Go.T
open Go Go.Proofs
set_option maxRecDepth 10000
set_option maxHeartbeats 1000000
open Go
end Go.T
namespace Go.T
open Go Go.Proofs
set_option maxRecDepth 10000
set_option maxHeartbeats 1000000
section
variable {H : Type} {enc : TypeId × Value → H} {W : World}
end
end Go.T
namespace Go.T
open Go Go.Proofs
set_option maxRecDepth 10000
set_option maxHeartbeats 1000000
theorem byte_add (x : Int) (h0 : 0 ≤ x) (h1 : x ≤ 9) : IntKind.wrap .u8 (48 + x) = 48 + x := by
 unfold IntKind.wrap
 simp [IntKind.bits, IntKind.signed]
 omega
theorem bytesOf_one (n : Int) : (bytesOf [n]).size = 1 := rfl
theorem c_markText (k : Int) (h0 : 0 < k) (h1 : k ≤ 4611686018427387904) : PCall Tryz.prog 125 [.int .i64 k] (.str (markT k)) := by
 obtain ⟨n, rfl⟩ := Int.eq_ofNat_of_zero_le (show 0 ≤ k by omega)
 refine pcall_of Tryz.func125 (by kernel_rfl) rfl (by simp [Tryz.f125]) ?_
 (repeat refine sqA ?_); refine rgA (by kernel_rfl) ?_
 try simp
 (repeat refine sqA ?_); refine rgA (by kernel_rfl) ?_
 try simp
 (repeat refine sqA ?_); refine AWp.condF (by simp; omega) ?_
 refine AWp.skip ?_
 try simp
 (repeat refine sqA ?_); refine rgA (by kernel_rfl) ?_
 try simp
 (repeat refine sqA ?_); refine AWp.block (AWp.rounds (fun m st => ∃ (q : Nat) (out : ByteArray), m = q ∧ q + out.size ≤ n ∧ markU n ⟨#[]⟩ = markU q out ∧ st.slots 0 = .int .i64 q ∧ st.slots 3 = .str out) n ⟨n, ⟨#[]⟩, rfl, Nat.le_refl _, rfl, by simp, by simp⟩ ?_)
 rintro R m st hR ⟨q, out, rfl, hq, he, s0, s3⟩
 (repeat refine sqA ?_); refine rgA (by kernel_rfl) ?_
 simp [s0]
 by_cases hz : m = 0
 ·subst hz
  (repeat refine sqA ?_); refine AWp.condF (by simp) ?_
  refine AWp.exit ?_
  try simp
  have hu : markU 0 out = out := by rw [markU, dif_pos rfl]
  rw [hu] at he
  have e2 : markT (n : Int) = ⟨#[109]⟩ ++ out := by unfold markT; rw [Int.toNat_natCast, he]
  (repeat refine sqA ?_); refine rgA (by kernel_rfl) ?_
  have hadd : strA .add ⟨#[109]⟩ out = some (.str (⟨#[109]⟩ ++ out)) := if_pos (show (⟨#[109]⟩ : ByteArray).size + out.size ≤ 9223372036854775807 by have : (⟨#[109]⟩ : ByteArray).size = 1 := rfl; omega)
  simp [s3, hadd]
  exact AWp.ret (post_ret1 rfl (by simp [e2]))
 ·have hm : (m : Int).tmod 10 = (m : Int) % 10 := Int.tmod_eq_emod_of_nonneg (by omega)
  have hd : (m : Int).tdiv 10 = (m : Int) / 10 := Int.tdiv_eq_ediv_of_nonneg (by omega)
  have w1 : IntKind.wrap .i64 (48 + (m : Int) % 10) = 48 + (m : Int) % 10 := wrap64 (by omega) (by omega)
  have w2 := byte_add ((m : Int) % 10) (by omega) (by omega)
  have w3 : IntKind.wrap .i64 ((m : Int) / 10) = (m : Int) / 10 := wrap64 (by omega) (by omega)
  have hs : (bytesOf [48 + (m : Int) % 10]).size + out.size ≤ 9223372036854775807 := by rw [bytesOf_one]; omega
  have e3 : markU m out = markU (m / 10) (bytesOf [48 + (m : Int) % 10] ++ out) := by rw [markU, dif_neg hz]; congr 3
  have hsz : (bytesOf [48 + (m : Int) % 10] ++ out).size = 1 + out.size := by rw [ByteArray.size_append, bytesOf_one]
  rw [e3] at he
  have hadd : strA .add (bytesOf [48 + (m : Int) % 10]) out = some (.str (bytesOf [48 + (m : Int) % 10] ++ out)) := if_pos hs
  generalize hnx : bytesOf [48 + (m : Int) % 10] ++ out = nx at *
  (repeat refine sqA ?_); refine AWp.condT (by simp; omega) ?_
  refine AWp.skip ?_
  try simp
  (repeat refine sqA ?_); refine AWp.block ?_
  (repeat refine sqA ?_); refine rgA (by kernel_rfl) ?_
  simp [s0, s3, hm, w1, w2, numsA, hadd]
  (repeat refine sqA ?_); refine rgA (by kernel_rfl) ?_
  simp [s0, hd, w3]
  exact hR _ (m / 10) (by omega) ⟨m / 10, nx, rfl, by omega, he, by simp, by simp⟩
end Go.T
namespace Go.T
open Go Go.Proofs
set_option maxRecDepth 10000
set_option maxHeartbeats 1000000
def Ex.parts : Ex → List Ex
 | .mk _ _ _ l => l
/-- What marking rows of these comes to. -/
def MkExp (l : List Ex) : Prop := ∀ (m : Mem) (F : Nat → Prop) (v : AV) (f : Bool) (h : OwnT m F v (.lst f 4 (l.map Ex.av))) (k : Int) (h0 : 0 < k) (hb : k + (AV.cnts (l.map Ex.av) : Int) ≤ 4611686018427387904) (K : AV → Mem → Prop)
  (hK : ∀ m' (l' : List Ex), (∀ b, ¬ F b → m' b = m b) → OwnT m' F v (.lst false 4 (l'.map Ex.av)) → Held (l'.map Ex.av) k (k + (AV.cnts (l.map Ex.av) : Int)) → K (.int .i64 (k + (AV.cnts (l.map Ex.av) : Int))) m'), WCall Tryz.prog 126 [v, .int .i64 k] m K
theorem c_markExpS0 (l : List Ex) (hr : ∀ x ∈ l, MkExp x.parts) : MkExp l := by
 intro m F v f h k h0 hb K hK
 refine wcall_of Tryz.func126 (by kernel_rfl) rfl (by simp [Tryz.f126]) ?_
 rcases own_row h with ⟨f', e', rfl, hnil⟩ | ⟨g, n, c, rfl, hn, rfl⟩
 ·have hl : l = [] := by simpa using hnil
  subst hl
  (repeat refine sqA ?_); refine rgA (by kernel_rfl) ?_
  try simp
  (repeat refine sqA ?_); refine rgA (by kernel_rfl) ?_
  try simp
  (repeat refine sqA ?_); refine AWp.block (AWp.rounds (fun q st => q = 0 ∧ st.slots 0 = .lst f' e' [] ∧ st.slots 1 = .int .i64 k ∧ st.slots 5 = .int .i64 0 ∧ st.mem = m) 0 ⟨rfl, by simp, by simp, by simp, by simp⟩ ?_)
  rintro R q st hR ⟨rfl, s0, s1, s5, sm⟩
  (repeat refine sqA ?_); refine rgA (by kernel_rfl) ?_
  simp [s0, s5]
  (repeat refine sqA ?_); refine AWp.condF (by simp) ?_
  refine AWp.exit ?_
  try simp
  (repeat refine sqA ?_); refine rgA (by kernel_rfl) ?_
  simp [s1]
  refine AWp.ret (post_retW rfl ⟨_, _, View.refl _ _, ?_⟩)
  have := hK m [] (fun _ _ => rfl) (.nil _ _ _) (by simpa [AV.cnts] using Held.nil k)
  simpa [AV.cnts, sm] using this
 obtain ⟨T, G, ys, hM, hy, hx⟩ := Marking.start h
 have hlen : l.length = n := by simpa using hx
 have hcl := cnts_len (f := Ex.av) (fun x => by cases x; simp [Ex.av, Ex.cells_mk, AV.cnt, AV.cnts]; try omega) l
 (repeat refine sqA ?_); refine rgA (by kernel_rfl) ?_
 try simp
 (repeat refine sqA ?_); refine rgA (by kernel_rfl) ?_
 try simp
 (repeat refine sqA ?_); refine AWp.block (AWp.rounds (fun q st => ∃ (i : Nat) (ys : List AV) (ki : Int) (done : List Ex), q = n - i ∧ i ≤ n ∧ done.length = i ∧ ys.length = n ∧ st.slots 0 = .own g n c ∧ st.slots 1 = .int .i64 ki ∧ st.slots 5 = .int .i64 i ∧ Held (done.map Ex.av) k ki ∧ k ≤ ki ∧ ki + (AV.cnts ((l.drop i).map Ex.av) : Int) = k + (AV.cnts (l.map Ex.av) : Int) ∧ Marking st.mem m F g T 4 c G ys ((done ++ l.drop i).map Ex.av)) n ⟨0, ys, k, [], by simp, by simp, rfl, hy, by simp, by simp, by simp, .nil k, by omega, by simp, by simpa using hM⟩ ?_)
 clear hM hy ys
 rintro R q st hR ⟨i, ys, ki, done, rfl, hi, hdl, hy, s0, s1, s5, hH, hki, hcnt, hM⟩
 (repeat refine sqA ?_); refine rgA (by kernel_rfl) ?_
 simp [s0, s5]
 (repeat refine sqA ?_); refine AWp.cond (b := decide (i < n)) (by simp) (fun hlt => ?_) (fun hlt => ?_)
 rotate_left
 ·simp at hlt
  have hin : i = n := by omega
  subst hin
  refine AWp.exit ?_
  try simp
  (repeat refine sqA ?_); refine rgA (by kernel_rfl) ?_
  simp [s1]
  rw [List.drop_eq_nil_of_le (by omega)] at hcnt hM
  rw [List.append_nil] at hM
  have hke : ki = k + (AV.cnts (l.map Ex.av) : Int) := by simpa [AV.cnts] using hcnt
  subst hke
  refine AWp.ret (post_retW rfl ⟨_, _, View.refl _ _, ?_⟩)
  simp
  exact hK _ done hM.out (hM.done hy) hH
 simp at hlt
 have hil : i < l.length := by omega
 have hdr : l.drop i = l[i] :: l.drop (i + 1) := List.drop_eq_getElem_cons hil
 have hmem := List.getElem_mem hil
 have hwi : IntKind.wrap .i64 ((i : Int) + 1) = (i + 1 : Nat) := wrap64 (by omega) (by omega)
 rw [hdr] at hcnt hM
 rcases hx0 : l[i] with ⟨b0, b1, b2, b3⟩
 rw [hx0] at hcnt hM hmem
 have hat := at_done Ex.av done (Ex.mk b0 b1 b2 b3) (l.drop (i + 1)) hdl
 obtain ⟨B, cs0, hok, hal, I, hback⟩ := hM.into (i := i) (by omega) (cs := [.int .i64 b0, .int .i64 b1, .str b2, .lst false 4 (b3.map Ex.av)]) (by rw [hat]; simp [Ex.av, Ex.cells_mk])
 obtain ⟨a0, a1, a2, a3, rfl⟩ : ∃ a0 a1 a2 a3, cs0 = [a0, a1, a2, a3] := by
  match cs0, hal with
  | [a0, a1, a2, a3], _ => exact ⟨_, _, _, _, rfl⟩
 simp only [List.map_cons, AV.cnts, Ex.av, Ex.cells_mk, AV.cnt, List.cons_append, List.nil_append] at hcnt
 simp only [List.all_cons, List.all_nil, Bool.and_eq_true, Bool.and_true] at hok
 refine AWp.skip ?_
 try simp
 (repeat refine sqA ?_); refine AWp.block ?_
 have hg := I.row
 have hx : idxA Tryz.prog st.mem 24 (.own g n c) (.int .i64 i) = some (.elt g 4 i 0) := idx_own es_24 hg (by simp [hy]) hlt
 have I2 := I.leaf 0 (x := .int .i64 (ki)) (own_int _ _)
 have hst := I.store (by omega) rfl 0 (by omega) (by omega) (x := .int .i64 (ki)) rfl
 simp only [List.set_cons_zero, List.set_cons_succ] at I2 hst
 (repeat refine sqA ?_); refine AWp.cutA (fun u => u.slots 0 = .own g n c ∧ u.slots 1 = .int .i64 (ki) ∧ u.slots 5 = .int .i64 i ∧ InRow u.mem st.mem g T 4 c i ys B [.int .i64 (ki), a1, a2, a3] [.int .i64 (ki), .int .i64 b1, .str b2, .lst false 4 (b3.map Ex.av)]) ?_ ?_
 ·refine rgA (by kernel_rfl) ?_
  simp [s0, s1, s5, hx, hst]
  exact I2
 clear hg hx hst I2 I
 rintro u0 ⟨s0, s1, s5, I⟩
 have hw : IntKind.wrap .i64 (ki + 1) = ki + 1 := wrap64 (by omega) (by omega)
 (repeat refine sqA ?_); refine rgA (by kernel_rfl) ?_
 simp [s1, hw]
 clear hw
 have hg := I.row
 have hx : idxA Tryz.prog u0.mem 24 (.own g n c) (.int .i64 i) = some (.elt g 4 i 0) := idx_own es_24 hg (by simp [hy]) hlt
 have I2 := I.leaf 1 (x := .int .i64 (ki + 1)) (own_int _ _)
 have hst := I.store (by omega) rfl 1 (by omega) (by omega) (x := .int .i64 (ki + 1)) rfl
 simp only [List.set_cons_zero, List.set_cons_succ] at I2 hst
 (repeat refine sqA ?_); refine AWp.cutA (fun u => u.slots 0 = .own g n c ∧ u.slots 1 = .int .i64 (ki + 1) ∧ u.slots 5 = .int .i64 i ∧ InRow u.mem st.mem g T 4 c i ys B [.int .i64 (ki), .int .i64 (ki + 1), a2, a3] [.int .i64 (ki), .int .i64 (ki + 1), .str b2, .lst false 4 (b3.map Ex.av)]) ?_ ?_
 ·refine rgA (by kernel_rfl) ?_
  simp [s0, s1, s5, hx, hst]
  exact I2
 clear hg hx hst I2 I
 rintro u1 ⟨s0, s1, s5, I⟩
 have hw : IntKind.wrap .i64 (ki + 1 + 1) = ki + 1 + 1 := wrap64 (by omega) (by omega)
 (repeat refine sqA ?_); refine rgA (by kernel_rfl) ?_
 simp [s1, hw]
 clear hw
 have hg := I.row
 have hx : idxA Tryz.prog u1.mem 24 (.own g n c) (.int .i64 i) = some (.elt g 4 i 0) := idx_own es_24 hg (by simp [hy]) hlt
 have I2 := I.leaf 2 (x := .str (markT (ki + 1 + 1))) (own_str _)
 have hst := I.store (by omega) rfl 2 (by omega) (by omega) (x := .str (markT (ki + 1 + 1))) rfl
 simp only [List.set_cons_zero, List.set_cons_succ] at I2 hst
 (repeat refine sqA ?_); refine AWp.cutA (fun u => u.slots 0 = .own g n c ∧ u.slots 1 = .int .i64 (ki + 1 + 1) ∧ u.slots 5 = .int .i64 i ∧ InRow u.mem st.mem g T 4 c i ys B [.int .i64 (ki), .int .i64 (ki + 1), .str (markT (ki + 1 + 1)), a3] [.int .i64 (ki), .int .i64 (ki + 1), .str (markT (ki + 1 + 1)), .lst false 4 (b3.map Ex.av)]) ?_ ?_
 ·refine rgA (by kernel_rfl) ?_
  simp [s0, s1, s5, hx, hst]
  refine aop_call' (c_markText (ki + 1 + 1) (by omega) (by omega)) ?_
  simp [s0, s1, s5, hx, hst]
  exact I2
 clear hg hx hst I2 I
 rintro u2 ⟨s0, s1, s5, I⟩
 have hw : IntKind.wrap .i64 (ki + 1 + 1 + 1) = ki + 1 + 1 + 1 := wrap64 (by omega) (by omega)
 (repeat refine sqA ?_); refine rgA (by kernel_rfl) ?_
 simp [s1, hw]
 clear hw
 have hg := I.row
 have hx : idxA Tryz.prog u2.mem 24 (.own g n c) (.int .i64 i) = some (.elt g 4 i 0) := idx_own es_24 hg (by simp [hy]) hlt
 obtain ⟨A, x, hxo, hown, hupd⟩ := I.call (o := 3) (by simp)
 obtain rfl : .lst false 4 (b3.map Ex.av) = x := Option.some.inj hxo
 simp only [List.getElem_cons_succ, List.getElem_cons_zero] at hown hupd
 (repeat refine sqA ?_); refine rgA (by kernel_rfl) ?_
 simp [s0, s1, s5, hx, hg, hy, hlt]
 refine aop_wcall _ _ _ _ _ _ _ _ rfl (eval_func _ _) ?_
 refine (show MkExp b3 from hr _ hmem) _ _ _ _ hown (ki + 1 + 1 + 1) (by omega) (by omega) _ fun m' l3 hout ho hh3 => ?_
 simp [s0, s1, s5]
 have I2 := hupd m' _ hout ho
 simp only [List.set_cons_zero, List.set_cons_succ] at I2
 clear hg hx I hupd hown hxo
 have I := I2
 have hnew : Ex.av (Ex.mk (ki) (ki + 1) (markT (ki + 1 + 1)) l3) = .agg [.int .i64 (ki), .int .i64 (ki + 1), .str (markT (ki + 1 + 1)), .lst false 4 (l3.map Ex.av)] := by simp [Ex.av, Ex.cells_mk]
 have hM2 := hback m' [.int .i64 (ki), .int .i64 (ki + 1), .str (markT (ki + 1 + 1)), a3] [.int .i64 (ki), .int .i64 (ki + 1), .str (markT (ki + 1 + 1)), .lst false 4 (l3.map Ex.av)] I (by simp [hok])
 rw [← hnew, set_done Ex.av done _ _ _ hdl] at hM2
 (repeat refine sqA ?_); refine rgA (by kernel_rfl) ?_
 simp [s0, s1, s5, hwi]
 refine hR _ (n - (i + 1)) (by omega) ⟨i + 1, _, ki + 1 + 1 + 1 + (AV.cnts (b3.map Ex.av) : Int), done ++ [(Ex.mk (ki) (ki + 1) (markT (ki + 1 + 1)) l3)], rfl, by omega, by simp [hdl], ?_, by simp [s0, s1, s5], by simp [s0, s1, s5], by simp, ?_, by omega, by omega, by simpa using hM2⟩
 ·simp [hy]
 ·rw [List.map_append, List.map_cons, hnew]
  exact hH.append (.agg (.int (.int (.str (.lst hh3 (.nil _))))) (.nil _))
theorem mk_exp (e : Ex) : MkExp e.parts := by
 induction e using Ex.ind with | h k n s l h => exact c_markExpS0 l h
theorem c_markExpS (l : List Ex) : MkExp l := mk_exp (Ex.mk 0 0 ⟨#[]⟩ l)
/-- What marking rows of these comes to. -/
def MkArr (l : List Ar) : Prop := ∀ (m : Mem) (F : Nat → Prop) (v : AV) (f : Bool) (h : OwnT m F v (.lst f 2 (l.map Ar.av))) (k : Int) (h0 : 0 < k) (hb : k + (AV.cnts (l.map Ar.av) : Int) ≤ 4611686018427387904) (K : AV → Mem → Prop)
  (hK : ∀ m' (l' : List Ar), (∀ b, ¬ F b → m' b = m b) → OwnT m' F v (.lst false 2 (l'.map Ar.av)) → Held (l'.map Ar.av) k (k + (AV.cnts (l.map Ar.av) : Int)) → K (.int .i64 (k + (AV.cnts (l.map Ar.av) : Int))) m'), WCall Tryz.prog 70 [v, .int .i64 k] m K
theorem c_markArrS0 (l : List Ar) : MkArr l := by
 intro m F v f h k h0 hb K hK
 refine wcall_of Tryz.func70 (by kernel_rfl) rfl (by simp [Tryz.f70]) ?_
 rcases own_row h with ⟨f', e', rfl, hnil⟩ | ⟨g, n, c, rfl, hn, rfl⟩
 ·have hl : l = [] := by simpa using hnil
  subst hl
  (repeat refine sqA ?_); refine rgA (by kernel_rfl) ?_
  try simp
  (repeat refine sqA ?_); refine rgA (by kernel_rfl) ?_
  try simp
  (repeat refine sqA ?_); refine AWp.block (AWp.rounds (fun q st => q = 0 ∧ st.slots 0 = .lst f' e' [] ∧ st.slots 1 = .int .i64 k ∧ st.slots 5 = .int .i64 0 ∧ st.mem = m) 0 ⟨rfl, by simp, by simp, by simp, by simp⟩ ?_)
  rintro R q st hR ⟨rfl, s0, s1, s5, sm⟩
  (repeat refine sqA ?_); refine rgA (by kernel_rfl) ?_
  simp [s0, s5]
  (repeat refine sqA ?_); refine AWp.condF (by simp) ?_
  refine AWp.exit ?_
  try simp
  (repeat refine sqA ?_); refine rgA (by kernel_rfl) ?_
  simp [s1]
  refine AWp.ret (post_retW rfl ⟨_, _, View.refl _ _, ?_⟩)
  have := hK m [] (fun _ _ => rfl) (.nil _ _ _) (by simpa [AV.cnts] using Held.nil k)
  simpa [AV.cnts, sm] using this
 obtain ⟨T, G, ys, hM, hy, hx⟩ := Marking.start h
 have hlen : l.length = n := by simpa using hx
 have hcl := cnts_len (f := Ar.av) (fun x => by simp [Ar.av, Ar.cells, AV.cnt, AV.cnts]) l
 (repeat refine sqA ?_); refine rgA (by kernel_rfl) ?_
 try simp
 (repeat refine sqA ?_); refine rgA (by kernel_rfl) ?_
 try simp
 (repeat refine sqA ?_); refine AWp.block (AWp.rounds (fun q st => ∃ (i : Nat) (ys : List AV) (ki : Int) (done : List Ar), q = n - i ∧ i ≤ n ∧ done.length = i ∧ ys.length = n ∧ st.slots 0 = .own g n c ∧ st.slots 1 = .int .i64 ki ∧ st.slots 5 = .int .i64 i ∧ Held (done.map Ar.av) k ki ∧ k ≤ ki ∧ ki + (AV.cnts ((l.drop i).map Ar.av) : Int) = k + (AV.cnts (l.map Ar.av) : Int) ∧ Marking st.mem m F g T 2 c G ys ((done ++ l.drop i).map Ar.av)) n ⟨0, ys, k, [], by simp, by simp, rfl, hy, by simp, by simp, by simp, .nil k, by omega, by simp, by simpa using hM⟩ ?_)
 clear hM hy ys
 rintro R q st hR ⟨i, ys, ki, done, rfl, hi, hdl, hy, s0, s1, s5, hH, hki, hcnt, hM⟩
 (repeat refine sqA ?_); refine rgA (by kernel_rfl) ?_
 simp [s0, s5]
 (repeat refine sqA ?_); refine AWp.cond (b := decide (i < n)) (by simp) (fun hlt => ?_) (fun hlt => ?_)
 rotate_left
 ·simp at hlt
  have hin : i = n := by omega
  subst hin
  refine AWp.exit ?_
  try simp
  (repeat refine sqA ?_); refine rgA (by kernel_rfl) ?_
  simp [s1]
  rw [List.drop_eq_nil_of_le (by omega)] at hcnt hM
  rw [List.append_nil] at hM
  have hke : ki = k + (AV.cnts (l.map Ar.av) : Int) := by simpa [AV.cnts] using hcnt
  subst hke
  refine AWp.ret (post_retW rfl ⟨_, _, View.refl _ _, ?_⟩)
  simp
  exact hK _ done hM.out (hM.done hy) hH
 simp at hlt
 have hil : i < l.length := by omega
 have hdr : l.drop i = l[i] :: l.drop (i + 1) := List.drop_eq_getElem_cons hil
 have hmem := List.getElem_mem hil
 have hwi : IntKind.wrap .i64 ((i : Int) + 1) = (i + 1 : Nat) := wrap64 (by omega) (by omega)
 rw [hdr] at hcnt hM
 rcases hx0 : l[i] with ⟨b0, b1⟩
 rw [hx0] at hcnt hM hmem
 have hat := at_done Ar.av done (Ar.mk b0 b1) (l.drop (i + 1)) hdl
 obtain ⟨B, cs0, hok, hal, I, hback⟩ := hM.into (i := i) (by omega) (cs := [.str b0, .int .i64 b1]) (by rw [hat]; simp [Ar.av, Ar.cells])
 obtain ⟨a0, a1, rfl⟩ : ∃ a0 a1, cs0 = [a0, a1] := by
  match cs0, hal with
  | [a0, a1], _ => exact ⟨_, _, rfl⟩
 simp only [List.map_cons, AV.cnts, Ar.av, Ar.cells, AV.cnt, List.cons_append, List.nil_append] at hcnt
 simp only [List.all_cons, List.all_nil, Bool.and_eq_true, Bool.and_true] at hok
 refine AWp.skip ?_
 try simp
 (repeat refine sqA ?_); refine AWp.block ?_
 have hg := I.row
 have hx : idxA Tryz.prog st.mem 29 (.own g n c) (.int .i64 i) = some (.elt g 2 i 0) := idx_own es_29 hg (by simp [hy]) hlt
 have I2 := I.leaf 0 (x := .str (markT (ki))) (own_str _)
 have hst := I.store (by omega) rfl 0 (by omega) (by omega) (x := .str (markT (ki))) rfl
 simp only [List.set_cons_zero, List.set_cons_succ] at I2 hst
 (repeat refine sqA ?_); refine AWp.cutA (fun u => u.slots 0 = .own g n c ∧ u.slots 1 = .int .i64 (ki) ∧ u.slots 5 = .int .i64 i ∧ InRow u.mem st.mem g T 2 c i ys B [.str (markT (ki)), a1] [.str (markT (ki)), .int .i64 b1]) ?_ ?_
 ·refine rgA (by kernel_rfl) ?_
  simp [s0, s1, s5, hx, hst]
  refine aop_call' (c_markText (ki) (by omega) (by omega)) ?_
  simp [s0, s1, s5, hx, hst]
  exact I2
 clear hg hx hst I2 I
 rintro u0 ⟨s0, s1, s5, I⟩
 have hw : IntKind.wrap .i64 (ki + 1) = ki + 1 := wrap64 (by omega) (by omega)
 (repeat refine sqA ?_); refine rgA (by kernel_rfl) ?_
 simp [s1, hw]
 clear hw
 have hg := I.row
 have hx : idxA Tryz.prog u0.mem 29 (.own g n c) (.int .i64 i) = some (.elt g 2 i 0) := idx_own es_29 hg (by simp [hy]) hlt
 have I2 := I.leaf 1 (x := .int .i64 (ki + 1)) (own_int _ _)
 have hst := I.store (by omega) rfl 1 (by omega) (by omega) (x := .int .i64 (ki + 1)) rfl
 simp only [List.set_cons_zero, List.set_cons_succ] at I2 hst
 (repeat refine sqA ?_); refine AWp.cutA (fun u => u.slots 0 = .own g n c ∧ u.slots 1 = .int .i64 (ki + 1) ∧ u.slots 5 = .int .i64 i ∧ InRow u.mem st.mem g T 2 c i ys B [.str (markT (ki)), .int .i64 (ki + 1)] [.str (markT (ki)), .int .i64 (ki + 1)]) ?_ ?_
 ·refine rgA (by kernel_rfl) ?_
  simp [s0, s1, s5, hx, hst]
  exact I2
 clear hg hx hst I2 I
 rintro u1 ⟨s0, s1, s5, I⟩
 have hw : IntKind.wrap .i64 (ki + 1 + 1) = ki + 1 + 1 := wrap64 (by omega) (by omega)
 (repeat refine sqA ?_); refine rgA (by kernel_rfl) ?_
 simp [s1, hw]
 clear hw
 have hnew : Ar.av (Ar.mk (markT (ki)) (ki + 1)) = .agg [.str (markT (ki)), .int .i64 (ki + 1)] := by simp [Ar.av, Ar.cells]
 have hM2 := hback u1.mem [.str (markT (ki)), .int .i64 (ki + 1)] [.str (markT (ki)), .int .i64 (ki + 1)] I (by simp [hok])
 rw [← hnew, set_done Ar.av done _ _ _ hdl] at hM2
 (repeat refine sqA ?_); refine rgA (by kernel_rfl) ?_
 simp [s0, s1, s5, hwi]
 refine hR _ (n - (i + 1)) (by omega) ⟨i + 1, _, ki + 1 + 1, done ++ [(Ar.mk (markT (ki)) (ki + 1))], rfl, by omega, by simp [hdl], ?_, by simp [s0, s1, s5], by simp [s0, s1, s5], by simp, ?_, by omega, by omega, by simpa using hM2⟩
 ·simp [hy]
 ·rw [List.map_append, List.map_cons, hnew]
  exact hH.append (.agg (.str (.int (.nil _))) (.nil _))
end Go.T
