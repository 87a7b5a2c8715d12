/- The reference's reader: products, sums. The reference's ParseExp. The program's ParseExp. Machines that are right: what the program and the reference compute; the law. Marks: what the program's marking functions compute. Rows marked: what the program's marking functions compute. Statements marked: what the program's marking function computes. Copies that are one's own: what the laws' copying functions compute, of programs. Copies that are one's own, of statements and programs: what the laws' copying functions compute. Statements and expressions marked. Expressions held. What holds the marks of machines; programs and machines marked. Programs and machines marked; what holds a machine's marks. New machines: what the program and the reference compute. Great machines compared; how many marks programs and machines take. FnExactParseExp: the law. -/
import Derived.Test.YtdbnllfjmkmdiaaDoorG9
import Derived.Test.YtdbnllfjmkmdiaaDoorG6
import Derived.Test.YtdbnllfjmkmdiaaDoorG7
import Derived.Test.YtdbnllfjmkmdiaaDoorG4
import Derived.Test.YtdbnllfjmkmdiaaDoorG3
namespace Go.T
open Go Go.Proofs
set_option maxRecDepth 10000
set_option maxHeartbeats 1000000
set_option linter.unusedSimpArgs false
set_option linter.unusedVariables false
open Go
theorem c_l5Mul (k : Nat) {gr : Nat} {T : List Tk} {a : Nat} {d : Int} {bad : Bool} {m : Mem} (hP : PS gr T a d bad m) (hT : ∀ t ∈ T, t.fine) (hd : bad = false → d = 30 - (k : Int) ∧ ExpS Tryd.prog 10 k (sumP k)) {K : AV → Mem → Prop}
    (hK : ∀ m' e a' d' bad', PS gr T a' d' bad' m' → Off gr m m' → Run1 (mulP (sumP k)) T a bad e a' bad' → (bad' = false → d' = d) → K e.av m') : WCall Tryd.prog 19 [.ptr gr 0] m K := by
  have hgr := hP.at
  have hf := sum_fit k
  have tk : ∀ e : Ex, List.take 4 e.cells = e.cells := fun e => List.take_of_length_le (by simp)
  have dr : ∀ e : Ex, List.drop 4 e.cells = [] := fun e => List.drop_eq_nil_of_le (by simp)
  have eE : ByteArray.empty = (⟨#[]⟩ : ByteArray) := rfl
  refine wcall_of Tryd.func19 (by kernel_rfl) rfl (by simp [Tryd.f19]) ?_
  (repeat refine AWp.seq ?_); refine AWp.region noP (by kernel_rfl) ?_
  simp
  intro g2 hg2
  have h := (PH.start hP).box hgr hg2 [.int .i64 0, .int .i64 0, .str ByteArray.empty, .lst true 0 []]
  refine AWp.gen (fun st => st.slots 0 = .ptr gr 0 ∧ st.slots 2 = .ptr g2 0 ∧ st.mem = m.set g2 (.box [.int .i64 0, .int .i64 0, .str ByteArray.empty, .lst true 0 []])) ⟨by simp, by simp, by simp⟩ ?_
  generalize m.set g2 (.box [.int .i64 0, .int .i64 0, .str ByteArray.empty, .lst true 0 []]) = m1 at *
  rintro st ⟨s0, s2, sm⟩
  (repeat refine AWp.seq ?_); refine AWp.region noP (by kernel_rfl) ?_
  simp [s0]
  refine aop_wcall _ _ _ _ _ _ _ _ rfl (eval_func _ _) ?_
  simp [sm]
  refine c_l5Atom k h.ps hT hd fun m1 e1 a1 d1 b1 hPn hOn run1 hdd1 => ?_
  have h := h.call hgr hOn hPn
  have was1 := Run1.was run1
  clear hPn hOn
  simp [Ex.av]
  intro g3 hg1
  try refine ⟨okE _, ?_⟩
  have h := h.box hgr hg1 e1.cells
  refine AWp.gen (fun st => st.slots 0 = .ptr gr 0 ∧ st.slots 2 = .ptr g2 0 ∧ st.slots 3 = .ptr g3 0 ∧ st.mem = m1.set g3 (.box e1.cells)) ⟨by first | (simp; done) | (simp [s0]; done), by first | (simp; done) | (simp [s2]; done), by simp, by first | (simp; done) | (simp [sm]; done)⟩ ?_
  clear s0 s2 sm
  rintro st ⟨s0, s2, s3, sm⟩
  generalize m1.set g3 (.box e1.cells) = n1 at *
  clear hg1
  obtain ⟨M, hM⟩ : ∃ M : St → Prop, M = (fun st => ∃ e a1 d1 b1, st.slots 2 = .ptr g2 0 ∧ st.slots 3 = .ptr g3 0 ∧ PH m gr T a1 d1 b1 [(g3, Ex.cells e), (g2, [.int .i64 0, .int .i64 0, .str ByteArray.empty, .lst true 0 []])] [] st.mem ∧ (b1 = false → d1 = d) ∧ Run1 (mulP (sumP k)) T a bad e a1 b1) := ⟨_, rfl⟩
  (repeat refine AWp.seq ?_); refine AWp.cutA M ?_ ?_
  · refine AWp.block (AWp.rounds (fun q st => ∃ e a1 d1 b1, q = (if b1 = true then 0 else T.length - a1 + 1) ∧ st.slots 0 = .ptr gr 0 ∧ st.slots 2 = .ptr g2 0 ∧ st.slots 3 = .ptr g3 0 ∧ PH m gr T a1 d1 b1 [(g3, Ex.cells e), (g2, [.int .i64 0, .int .i64 0, .str ByteArray.empty, .lst true 0 []])] [] st.mem ∧ (b1 = false → d1 = d ∧ bad = false) ∧ ∀ y a2 b2, Run1 (mulsL (sumP k) e) T a1 b1 y a2 b2 → Run1 (mulP (sumP k)) T a bad y a2 b2) (if b1 = true then 0 else T.length - a1 + 1) ⟨e1, a1, d1, b1, rfl, s0, s2, s3, by rw [sm]; exact h, fun e => ⟨hdd1 e, was1 e⟩, fun y a2 b2 hr => mul_run run1 hr⟩ ?_)
    clear s0 s2 s3 sm h hdd1 run1 was1
    rintro RR q st0 hRR ⟨e, a1, d1, b1, rfl, s0, s2, s3, h, hd1, hinv⟩
    (repeat refine AWp.seq ?_); refine AWp.region noP (by kernel_rfl) ?_
    simp [s0]
    refine aop_wcall _ _ _ _ _ _ _ _ rfl (eval_func _ _) ?_
    try simp
    refine c_l5Mark h.ps (ch 42) fun mA hPn hOn => ?_
    have h := h.call hgr hOn hPn
    clear hPn hOn
    try simp
    cases hq : (hdT T a1 b1).is 4 (ch 42) with
    | false =>
      rw [hq] at h
      simp at h
      try simp
      (repeat refine AWp.seq ?_); refine AWp.condF (by simp) ?_
      refine AWp.exit ?_
      subst hM
      refine ⟨e, a1, d1, b1, by simp [s2], by simp [s3], by simpa using h, fun e => (hd1 e).1, hinv _ _ _ (muls_exit hf e ?_)⟩
      cases b1 with
      | true => exact .inl rfl
      | false => exact .inr (is_not hq)
    | true =>
      obtain ⟨rfl, hlt, ht, hmk⟩ := is_at (by omega) hq
      rw [hq] at h
      simp at h
      obtain ⟨hd1, hbd⟩ := hd1 rfl
      try simp
      (repeat refine AWp.seq ?_); refine AWp.condT (by simp) ?_
      refine AWp.skip ?_
      try simp
      (repeat refine AWp.seq ?_); refine AWp.block ?_
      refine AWp.gen (fun st => st.slots 0 = .ptr gr 0 ∧ st.slots 2 = .ptr g2 0 ∧ st.slots 3 = .ptr g3 0 ∧ st.mem = mA) ⟨by first | (simp; done) | (simp [s0]; done), by first | (simp; done) | (simp [s2]; done), by first | (simp; done) | (simp [s3]; done), by first | (simp; done) | (simp [sm]; done)⟩ ?_
      clear s0 s2 s3
      rintro st ⟨s0, s2, s3, sm⟩
      (repeat refine AWp.seq ?_); refine AWp.region noP (by kernel_rfl) ?_
      simp [s0]
      refine aop_wcall _ _ _ _ _ _ _ _ rfl (eval_func _ _) ?_
      simp [sm]
      refine c_l5Atom k h.ps hT (fun _ => ⟨by rw [hd1]; exact (hd hbd).1, (hd hbd).2⟩) fun m2 e2 a2 d2 b2 hPn hOn run2 hdd2 => ?_
      have h := h.call hgr hOn hPn
      have was2 := Run1.was run2
      clear hPn hOn
      simp [Ex.av]
      intro g4 hg2
      try refine ⟨okE _, ?_⟩
      have h := h.box hgr hg2 e2.cells
      refine AWp.gen (fun st => st.slots 0 = .ptr gr 0 ∧ st.slots 2 = .ptr g2 0 ∧ st.slots 3 = .ptr g3 0 ∧ st.slots 4 = .ptr g4 0 ∧ st.mem = m2.set g4 (.box e2.cells)) ⟨by first | (simp; done) | (simp [s0]; done), by first | (simp; done) | (simp [s2]; done), by first | (simp; done) | (simp [s3]; done), by simp, by first | (simp; done) | (simp [sm]; done)⟩ ?_
      clear s0 s2 s3 sm
      rintro st ⟨s0, s2, s3, s4, sm⟩
      generalize m2.set g4 (.box e2.cells) = n2 at *
      clear hg2
      have w3 := h.box1 (g := g3) (cs := e.cells) (by simp)
      have wB := h.box1 (g := g4) (cs := e2.cells) (by simp)
      (repeat refine AWp.seq ?_); refine AWp.region noP (by kernel_rfl) ?_
      simp [s3, s4, sm, w3, wB, tk]
      refine aop_call' (r := (two 6 e e2).av) (by simpa [Ex.av] using c_l3Two 6 e e2) ?_
      simp [s3, sm, w3, Ex.av, dr]
      try refine ⟨okE _, ?_⟩
      have h := (PH.put (l1 := [(g4, e2.cells)]) (cs' := (two 6 e e2).cells) h).less (bs' := [(g3, (two 6 e e2).cells), (g2, [.int .i64 0, .int .i64 0, .str ByteArray.empty, .lst true 0 []])]) (List.sublist_cons_self _ _) (List.Sublist.refl _)

      refine hRR _ (if b2 = true then 0 else T.length - a2 + 1) ?_ ⟨two 6 e e2, a2, d2, b2, rfl, by simp [s0], by simp [s2], by simp [s3], by simpa using h, fun e => ⟨(hdd2 e).trans hd1, hbd⟩, fun y a3 b3 hr => hinv y a3 b3 (muls_step hf hlt hmk run2 hr)⟩
      cases b2 with
      | true => simp
      | false =>
        have := run2.lt (atom_fit hf) h.ps.le
        simp
        omega
  intro st hst
  subst hM
  obtain ⟨e, a1, d1, b1, s2, s3, h, hd1, hr⟩ := hst
  have w3 := h.box1 (g := g3) (cs := e.cells) (by simp)
  have w2 := h.box1 (g := g2) (cs := [.int .i64 0, .int .i64 0, .str ByteArray.empty, .lst true 0 []]) (by simp)
  (repeat refine AWp.seq ?_); refine AWp.region noP (by kernel_rfl) ?_
  simp [s2, s3, w2, w3, tk]
  try refine ⟨okE _, ?_⟩
  have q := PH.put (l1 := [(g3, e.cells)]) (cs' := e.cells) h
  refine AWp.ret ⟨[e.av], e.av, _, by simp [Tryd.f19, resA, s2, Ex.av, tk], by (try simp); exact View.refl _ _, hK _ _ _ _ _ q.ps q.off hr hd1⟩
theorem c_l5Sum0 (k : Nat) (hk30 : k ≤ 30) (hS : ∀ j, k = j + 1 → ExpS Tryd.prog 10 j (sumP j)) : ExpS Tryd.prog 10 k (sumP k) := by
  intro gr T a d bad m hP hT hd K hK
  have hgr := hP.at
  have hf := sum_fit (k - 1)
  have tk : ∀ e : Ex, List.take 4 e.cells = e.cells := fun e => List.take_of_length_le (by simp)
  have dr : ∀ e : Ex, List.drop 4 e.cells = [] := fun e => List.drop_eq_nil_of_le (by simp)
  have eE : ByteArray.empty = (⟨#[]⟩ : ByteArray) := rfl
  refine wcall_of Tryd.func10 (by kernel_rfl) rfl (by simp [Tryd.f10]) ?_
  (repeat refine AWp.seq ?_); refine AWp.region noP (by kernel_rfl) ?_
  simp
  intro g2 hg2
  have h := (PH.start hP).box hgr hg2 [.int .i64 0, .int .i64 0, .str ByteArray.empty, .lst true 0 []]
  refine AWp.gen (fun st => st.slots 0 = .ptr gr 0 ∧ st.slots 2 = .ptr g2 0 ∧ st.mem = m.set g2 (.box [.int .i64 0, .int .i64 0, .str ByteArray.empty, .lst true 0 []])) ⟨by simp, by simp, by simp⟩ ?_
  generalize m.set g2 (.box [.int .i64 0, .int .i64 0, .str ByteArray.empty, .lst true 0 []]) = m1 at *
  rintro st ⟨s0, s2, sm⟩
  have hbx := h.ps.box
  unfold pc at hbx
  obtain ⟨d', hd'⟩ : ∃ d' : Int, d' = IntKind.wrap .i64 (d + 1) := ⟨_, rfl⟩
  (repeat refine AWp.seq ?_); refine AWp.region noP (by kernel_rfl) ?_
  simp [s0, sm, hbx, ← hd']
  have h := h.call hgr (Off.box _ _) (h.ps.step a d' bad h.ps.le)
  refine AWp.gen (fun st => st.slots 0 = .ptr gr 0 ∧ st.slots 2 = .ptr g2 0 ∧ st.mem = m1.set gr (.box (pc T a d' bad))) ⟨by first | (simp; done) | (simp [s0]; done), by first | (simp; done) | (simp [s2]; done), by simp [pc]⟩ ?_
  clear s0 s2 sm
  rintro st ⟨s0, s2, sm⟩
  generalize m1.set gr (.box (pc T a d' bad)) = m2 at *
  clear hbx
  have hbx := h.ps.box
  unfold pc at hbx
  have hdk : bad = false → d' = d + 1 ∧ d = 30 - (k : Int) := fun e => by
    have := hd e
    exact ⟨by rw [hd']; exact wrap64 (by omega) (by omega), this⟩
  (repeat refine AWp.seq ?_); refine AWp.region noP (by kernel_rfl) ?_
  simp [s0, sm, hbx]
  obtain ⟨bad1, hb1⟩ : ∃ b : Bool, b = (bad || decide (30 < d')) := ⟨_, rfl⟩
  obtain ⟨M, hM⟩ : ∃ M : St → Prop, M = (fun st => st.slots 0 = .ptr gr 0 ∧ st.slots 2 = .ptr g2 0 ∧ PH m gr T a d' bad1 [(g2, [.int .i64 0, .int .i64 0, .str ByteArray.empty, .lst true 0 []])] [] st.mem) := ⟨_, rfl⟩
  (repeat refine AWp.seq ?_); refine AWp.cutA M ?_ ?_
  · by_cases h30 : 30 < d'
    · refine AWp.condT (by simp [h30]) ?_
      (repeat refine AWp.seq ?_); refine AWp.region noP (by kernel_rfl) ?_
      simp [s0, sm, hbx]
      have h := h.call hgr (Off.box _ _) (h.ps.step a d' true h.ps.le)
      subst hM
      have e1 : bad1 = true := by rw [hb1]; simp [h30]
      subst e1
      exact ⟨by simp [s0], by simp [s2], by simpa [pc] using h⟩
    · refine AWp.condF (by simp [h30]) ?_
      refine AWp.skip ?_
      subst hM
      have e1 : bad1 = bad := by rw [hb1]; simp [h30]
      subst e1
      exact ⟨by simp [s0], by simp [s2], by simpa [sm] using h⟩
  clear s0 s2 sm hbx h
  intro st hst
  subst hM
  obtain ⟨s0, s2, h⟩ := hst
  obtain ⟨mS, sm⟩ : ∃ mS, st.mem = mS := ⟨_, rfl⟩
  rw [sm] at h
  have hone : bad1 = false → bad = false ∧ k = (k - 1) + 1 ∧ d' = d + 1 ∧ d = 30 - (k : Int) := fun e => by
    rw [hb1] at e
    simp at e
    have := hdk e.1
    exact ⟨e.1, by omega, this⟩
  have hall : ∀ e : Ex, ∀ a1, bad1 = true → Run1 (sumP k) T a bad e a1 true := fun e a1 hb => by
    cases bad with
    | true => exact Run1.bad _ _ _ _ _
    | false =>
      rw [hb1] at hb
      simp at hb
      have := hdk rfl
      have hk0 : k = 0 := by omega
      subst hk0
      exact ⟨fun _ _ _ he => (by cases he), fun _ => rfl⟩
  have hd2 : bad1 = false → d' = 30 - ((k - 1 : Nat) : Int) ∧ ExpS Tryd.prog 10 (k - 1) (sumP (k - 1)) := fun e => by
    have := hone e
    exact ⟨by omega, hS _ this.2.1⟩
  have hsum : ∀ x y a1 a2 b1 b2, bad1 = false → Run1 (mulP (sumP (k - 1))) T a bad1 x a1 b1 → Run1 (addsL (sumP (k - 1)) x) T a1 b1 y a2 b2 → Run1 (sumP k) T a bad y a2 b2 := fun x y a1 a2 b1 b2 e h1 h2 => by
    have := hone e
    rw [this.2.1, this.1]
    rw [e] at h1
    exact sum_run h1 h2
  (repeat refine AWp.seq ?_); refine AWp.region noP (by kernel_rfl) ?_
  simp [s0]
  refine aop_wcall _ _ _ _ _ _ _ _ rfl (eval_func _ _) ?_
  simp [sm]
  refine c_l5Mul (k - 1) h.ps hT hd2 fun m1 e1 a1 d1 b1 hPn hOn run1 hdd1 => ?_
  have h := h.call hgr hOn hPn
  have was1 := Run1.was run1
  clear hPn hOn
  simp [Ex.av]
  intro g3 hg1
  try refine ⟨okE _, ?_⟩
  have h := h.box hgr hg1 e1.cells
  refine AWp.gen (fun st => st.slots 0 = .ptr gr 0 ∧ st.slots 2 = .ptr g2 0 ∧ st.slots 3 = .ptr g3 0 ∧ st.mem = m1.set g3 (.box e1.cells)) ⟨by first | (simp; done) | (simp [s0]; done), by first | (simp; done) | (simp [s2]; done), by simp, by first | (simp; done) | (simp [sm]; done)⟩ ?_
  clear s0 s2 sm
  rintro st ⟨s0, s2, s3, sm⟩
  generalize m1.set g3 (.box e1.cells) = n1 at *
  clear hg1
  have hbx := h.ps.box
  unfold pc at hbx
  (repeat refine AWp.seq ?_); refine AWp.region noP (by kernel_rfl) ?_
  simp [s0, sm, hbx]
  refine AWp.gen (fun st => st.slots 0 = .ptr gr 0 ∧ st.slots 2 = .ptr g2 0 ∧ st.slots 3 = .ptr g3 0 ∧ st.slots 4 = .bool (!b1) ∧ st.mem = n1) ⟨by first | (simp; done) | (simp [s0]; done), by first | (simp; done) | (simp [s2]; done), by first | (simp; done) | (simp [s3]; done), by simp, by first | (simp; done) | (simp [sm]; done)⟩ ?_
  clear s0 s2 s3 sm
  rintro st ⟨s0, s2, s3, s4, sm⟩
  clear hbx
  obtain ⟨M, hM⟩ : ∃ M : St → Prop, M = (fun st => ∃ e a1 d1 b1, st.slots 0 = .ptr gr 0 ∧ st.slots 2 = .ptr g2 0 ∧ st.slots 3 = .ptr g3 0 ∧ PH m gr T a1 d1 b1 [(g3, Ex.cells e), (g2, [.int .i64 0, .int .i64 0, .str ByteArray.empty, .lst true 0 []])] [] st.mem ∧ (b1 = false → d1 = d' ∧ bad1 = false) ∧ Run1 (sumP k) T a bad e a1 b1) := ⟨_, rfl⟩
  (repeat refine AWp.seq ?_); refine AWp.cutA M ?_ ?_
  · refine AWp.block (AWp.rounds (fun q st => ∃ e a1 d1 b1 fl, q = (if b1 = true ∨ fl = false then 0 else T.length - a1 + 1) ∧ st.slots 0 = .ptr gr 0 ∧ st.slots 2 = .ptr g2 0 ∧ st.slots 3 = .ptr g3 0 ∧ st.slots 4 = .bool fl ∧ PH m gr T a1 d1 b1 [(g3, Ex.cells e), (g2, [.int .i64 0, .int .i64 0, .str ByteArray.empty, .lst true 0 []])] [] st.mem ∧ (b1 = false → d1 = d' ∧ bad1 = false) ∧ (fl = true → ∀ y a2 b2, Run1 (addsL (sumP (k - 1)) e) T a1 b1 y a2 b2 → Run1 (sumP k) T a bad y a2 b2) ∧ (fl = false → Run1 (sumP k) T a bad e a1 b1)) (if b1 = true ∨ (!b1) = false then 0 else T.length - a1 + 1) ⟨e1, a1, d1, b1, !b1, rfl, s0, s2, s3, s4, by rw [sm]; exact h, fun e => ⟨hdd1 e, was1 e⟩, fun hfl y a2 b2 hr => hsum _ _ _ _ _ _ (was1 (by simpa using hfl)) run1 hr, fun hfl => ?_⟩ ?_)
    · have hb : b1 = true := by simpa using hfl
      subst hb
      cases hbd : bad1 with
      | true => exact hall _ _ hbd
      | false => exact hsum _ _ _ _ _ _ hbd run1 (adds_exit hf _ (.inl rfl))
    clear s0 s2 s3 s4 sm h hdd1 run1 was1
    rintro RR q st0 hRR ⟨e, a1, d1, b1, fl, rfl, s0, s2, s3, s4, h, hd1, hinv, hdone⟩
    have hbx := h.ps.box
    unfold pc at hbx
    by_cases hgo : fl = false ∨ b1 = true
    · (repeat refine AWp.seq ?_); refine AWp.region noP (by kernel_rfl) ?_
      have hex : Run1 (sumP k) T a bad e a1 b1 := by
        cases fl with
        | false => exact hdone rfl
        | true =>
          have hb := hgo.resolve_left (by simp)
          subst hb
          exact hinv rfl _ _ _ (adds_exit hf e (.inl rfl))
      have out : ∀ st' : St, st'.slots 0 = .ptr gr 0 → st'.slots 2 = .ptr g2 0 → st'.slots 3 = .ptr g3 0 → st'.mem = st0.mem → M st' := fun st' t0 t2 t3 tm => by
        subst hM
        exact ⟨e, a1, d1, b1, t0, t2, t3, by rw [tm]; exact h, hd1, hex⟩
      cases fl with
      | false =>
        simp [s0, s4]
        (repeat refine AWp.seq ?_); refine AWp.condF (by simp) ?_
        refine AWp.exit ?_
        refine out _ ?_ ?_ ?_ ?_ <;> simp [s0, s2, s3]
      | true =>
        have hb := hgo.resolve_left (by simp)
        subst hb
        simp [s0, s4, hbx]
        (repeat refine AWp.seq ?_); refine AWp.condF (by simp) ?_
        refine AWp.exit ?_
        refine out _ ?_ ?_ ?_ ?_ <;> simp [s0, s2, s3]
    have hfl : fl = true := by cases fl with | true => rfl | false => exact absurd (.inl rfl) hgo
    have hb1 : b1 = false := by cases b1 with | false => rfl | true => exact absurd (.inr rfl) hgo
    subst hfl hb1
    obtain ⟨hd1, hbd⟩ := hd1 rfl
    have hinv := hinv rfl
    obtain ⟨hd30, hS1⟩ := hd2 hbd
    (repeat refine AWp.seq ?_); refine AWp.region noP (by kernel_rfl) ?_
    simp [s0, s4, hbx]
    (repeat refine AWp.seq ?_); refine AWp.condT (by simp) ?_
    refine AWp.skip ?_
    try simp
    (repeat refine AWp.seq ?_); refine AWp.block ?_
    (repeat refine AWp.seq ?_); refine AWp.block ?_
    obtain ⟨mL, sm⟩ : ∃ mL, st0.mem = mL := ⟨_, rfl⟩
    rw [sm] at h
    refine AWp.gen (fun st => st.slots 0 = .ptr gr 0 ∧ st.slots 2 = .ptr g2 0 ∧ st.slots 3 = .ptr g3 0 ∧ st.slots 4 = .bool true ∧ st.mem = mL) ⟨by first | (simp; done) | (simp [s0]; done), by first | (simp; done) | (simp [s2]; done), by first | (simp; done) | (simp [s3]; done), by first | (simp; done) | (simp [s4]; done), by first | (simp; done) | (simp [sm]; done)⟩ ?_
    clear s0 s2 s3 s4 sm hbx
    rintro st ⟨s0, s2, s3, s4, sm⟩
    (repeat refine AWp.seq ?_); refine AWp.region noP (by kernel_rfl) ?_
    simp [s0]
    refine aop_wcall _ _ _ _ _ _ _ _ rfl (eval_func _ _) ?_
    simp [sm]
    refine c_l5Mark h.ps (ch 43) fun mA hPn hOn => ?_
    have h := h.call hgr hOn hPn
    clear hPn hOn
    try simp
    cases hq : (hdT T a1 false).is 4 (ch 43) with
    | true =>
      obtain ⟨_, hlt, ht, hmk⟩ := is_at (by omega) hq
      rw [hq] at h
      simp at h
      try simp
      (repeat refine AWp.seq ?_); refine AWp.condT (by simp) ?_
      refine AWp.gen (fun st => st.slots 0 = .ptr gr 0 ∧ st.slots 2 = .ptr g2 0 ∧ st.slots 3 = .ptr g3 0 ∧ st.slots 4 = .bool true ∧ st.mem = mA) ⟨by first | (simp; done) | (simp [s0]; done), by first | (simp; done) | (simp [s2]; done), by first | (simp; done) | (simp [s3]; done), by first | (simp; done) | (simp [s4]; done), by first | (simp; done) | (simp [sm]; done)⟩ ?_
      clear s0 s2 s3 s4 sm
      rintro st ⟨s0, s2, s3, s4, sm⟩
      (repeat refine AWp.seq ?_); refine AWp.region noP (by kernel_rfl) ?_
      simp [s0]
      refine aop_wcall _ _ _ _ _ _ _ _ rfl (eval_func _ _) ?_
      simp [sm]
      refine c_l5Mul (k - 1) h.ps hT (fun _ => ⟨by rw [hd1]; exact hd30, hS1⟩) fun m2 e2 a2 d2 b2 hPn hOn run2 hdd2 => ?_
      have h := h.call hgr hOn hPn
      have was2 := Run1.was run2
      clear hPn hOn
      simp [Ex.av]
      intro g5 hg2
      try refine ⟨okE _, ?_⟩
      have h := h.box hgr hg2 e2.cells
      refine AWp.gen (fun st => st.slots 0 = .ptr gr 0 ∧ st.slots 2 = .ptr g2 0 ∧ st.slots 3 = .ptr g3 0 ∧ st.slots 4 = .bool true ∧ st.slots 5 = .ptr g5 0 ∧ st.mem = m2.set g5 (.box e2.cells)) ⟨by first | (simp; done) | (simp [s0]; done), by first | (simp; done) | (simp [s2]; done), by first | (simp; done) | (simp [s3]; done), by first | (simp; done) | (simp [s4]; done), by simp, by first | (simp; done) | (simp [sm]; done)⟩ ?_
      clear s0 s2 s3 s4 sm
      rintro st ⟨s0, s2, s3, s4, s5, sm⟩
      generalize m2.set g5 (.box e2.cells) = n2 at *
      clear hg2
      have w3 := h.box1 (g := g3) (cs := e.cells) (by simp)
      have wB := h.box1 (g := g5) (cs := e2.cells) (by simp)
      (repeat refine AWp.seq ?_); refine AWp.region noP (by kernel_rfl) ?_
      simp [s3, s5, sm, w3, wB, tk]
      refine aop_call' (r := (two 4 e e2).av) (by simpa [Ex.av] using c_l3Two 4 e e2) ?_
      simp [s3, sm, w3, Ex.av, dr]
      try refine ⟨okE _, ?_⟩
      have h := (PH.put (l1 := [(g5, e2.cells)]) (cs' := (two 4 e e2).cells) h).less (bs' := [(g3, (two 4 e e2).cells), (g2, [.int .i64 0, .int .i64 0, .str ByteArray.empty, .lst true 0 []])]) (List.sublist_cons_self _ _) (List.Sublist.refl _)

      refine hRR _ (if b2 = true then 0 else T.length - a2 + 1) ?_ ⟨two 4 e e2, a2, d2, b2, true, by simp, by simp [s0], by simp [s2], by simp [s3], by simp [s4], by simpa using h, fun e => ⟨(hdd2 e).trans hd1, hbd⟩, fun _ y a3 b3 hr => hinv y a3 b3 (adds_step hf hlt (.inl ⟨hmk, rfl⟩) run2 hr), fun e => (by cases e)⟩
      cases b2 with
      | true => simp
      | false =>
        have := run2.lt (mul_fit hf) h.ps.le
        simp
        omega
    | false =>
      have hn1 := is_not hq
      rw [hq] at h
      simp at h
      try simp
      (repeat refine AWp.seq ?_); refine AWp.condF (by simp) ?_
      refine AWp.gen (fun st => st.slots 0 = .ptr gr 0 ∧ st.slots 2 = .ptr g2 0 ∧ st.slots 3 = .ptr g3 0 ∧ st.slots 4 = .bool true ∧ st.mem = mA) ⟨by first | (simp; done) | (simp [s0]; done), by first | (simp; done) | (simp [s2]; done), by first | (simp; done) | (simp [s3]; done), by first | (simp; done) | (simp [s4]; done), by first | (simp; done) | (simp [sm]; done)⟩ ?_
      clear s0 s2 s3 s4 sm
      rintro st ⟨s0, s2, s3, s4, sm⟩
      (repeat refine AWp.seq ?_); refine AWp.region noP (by kernel_rfl) ?_
      simp [s0]
      refine aop_wcall _ _ _ _ _ _ _ _ rfl (eval_func _ _) ?_
      simp [sm]
      refine c_l5Mark h.ps (ch 45) fun mB hPn hOn => ?_
      have h := h.call hgr hOn hPn
      clear hPn hOn
      try simp
      cases hq2 : (hdT T a1 false).is 4 (ch 45) with
      | true =>
        obtain ⟨_, hlt, ht, hmk⟩ := is_at (by omega) hq2
        rw [hq2] at h
        simp at h
        try simp
        (repeat refine AWp.seq ?_); refine AWp.condT (by simp) ?_
        refine AWp.gen (fun st => st.slots 0 = .ptr gr 0 ∧ st.slots 2 = .ptr g2 0 ∧ st.slots 3 = .ptr g3 0 ∧ st.slots 4 = .bool true ∧ st.mem = mB) ⟨by first | (simp; done) | (simp [s0]; done), by first | (simp; done) | (simp [s2]; done), by first | (simp; done) | (simp [s3]; done), by first | (simp; done) | (simp [s4]; done), by first | (simp; done) | (simp [sm]; done)⟩ ?_
        clear s0 s2 s3 s4 sm
        rintro st ⟨s0, s2, s3, s4, sm⟩
        (repeat refine AWp.seq ?_); refine AWp.region noP (by kernel_rfl) ?_
        simp [s0]
        refine aop_wcall _ _ _ _ _ _ _ _ rfl (eval_func _ _) ?_
        simp [sm]
        refine c_l5Mul (k - 1) h.ps hT (fun _ => ⟨by rw [hd1]; exact hd30, hS1⟩) fun m2 e2 a2 d2 b2 hPn hOn run2 hdd2 => ?_
        have h := h.call hgr hOn hPn
        have was2 := Run1.was run2
        clear hPn hOn
        simp [Ex.av]
        intro g6 hg2
        try refine ⟨okE _, ?_⟩
        have h := h.box hgr hg2 e2.cells
        refine AWp.gen (fun st => st.slots 0 = .ptr gr 0 ∧ st.slots 2 = .ptr g2 0 ∧ st.slots 3 = .ptr g3 0 ∧ st.slots 4 = .bool true ∧ st.slots 6 = .ptr g6 0 ∧ st.mem = m2.set g6 (.box e2.cells)) ⟨by first | (simp; done) | (simp [s0]; done), by first | (simp; done) | (simp [s2]; done), by first | (simp; done) | (simp [s3]; done), by first | (simp; done) | (simp [s4]; done), by simp, by first | (simp; done) | (simp [sm]; done)⟩ ?_
        clear s0 s2 s3 s4 sm
        rintro st ⟨s0, s2, s3, s4, s6, sm⟩
        generalize m2.set g6 (.box e2.cells) = n2 at *
        clear hg2
        have w3 := h.box1 (g := g3) (cs := e.cells) (by simp)
        have wB := h.box1 (g := g6) (cs := e2.cells) (by simp)
        (repeat refine AWp.seq ?_); refine AWp.region noP (by kernel_rfl) ?_
        simp [s3, s6, sm, w3, wB, tk]
        refine aop_call' (r := (two 5 e e2).av) (by simpa [Ex.av] using c_l3Two 5 e e2) ?_
        simp [s3, sm, w3, Ex.av, dr]
        try refine ⟨okE _, ?_⟩
        have h := (PH.put (l1 := [(g6, e2.cells)]) (cs' := (two 5 e e2).cells) h).less (bs' := [(g3, (two 5 e e2).cells), (g2, [.int .i64 0, .int .i64 0, .str ByteArray.empty, .lst true 0 []])]) (List.sublist_cons_self _ _) (List.Sublist.refl _)

        refine hRR _ (if b2 = true then 0 else T.length - a2 + 1) ?_ ⟨two 5 e e2, a2, d2, b2, true, by simp, by simp [s0], by simp [s2], by simp [s3], by simp [s4], by simpa using h, fun e => ⟨(hdd2 e).trans hd1, hbd⟩, fun _ y a3 b3 hr => hinv y a3 b3 (adds_step hf hlt (.inr ⟨hn1 hlt, hmk, rfl⟩) run2 hr), fun e => (by cases e)⟩
        cases b2 with
        | true => simp
        | false =>
          have := run2.lt (mul_fit hf) h.ps.le
          simp
          omega
      | false =>
        rw [hq2] at h
        simp at h
        try simp
        (repeat refine AWp.seq ?_); refine AWp.condF (by simp) ?_
        (repeat refine AWp.seq ?_); refine AWp.region noP (by kernel_rfl) ?_
        simp
        refine hRR _ 0 (by simp) ⟨e, a1, d1, false, false, by simp, by simp [s0], by simp [s2], by simp [s3], by simp, by simpa using h, fun _ => ⟨hd1, hbd⟩, fun e => (by cases e), fun _ => hinv _ _ _ (adds_exit hf e (.inr ⟨hn1, is_not hq2⟩))⟩
  intro st hst
  subst hM
  obtain ⟨e, a1, d1, b1, s0, s2, s3, h, hd1, hr⟩ := hst
  have hbx := h.ps.box
  unfold pc at hbx
  obtain ⟨d2, hd2'⟩ : ∃ d2 : Int, d2 = IntKind.wrap .i64 (d1 - 1) := ⟨_, rfl⟩
  (repeat refine AWp.seq ?_); refine AWp.region noP (by kernel_rfl) ?_
  simp [s0, hbx, ← hd2']
  have h := h.call hgr (Off.box _ _) (h.ps.step a1 d2 b1 h.ps.le)
  refine AWp.gen (fun st1 => st1.slots 0 = .ptr gr 0 ∧ st1.slots 2 = .ptr g2 0 ∧ st1.slots 3 = .ptr g3 0 ∧ st1.mem = st.mem.set gr (.box (pc T a1 d2 b1))) ⟨by first | (simp; done) | (simp [s0]; done), by first | (simp; done) | (simp [s2]; done), by first | (simp; done) | (simp [s3]; done), by simp [pc]⟩ ?_
  generalize st.mem.set gr (.box (pc T a1 d2 b1)) = m9 at *
  clear s0 s2 s3 hbx
  rintro st ⟨s0, s2, s3, sm⟩
  have w3 := h.box1 (g := g3) (cs := e.cells) (by simp)
  have w2 := h.box1 (g := g2) (cs := [.int .i64 0, .int .i64 0, .str ByteArray.empty, .lst true 0 []]) (by simp)
  (repeat refine AWp.seq ?_); refine AWp.region noP (by kernel_rfl) ?_
  simp [s2, s3, sm, w2, w3, tk]
  try refine ⟨okE _, ?_⟩
  have q := PH.put (l1 := [(g3, e.cells)]) (cs' := e.cells) h
  refine AWp.ret ⟨[e.av], e.av, _, by simp [Tryd.f10, resA, s2, Ex.av, tk], by (try simp); exact View.refl _ _, hK _ _ _ _ _ q.ps q.off hr (fun e => ?_)⟩
  have h1 := (hd1 e).1
  have h2 := hone (hd1 e).2
  rw [hd2', h1, wrap64 (by omega) (by omega)]
  omega
theorem c_l5Sum : ∀ k : Nat, k ≤ 30 → ExpS Tryd.prog 10 k (sumP k)
  | 0, h => c_l5Sum0 0 h fun j e => by cases e
  | k + 1, h => c_l5Sum0 (k + 1) h fun j e => by
    cases e
    exact c_l5Sum k (by omega)
end Go.T
namespace Go.T
open Go Go.Proofs
set_option maxRecDepth 10000
set_option maxHeartbeats 1000000
set_option linter.unusedSimpArgs false
set_option linter.unusedVariables false
open Go
theorem parse_out {s : ByteArray} {e : Ex} {a' : Nat} {bad' : Bool} (h : Run1 (sumP 30) ((lex s).getD []) 0 (!(lex s).isSome) e a' bad') (ha : a' ≤ ((lex s).getD []).length) :
    (bad' = true → parseE s = none) ∧ (bad' = false → e.tot ≤ 1048576 ∧ (a' < ((lex s).getD []).length → parseE s = none) ∧ (a' = ((lex s).getD []).length → parseE s = if e.ok = true then some e else none)) := by
  unfold parseE
  cases hl : lex s with
  | none =>
    rw [hl] at h
    refine ⟨fun _ => rfl, fun e => ?_⟩
    have := h.ill (.inl rfl)
    rw [this] at e; cases e
  | some T =>
    rw [hl] at h ha
    simp only [Option.getD_some, Option.isSome_some, Bool.not_true] at h ha ⊢
    obtain ⟨hT, hl6⟩ := lex_fine hl
    cases hs : sumP 30 T with
    | none =>
      refine ⟨fun _ => rfl, fun e => ?_⟩
      have := h.ill (.inr (by simpa using hs))
      rw [this] at e; cases e
    | some p =>
      obtain ⟨x0, r⟩ := p
      obtain ⟨rfl, hb, hd⟩ := h.good x0 r rfl (by simpa using hs)
      subst hb
      refine ⟨fun e => (nomatch e), fun _ => ?_⟩
      have hw := (sum_fit 30 _ _ _ hs).2.2
      have hw2 := W_le T hT
      have hlen := congrArg List.length hd
      simp at hlen
      refine ⟨by omega, fun hlt => ?_, fun he => ?_⟩
      · cases r with
        | nil => simp at hlen; omega
        | cons t l => rfl
      · cases r with
        | nil => rfl
        | cons t l => simp at hlen; omega
def outE (o : Option Ex) : AV := .tup [(o.getD (Ex.mk 0 0 ⟨#[]⟩ [])).av, .bool o.isSome]
theorem c_spec_ParseExp (s : ByteArray) (hz : s.size ≤ 9223372036854775807) : PCall Tryd.prog 4 [.str s] (outE (parseE s)) := by
  have eE : ByteArray.empty = (⟨#[]⟩ : ByteArray) := rfl
  have tk : ∀ e : Ex, List.take 4 e.cells = e.cells := fun e => List.take_of_length_le (by simp)
  obtain ⟨T, hTd⟩ : ∃ T, T = (lex s).getD [] := ⟨_, rfl⟩
  have hT : (∀ t ∈ T, t.fine) ∧ T.length ≤ 600 := by
    cases hl : lex s with
    | none => rw [hTd, hl]; simp
    | some T' =>
      rw [hTd, hl]
      exact lex_fine hl
  obtain ⟨hT, h6⟩ := hT
  refine pcall_of Tryd.func4 (by kernel_rfl) rfl (by simp [Tryd.f4]) ?_
  (repeat refine AWp.seq ?_); refine AWp.region noP (by kernel_rfl) ?_
  simp
  intro g2
  refine AWp.gen (fun st => st.slots 0 = .str s ∧ st.slots 2 = .ptr g2 0 ∧ st.mem = Mem.set (fun _ => none) g2 (.box [.int .i64 0, .int .i64 0, .str ByteArray.empty, .lst true 0 []])) ⟨by simp, by simp, by simp⟩ ?_
  have w2 := set_same (fun _ => none) g2 (.box [.int .i64 0, .int .i64 0, .str ByteArray.empty, .lst true 0 []])
  generalize Mem.set (fun _ => none) g2 (.box [.int .i64 0, .int .i64 0, .str ByteArray.empty, .lst true 0 []]) = m1 at *
  rintro st ⟨s0, s2, sm⟩
  (repeat refine AWp.seq ?_); refine AWp.region noP (by kernel_rfl) ?_
  simp [s0]
  refine aop_wcall _ _ _ _ _ _ _ _ rfl (eval_func _ _) ?_
  simp [sm]
  refine c_spec_Lex s hz ?_
  rw [← hTd]
  try simp
  refine AWp.gen (fun st => st.slots 2 = .ptr g2 0 ∧ st.slots 4 = .lst false 3 (T.map Tk.av) ∧ st.slots 5 = .bool (lex s).isSome ∧ st.mem = m1) ⟨by first | (simp; done) | (simp [s2]; done), by simp, by simp, by first | (simp; done) | (simp [sm]; done)⟩ ?_
  clear s0 s2 sm
  rintro st ⟨s2, s4, s5, sm⟩
  (repeat refine AWp.seq ?_); refine AWp.region noP (by kernel_rfl) ?_
  simp [s4, s5, sm]
  intro g6 hg6
  have n26 : g2 ≠ g6 := by rintro rfl; rw [w2] at hg6; cases hg6
  have w2 := ext_set hg6 (.box (pc T 0 0 (!(lex s).isSome))) _ _ w2
  have hP : PS g6 T 0 0 (!(lex s).isSome) (m1.set g6 (.box (pc T 0 0 (!(lex s).isSome)))) := ⟨set_same _ _ _, by simp, h6⟩
  refine AWp.gen (fun st => st.slots 2 = .ptr g2 0 ∧ st.slots 6 = .ptr g6 0 ∧ st.mem = m1.set g6 (.box (pc T 0 0 (!(lex s).isSome)))) ⟨by simp [s2], by simp, by simp [pc]⟩ ?_
  generalize m1.set g6 (.box (pc T 0 0 (!(lex s).isSome))) = m2 at *
  clear s2 s4 s5 sm hg6
  rintro st ⟨s2, s6, sm⟩
  (repeat refine AWp.seq ?_); refine AWp.region noP (by kernel_rfl) ?_
  simp [s6]
  refine aop_wcall _ _ _ _ _ _ _ _ rfl (eval_func _ _) ?_
  simp [sm]
  refine c_l5Sum 30 (by omega) g6 T 0 0 _ m2 hP hT (fun _ => by simp) _ fun m3 e a' d' bad' hPn hOn run _ => ?_
  have w2 := hOn _ _ n26 w2
  have hbx := hPn.box
  have hle := hPn.le
  rw [hTd] at run
  obtain ⟨o1, o2⟩ := parse_out run (by rw [← hTd]; exact hle)
  rw [← hTd] at o2
  unfold pc at hbx
  simp [Ex.av]
  intro g7 hg7
  try refine ⟨okE _, ?_⟩
  have hE := ext_set hg7 (.box e.cells)
  have w2 := hE _ _ w2
  have hbx := hE _ _ hbx
  have w7 := set_same m3 g7 (.box e.cells)
  refine AWp.gen (fun st => st.slots 2 = .ptr g2 0 ∧ st.slots 6 = .ptr g6 0 ∧ st.slots 7 = .ptr g7 0 ∧ st.mem = m3.set g7 (.box e.cells)) ⟨by simp [s2], by simp [s6], by simp, by simp⟩ ?_
  generalize m3.set g7 (.box e.cells) = m4 at *
  clear s2 s6 sm hg7 hE hPn hOn run hP
  rintro st ⟨s2, s6, s7, sm⟩
  have bad : ∀ st' : St, parseE s = none → st'.slots 2 = .ptr g2 0 → st'.slots 3 = .bool false → st'.mem g2 = some (.box [.int .i64 0, .int .i64 0, .str ByteArray.empty, .lst true 0 []]) → Post Tryd.prog Tryd.f4 (fun r' _ => r' = outE (parseE s)) .ret st' := fun st' hn t2 t3 tm => by
    rw [hn]
    exact ⟨[.agg [.int .i64 0, .int .i64 0, .str ByteArray.empty, .lst true 0 []], .bool false], outE none, st'.mem, by simp [Tryd.f4, resA, t2, t3, tm], View.le (Le.tup (.cons (by rw [eE]; exact zero_le) (.cons (Le.refl _) .nil))) _, rfl⟩
  by_cases hb : bad' = true
  · subst hb
    (repeat refine AWp.seq ?_); refine AWp.regionG (fun _ => true) (fun _ => false) [0, 1, 2, 3, 4, 5, 6, 7, 8, 9, 10, 11, 12, 13, 14, 15, 16, 17, 18, 19, 20] [0, 1, 2, 3, 4, 5, 6, 7, 8, 9, 10, 11, 12, 13, 14, 15, 16, 17, 18, 19, 20] (by kernel_rfl) ?_
    simp [s6, sm, hbx]
    (repeat refine AWp.seq ?_); refine AWp.condT (by simp) ?_
    (repeat refine AWp.seq ?_); refine AWp.region noP (by kernel_rfl) ?_
    simp [s2, w2, sm]
    refine AWp.ret (bad _ (o1 rfl) ?_ ?_ ?_) <;> simp [s2]
  have hb : bad' = false := by simpa using hb
  subst hb
  obtain ⟨ht, o3, o4⟩ := o2 rfl
  by_cases hlt : a' < T.length
  · have hne : ¬ (a' : Int) = T.length := by omega
    (repeat refine AWp.seq ?_); refine AWp.regionG (fun _ => true) (fun _ => false) [0, 1, 2, 3, 4, 5, 6, 7, 8, 9, 10, 11, 12, 13, 14, 15, 16, 17, 18, 19, 20] [0, 1, 2, 3, 4, 5, 6, 7, 8, 9, 10, 11, 12, 13, 14, 15, 16, 17, 18, 19, 20] (by kernel_rfl) ?_
    simp [s6, sm, hbx, hne]
    (repeat refine AWp.seq ?_); refine AWp.condT (by simp) ?_
    (repeat refine AWp.seq ?_); refine AWp.region noP (by kernel_rfl) ?_
    simp [s2, w2, sm]
    refine AWp.ret (bad _ (o3 hlt) ?_ ?_ ?_) <;> simp [s2]
  have hae : a' = T.length := by omega
  have o4 := o4 hae
  subst hae
  (repeat refine AWp.seq ?_); refine AWp.regionG (fun _ => true) (fun _ => false) [0, 1, 2, 3, 4, 5, 6, 7, 8, 9, 10, 11, 12, 13, 14, 15, 16, 17, 18, 19, 20] [0, 1, 2, 3, 4, 5, 6, 7, 8, 9, 10, 11, 12, 13, 14, 15, 16, 17, 18, 19, 20] (by kernel_rfl) ?_
  simp [s6, s7, sm, hbx, w7, tk]
  refine aop_call' (r := .bool e.ok) (by simpa [Ex.av] using c_spec_ExpOk e ht) ?_
  cases hok : e.ok with
  | false =>
    rw [hok] at o4
    try simp
    (repeat refine AWp.seq ?_); refine AWp.condT (by simp) ?_
    (repeat refine AWp.seq ?_); refine AWp.region noP (by kernel_rfl) ?_
    simp [s2, w2, sm]
    refine AWp.ret (bad _ (by simpa using o4) ?_ ?_ ?_) <;> simp [s2]
  | true =>
    rw [hok] at o4
    simp at o4
    try simp
    (repeat refine AWp.seq ?_); refine AWp.condF (by simp) ?_
    refine AWp.skip ?_
    try simp
    (repeat refine AWp.seq ?_); refine AWp.region noP (by kernel_rfl) ?_
    simp [s2, s7, sm, w2, w7, tk]
    try refine ⟨okE _, ?_⟩
    refine AWp.ret ⟨[e.av, .bool true], .tup [e.av, .bool true], _, by simp [Tryd.f4, resA, s2, Ex.av, tk], by (try simp); exact View.refl _ _, ?_⟩
    rw [o4]
    rfl
end Go.T
namespace Go.T
open Go Go.Proofs
set_option maxRecDepth 10000
set_option maxHeartbeats 1000000
set_option linter.unusedSimpArgs false
set_option linter.unusedVariables false
open Go
theorem c_impl_ParseExp (s : ByteArray) (hz : s.size ≤ 9223372036854775807) {Tb : TypeId} {m : Mem} (hm : m TB = some (tabBlk Tb)) {K : AV → Mem → Prop}
    (hK : ∀ m' F r, Ext m m' → Tr m m' F r ((parseE s).getD (Ex.mk 0 0 ⟨#[]⟩ [])) → K (.tup [r, .bool (parseE s).isSome]) m') : WCall Tryd.prog 5 [.str s] m K := by
  have eE : ByteArray.empty = (⟨#[]⟩ : ByteArray) := rfl
  obtain ⟨T, hTd⟩ : ∃ T, T = (lex s).getD [] := ⟨_, rfl⟩
  have hT : (∀ t ∈ T, t.fine) ∧ T.length ≤ 600 := by
    cases hl : lex s with
    | none => rw [hTd, hl]; simp
    | some T' =>
      rw [hTd, hl]
      exact lex_fine hl
  obtain ⟨hT, h6⟩ := hT
  refine wcall_of Tryd.func5 (by kernel_rfl) rfl (by simp [Tryd.f5]) ?_
  (repeat refine AWp.seq ?_); refine AWp.region noP (by kernel_rfl) ?_
  simp
  intro g2 hg2
  have hE2 := ext_set hg2 (.box [.int .i64 0, .int .i64 0, .str ByteArray.empty, .lst true 0 []])
  have w2 := set_same m g2 (.box [.int .i64 0, .int .i64 0, .str ByteArray.empty, .lst true 0 []])
  refine AWp.gen (fun st => st.slots 0 = .str s ∧ st.slots 2 = .ptr g2 0 ∧ st.mem = m.set g2 (.box [.int .i64 0, .int .i64 0, .str ByteArray.empty, .lst true 0 []])) ⟨by simp, by simp, by simp⟩ ?_
  generalize m.set g2 (.box [.int .i64 0, .int .i64 0, .str ByteArray.empty, .lst true 0 []]) = m1 at *
  rintro st ⟨s0, s2, sm⟩
  (repeat refine AWp.seq ?_); refine AWp.region noP (by kernel_rfl) ?_
  simp [s0]
  refine aop_wcall _ _ _ _ _ _ _ _ rfl (eval_func _ _) ?_
  simp [sm]
  refine c_impl_Lex s hz (hE2 _ _ hm) ?_
  rw [← hTd]
  try simp
  refine AWp.gen (fun st => st.slots 2 = .ptr g2 0 ∧ st.slots 4 = .lst false 3 (T.map Tk.av) ∧ st.slots 5 = .bool (lex s).isSome ∧ st.mem = m1) ⟨by first | (simp; done) | (simp [s2]; done), by simp, by simp, by first | (simp; done) | (simp [sm]; done)⟩ ?_
  clear s0 s2 sm
  rintro st ⟨s2, s4, s5, sm⟩
  (repeat refine AWp.seq ?_); refine AWp.region noP (by kernel_rfl) ?_
  simp [s4, s5, sm]
  intro g6 hg6
  have n26 : g2 ≠ g6 := by rintro rfl; rw [w2] at hg6; cases hg6
  have hE6 := ext_set hg6 (.box (pc T 0 0 (!(lex s).isSome)))
  have w2 := hE6 _ _ w2
  have hE := hE2.trans hE6
  have hm6 : m g6 = none := by
    cases hq : m g6 with
    | none => rfl
    | some b => rw [hE2 _ _ hq] at hg6; cases hg6
  have hP : PS g6 T 0 0 (!(lex s).isSome) (m1.set g6 (.box (pc T 0 0 (!(lex s).isSome)))) := ⟨set_same _ _ _, by simp, h6⟩
  refine AWp.gen (fun st => st.slots 2 = .ptr g2 0 ∧ st.slots 4 = .lst false 3 (T.map Tk.av) ∧ st.slots 6 = .ptr g6 0 ∧ st.mem = m1.set g6 (.box (pc T 0 0 (!(lex s).isSome)))) ⟨by simp [s2], by simp [s4], by simp, by simp [pc]⟩ ?_
  generalize m1.set g6 (.box (pc T 0 0 (!(lex s).isSome))) = m2 at *
  clear s2 s4 s5 sm hg6 hE2 hE6
  rintro st ⟨s2, s4, s6, sm⟩
  (repeat refine AWp.seq ?_); refine AWp.region noP (by kernel_rfl) ?_
  simp [s6]
  refine aop_wcall _ _ _ _ _ _ _ _ rfl (eval_func _ _) ?_
  simp [sm, s6]
  refine c_sum 30 (by omega) g6 T 0 0 _ m2 hP hT (fun _ => by simp) _ fun m3 F r e a' d' bad' hPn hOn hTn run _ => ?_
  obtain ⟨c0, c1, c2, c3, rfl, q0, q1, q2, q3⟩ := hTn.cs
  have h := (PH.start hP).tree hP.at hOn hPn hTn
  have nF2 : ¬ F g2 := hTn.not (by rw [w2]; simp)
  have w2 := hOn _ _ n26 w2
  have hle := hPn.le
  rw [hTd] at run
  obtain ⟨o1, o2⟩ := parse_out run (by rw [← hTd]; exact hle)
  rw [← hTd] at o2
  simp [q0, q1, q2, q3]
  intro g7 hg7
  have w2 := ext_set hg7 (.box [c0, c1, c2, c3]) _ _ w2
  have h := h.box hP.at hg7 [c0, c1, c2, c3]
  refine AWp.gen (fun st => st.slots 2 = .ptr g2 0 ∧ st.slots 4 = .lst false 3 (T.map Tk.av) ∧ st.slots 6 = .ptr g6 0 ∧ st.slots 7 = .ptr g7 0 ∧ st.mem = m3.set g7 (.box [c0, c1, c2, c3])) ⟨by simp [s2], by simp [s4], by simp [s6], by simp, by simp⟩ ?_
  generalize m3.set g7 (.box [c0, c1, c2, c3]) = m4 at *
  clear s2 s4 s6 sm hg7 hPn hOn hTn run
  rintro st ⟨s2, s4, s6, s7, sm⟩
  have w7 := h.box1 (g := g7) (cs := [c0, c1, c2, c3]) (by simp)
  have hbx := h.ps.box
  unfold pc at hbx
  have toE : ∀ m', Off g6 m m' → Ext m m' := fun m' hO g b hg => hO g b (by rintro rfl; rw [hm6] at hg; cases hg) hg
  have hm2 : m g2 = none := hg2
  have hO4 : Off g6 m m4 := (Off.ext hE).trans h.off
  have hO5 : ∀ b, Off g6 m (m4.set g2 b) := fun b g x hk hx => by
    have hne : g ≠ g2 := by rintro rfl; rw [hm2] at hx; cases hx
    rw [Mem.set_other hne]
    exact hO4 g x hk hx
  have zero : Tr m (m4.set g2 (.box [.int .i64 0, .int .i64 0, .str ⟨#[]⟩, .lst true 0 []])) (fun _ => False) (.agg [.int .i64 0, .int .i64 0, .str ⟨#[]⟩, .lst true 0 []]) (Ex.mk 0 0 ⟨#[]⟩ []) := ⟨own_leaf _ _ _ _, fun _ h => h.elim⟩
  have bad : ∀ st' : St, parseE s = none → st'.slots 2 = .ptr g2 0 → st'.slots 3 = .bool false → st'.mem = m4.set g2 (.box [.int .i64 0, .int .i64 0, .str ByteArray.empty, .lst true 0 []]) → Post Tryd.prog Tryd.f5 K .ret st' := fun st' hn t2 t3 tm => by
    have hK := hK _ _ _ (toE _ (hO5 _)) (by rw [hn]; exact zero)
    rw [hn] at hK
    exact ⟨[.agg [.int .i64 0, .int .i64 0, .str ⟨#[]⟩, .lst true 0 []], .bool false], _, _, by simp [Tryd.f5, resA, t2, t3, tm, eE], by rw [tm, eE]; exact View.refl _ _, hK⟩
  by_cases hb : bad' = true
  · subst hb
    (repeat refine AWp.seq ?_); refine AWp.region noP (by kernel_rfl) ?_
    simp [s6, sm, hbx]
    (repeat refine AWp.seq ?_); refine AWp.condT (by simp) ?_
    (repeat refine AWp.seq ?_); refine AWp.region noP (by kernel_rfl) ?_
    simp [s2, w2, sm]
    refine AWp.ret (bad _ (o1 rfl) ?_ ?_ ?_) <;> simp [s2, sm]
  have hb : bad' = false := by simpa using hb
  subst hb
  obtain ⟨ht, o3, o4⟩ := o2 rfl
  by_cases hlt : a' < T.length
  · have hne : (a' : Int) < T.length := by omega
    (repeat refine AWp.seq ?_); refine AWp.region noP (by kernel_rfl) ?_
    simp [s4, s6, sm, hbx, hne]
    (repeat refine AWp.seq ?_); refine AWp.condT (by simp) ?_
    (repeat refine AWp.seq ?_); refine AWp.region noP (by kernel_rfl) ?_
    simp [s2, w2, sm]
    refine AWp.ret (bad _ (o3 hlt) ?_ ?_ ?_) <;> simp [s2, sm]
  have hae : a' = T.length := by omega
  have o4 := o4 hae
  subst hae
  (repeat refine AWp.seq ?_); refine AWp.region noP (by kernel_rfl) ?_
  simp [s4, s6, s7, sm, hbx, w7]
  obtain ⟨_, hL⟩ : ∃ F : Nat → Prop, Lent m4 F [.agg [c0, c1, c2, c3]] [e.av] := (Lent.nil m4).own (h.tr (F, .agg [c0, c1, c2, c3], e) (by simp)).1.own
  refine aop_wcall _ _ _ _ _ _ _ _ rfl (eval_func _ _) ?_
  simp [sm]
  refine PCall.lend (c_impl_ExpOk e ht) hL rfl ?_
  clear hL
  cases hok : e.ok with
  | false =>
    rw [hok] at o4
    try simp
    (repeat refine AWp.seq ?_); refine AWp.condT (by simp) ?_
    (repeat refine AWp.seq ?_); refine AWp.region noP (by kernel_rfl) ?_
    simp [s2, w2, sm]
    refine AWp.ret (bad _ (by simpa using o4) ?_ ?_ ?_) <;> simp [s2, sm]
  | true =>
    rw [hok] at o4
    simp at o4
    try simp
    (repeat refine AWp.seq ?_); refine AWp.condF (by simp) ?_
    refine AWp.skip ?_
    try simp
    (repeat refine AWp.seq ?_); refine AWp.region noP (by kernel_rfl) ?_
    simp [s2, s7, sm, w2, w7, q0, q1, q2, q3]
    have q := (h.less (bs' := []) (List.nil_sublist _) (List.Sublist.refl _)).fin (m0 := m) (g2 := g2) (cs0 := [.int .i64 0, .int .i64 0, .str ByteArray.empty, .lst true 0 []]) (cs := [c0, c1, c2, c3]) (.inr ⟨w2, n26, hm2, nF2⟩) hE (fun hh => (by cases hh)) hP.at
    have hK := hK _ F (.agg [c0, c1, c2, c3]) (toE _ (hO5 _)) (by rw [o4]; exact q.2.2)
    rw [o4] at hK
    exact AWp.ret ⟨[.agg [c0, c1, c2, c3], .bool true], _, _, by simp [Tryd.f5, resA, s2], by (try simp); exact View.refl _ _, hK⟩
end Go.T
namespace Go.T
open Go Go.Proofs
set_option maxRecDepth 10000
set_option maxHeartbeats 1000000
set_option linter.unusedSimpArgs false
set_option linter.unusedVariables false
section
variable {H : Type} {enc : TypeId × Value → H} {W : World}
end
end Go.T
namespace Go.T
open Go Go.Proofs
set_option maxRecDepth 10000
set_option maxHeartbeats 1000000
set_option linter.unusedSimpArgs false
set_option linter.unusedVariables false
theorem byte_add (x : Int) (h0 : 0 ≤ x) (h1 : x ≤ 9) : IntKind.wrap .u8 (48 + x) = 48 + x := by
  unfold IntKind.wrap
  simp [IntKind.bits, IntKind.signed]
  omega
theorem bytesOf_one (n : Int) : (bytesOf [n]).size = 1 := rfl
theorem c_markText (k : Int) (h0 : 0 < k) (h1 : k ≤ 4611686018427387904) : PCall Tryd.prog 28 [.int .i64 k] (.str (markT k)) := by
  obtain ⟨n, rfl⟩ := Int.eq_ofNat_of_zero_le (show 0 ≤ k by omega)
  refine pcall_of Tryd.func28 (by kernel_rfl) rfl (by simp [Tryd.f28]) ?_
  (repeat refine AWp.seq ?_); refine AWp.region noP (by kernel_rfl) ?_
  try simp
  (repeat refine AWp.seq ?_); refine AWp.region noP (by kernel_rfl) ?_
  try simp
  (repeat refine AWp.seq ?_); refine AWp.condF (by simp; omega) ?_
  refine AWp.skip ?_
  try simp
  (repeat refine AWp.seq ?_); refine AWp.region noP (by kernel_rfl) ?_
  try simp
  (repeat refine AWp.seq ?_); refine AWp.block (AWp.rounds (fun m st => ∃ (q : Nat) (out : ByteArray), m = q ∧ q + out.size ≤ n ∧ markU n ⟨#[]⟩ = markU q out ∧ st.slots 0 = .int .i64 q ∧ st.slots 3 = .str out) n ⟨n, ⟨#[]⟩, rfl, Nat.le_refl _, rfl, by simp, by simp⟩ ?_)
  rintro R m st hR ⟨q, out, rfl, hq, he, s0, s3⟩
  (repeat refine AWp.seq ?_); refine AWp.region noP (by kernel_rfl) ?_
  simp [s0]
  by_cases hz : m = 0
  · subst hz
    (repeat refine AWp.seq ?_); refine AWp.condF (by simp) ?_
    refine AWp.exit ?_
    try simp
    have hu : markU 0 out = out := by rw [markU, dif_pos rfl]
    rw [hu] at he
    have e2 : markT (n : Int) = ⟨#[109]⟩ ++ out := by unfold markT; rw [Int.toNat_natCast, he]
    (repeat refine AWp.seq ?_); refine AWp.region noP (by kernel_rfl) ?_
    have hadd : strA .add ⟨#[109]⟩ out = some (.str (⟨#[109]⟩ ++ out)) := if_pos (show (⟨#[109]⟩ : ByteArray).size + out.size ≤ 9223372036854775807 by have : (⟨#[109]⟩ : ByteArray).size = 1 := rfl; omega)
    simp [s3, hadd]
    exact AWp.ret (post_ret1 rfl (by simp [e2]))
  · have hm : (m : Int).tmod 10 = (m : Int) % 10 := Int.tmod_eq_emod_of_nonneg (by omega)
    have hd : (m : Int).tdiv 10 = (m : Int) / 10 := Int.tdiv_eq_ediv_of_nonneg (by omega)
    have w1 : IntKind.wrap .i64 (48 + (m : Int) % 10) = 48 + (m : Int) % 10 := wrap64 (by omega) (by omega)
    have w2 := byte_add ((m : Int) % 10) (by omega) (by omega)
    have w3 : IntKind.wrap .i64 ((m : Int) / 10) = (m : Int) / 10 := wrap64 (by omega) (by omega)
    have hs : (bytesOf [48 + (m : Int) % 10]).size + out.size ≤ 9223372036854775807 := by rw [bytesOf_one]; omega
    have e3 : markU m out = markU (m / 10) (bytesOf [48 + (m : Int) % 10] ++ out) := by rw [markU, dif_neg hz]; congr 3
    have hsz : (bytesOf [48 + (m : Int) % 10] ++ out).size = 1 + out.size := by rw [ByteArray.size_append, bytesOf_one]
    rw [e3] at he
    have hadd : strA .add (bytesOf [48 + (m : Int) % 10]) out = some (.str (bytesOf [48 + (m : Int) % 10] ++ out)) := if_pos hs
    generalize hnx : bytesOf [48 + (m : Int) % 10] ++ out = nx at *
    (repeat refine AWp.seq ?_); refine AWp.condT (by simp; omega) ?_
    refine AWp.skip ?_
    try simp
    (repeat refine AWp.seq ?_); refine AWp.block ?_
    (repeat refine AWp.seq ?_); refine AWp.region noP (by kernel_rfl) ?_
    simp [s0, s3, hm, w1, w2, numsA, hadd]
    (repeat refine AWp.seq ?_); refine AWp.region noP (by kernel_rfl) ?_
    simp [s0, hd, w3]
    exact hR _ (m / 10) (by omega) ⟨m / 10, nx, rfl, by omega, he, by simp, by simp⟩
end Go.T
namespace Go.T
open Go Go.Proofs
set_option maxRecDepth 10000
set_option maxHeartbeats 1000000
set_option linter.unusedSimpArgs false
set_option linter.unusedVariables false
def Ex.parts : Ex → List Ex
  | .mk _ _ _ l => l
/-- What marking rows of these comes to. -/
def MkExp (l : List Ex) : Prop := ∀ (m : Mem) (F : Nat → Prop) (v : AV) (f : Bool) (h : OwnT m F v (.lst f 4 (l.map Ex.av))) (k : Int) (h0 : 0 < k) (hb : k + (AV.cnts (l.map Ex.av) : Int) ≤ 4611686018427387904) (K : AV → Mem → Prop)
    (hK : ∀ m' (l' : List Ex), (∀ b, ¬ F b → m' b = m b) → OwnT m' F v (.lst false 4 (l'.map Ex.av)) → Held (l'.map Ex.av) k (k + (AV.cnts (l.map Ex.av) : Int)) → K (.int .i64 (k + (AV.cnts (l.map Ex.av) : Int))) m'), WCall Tryd.prog 16 [v, .int .i64 k] m K
theorem c_markExpS0 (l : List Ex) (hr : ∀ x ∈ l, MkExp x.parts) : MkExp l := by
  intro m F v f h k h0 hb K hK
  refine wcall_of Tryd.func16 (by kernel_rfl) rfl (by simp [Tryd.f16]) ?_
  rcases own_row h with ⟨f', e', rfl, hnil⟩ | ⟨g, n, c, rfl, hn, rfl⟩
  · have hl : l = [] := by simpa using hnil
    subst hl
    (repeat refine AWp.seq ?_); refine AWp.region noP (by kernel_rfl) ?_
    try simp
    (repeat refine AWp.seq ?_); refine AWp.region noP (by kernel_rfl) ?_
    try simp
    (repeat refine AWp.seq ?_); refine AWp.block (AWp.rounds (fun q st => q = 0 ∧ st.slots 0 = .lst f' e' [] ∧ st.slots 1 = .int .i64 k ∧ st.slots 5 = .int .i64 0 ∧ st.mem = m) 0 ⟨rfl, by simp, by simp, by simp, by simp⟩ ?_)
    rintro R q st hR ⟨rfl, s0, s1, s5, sm⟩
    (repeat refine AWp.seq ?_); refine AWp.region noP (by kernel_rfl) ?_
    simp [s0, s5]
    (repeat refine AWp.seq ?_); refine AWp.condF (by simp) ?_
    refine AWp.exit ?_
    try simp
    (repeat refine AWp.seq ?_); refine AWp.region noP (by kernel_rfl) ?_
    simp [s1]
    refine AWp.ret (post_retW rfl ⟨_, _, View.refl _ _, ?_⟩)
    have := hK m [] (fun _ _ => rfl) (.nil _ _ _) (by simpa [AV.cnts] using Held.nil k)
    simpa [AV.cnts, sm] using this
  obtain ⟨T, G, ys, hM, hy, hx⟩ := Marking.start h
  have hlen : l.length = n := by simpa using hx
  have hcl := cnts_len (f := Ex.av) (fun x => by cases x; simp [Ex.av, Ex.cells_mk, AV.cnt, AV.cnts]; try omega) l
  (repeat refine AWp.seq ?_); refine AWp.region noP (by kernel_rfl) ?_
  try simp
  (repeat refine AWp.seq ?_); refine AWp.region noP (by kernel_rfl) ?_
  try simp
  (repeat refine AWp.seq ?_); refine AWp.block (AWp.rounds (fun q st => ∃ (i : Nat) (ys : List AV) (ki : Int) (done : List Ex), q = n - i ∧ i ≤ n ∧ done.length = i ∧ ys.length = n ∧ st.slots 0 = .own g n c ∧ st.slots 1 = .int .i64 ki ∧ st.slots 5 = .int .i64 i ∧ Held (done.map Ex.av) k ki ∧ k ≤ ki ∧ ki + (AV.cnts ((l.drop i).map Ex.av) : Int) = k + (AV.cnts (l.map Ex.av) : Int) ∧ Marking st.mem m F g T 4 c G ys ((done ++ l.drop i).map Ex.av)) n ⟨0, ys, k, [], by simp, by simp, rfl, hy, by simp, by simp, by simp, .nil k, by omega, by simp, by simpa using hM⟩ ?_)
  clear hM hy ys
  rintro R q st hR ⟨i, ys, ki, done, rfl, hi, hdl, hy, s0, s1, s5, hH, hki, hcnt, hM⟩
  (repeat refine AWp.seq ?_); refine AWp.region noP (by kernel_rfl) ?_
  simp [s0, s5]
  (repeat refine AWp.seq ?_); refine AWp.cond (b := decide (i < n)) (by simp) (fun hlt => ?_) (fun hlt => ?_)
  rotate_left
  · simp at hlt
    have hin : i = n := by omega
    subst hin
    refine AWp.exit ?_
    try simp
    (repeat refine AWp.seq ?_); refine AWp.region noP (by kernel_rfl) ?_
    simp [s1]
    rw [List.drop_eq_nil_of_le (by omega)] at hcnt hM
    rw [List.append_nil] at hM
    have hke : ki = k + (AV.cnts (l.map Ex.av) : Int) := by simpa [AV.cnts] using hcnt
    subst hke
    refine AWp.ret (post_retW rfl ⟨_, _, View.refl _ _, ?_⟩)
    simp
    exact hK _ done hM.out (hM.done hy) hH
  simp at hlt
  have hil : i < l.length := by omega
  have hdr : l.drop i = l[i] :: l.drop (i + 1) := List.drop_eq_getElem_cons hil
  have hmem := List.getElem_mem hil
  have hwi : IntKind.wrap .i64 ((i : Int) + 1) = (i + 1 : Nat) := wrap64 (by omega) (by omega)
  rw [hdr] at hcnt hM
  rcases hx0 : l[i] with ⟨b0, b1, b2, b3⟩
  rw [hx0] at hcnt hM hmem
  have hat := at_done Ex.av done (Ex.mk b0 b1 b2 b3) (l.drop (i + 1)) hdl
  obtain ⟨B, cs0, hok, hal, I, hback⟩ := hM.into (i := i) (by omega) (cs := [.int .i64 b0, .int .i64 b1, .str b2, .lst false 4 (b3.map Ex.av)]) (by rw [hat]; simp [Ex.av, Ex.cells_mk])
  obtain ⟨a0, a1, a2, a3, rfl⟩ : ∃ a0 a1 a2 a3, cs0 = [a0, a1, a2, a3] := by
    match cs0, hal with
    | [a0, a1, a2, a3], _ => exact ⟨_, _, _, _, rfl⟩
  simp only [List.map_cons, AV.cnts, Ex.av, Ex.cells_mk, AV.cnt, List.cons_append, List.nil_append] at hcnt
  simp only [List.all_cons, List.all_nil, Bool.and_eq_true, Bool.and_true] at hok
  refine AWp.skip ?_
  try simp
  (repeat refine AWp.seq ?_); refine AWp.block ?_
  have hg := I.row
  have hx : idxA Tryd.prog st.mem 22 (.own g n c) (.int .i64 i) = some (.elt g 4 i 0) := idx_own es_22 hg (by simp [hy]) hlt
  have I2 := I.leaf 0 (x := .int .i64 (ki)) (own_int _ _)
  have hst := I.store (by omega) rfl 0 (by omega) (by omega) (x := .int .i64 (ki)) rfl
  simp only [List.set_cons_zero, List.set_cons_succ] at I2 hst
  (repeat refine AWp.seq ?_); refine AWp.cutA (fun u => u.slots 0 = .own g n c ∧ u.slots 1 = .int .i64 (ki) ∧ u.slots 5 = .int .i64 i ∧ InRow u.mem st.mem g T 4 c i ys B [.int .i64 (ki), a1, a2, a3] [.int .i64 (ki), .int .i64 b1, .str b2, .lst false 4 (b3.map Ex.av)]) ?_ ?_
  · refine AWp.region noP (by kernel_rfl) ?_
    simp [s0, s1, s5, hx, hst]
    exact I2
  clear hg hx hst I2 I
  rintro u0 ⟨s0, s1, s5, I⟩
  have hw : IntKind.wrap .i64 (ki + 1) = ki + 1 := wrap64 (by omega) (by omega)
  (repeat refine AWp.seq ?_); refine AWp.region noP (by kernel_rfl) ?_
  simp [s1, hw]
  clear hw
  have hg := I.row
  have hx : idxA Tryd.prog u0.mem 22 (.own g n c) (.int .i64 i) = some (.elt g 4 i 0) := idx_own es_22 hg (by simp [hy]) hlt
  have I2 := I.leaf 1 (x := .int .i64 (ki + 1)) (own_int _ _)
  have hst := I.store (by omega) rfl 1 (by omega) (by omega) (x := .int .i64 (ki + 1)) rfl
  simp only [List.set_cons_zero, List.set_cons_succ] at I2 hst
  (repeat refine AWp.seq ?_); refine AWp.cutA (fun u => u.slots 0 = .own g n c ∧ u.slots 1 = .int .i64 (ki + 1) ∧ u.slots 5 = .int .i64 i ∧ InRow u.mem st.mem g T 4 c i ys B [.int .i64 (ki), .int .i64 (ki + 1), a2, a3] [.int .i64 (ki), .int .i64 (ki + 1), .str b2, .lst false 4 (b3.map Ex.av)]) ?_ ?_
  · refine AWp.region noP (by kernel_rfl) ?_
    simp [s0, s1, s5, hx, hst]
    exact I2
  clear hg hx hst I2 I
  rintro u1 ⟨s0, s1, s5, I⟩
  have hw : IntKind.wrap .i64 (ki + 1 + 1) = ki + 1 + 1 := wrap64 (by omega) (by omega)
  (repeat refine AWp.seq ?_); refine AWp.region noP (by kernel_rfl) ?_
  simp [s1, hw]
  clear hw
  have hg := I.row
  have hx : idxA Tryd.prog u1.mem 22 (.own g n c) (.int .i64 i) = some (.elt g 4 i 0) := idx_own es_22 hg (by simp [hy]) hlt
  have I2 := I.leaf 2 (x := .str (markT (ki + 1 + 1))) (own_str _)
  have hst := I.store (by omega) rfl 2 (by omega) (by omega) (x := .str (markT (ki + 1 + 1))) rfl
  simp only [List.set_cons_zero, List.set_cons_succ] at I2 hst
  (repeat refine AWp.seq ?_); refine AWp.cutA (fun u => u.slots 0 = .own g n c ∧ u.slots 1 = .int .i64 (ki + 1 + 1) ∧ u.slots 5 = .int .i64 i ∧ InRow u.mem st.mem g T 4 c i ys B [.int .i64 (ki), .int .i64 (ki + 1), .str (markT (ki + 1 + 1)), a3] [.int .i64 (ki), .int .i64 (ki + 1), .str (markT (ki + 1 + 1)), .lst false 4 (b3.map Ex.av)]) ?_ ?_
  · refine AWp.region noP (by kernel_rfl) ?_
    simp [s0, s1, s5, hx, hst]
    refine aop_call' (c_markText (ki + 1 + 1) (by omega) (by omega)) ?_
    simp [s0, s1, s5, hx, hst]
    exact I2
  clear hg hx hst I2 I
  rintro u2 ⟨s0, s1, s5, I⟩
  have hw : IntKind.wrap .i64 (ki + 1 + 1 + 1) = ki + 1 + 1 + 1 := wrap64 (by omega) (by omega)
  (repeat refine AWp.seq ?_); refine AWp.region noP (by kernel_rfl) ?_
  simp [s1, hw]
  clear hw
  have hg := I.row
  have hx : idxA Tryd.prog u2.mem 22 (.own g n c) (.int .i64 i) = some (.elt g 4 i 0) := idx_own es_22 hg (by simp [hy]) hlt
  obtain ⟨A, x, hxo, hown, hupd⟩ := I.call (o := 3) (by simp)
  obtain rfl : .lst false 4 (b3.map Ex.av) = x := Option.some.inj hxo
  simp only [List.getElem_cons_succ, List.getElem_cons_zero] at hown hupd
  (repeat refine AWp.seq ?_); refine AWp.region noP (by kernel_rfl) ?_
  simp [s0, s1, s5, hx, hg, hy, hlt]
  refine aop_wcall _ _ _ _ _ _ _ _ rfl (eval_func _ _) ?_
  refine (show MkExp b3 from hr _ hmem) _ _ _ _ hown (ki + 1 + 1 + 1) (by omega) (by omega) _ fun m' l3 hout ho hh3 => ?_
  simp [s0, s1, s5]
  have I2 := hupd m' _ hout ho
  simp only [List.set_cons_zero, List.set_cons_succ] at I2
  clear hg hx I hupd hown hxo
  have I := I2
  have hnew : Ex.av (Ex.mk (ki) (ki + 1) (markT (ki + 1 + 1)) l3) = .agg [.int .i64 (ki), .int .i64 (ki + 1), .str (markT (ki + 1 + 1)), .lst false 4 (l3.map Ex.av)] := by simp [Ex.av, Ex.cells_mk]
  have hM2 := hback m' [.int .i64 (ki), .int .i64 (ki + 1), .str (markT (ki + 1 + 1)), a3] [.int .i64 (ki), .int .i64 (ki + 1), .str (markT (ki + 1 + 1)), .lst false 4 (l3.map Ex.av)] I (by simp [hok])
  rw [← hnew, set_done Ex.av done _ _ _ hdl] at hM2
  (repeat refine AWp.seq ?_); refine AWp.region noP (by kernel_rfl) ?_
  simp [s0, s1, s5, hwi]
  refine hR _ (n - (i + 1)) (by omega) ⟨i + 1, _, ki + 1 + 1 + 1 + (AV.cnts (b3.map Ex.av) : Int), done ++ [(Ex.mk (ki) (ki + 1) (markT (ki + 1 + 1)) l3)], rfl, by omega, by simp [hdl], ?_, by simp [s0, s1, s5], by simp [s0, s1, s5], by simp, ?_, by omega, by omega, by simpa using hM2⟩
  · simp [hy]
  · rw [List.map_append, List.map_cons, hnew]
    exact hH.append (.agg (.int (.int (.str (.lst hh3 (.nil _))))) (.nil _))
theorem mk_exp (e : Ex) : MkExp e.parts := by
  induction e using Ex.ind with | h k n s l h => exact c_markExpS0 l h
theorem c_markExpS (l : List Ex) : MkExp l := mk_exp (Ex.mk 0 0 ⟨#[]⟩ l)
end Go.T
namespace Go.T
open Go Go.Proofs
set_option maxRecDepth 10000
set_option maxHeartbeats 1000000
set_option linter.unusedSimpArgs false
set_option linter.unusedVariables false
def Sm.parts : Sm → List Sm
  | .mk _ _ _ _ _ _ l => l
end Go.T
namespace Go.T
open Go Go.Proofs
set_option maxRecDepth 10000
set_option maxHeartbeats 1000000
set_option linter.unusedSimpArgs false
set_option linter.unusedVariables false
end Go.T
namespace Go.T
open Go Go.Proofs
set_option maxRecDepth 10000
set_option maxHeartbeats 1000000
set_option linter.unusedSimpArgs false
set_option linter.unusedVariables false
theorem Ex.av_mk (k n : Int) (s : ByteArray) (l : List Ex) : (Ex.mk k n s l).av = .agg [.int .i64 k, .int .i64 n, .str s, .lst false 4 (l.map Ex.av)] := by show AV.agg (Ex.mk k n s l).cells = _; rw [Ex.cells_mk]
end Go.T
namespace Go.T
open Go Go.Proofs
set_option maxRecDepth 10000
set_option maxHeartbeats 1000000
set_option linter.unusedSimpArgs false
set_option linter.unusedVariables false
theorem mk_Exp (e : Ex) : MarkC Tryd.prog 7 Ex.av (fun x k k' => Held (x.l.map Ex.av) k k') e (AV.cnts (e.l.map Ex.av)) := by
  intro m F v h k h0 hb K hK
  unfold BIG at hb
  obtain ⟨G, hG, hGF, hGd⟩ := h.dom
  rcases e with ⟨ek, en, es, el⟩
  simp only [Ex.l] at hb hK
  rw [Ex.av_mk] at hG
  obtain ⟨cs, rfl, hT, hok⟩ := own_agg hG
  obtain ⟨a0, a1, a2, a3, rfl⟩ : ∃ a0 a1 a2 a3, cs = [a0, a1, a2, a3] := by
    match cs, hT.len with
    | [a0, a1, a2, a3], _ => exact ⟨_, _, _, _, rfl⟩
  have hok2 := hok
  simp only [List.all_cons, List.all_nil, Bool.and_eq_true, Bool.and_true] at hok2
  refine wcall_of Tryd.func7 (by kernel_rfl) rfl (by simp [Tryd.f7]) ?_
  (repeat refine AWp.seq ?_); refine AWp.region noP (by kernel_rfl) ?_
  simp
  intro g1 h1
  have f1 : ¬ G g1 := fun hg => hGd g1 hg h1
  have b1 := set_same m g1 (.box [a0, a1, a2, a3])
  have o1 : ∀ b x, m b = some x → (m.set g1 (.box [a0, a1, a2, a3])) b = some x := fun b x hx => ext_set h1 _ b x hx
  replace hT := hT.mem (m' := m.set g1 (.box [a0, a1, a2, a3])) fun b hb => by rw [set_at, if_neg]; rintro rfl; exact f1 hb
  generalize m.set g1 (.box [a0, a1, a2, a3]) = m0 at *
  obtain ⟨A, x, hxo, hown, hsub, hupd⟩ := hT.call (o := 3) (by simp)
  obtain rfl := (Option.some.inj hxo)
  simp only [List.getElem_cons_succ, List.getElem_cons_zero] at hown hupd
  (repeat refine AWp.seq ?_); refine AWp.region noP (by kernel_rfl) ?_
  simp [b1]
  refine aop_wcall _ _ _ _ _ _ _ _ rfl (eval_func _ _) ?_
  refine (c_markExpS el) _ _ _ _ hown k (by omega) (by omega) _ fun m1 l' hout ho hh => ?_
  simp
  have hT := hupd m1 _ hout ho
  simp only [List.set_cons_zero, List.set_cons_succ] at hT
  (repeat refine AWp.seq ?_); refine AWp.region noP (by kernel_rfl) ?_
  simp
  refine AWp.ret (post_retW rfl ⟨_, _, View.refl _ _, ?_⟩)
  simp
  refine hK _ (Ex.mk ek en es l') (fun b x hF hx => ?_) (by rw [Ex.av_mk]; exact (OwnT.agg hT hok).up hGF) hh
  rw [hout b (fun hg => hF (hGF b (hsub b hg)))]
  exact o1 b x hx
end Go.T
namespace Go.T
open Go Go.Proofs
set_option maxRecDepth 10000
set_option maxHeartbeats 1000000
set_option linter.unusedSimpArgs false
set_option linter.unusedVariables false
open Go
def HdE (l : List Ex) : Prop := ∀ k k' : Int, 0 < k → k' ≤ 4611686018427387904 → Held (l.map Ex.av) k k' → PCall Tryd.prog 17 [.lst false 4 (l.map Ex.av), .int .i64 k] (.int .i64 k')
theorem c_heldExpS0 (l : List Ex) (hr : ∀ x ∈ l, HdE x.l) (k k' : Int) (h0 : 0 < k) (hb : k' ≤ 4611686018427387904) (h : Held (l.map Ex.av) k k') : PCall Tryd.prog 17 [.lst false 4 (l.map Ex.av), .int .i64 k] (.int .i64 k') := by
  refine pcall_of Tryd.func17 (by kernel_rfl) rfl (by simp [Tryd.f17]) ?_
  have hcl := cnts_len (f := Ex.av) (fun x => by cases x; simp [Ex.av, Ex.cells_mk, AV.cnt, AV.cnts]; try omega) l
  have hct := h.count
  (repeat refine AWp.seq ?_); refine AWp.region noP (by kernel_rfl) ?_
  try simp
  (repeat refine AWp.seq ?_); refine AWp.region noP (by kernel_rfl) ?_
  try simp
  (repeat refine AWp.seq ?_); refine AWp.block (AWp.rounds (fun q st => ∃ (i : Nat) (ki : Int), q = l.length - i ∧ i ≤ l.length ∧ k ≤ ki ∧ Held ((l.drop i).map Ex.av) ki k' ∧ st.slots 0 = .lst false 4 (l.map Ex.av) ∧ st.slots 1 = .int .i64 ki ∧ st.slots 5 = .int .i64 i) l.length ⟨0, k, by simp, by simp, by omega, by simpa using h, by simp, by simp, by simp⟩ ?_)
  rintro R q st hR ⟨i, ki, rfl, hi, hki, hH, s0, s1, s5⟩
  (repeat refine AWp.seq ?_); refine AWp.region noP (by kernel_rfl) ?_
  simp [s0, s5]
  (repeat refine AWp.seq ?_); refine AWp.cond (b := decide (i < l.length)) (by simp) (fun hlt => ?_) (fun hlt => ?_)
  rotate_left
  · simp at hlt
    rw [List.drop_eq_nil_of_le hlt] at hH
    have hke := Held.nil_inv hH
    subst hke
    refine AWp.exit ?_
    try simp
    (repeat refine AWp.seq ?_); refine AWp.region noP (by kernel_rfl) ?_
    simp [s1]
    exact AWp.ret (post_ret1 rfl (by simp))
  simp at hlt
  have hdr : l.drop i = l[i] :: l.drop (i + 1) := List.drop_eq_getElem_cons hlt
  have hmem := List.getElem_mem hlt
  have hwi : IntKind.wrap .i64 ((i : Int) + 1) = (i + 1 : Nat) := wrap64 (by omega) (by omega)
  rw [hdr, List.map_cons] at hH
  have hq : (l.map Ex.av)[i]? = some (Ex.av l[i]) := by simp [hlt]
  rcases hx0 : l[i] with ⟨b0, b1, b2, b3⟩
  rw [hx0] at hH hmem hq
  have hav : Ex.av (Ex.mk b0 b1 b2 b3) = .agg [.int .i64 b0, .int .i64 b1, .str b2, .lst false 4 (b3.map Ex.av)] := by simp [Ex.av, Ex.cells_mk]
  rw [hav] at hH hq
  have hx : idxA Tryd.prog st.mem 22 (.lst false 4 (l.map Ex.av)) (.int .i64 i) = some (.ref [.int .i64 b0, .int .i64 b1, .str b2, .lst false 4 (b3.map Ex.av)]) := idx (y := .agg [.int .i64 b0, .int .i64 b1, .str b2, .lst false 4 (b3.map Ex.av)]) es_22 hq
  obtain ⟨kz, hH1, hH2⟩ := hH.agg_inv
  have hlz := hH2.le
  refine AWp.skip ?_
  try simp
  (repeat refine AWp.seq ?_); refine AWp.block ?_
  obtain ⟨e0, hH1⟩ := hH1.int_inv
  have hle0 := hH1.le
  (repeat refine AWp.seq ?_); refine AWp.region noP (by kernel_rfl) ?_
  simp [s0, s1, s5, hx, e0]
  (repeat refine AWp.seq ?_); refine AWp.condF (by simp) ?_
  refine AWp.skip ?_
  try simp
  have hw0 : IntKind.wrap .i64 (ki + 1) = ki + 1 := wrap64 (by omega) (by omega)
  (repeat refine AWp.seq ?_); refine AWp.region noP (by kernel_rfl) ?_
  simp [s0, s1, s5, hx, hw0]
  obtain ⟨e1, hH1⟩ := hH1.int_inv
  have hle1 := hH1.le
  (repeat refine AWp.seq ?_); refine AWp.region noP (by kernel_rfl) ?_
  simp [s0, s1, s5, hx, hw0, e1]
  (repeat refine AWp.seq ?_); refine AWp.condF (by simp) ?_
  refine AWp.skip ?_
  try simp
  have hw1 : IntKind.wrap .i64 (ki + 1 + 1) = ki + 1 + 1 := wrap64 (by omega) (by omega)
  (repeat refine AWp.seq ?_); refine AWp.region noP (by kernel_rfl) ?_
  simp [s0, s1, s5, hx, hw0, hw1]
  obtain ⟨e2, hH1⟩ := hH1.str_inv
  have hle2 := hH1.le
  (repeat refine AWp.seq ?_); refine AWp.regionG (fun _ => true) (fun _ => false) [0, 1, 2, 3, 4, 5, 6, 7] [0, 1, 2, 3, 4, 5, 6, 7] (by kernel_rfl) ?_
  simp [s0, s1, s5, hx, hw0, hw1, e2]
  refine aop_call' (c_markText (ki + 1 + 1) (by omega) (by omega)) ?_
  simp [s0, s1, s5, hx, hw0, hw1, e2]
  (repeat refine AWp.seq ?_); refine AWp.condF (by simp) ?_
  refine AWp.skip ?_
  try simp
  have hw2 : IntKind.wrap .i64 (ki + 1 + 1 + 1) = ki + 1 + 1 + 1 := wrap64 (by omega) (by omega)
  (repeat refine AWp.seq ?_); refine AWp.region noP (by kernel_rfl) ?_
  simp [s0, s1, s5, hx, hw0, hw1, hw2]
  obtain ⟨k3, hr3, hH1⟩ := hH1.lst_inv
  have hle3 := hH1.le
  have hlr3 := hr3.le
  (repeat refine AWp.seq ?_); refine AWp.region allP (by kernel_rfl) ?_
  simp [s0, s1, s5, hx, hw0, hw1, hw2]
  refine aop_call' ((show HdE b3 from hr _ hmem) (ki + 1 + 1 + 1) k3 (by omega) (by omega) hr3) ?_
  simp [s0, s1, s5, hx, hw0, hw1, hw2]
  (repeat refine AWp.seq ?_); refine AWp.region noP (by kernel_rfl) ?_
  simp [s0, s1, s5, hx, hw0, hw1, hw2]
  (repeat refine AWp.seq ?_); refine AWp.condF (by simp; omega) ?_
  refine AWp.skip ?_
  try simp
  have hz := Held.nil_inv hH1
  subst hz
  (repeat refine AWp.seq ?_); refine AWp.region noP (by kernel_rfl) ?_
  simp [s0, s1, s5, hx, hw0, hw1, hw2, hwi]
  exact hR _ (l.length - (i + 1)) (by omega) ⟨i + 1, kz, rfl, hlt, by omega, hH2, by simp [s0], by simp [s0, s1, s5, hx, hw0, hw1, hw2], by simp⟩
theorem hd_exp (e : Ex) : HdE e.l := by
  induction e using Ex.ind with | h k n s l h => exact fun k k' h0 hb hH => c_heldExpS0 l h k k' h0 hb hH
theorem c_heldExpS (l : List Ex) : HdE l := hd_exp (Ex.mk 0 0 ⟨#[]⟩ l)
theorem hd_Exp : HeldC Tryd.prog 8 Ex.av (fun x k k' => Held (x.l.map Ex.av) k k') := fun x k k' h0 hb hH => by
  unfold BIG at hb
  rcases x with ⟨ek, en, es, el⟩
  simp only [Ex.l] at hH
  have hk := hH.le
  refine pcall_of Tryd.func8 (by kernel_rfl) rfl (by simp [Tryd.f8]) ?_
  (repeat refine AWp.seq ?_); refine AWp.region noP (by kernel_rfl) ?_
  simp [Ex.av, Ex.cells_mk]
  intro g2
  (repeat refine AWp.seq ?_); refine AWp.region noP (by kernel_rfl) ?_
  simp [Ex.cells_mk]
  refine aop_call' (c_heldExpS el k k' h0 hb hH) ?_
  simp
  (repeat refine AWp.seq ?_); refine AWp.region noP (by kernel_rfl) ?_
  simp
  (repeat refine AWp.seq ?_); refine AWp.condF (by simp; omega) ?_
  refine AWp.skip ?_
  try simp
  (repeat refine AWp.seq ?_); refine AWp.region noP (by kernel_rfl) ?_
  simp
  exact AWp.ret (post_ret1 rfl (by simp))
end Go.T
namespace Go.T
open Go Go.Proofs
set_option maxRecDepth 10000
set_option maxHeartbeats 1000000
set_option linter.unusedSimpArgs false
set_option linter.unusedVariables false
end Go.T
namespace Go.T
open Go Go.Proofs
set_option maxRecDepth 10000
set_option maxHeartbeats 1000000
set_option linter.unusedSimpArgs false
set_option linter.unusedVariables false
end Go.T
namespace Go.T
open Go Go.Proofs
set_option maxRecDepth 10000
set_option maxHeartbeats 1000000
set_option linter.unusedSimpArgs false
set_option linter.unusedVariables false
end Go.T
namespace Go.T
open Go Go.Proofs
set_option maxRecDepth 10000
set_option maxHeartbeats 1000000
set_option linter.unusedSimpArgs false
set_option linter.unusedVariables false
theorem cnts_tot {α : Type} {f : α → AV} {t : α → Nat} {C : Nat} (l : List α) (h : ∀ x ∈ l, (f x).cnt ≤ C + C * t x) : AV.cnts (l.map f) ≤ C * totL t l := by
  induction l with
  | nil => simp [AV.cnts]
  | cons x l ih =>
    have h1 := h x (List.mem_cons_self ..)
    have h2 := ih fun y hy => h y (List.mem_cons_of_mem _ hy)
    simp only [List.map_cons, AV.cnts, totL, Nat.mul_add, Nat.mul_one]
    omega
theorem Ex.mcnt_le (e : Ex) : e.av.cnt ≤ 3 + 3 * e.tot := by
  induction e using Ex.ind with | h k n s l h =>
  have := cnts_tot l h
  rw [Ex.tot_mk, Ex.av_mk]
  simp only [AV.cnt, AV.cnts]
  omega
theorem Sm.mcnt_le (e : Sm) : e.av.cnt ≤ 14 + 14 * e.tot := by
  induction e using Sm.ind with | h k s a e lo hi b h =>
  have hb := cnts_tot b h
  have ha := a.mcnt_le
  have he := e.mcnt_le
  have hl := lo.mcnt_le
  have hh := hi.mcnt_le
  have ca : AV.cnts a.cells = a.av.cnt := rfl
  have ce : AV.cnts e.cells = e.av.cnt := rfl
  have cl : AV.cnts lo.cells = lo.av.cnt := rfl
  have ch : AV.cnts hi.cells = hi.av.cnt := rfl
  rw [Sm.tot_mk]
  have hcs : (Sm.mk k s a e lo hi b).av.cnt = AV.cnts (Sm.mk k s a e lo hi b).cells := rfl
  rw [hcs, Sm.cells_mk]
  simp only [AV.cnts, AV.cnt, cnts_append]
  omega
theorem Pg.cnts_le (p : Pg) (ht : p.tot ≤ 1048576) : AV.cnts (p.arrs.map Ar.av) ≤ 2097152 ∧ AV.cnts (p.body.map Sm.av) ≤ 14680064 := by
  have h3 : p.tot = totL Ar.tot p.arrs + totL Sm.tot p.body := rfl
  have h1 := cnts_tot (C := 2) (f := Ar.av) (t := Ar.tot) p.arrs (fun x _ => by obtain ⟨s, n⟩ := x; simp [Ar.av, Ar.cells, AV.cnt, AV.cnts]; try omega)
  have h2 := cnts_tot (C := 14) (f := Sm.av) (t := Sm.tot) p.body (fun x _ => x.mcnt_le)
  omega
end Go.T
namespace Go.T
open Go Go.Proofs
set_option maxRecDepth 10000
set_option maxHeartbeats 1000000
set_option linter.unusedSimpArgs false
set_option linter.unusedVariables false
open Go
theorem own_ext {m m' : Mem} (hE : Ext m m') {F : Nat → Prop} {r x : AV} (h : OwnT m F r x) : OwnT m' F r x := by
  obtain ⟨G, hG, hGF, hGd⟩ := h.dom
  refine (hG.mem fun b hb => ?_).up hGF
  cases hq : m b with
  | none => exact absurd hq (hGd b hb)
  | some y => exact hE _ _ hq
theorem parse_tot (s : ByteArray) : ((parseE s).getD (Ex.mk 0 0 ⟨#[]⟩ [])).tot ≤ 1048576 := by
  cases hp : parseE s with
  | none => simp [Ex.tot]; try decide
  | some e =>
    unfold parseE at hp
    cases hl : lex s with
    | none => rw [hl] at hp; cases hp
    | some T =>
      rw [hl] at hp
      obtain ⟨hT, h6⟩ := lex_fine hl
      simp only at hp
      cases hs : sumP 30 T with
      | none => rw [hs] at hp; cases hp
      | some p =>
        obtain ⟨x0, r⟩ := p
        have hw := (sum_fit 30 _ _ _ hs).2.2
        have hw2 := W_le T hT
        rw [hs] at hp
        cases r with
        | cons t l => cases hp
        | nil =>
          simp only at hp
          split at hp
          · cases hp
            simp only [Option.getD_some]
            omega
          · cases hp
theorem c_FnExactParseExp (s : ByteArray) (hz : s.size ≤ 9223372036854775807) (Tb : TypeId) : WCall Tryd.prog 3 [.str s] (tabMem TB Tb) fun r m' => r = .bool true ∧ m' TB = some (tabBlk Tb) := by
  have hm : tabMem TB Tb TB = some (tabBlk Tb) := by simp [tabMem]
  generalize tabMem TB Tb = m at *
  have c1 := c_spec_ParseExp s hz
  have hx := parse_tot s
  unfold outE at c1
  obtain ⟨x, hxd⟩ : ∃ x, x = (parseE s).getD (Ex.mk 0 0 ⟨#[]⟩ []) := ⟨_, rfl⟩
  obtain ⟨ok, hok⟩ : ∃ b, b = (parseE s).isSome := ⟨_, rfl⟩
  rw [← hxd] at hx c1
  rw [← hok] at c1
  have tk : ∀ e : Ex, List.take 4 e.cells = e.cells := fun e => List.take_of_length_le (by simp)
  have cn : AV.cnts (x.l.map Ex.av) ≤ 3 * x.tot := by
    have k0 := cnts_tot (f := Ex.av) (t := Ex.tot) (C := 3) x.l fun x _ => x.mcnt_le
    have j0 := x.tot_l
    omega
  refine wcall_of Tryd.func3 (by kernel_rfl) rfl (by simp [Tryd.f3]) ?_
  (repeat refine AWp.seq ?_); refine AWp.region noP (by kernel_rfl) ?_
  simp
  (repeat refine AWp.seq ?_); refine AWp.region noP (by kernel_rfl) ?_
  simp
  by_cases hbig : (1048576 : Int) < s.size
  · (repeat refine AWp.seq ?_); refine AWp.condT (by simp; omega) ?_
    (repeat refine AWp.seq ?_); refine AWp.region noP (by kernel_rfl) ?_
    simp
    exact AWp.ret (post_retW rfl ⟨_, _, View.refl _ _, by simp, by simpa using hm⟩)
  (repeat refine AWp.seq ?_); refine AWp.condF (by simp; omega) ?_
  refine AWp.skip ?_
  try simp
  (repeat refine AWp.seq ?_); refine AWp.region noP (by kernel_rfl) ?_
  simp
  refine aop_call' c1 ?_
  simp [Ex.av]
  intro g3 hg3
  try refine ⟨okE _, ?_⟩
  have hE3 := ext_set hg3 (.box x.cells)
  have w3 := set_same m g3 (.box x.cells)
  have hm := hE3 _ _ hm
  refine AWp.gen (fun st => st.slots 0 = .str s ∧ st.slots 3 = .ptr g3 0 ∧ st.slots 4 = .bool ok ∧ st.mem = m.set g3 (.box x.cells)) ⟨by simp, by simp, by simp, by simp⟩ ?_
  generalize m.set g3 (.box x.cells) = m3 at *
  clear hE3 hg3
  rintro st ⟨s0, s3, s4, sm⟩
  (repeat refine AWp.seq ?_); refine AWp.region noP (by kernel_rfl) ?_
  simp [s0]
  refine aop_wcall _ _ _ _ _ _ _ _ rfl (eval_func _ _) ?_
  simp [sm]
  refine c_impl_ParseExp s hz hm fun m4 F r hE4 hTr => ?_
  rw [← hok]
  rw [← hxd] at hTr
  obtain ⟨c0, c1', c2, c3, rfl, q0, q1, q2, q3⟩ := hTr.cs
  have nF3 : ¬ F g3 := hTr.not (by rw [w3]; simp)
  have w3 := hE4 _ _ w3
  have hm4 := hE4 _ _ hm
  have nFT : ¬ F TB := hTr.not (by rw [hm]; simp)
  simp [q0, q1, q2, q3]
  intro g5 hg5
  have hE5 := ext_set hg5 (.box [c0, c1', c2, c3])
  have w5 := set_same m4 g5 (.box [c0, c1', c2, c3])
  have w3 := hE5 _ _ w3
  have hm5 := hE5 _ _ hm4
  have nF5 : ¬ F g5 := hTr.fresh hg5
  have hown := (hTr.set nF5 (.box [c0, c1', c2, c3])).own
  refine AWp.gen (fun st => st.slots 0 = .str s ∧ st.slots 3 = .ptr g3 0 ∧ st.slots 4 = .bool ok ∧ st.slots 5 = .ptr g5 0 ∧ st.slots 6 = .bool ok ∧ st.mem = m4.set g5 (.box [c0, c1', c2, c3])) ⟨by simp [s0], by simp [s3], by simp [s4], by simp, by simp, by simp⟩ ?_
  generalize m4.set g5 (.box [c0, c1', c2, c3]) = m5 at *
  clear s0 s3 s4 sm hg5 hE5 hE4 hTr hm hm4
  rintro st ⟨s0, s3, s4, s5, s6, sm⟩
  (repeat refine AWp.seq ?_); refine AWp.region noP (by kernel_rfl) ?_
  simp [s3, s5, sm, w3, w5, tk]
  obtain ⟨_, hL⟩ : ∃ F : Nat → Prop, Lent m5 F [.agg [c0, c1', c2, c3], x.av] [x.av, x.av] := ((Lent.nil m5).same x.av).own hown
  refine aop_wcall _ _ _ _ _ _ _ _ rfl (eval_func _ _) ?_
  try simp [sm]
  refine PCall.lend (c_eqExp x hx) hL rfl ?_
  clear hL
  try simp [s4, s6]
  (repeat refine AWp.seq ?_); refine AWp.condF (by simp) ?_
  refine AWp.skip ?_
  try simp

  (repeat refine AWp.seq ?_); refine AWp.region noP (by kernel_rfl) ?_
  simp
  (repeat refine AWp.seq ?_); refine AWp.region noP (by kernel_rfl) ?_
  simp [s5, sm, w5]
  refine aop_wcall _ _ _ _ _ _ _ _ rfl (eval_func _ _) ?_
  try simp [sm]
  refine mk_Exp x m5 F _ hown 1 (by omega) (by unfold BIG; omega) _ fun m6 x2 hkeep hown hheld => ?_
  have w3 := hkeep _ _ nF3 w3
  have w5 := hkeep _ _ nF5 w5
  have hm6 := hkeep _ _ nFT hm5
  try simp
  refine AWp.gen (fun st => st.slots 0 = .str s ∧ st.slots 3 = .ptr g3 0 ∧ st.slots 4 = .bool ok ∧ st.slots 5 = .ptr g5 0 ∧ st.slots 7 = .int .i64 (1 + (AV.cnts (x.l.map Ex.av) : Int)) ∧ st.mem = m6) ⟨by first | (simp; done) | (simp [s0]; done), by first | (simp; done) | (simp [s3]; done), by first | (simp; done) | (simp [s4]; done), by first | (simp; done) | (simp [s5]; done), by simp, by first | (simp; done) | (simp [sm]; done)⟩ ?_
  clear s6 hkeep hm5 s0 s3 s4 s5 sm
  rintro st ⟨s0, s3, s4, s5, s7, sm⟩
  (repeat refine AWp.seq ?_); refine AWp.region noP (by kernel_rfl) ?_
  simp
  (repeat refine AWp.seq ?_); refine AWp.region noP (by kernel_rfl) ?_
  simp [s5, s7, sm, w5]
  obtain ⟨_, hL⟩ : ∃ F : Nat → Prop, Lent m6 F [.agg [c0, c1', c2, c3], .int .i64 1] [x2.av, .int .i64 1] := ((Lent.nil m6).same _).own hown
  refine aop_wcall _ _ _ _ _ _ _ _ rfl (eval_func _ _) ?_
  try simp [sm]
  refine PCall.lend (hd_Exp x2 1 _ (by omega) (by unfold BIG; omega) hheld) hL rfl ?_
  clear hL
  try simp
  (repeat refine AWp.seq ?_); refine AWp.region noP (by kernel_rfl) ?_
  simp
  (repeat refine AWp.seq ?_); refine AWp.condF (by simp; omega) ?_
  refine AWp.skip ?_
  try simp
  (repeat refine AWp.seq ?_); refine AWp.region noP (by kernel_rfl) ?_
  simp [s7]
  (repeat refine AWp.seq ?_); refine AWp.condF (by simp) ?_
  refine AWp.skip ?_
  try simp
  refine AWp.gen (fun st => st.slots 0 = .str s ∧ st.slots 3 = .ptr g3 0 ∧ st.slots 4 = .bool ok ∧ st.slots 5 = .ptr g5 0 ∧ st.slots 7 = .int .i64 (1 + (AV.cnts (x.l.map Ex.av) : Int)) ∧ st.mem = m6) ⟨by first | (simp; done) | (simp [s0]; done), by first | (simp; done) | (simp [s3]; done), by first | (simp; done) | (simp [s4]; done), by first | (simp; done) | (simp [s5]; done), by first | (simp; done) | (simp [s7]; done), by first | (simp; done) | (simp [sm]; done)⟩ ?_
  clear s0 s3 s4 s5 s7 sm
  rintro st ⟨s0, s3, s4, s5, s7, sm⟩
  (repeat refine AWp.seq ?_); refine AWp.region noP (by kernel_rfl) ?_
  simp [s0]
  refine aop_wcall _ _ _ _ _ _ _ _ rfl (eval_func _ _) ?_
  simp [sm]
  refine c_impl_ParseExp s hz hm6 fun m7 F2 r2 hE7 hTr => ?_
  rw [← hok]
  rw [← hxd] at hTr
  obtain ⟨d0, d1, d2, d3, rfl, p0, p1, p2, p3⟩ := hTr.cs
  have hown := own_ext hE7 hown
  have w3 := hE7 _ _ w3
  have w5 := hE7 _ _ w5
  have hm7 := hE7 _ _ hm6
  simp [p0, p1, p2, p3]
  intro g9 hg9
  have hE9 := ext_set hg9 (.box [d0, d1, d2, d3])
  have w9 := set_same m7 g9 (.box [d0, d1, d2, d3])
  have hown := own_ext hE9 hown
  have hown2 := (hTr.set (hTr.fresh hg9) (.box [d0, d1, d2, d3])).own
  have w3 := hE9 _ _ w3
  have w5 := hE9 _ _ w5
  have hm8 := hE9 _ _ hm7
  refine AWp.gen (fun st => st.slots 3 = .ptr g3 0 ∧ st.slots 4 = .bool ok ∧ st.slots 5 = .ptr g5 0 ∧ st.slots 7 = .int .i64 (1 + (AV.cnts (x.l.map Ex.av) : Int)) ∧ st.slots 9 = .ptr g9 0 ∧ st.slots 10 = .bool ok ∧ st.mem = m7.set g9 (.box [d0, d1, d2, d3])) ⟨by simp [s3], by simp [s4], by simp [s5], by simp [s7], by simp, by simp, by simp⟩ ?_
  generalize m7.set g9 (.box [d0, d1, d2, d3]) = m8 at *
  clear s0 s3 s4 s5 s7 sm hg9 hE9 hE7 hTr hm6 hm7
  rintro st ⟨s3, s4, s5, s7, s9, s10, sm⟩
  (repeat refine AWp.seq ?_); refine AWp.region noP (by kernel_rfl) ?_
  simp [s3, s9, sm, w3, w9, tk]
  obtain ⟨_, hL⟩ : ∃ F : Nat → Prop, Lent m8 F [.agg [d0, d1, d2, d3], x.av] [x.av, x.av] := ((Lent.nil m8).same x.av).own hown2
  refine aop_wcall _ _ _ _ _ _ _ _ rfl (eval_func _ _) ?_
  try simp [sm]
  refine PCall.lend (c_eqExp x hx) hL rfl ?_
  clear hL
  try simp [s4, s10]
  (repeat refine AWp.seq ?_); refine AWp.condF (by simp) ?_
  refine AWp.skip ?_
  try simp

  (repeat refine AWp.seq ?_); refine AWp.region noP (by kernel_rfl) ?_
  simp
  (repeat refine AWp.seq ?_); refine AWp.region noP (by kernel_rfl) ?_
  simp [s5, s7, sm, w5]
  obtain ⟨_, hL⟩ : ∃ F : Nat → Prop, Lent m8 F [.agg [c0, c1', c2, c3], .int .i64 1] [x2.av, .int .i64 1] := ((Lent.nil m8).same _).own hown
  refine aop_wcall _ _ _ _ _ _ _ _ rfl (eval_func _ _) ?_
  try simp [sm]
  refine PCall.lend (hd_Exp x2 1 _ (by omega) (by unfold BIG; omega) hheld) hL rfl ?_
  clear hL
  try simp
  (repeat refine AWp.seq ?_); refine AWp.region noP (by kernel_rfl) ?_
  simp
  (repeat refine AWp.seq ?_); refine AWp.condF (by simp; omega) ?_
  refine AWp.skip ?_
  try simp
  (repeat refine AWp.seq ?_); refine AWp.region noP (by kernel_rfl) ?_
  simp [s7]
  (repeat refine AWp.seq ?_); refine AWp.condF (by simp) ?_
  refine AWp.skip ?_
  try simp

  (repeat refine AWp.seq ?_); refine AWp.region noP (by kernel_rfl) ?_
  simp
  exact AWp.ret (post_retW rfl ⟨_, _, View.refl _ _, by simp, by simpa [sm] using hm8⟩)
end Go.T
