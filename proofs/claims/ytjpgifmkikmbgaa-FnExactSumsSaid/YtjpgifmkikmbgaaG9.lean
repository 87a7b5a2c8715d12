/- How often a name is set and asked: what the reference computes. Kinds of words in loops, and sums: what the reference computes. The sums of a loop: what the program and the reference compute. Programs and machines marked; what holds a machine's marks. New machines: what the program and the reference compute. Great machines compared; how many marks programs and machines take. The law's function of Sums. -/
import Derived.Test.YtjpgifmkikmbgaaG6
import Derived.Test.YtjpgifmkikmbgaaG4
import Derived.Test.YtjpgifmkikmbgaaG3
import Derived.Test.YtjpgifmkikmbgaaG8
namespace Go.T
open Go Go.Proofs
set_option maxRecDepth 10000
set_option linter.unusedSimpArgs false
set_option linter.unusedVariables false
theorem c_l12Asks (e : Ex) (q : ByteArray) : e.tot ≤ 1048576 → PCall Try.prog 90 [e.av, .str q] (.int .i64 (e.asks q)) := by
  induction e using Ex.ind' with | h e ih =>
  intro ht
  have htl := e.tot_l
  have hlen := e.len_l
  have hle := e.asks_le q
  refine pcall_of Try.func90 (by kernel_rfl) rfl (by simp [Try.f90]) ?_
  unfold Ex.av
  (repeat refine AWp.seq ?_); refine AWp.region noP (by kernel_rfl) ?_
  try simp
  intro g
  (repeat refine AWp.seq ?_); refine AWp.region noP (by kernel_rfl) ?_
  try simp
  have hgg : (Mem.set (fun _ => none) g (.box e.cells)) g = some (.box e.cells) := set_same _ _ _
  generalize (Mem.set (fun _ => none) g (.box e.cells)) = m1 at *
  (repeat refine AWp.seq ?_); refine AWp.cutA (fun st => st.slots 1 = .str q ∧ st.slots 2 = .ptr g 0 ∧ st.slots 5 = .int .i64 0 ∧ st.slots 15 = .bool (decide (e.k = 2 ∧ e.s = q)) ∧ st.mem g = some (.box e.cells)) ?_ ?_
  · refine AWp.region noP (by kernel_rfl) ?_
    by_cases hk : e.k = 2 <;> simp [hgg, hk]
  rintro st ⟨s1, s2, s5, s15, sg⟩
  (repeat refine AWp.seq ?_); refine AWp.cutA (fun st => st.slots 1 = .str q ∧ st.slots 2 = .ptr g 0 ∧ st.slots 5 = .int .i64 ((if e.k = 2 ∧ e.s = q then 1 else 0 : Nat) : Int) ∧ st.mem g = some (.box e.cells)) ?_ ?_
  · refine AWp.cond (b := decide (e.k = 2 ∧ e.s = q)) (by simp [s15]) (fun hb => ?_) (fun hb => ?_)
    · simp only [decide_eq_true_eq] at hb
      (repeat refine AWp.seq ?_); refine AWp.region noP (by kernel_rfl) ?_
      simp [s1, s2, sg, hb]
    · simp only [decide_eq_false_iff_not] at hb
      refine AWp.skip ?_
      simp [s1, s2, s5, sg, hb]
  clear s1 s2 s5 s15 sg hgg m1 st
  rintro st ⟨s1, s2, s5, hgg⟩
  (repeat refine AWp.seq ?_); refine AWp.region noP (by kernel_rfl) ?_
  try simp
  (repeat refine AWp.seq ?_); refine AWp.cutA (fun st => st.slots 5 = .int .i64 (e.asks q)) ?_ ?_
  · refine AWp.block (AWp.rounds (fun n st => ∃ (i : Nat) (v : Nat), n = e.l.length - i ∧ i ≤ e.l.length ∧ st.slots 1 = .str q ∧ st.slots 2 = .ptr g 0 ∧ st.slots 6 = .int .i64 i ∧ st.slots 5 = .int .i64 v ∧ st.mem g = some (.box e.cells) ∧ v + Ex.askss q (e.l.drop i) = e.asks q) (e.l.length) ⟨0, (if e.k = 2 ∧ e.s = q then 1 else 0 : Nat), by simp, by simp, by first | (simp; done) | (simp [*]; done), by first | (simp; done) | (simp [*]; done), by first | (simp; done) | (simp [*]; done), by first | (simp; done) | (simp [*]; done), by first | (simp; done) | (simp [*]; done), by rw [List.drop_zero, Ex.asks_eq]⟩ ?_)
    rintro R n st hR ⟨i, v, rfl, hi, s1, s2, s6, s5, sg, hv⟩
    (repeat refine AWp.seq ?_); refine AWp.region noP (by kernel_rfl) ?_
    simp [s2, s6, sg]
    (repeat refine AWp.seq ?_); refine AWp.cond (b := decide (i < e.l.length)) (by simp) (fun hb => ?_) (fun hb => ?_)
    · simp at hb
      have hg : e.l[i]? = some e.l[i] := List.getElem?_eq_getElem hb
      have hdr : e.l.drop i = e.l[i] :: e.l.drop (i + 1) := List.drop_eq_getElem_cons hb
      have htm := totL_mem Ex.tot (List.getElem_mem hb)
      rw [hdr, Ex.askss] at hv
      have hx : ∀ m, idxA Try.prog m 59 (.lst false 4 (e.l.map Ex.av)) (.int .i64 i) = some (.ref e.l[i].cells) := fun m => idx (y := e.l[i].av) es_59 (by simp [hg])
      have hw : IntKind.wrap .i64 ((i : Int) + 1) = (i + 1 : Nat) := wrap64 (by omega) (by omega)
      have hw2 : IntKind.wrap .i64 ((v : Int) + (e.l[i].asks q : Int)) = ((v + e.l[i].asks q : Nat) : Int) := wrap64 (by omega) (by omega)
      have cI := ih e.l[i] (List.getElem_mem _) (by omega)
      unfold Ex.av at cI
      refine AWp.skip ?_
      try simp
      (repeat refine AWp.seq ?_); refine AWp.block ?_; (repeat refine AWp.seq ?_); refine AWp.region allP (by kernel_rfl) ?_
      simp [s1, s2, s5, s6, sg, hx]
      refine aop_call' cI ?_
      simp [hw2]
      (repeat refine AWp.seq ?_); refine AWp.region noP (by kernel_rfl) ?_
      simp [s6, hw]
      refine hR _ (e.l.length - (i + 1)) (by omega) ⟨i + 1, v + e.l[i].asks q, rfl, by omega, by first | (simp [s1]; done) | (simp [*]; done), by first | (simp [s2]; done) | (simp [*]; done), by first | (simp [s6]; done) | (simp [*]; done), by first | (simp [s5]; done) | (simp [*]; done), by first | (simp [sg]; done) | (simp [*]; done), by omega⟩
    · simp at hb
      refine AWp.exit ?_
      have : i = e.l.length := by omega
      subst this
      simp [Ex.askss] at hv
      simp [s5, hv]
  clear s1 s2 s5 hgg st
  intro st s5
  (repeat refine AWp.seq ?_); refine AWp.region noP (by kernel_rfl) ?_
  simp [s5]
  exact AWp.ret (post_ret1 rfl (by simp))
theorem c_sCounts0 (l : List Sm) (q : ByteArray) (ht : totL Sm.tot l ≤ 1048576) (h : ∀ x ∈ l, PCall Try.prog 111 [x.av, .str q] (.tup [.int .i64 (x.sets q), .int .i64 (x.asks q)])) :
    PCall Try.prog 87 [.lst false 19 (l.map Sm.av), .str q] (.tup [.int .i64 (Sm.setss q l), .int .i64 (Sm.askss q l)]) := by
  have hlen := totL_len Sm.tot l
  have h1 := Sm.setss_le q l
  have h2 := Sm.askss_le q l
  rw [Sm.tots_eq] at h1 h2
  refine pcall_of Try.func87 (by kernel_rfl) rfl (by simp [Try.f87]) ?_
  (repeat refine AWp.seq ?_); refine AWp.region noP (by kernel_rfl) ?_
  try simp
  (repeat refine AWp.seq ?_); refine AWp.region noP (by kernel_rfl) ?_
  try simp
  (repeat refine AWp.seq ?_); refine AWp.region noP (by kernel_rfl) ?_
  try simp
  (repeat refine AWp.seq ?_); refine AWp.region noP (by kernel_rfl) ?_
  try simp
  (repeat refine AWp.seq ?_); refine AWp.cutA (fun st => st.slots 6 = .int .i64 (Sm.setss q l) ∧ st.slots 7 = .int .i64 (Sm.askss q l)) ?_ ?_
  · refine AWp.block (AWp.rounds (fun n st => ∃ (i : Nat) (u v : Nat), n = l.length - i ∧ i ≤ l.length ∧ st.slots 0 = .lst false 19 (l.map Sm.av) ∧ st.slots 1 = .str q ∧ st.slots 8 = .int .i64 i ∧ st.slots 6 = .int .i64 (u : Nat) ∧ st.slots 7 = .int .i64 (v : Nat) ∧ u + Sm.setss q (l.drop i) = Sm.setss q l ∧ v + Sm.askss q (l.drop i) = Sm.askss q l) (l.length) ⟨0, 0, 0, by simp, by simp, by first | (simp; done) | (simp [*]; done), by first | (simp; done) | (simp [*]; done), by first | (simp; done) | (simp [*]; done), by first | (simp; done) | (simp [*]; done), by first | (simp; done) | (simp [*]; done), by first | (simp; done) | (simp [*]; done), by first | (simp; done) | (simp [*]; done)⟩ ?_)
    rintro R n st hR ⟨i, u, v, rfl, hi, s0, s1, s8, s6, s7, hu, hv⟩
    (repeat refine AWp.seq ?_); refine AWp.region noP (by kernel_rfl) ?_
    simp [s0, s8]
    (repeat refine AWp.seq ?_); refine AWp.cond (b := decide (i < l.length)) (by simp) (fun hb => ?_) (fun hb => ?_)
    · simp at hb
      have hg : l[i]? = some l[i] := List.getElem?_eq_getElem hb
      have hdr : l.drop i = l[i] :: l.drop (i + 1) := List.drop_eq_getElem_cons hb
      have htm := totL_mem Sm.tot (List.getElem_mem hb)
      have hx : ∀ m, idxA Try.prog m 62 (.lst false 19 (l.map Sm.av)) (.int .i64 i) = some (.ref l[i].cells) := fun m => idx (y := l[i].av) es_62 (by simp [hg])
      have hw : IntKind.wrap .i64 ((i : Int) + 1) = (i + 1 : Nat) := wrap64 (by omega) (by omega)
      rw [hdr, Sm.setss] at hu
      rw [hdr, Sm.askss] at hv
      have hw2 : IntKind.wrap .i64 ((u : Int) + (l[i].sets q : Int)) = ((u + l[i].sets q : Nat) : Int) := wrap64 (by omega) (by omega)
      have hw3 : IntKind.wrap .i64 ((v : Int) + (l[i].asks q : Int)) = ((v + l[i].asks q : Nat) : Int) := wrap64 (by omega) (by omega)
      have cI := h l[i] (List.getElem_mem _)
      unfold Sm.av at cI
      refine AWp.skip ?_
      try simp
      (repeat refine AWp.seq ?_); refine AWp.block ?_; (repeat refine AWp.seq ?_); refine AWp.region allP (by kernel_rfl) ?_
      simp [s0, s1, s8, hx]
      refine aop_call' cI ?_
      simp
      (repeat refine AWp.seq ?_); refine AWp.region noP (by kernel_rfl) ?_
      simp [s6, hw2]
      (repeat refine AWp.seq ?_); refine AWp.region noP (by kernel_rfl) ?_
      simp [s7, hw3]
      (repeat refine AWp.seq ?_); refine AWp.region noP (by kernel_rfl) ?_
      simp [s8, hw]
      refine hR _ (l.length - (i + 1)) (by omega) ⟨i + 1, u + l[i].sets q, v + l[i].asks q, rfl, by omega, by first | (simp [s0]; done) | (simp [*]; done), by first | (simp [s1]; done) | (simp [*]; done), by first | (simp [s8]; done) | (simp [*]; done), by first | (simp [s6]; done) | (simp [*]; done), by first | (simp [s7]; done) | (simp [*]; done), by omega, by omega⟩
    · simp at hb
      refine AWp.exit ?_
      have : i = l.length := by omega
      subst this
      simp [Sm.setss] at hu
      simp [Sm.askss] at hv
      simp [s6, s7, hu, hv]
  rintro st ⟨s6, s7⟩
  (repeat refine AWp.seq ?_); refine AWp.region noP (by kernel_rfl) ?_
  simp [s6, s7]
  exact AWp.ret (post_ret2 rfl (by simp) (by simp))
theorem c_l12Stmt0 (x : Sm) (q : ByteArray) (ht : x.tot ≤ 1048576) (h : PCall Try.prog 87 [.lst false 19 (x.body.map Sm.av), .str q] (.tup [.int .i64 (Sm.setss q x.body), .int .i64 (Sm.askss q x.body)])) : PCall Try.prog 111 [x.av, .str q] (.tup [.int .i64 (x.sets q), .int .i64 (x.asks q)]) := by
  have hp := x.tot_parts
  have c1 := c_l12Asks x.a q (by omega)
  have c2 := c_l12Asks x.e q (by omega)
  have c3 := c_l12Asks x.lo q (by omega)
  have c4 := c_l12Asks x.hi q (by omega)
  have h1 := x.sets_le q
  have h2 := x.asks_le q
  have e1 := x.sets_eq q
  have e2 := x.asks_eq q
  unfold Ex.av at c1 c2 c3 c4
  refine pcall_of Try.func111 (by kernel_rfl) rfl (by simp [Try.f111]) ?_
  unfold Sm.av
  (repeat refine AWp.seq ?_); refine AWp.region noP (by kernel_rfl) ?_
  try simp
  intro g
  (repeat refine AWp.seq ?_); refine AWp.region allP (by kernel_rfl) ?_
  try simp
  refine aop_call' h ?_
  simp
  have hgg : (Mem.set (fun _ => none) g (.box x.cells)) g = some (.box x.cells) := set_same _ _ _
  generalize (Mem.set (fun _ => none) g (.box x.cells)) = m1 at *
  (repeat refine AWp.seq ?_); refine AWp.cutA (fun st => st.slots 1 = .str q ∧ st.slots 2 = .ptr g 0 ∧ st.slots 6 = .int .i64 (Sm.setss q x.body) ∧ st.slots 7 = .int .i64 (Sm.askss q x.body) ∧ st.slots 23 = .bool (decide (x.k = 1 ∧ x.s = q)) ∧ st.mem g = some (.box x.cells)) ?_ ?_
  · refine AWp.region noP (by kernel_rfl) ?_
    by_cases hk : x.k = 1 <;> simp [hgg, hk]
  rintro st ⟨s1, s2, s6, s7, s23, sg⟩
  (repeat refine AWp.seq ?_); refine AWp.cutA (fun st => st.slots 1 = .str q ∧ st.slots 2 = .ptr g 0 ∧ st.slots 6 = .int .i64 (x.sets q) ∧ st.slots 7 = .int .i64 (Sm.askss q x.body) ∧ st.mem g = some (.box x.cells)) ?_ ?_
  · refine AWp.cond (b := decide (x.k = 1 ∧ x.s = q)) (by simp [s23]) (fun hb => ?_) (fun hb => ?_)
    · simp only [decide_eq_true_eq] at hb
      rw [if_pos hb] at e1
      have hw : IntKind.wrap .i64 ((Sm.setss q x.body : Int) + 1) = (x.sets q : Int) := by rw [wrap64 (by omega) (by omega)]; omega
      (repeat refine AWp.seq ?_); refine AWp.region noP (by kernel_rfl) ?_
      simp [s1, s2, s6, s7, sg, hw]
    · simp only [decide_eq_false_iff_not] at hb
      rw [if_neg hb] at e1
      refine AWp.skip ?_
      have : x.sets q = Sm.setss q x.body := by omega
      simp [s1, s2, s6, s7, sg, this]
  clear s1 s2 s6 s7 s23 sg hgg m1 st
  rintro st ⟨s1, s2, s6, s7, sg⟩
  (repeat refine AWp.seq ?_); refine AWp.regionG (fun _ => true) (fun _ => false) [0, 1, 2, 3, 4, 5, 6, 7, 8, 9, 10, 11, 12, 13, 14, 15, 16, 17, 18, 19, 20, 21, 22, 23] [0, 2, 3, 4, 5, 7, 8, 9, 10, 12, 13, 14, 15, 17, 18, 19, 20, 22, 1, 6, 11, 16, 21, 23] (by kernel_rfl) ?_
  simp [s1, s2, s6, s7, sg]
  refine aop_call' c1 ?_
  have w1 : IntKind.wrap .i64 ((Sm.askss q x.body : Int) + (x.a.asks q : Int)) = ((Sm.askss q x.body + x.a.asks q : Nat) : Int) := wrap64 (by omega) (by omega)
  simp [s1, s2, s6, s7, sg, w1]
  refine aop_call' c2 ?_
  have w2 : IntKind.wrap .i64 (((Sm.askss q x.body : Int) + (x.a.asks q : Int)) + (x.e.asks q : Int)) = ((Sm.askss q x.body + x.a.asks q + x.e.asks q : Nat) : Int) := wrap64 (by omega) (by omega)
  simp [s1, s2, s6, s7, sg, w2]
  refine aop_call' c3 ?_
  have w3 : IntKind.wrap .i64 ((((Sm.askss q x.body : Int) + (x.a.asks q : Int)) + (x.e.asks q : Int)) + (x.lo.asks q : Int)) = ((Sm.askss q x.body + x.a.asks q + x.e.asks q + x.lo.asks q : Nat) : Int) := wrap64 (by omega) (by omega)
  simp [s1, s2, s6, s7, sg, w3]
  refine aop_call' c4 ?_
  have w4 : IntKind.wrap .i64 (((((Sm.askss q x.body : Int) + (x.a.asks q : Int)) + (x.e.asks q : Int)) + (x.lo.asks q : Int)) + (x.hi.asks q : Int)) = (x.asks q : Int) := by rw [wrap64 (by omega) (by omega)]; omega
  simp [s1, s2, s6, s7, sg, w4]
  exact AWp.ret (post_ret2 rfl (by simp) (by simp))
theorem c_l12Stmt (x : Sm) (q : ByteArray) : x.tot ≤ 1048576 → PCall Try.prog 111 [x.av, .str q] (.tup [.int .i64 (x.sets q), .int .i64 (x.asks q)]) := by
  induction x using Sm.ind' with | h x ih =>
  intro ht
  have := x.tot_body
  exact c_l12Stmt0 x q ht (c_sCounts0 x.body q (by omega) fun y hy => ih y hy (by have := totL_mem Sm.tot hy; omega))
theorem c_spec_Counts (l : List Sm) (q : ByteArray) (ht : totL Sm.tot l ≤ 1048576) : PCall Try.prog 87 [.lst false 19 (l.map Sm.av), .str q] (.tup [.int .i64 (Sm.setss q l), .int .i64 (Sm.askss q l)]) :=
  c_sCounts0 l q ht fun y hy => c_l12Stmt y q (by have := totL_mem Sm.tot hy; omega)
theorem c_l12First (l : List Sm) (q : ByteArray) (ht : totL Sm.tot l ≤ 1048576) : PCall Try.prog 88 [.lst false 19 (l.map Sm.av), .str q] (.int .i64 (fidx (Sm.hasIt q) 0 l)) := by
  have hlen := totL_len Sm.tot l
  refine pcall_of Try.func88 (by kernel_rfl) rfl (by simp [Try.f88]) ?_
  (repeat refine AWp.seq ?_); refine AWp.region noP (by kernel_rfl) ?_
  try simp
  (repeat refine AWp.seq ?_); refine AWp.region noP (by kernel_rfl) ?_
  try simp
  (repeat refine AWp.seq ?_); refine AWp.cutA (fun st => fidx (Sm.hasIt q) 0 l = -1) ?_ ?_
  · refine AWp.block (AWp.rounds (fun n st => ∃ (i : Nat), n = l.length - i ∧ i ≤ l.length ∧ st.slots 0 = .lst false 19 (l.map Sm.av) ∧ st.slots 1 = .str q ∧ st.slots 5 = .int .i64 i ∧ fidx (Sm.hasIt q) i (l.drop i) = fidx (Sm.hasIt q) 0 l) (l.length) ⟨0, by simp, by simp, by first | (simp; done) | (simp [*]; done), by first | (simp; done) | (simp [*]; done), by first | (simp; done) | (simp [*]; done), by first | (simp; done) | (simp [*]; done)⟩ ?_)
    rintro R n st hR ⟨i, rfl, hi, s0, s1, s5, hv⟩
    (repeat refine AWp.seq ?_); refine AWp.region noP (by kernel_rfl) ?_
    simp [s0, s5]
    (repeat refine AWp.seq ?_); refine AWp.cond (b := decide (i < l.length)) (by simp) (fun hb => ?_) (fun hb => ?_)
    · simp at hb
      have hg : l[i]? = some l[i] := List.getElem?_eq_getElem hb
      have hdr : l.drop i = l[i] :: l.drop (i + 1) := List.drop_eq_getElem_cons hb
      have htm := totL_mem Sm.tot (List.getElem_mem hb)
      have hx : ∀ m, idxA Try.prog m 62 (.lst false 19 (l.map Sm.av)) (.int .i64 i) = some (.ref l[i].cells) := fun m => idx (y := l[i].av) es_62 (by simp [hg])
      have hw : IntKind.wrap .i64 ((i : Int) + 1) = (i + 1 : Nat) := wrap64 (by omega) (by omega)
      have h1 := l[i].sets_le q
      have h2 := l[i].asks_le q
      have hf := fidx_drop (Sm.hasIt q) l i hb
      rw [hv] at hf
      have hw2 : IntKind.wrap .i64 ((l[i].sets q : Int) + (l[i].asks q : Int)) = ((l[i].sets q + l[i].asks q : Nat) : Int) := wrap64 (by omega) (by omega)
      have cI := c_l12Stmt l[i] q (by omega)
      unfold Sm.av at cI
      refine AWp.skip ?_
      try simp
      (repeat refine AWp.seq ?_); refine AWp.block ?_; (repeat refine AWp.seq ?_); refine AWp.region allP (by kernel_rfl) ?_
      simp [s0, s1, s5, hx]
      refine aop_call' cI ?_
      simp
      (repeat refine AWp.seq ?_); refine AWp.region noP (by kernel_rfl) ?_
      simp [hw2]
      (repeat refine AWp.seq ?_); refine AWp.cond (b := l[i].hasIt q) (by simp [Sm.hasIt]; first | rfl | (congr 1; apply propext; omega) | omega) (fun hh => ?_) (fun hh => ?_)
      · rw [hh, if_pos rfl] at hf
        (repeat refine AWp.seq ?_); refine AWp.region noP (by kernel_rfl) ?_
        simp [s5]
        exact AWp.ret (post_ret1 rfl (by simp [hf]))
      · rw [hh] at hf
        simp only [Bool.false_eq_true, if_false] at hf
        refine AWp.skip ?_
        try simp
        (repeat refine AWp.seq ?_); refine AWp.region noP (by kernel_rfl) ?_
        simp [s5, hw]
        refine hR _ (l.length - (i + 1)) (by omega) ⟨i + 1, rfl, by omega, by first | (simp [s0]; done) | (simp [*]; done), by first | (simp [s1]; done) | (simp [*]; done), by first | (simp [s5]; done) | (simp [*]; done), hf.symm⟩
    · simp at hb
      refine AWp.exit ?_
      have : i = l.length := by omega
      subst this
      simp [fidx] at hv
      simpa using hv.symm
  intro st hv
  (repeat refine AWp.seq ?_); refine AWp.region noP (by kernel_rfl) ?_
  try simp
  exact AWp.ret (post_ret1 rfl (by simp [hv]))
end Go.T
namespace Go.T
open Go Go.Proofs
set_option maxRecDepth 10000
set_option linter.unusedSimpArgs false
set_option linter.unusedVariables false
theorem c_l12Sum (x : Sm) (q : ByteArray) (ht : x.tot ≤ 1048576) : PCall Try.prog 89 [x.av, .str q] (.int .i64 (x.sumS q)) := by
  have hp := x.tot_parts
  have hl := x.e.len_l
  rw [x.sumS_eq]
  refine pcall_of Try.func89 (by kernel_rfl) rfl (by simp [Try.f89]) ?_
  unfold Sm.av
  (repeat refine AWp.seq ?_); refine AWp.region noP (by kernel_rfl) ?_
  try simp
  intro g
  have hgg : (Mem.set (fun _ => none) g (.box x.cells)) g = some (.box x.cells) := set_same _ _ _
  generalize (Mem.set (fun _ => none) g (.box x.cells)) = m1 at *
  (repeat refine AWp.seq ?_); refine AWp.cutA (fun st => st.slots 2 = .ptr g 0 ∧ st.slots 39 = .bool (!x.sumB q) ∧ st.mem g = some (.box x.cells)) ?_ ?_
  · refine AWp.region noP (by kernel_rfl) ?_
    by_cases hk : x.k = 1
    rotate_left
    · have : x.sumB q = false := by unfold Sm.sumB Sm.setsIt; simp [hk]
      simp [hgg, hk, this]
    by_cases hs : x.s = q
    rotate_left
    · have : x.sumB q = false := by unfold Sm.sumB Sm.setsIt; simp [hs]
      simp [hgg, hk, hs, this]
    have hset : x.setsIt q = true := (setsIt_iff x q).2 ⟨hk, hs⟩
    rcases hxl : x.e.l with _ | ⟨y, _ | ⟨z, _ | ⟨w, r⟩⟩⟩
    · have : x.sumB q = false := by unfold Sm.sumB; simp [hset, hxl]
      simp [hgg, hk, hs, this, hxl]
    · have : x.sumB q = false := by unfold Sm.sumB; simp [hset, hxl]
      simp [hgg, hk, hs, this, hxl]
    · have hx : ∀ m, idxA Try.prog m 59 (.lst false 4 [y.av, z.av]) (.int .i64 0) = some (.ref y.cells) := fun m => idx (i := 0) (y := y.av) es_59 rfl
      have hsb : x.sumB q = y.isIt q := by unfold Sm.sumB; simp [hset, hxl]
      by_cases hk2 : y.k = 2 <;> simp [hgg, hk, hs, hsb, hxl, hx, hk2, Ex.isIt]
    · have h3 : ¬ ((r.length : Int) + 1 + 1 + 1 = 2) := by omega
      have : x.sumB q = false := by unfold Sm.sumB; simp [hset, hxl]
      simp [hgg, hk, hs, this, hxl, h3]
  rintro st ⟨s2, s39, sg⟩
  (repeat refine AWp.seq ?_); refine AWp.cond (b := !x.sumB q) (by simp [s39]) (fun hb => ?_) (fun hb => ?_)
  · simp at hb
    (repeat refine AWp.seq ?_); refine AWp.region noP (by kernel_rfl) ?_
    try simp
    exact AWp.ret (post_ret1 rfl (by simp [hb]))
  · simp at hb
    refine AWp.skip ?_
    try simp
    (repeat refine AWp.seq ?_); refine AWp.region noP (by kernel_rfl) ?_
    simp [s2, sg]
    simp only [hb, if_true]
    unfold kindN
    (repeat refine AWp.seq ?_); refine AWp.block ?_
    repeat' (first
    | refine AWp.seq ?_
    | (refine AWp.region allP (by kernel_rfl) ?_; simp [*])
    | (refine AWp.condG ?_; simp [*])
    | (refine AWp.skip ?_; try simp)
    | (refine AWp.exit ?_; try simp)
    | refine AWp.block ?_
    | (refine AWp.ret (post_ret1 rfl ?_); (simp_all; done))
    | (refine guardI (fun hq => ?_) (fun hq => ?_) <;> (try simp at hq) <;> (try simp [*]))
    | (refine condRunI (fun hq => ?_) (fun hq => ?_) <;> (try simp at hq) <;> (try simp [*]))
    | (refine iteI (fun hq => ?_) (fun hq => ?_) <;> (try simp [*])))
theorem c_spec_KindOf (s : Sm) (q : ByteArray) (ht : s.tot ≤ 1048576) : PCall Try.prog 60 [s.av, .str q] (.int .i64 (kindS s q)) := by
  have hp := s.tot_body
  have hlen := totL_len Sm.tot s.body
  have cC := c_spec_Counts s.body q (by omega)
  have cF := c_l12First s.body q (by omega)
  refine pcall_of Try.func60 (by kernel_rfl) rfl (by simp [Try.f60]) ?_
  unfold Sm.av
  (repeat refine AWp.seq ?_); refine AWp.region noP (by kernel_rfl) ?_
  try simp
  intro g
  (repeat refine AWp.seq ?_); refine AWp.region allP (by kernel_rfl) ?_
  try simp
  refine aop_call' cC ?_
  simp
  have hgg : (Mem.set (fun _ => none) g (.box s.cells)) g = some (.box s.cells) := set_same _ _ _
  generalize (Mem.set (fun _ => none) g (.box s.cells)) = m1 at *
  (repeat refine AWp.seq ?_); refine AWp.cutA (fun st => kindS s q = (match s.body.find? (Sm.hasIt q) with
    | none => 6
    | some x => if Sm.askss q s.body = 1 ∧ x.sumS q ≠ 0 then x.sumS q else if x.setsIt q = true ∧ x.e.asks q = 0 then 5 else 6) ∧ 0 < Sm.setss q s.body ∧ st.slots 1 = .str q ∧ st.slots 2 = .ptr g 0 ∧ st.slots 6 = .int .i64 (Sm.askss q s.body) ∧ st.mem g = some (.box s.cells)) ?_ ?_
  · unfold kindS
    refine AWp.block ?_
    (repeat refine AWp.seq ?_); refine AWp.cutA (fun st => st.slots 1 = .str q ∧ st.slots 2 = .ptr g 0 ∧ st.slots 5 = .int .i64 (Sm.setss q s.body) ∧ st.slots 6 = .int .i64 (Sm.askss q s.body) ∧ st.slots 16 = .bool (decide (s.k ≠ 3 ∨ (Sm.setss q s.body = 0 ∧ Sm.askss q s.body = 0))) ∧ st.mem g = some (.box s.cells)) ?_ ?_
    · refine AWp.region noP (by kernel_rfl) ?_
      by_cases hk : s.k = 3
      · by_cases h1 : Sm.setss q s.body = 0 <;> simp [hgg, hk, h1]
      · simp [hgg, hk]
    rintro st ⟨s1, s2, s5, s6, s16, sg⟩
    (repeat refine AWp.seq ?_); refine AWp.cond (b := decide (s.k ≠ 3 ∨ (Sm.setss q s.body = 0 ∧ Sm.askss q s.body = 0))) (by simp [s16]) (fun hb => ?_) (fun hb => ?_)
    · simp only [decide_eq_true_eq] at hb
      rw [if_pos hb]
      (repeat refine AWp.seq ?_); refine AWp.region noP (by kernel_rfl) ?_
      try simp
      exact AWp.ret (post_ret1 rfl (by simp))
    simp only [decide_eq_false_iff_not] at hb
    rw [if_neg hb]
    (repeat refine AWp.seq ?_); refine AWp.region noP (by kernel_rfl) ?_
    simp [s5]
    (repeat refine AWp.seq ?_); refine AWp.cond (b := decide (Sm.setss q s.body = 0)) (by simp) (fun hc => ?_) (fun hc => ?_)
    · simp only [decide_eq_true_eq] at hc
      rw [if_pos hc]
      (repeat refine AWp.seq ?_); refine AWp.region noP (by kernel_rfl) ?_
      try simp
      exact AWp.ret (post_ret1 rfl (by simp))
    simp only [decide_eq_false_iff_not] at hc
    rw [if_neg hc]
    (repeat refine AWp.seq ?_); refine AWp.region noP (by kernel_rfl) ?_
    simp [s5]
    (repeat refine AWp.seq ?_); refine AWp.cond (b := decide (1 < Sm.setss q s.body)) (by simp; omega) (fun hd => ?_) (fun hd => ?_)
    · simp only [decide_eq_true_eq] at hd
      rw [if_pos hd]
      (repeat refine AWp.seq ?_); refine AWp.region noP (by kernel_rfl) ?_
      try simp
      exact AWp.ret (post_ret1 rfl (by simp))
    simp only [decide_eq_false_iff_not] at hd
    rw [if_neg hd]
    refine AWp.skip ?_
    simp only [thenA_normal, blockA_normal]
    exact ⟨rfl, by omega, by simp [s1], by simp [s2], by simp [s6], by simp [sg]⟩
  clear hgg m1
  rintro st ⟨hK, h0, s1, s2, s6, sg⟩
  cases hf : s.body.find? (Sm.hasIt q) with
  | none => have := Sm.find_none hf; omega
  | some x =>
  rw [hf] at hK
  simp only at hK
  obtain ⟨j, hj, hjx⟩ := fidx_some (Sm.hasIt q) s.body 0 x hf
  rw [Nat.zero_add] at hj
  rw [hj] at cF
  have hm := List.mem_of_getElem? hjx
  have htm := totL_mem Sm.tot hm
  have hxp := x.tot_parts
  have cS := c_l12Sum x q (by omega)
  have cA := c_l12Asks x.e q (by omega)
  unfold Sm.av at cS
  unfold Ex.av at cA
  have hx : ∀ m, idxA Try.prog m 62 (.lst false 19 (s.body.map Sm.av)) (.int .i64 j) = some (.ref x.cells) := fun m => idx (y := x.av) es_62 (by simp [hjx])
  (repeat refine AWp.seq ?_); refine AWp.region allP (by kernel_rfl) ?_
  simp [s1, s2, sg]
  refine aop_call' cF ?_
  simp
  (repeat refine AWp.seq ?_); refine AWp.region noP (by kernel_rfl) ?_
  simp [s2, sg, hx]
  intro g2 hg2
  try simp [set_at, set_set]
  have hgg : (st.mem.set g2 (.box x.cells)) g2 = some (.box x.cells) := set_same _ _ _
  generalize (st.mem.set g2 (.box x.cells)) = m2 at *
  (repeat refine AWp.seq ?_); refine AWp.cutA (fun st => st.slots 1 = .str q ∧ st.slots 8 = .ptr g2 0 ∧ st.slots 50 = .bool (decide (Sm.askss q s.body = 1 ∧ x.sumS q ≠ 0)) ∧ st.mem g2 = some (.box x.cells)) ?_ ?_
  · refine AWp.region allP (by kernel_rfl) ?_
    by_cases ha : Sm.askss q s.body = 1
    · simp [s1, s6, ha, hgg]
      refine aop_call' cS ?_
      simp [s1, s6, ha, hgg]
    · have ha2 : ¬ ((Sm.askss q s.body : Int) = 1) := by omega
      simp [s1, s6, ha, ha2, hgg]
  clear s1 s2 s6 sg hgg m2 st hg2
  rintro st ⟨s1, s8, s50, sg⟩
  (repeat refine AWp.seq ?_); refine AWp.cond (b := decide (Sm.askss q s.body = 1 ∧ x.sumS q ≠ 0)) (by simp [s50]) (fun hb => ?_) (fun hb => ?_)
  · simp only [decide_eq_true_eq] at hb
    rw [if_pos hb] at hK
    (repeat refine AWp.seq ?_); refine AWp.region allP (by kernel_rfl) ?_
    simp [s1, s8, sg]
    refine aop_call' cS ?_
    simp
    exact AWp.ret (post_ret1 rfl (by simp [hK]))
  simp only [decide_eq_false_iff_not] at hb
  rw [if_neg hb] at hK
  refine AWp.skip ?_
  try simp
  (repeat refine AWp.seq ?_); refine AWp.cutA (fun st => st.slots 69 = .bool (decide (x.setsIt q = true ∧ x.e.asks q = 0))) ?_ ?_
  · refine AWp.region allP (by kernel_rfl) ?_
    by_cases h1 : x.k = 1
    rotate_left
    · have : x.setsIt q = false := by unfold Sm.setsIt; simp [h1]
      simp [s1, s8, sg, h1, this]
    by_cases h2 : x.s = q
    rotate_left
    · have : x.setsIt q = false := by unfold Sm.setsIt; simp [h2]
      simp [s1, s8, sg, h1, h2, this]
    have hset : x.setsIt q = true := (setsIt_iff x q).2 ⟨h1, h2⟩
    simp [s1, s8, sg, h1, h2, hset]
    refine aop_call' cA ?_
    simp [hset]
  clear s1 s8 s50 sg st
  intro st s69
  (repeat refine AWp.seq ?_); refine AWp.cond (b := decide (x.setsIt q = true ∧ x.e.asks q = 0)) (by simp [s69]) (fun hc => ?_) (fun hc => ?_)
  · simp only [decide_eq_true_eq] at hc
    rw [if_pos hc] at hK
    (repeat refine AWp.seq ?_); refine AWp.region noP (by kernel_rfl) ?_
    try simp
    exact AWp.ret (post_ret1 rfl (by simp [hK]))
  · simp only [decide_eq_false_iff_not] at hc
    rw [if_neg hc] at hK
    refine AWp.skip ?_
    try simp
    (repeat refine AWp.seq ?_); refine AWp.region noP (by kernel_rfl) ?_
    try simp
    exact AWp.ret (post_ret1 rfl (by simp [hK]))
end Go.T
namespace Go.T
open Go Go.Proofs
set_option maxRecDepth 10000
set_option linter.unusedSimpArgs false
set_option linter.unusedVariables false
theorem c_Sums1 (k : Int) : PCall Try.prog 64 [.int .i64 k] (.bool (inR k 2 4)) := by
  have c1 := c_inRange k 2 4
  refine pcall_of Try.func64 (by kernel_rfl) rfl (by simp [Try.f64]) ?_
  (repeat refine AWp.seq ?_); refine AWp.region noP (by kernel_rfl) ?_
  try simp
  (repeat refine AWp.seq ?_); refine AWp.region allP (by kernel_rfl) ?_
  simp
  refine aop_call' c1 ?_
  simp
  exact AWp.ret (post_ret1 rfl (by simp))
theorem o_varsOfKind (s : Sm) (ht : s.tot ≤ 1048576) (f : Int → Bool) {n : FuncId} (hn : ∀ k, PCall Try.prog n [.int .i64 k] (.bool (f k))) : OCall Try.prog 63 [s.av, .func (.func n) []] (strs ((nameSet (Sm.namesL 1 s.body)).filter fun q => f (kindI s q))) := by
  have hp := s.tot_body
  have cV := c_impl_VarsOf s.body (by omega)
  have hns : (nameSet (Sm.namesL 1 s.body)).length ≤ 8388608 := by have := nameSet_len (Sm.namesL 1 s.body); have := Sm.namesL_len 1 s.body; have := Sm.tots_eq s.body; omega
  generalize nameSet (Sm.namesL 1 s.body) = ns at *
  refine wcall_of Try.func63 (by kernel_rfl) rfl (by simp [Try.f63]) ?_
  unfold Sm.av
  (repeat refine AWp.seq ?_); refine AWp.region noP (by kernel_rfl) ?_
  try simp
  intro g
  have hgg : (Mem.set (fun _ => none) g (.box s.cells)) g = some (.box s.cells) := set_same _ _ _
  generalize (Mem.set (fun _ => none) g (.box s.cells)) = m1 at *
  (repeat refine AWp.seq ?_); refine AWp.region noP (by kernel_rfl) ?_
  try simp
  (repeat refine AWp.seq ?_); refine AWp.region noP (by kernel_rfl) ?_
  simp [hgg]
  refine aop_call' cV ?_
  simp [strs]
  (repeat refine AWp.seq ?_); refine AWp.cutA (fun st => ∃ v, st.slots 5 = v ∧ Gr 9 1 m1 ((ns.filter fun q => f (kindI s q)).map .str) v st.mem) ?_ ?_
  · refine AWp.block (AWp.rounds (fun k st => ∃ (i : Nat) (v : AV), k = ns.length - i ∧ i ≤ ns.length ∧ st.slots 1 = .func (.func n) [] ∧ st.slots 2 = .ptr g 0 ∧ st.slots 10 = .lst false 1 (ns.map .str) ∧ st.slots 11 = .int .i64 ns.length ∧ st.slots 12 = .int .i64 i ∧ st.slots 5 = v ∧ Gr 9 1 m1 (((ns.take i).filter fun q => f (kindI s q)).map .str) v st.mem) (ns.length) ⟨0, .lst true 0 [], by simp, by simp, by first | (simp; done) | (simp [*]; done), by first | (simp; done) | (simp [*]; done), by first | (simp; done) | (simp [*]; done), by first | (simp; done) | (simp [*]; done), by first | (simp; done) | (simp [*]; done), by first | (simp; done) | (simp [*]; done), by simpa using Gr.start m1 0⟩ ?_)
    rintro R k st hR ⟨i, v, rfl, hi, s1, s2, s10, s11, s12, s5, hG⟩
    (repeat refine AWp.seq ?_); refine AWp.region noP (by kernel_rfl) ?_
    simp [s11, s12]
    (repeat refine AWp.seq ?_); refine AWp.cond (b := decide (i < ns.length)) (by simp) (fun hb => ?_) (fun hb => ?_)
    · simp at hb
      have hg : ns[i]? = some ns[i] := List.getElem?_eq_getElem hb
      have hx : ∀ m, idxA Try.prog m 57 (.lst false 1 (ns.map .str)) (.int .i64 i) = some (.ref [.str ns[i]]) := fun m => idx (y := .str ns[i]) es_57 (by simp [hg])
      have hw : IntKind.wrap .i64 ((i : Int) + 1) = (i + 1 : Nat) := wrap64 (by omega) (by omega)
      have hgg2 := hG.1 g _ hgg
      have cK := c_impl_KindOf s ns[i] ht
      unfold Sm.av at cK
      have hfl : (ns.take (i + 1)).filter (fun q => f (kindI s q)) = (ns.take i).filter (fun q => f (kindI s q)) ++ (if f (kindI s ns[i]) = true then [ns[i]] else []) := by
        rw [List.take_add_one, hg, List.filter_append]; simp [List.filter_cons]
      have hle : ((ns.take i).filter (fun q => f (kindI s q))).length ≤ i := by
        have := List.length_filter_le (fun q => f (kindI s q)) (ns.take i); simp at this; omega
      refine AWp.skip ?_
      try simp
      (repeat refine AWp.seq ?_); refine AWp.block ?_; (repeat refine AWp.seq ?_); refine AWp.region noP (by kernel_rfl) ?_
      simp [s10, s12, hx]
      (repeat refine AWp.seq ?_); refine AWp.region noP (by kernel_rfl) ?_
      simp [s1, s2, hgg2]
      refine aop_call' cK ?_
      simp [s1]
      refine aop_wcall _ _ _ _ _ _ _ _ rfl (n := n) (caps := []) (by simp [s1]) ?_
      try simp
      refine (hn _).w ?_
      try simp
      (repeat refine AWp.seq ?_); refine AWp.cond (b := f (kindI s ns[i])) (by simp) (fun hf => ?_) (fun hf => ?_)
      · rw [if_pos hf] at hfl
        (repeat refine AWp.seq ?_); refine AWp.region noP (by kernel_rfl) ?_
        simp [s5]
        refine Gr.app et_57 hG (ys := [.str ns[i]]) rfl (by simp) (by simp; omega) fun v' m' hG' _ => ?_
        try simp
        (repeat refine AWp.seq ?_); refine AWp.region noP (by kernel_rfl) ?_
        simp [s12, hw]
        refine hR _ (ns.length - (i + 1)) (by omega) ⟨i + 1, v', rfl, by omega, by first | (simp [s1]; done) | (simp [*]; done), by first | (simp [s2]; done) | (simp [*]; done), by first | (simp [s10]; done) | (simp [*]; done), by first | (simp [s11]; done) | (simp [*]; done), by first | (simp [s12]; done) | (simp [*]; done), by first | (simp [s5]; done) | (simp [*]; done), by rw [hfl, List.map_append]; simpa using hG'⟩
      · simp only [hf, Bool.false_eq_true, if_false, List.append_nil] at hfl
        refine AWp.skip ?_
        try simp
        (repeat refine AWp.seq ?_); refine AWp.region noP (by kernel_rfl) ?_
        simp [s12, hw]
        refine hR _ (ns.length - (i + 1)) (by omega) ⟨i + 1, v, rfl, by omega, by first | (simp [s1]; done) | (simp [*]; done), by first | (simp [s2]; done) | (simp [*]; done), by first | (simp [s10]; done) | (simp [*]; done), by first | (simp [s11]; done) | (simp [*]; done), by first | (simp [s12]; done) | (simp [*]; done), by first | (simp [s5]; done) | (simp [*]; done), by rw [hfl]; simpa using hG⟩
    · simp at hb
      refine AWp.exit ?_
      have : i = ns.length := by omega
      subst this
      rw [List.take_length] at hG
      simp [s5]
      exact hG
  rintro st ⟨v, s5, hG⟩
  (repeat refine AWp.seq ?_); refine AWp.region noP (by kernel_rfl) ?_
  simp [s5]
  obtain ⟨F, hO, _, _⟩ := hG.own (by intro a ha F; simp at ha; obtain ⟨x, _, rfl⟩ := ha; exact .str x)
  exact AWp.ret (post_retO (q := v) rfl (by simp) (by simpa [strs] using hO))
theorem o_impl_Sums (s : Sm) (ht : s.tot ≤ 1048576) : OCall Try.prog 22 [s.av] (strs (sumsOf s)) := by
  have c1 := o_varsOfKind s ht (fun k => inR k 2 4) c_Sums1
  rw [sums_same] at c1
  refine wcall_of Try.func22 (by kernel_rfl) rfl (by simp [Try.f22]) ?_
  unfold Sm.av at *
  (repeat refine AWp.seq ?_); refine AWp.region noP (by kernel_rfl) ?_
  try simp
  intro g
  (repeat refine AWp.seq ?_); refine AWp.region noP (by kernel_rfl) ?_
  simp
  refine aop_wcall _ _ _ _ _ _ _ _ rfl (eval_func _ _) ?_
  refine OCall.w c1 fun r m' G hE hO hG hGd => ?_
  try simp
  exact AWp.ret (post_retO (q := r) rfl (by simp) (by simpa using hO))
theorem c_spec_Sums (s : Sm) (ht : s.tot ≤ 1048576) : PCall Try.prog 20 [s.av] (strs (sumsOf s)) := by
  have hp := s.tot_body
  have cV := c_spec_VarsOf s.body (by omega)
  have hns : (nameSet (Sm.namesL 1 s.body)).length ≤ 8388608 := by have := nameSet_len (Sm.namesL 1 s.body); have := Sm.namesL_len 1 s.body; have := Sm.tots_eq s.body; omega
  unfold sumsOf
  generalize nameSet (Sm.namesL 1 s.body) = ns at *
  refine pcall_of Try.func20 (by kernel_rfl) rfl (by simp [Try.f20]) ?_
  unfold Sm.av
  (repeat refine AWp.seq ?_); refine AWp.region noP (by kernel_rfl) ?_
  try simp
  intro g
  have hgg : (Mem.set (fun _ => none) g (.box s.cells)) g = some (.box s.cells) := set_same _ _ _
  generalize (Mem.set (fun _ => none) g (.box s.cells)) = m1 at *
  (repeat refine AWp.seq ?_); refine AWp.region noP (by kernel_rfl) ?_
  try simp
  (repeat refine AWp.seq ?_); refine AWp.region allP (by kernel_rfl) ?_
  simp [hgg]
  refine aop_call' cV ?_
  simp [strs]
  (repeat refine AWp.seq ?_); refine AWp.region noP (by kernel_rfl) ?_
  try simp
  (repeat refine AWp.seq ?_); refine AWp.cutA (fun st => ∃ v, st.slots 3 = v ∧ GS m1 (ns.filter fun q => inR (kindS s q) 2 4) v st.mem) ?_ ?_
  · refine AWp.block (AWp.rounds (fun k st => ∃ (i : Nat) (v : AV), k = ns.length - i ∧ i ≤ ns.length ∧ st.slots 1 = .ptr g 0 ∧ st.slots 4 = .lst false 1 (ns.map .str) ∧ st.slots 5 = .int .i64 i ∧ st.slots 3 = v ∧ GS m1 ((ns.take i).filter fun q => inR (kindS s q) 2 4) v st.mem) (ns.length) ⟨0, .lst true 1 [], by simp, by simp, by first | (simp; done) | (simp [*]; done), by first | (simp; done) | (simp [*]; done), by first | (simp; done) | (simp [*]; done), by first | (simp; done) | (simp [*]; done), .lit 1 _ (.inl rfl) (by simpa using Ext.refl m1)⟩ ?_)
    rintro R k st hR ⟨i, v, rfl, hi, s1, s4, s5, s3, hG⟩
    (repeat refine AWp.seq ?_); refine AWp.region noP (by kernel_rfl) ?_
    simp [s4, s5]
    (repeat refine AWp.seq ?_); refine AWp.cond (b := decide (i < ns.length)) (by simp) (fun hb => ?_) (fun hb => ?_)
    · simp at hb
      have hg : ns[i]? = some ns[i] := List.getElem?_eq_getElem hb
      have hx : ∀ m, idxA Try.prog m 57 (.lst false 1 (ns.map .str)) (.int .i64 i) = some (.ref [.str ns[i]]) := fun m => idx (y := .str ns[i]) es_57 (by simp [hg])
      have hw : IntKind.wrap .i64 ((i : Int) + 1) = (i + 1 : Nat) := wrap64 (by omega) (by omega)
      have hgg2 := hG.ext g _ hgg
      have cK := c_spec_KindOf s ns[i] ht
      have cI := c_l1In (kindS s ns[i]) 2 4
      unfold Sm.av at cK
      have hfl : (ns.take (i + 1)).filter (fun q => inR (kindS s q) 2 4) = (ns.take i).filter (fun q => inR (kindS s q) 2 4) ++ (if inR (kindS s ns[i]) 2 4 = true then [ns[i]] else []) := by
        rw [List.take_add_one, hg, List.filter_append]; simp [List.filter_cons]
      have hle : ((ns.take i).filter (fun q => inR (kindS s q) 2 4)).length ≤ i := by
        have := List.length_filter_le (fun q => inR (kindS s q) 2 4) (ns.take i); simp at this; omega
      refine AWp.skip ?_
      try simp
      (repeat refine AWp.seq ?_); refine AWp.block ?_; (repeat refine AWp.seq ?_); refine AWp.regionG (fun _ => true) (fun _ => false) [0, 1, 2, 3, 4, 5, 6] [0, 1, 2, 3, 4, 5, 6] (by kernel_rfl) ?_
      simp [s1, s4, s5, hgg2, hx]
      refine aop_call' cK ?_
      simp
      (repeat refine AWp.seq ?_); refine AWp.region allP (by kernel_rfl) ?_
      try simp
      refine aop_call' cI ?_
      try simp
      (repeat refine AWp.seq ?_); refine AWp.cond (b := inR (kindS s ns[i]) 2 4) (by simp) (fun hf => ?_) (fun hf => ?_)
      · rw [if_pos hf] at hfl
        (repeat refine AWp.seq ?_); refine AWp.region noP (by kernel_rfl) ?_
        simp [s3, s4, s5, hx]
        refine hG.push ns[i] (by omega) fun v' m' hG' => ?_
        try simp
        (repeat refine AWp.seq ?_); refine AWp.region noP (by kernel_rfl) ?_
        simp [s5, hw]
        refine hR _ (ns.length - (i + 1)) (by omega) ⟨i + 1, v', rfl, by omega, by first | (simp [s1]; done) | (simp [*]; done), by first | (simp [s4]; done) | (simp [*]; done), by first | (simp [s5]; done) | (simp [*]; done), by first | (simp [s3]; done) | (simp [*]; done), by rw [hfl]; simpa using hG'⟩
      · simp only [hf, Bool.false_eq_true, if_false, List.append_nil] at hfl
        refine AWp.skip ?_
        try simp
        (repeat refine AWp.seq ?_); refine AWp.region noP (by kernel_rfl) ?_
        simp [s5, hw]
        refine hR _ (ns.length - (i + 1)) (by omega) ⟨i + 1, v, rfl, by omega, by first | (simp [s1]; done) | (simp [*]; done), by first | (simp [s4]; done) | (simp [*]; done), by first | (simp [s5]; done) | (simp [*]; done), by first | (simp [s3]; done) | (simp [*]; done), by rw [hfl]; simpa using hG⟩
    · simp at hb
      refine AWp.exit ?_
      have : i = ns.length := by omega
      subst this
      rw [List.take_length] at hG
      simp [s3]
      exact hG
  rintro st ⟨v, s3, hG⟩
  (repeat refine AWp.seq ?_); refine AWp.region noP (by kernel_rfl) ?_
  simp [s3]
  exact AWp.ret (post_retW rfl ⟨_, _, by simpa [strs] using hG.view, rfl⟩)
end Go.T
namespace Go.T
open Go Go.Proofs
set_option maxRecDepth 10000
set_option linter.unusedSimpArgs false
set_option linter.unusedVariables false
end Go.T
namespace Go.T
open Go Go.Proofs
set_option maxRecDepth 10000
set_option linter.unusedSimpArgs false
set_option linter.unusedVariables false
end Go.T
namespace Go.T
open Go Go.Proofs
set_option maxRecDepth 10000
set_option linter.unusedSimpArgs false
set_option linter.unusedVariables false
theorem cnts_tot {α : Type} {f : α → AV} {t : α → Nat} {C : Nat} (l : List α) (h : ∀ x ∈ l, (f x).cnt ≤ C + C * t x) : AV.cnts (l.map f) ≤ C * totL t l := by
  induction l with
  | nil => simp [AV.cnts]
  | cons x l ih =>
    have h1 := h x (List.mem_cons_self ..)
    have h2 := ih fun y hy => h y (List.mem_cons_of_mem _ hy)
    simp only [List.map_cons, AV.cnts, totL, Nat.mul_add, Nat.mul_one]
    omega
theorem Ex.mcnt_le (e : Ex) : e.av.cnt ≤ 3 + 3 * e.tot := by
  induction e using Ex.ind with | h k n s l h =>
  have := cnts_tot l h
  rw [Ex.tot_mk, Ex.av_mk]
  simp only [AV.cnt, AV.cnts]
  omega
theorem Sm.mcnt_le (e : Sm) : e.av.cnt ≤ 14 + 14 * e.tot := by
  induction e using Sm.ind with | h k s a e lo hi b h =>
  have hb := cnts_tot b h
  have ha := a.mcnt_le
  have he := e.mcnt_le
  have hl := lo.mcnt_le
  have hh := hi.mcnt_le
  have ca : AV.cnts a.cells = a.av.cnt := rfl
  have ce : AV.cnts e.cells = e.av.cnt := rfl
  have cl : AV.cnts lo.cells = lo.av.cnt := rfl
  have ch : AV.cnts hi.cells = hi.av.cnt := rfl
  rw [Sm.tot_mk]
  have hcs : (Sm.mk k s a e lo hi b).av.cnt = AV.cnts (Sm.mk k s a e lo hi b).cells := rfl
  rw [hcs, Sm.cells_mk]
  simp only [AV.cnts, AV.cnt, cnts_append]
  omega
end Go.T
namespace Go.T
open Go Go.Proofs
set_option maxRecDepth 10000
set_option linter.unusedSimpArgs false
set_option linter.unusedVariables false
theorem Sm.cntP_le (s : Sm) : s.cntP ≤ 14 * s.tot := by
  have h := s.tot_parts
  have k0 := cnts_tot (f := Ex.av) (t := Ex.tot) (C := 3) s.a.l fun x _ => x.mcnt_le
  have k1 := cnts_tot (f := Ex.av) (t := Ex.tot) (C := 3) s.e.l fun x _ => x.mcnt_le
  have k2 := cnts_tot (f := Ex.av) (t := Ex.tot) (C := 3) s.lo.l fun x _ => x.mcnt_le
  have k3 := cnts_tot (f := Ex.av) (t := Ex.tot) (C := 3) s.hi.l fun x _ => x.mcnt_le
  have k4 := cnts_tot (f := Sm.av) (t := Sm.tot) (C := 14) s.body fun x _ => x.mcnt_le
  have j0 := s.a.tot_l
  have j1 := s.e.tot_l
  have j2 := s.lo.tot_l
  have j3 := s.hi.tot_l
  unfold Sm.cntP
  omega
theorem cnts_strs (l : List ByteArray) : AV.cnts (l.map AV.str) = l.length := by
  induction l with
  | nil => rfl
  | cons x l ih => simp only [List.map_cons, AV.cnts, AV.cnt, ih, List.length_cons]; omega
theorem sumsOf_small (s : Sm) (ht : s.tot ≤ 1048576) : (sumsOf s).length ≤ 8388608 ∧ AV.cnts ((sumsOf s).map AV.str) ≤ 8388608 := by
  have h1 := List.length_filter_le (fun q => inR (kindS s q) 2 4) (nameSet (Sm.namesL 1 s.body))
  have h2 := nameSet_len (Sm.namesL 1 s.body)
  have h3 := Sm.namesL_len 1 s.body
  have h4 := Sm.tots_eq s.body
  have h5 := s.tot_body
  rw [cnts_strs]
  unfold sumsOf
  omega
theorem c_FnExactSums (s : Sm) (hf : s.fit) : PCall Try.prog 5 [s.av] (.bool true) := by
  refine pcall_of Try.func5 (by kernel_rfl) rfl (by simp [Try.f5]) ?_
  have cz := c_szStmt s hf
  unfold Sm.av at cz ⊢
  (repeat refine AWp.seq ?_); refine AWp.region noP (by kernel_rfl) ?_
  try simp
  intro g_aS
  have H := ((Hold.nil (fun _ => none)).addBox (g := g_aS) rfl s.cells)
  generalize (Mem.set (fun _ => none) g_aS (.box s.cells)) = m1 at *
  have b_g_aS := H.box (g_aS, s.cells) (by simp)
  (repeat refine AWp.seq ?_); refine AWp.region noP (by kernel_rfl) ?_
  try simp [b_g_aS]
  try clear b_g_aS
  have b_g_aS := H.box (g_aS, s.cells) (by simp)
  (repeat refine AWp.seq ?_); refine AWp.region noP (by kernel_rfl) ?_
  try simp [b_g_aS]
  refine aop_call' (cz (1048576) (by omega) (by omega)) ?_
  generalize hL2 : szr s.tot (1048576) = L2
  try simp [b_g_aS]
  try clear b_g_aS
  have b_g_aS := H.box (g_aS, s.cells) (by simp)
  (repeat refine AWp.seq ?_); refine AWp.region noP (by kernel_rfl) ?_
  try simp [b_g_aS]
  try clear b_g_aS
  (repeat refine AWp.seq ?_); refine AWp.cond (b := decide (L2 < 0)) (by simp) (fun hb => ?_) (fun hb => ?_)
  · (repeat refine AWp.seq ?_); refine AWp.region noP (by kernel_rfl) ?_
    try simp
    exact AWp.ret (post_ret1 rfl (by simp))
  simp only [decide_eq_false_iff_not] at hb
  have hsL2 : (s.tot : Int) ≤ 1048576 ∧ L2 = 1048576 - (s.tot : Int) := by unfold szr at hL2; split at hL2 <;> omega
  clear hb hL2
  refine AWp.skip ?_
  try simp
  have ht : s.tot ≤ 1048576 := by omega
  have ct := c_toStmt s ht
  have oT := o_toStmt s ht
  have cS := c_spec_Sums s ht
  have oI := o_impl_Sums s ht
  have cE := c_eqStmt s ht
  have y1 := s.cntP_le
  obtain ⟨hX, y2⟩ := sumsOf_small s ht
  have cQ := c_eqStringS_ (sumsOf s) (by omega)
  generalize sumsOf s = X at *
  unfold Sm.av at ct oT cS oI cE
  unfold strs at cS oI
  have b_g_aS := H.box (g_aS, s.cells) (by simp)
  (repeat refine AWp.seq ?_); refine AWp.region noP (by kernel_rfl) ?_
  try simp [b_g_aS]
  refine aop_call' (ct) ?_
  try simp [b_g_aS]
  refine aop_call' (cS) ?_
  try simp [b_g_aS]
  try clear b_g_aS
  have b_g_aS := H.box (g_aS, s.cells) (by simp)
  (repeat refine AWp.seq ?_); refine AWp.region noP (by kernel_rfl) ?_
  try simp [b_g_aS]
  refine aop_wcall _ _ _ _ _ _ _ _ rfl (eval_func _ _) ?_
  refine OCall.w (oT) fun r5 m6 F4 hE hO hG hGd => ?_
  obtain ⟨c7, rfl, hT_c7, hok_c7⟩ := own_agg hO
  have l_c7 : c7.length = 19 := hT_c7.len.trans (Sm.cells_len s)
  have t_c7 : List.take 19 c7 = c7 := List.take_of_length_le (by omega)
  have ok_c7 : ∀ x ∈ c7, okCell x = true := by simpa using hok_c7
  have H := H.addTree (by simpa using hE) hO (by simpa using hG) hGd
  clear hE hO hG hGd
  try clear b_g_aS
  have b_g_aS := H.box (g_aS, s.cells) (by simp)
  try simp [b_g_aS]
  try simp
  intro g_x5 h_g_x5
  have hdr_g_x5 : List.drop 19 c7 = [] := List.drop_eq_nil_of_le (by omega)
  simp [l_c7, set_at]
  refine ⟨ok_c7, ?_⟩
  try simp [set_set, hdr_g_x5]
  have H := H.addBox h_g_x5 c7
  generalize m6.set g_x5 (.box c7) = m8 at *
  try clear b_g_aS
  try clear b_g_x5
  have b_g_aS := H.box (g_aS, s.cells) (by simp)
  have b_g_x5 := H.box (g_x5, c7) (by simp)
  (repeat refine AWp.seq ?_); refine AWp.region noP (by kernel_rfl) ?_
  try simp [b_g_aS, b_g_x5, l_c7, t_c7]
  obtain ⟨_, hL⟩ : ∃ F : Nat → Prop, Lent m8 F [.agg c7] [.agg s.cells] := by
    have hL := Lent.nil m8
    obtain ⟨_, hL⟩ := hL.own (H.tree (F4, .agg c7, .agg s.cells) (by simp))
    exact ⟨_, hL⟩
  refine aop_wcall _ _ _ _ _ _ _ _ rfl (eval_func _ _) ?_
  refine OCall.lends (oI) hL fun r11 m12 F10 hE hO hG hGd => ?_
  skip
  have H := H.addTree (by simpa using hE) hO (by simpa using hG) hGd
  clear hE hO hG hGd
  try clear b_g_aS
  try clear b_g_x5
  have b_g_aS := H.box (g_aS, s.cells) (by simp)
  have b_g_x5 := H.box (g_x5, c7) (by simp)
  try simp [b_g_aS, b_g_x5, l_c7, t_c7]
  try clear b_g_aS
  try clear b_g_x5
  have b_g_aS := H.box (g_aS, s.cells) (by simp)
  have b_g_x5 := H.box (g_x5, c7) (by simp)
  (repeat refine AWp.seq ?_); refine AWp.region noP (by kernel_rfl) ?_
  try simp [b_g_aS, b_g_x5, l_c7, t_c7]
  obtain ⟨_, hL⟩ : ∃ F : Nat → Prop, Lent m12 F [r11, .lst false 1 (X.map .str)] [.lst false 1 (X.map .str), .lst false 1 (X.map .str)] := by
    have hL := Lent.nil m12
    have hL := hL.same (.lst false 1 (X.map .str))
    obtain ⟨_, hL⟩ := hL.own (H.tree (F10, r11, .lst false 1 (X.map .str)) (by simp))
    exact ⟨_, hL⟩
  refine aop_wcall _ _ _ _ _ _ _ _ rfl (eval_func _ _) ?_
  refine PCall.lend (cQ) hL rfl ?_
  clear hL
  try simp [b_g_aS, b_g_x5, l_c7, t_c7]
  try clear b_g_aS
  try clear b_g_x5
  (repeat refine AWp.seq ?_); refine AWp.condF (by first | (simp; done) | (simp; omega)) ?_
  refine AWp.skip ?_
  try simp
  have b_g_aS := H.box (g_aS, s.cells) (by simp)
  have b_g_x5 := H.box (g_x5, c7) (by simp)
  (repeat refine AWp.seq ?_); refine AWp.regionG (fun i => i == 2) (fun _ => false) [0, 1, 2, 3, 4] [0, 1, 2, 3, 4] (by kernel_rfl) ?_
  try simp [b_g_aS, b_g_x5, l_c7, t_c7]
  refine aop_call' (ct) ?_
  try simp [b_g_aS, b_g_x5, l_c7, t_c7]
  obtain ⟨_, hL⟩ : ∃ F : Nat → Prop, Lent m12 F [.agg c7, .agg s.cells] [.agg s.cells, .agg s.cells] := by
    have hL := Lent.nil m12
    have hL := hL.same (.agg s.cells)
    obtain ⟨_, hL⟩ := hL.own (H.tree (F4, .agg c7, .agg s.cells) (by simp))
    exact ⟨_, hL⟩
  refine aop_wcall _ _ _ _ _ _ _ _ rfl (eval_func _ _) ?_
  refine PCall.lend (cE) hL rfl ?_
  clear hL
  try simp [b_g_aS, b_g_x5, l_c7, t_c7]
  try clear b_g_aS
  try clear b_g_x5
  (repeat refine AWp.seq ?_); refine AWp.condF (by first | (simp; done) | (simp; omega)) ?_
  refine AWp.skip ?_
  try simp
  have b_g_aS := H.box (g_aS, s.cells) (by simp)
  have b_g_x5 := H.box (g_x5, c7) (by simp)
  (repeat refine AWp.seq ?_); refine AWp.region noP (by kernel_rfl) ?_
  try simp [b_g_aS, b_g_x5, l_c7, t_c7]
  try clear b_g_aS
  try clear b_g_x5
  have b_g_aS := H.box (g_aS, s.cells) (by simp)
  have b_g_x5 := H.box (g_x5, c7) (by simp)
  (repeat refine AWp.seq ?_); refine AWp.region noP (by kernel_rfl) ?_
  try simp [b_g_aS, b_g_x5, l_c7, t_c7]
  refine aop_wcall _ _ _ _ _ _ _ _ rfl (eval_func _ _) ?_
  refine mk_Stmt s _ _ _ (H.tree (F4, .agg c7, .agg s.cells) (by simp)) (1) (by omega) (by unfold BIG; omega) _ fun m13 x14 hout hO hH16 => ?_
  have hp_k15 : 0 < (1) + (s.cntP : Int) ∧ (1) + (s.cntP : Int) ≤ 4611686018427387904 := by omega
  generalize hq_k15 : (1) + (s.cntP : Int) = k15 at *
  have hn_k15 : ¬ (k15 < 0) := by omega
  obtain ⟨F17, H⟩ := Hold.turn (l1 := [(F10, r11, .lst false 1 (X.map .str))]) (l2 := []) (x' := (Sm.av x14)) H hout hO
  clear hout hO
  simp only [List.cons_append, List.nil_append] at H
  try simp
  try clear b_g_aS
  try clear b_g_x5
  have b_g_aS := H.box (g_aS, s.cells) (by simp)
  have b_g_x5 := H.box (g_x5, c7) (by simp)
  (repeat refine AWp.seq ?_); refine AWp.region noP (by kernel_rfl) ?_
  try simp [b_g_aS, b_g_x5, l_c7, t_c7, hn_k15]
  obtain ⟨_, hL⟩ : ∃ F : Nat → Prop, Lent m13 F [r11, .lst false 1 (X.map .str)] [.lst false 1 (X.map .str), .lst false 1 (X.map .str)] := by
    have hL := Lent.nil m13
    have hL := hL.same (.lst false 1 (X.map .str))
    obtain ⟨_, hL⟩ := hL.own (H.tree (F10, r11, .lst false 1 (X.map .str)) (by simp))
    exact ⟨_, hL⟩
  refine aop_wcall _ _ _ _ _ _ _ _ rfl (eval_func _ _) ?_
  refine PCall.lend (cQ) hL rfl ?_
  clear hL
  try simp [b_g_aS, b_g_x5, l_c7, t_c7, hn_k15]
  try clear b_g_aS
  try clear b_g_x5
  (repeat refine AWp.seq ?_); refine AWp.condF (by first | (simp; done) | (simp; omega)) ?_
  refine AWp.skip ?_
  try simp
  have b_g_aS := H.box (g_aS, s.cells) (by simp)
  have b_g_x5 := H.box (g_x5, c7) (by simp)
  (repeat refine AWp.seq ?_); refine AWp.region noP (by kernel_rfl) ?_
  try simp [b_g_aS, b_g_x5, l_c7, t_c7, hn_k15]
  try clear b_g_aS
  try clear b_g_x5
  have b_g_aS := H.box (g_aS, s.cells) (by simp)
  have b_g_x5 := H.box (g_x5, c7) (by simp)
  (repeat refine AWp.seq ?_); refine AWp.region noP (by kernel_rfl) ?_
  try simp [b_g_aS, b_g_x5, l_c7, t_c7, hn_k15]
  refine aop_wcall _ _ _ _ _ _ _ _ rfl (eval_func _ _) ?_
  refine mk_StringS X _ _ _ (H.tree (F10, r11, .lst false 1 (X.map .str)) (by simp)) (1) (by omega) (by unfold BIG; omega) _ fun m18 x19 hout hO hH21 => ?_
  have hp_k20 : 0 < (1) + (AV.cnts (X.map AV.str) : Int) ∧ (1) + (AV.cnts (X.map AV.str) : Int) ≤ 4611686018427387904 := by omega
  generalize hq_k20 : (1) + (AV.cnts (X.map AV.str) : Int) = k20 at *
  have hn_k20 : ¬ (k20 < 0) := by omega
  obtain ⟨F22, H⟩ := Hold.turn (l1 := []) (l2 := [(F17, .agg c7, (Sm.av x14))]) (x' := (strs x19)) H hout hO
  clear hout hO
  simp only [List.cons_append, List.nil_append] at H
  try simp
  try clear b_g_aS
  try clear b_g_x5
  have b_g_aS := H.box (g_aS, s.cells) (by simp)
  have b_g_x5 := H.box (g_x5, c7) (by simp)
  (repeat refine AWp.seq ?_); refine AWp.region noP (by kernel_rfl) ?_
  try simp [b_g_aS, b_g_x5, l_c7, t_c7, hn_k15, hn_k20]
  try clear b_g_aS
  try clear b_g_x5
  have b_g_aS := H.box (g_aS, s.cells) (by simp)
  have b_g_x5 := H.box (g_x5, c7) (by simp)
  (repeat refine AWp.seq ?_); refine AWp.region noP (by kernel_rfl) ?_
  try simp [b_g_aS, b_g_x5, l_c7, t_c7, hn_k15, hn_k20]
  obtain ⟨_, hL⟩ : ∃ F : Nat → Prop, Lent m18 F [r11, .int .i64 1] [(strs x19), .int .i64 1] := by
    have hL := Lent.nil m18
    have hL := hL.same (.int .i64 1)
    obtain ⟨_, hL⟩ := hL.own (H.tree (F22, r11, (strs x19)) (by simp))
    exact ⟨_, hL⟩
  refine aop_wcall _ _ _ _ _ _ _ _ rfl (eval_func _ _) ?_
  refine PCall.lend (hd_StringS x19 (1) k20 (by omega) (by unfold BIG; omega) hH21) hL rfl ?_
  clear hL
  try simp [b_g_aS, b_g_x5, l_c7, t_c7, hn_k15, hn_k20]
  try clear b_g_aS
  try clear b_g_x5
  have b_g_aS := H.box (g_aS, s.cells) (by simp)
  have b_g_x5 := H.box (g_x5, c7) (by simp)
  (repeat refine AWp.seq ?_); refine AWp.region noP (by kernel_rfl) ?_
  try simp [b_g_aS, b_g_x5, l_c7, t_c7, hn_k15, hn_k20]
  try clear b_g_aS
  try clear b_g_x5
  (repeat refine AWp.seq ?_); refine AWp.condF (by first | (simp; done) | (simp; omega)) ?_
  refine AWp.skip ?_
  try simp
  have b_g_aS := H.box (g_aS, s.cells) (by simp)
  have b_g_x5 := H.box (g_x5, c7) (by simp)
  (repeat refine AWp.seq ?_); refine AWp.region noP (by kernel_rfl) ?_
  try simp [b_g_aS, b_g_x5, l_c7, t_c7, hn_k15, hn_k20]
  try clear b_g_aS
  try clear b_g_x5
  (repeat refine AWp.seq ?_); refine AWp.condF (by first | (simp; done) | (simp; omega)) ?_
  refine AWp.skip ?_
  try simp
  have b_g_aS := H.box (g_aS, s.cells) (by simp)
  have b_g_x5 := H.box (g_x5, c7) (by simp)
  (repeat refine AWp.seq ?_); refine AWp.region noP (by kernel_rfl) ?_
  try simp [b_g_aS, b_g_x5, l_c7, t_c7, hn_k15, hn_k20]
  refine aop_call' (ct) ?_
  try simp [b_g_aS, b_g_x5, l_c7, t_c7, hn_k15, hn_k20]
  refine aop_wcall _ _ _ _ _ _ _ _ rfl (eval_func _ _) ?_
  refine OCall.w (oI) fun r25 m26 F24 hE hO hG hGd => ?_
  skip
  have H := H.addTree (by simpa using hE) hO (by simpa using hG) hGd
  clear hE hO hG hGd
  try clear b_g_aS
  try clear b_g_x5
  have b_g_aS := H.box (g_aS, s.cells) (by simp)
  have b_g_x5 := H.box (g_x5, c7) (by simp)
  try simp [b_g_aS, b_g_x5, l_c7, t_c7, hn_k15, hn_k20]
  try clear b_g_aS
  try clear b_g_x5
  have b_g_aS := H.box (g_aS, s.cells) (by simp)
  have b_g_x5 := H.box (g_x5, c7) (by simp)
  (repeat refine AWp.seq ?_); refine AWp.region noP (by kernel_rfl) ?_
  try simp [b_g_aS, b_g_x5, l_c7, t_c7, hn_k15, hn_k20]
  obtain ⟨_, hL⟩ : ∃ F : Nat → Prop, Lent m26 F [r25, .lst false 1 (X.map .str)] [.lst false 1 (X.map .str), .lst false 1 (X.map .str)] := by
    have hL := Lent.nil m26
    have hL := hL.same (.lst false 1 (X.map .str))
    obtain ⟨_, hL⟩ := hL.own (H.tree (F24, r25, .lst false 1 (X.map .str)) (by simp))
    exact ⟨_, hL⟩
  refine aop_wcall _ _ _ _ _ _ _ _ rfl (eval_func _ _) ?_
  refine PCall.lend (cQ) hL rfl ?_
  clear hL
  try simp [b_g_aS, b_g_x5, l_c7, t_c7, hn_k15, hn_k20]
  try clear b_g_aS
  try clear b_g_x5
  (repeat refine AWp.seq ?_); refine AWp.condF (by first | (simp; done) | (simp; omega)) ?_
  refine AWp.skip ?_
  try simp
  have b_g_aS := H.box (g_aS, s.cells) (by simp)
  have b_g_x5 := H.box (g_x5, c7) (by simp)
  (repeat refine AWp.seq ?_); refine AWp.region noP (by kernel_rfl) ?_
  try simp [b_g_aS, b_g_x5, l_c7, t_c7, hn_k15, hn_k20]
  try clear b_g_aS
  try clear b_g_x5
  have b_g_aS := H.box (g_aS, s.cells) (by simp)
  have b_g_x5 := H.box (g_x5, c7) (by simp)
  (repeat refine AWp.seq ?_); refine AWp.region noP (by kernel_rfl) ?_
  try simp [b_g_aS, b_g_x5, l_c7, t_c7, hn_k15, hn_k20]
  obtain ⟨_, hL⟩ : ∃ F : Nat → Prop, Lent m26 F [r11, .int .i64 1] [(strs x19), .int .i64 1] := by
    have hL := Lent.nil m26
    have hL := hL.same (.int .i64 1)
    obtain ⟨_, hL⟩ := hL.own (H.tree (F22, r11, (strs x19)) (by simp))
    exact ⟨_, hL⟩
  refine aop_wcall _ _ _ _ _ _ _ _ rfl (eval_func _ _) ?_
  refine PCall.lend (hd_StringS x19 (1) k20 (by omega) (by unfold BIG; omega) hH21) hL rfl ?_
  clear hL
  try simp [b_g_aS, b_g_x5, l_c7, t_c7, hn_k15, hn_k20]
  try clear b_g_aS
  try clear b_g_x5
  have b_g_aS := H.box (g_aS, s.cells) (by simp)
  have b_g_x5 := H.box (g_x5, c7) (by simp)
  (repeat refine AWp.seq ?_); refine AWp.region noP (by kernel_rfl) ?_
  try simp [b_g_aS, b_g_x5, l_c7, t_c7, hn_k15, hn_k20]
  try clear b_g_aS
  try clear b_g_x5
  (repeat refine AWp.seq ?_); refine AWp.condF (by first | (simp; done) | (simp; omega)) ?_
  refine AWp.skip ?_
  try simp
  have b_g_aS := H.box (g_aS, s.cells) (by simp)
  have b_g_x5 := H.box (g_x5, c7) (by simp)
  (repeat refine AWp.seq ?_); refine AWp.region noP (by kernel_rfl) ?_
  try simp [b_g_aS, b_g_x5, l_c7, t_c7, hn_k15, hn_k20]
  try clear b_g_aS
  try clear b_g_x5
  (repeat refine AWp.seq ?_); refine AWp.condF (by first | (simp; done) | (simp; omega)) ?_
  refine AWp.skip ?_
  try simp
  have b_g_aS := H.box (g_aS, s.cells) (by simp)
  have b_g_x5 := H.box (g_x5, c7) (by simp)
  (repeat refine AWp.seq ?_); refine AWp.region noP (by kernel_rfl) ?_
  try simp [b_g_aS, b_g_x5, l_c7, t_c7, hn_k15, hn_k20]
  try clear b_g_aS
  try clear b_g_x5
  exact AWp.ret (post_ret1 rfl (by simp))
end Go.T
