/- What the laws' measuring, copying and comparing functions compute, of machines. Machines that are right: what the program and the reference compute. Machines that are right: what the program and the reference compute; the law. -/
import Derived.Test.YtjpgifmkikmbgaaGreatD6
import Derived.Test.YtjpgifmkikmbgaaGreatY0
import Derived.Test.YtjpgifmkikmbgaaGreatT18
import Derived.Test.YtjpgifmkikmbgaaGreatL1
import Derived.Test.YtjpgifmkikmbgaaGreatMG
namespace Go.T
open Go Go.Proofs
set_option maxRecDepth 10000
set_option linter.unusedSimpArgs false
set_option linter.unusedVariables false
theorem c_szIntS (l : List Int) (hf : l.length ≤ most) (n : Int) (h0 : 0 ≤ n) (h1 : n ≤ 1048576) :
    PCall Tryz.prog 63 [ints l, .int .i64 n] (.int .i64 (szr l.length n)) := by
  refine pcall_of Tryz.func63 (by kernel_rfl) rfl (by simp [Tryz.f63]) ?_
  unfold most at hf
  unfold ints
  have hw : IntKind.wrap .i64 (n - (l.length : Int)) = n - l.length := wrap64 (by omega) (by omega)
  by_cases hb : n < l.length
  · have hc : n - (l.length : Int) < 0 := by omega
    have e := szr_neg hb
    repeat' (first
    | refine AWp.seq ?_
    | (refine AWp.region allP (by kernel_rfl) ?_; simp [hw, hc])
    | (refine AWp.condG ?_; simp [hw, hc])
    | (refine AWp.skip ?_; try simp)
    | (refine AWp.exit ?_; try simp)
    | refine AWp.block ?_
    | (refine AWp.ret (post_ret1 rfl ?_); (simp [e]; done))
    | (refine guardI (fun hq => ?_) (fun hq => ?_) <;> (try simp at hq) <;> (try simp [hw, hc]))
    | (refine condRunI (fun hq => ?_) (fun hq => ?_) <;> (try simp at hq) <;> (try simp [hw, hc]))
    | (refine iteI (fun hq => ?_) (fun hq => ?_) <;> (try simp [hw, hc])))
  · have hc : ¬ (n - (l.length : Int) < 0) := by omega
    have e := szr_pos (show (l.length : Int) ≤ n by omega)
    repeat' (first
    | refine AWp.seq ?_
    | (refine AWp.region allP (by kernel_rfl) ?_; simp [hw, hc])
    | (refine AWp.condG ?_; simp [hw, hc])
    | (refine AWp.skip ?_; try simp)
    | (refine AWp.exit ?_; try simp)
    | refine AWp.block ?_
    | (refine AWp.ret (post_ret1 rfl ?_); (simp [e]; done))
    | (refine guardI (fun hq => ?_) (fun hq => ?_) <;> (try simp at hq) <;> (try simp [hw, hc]))
    | (refine condRunI (fun hq => ?_) (fun hq => ?_) <;> (try simp at hq) <;> (try simp [hw, hc]))
    | (refine iteI (fun hq => ?_) (fun hq => ?_) <;> (try simp [hw, hc])))
theorem c_szPutS (l : List Pu) (hf : l.length ≤ most) (n : Int) (h0 : 0 ≤ n) (h1 : n ≤ 1048576) :
    PCall Tryz.prog 133 [.lst false 2 (l.map Pu.av), .int .i64 n] (.int .i64 (szr l.length n)) := by
  refine pcall_of Tryz.func133 (by kernel_rfl) rfl (by simp [Tryz.f133]) ?_
  unfold most at hf
  have hw : IntKind.wrap .i64 (n - (l.length : Int)) = n - l.length := wrap64 (by omega) (by omega)
  by_cases hb : n < l.length
  · have hc : n - (l.length : Int) < 0 := by omega
    have e := szr_neg hb
    repeat' (first
    | refine AWp.seq ?_
    | (refine AWp.region allP (by kernel_rfl) ?_; simp [hw, hc])
    | (refine AWp.condG ?_; simp [hw, hc])
    | (refine AWp.skip ?_; try simp)
    | (refine AWp.exit ?_; try simp)
    | refine AWp.block ?_
    | (refine AWp.ret (post_ret1 rfl ?_); (simp [e]; done))
    | (refine guardI (fun hq => ?_) (fun hq => ?_) <;> (try simp at hq) <;> (try simp [hw, hc]))
    | (refine condRunI (fun hq => ?_) (fun hq => ?_) <;> (try simp at hq) <;> (try simp [hw, hc]))
    | (refine iteI (fun hq => ?_) (fun hq => ?_) <;> (try simp [hw, hc])))
  · have hc : ¬ (n - (l.length : Int) < 0) := by omega
    have e := szr_pos (show (l.length : Int) ≤ n by omega)
    repeat' (first
    | refine AWp.seq ?_
    | (refine AWp.region allP (by kernel_rfl) ?_; simp [hw, hc])
    | (refine AWp.condG ?_; simp [hw, hc])
    | (refine AWp.skip ?_; try simp)
    | (refine AWp.exit ?_; try simp)
    | refine AWp.block ?_
    | (refine AWp.ret (post_ret1 rfl ?_); (simp [e]; done))
    | (refine guardI (fun hq => ?_) (fun hq => ?_) <;> (try simp at hq) <;> (try simp [hw, hc]))
    | (refine condRunI (fun hq => ?_) (fun hq => ?_) <;> (try simp at hq) <;> (try simp [hw, hc]))
    | (refine iteI (fun hq => ?_) (fun hq => ?_) <;> (try simp [hw, hc])))
theorem c_toIntS (l : List Int) (hl : l.length ≤ 1048576) : PCall Tryz.prog 68 [ints l] (ints l) := by
  refine pcall_of Tryz.func68 (by kernel_rfl) rfl (by simp [Tryz.f68]) ?_
  unfold ints
  (repeat refine AWp.seq ?_); refine AWp.region noP (by kernel_rfl) ?_
  simp
  (repeat refine AWp.seq ?_); refine AWp.region noP (by kernel_rfl) ?_
  simp
  refine ⟨by omega, by omega, fun g => ?_⟩
  (repeat refine AWp.seq ?_); refine AWp.region noP (by kernel_rfl) ?_
  simp
  (repeat refine AWp.seq ?_); refine AWp.block (AWp.rounds (fun m st => ∃ (i : Nat) (xs : List AV), m = l.length - i ∧ i ≤ l.length ∧ st.slots 0 = .lst false 1 (l.map (AV.int .i64)) ∧ st.slots 3 = .own g l.length l.length ∧ st.slots 4 = .int .i64 i ∧ st.mem g = some (.arr 3 1 l.length xs) ∧ xs.length = l.length ∧ xs.take i = (l.map (AV.int .i64)).take i) l.length ⟨0, _, by simp, by simp, by simp, by simp, by simp, by simp; rfl, by simp, by simp⟩ ?_)
  rintro R m st hR ⟨i, xs, rfl, hi, s0, s3, s4, hg, hn, hx⟩
  (repeat refine AWp.seq ?_); refine AWp.region noP (by kernel_rfl) ?_
  simp [s0, s4]
  refine AWp.cond (b := decide (i < l.length)) (by simp) (fun hb => ?_) (fun hb => ?_)
  · simp at hb
    have hq : l[i]? = some l[i] := List.getElem?_eq_getElem hb
    refine AWp.skip ?_
    simp
    (repeat refine AWp.seq ?_); refine AWp.block ?_; (repeat refine AWp.seq ?_); refine AWp.region noP (by kernel_rfl) ?_
    have hx1 : idxA Tryz.prog st.mem 41 (.lst false 1 (l.map (AV.int .i64))) (.int .i64 i) = some (.ref [.int .i64 l[i]]) := idx (y := .int .i64 l[i]) es_41 (by simp [hq])
    have hx2 : idxA Tryz.prog st.mem 41 (.own g l.length l.length) (.int .i64 i) = some (.elt g 1 i 0) := idx_own es_41 hg hn hb
    have hx3 : storeA st.mem (.elt g 1 i 0) (.int .i64 l[i]) = some _ := store_elt hg (by omega) rfl
    simp [s0, s3, s4, hx1, hx2, hx3]
    (repeat refine AWp.seq ?_); refine AWp.region noP (by kernel_rfl) ?_
    have hw : IntKind.wrap .i64 ((i : Int) + 1) = (i + 1 : Nat) := wrap64 (by omega) (by omega)
    simp [s4, hw]
    refine hR _ (l.length - (i + 1)) (by omega) ⟨i + 1, _, rfl, hb, by simp [s0], by simp [s3], by simp, by simp; rfl, by simp [hn], ?_⟩
    exact take_set hx (by simp [hn]) (by simp [hq])
  · simp at hb
    refine AWp.exit ?_
    simp
    (repeat refine AWp.seq ?_); refine AWp.region noP (by kernel_rfl) ?_
    simp [s3]
    have : i = l.length := by omega
    subst this
    have e : xs = l.map (AV.int .i64) := by rw [List.take_of_length_le (by omega), List.take_of_length_le (by simp)] at hx; exact hx
    subst e
    exact AWp.ret (post_own rfl (by simp; rfl) hg (by simp) rfl)
theorem c_eqIntS (l : List Int) (hl : l.length ≤ 1048576) : PCall Tryz.prog 73 [ints l, ints l] (.bool true) := by
  refine pcall_of Tryz.func73 (by kernel_rfl) rfl (by simp [Tryz.f73]) ?_
  unfold ints
  (repeat refine AWp.seq ?_); refine AWp.region noP (by kernel_rfl) ?_
  simp
  (repeat refine AWp.seq ?_); refine AWp.region noP (by kernel_rfl) ?_
  simp
  refine AWp.cond (b := false) (by simp) (fun h => by cases h) (fun _ => ?_)
  refine AWp.skip ?_
  simp
  (repeat refine AWp.seq ?_); refine AWp.region noP (by kernel_rfl) ?_
  simp
  (repeat refine AWp.seq ?_); refine AWp.block (AWp.rounds (fun m st => ∃ (i : Nat), m = l.length - i ∧ i ≤ l.length ∧ st.slots 0 = .lst false 1 (l.map (AV.int .i64)) ∧ st.slots 1 = .lst false 1 (l.map (AV.int .i64)) ∧ st.slots 5 = .int .i64 i) l.length ⟨0, by simp, by simp, by simp, by simp, by simp⟩ ?_)
  rintro R m st hR ⟨i, rfl, hi, s0, s1, s5⟩
  (repeat refine AWp.seq ?_); refine AWp.region noP (by kernel_rfl) ?_
  simp [s0, s5]
  refine AWp.cond (b := decide (i < l.length)) (by simp) (fun hb => ?_) (fun hb => ?_)
  · simp at hb
    have hq : l[i]? = some l[i] := List.getElem?_eq_getElem hb
    refine AWp.skip ?_
    simp
    (repeat refine AWp.seq ?_); refine AWp.block ?_; (repeat refine AWp.seq ?_); refine AWp.region noP (by kernel_rfl) ?_
    have hx1 : idxA Tryz.prog st.mem 41 (.lst false 1 (l.map (AV.int .i64))) (.int .i64 i) = some (.ref [.int .i64 l[i]]) := idx (y := .int .i64 l[i]) es_41 (by simp [hq])
    simp [s0, s1, s5, hx1]
    refine AWp.cond (b := false) (by simp) (fun h => by cases h) (fun _ => ?_)
    refine AWp.skip ?_
    simp
    (repeat refine AWp.seq ?_); refine AWp.region noP (by kernel_rfl) ?_
    have hw : IntKind.wrap .i64 ((i : Int) + 1) = (i + 1 : Nat) := wrap64 (by omega) (by omega)
    simp [s5, hw]
    exact hR _ (l.length - (i + 1)) (by omega) ⟨i + 1, rfl, hb, by simp [s0], by simp [s1], by simp⟩
  · simp at hb
    refine AWp.exit ?_
    simp
    (repeat refine AWp.seq ?_); refine AWp.region noP (by kernel_rfl) ?_
    simp
    exact AWp.ret (post_ret1 rfl (by simp))
theorem c_toPut0 (p : Pu) : PCall Tryz.prog 155 [p.av] p.av := by
  unfold Pu.av Pu.cells
  refine pcall_of Tryz.func155 (by kernel_rfl) rfl (by simp [Tryz.f155]) ?_
  (repeat refine AWp.seq ?_); refine AWp.region noP (by kernel_rfl) ?_
  simp [set_at]
  intro g1 g2 h2
  (repeat refine AWp.seq ?_); refine AWp.region noP (by kernel_rfl) ?_
  simp [set_at]
  intro g3 h3
  have n21 : g2 ≠ g1 := fun e => by simp [e] at h2
  have m12 := n21.symm
  have n32 : g3 ≠ g2 := fun e => by simp [e] at h3
  have n31 : g3 ≠ g1 := fun e => by simp [e, m12] at h3
  have m23 := n32.symm
  have m13 := n31.symm
  (repeat refine AWp.seq ?_); refine AWp.region noP (by kernel_rfl) ?_
  simp [set_at, n21, n32, n31, m12, m23, m13]
  (repeat refine AWp.seq ?_); refine AWp.region noP (by kernel_rfl) ?_
  simp [set_at, n21, n32, n31, m12, m23, m13]
  (repeat refine AWp.seq ?_); refine AWp.region noP (by kernel_rfl) ?_
  simp [set_at, n21, n32, n31, m12, m23, m13]
  exact AWp.ret (post_cell (.inl rfl) rfl (by simp [set_at, n21, n32, n31, m12, m23, m13]))
theorem c_eqPut0 (p : Pu) : PCall Tryz.prog 156 [p.av, p.av] (.bool true) := by
  unfold Pu.av Pu.cells
  refine pcall_of Tryz.func156 (by kernel_rfl) rfl (by simp [Tryz.f156]) ?_
  (repeat refine AWp.seq ?_); refine AWp.region noP (by kernel_rfl) ?_
  simp [set_at]
  intro g1 g2 h2
  have n21 : g2 ≠ g1 := fun e => by simp [e] at h2
  have m12 := n21.symm
  (repeat refine AWp.seq ?_); refine AWp.region noP (by kernel_rfl) ?_
  simp [set_at, n21, m12]
  refine AWp.cond (b := false) (by simp) (fun h => by cases h) (fun _ => ?_)
  refine AWp.skip ?_
  simp
  (repeat refine AWp.seq ?_); refine AWp.region noP (by kernel_rfl) ?_
  simp [set_at, n21, m12]
  refine AWp.cond (b := false) (by simp) (fun h => by cases h) (fun _ => ?_)
  refine AWp.skip ?_
  simp
  (repeat refine AWp.seq ?_); refine AWp.region noP (by kernel_rfl) ?_
  simp
  exact AWp.ret (post_ret1 rfl (by simp))
theorem c_toPutS (l : List Pu) (hl : l.length ≤ 1048576) (h : ∀ x ∈ l, PCall Tryz.prog 155 [x.av] x.av) :
    PCall Tryz.prog 134 [.lst false 2 (l.map Pu.av)] (.lst false 2 (l.map Pu.av)) := by
  refine pcall_of Tryz.func134 (by kernel_rfl) rfl (by simp [Tryz.f134]) ?_
  (repeat refine AWp.seq ?_); refine AWp.region noP (by kernel_rfl) ?_
  simp
  (repeat refine AWp.seq ?_); refine AWp.region noP (by kernel_rfl) ?_
  simp
  refine ⟨by omega, by omega, fun g => ?_⟩
  (repeat refine AWp.seq ?_); refine AWp.region noP (by kernel_rfl) ?_
  simp
  (repeat refine AWp.seq ?_); refine AWp.block (AWp.rounds (fun m st => ∃ (i : Nat) (xs : List AV), m = l.length - i ∧ i ≤ l.length ∧ st.slots 0 = .lst false 2 (l.map Pu.av) ∧ st.slots 3 = .own g l.length l.length ∧ st.slots 4 = .int .i64 i ∧ st.mem g = some (.arr 124 2 l.length xs) ∧ xs.length = l.length ∧ xs.take i = (l.map Pu.av).take i) l.length ⟨0, _, by simp, by simp, by simp, by simp, by simp, by simp; rfl, by simp, by simp⟩ ?_)
  rintro R m st hR ⟨i, xs, rfl, hi, s0, s3, s4, hg, hn, hx⟩
  (repeat refine AWp.seq ?_); refine AWp.region noP (by kernel_rfl) ?_
  simp [s0, s4]
  refine AWp.cond (b := decide (i < l.length)) (by simp) (fun hb => ?_) (fun hb => ?_)
  · simp at hb
    have hq : l[i]? = some l[i] := List.getElem?_eq_getElem hb
    refine AWp.skip ?_
    simp
    (repeat refine AWp.seq ?_); refine AWp.block ?_; (repeat refine AWp.seq ?_); refine AWp.region noP (by kernel_rfl) ?_
    have hx1 : idxA Tryz.prog st.mem 120 (.lst false 2 (l.map Pu.av)) (.int .i64 i) = some (.ref l[i].cells) := idx (y := l[i].av) es_120 (by simp [hq])
    simp [s0, s3, s4, hx1]
    refine aop_call _ _ _ _ _ _ _ _ (h l[i] (List.getElem_mem _)) ?_
    have hx2 : idxA Tryz.prog st.mem 81 (.own g l.length l.length) (.int .i64 i) = some (.elt g 2 i 0) := idx_own es_81 hg hn hb
    have hx3 : storeA st.mem (.elt g 2 i 0) (.agg l[i].cells) = some _ := store_elt hg (by omega) (by simp [Pu.cells_len])
    simp [s0, s3, s4, hx2, Pu.av, hx3]
    (repeat refine AWp.seq ?_); refine AWp.region noP (by kernel_rfl) ?_
    have hw : IntKind.wrap .i64 ((i : Int) + 1) = (i + 1 : Nat) := wrap64 (by omega) (by omega)
    simp [s4, hw]
    refine hR _ (l.length - (i + 1)) (by omega) ⟨i + 1, _, rfl, hb, by simp [s0], by simp [s3], by simp, by simp; rfl, by simp [hn], ?_⟩
    exact take_set hx (by simp [hn]) (by simp [hq, Pu.av])
  · simp at hb
    refine AWp.exit ?_
    simp
    (repeat refine AWp.seq ?_); refine AWp.region noP (by kernel_rfl) ?_
    simp [s3]
    have : i = l.length := by omega
    subst this
    have e : xs = l.map Pu.av := by rw [List.take_of_length_le (by omega), List.take_of_length_le (by simp)] at hx; exact hx
    subst e
    exact AWp.ret (post_own rfl (by simp; rfl) hg (by simp) rfl)
theorem c_eqPutS (l : List Pu) (hl : l.length ≤ 1048576) (h : ∀ x ∈ l, PCall Tryz.prog 156 [x.av, x.av] (.bool true)) :
    PCall Tryz.prog 135 [.lst false 2 (l.map Pu.av), .lst false 2 (l.map Pu.av)] (.bool true) := by
  refine pcall_of Tryz.func135 (by kernel_rfl) rfl (by simp [Tryz.f135]) ?_
  (repeat refine AWp.seq ?_); refine AWp.region noP (by kernel_rfl) ?_
  simp
  (repeat refine AWp.seq ?_); refine AWp.region noP (by kernel_rfl) ?_
  simp
  refine AWp.cond (b := false) (by simp) (fun h => by cases h) (fun _ => ?_)
  refine AWp.skip ?_
  simp
  (repeat refine AWp.seq ?_); refine AWp.region noP (by kernel_rfl) ?_
  simp
  (repeat refine AWp.seq ?_); refine AWp.block (AWp.rounds (fun m st => ∃ (i : Nat), m = l.length - i ∧ i ≤ l.length ∧ st.slots 0 = .lst false 2 (l.map Pu.av) ∧ st.slots 1 = .lst false 2 (l.map Pu.av) ∧ st.slots 5 = .int .i64 i) l.length ⟨0, by simp, by simp, by simp, by simp, by simp⟩ ?_)
  rintro R m st hR ⟨i, rfl, hi, s0, s1, s5⟩
  (repeat refine AWp.seq ?_); refine AWp.region noP (by kernel_rfl) ?_
  simp [s0, s5]
  refine AWp.cond (b := decide (i < l.length)) (by simp) (fun hb => ?_) (fun hb => ?_)
  · simp at hb
    have hq : l[i]? = some l[i] := List.getElem?_eq_getElem hb
    refine AWp.skip ?_
    simp
    (repeat refine AWp.seq ?_); refine AWp.block ?_; (repeat refine AWp.seq ?_); refine AWp.region allP (by kernel_rfl) ?_
    have hx1 : idxA Tryz.prog st.mem 81 (.lst false 2 (l.map Pu.av)) (.int .i64 i) = some (.ref l[i].cells) := idx (y := l[i].av) es_81 (by simp [hq])
    simp [s0, s1, s5, hx1]
    refine aop_call _ _ _ _ _ _ _ _ (h l[i] (List.getElem_mem _)) ?_
    simp
    refine AWp.cond (b := false) (by simp) (fun h => by cases h) (fun _ => ?_)
    refine AWp.skip ?_
    simp
    (repeat refine AWp.seq ?_); refine AWp.region noP (by kernel_rfl) ?_
    have hw : IntKind.wrap .i64 ((i : Int) + 1) = (i + 1 : Nat) := wrap64 (by omega) (by omega)
    simp [s5, hw]
    exact hR _ (l.length - (i + 1)) (by omega) ⟨i + 1, rfl, hb, by simp [s0], by simp [s1], by simp⟩
  · simp at hb
    refine AWp.exit ?_
    simp
    (repeat refine AWp.seq ?_); refine AWp.region noP (by kernel_rfl) ?_
    simp
    exact AWp.ret (post_ret1 rfl (by simp))
theorem c_szHand0 (h : Hd) (hf : h.fit) (n : Int) (h0 : 0 ≤ n) (h1 : n ≤ 1048576) :
    PCall Tryz.prog 104 [h.av, .int .i64 n] (.int .i64 (szr (h.stack.length + (h.regs.length + (h.shelf.length))) n)) := by
  obtain ⟨f1, f2, f3⟩ := hf
  unfold Hd.av Hd.cells
  refine pcall_of Tryz.func104 (by kernel_rfl) rfl (by simp [Tryz.f104]) ?_
  (repeat refine AWp.seq ?_); refine AWp.region noP (by kernel_rfl) ?_
  simp
  intro g
  (repeat refine AWp.seq ?_); refine AWp.region noP (by kernel_rfl) ?_
  simp
  refine aop_call _ _ _ _ _ _ _ _ (c_szIntS h.stack f1 _ (by omega) (by omega)) ?_
  simp
  (repeat refine AWp.seq ?_); refine AWp.region noP (by kernel_rfl) ?_
  simp
  have z0 : szr (h.stack.length + (h.regs.length + (h.shelf.length))) n = if szr (h.stack.length) n < 0 then -1 else szr (h.regs.length + (h.shelf.length)) (szr (h.stack.length) n) := szr_add _ _ _
  refine AWp.cond (b := decide ((szr (h.stack.length) n) < 0)) (by simp) (fun hb => ?_) (fun hb0 => ?_)
  · simp at hb
    (repeat refine AWp.seq ?_); refine AWp.region noP (by kernel_rfl) ?_
    simp
    have e : szr (h.stack.length) n = -1 := by unfold szr at hb ⊢; split at hb <;> rename_i hq <;> first | omega | rw [if_neg hq]
    refine AWp.ret (post_ret1 rfl ?_)
    simp only [put_slot, reduceIte]
    congr 1
    rw [z0, e]; rfl
  simp at hb0
  refine AWp.skip ?_
  simp
  have e0 : szr (h.stack.length) n = (szr (h.stack.length) n) := rfl
  have l0 : szr (h.stack.length) n ≤ 1048576 := by unfold szr; split <;> omega
  have y0 := z0
  rw [e0, if_neg (by omega)] at y0
  (repeat refine AWp.seq ?_); refine AWp.region noP (by kernel_rfl) ?_
  simp
  refine aop_call _ _ _ _ _ _ _ _ (c_szIntS h.regs f2 _ (by omega) (by omega)) ?_
  simp
  (repeat refine AWp.seq ?_); refine AWp.region noP (by kernel_rfl) ?_
  simp
  have z1 : szr (h.regs.length + (h.shelf.length)) (szr (h.stack.length) n) = if szr (h.regs.length) (szr (h.stack.length) n) < 0 then -1 else szr (h.shelf.length) (szr (h.regs.length) (szr (h.stack.length) n)) := szr_add _ _ _
  refine AWp.cond (b := decide ((szr (h.regs.length) (szr (h.stack.length) n)) < 0)) (by simp) (fun hb => ?_) (fun hb1 => ?_)
  · simp at hb
    (repeat refine AWp.seq ?_); refine AWp.region noP (by kernel_rfl) ?_
    simp
    have e : szr (h.regs.length) (szr (h.stack.length) n) = -1 := by unfold szr at hb ⊢; split at hb <;> rename_i hq <;> first | omega | rw [if_neg hq]
    refine AWp.ret (post_ret1 rfl ?_)
    simp only [put_slot, reduceIte]
    congr 1
    rw [y0, z1, e]; rfl
  simp at hb1
  refine AWp.skip ?_
  simp
  have e1 : szr (h.regs.length) (szr (h.stack.length) n) = (szr (h.regs.length) (szr (h.stack.length) n)) := rfl
  have l1 : szr (h.regs.length) (szr (h.stack.length) n) ≤ 1048576 := by unfold szr; split <;> omega
  have y1 := z1
  rw [e1, if_neg (by omega)] at y1
  (repeat refine AWp.seq ?_); refine AWp.region noP (by kernel_rfl) ?_
  simp
  refine aop_call _ _ _ _ _ _ _ _ (c_szPutS h.shelf f3 _ (by omega) (by omega)) ?_
  simp
  (repeat refine AWp.seq ?_); refine AWp.region noP (by kernel_rfl) ?_
  simp
  have z2 : szr (h.shelf.length) (szr (h.regs.length) (szr (h.stack.length) n)) = szr (h.shelf.length) (szr (h.regs.length) (szr (h.stack.length) n)) := rfl
  refine AWp.cond (b := decide ((szr (h.shelf.length) (szr (h.regs.length) (szr (h.stack.length) n))) < 0)) (by simp) (fun hb => ?_) (fun hb2 => ?_)
  · simp at hb
    (repeat refine AWp.seq ?_); refine AWp.region noP (by kernel_rfl) ?_
    simp
    have e : szr (h.shelf.length) (szr (h.regs.length) (szr (h.stack.length) n)) = -1 := by unfold szr at hb ⊢; split at hb <;> rename_i hq <;> first | omega | rw [if_neg hq]
    refine AWp.ret (post_ret1 rfl ?_)
    simp only [put_slot, reduceIte]
    congr 1
    rw [y0, y1, z2, e]
  simp at hb2
  refine AWp.skip ?_
  simp
  have e2 : szr (h.shelf.length) (szr (h.regs.length) (szr (h.stack.length) n)) = (szr (h.shelf.length) (szr (h.regs.length) (szr (h.stack.length) n))) := rfl
  have l2 : szr (h.shelf.length) (szr (h.regs.length) (szr (h.stack.length) n)) ≤ 1048576 := by unfold szr; split <;> omega
  have y2 := e2
  (repeat refine AWp.seq ?_); refine AWp.region noP (by kernel_rfl) ?_
  simp
  refine AWp.ret (post_ret1 rfl ?_)
  simp only [put_slot, reduceIte]
  congr 1
  rw [y0, y1, y2]
theorem c_toHand0 (h : Hd) (ht : h.tot ≤ 1048576) : PCall Tryz.prog 105 [h.av] h.av := by
  have h3 : h.tot = h.stack.length + (h.regs.length + h.shelf.length) := rfl
  unfold Hd.av Hd.cells
  refine pcall_of Tryz.func105 (by kernel_rfl) rfl (by simp [Tryz.f105]) ?_
  (repeat refine AWp.seq ?_); refine AWp.region noP (by kernel_rfl) ?_
  simp [set_at]
  intro g1 g2 h2
  (repeat refine AWp.seq ?_); refine AWp.region noP (by kernel_rfl) ?_
  simp [set_at]
  intro g3 h3
  have n21 : g2 ≠ g1 := fun e => by simp [e] at h2
  have m12 := n21.symm
  have n32 : g3 ≠ g2 := fun e => by simp [e] at h3
  have n31 : g3 ≠ g1 := fun e => by simp [e, m12] at h3
  have m23 := n32.symm
  have m13 := n31.symm
  (repeat refine AWp.seq ?_); refine AWp.region noP (by kernel_rfl) ?_
  simp [set_at, n21, n32, n31, m12, m23, m13]
  (repeat refine AWp.seq ?_); refine AWp.region noP (by kernel_rfl) ?_
  simp [set_at, n21, n32, n31, m12, m23, m13]
  refine aop_call _ _ _ _ _ _ _ _ (c_toIntS h.stack (by omega)) ?_
  simp [set_at, n21, n32, n31, m12, m23, m13, ints]
  (repeat refine AWp.seq ?_); refine AWp.region noP (by kernel_rfl) ?_
  simp [set_at, n21, n32, n31, m12, m23, m13]
  refine aop_call _ _ _ _ _ _ _ _ (c_toIntS h.regs (by omega)) ?_
  simp [set_at, n21, n32, n31, m12, m23, m13, ints]
  (repeat refine AWp.seq ?_); refine AWp.region noP (by kernel_rfl) ?_
  simp [set_at, n21, n32, n31, m12, m23, m13]
  refine aop_call _ _ _ _ _ _ _ _ (c_toPutS h.shelf (by omega) (fun x _ => c_toPut0 x)) ?_
  simp [set_at, n21, n32, n31, m12, m23, m13, ints]
  (repeat refine AWp.seq ?_); refine AWp.region noP (by kernel_rfl) ?_
  simp [set_at, n21, n32, n31, m12, m23, m13]
  (repeat refine AWp.seq ?_); refine AWp.region noP (by kernel_rfl) ?_
  simp [set_at, n21, n32, n31, m12, m23, m13]
  (repeat refine AWp.seq ?_); refine AWp.region noP (by kernel_rfl) ?_
  simp [set_at, n21, n32, n31, m12, m23, m13, ints]
  exact AWp.ret (post_cell (.inl rfl) rfl (by simp [set_at, n21, n32, n31, m12, m23, m13]))
theorem c_eqHand0 (h : Hd) (ht : h.tot ≤ 1048576) : PCall Tryz.prog 107 [h.av, h.av] (.bool true) := by
  have h3 : h.tot = h.stack.length + (h.regs.length + h.shelf.length) := rfl
  unfold Hd.av Hd.cells
  refine pcall_of Tryz.func107 (by kernel_rfl) rfl (by simp [Tryz.f107]) ?_
  (repeat refine AWp.seq ?_); refine AWp.region noP (by kernel_rfl) ?_
  simp [set_at]
  intro g1 g2 h2
  have n21 : g2 ≠ g1 := fun e => by simp [e] at h2
  have m12 := n21.symm
  (repeat refine AWp.seq ?_); refine AWp.region noP (by kernel_rfl) ?_
  simp [set_at, n21, m12]
  refine AWp.cond (b := false) (by simp) (fun h => by cases h) (fun _ => ?_)
  refine AWp.skip ?_
  simp
  (repeat refine AWp.seq ?_); refine AWp.region allP (by kernel_rfl) ?_
  simp [set_at, n21, m12]
  refine aop_call _ _ _ _ _ _ _ _ (c_eqIntS h.stack (by omega)) ?_
  simp [set_at, n21, m12]
  refine AWp.cond (b := false) (by simp) (fun h => by cases h) (fun _ => ?_)
  refine AWp.skip ?_
  simp
  (repeat refine AWp.seq ?_); refine AWp.region allP (by kernel_rfl) ?_
  simp [set_at, n21, m12]
  refine aop_call _ _ _ _ _ _ _ _ (c_eqIntS h.regs (by omega)) ?_
  simp [set_at, n21, m12]
  refine AWp.cond (b := false) (by simp) (fun h => by cases h) (fun _ => ?_)
  refine AWp.skip ?_
  simp
  (repeat refine AWp.seq ?_); refine AWp.region allP (by kernel_rfl) ?_
  simp [set_at, n21, m12]
  refine aop_call _ _ _ _ _ _ _ _ (c_eqPutS h.shelf (by omega) (fun x _ => c_eqPut0 x)) ?_
  simp [set_at, n21, m12]
  refine AWp.cond (b := false) (by simp) (fun h => by cases h) (fun _ => ?_)
  refine AWp.skip ?_
  simp
  (repeat refine AWp.seq ?_); refine AWp.region noP (by kernel_rfl) ?_
  simp [set_at, n21, m12]
  refine AWp.cond (b := false) (by simp) (fun h => by cases h) (fun _ => ?_)
  refine AWp.skip ?_
  simp
  (repeat refine AWp.seq ?_); refine AWp.region noP (by kernel_rfl) ?_
  simp [set_at, n21, m12]
  refine AWp.cond (b := false) (by simp) (fun h => by cases h) (fun _ => ?_)
  refine AWp.skip ?_
  simp
  (repeat refine AWp.seq ?_); refine AWp.region noP (by kernel_rfl) ?_
  simp
  exact AWp.ret (post_ret1 rfl (by simp))
theorem c_szHandS (l : List Hd) (hf : l.length ≤ most) (h : ∀ x ∈ l, ∀ n : Int, 0 ≤ n → n ≤ 1048576 → PCall Tryz.prog 104 [x.av, .int .i64 n] (.int .i64 (szr x.tot n))) (n : Int) (h0 : 0 ≤ n) (h1 : n ≤ 1048576) :
    PCall Tryz.prog 64 [.lst false 6 (l.map Hd.av), .int .i64 n] (.int .i64 (szr (totL Hd.tot l) n)) := by
  refine pcall_of Tryz.func64 (by kernel_rfl) rfl (by simp [Tryz.f64]) ?_
  unfold most at hf
  (repeat refine AWp.seq ?_); refine AWp.region noP (by kernel_rfl) ?_
  simp
  have hw : IntKind.wrap .i64 (n - (l.length : Int)) = n - l.length := wrap64 (by omega) (by omega)
  (repeat refine AWp.seq ?_); refine AWp.region noP (by kernel_rfl) ?_
  simp [hw]
  (repeat refine AWp.seq ?_); refine AWp.region noP (by kernel_rfl) ?_
  simp
  have ht := totL_sum Hd.tot l
  refine AWp.cond (b := decide (n - (l.length : Int) < 0)) (by simp) (fun hb => ?_) (fun hb => ?_)
  · (repeat refine AWp.seq ?_); refine AWp.region noP (by kernel_rfl) ?_
    simp
    simp at hb
    exact AWp.ret (post_ret1 rfl (by simp; rw [szr_neg (by omega)]))
  simp at hb
  refine AWp.skip ?_
  simp
  (repeat refine AWp.seq ?_); refine AWp.region noP (by kernel_rfl) ?_
  simp
  (repeat refine AWp.seq ?_); refine AWp.block (AWp.rounds (fun m st => ∃ (i : Nat) (q : Int), m = l.length - i ∧ i ≤ l.length ∧ st.slots 0 = .lst false 6 (l.map Hd.av) ∧ st.slots 1 = .int .i64 q ∧ st.slots 5 = .int .i64 i ∧ 0 ≤ q ∧ q ≤ 1048576 ∧ szr (totL Hd.tot l) n = szr (sumL Hd.tot (l.drop i)) q) l.length ⟨0, n - l.length, by simp, by simp, by simp, by simp, by simp, by omega, by omega, by
    rw [ht, szr_add, szr_pos (show ((l.length : Nat) : Int) ≤ n by omega), if_neg (by omega)]; rfl⟩ ?_)
  rintro R m st hR ⟨i, q, rfl, hi, s0, s1, s5, hq0, hq1, hr⟩
  (repeat refine AWp.seq ?_); refine AWp.region noP (by kernel_rfl) ?_
  simp [s0, s5]
  refine AWp.cond (b := decide (i < l.length)) (by simp) (fun hb => ?_) (fun hb => ?_)
  · simp at hb
    have hg : l[i]? = some l[i] := List.getElem?_eq_getElem hb
    have hd : l.drop i = l[i] :: l.drop (i + 1) := List.drop_eq_getElem_cons hb
    refine AWp.skip ?_
    simp
    (repeat refine AWp.seq ?_); refine AWp.block ?_; (repeat refine AWp.seq ?_); refine AWp.region allP (by kernel_rfl) ?_
    have hx : idxA Tryz.prog st.mem 42 (.lst false 6 (l.map Hd.av)) (.int .i64 i) = some (.ref l[i].cells) := idx (y := l[i].av) es_42 (by simp [hg])
    have hc : List.take 6 l[i].cells = l[i].cells := List.take_of_length_le (by rw [Hd.cells_len]; exact Nat.le_refl _)
    simp [s0, s1, s5, hx, Hd.cells_len, hc]
    refine aop_call _ _ _ _ _ _ _ _ (h l[i] (List.getElem_mem _) q hq0 hq1) ?_
    simp
    have hz : szr (totL Hd.tot l) n = if szr l[i].tot q < 0 then -1 else szr (sumL Hd.tot (l.drop (i + 1))) (szr l[i].tot q) := by rw [hr, hd, sumL, szr_add]
    (repeat refine AWp.seq ?_); refine AWp.region noP (by kernel_rfl) ?_
    simp
    refine AWp.cond (b := decide (szr l[i].tot q < 0)) (by simp) (fun he => ?_) (fun he => ?_)
    · simp at he
      (repeat refine AWp.seq ?_); refine AWp.region noP (by kernel_rfl) ?_
      simp
      exact AWp.ret (post_ret1 rfl (by simp; rw [hz, if_pos he]))
    · simp at he
      refine AWp.skip ?_
      simp
      refine AWp.region noP (by kernel_rfl) ?_
      have hw : IntKind.wrap .i64 ((i : Int) + 1) = (i + 1 : Nat) := wrap64 (by omega) (by omega)
      simp [s0, s1, s5, hw]
      have hle : szr l[i].tot q ≤ 1048576 := by unfold szr; split <;> omega
      refine hR _ (l.length - (i + 1)) (by omega) ⟨i + 1, szr l[i].tot q, rfl, hb, by simp [s0], by simp, by simp, he, hle, ?_⟩
      rw [hz, if_neg (by omega)]
  · simp at hb
    refine AWp.exit ?_
    simp
    (repeat refine AWp.seq ?_); refine AWp.region noP (by kernel_rfl) ?_
    simp [s1]
    have : i = l.length := by omega
    subst this
    refine AWp.ret (post_ret1 rfl ?_)
    simp [hr, sumL]
    rw [szr_pos (by omega)]; simp
theorem c_toHandS (l : List Hd) (hl : l.length ≤ 1048576) (h : ∀ x ∈ l, PCall Tryz.prog 105 [x.av] x.av) :
    PCall Tryz.prog 69 [.lst false 6 (l.map Hd.av)] (.lst false 6 (l.map Hd.av)) := by
  refine pcall_of Tryz.func69 (by kernel_rfl) rfl (by simp [Tryz.f69]) ?_
  (repeat refine AWp.seq ?_); refine AWp.region noP (by kernel_rfl) ?_
  simp
  (repeat refine AWp.seq ?_); refine AWp.region noP (by kernel_rfl) ?_
  simp
  refine ⟨by omega, by omega, fun g => ?_⟩
  (repeat refine AWp.seq ?_); refine AWp.region noP (by kernel_rfl) ?_
  simp
  (repeat refine AWp.seq ?_); refine AWp.block (AWp.rounds (fun m st => ∃ (i : Nat) (xs : List AV), m = l.length - i ∧ i ≤ l.length ∧ st.slots 0 = .lst false 6 (l.map Hd.av) ∧ st.slots 3 = .own g l.length l.length ∧ st.slots 4 = .int .i64 i ∧ st.mem g = some (.arr 83 6 l.length xs) ∧ xs.length = l.length ∧ xs.take i = (l.map Hd.av).take i) l.length ⟨0, _, by simp, by simp, by simp, by simp, by simp, by simp; rfl, by simp, by simp⟩ ?_)
  rintro R m st hR ⟨i, xs, rfl, hi, s0, s3, s4, hg, hn, hx⟩
  (repeat refine AWp.seq ?_); refine AWp.region noP (by kernel_rfl) ?_
  simp [s0, s4]
  refine AWp.cond (b := decide (i < l.length)) (by simp) (fun hb => ?_) (fun hb => ?_)
  · simp at hb
    have hq : l[i]? = some l[i] := List.getElem?_eq_getElem hb
    refine AWp.skip ?_
    simp
    (repeat refine AWp.seq ?_); refine AWp.block ?_; (repeat refine AWp.seq ?_); refine AWp.region noP (by kernel_rfl) ?_
    have hx1 : idxA Tryz.prog st.mem 42 (.lst false 6 (l.map Hd.av)) (.int .i64 i) = some (.ref l[i].cells) := idx (y := l[i].av) es_42 (by simp [hq])
    simp [s0, s3, s4, hx1]
    refine aop_call _ _ _ _ _ _ _ _ (h l[i] (List.getElem_mem _)) ?_
    have hx2 : idxA Tryz.prog st.mem 47 (.own g l.length l.length) (.int .i64 i) = some (.elt g 6 i 0) := idx_own es_47 hg hn hb
    have hx3 : storeA st.mem (.elt g 6 i 0) (.agg l[i].cells) = some _ := store_elt hg (by omega) (by simp [Hd.cells_len])
    simp [s0, s3, s4, hx2, Hd.av, hx3]
    (repeat refine AWp.seq ?_); refine AWp.region noP (by kernel_rfl) ?_
    have hw : IntKind.wrap .i64 ((i : Int) + 1) = (i + 1 : Nat) := wrap64 (by omega) (by omega)
    simp [s4, hw]
    refine hR _ (l.length - (i + 1)) (by omega) ⟨i + 1, _, rfl, hb, by simp [s0], by simp [s3], by simp, by simp; rfl, by simp [hn], ?_⟩
    exact take_set hx (by simp [hn]) (by simp [hq, Hd.av])
  · simp at hb
    refine AWp.exit ?_
    simp
    (repeat refine AWp.seq ?_); refine AWp.region noP (by kernel_rfl) ?_
    simp [s3]
    have : i = l.length := by omega
    subst this
    have e : xs = l.map Hd.av := by rw [List.take_of_length_le (by omega), List.take_of_length_le (by simp)] at hx; exact hx
    subst e
    exact AWp.ret (post_own rfl (by simp; rfl) hg (by simp) rfl)
theorem c_eqHandS (l : List Hd) (hl : l.length ≤ 1048576) (h : ∀ x ∈ l, PCall Tryz.prog 107 [x.av, x.av] (.bool true)) :
    PCall Tryz.prog 74 [.lst false 6 (l.map Hd.av), .lst false 6 (l.map Hd.av)] (.bool true) := by
  refine pcall_of Tryz.func74 (by kernel_rfl) rfl (by simp [Tryz.f74]) ?_
  (repeat refine AWp.seq ?_); refine AWp.region noP (by kernel_rfl) ?_
  simp
  (repeat refine AWp.seq ?_); refine AWp.region noP (by kernel_rfl) ?_
  simp
  refine AWp.cond (b := false) (by simp) (fun h => by cases h) (fun _ => ?_)
  refine AWp.skip ?_
  simp
  (repeat refine AWp.seq ?_); refine AWp.region noP (by kernel_rfl) ?_
  simp
  (repeat refine AWp.seq ?_); refine AWp.block (AWp.rounds (fun m st => ∃ (i : Nat), m = l.length - i ∧ i ≤ l.length ∧ st.slots 0 = .lst false 6 (l.map Hd.av) ∧ st.slots 1 = .lst false 6 (l.map Hd.av) ∧ st.slots 5 = .int .i64 i) l.length ⟨0, by simp, by simp, by simp, by simp, by simp⟩ ?_)
  rintro R m st hR ⟨i, rfl, hi, s0, s1, s5⟩
  (repeat refine AWp.seq ?_); refine AWp.region noP (by kernel_rfl) ?_
  simp [s0, s5]
  refine AWp.cond (b := decide (i < l.length)) (by simp) (fun hb => ?_) (fun hb => ?_)
  · simp at hb
    have hq : l[i]? = some l[i] := List.getElem?_eq_getElem hb
    refine AWp.skip ?_
    simp
    (repeat refine AWp.seq ?_); refine AWp.block ?_; (repeat refine AWp.seq ?_); refine AWp.region allP (by kernel_rfl) ?_
    have hx1 : idxA Tryz.prog st.mem 47 (.lst false 6 (l.map Hd.av)) (.int .i64 i) = some (.ref l[i].cells) := idx (y := l[i].av) es_47 (by simp [hq])
    simp [s0, s1, s5, hx1]
    refine aop_call _ _ _ _ _ _ _ _ (h l[i] (List.getElem_mem _)) ?_
    simp
    refine AWp.cond (b := false) (by simp) (fun h => by cases h) (fun _ => ?_)
    refine AWp.skip ?_
    simp
    (repeat refine AWp.seq ?_); refine AWp.region noP (by kernel_rfl) ?_
    have hw : IntKind.wrap .i64 ((i : Int) + 1) = (i + 1 : Nat) := wrap64 (by omega) (by omega)
    simp [s5, hw]
    exact hR _ (l.length - (i + 1)) (by omega) ⟨i + 1, rfl, hb, by simp [s0], by simp [s1], by simp⟩
  · simp at hb
    refine AWp.exit ?_
    simp
    (repeat refine AWp.seq ?_); refine AWp.region noP (by kernel_rfl) ?_
    simp
    exact AWp.ret (post_ret1 rfl (by simp))
theorem c_szMach0 (m : Mc) (hf : m.fit) (n : Int) (h0 : 0 ≤ n) (h1 : n ≤ 1048576) :
    PCall Tryz.prog 29 [m.av, .int .i64 n] (.int .i64 (szr (m.mem.length + (totL Hd.tot m.hands + (m.out.length))) n)) := by
  obtain ⟨f1, f2, f3, f4⟩ := hf
  unfold Mc.av Mc.cells
  refine pcall_of Tryz.func29 (by kernel_rfl) rfl (by simp [Tryz.f29]) ?_
  (repeat refine AWp.seq ?_); refine AWp.region noP (by kernel_rfl) ?_
  simp
  intro g
  (repeat refine AWp.seq ?_); refine AWp.region noP (by kernel_rfl) ?_
  simp
  refine aop_call _ _ _ _ _ _ _ _ (c_szIntS m.mem f1 _ (by omega) (by omega)) ?_
  simp
  (repeat refine AWp.seq ?_); refine AWp.region noP (by kernel_rfl) ?_
  simp
  have z0 : szr (m.mem.length + (totL Hd.tot m.hands + (m.out.length))) n = if szr (m.mem.length) n < 0 then -1 else szr (totL Hd.tot m.hands + (m.out.length)) (szr (m.mem.length) n) := szr_add _ _ _
  refine AWp.cond (b := decide ((szr (m.mem.length) n) < 0)) (by simp) (fun hb => ?_) (fun hb0 => ?_)
  · simp at hb
    (repeat refine AWp.seq ?_); refine AWp.region noP (by kernel_rfl) ?_
    simp
    have e : szr (m.mem.length) n = -1 := by unfold szr at hb ⊢; split at hb <;> rename_i hq <;> first | omega | rw [if_neg hq]
    refine AWp.ret (post_ret1 rfl ?_)
    simp only [put_slot, reduceIte]
    congr 1
    rw [z0, e]; rfl
  simp at hb0
  refine AWp.skip ?_
  simp
  have e0 : szr (m.mem.length) n = (szr (m.mem.length) n) := rfl
  have l0 : szr (m.mem.length) n ≤ 1048576 := by unfold szr; split <;> omega
  have y0 := z0
  rw [e0, if_neg (by omega)] at y0
  (repeat refine AWp.seq ?_); refine AWp.region noP (by kernel_rfl) ?_
  simp
  refine aop_call _ _ _ _ _ _ _ _ (c_szHandS m.hands f2 (fun x hx => c_szHand0 x (f3 x hx)) _ (by omega) (by omega)) ?_
  simp
  (repeat refine AWp.seq ?_); refine AWp.region noP (by kernel_rfl) ?_
  simp
  have z1 : szr (totL Hd.tot m.hands + (m.out.length)) (szr (m.mem.length) n) = if szr (totL Hd.tot m.hands) (szr (m.mem.length) n) < 0 then -1 else szr (m.out.length) (szr (totL Hd.tot m.hands) (szr (m.mem.length) n)) := szr_add _ _ _
  refine AWp.cond (b := decide ((szr (totL Hd.tot m.hands) (szr (m.mem.length) n)) < 0)) (by simp) (fun hb => ?_) (fun hb1 => ?_)
  · simp at hb
    (repeat refine AWp.seq ?_); refine AWp.region noP (by kernel_rfl) ?_
    simp
    have e : szr (totL Hd.tot m.hands) (szr (m.mem.length) n) = -1 := by unfold szr at hb ⊢; split at hb <;> rename_i hq <;> first | omega | rw [if_neg hq]
    refine AWp.ret (post_ret1 rfl ?_)
    simp only [put_slot, reduceIte]
    congr 1
    rw [y0, z1, e]; rfl
  simp at hb1
  refine AWp.skip ?_
  simp
  have e1 : szr (totL Hd.tot m.hands) (szr (m.mem.length) n) = (szr (totL Hd.tot m.hands) (szr (m.mem.length) n)) := rfl
  have l1 : szr (totL Hd.tot m.hands) (szr (m.mem.length) n) ≤ 1048576 := by unfold szr; split <;> omega
  have y1 := z1
  rw [e1, if_neg (by omega)] at y1
  (repeat refine AWp.seq ?_); refine AWp.region noP (by kernel_rfl) ?_
  simp
  refine aop_call _ _ _ _ _ _ _ _ (c_szIntS m.out f4 _ (by omega) (by omega)) ?_
  simp
  (repeat refine AWp.seq ?_); refine AWp.region noP (by kernel_rfl) ?_
  simp
  have z2 : szr (m.out.length) (szr (totL Hd.tot m.hands) (szr (m.mem.length) n)) = szr (m.out.length) (szr (totL Hd.tot m.hands) (szr (m.mem.length) n)) := rfl
  refine AWp.cond (b := decide ((szr (m.out.length) (szr (totL Hd.tot m.hands) (szr (m.mem.length) n))) < 0)) (by simp) (fun hb => ?_) (fun hb2 => ?_)
  · simp at hb
    (repeat refine AWp.seq ?_); refine AWp.region noP (by kernel_rfl) ?_
    simp
    have e : szr (m.out.length) (szr (totL Hd.tot m.hands) (szr (m.mem.length) n)) = -1 := by unfold szr at hb ⊢; split at hb <;> rename_i hq <;> first | omega | rw [if_neg hq]
    refine AWp.ret (post_ret1 rfl ?_)
    simp only [put_slot, reduceIte]
    congr 1
    rw [y0, y1, z2, e]
  simp at hb2
  refine AWp.skip ?_
  simp
  have e2 : szr (m.out.length) (szr (totL Hd.tot m.hands) (szr (m.mem.length) n)) = (szr (m.out.length) (szr (totL Hd.tot m.hands) (szr (m.mem.length) n))) := rfl
  have l2 : szr (m.out.length) (szr (totL Hd.tot m.hands) (szr (m.mem.length) n)) ≤ 1048576 := by unfold szr; split <;> omega
  have y2 := e2
  (repeat refine AWp.seq ?_); refine AWp.region noP (by kernel_rfl) ?_
  simp
  refine AWp.ret (post_ret1 rfl ?_)
  simp only [put_slot, reduceIte]
  congr 1
  rw [y0, y1, y2]
theorem c_toMach0 (m : Mc) (ht : m.tot ≤ 1048576) : PCall Tryz.prog 31 [m.av] m.av := by
  have h1 := totL_len Hd.tot m.hands
  have h3 : m.tot = m.mem.length + (totL Hd.tot m.hands + m.out.length) := rfl
  unfold Mc.av Mc.cells
  refine pcall_of Tryz.func31 (by kernel_rfl) rfl (by simp [Tryz.f31]) ?_
  (repeat refine AWp.seq ?_); refine AWp.region noP (by kernel_rfl) ?_
  simp [set_at]
  intro g1 g2 h2
  (repeat refine AWp.seq ?_); refine AWp.region noP (by kernel_rfl) ?_
  simp [set_at]
  intro g3 h3
  have n21 : g2 ≠ g1 := fun e => by simp [e] at h2
  have m12 := n21.symm
  have n32 : g3 ≠ g2 := fun e => by simp [e] at h3
  have n31 : g3 ≠ g1 := fun e => by simp [e, m12] at h3
  have m23 := n32.symm
  have m13 := n31.symm
  (repeat refine AWp.seq ?_); refine AWp.region noP (by kernel_rfl) ?_
  simp [set_at, n21, n32, n31, m12, m23, m13]
  refine aop_call _ _ _ _ _ _ _ _ (c_toIntS m.mem (by omega)) ?_
  simp [set_at, n21, n32, n31, m12, m23, m13, ints]
  (repeat refine AWp.seq ?_); refine AWp.region noP (by kernel_rfl) ?_
  simp [set_at, n21, n32, n31, m12, m23, m13]
  refine aop_call _ _ _ _ _ _ _ _ (c_toHandS m.hands (by omega) (fun x hx => c_toHand0 x (by have := totL_mem Hd.tot hx; omega))) ?_
  simp [set_at, n21, n32, n31, m12, m23, m13, ints]
  (repeat refine AWp.seq ?_); refine AWp.region noP (by kernel_rfl) ?_
  simp [set_at, n21, n32, n31, m12, m23, m13]
  refine aop_call _ _ _ _ _ _ _ _ (c_toIntS m.out (by omega)) ?_
  simp [set_at, n21, n32, n31, m12, m23, m13, ints]
  (repeat refine AWp.seq ?_); refine AWp.region noP (by kernel_rfl) ?_
  simp [set_at, n21, n32, n31, m12, m23, m13]
  (repeat refine AWp.seq ?_); refine AWp.region noP (by kernel_rfl) ?_
  simp [set_at, n21, n32, n31, m12, m23, m13, ints]
  exact AWp.ret (post_cell (.inl rfl) rfl (by simp [set_at, n21, n32, n31, m12, m23, m13]))
theorem c_eqMach0 (m : Mc) (ht : m.tot ≤ 1048576) : PCall Tryz.prog 33 [m.av, m.av] (.bool true) := by
  have h1 := totL_len Hd.tot m.hands
  have h3 : m.tot = m.mem.length + (totL Hd.tot m.hands + m.out.length) := rfl
  unfold Mc.av Mc.cells
  refine pcall_of Tryz.func33 (by kernel_rfl) rfl (by simp [Tryz.f33]) ?_
  (repeat refine AWp.seq ?_); refine AWp.region noP (by kernel_rfl) ?_
  simp [set_at]
  intro g1 g2 h2
  have n21 : g2 ≠ g1 := fun e => by simp [e] at h2
  have m12 := n21.symm
  (repeat refine AWp.seq ?_); refine AWp.region allP (by kernel_rfl) ?_
  simp [set_at, n21, m12]
  refine aop_call _ _ _ _ _ _ _ _ (c_eqIntS m.mem (by omega)) ?_
  simp [set_at, n21, m12]
  refine AWp.cond (b := false) (by simp) (fun h => by cases h) (fun _ => ?_)
  refine AWp.skip ?_
  simp
  (repeat refine AWp.seq ?_); refine AWp.region allP (by kernel_rfl) ?_
  simp [set_at, n21, m12]
  refine aop_call _ _ _ _ _ _ _ _ (c_eqHandS m.hands (by omega) (fun x hx => c_eqHand0 x (by have := totL_mem Hd.tot hx; omega))) ?_
  simp [set_at, n21, m12]
  refine AWp.cond (b := false) (by simp) (fun h => by cases h) (fun _ => ?_)
  refine AWp.skip ?_
  simp
  (repeat refine AWp.seq ?_); refine AWp.region allP (by kernel_rfl) ?_
  simp [set_at, n21, m12]
  refine aop_call _ _ _ _ _ _ _ _ (c_eqIntS m.out (by omega)) ?_
  simp [set_at, n21, m12]
  refine AWp.cond (b := false) (by simp) (fun h => by cases h) (fun _ => ?_)
  refine AWp.skip ?_
  simp
  (repeat refine AWp.seq ?_); refine AWp.region noP (by kernel_rfl) ?_
  simp [set_at, n21, m12]
  refine AWp.cond (b := false) (by simp) (fun h => by cases h) (fun _ => ?_)
  refine AWp.skip ?_
  simp
  (repeat refine AWp.seq ?_); refine AWp.region noP (by kernel_rfl) ?_
  simp
  exact AWp.ret (post_ret1 rfl (by simp))
end Go.T
namespace Go.T
open Go Go.Proofs
set_option maxRecDepth 10000
set_option linter.unusedSimpArgs false
set_option linter.unusedVariables false
def isWd (n : Int) : Bool := inR n (-2147483648) 2147483647
def regsN (p : Pg) : Int := if p.ok = true then p.regs.length + 3 else 0
def Hd.okB (h : Hd) (mem regs : Int) : Bool := inR h.pc 0 4000 && (decide ((h.regs.length : Int) = regs) && (decide (h.stack.length ≤ 40) && (decide (h.shelf.length ≤ 60) && (h.shelf.all (fun x => inR x.at_ 0 (mem - 1) && isWd x.n) && (h.stack.all isWd && h.regs.all isWd)))))
def machOk (p : Pg) (m : Mc) : Bool := p.ok && (inR m.hands.length 1 4 && (decide ((m.mem.length : Int) = memSize p) && (m.mem.all isWd && (m.out.all isWd && m.hands.all (fun h => h.okB (memSize p) (regsN p))))))
theorem c_isWord (n : Int) : PCall Tryz.prog 106 [.int .i64 n] (.bool (isWd n)) := by
  have c1 := c_inRange n (-2147483648) 2147483647
  refine pcall_of Tryz.func106 (by kernel_rfl) rfl (by simp [Tryz.f106]) ?_
  repeat' (first
    | refine AWp.seq ?_
    | (refine AWp.region allP (by kernel_rfl) ?_; simp)
    | (refine AWp.condG ?_; simp)
    | (refine AWp.skip ?_; try simp)
    | (refine AWp.exit ?_; try simp)
    | refine AWp.block ?_
    | (refine aop_call' (c1) ?_; simp)
    | (refine AWp.ret (post_ret1 rfl ?_); (simp [isWd]; done))
    | (refine guardI (fun hq => ?_) (fun hq => ?_) <;> (try simp at hq) <;> (try simp))
    | (refine condRunI (fun hq => ?_) (fun hq => ?_) <;> (try simp at hq) <;> (try simp))
    | (refine iteI (fun hq => ?_) (fun hq => ?_) <;> (try simp)))
theorem c_areWords (l : List Int) (hl : l.length ≤ 1048576) : PCall Tryz.prog 71 [ints l] (.bool (l.all isWd)) := by
  refine pcall_of Tryz.func71 (by kernel_rfl) rfl (by simp [Tryz.f71]) ?_
  unfold ints
  (repeat refine AWp.seq ?_); refine AWp.region noP (by kernel_rfl) ?_
  try simp
  (repeat refine AWp.seq ?_); refine AWp.region noP (by kernel_rfl) ?_
  try simp
  (repeat refine AWp.seq ?_); refine AWp.block (AWp.rounds (fun k st => ∃ (i : Nat), k = l.length - i ∧ i ≤ l.length ∧ st.slots 5 = .lst false 1 (l.map (AV.int .i64)) ∧ st.slots 6 = .int .i64 l.length ∧ st.slots 7 = .int .i64 i ∧ l.all isWd = (l.drop i).all isWd) l.length ⟨0, by simp, by simp, by simp, by simp, by simp, by simp⟩ ?_)
  rintro R k st hR ⟨i, rfl, hi, s5, s6, s7, hr⟩
  (repeat refine AWp.seq ?_); refine AWp.region noP (by kernel_rfl) ?_
  simp [s5, s6, s7]
  (repeat refine AWp.seq ?_); refine AWp.cond (b := decide (i < l.length)) (by simp) (fun hb => ?_) (fun hb => ?_)
  · simp at hb
    have hg : l[i]? = some l[i] := List.getElem?_eq_getElem hb
    have hdr : l.drop i = l[i] :: l.drop (i + 1) := List.drop_eq_getElem_cons hb
    have hx : ∀ m, idxA Tryz.prog m 41 (.lst false 1 (l.map (AV.int .i64))) (.int .i64 i) = some (.ref [.int .i64 l[i]]) := fun m => idx (y := .int .i64 l[i]) es_41 (by simp [hg])
    have hw : IntKind.wrap .i64 ((i : Int) + 1) = (i + 1 : Nat) := wrap64 (by omega) (by omega)
    rw [hdr, List.all_cons] at hr
    refine AWp.skip ?_
    try simp
    (repeat refine AWp.seq ?_); refine AWp.block ?_
    (repeat refine AWp.seq ?_); refine AWp.region noP (by kernel_rfl) ?_
    simp [s5, s7, hx]
    (repeat refine AWp.seq ?_); refine AWp.region allP (by kernel_rfl) ?_
    try simp
    refine aop_call' (c_isWord l[i]) ?_
    have hwd : inR l[i] (-2147483648) 2147483647 = isWd l[i] := rfl
    simp [hwd]
    (repeat refine AWp.seq ?_); refine AWp.cond (b := !isWd l[i]) (by simp) (fun he => ?_) (fun he => ?_)
    · simp at he
      (repeat refine AWp.seq ?_); refine AWp.region noP (by kernel_rfl) ?_
      try simp
      exact AWp.ret (post_ret1 rfl (by simp only [put_slot, reduceIte]; rw [hr, he]; rfl))
    · simp at he
      refine AWp.skip ?_
      try simp
      (repeat refine AWp.seq ?_); refine AWp.region noP (by kernel_rfl) ?_
      simp [s7, hw]
      exact hR _ (l.length - (i + 1)) (by omega) ⟨i + 1, rfl, hb, by simp [s5], by simp [s6], by simp, by rw [hr, he, Bool.true_and]⟩
  · simp at hb
    refine AWp.exit ?_
    try simp
    (repeat refine AWp.seq ?_); refine AWp.region noP (by kernel_rfl) ?_
    try simp
    have : i = l.length := by omega
    subst this
    exact AWp.ret (post_ret1 rfl (by simp only [put_slot, reduceIte]; rw [hr]; simp))
theorem c_l19Words (l : List Int) (hl : l.length ≤ 1048576) : PCall Tryz.prog 67 [ints l] (.bool (l.all isWd)) := by
  refine pcall_of Tryz.func67 (by kernel_rfl) rfl (by simp [Tryz.f67]) ?_
  unfold ints
  (repeat refine AWp.seq ?_); refine AWp.region noP (by kernel_rfl) ?_
  try simp
  (repeat refine AWp.seq ?_); refine AWp.region noP (by kernel_rfl) ?_
  try simp
  (repeat refine AWp.seq ?_); refine AWp.block (AWp.rounds (fun k st => ∃ (i : Nat), k = l.length - i ∧ i ≤ l.length ∧ st.slots 0 = .lst false 1 (l.map (AV.int .i64)) ∧ st.slots 3 = .int .i64 i ∧ l.all isWd = (l.drop i).all isWd) l.length ⟨0, by simp, by simp, by simp, by simp, by simp⟩ ?_)
  rintro R k st hR ⟨i, rfl, hi, s0, s3, hr⟩
  (repeat refine AWp.seq ?_); refine AWp.region noP (by kernel_rfl) ?_
  simp [s0, s3]
  (repeat refine AWp.seq ?_); refine AWp.cond (b := decide (i < l.length)) (by simp) (fun hb => ?_) (fun hb => ?_)
  · simp at hb
    have hg : l[i]? = some l[i] := List.getElem?_eq_getElem hb
    have hdr : l.drop i = l[i] :: l.drop (i + 1) := List.drop_eq_getElem_cons hb
    have hx : ∀ m, idxA Tryz.prog m 41 (.lst false 1 (l.map (AV.int .i64))) (.int .i64 i) = some (.ref [.int .i64 l[i]]) := fun m => idx (y := .int .i64 l[i]) es_41 (by simp [hg])
    have hw : IntKind.wrap .i64 ((i : Int) + 1) = (i + 1 : Nat) := wrap64 (by omega) (by omega)
    rw [hdr, List.all_cons] at hr
    refine AWp.skip ?_
    try simp
    (repeat refine AWp.seq ?_); refine AWp.block ?_
    (repeat refine AWp.seq ?_); refine AWp.region allP (by kernel_rfl) ?_
    simp [s0, s3, hx]
    refine aop_call' (c_l1In l[i] (-2147483648) 2147483647) ?_
    have hwd : inR l[i] (-2147483648) 2147483647 = isWd l[i] := rfl
    simp [hwd]
    (repeat refine AWp.seq ?_); refine AWp.cond (b := !isWd l[i]) (by simp) (fun he => ?_) (fun he => ?_)
    · simp at he
      (repeat refine AWp.seq ?_); refine AWp.region noP (by kernel_rfl) ?_
      try simp
      exact AWp.ret (post_ret1 rfl (by simp only [put_slot, reduceIte]; rw [hr, he]; rfl))
    · simp at he
      refine AWp.skip ?_
      try simp
      (repeat refine AWp.seq ?_); refine AWp.region noP (by kernel_rfl) ?_
      simp [s3, hw]
      exact hR _ (l.length - (i + 1)) (by omega) ⟨i + 1, rfl, hb, by simp [s0], by simp, by rw [hr, he, Bool.true_and]⟩
  · simp at hb
    refine AWp.exit ?_
    try simp
    (repeat refine AWp.seq ?_); refine AWp.region noP (by kernel_rfl) ?_
    try simp
    have : i = l.length := by omega
    subst this
    exact AWp.ret (post_ret1 rfl (by simp only [put_slot, reduceIte]; rw [hr]; simp))
theorem c_impl_Regs (p : Pg) (ht : p.tot ≤ 1048576) : PCall Tryz.prog 70 [p.av] (.int .i64 (regsN p)) := by
  have c1 := c_impl_ProgOk p ht
  obtain ⟨L0, L1, L3, L2, L4⟩ := p.lens ht
  have hrl := p.regs_len
  have w1 : IntKind.wrap .i64 ((p.regs.length : Int) + 3) = p.regs.length + 3 := wrap64 (by omega) (by omega)
  have cL := fun hf => c_layOf p ht hf
  unfold Pg.lay at cL
  unfold strs at *
  refine pcall_of Tryz.func70 (by kernel_rfl) rfl (by simp [Tryz.f70]) ?_
  unfold Pg.av at *
  (repeat refine AWp.seq ?_); refine AWp.region noP (by kernel_rfl) ?_
  try simp
  intro g
  cases hok : p.ok
  · rw [hok] at c1
    repeat' (first
    | refine AWp.seq ?_
    | (refine AWp.region allP (by kernel_rfl) ?_; simp)
    | (refine AWp.condG ?_; simp)
    | (refine AWp.skip ?_; try simp)
    | (refine AWp.exit ?_; try simp)
    | refine AWp.block ?_
    | (refine aop_call' (c1) ?_; simp)
    | (refine AWp.ret (post_ret1 rfl ?_); (simp [regsN, hok]; done))
    | (refine guardI (fun hq => ?_) (fun hq => ?_) <;> (try simp at hq) <;> (try simp))
    | (refine condRunI (fun hq => ?_) (fun hq => ?_) <;> (try simp at hq) <;> (try simp))
    | (refine iteI (fun hq => ?_) (fun hq => ?_) <;> (try simp)))
  · rw [hok] at c1
    repeat' (first
    | refine AWp.seq ?_
    | (refine AWp.region allP (by kernel_rfl) ?_; simp [w1])
    | (refine AWp.condG ?_; simp [w1])
    | (refine AWp.skip ?_; try simp)
    | (refine AWp.exit ?_; try simp)
    | refine AWp.block ?_
    | (refine aop_call' (c1) ?_; simp [w1])
    | (refine aop_call' (cL (Pg.fine hok)) ?_; simp [w1])
    | (refine AWp.ret (post_ret1 rfl ?_); (simp [regsN, hok]; done))
    | (refine guardI (fun hq => ?_) (fun hq => ?_) <;> (try simp at hq) <;> (try simp [w1]))
    | (refine condRunI (fun hq => ?_) (fun hq => ?_) <;> (try simp at hq) <;> (try simp [w1]))
    | (refine iteI (fun hq => ?_) (fun hq => ?_) <;> (try simp [w1])))
theorem c_spec_Regs (p : Pg) (ht : p.tot ≤ 1048576) : PCall Tryz.prog 66 [p.av] (.int .i64 (regsN p)) := by
  have c1 := c_spec_ProgOk p ht
  obtain ⟨L0, L1, L3, L2, L4⟩ := p.lens ht
  have hrl := p.regs_len
  have w1 : IntKind.wrap .i64 ((p.regs.length : Int) + 3) = p.regs.length + 3 := wrap64 (by omega) (by omega)
  have cL := c_l15Names p ht
  unfold strs at *
  refine pcall_of Tryz.func66 (by kernel_rfl) rfl (by simp [Tryz.f66]) ?_
  unfold Pg.av at *
  (repeat refine AWp.seq ?_); refine AWp.region noP (by kernel_rfl) ?_
  try simp
  intro g
  cases hok : p.ok
  · rw [hok] at c1
    repeat' (first
    | refine AWp.seq ?_
    | (refine AWp.region allP (by kernel_rfl) ?_; simp)
    | (refine AWp.condG ?_; simp)
    | (refine AWp.skip ?_; try simp)
    | (refine AWp.exit ?_; try simp)
    | refine AWp.block ?_
    | (refine aop_call' (c1) ?_; simp)
    | (refine AWp.ret (post_ret1 rfl ?_); (simp [regsN, hok]; done))
    | (refine guardI (fun hq => ?_) (fun hq => ?_) <;> (try simp at hq) <;> (try simp))
    | (refine condRunI (fun hq => ?_) (fun hq => ?_) <;> (try simp at hq) <;> (try simp))
    | (refine iteI (fun hq => ?_) (fun hq => ?_) <;> (try simp)))
  · rw [hok] at c1
    repeat' (first
    | refine AWp.seq ?_
    | (refine AWp.region allP (by kernel_rfl) ?_; simp [w1])
    | (refine AWp.condG ?_; simp [w1])
    | (refine AWp.skip ?_; try simp)
    | (refine AWp.exit ?_; try simp)
    | refine AWp.block ?_
    | (refine aop_call' (c1) ?_; simp [w1])
    | (refine aop_call' (cL) ?_; simp [w1])
    | (refine AWp.ret (post_ret1 rfl ?_); (simp [regsN, hok]; done))
    | (refine guardI (fun hq => ?_) (fun hq => ?_) <;> (try simp at hq) <;> (try simp [w1]))
    | (refine condRunI (fun hq => ?_) (fun hq => ?_) <;> (try simp at hq) <;> (try simp [w1]))
    | (refine iteI (fun hq => ?_) (fun hq => ?_) <;> (try simp [w1])))
theorem c_handOk (h : Hd) (mem regs : Int) (ht : h.tot ≤ 1048576) (hm : 0 ≤ mem) (hm2 : mem ≤ 1048576) : PCall Tryz.prog 72 [h.av, .int .i64 mem, .int .i64 regs] (.bool (h.okB mem regs)) := by
  have h3 : h.tot = h.stack.length + (h.regs.length + h.shelf.length) := rfl
  have hcl : h.cells = [.int .i64 h.pc, ints h.stack, ints h.regs, .lst false 2 (h.shelf.map Pu.av), .bool h.here, .bool h.done] := rfl
  have c1 := c_inRange h.pc 0 4000
  have cS := c_areWords h.stack (by omega)
  have cR := c_areWords h.regs (by omega)
  unfold ints at *
  refine pcall_of Tryz.func72 (by kernel_rfl) rfl (by simp [Tryz.f72]) ?_
  unfold Hd.av
  rw [hcl]
  (repeat refine AWp.seq ?_); refine AWp.region noP (by kernel_rfl) ?_
  try simp
  intro g
  cases x1 : inR h.pc 0 4000
  · rw [x1] at c1
    repeat' (first
    | refine AWp.seq ?_
    | (refine AWp.region allP (by kernel_rfl) ?_; simp)
    | (refine AWp.condG ?_; simp)
    | (refine AWp.skip ?_; try simp)
    | (refine AWp.exit ?_; try simp)
    | refine AWp.block ?_
    | (refine aop_call' (c1) ?_; simp)
    | (refine AWp.ret (post_ret1 rfl ?_); (simp [Hd.okB, x1]; done))
    | (refine guardI (fun hq => ?_) (fun hq => ?_) <;> (try simp at hq) <;> (try simp))
    | (refine condRunI (fun hq => ?_) (fun hq => ?_) <;> (try simp at hq) <;> (try simp))
    | (refine iteI (fun hq => ?_) (fun hq => ?_) <;> (try simp)))
  rw [x1] at c1
  by_cases x2 : (h.regs.length : Int) = regs
  rotate_left
  · repeat' (first
    | refine AWp.seq ?_
    | (refine AWp.region allP (by kernel_rfl) ?_; simp [x2])
    | (refine AWp.condG ?_; simp [x2])
    | (refine AWp.skip ?_; try simp)
    | (refine AWp.exit ?_; try simp)
    | refine AWp.block ?_
    | (refine aop_call' (c1) ?_; simp [x2])
    | (refine AWp.ret (post_ret1 rfl ?_); (simp [Hd.okB, x2]; done))
    | (refine guardI (fun hq => ?_) (fun hq => ?_) <;> (try simp at hq) <;> (try simp [x2]))
    | (refine condRunI (fun hq => ?_) (fun hq => ?_) <;> (try simp at hq) <;> (try simp [x2]))
    | (refine iteI (fun hq => ?_) (fun hq => ?_) <;> (try simp [x2])))
  by_cases x3 : h.stack.length ≤ 40
  rotate_left
  · have y3 : (40 : Int) < h.stack.length := by omega
    repeat' (first
    | refine AWp.seq ?_
    | (refine AWp.region allP (by kernel_rfl) ?_; simp [x2, y3])
    | (refine AWp.condG ?_; simp [x2, y3])
    | (refine AWp.skip ?_; try simp)
    | (refine AWp.exit ?_; try simp)
    | refine AWp.block ?_
    | (refine aop_call' (c1) ?_; simp [x2, y3])
    | (refine AWp.ret (post_ret1 rfl ?_); (simp [Hd.okB, x3]; done))
    | (refine guardI (fun hq => ?_) (fun hq => ?_) <;> (try simp at hq) <;> (try simp [x2, y3]))
    | (refine condRunI (fun hq => ?_) (fun hq => ?_) <;> (try simp at hq) <;> (try simp [x2, y3]))
    | (refine iteI (fun hq => ?_) (fun hq => ?_) <;> (try simp [x2, y3])))
  have y3 : ¬ (40 : Int) < h.stack.length := by omega
  by_cases x4 : h.shelf.length ≤ 60
  rotate_left
  · have y4 : (60 : Int) < h.shelf.length := by omega
    repeat' (first
    | refine AWp.seq ?_
    | (refine AWp.region allP (by kernel_rfl) ?_; simp [x2, y3, y4])
    | (refine AWp.condG ?_; simp [x2, y3, y4])
    | (refine AWp.skip ?_; try simp)
    | (refine AWp.exit ?_; try simp)
    | refine AWp.block ?_
    | (refine aop_call' (c1) ?_; simp [x2, y3, y4])
    | (refine AWp.ret (post_ret1 rfl ?_); (simp [Hd.okB, x4]; done))
    | (refine guardI (fun hq => ?_) (fun hq => ?_) <;> (try simp at hq) <;> (try simp [x2, y3, y4]))
    | (refine condRunI (fun hq => ?_) (fun hq => ?_) <;> (try simp at hq) <;> (try simp [x2, y3, y4]))
    | (refine iteI (fun hq => ?_) (fun hq => ?_) <;> (try simp [x2, y3, y4])))
  have y4 : ¬ (60 : Int) < h.shelf.length := by omega
  have hok : h.okB mem regs = (h.shelf.all (fun x => inR x.at_ 0 (mem - 1) && isWd x.n) && (h.stack.all isWd && h.regs.all isWd)) := by unfold Hd.okB; simp [x1, x2, x3, x4]
  rw [hok]
  (repeat refine AWp.seq ?_); refine AWp.region allP (by kernel_rfl) ?_
  try simp
  refine aop_call' c1 ?_
  simp [x2, y3, y4]
  (repeat refine AWp.seq ?_); refine AWp.condF (by simp) ?_
  refine AWp.skip ?_
  try simp
  (repeat refine AWp.seq ?_); refine AWp.region noP (by kernel_rfl) ?_
  try simp
  (try refine AWp.seq ?_)
  refine AWp.cutA (fun st => st.slots 3 = .ptr g 0 ∧ st.mem g = some (.box [.int .i64 h.pc, .lst false 1 (h.stack.map (AV.int .i64)), .lst false 1 (h.regs.map (AV.int .i64)), .lst false 2 (h.shelf.map Pu.av), .bool h.here, .bool h.done]) ∧ h.shelf.all (fun x => inR x.at_ 0 (mem - 1) && isWd x.n) = true) ?_ ?_
  · refine AWp.block (AWp.rounds (fun k st => ∃ (i : Nat), k = h.shelf.length - i ∧ i ≤ h.shelf.length ∧ st.slots 3 = .ptr g 0 ∧ st.slots 1 = .int .i64 mem ∧ st.mem g = some (.box [.int .i64 h.pc, .lst false 1 (h.stack.map (AV.int .i64)), .lst false 1 (h.regs.map (AV.int .i64)), .lst false 2 (h.shelf.map Pu.av), .bool h.here, .bool h.done]) ∧ st.slots 33 = .lst false 2 (h.shelf.map Pu.av) ∧ st.slots 34 = .int .i64 h.shelf.length ∧ st.slots 35 = .int .i64 i ∧
      h.shelf.all (fun x => inR x.at_ 0 (mem - 1) && isWd x.n) = (h.shelf.drop i).all (fun x => inR x.at_ 0 (mem - 1) && isWd x.n)) h.shelf.length ⟨0, by simp, by simp, by simp, by simp, by simp, by simp, by simp, by simp, by simp⟩ ?_)
    rintro R k st hR ⟨i, rfl, hi, s3, s1, sg, s33, s34, s35, hr⟩
    (repeat refine AWp.seq ?_); refine AWp.region noP (by kernel_rfl) ?_
    simp [s33, s34, s35]
    (repeat refine AWp.seq ?_); refine AWp.cond (b := decide (i < h.shelf.length)) (by simp) (fun hb => ?_) (fun hb => ?_)
    · simp at hb
      have hg : h.shelf[i]? = some h.shelf[i] := List.getElem?_eq_getElem hb
      have hdr : h.shelf.drop i = h.shelf[i] :: h.shelf.drop (i + 1) := List.drop_eq_getElem_cons hb
      have hx : ∀ m, idxA Tryz.prog m 81 (.lst false 2 (h.shelf.map Pu.av)) (.int .i64 i) = some (.ref [.int .i64 h.shelf[i].at_, .int .i64 h.shelf[i].n]) := fun m => idx (y := h.shelf[i].av) es_81 (by simp [hg])
      have hw : IntKind.wrap .i64 ((i : Int) + 1) = (i + 1 : Nat) := wrap64 (by omega) (by omega)
      have hw2 : IntKind.wrap .i64 (mem - 1) = mem - 1 := wrap64 (by omega) (by omega)
      rw [hdr, List.all_cons] at hr
      refine AWp.skip ?_
      try simp
      (repeat refine AWp.seq ?_); refine AWp.block ?_; (repeat refine AWp.seq ?_); refine AWp.region noP (by kernel_rfl) ?_
      simp [s33, s35, hx]
      intro g2 hgf
      try simp [set_at, set_set]
      have hgg : (st.mem.set g2 (.box [.int .i64 h.shelf[i].at_, .int .i64 h.shelf[i].n])) g2 = some (.box [.int .i64 h.shelf[i].at_, .int .i64 h.shelf[i].n]) := set_same _ _ _
      have hsg : (st.mem.set g2 (.box [.int .i64 h.shelf[i].at_, .int .i64 h.shelf[i].n])) g = some (.box [.int .i64 h.pc, .lst false 1 (h.stack.map (AV.int .i64)), .lst false 1 (h.regs.map (AV.int .i64)), .lst false 2 (h.shelf.map Pu.av), .bool h.here, .bool h.done]) := by
        rw [set_at, if_neg]
        · exact sg
        · rintro rfl; rw [hgf] at sg; cases sg
      generalize st.mem.set g2 (.box [.int .i64 h.shelf[i].at_, .int .i64 h.shelf[i].n]) = m1 at *
      (repeat refine AWp.seq ?_); refine AWp.region allP (by kernel_rfl) ?_
      simp [hgg, s1, hw2]
      refine aop_call' (c_inRange h.shelf[i].at_ 0 (mem - 1)) ?_
      cases z1 : inR h.shelf[i].at_ 0 (mem - 1)
      · simp
        (repeat refine AWp.seq ?_); refine AWp.condT (by simp) ?_
        (repeat refine AWp.seq ?_); refine AWp.region noP (by kernel_rfl) ?_
        try simp
        exact AWp.ret (post_ret1 rfl (by simp only [put_slot, reduceIte]; rw [hr, z1]; rfl))
      simp [hgg]
      refine aop_call' (c_isWord h.shelf[i].n) ?_
      cases z2 : isWd h.shelf[i].n
      · simp
        (repeat refine AWp.seq ?_); refine AWp.condT (by simp) ?_
        (repeat refine AWp.seq ?_); refine AWp.region noP (by kernel_rfl) ?_
        try simp
        exact AWp.ret (post_ret1 rfl (by simp only [put_slot, reduceIte]; rw [hr, z1, z2]; rfl))
      try simp
      (repeat refine AWp.seq ?_); refine AWp.condF (by simp) ?_
      refine AWp.skip ?_
      try simp
      (repeat refine AWp.seq ?_); refine AWp.region noP (by kernel_rfl) ?_
      simp [s35, hw]
      exact hR _ (h.shelf.length - (i + 1)) (by omega) ⟨i + 1, rfl, hb, by simp [s3], by simp [s1], by simp [hsg], by simp [s33], by simp [s34], by simp, by rw [hr, z1, z2]; rfl⟩
    · simp at hb
      refine AWp.exit ?_
      have : i = h.shelf.length := by omega
      subst this
      rw [List.drop_length, List.all_nil] at hr
      simp [s3, sg]
      simpa using hr
  rintro st ⟨s3, sg, hA⟩
  rw [hA, Bool.true_and]
  (repeat refine AWp.seq ?_); refine AWp.region allP (by kernel_rfl) ?_
  simp [s3, sg]
  refine aop_call' cS ?_
  cases z1 : h.stack.all isWd
  · simp
    exact AWp.ret (post_ret1 rfl (by simp))
  simp [s3, sg]
  refine aop_call' cR ?_
  try simp
  exact AWp.ret (post_ret1 rfl (by simp))
theorem c_l19Hand (h : Hd) (mem regs : Int) (ht : h.tot ≤ 1048576) (hm : 0 ≤ mem) (hm2 : mem ≤ 1048576) : PCall Tryz.prog 65 [h.av, .int .i64 regs, .int .i64 mem] (.bool (h.okB mem regs)) := by
  have h3 : h.tot = h.stack.length + (h.regs.length + h.shelf.length) := rfl
  have hcl : h.cells = [.int .i64 h.pc, ints h.stack, ints h.regs, .lst false 2 (h.shelf.map Pu.av), .bool h.here, .bool h.done] := rfl
  have c1 := c_l1In h.pc 0 4000
  have cS := c_l19Words h.stack (by omega)
  have cR := c_l19Words h.regs (by omega)
  unfold ints at *
  refine pcall_of Tryz.func65 (by kernel_rfl) rfl (by simp [Tryz.f65]) ?_
  unfold Hd.av
  rw [hcl]
  (repeat refine AWp.seq ?_); refine AWp.region noP (by kernel_rfl) ?_
  try simp
  intro g
  (repeat refine AWp.seq ?_); refine AWp.region noP (by kernel_rfl) ?_
  try simp
  (try refine AWp.seq ?_)
  refine AWp.cutA (fun st => st.slots 3 = .ptr g 0 ∧ st.slots 1 = .int .i64 regs ∧ st.mem g = some (.box [.int .i64 h.pc, .lst false 1 (h.stack.map (AV.int .i64)), .lst false 1 (h.regs.map (AV.int .i64)), .lst false 2 (h.shelf.map Pu.av), .bool h.here, .bool h.done]) ∧ h.shelf.all (fun x => inR x.at_ 0 (mem - 1) && isWd x.n) = true) ?_ ?_
  · refine AWp.block (AWp.rounds (fun k st => ∃ (i : Nat), k = h.shelf.length - i ∧ i ≤ h.shelf.length ∧ st.slots 3 = .ptr g 0 ∧ st.slots 1 = .int .i64 regs ∧ st.slots 2 = .int .i64 mem ∧ st.mem g = some (.box [.int .i64 h.pc, .lst false 1 (h.stack.map (AV.int .i64)), .lst false 1 (h.regs.map (AV.int .i64)), .lst false 2 (h.shelf.map Pu.av), .bool h.here, .bool h.done]) ∧ st.slots 7 = .int .i64 i ∧
      h.shelf.all (fun x => inR x.at_ 0 (mem - 1) && isWd x.n) = (h.shelf.drop i).all (fun x => inR x.at_ 0 (mem - 1) && isWd x.n)) h.shelf.length ⟨0, by simp, by simp, by simp, by simp, by simp, by simp, by simp, by simp⟩ ?_)
    rintro R k st hR ⟨i, rfl, hi, s3, s1, s2, sg, s7, hr⟩
    (repeat refine AWp.seq ?_); refine AWp.region noP (by kernel_rfl) ?_
    simp [s3, sg, s7]
    (repeat refine AWp.seq ?_); refine AWp.cond (b := decide (i < h.shelf.length)) (by simp) (fun hb => ?_) (fun hb => ?_)
    · simp at hb
      have hg : h.shelf[i]? = some h.shelf[i] := List.getElem?_eq_getElem hb
      have hdr : h.shelf.drop i = h.shelf[i] :: h.shelf.drop (i + 1) := List.drop_eq_getElem_cons hb
      have hx : ∀ m, idxA Tryz.prog m 81 (.lst false 2 (h.shelf.map Pu.av)) (.int .i64 i) = some (.ref [.int .i64 h.shelf[i].at_, .int .i64 h.shelf[i].n]) := fun m => idx (y := h.shelf[i].av) es_81 (by simp [hg])
      have hw : IntKind.wrap .i64 ((i : Int) + 1) = (i + 1 : Nat) := wrap64 (by omega) (by omega)
      have hw2 : IntKind.wrap .i64 (mem - 1) = mem - 1 := wrap64 (by omega) (by omega)
      have hbad : h.shelf.all (fun x => inR x.at_ 0 (mem - 1) && isWd x.n) = false → h.okB mem regs = false := fun e => by unfold Hd.okB; rw [e]; simp
      rw [hdr, List.all_cons] at hr
      refine AWp.skip ?_
      try simp
      (repeat refine AWp.seq ?_); refine AWp.block ?_; (repeat refine AWp.seq ?_); refine AWp.region allP (by kernel_rfl) ?_
      simp [s3, s7, s2, sg, hx, hw2]
      refine aop_call' (c_l1In h.shelf[i].at_ 0 (mem - 1)) ?_
      cases z1 : inR h.shelf[i].at_ 0 (mem - 1)
      · simp
        (repeat refine AWp.seq ?_); refine AWp.condT (by simp) ?_
        (repeat refine AWp.seq ?_); refine AWp.region noP (by kernel_rfl) ?_
        try simp
        have hz := hbad (by rw [hr, z1]; rfl)
        exact AWp.ret (post_ret1 rfl (by simp [hz]))
      simp [s3, s7, sg, hx]
      refine aop_call' (c_l1In h.shelf[i].n (-2147483648) 2147483647) ?_
      have hwd : inR h.shelf[i].n (-2147483648) 2147483647 = isWd h.shelf[i].n := rfl
      rw [hwd]
      cases z2 : isWd h.shelf[i].n
      · simp
        (repeat refine AWp.seq ?_); refine AWp.condT (by simp) ?_
        (repeat refine AWp.seq ?_); refine AWp.region noP (by kernel_rfl) ?_
        try simp
        have hz := hbad (by rw [hr, z1, z2]; rfl)
        exact AWp.ret (post_ret1 rfl (by simp [hz]))
      try simp
      (repeat refine AWp.seq ?_); refine AWp.condF (by simp) ?_
      refine AWp.skip ?_
      try simp
      (repeat refine AWp.seq ?_); refine AWp.region noP (by kernel_rfl) ?_
      simp [s7, hw]
      exact hR _ (h.shelf.length - (i + 1)) (by omega) ⟨i + 1, rfl, hb, by simp [s3], by simp [s1], by simp [s2], by simp [sg], by simp, by rw [hr, z1, z2]; rfl⟩
    · simp at hb
      refine AWp.exit ?_
      have : i = h.shelf.length := by omega
      subst this
      rw [List.drop_length, List.all_nil] at hr
      simp [s3, s1, sg]
      simpa using hr
  rintro st ⟨s3, s1, sg, hA⟩
  have hok : h.okB mem regs = (inR h.pc 0 4000 && (decide ((h.regs.length : Int) = regs) && (decide (h.stack.length ≤ 40) && (decide (h.shelf.length ≤ 60) && (h.stack.all isWd && h.regs.all isWd))))) := by unfold Hd.okB; rw [hA]; simp
  rw [hok]
  (repeat refine AWp.seq ?_); refine AWp.region allP (by kernel_rfl) ?_
  simp [s3, sg]
  refine aop_call' c1 ?_
  cases x1 : inR h.pc 0 4000
  · simp
    exact AWp.ret (post_ret1 rfl (by simp))
  by_cases x2 : (h.regs.length : Int) = regs
  rotate_left
  · simp [s3, s1, sg, x2]
    exact AWp.ret (post_ret1 rfl (by simp))
  by_cases x3 : h.stack.length ≤ 40
  rotate_left
  · have y3 : ¬ (h.stack.length : Int) ≤ 40 := by omega
    simp [s3, s1, sg, x2, y3]
    exact AWp.ret (post_ret1 rfl (by simp [x3]))
  have y3 : (h.stack.length : Int) ≤ 40 := by omega
  by_cases x4 : h.shelf.length ≤ 60
  rotate_left
  · have y4 : ¬ (h.shelf.length : Int) ≤ 60 := by omega
    simp [s3, s1, sg, x2, y3, y4]
    exact AWp.ret (post_ret1 rfl (by simp [x4]))
  have y4 : (h.shelf.length : Int) ≤ 60 := by omega
  simp [s3, s1, sg, x2, y3, y4]
  refine aop_call' cS ?_
  cases z1 : h.stack.all isWd
  · simp
    exact AWp.ret (post_ret1 rfl (by simp))
  simp [s3, sg]
  refine aop_call' cR ?_
  try simp
  exact AWp.ret (post_ret1 rfl (by simp [x3, x4]))
end Go.T
namespace Go.T
open Go Go.Proofs
set_option maxRecDepth 10000
set_option linter.unusedSimpArgs false
set_option linter.unusedVariables false
theorem memSize_le (p : Pg) : 0 ≤ memSize p ∧ memSize p ≤ 1048576 := by
  unfold memSize
  cases hok : p.ok
  · simp
  · have hf := Pg.fine hok
    have hs := hf.size
    have hv := hf.vars
    try simp
    omega
theorem c_impl_MachOk (p : Pg) (mc : Mc) (ht : p.tot ≤ 1048576) (hm : mc.tot ≤ 1048576) : PCall Tryz.prog 32 [p.av, mc.av] (.bool (machOk p mc)) := by
  have h1 := totL_len Hd.tot mc.hands
  have h3 : mc.tot = mc.mem.length + (totL Hd.tot mc.hands + mc.out.length) := rfl
  have hpc : p.cells = [.lst false 2 (p.arrs.map Ar.av), .lst false 19 (p.body.map Sm.av)] := rfl
  have hmc : mc.cells = [.lst false 1 (mc.mem.map (AV.int .i64)), .lst false 6 (mc.hands.map Hd.av), .lst false 1 (mc.out.map (AV.int .i64)), .bool mc.trap] := rfl
  have hml := memSize_le p
  have cM := c_impl_MemSize p ht
  have cR := c_impl_Regs p ht
  have c1 := c_inRange (mc.hands.length : Int) 1 4
  have cW := c_areWords mc.mem (by omega)
  have cO := c_areWords mc.out (by omega)
  unfold ints at *
  refine pcall_of Tryz.func32 (by kernel_rfl) rfl (by simp [Tryz.f32]) ?_
  unfold Pg.av Mc.av at *
  rw [hpc, hmc]
  (repeat refine AWp.seq ?_); refine AWp.region noP (by kernel_rfl) ?_
  try simp
  intro g1 g2 hg2
  have hne : g2 ≠ g1 := by rintro rfl; simp [set_at] at hg2
  have hne2 := hne.symm
  (repeat refine AWp.seq ?_); refine AWp.regionG (fun _ => true) (fun _ => false) [0, 1, 2, 3, 4, 5] [0, 1, 2, 3, 4, 5] (by kernel_rfl) ?_
  simp [set_at, hne, hne2]
  refine aop_call' cM ?_
  simp [set_at, hne, hne2]
  refine aop_call' cR ?_
  try simp
  have sg0 : ((Mem.set (fun _ => none) g1 (.box [.lst false 2 (p.arrs.map Ar.av), .lst false 19 (p.body.map Sm.av)])).set g2 (.box [.lst false 1 (mc.mem.map (AV.int .i64)), .lst false 6 (mc.hands.map Hd.av), .lst false 1 (mc.out.map (AV.int .i64)), .bool mc.trap])) g2 = some (.box [.lst false 1 (mc.mem.map (AV.int .i64)), .lst false 6 (mc.hands.map Hd.av), .lst false 1 (mc.out.map (AV.int .i64)), .bool mc.trap]) := set_same _ _ _
  generalize ((Mem.set (fun _ => none) g1 (.box [.lst false 2 (p.arrs.map Ar.av), .lst false 19 (p.body.map Sm.av)])).set g2 (.box [.lst false 1 (mc.mem.map (AV.int .i64)), .lst false 6 (mc.hands.map Hd.av), .lst false 1 (mc.out.map (AV.int .i64)), .bool mc.trap])) = m0 at *
  cases hok : p.ok
  · have hz : machOk p mc = false := by unfold machOk; rw [hok]; rfl
    have e0 : memSize p = 0 := by unfold memSize; rw [hok]; rfl
    rw [e0] at *
    rw [hz]
    cases x1 : inR (mc.hands.length : Int) 1 4
    · rw [x1] at c1
      (repeat refine AWp.seq ?_); refine AWp.region allP (by kernel_rfl) ?_
      simp [sg0]
      refine aop_call' c1 ?_
      try simp
      (repeat refine AWp.seq ?_); refine AWp.condT (by simp) ?_
      (repeat refine AWp.seq ?_); refine AWp.region noP (by kernel_rfl) ?_
      try simp
      exact AWp.ret (post_ret1 rfl (by simp))
    · rw [x1] at c1
      (repeat refine AWp.seq ?_); refine AWp.region allP (by kernel_rfl) ?_
      simp [sg0]
      refine aop_call' c1 ?_
      try simp
      (repeat refine AWp.seq ?_); refine AWp.condT (by simp) ?_
      (repeat refine AWp.seq ?_); refine AWp.region noP (by kernel_rfl) ?_
      try simp
      exact AWp.ret (post_ret1 rfl (by simp))
  have hpos : ¬ memSize p = 0 := by
    have hf := Pg.fine hok
    have hs := hf.size
    unfold memSize
    rw [if_pos hok]
    omega
  have hmach : machOk p mc = (inR mc.hands.length 1 4 && (decide ((mc.mem.length : Int) = memSize p) && (mc.mem.all isWd && (mc.out.all isWd && mc.hands.all (fun h => h.okB (memSize p) (regsN p)))))) := by unfold machOk; rw [hok]; rfl
  rw [hmach]
  (repeat refine AWp.seq ?_); refine AWp.region allP (by kernel_rfl) ?_
  simp [sg0, hpos]
  refine aop_call' c1 ?_
  cases x1 : inR (mc.hands.length : Int) 1 4
  · simp
    (repeat refine AWp.seq ?_); refine AWp.condT (by simp) ?_
    (repeat refine AWp.seq ?_); refine AWp.region noP (by kernel_rfl) ?_
    try simp
    exact AWp.ret (post_ret1 rfl (by simp))
  simp [sg0, hpos]
  by_cases x2 : (mc.mem.length : Int) = memSize p
  rotate_left
  · simp [x2]
    (repeat refine AWp.seq ?_); refine AWp.condT (by simp) ?_
    (repeat refine AWp.seq ?_); refine AWp.region noP (by kernel_rfl) ?_
    try simp
    exact AWp.ret (post_ret1 rfl (by simp [x2]))
  simp [x2, sg0]
  refine aop_call' cW ?_
  cases x3 : mc.mem.all isWd
  · simp
    (repeat refine AWp.seq ?_); refine AWp.condT (by simp) ?_
    (repeat refine AWp.seq ?_); refine AWp.region noP (by kernel_rfl) ?_
    try simp
    exact AWp.ret (post_ret1 rfl (by simp))
  simp [sg0]
  refine aop_call' cO ?_
  cases x4 : mc.out.all isWd
  · simp
    (repeat refine AWp.seq ?_); refine AWp.condT (by simp) ?_
    (repeat refine AWp.seq ?_); refine AWp.region noP (by kernel_rfl) ?_
    try simp
    exact AWp.ret (post_ret1 rfl (by simp))
  try simp
  (repeat refine AWp.seq ?_); refine AWp.condF (by simp) ?_
  refine AWp.skip ?_
  try simp
  (repeat refine AWp.seq ?_); refine AWp.region noP (by kernel_rfl) ?_
  simp [sg0]
  (try refine AWp.seq ?_)
  refine AWp.cutA (fun st => mc.hands.all (fun h => h.okB (memSize p) (regsN p)) = true) ?_ ?_
  · refine AWp.block (AWp.rounds (fun k st => ∃ (i : Nat), k = mc.hands.length - i ∧ i ≤ mc.hands.length ∧ st.slots 5 = .int .i64 (memSize p) ∧ st.slots 6 = .int .i64 (regsN p) ∧ st.slots 42 = .lst false 6 (mc.hands.map Hd.av) ∧ st.slots 43 = .int .i64 mc.hands.length ∧ st.slots 44 = .int .i64 i ∧ mc.hands.all (fun h => h.okB (memSize p) (regsN p)) = (mc.hands.drop i).all (fun h => h.okB (memSize p) (regsN p))) mc.hands.length ⟨0, by simp, by simp, by simp, by simp, by simp, by simp, by simp, by simp⟩ ?_)
    rintro R k st hR ⟨i, rfl, hi, s5, s6, s42, s43, s44, hr⟩
    (repeat refine AWp.seq ?_); refine AWp.region noP (by kernel_rfl) ?_
    simp [s42, s43, s44]
    (repeat refine AWp.seq ?_); refine AWp.cond (b := decide (i < mc.hands.length)) (by simp) (fun hb => ?_) (fun hb => ?_)
    · simp at hb
      have hg : mc.hands[i]? = some mc.hands[i] := List.getElem?_eq_getElem hb
      have hdr : mc.hands.drop i = mc.hands[i] :: mc.hands.drop (i + 1) := List.drop_eq_getElem_cons hb
      have hx : ∀ m, idxA Tryz.prog m 47 (.lst false 6 (mc.hands.map Hd.av)) (.int .i64 i) = some (.ref mc.hands[i].cells) := fun m => idx (y := mc.hands[i].av) es_47 (by simp [hg])
      have hw : IntKind.wrap .i64 ((i : Int) + 1) = (i + 1 : Nat) := wrap64 (by omega) (by omega)
      have htm := totL_mem Hd.tot (List.getElem_mem hb)
      rw [hdr, List.all_cons] at hr
      refine AWp.skip ?_
      try simp
      (repeat refine AWp.seq ?_); refine AWp.block ?_; (repeat refine AWp.seq ?_); refine AWp.region noP (by kernel_rfl) ?_
      simp [s42, s44, hx]
      intro g hgf
      try simp [set_at, set_set]
      have hgg : (st.mem.set g (.box mc.hands[i].cells)) g = some (.box mc.hands[i].cells) := set_same _ _ _
      generalize st.mem.set g (.box mc.hands[i].cells) = m1 at *
      (repeat refine AWp.seq ?_); refine AWp.region allP (by kernel_rfl) ?_
      simp [hgg, s5, s6]
      refine aop_call' (c_handOk mc.hands[i] (memSize p) (regsN p) (by omega) hml.1 hml.2) ?_
      try simp
      (repeat refine AWp.seq ?_); refine AWp.cond (b := !mc.hands[i].okB (memSize p) (regsN p)) (by simp) (fun he => ?_) (fun he => ?_)
      · simp at he
        (repeat refine AWp.seq ?_); refine AWp.region noP (by kernel_rfl) ?_
        try simp
        exact AWp.ret (post_ret1 rfl (by simp only [put_slot, reduceIte]; rw [hr, he]; simp))
      · simp at he
        refine AWp.skip ?_
        try simp
        (repeat refine AWp.seq ?_); refine AWp.region noP (by kernel_rfl) ?_
        simp [s44, hw]
        exact hR _ (mc.hands.length - (i + 1)) (by omega) ⟨i + 1, rfl, hb, by simp [s5], by simp [s6], by simp [s42], by simp [s43], by simp, by rw [hr, he, Bool.true_and]⟩
    · simp at hb
      refine AWp.exit ?_
      have : i = mc.hands.length := by omega
      subst this
      rw [List.drop_length, List.all_nil] at hr
      try simp
      simpa using hr
  intro st hA
  rw [hA]
  (repeat refine AWp.seq ?_); refine AWp.region noP (by kernel_rfl) ?_
  try simp
  exact AWp.ret (post_ret1 rfl (by simp [x2]))
theorem c_spec_MachOk (p : Pg) (mc : Mc) (ht : p.tot ≤ 1048576) (hm : mc.tot ≤ 1048576) : PCall Tryz.prog 30 [p.av, mc.av] (.bool (machOk p mc)) := by
  have h1 := totL_len Hd.tot mc.hands
  have h3 : mc.tot = mc.mem.length + (totL Hd.tot mc.hands + mc.out.length) := rfl
  have hpc : p.cells = [.lst false 2 (p.arrs.map Ar.av), .lst false 19 (p.body.map Sm.av)] := rfl
  have hmc : mc.cells = [.lst false 1 (mc.mem.map (AV.int .i64)), .lst false 6 (mc.hands.map Hd.av), .lst false 1 (mc.out.map (AV.int .i64)), .bool mc.trap] := rfl
  have hml := memSize_le p
  have cM := c_spec_MemSize p ht
  have cR := c_spec_Regs p ht
  have cK := c_spec_ProgOk p ht
  have c1 := c_l1In (mc.hands.length : Int) 1 4
  have cW := c_l19Words mc.mem (by omega)
  have cO := c_l19Words mc.out (by omega)
  unfold ints at *
  refine pcall_of Tryz.func30 (by kernel_rfl) rfl (by simp [Tryz.f30]) ?_
  unfold Pg.av Mc.av at *
  rw [hpc, hmc]
  (repeat refine AWp.seq ?_); refine AWp.region noP (by kernel_rfl) ?_
  try simp
  intro g1 g2 hg2
  have hne : g2 ≠ g1 := by rintro rfl; simp [set_at] at hg2
  have sg1 : ((Mem.set (fun _ => none) g1 (.box [.lst false 2 (p.arrs.map Ar.av), .lst false 19 (p.body.map Sm.av)])).set g2 (.box [.lst false 1 (mc.mem.map (AV.int .i64)), .lst false 6 (mc.hands.map Hd.av), .lst false 1 (mc.out.map (AV.int .i64)), .bool mc.trap])) g1 = some (.box [.lst false 2 (p.arrs.map Ar.av), .lst false 19 (p.body.map Sm.av)]) := by simp [set_at, hne.symm]
  have sg0 : ((Mem.set (fun _ => none) g1 (.box [.lst false 2 (p.arrs.map Ar.av), .lst false 19 (p.body.map Sm.av)])).set g2 (.box [.lst false 1 (mc.mem.map (AV.int .i64)), .lst false 6 (mc.hands.map Hd.av), .lst false 1 (mc.out.map (AV.int .i64)), .bool mc.trap])) g2 = some (.box [.lst false 1 (mc.mem.map (AV.int .i64)), .lst false 6 (mc.hands.map Hd.av), .lst false 1 (mc.out.map (AV.int .i64)), .bool mc.trap]) := set_same _ _ _
  generalize ((Mem.set (fun _ => none) g1 (.box [.lst false 2 (p.arrs.map Ar.av), .lst false 19 (p.body.map Sm.av)])).set g2 (.box [.lst false 1 (mc.mem.map (AV.int .i64)), .lst false 6 (mc.hands.map Hd.av), .lst false 1 (mc.out.map (AV.int .i64)), .bool mc.trap])) = m0 at *
  (repeat refine AWp.seq ?_); refine AWp.region allP (by kernel_rfl) ?_
  simp [sg1]
  refine aop_call' cK ?_
  cases hok : p.ok
  · have hz : machOk p mc = false := by unfold machOk; rw [hok]; rfl
    rw [hz]
    try simp
    (repeat refine AWp.seq ?_); refine AWp.condT (by simp) ?_
    (repeat refine AWp.seq ?_); refine AWp.region noP (by kernel_rfl) ?_
    try simp
    exact AWp.ret (post_ret1 rfl (by simp))
  have hmach : machOk p mc = (inR mc.hands.length 1 4 && (decide ((mc.mem.length : Int) = memSize p) && (mc.mem.all isWd && (mc.out.all isWd && mc.hands.all (fun h => h.okB (memSize p) (regsN p)))))) := by unfold machOk; rw [hok]; rfl
  rw [hmach]
  simp [sg0]
  refine aop_call' c1 ?_
  cases x1 : inR (mc.hands.length : Int) 1 4
  · simp
    (repeat refine AWp.seq ?_); refine AWp.condT (by simp) ?_
    (repeat refine AWp.seq ?_); refine AWp.region noP (by kernel_rfl) ?_
    try simp
    exact AWp.ret (post_ret1 rfl (by simp))
  simp [sg0, sg1]
  refine aop_call' cM ?_
  by_cases x2 : (mc.mem.length : Int) = memSize p
  rotate_left
  · simp [x2]
    (repeat refine AWp.seq ?_); refine AWp.condT (by simp) ?_
    (repeat refine AWp.seq ?_); refine AWp.region noP (by kernel_rfl) ?_
    try simp
    exact AWp.ret (post_ret1 rfl (by simp [x2]))
  simp [x2]
  (repeat refine AWp.seq ?_); refine AWp.condF (by simp) ?_
  refine AWp.skip ?_
  try simp
  (repeat refine AWp.seq ?_); refine AWp.region noP (by kernel_rfl) ?_
  try simp
  (try refine AWp.seq ?_)
  refine AWp.cutA (fun st => st.slots 3 = .ptr g2 0 ∧ st.mem g2 = some (.box [.lst false 1 (mc.mem.map (AV.int .i64)), .lst false 6 (mc.hands.map Hd.av), .lst false 1 (mc.out.map (AV.int .i64)), .bool mc.trap]) ∧ mc.hands.all (fun h => h.okB (memSize p) (regsN p)) = true) ?_ ?_
  · refine AWp.block (AWp.rounds (fun k st => ∃ (i : Nat), k = mc.hands.length - i ∧ i ≤ mc.hands.length ∧ st.slots 2 = .ptr g1 0 ∧ st.slots 3 = .ptr g2 0 ∧ st.mem g1 = some (.box [.lst false 2 (p.arrs.map Ar.av), .lst false 19 (p.body.map Sm.av)]) ∧ st.mem g2 = some (.box [.lst false 1 (mc.mem.map (AV.int .i64)), .lst false 6 (mc.hands.map Hd.av), .lst false 1 (mc.out.map (AV.int .i64)), .bool mc.trap]) ∧ st.slots 5 = .int .i64 i ∧ mc.hands.all (fun h => h.okB (memSize p) (regsN p)) = (mc.hands.drop i).all (fun h => h.okB (memSize p) (regsN p))) mc.hands.length ⟨0, by simp, by simp, by simp, by simp, by simp [sg1], by simp [sg0], by simp, by simp⟩ ?_)
    clear sg0 sg1
    rintro R k st hR ⟨i, rfl, hi, s2, s3, sg1, sg0, s5, hr⟩
    (repeat refine AWp.seq ?_); refine AWp.region noP (by kernel_rfl) ?_
    simp [s3, sg0, s5]
    (repeat refine AWp.seq ?_); refine AWp.cond (b := decide (i < mc.hands.length)) (by simp) (fun hb => ?_) (fun hb => ?_)
    · simp at hb
      have hg : mc.hands[i]? = some mc.hands[i] := List.getElem?_eq_getElem hb
      have hdr : mc.hands.drop i = mc.hands[i] :: mc.hands.drop (i + 1) := List.drop_eq_getElem_cons hb
      have hx : ∀ m, idxA Tryz.prog m 47 (.lst false 6 (mc.hands.map Hd.av)) (.int .i64 i) = some (.ref mc.hands[i].cells) := fun m => idx (y := mc.hands[i].av) es_47 (by simp [hg])
      have hw : IntKind.wrap .i64 ((i : Int) + 1) = (i + 1 : Nat) := wrap64 (by omega) (by omega)
      have htm := totL_mem Hd.tot (List.getElem_mem hb)
      rw [hdr, List.all_cons] at hr
      refine AWp.skip ?_
      try simp
      have cH := c_l19Hand mc.hands[i] (memSize p) (regsN p) (by omega) hml.1 hml.2
      unfold Hd.av at cH
      (repeat refine AWp.seq ?_); refine AWp.block ?_; (repeat refine AWp.seq ?_); refine AWp.region allP (by kernel_rfl) ?_
      simp [s2, s3, sg0, sg1, s5, hx]
      refine aop_call' cR ?_
      simp [s3, sg0, x2]
      refine aop_call' cH ?_
      try simp
      (repeat refine AWp.seq ?_); refine AWp.cond (b := !mc.hands[i].okB (memSize p) (regsN p)) (by simp) (fun he => ?_) (fun he => ?_)
      · simp at he
        (repeat refine AWp.seq ?_); refine AWp.region noP (by kernel_rfl) ?_
        try simp
        exact AWp.ret (post_ret1 rfl (by simp only [put_slot, reduceIte]; rw [hr, he]; simp))
      · simp at he
        refine AWp.skip ?_
        try simp
        (repeat refine AWp.seq ?_); refine AWp.region noP (by kernel_rfl) ?_
        simp [s5, hw]
        exact hR _ (mc.hands.length - (i + 1)) (by omega) ⟨i + 1, rfl, hb, by simp [s2], by simp [s3], by simp [sg1], by simp [sg0], by simp, by rw [hr, he, Bool.true_and]⟩
    · simp at hb
      refine AWp.exit ?_
      have : i = mc.hands.length := by omega
      subst this
      rw [List.drop_length, List.all_nil] at hr
      simp [s3, sg0]
      simpa using hr
  clear sg0 sg1
  rintro st ⟨s3, sg0, hA⟩
  rw [hA]
  (repeat refine AWp.seq ?_); refine AWp.region allP (by kernel_rfl) ?_
  simp [s3, sg0]
  refine aop_call' cW ?_
  cases x3 : mc.mem.all isWd
  · simp
    exact AWp.ret (post_ret1 rfl (by simp))
  simp [s3, sg0]
  refine aop_call' cO ?_
  try simp
  exact AWp.ret (post_ret1 rfl (by simp [x2]))
theorem c_szMach (m : Mc) (hf : m.fit) (n : Int) (h0 : 0 ≤ n) (h1 : n ≤ 1048576) : PCall Tryz.prog 29 [m.av, .int .i64 n] (.int .i64 (szr m.tot n)) := c_szMach0 m hf n h0 h1
theorem c_FnExactMachOk (p : Pg) (hf : p.fit) (mc : Mc) (hmf : mc.fit) : PCall Tryz.prog 10 [p.av, mc.av] (.bool true) := by
  refine pcall_of Tryz.func10 (by kernel_rfl) rfl (by simp [Tryz.f10]) ?_
  have cs := c_szProg p hf 1048576 (by omega) (by omega)
  by_cases hb : p.tot ≤ 1048576
  rotate_left
  · have hs : szr p.tot 1048576 = -1 := szr_neg (by omega)
    rw [hs] at cs
    unfold Pg.av Mc.av at *
    (repeat refine AWp.seq ?_); refine AWp.region noP (by kernel_rfl) ?_
    try simp
    intro g1 g2 hg2
    have n21 : g2 ≠ g1 := by rintro rfl; simp [set_at] at hg2
    have m12 := n21.symm
    repeat' (first
    | refine AWp.seq ?_
    | (refine AWp.region allP (by kernel_rfl) ?_; simp [set_at, n21, m12])
    | (refine AWp.condG ?_; simp [set_at, n21, m12])
    | (refine AWp.skip ?_; try simp)
    | (refine AWp.exit ?_; try simp)
    | refine AWp.block ?_
    | (refine aop_call' (cs) ?_; simp [set_at, n21, m12])
    | (refine AWp.ret (post_ret1 rfl ?_); (simp; done))
    | (refine guardI (fun hq => ?_) (fun hq => ?_) <;> (try simp at hq) <;> (try simp [set_at, n21, m12]))
    | (refine condRunI (fun hq => ?_) (fun hq => ?_) <;> (try simp at hq) <;> (try simp [set_at, n21, m12]))
    | (refine iteI (fun hq => ?_) (fun hq => ?_) <;> (try simp [set_at, n21, m12])))
  have hs : szr p.tot 1048576 = 1048576 - p.tot := szr_pos (by omega)
  have hs2 : ¬ (1048576 - (p.tot : Int) < 0) := by omega
  rw [hs] at cs
  have cm := c_szMach mc hmf (1048576 - p.tot) (by omega) (by omega)
  by_cases hb2 : (mc.tot : Int) ≤ 1048576 - p.tot
  rotate_left
  · have hs3 : szr mc.tot (1048576 - p.tot) = -1 := szr_neg (by omega)
    rw [hs3] at cm
    unfold Pg.av Mc.av at *
    (repeat refine AWp.seq ?_); refine AWp.region noP (by kernel_rfl) ?_
    try simp
    intro g1 g2 hg2
    have n21 : g2 ≠ g1 := by rintro rfl; simp [set_at] at hg2
    have m12 := n21.symm
    repeat' (first
    | refine AWp.seq ?_
    | (refine AWp.region allP (by kernel_rfl) ?_; simp [set_at, n21, m12, hs2])
    | (refine AWp.condG ?_; simp [set_at, n21, m12, hs2])
    | (refine AWp.skip ?_; try simp)
    | (refine AWp.exit ?_; try simp)
    | refine AWp.block ?_
    | (refine aop_call' (cs) ?_; simp [set_at, n21, m12, hs2])
    | (refine aop_call' (cm) ?_; simp [set_at, n21, m12, hs2])
    | (refine AWp.ret (post_ret1 rfl ?_); (simp; done))
    | (refine guardI (fun hq => ?_) (fun hq => ?_) <;> (try simp at hq) <;> (try simp [set_at, n21, m12, hs2]))
    | (refine condRunI (fun hq => ?_) (fun hq => ?_) <;> (try simp at hq) <;> (try simp [set_at, n21, m12, hs2]))
    | (refine iteI (fun hq => ?_) (fun hq => ?_) <;> (try simp [set_at, n21, m12, hs2])))
  have hs3 : szr mc.tot (1048576 - p.tot) = 1048576 - p.tot - mc.tot := szr_pos (by omega)
  have hs4 : ¬ (1048576 - (p.tot : Int) - mc.tot < 0) := by omega
  rw [hs3] at cm
  have ct := c_toProg0 p hb
  have ce := c_eqProg0 p hb
  have dt := c_toMach0 mc (by omega)
  have de := c_eqMach0 mc (by omega)
  have c1 := c_spec_MachOk p mc hb (by omega)
  have c2 := c_impl_MachOk p mc hb (by omega)
  unfold Pg.av Mc.av at *
  (repeat refine AWp.seq ?_); refine AWp.region noP (by kernel_rfl) ?_
  try simp
  intro g1 g2 hg2
  have n21 : g2 ≠ g1 := by rintro rfl; simp [set_at] at hg2
  have m12 := n21.symm
  repeat' (first
    | refine AWp.seq ?_
    | (refine AWp.region allP (by kernel_rfl) ?_; simp [set_at, n21, m12, hs2, hs4])
    | (refine AWp.condG ?_; simp [set_at, n21, m12, hs2, hs4])
    | (refine AWp.skip ?_; try simp)
    | (refine AWp.exit ?_; try simp)
    | refine AWp.block ?_
    | (refine aop_call' (cs) ?_; simp [set_at, n21, m12, hs2, hs4])
    | (refine aop_call' (cm) ?_; simp [set_at, n21, m12, hs2, hs4])
    | (refine aop_call' (ct) ?_; simp [set_at, n21, m12, hs2, hs4])
    | (refine aop_call' (ce) ?_; simp [set_at, n21, m12, hs2, hs4])
    | (refine aop_call' (dt) ?_; simp [set_at, n21, m12, hs2, hs4])
    | (refine aop_call' (de) ?_; simp [set_at, n21, m12, hs2, hs4])
    | (refine aop_call' (c1) ?_; simp [set_at, n21, m12, hs2, hs4])
    | (refine aop_call' (c2) ?_; simp [set_at, n21, m12, hs2, hs4])
    | (refine AWp.ret (post_ret1 rfl ?_); (simp; done))
    | (refine guardI (fun hq => ?_) (fun hq => ?_) <;> (try simp at hq) <;> (try simp [set_at, n21, m12, hs2, hs4]))
    | (refine condRunI (fun hq => ?_) (fun hq => ?_) <;> (try simp at hq) <;> (try simp [set_at, n21, m12, hs2, hs4]))
    | (refine iteI (fun hq => ?_) (fun hq => ?_) <;> (try simp [set_at, n21, m12, hs2, hs4])))
  intro g3 hg3
  have n31 : g3 ≠ g1 := by rintro rfl; simp [set_at, n21, m12] at hg3
  have n32 : g3 ≠ g2 := by rintro rfl; simp [set_at, n21, m12] at hg3
  have m13 := n31.symm
  have m23 := n32.symm
  repeat' (first
    | refine AWp.seq ?_
    | (refine AWp.region allP (by kernel_rfl) ?_; simp [set_at, n21, m12, n31, n32, m13, m23, hs2, hs4])
    | (refine AWp.condG ?_; simp [set_at, n21, m12, n31, n32, m13, m23, hs2, hs4])
    | (refine AWp.skip ?_; try simp)
    | (refine AWp.exit ?_; try simp)
    | refine AWp.block ?_
    | (refine aop_call' (cs) ?_; simp [set_at, n21, m12, n31, n32, m13, m23, hs2, hs4])
    | (refine aop_call' (cm) ?_; simp [set_at, n21, m12, n31, n32, m13, m23, hs2, hs4])
    | (refine aop_call' (ct) ?_; simp [set_at, n21, m12, n31, n32, m13, m23, hs2, hs4])
    | (refine aop_call' (ce) ?_; simp [set_at, n21, m12, n31, n32, m13, m23, hs2, hs4])
    | (refine aop_call' (dt) ?_; simp [set_at, n21, m12, n31, n32, m13, m23, hs2, hs4])
    | (refine aop_call' (de) ?_; simp [set_at, n21, m12, n31, n32, m13, m23, hs2, hs4])
    | (refine aop_call' (c1) ?_; simp [set_at, n21, m12, n31, n32, m13, m23, hs2, hs4])
    | (refine aop_call' (c2) ?_; simp [set_at, n21, m12, n31, n32, m13, m23, hs2, hs4])
    | (refine AWp.ret (post_ret1 rfl ?_); (simp; done))
    | (refine guardI (fun hq => ?_) (fun hq => ?_) <;> (try simp at hq) <;> (try simp [set_at, n21, m12, n31, n32, m13, m23, hs2, hs4]))
    | (refine condRunI (fun hq => ?_) (fun hq => ?_) <;> (try simp at hq) <;> (try simp [set_at, n21, m12, n31, n32, m13, m23, hs2, hs4]))
    | (refine iteI (fun hq => ?_) (fun hq => ?_) <;> (try simp [set_at, n21, m12, n31, n32, m13, m23, hs2, hs4])))
  intro g4 hg4
  have n41 : g4 ≠ g1 := by rintro rfl; simp [set_at, n21, m12, n31, n32, m13, m23] at hg4
  have n42 : g4 ≠ g2 := by rintro rfl; simp [set_at, n21, m12, n31, n32, m13, m23] at hg4
  have n43 : g4 ≠ g3 := by rintro rfl; simp [set_at, n21, m12, n31, n32, m13, m23] at hg4
  have m14 := n41.symm
  have m24 := n42.symm
  have m34 := n43.symm
  repeat' (first
    | refine AWp.seq ?_
    | (refine AWp.region allP (by kernel_rfl) ?_; simp [set_at, n21, m12, n31, n32, m13, m23, n41, n42, n43, m14, m24, m34, hs2, hs4])
    | (refine AWp.condG ?_; simp [set_at, n21, m12, n31, n32, m13, m23, n41, n42, n43, m14, m24, m34, hs2, hs4])
    | (refine AWp.skip ?_; try simp)
    | (refine AWp.exit ?_; try simp)
    | refine AWp.block ?_
    | (refine aop_call' (cs) ?_; simp [set_at, n21, m12, n31, n32, m13, m23, n41, n42, n43, m14, m24, m34, hs2, hs4])
    | (refine aop_call' (cm) ?_; simp [set_at, n21, m12, n31, n32, m13, m23, n41, n42, n43, m14, m24, m34, hs2, hs4])
    | (refine aop_call' (ct) ?_; simp [set_at, n21, m12, n31, n32, m13, m23, n41, n42, n43, m14, m24, m34, hs2, hs4])
    | (refine aop_call' (ce) ?_; simp [set_at, n21, m12, n31, n32, m13, m23, n41, n42, n43, m14, m24, m34, hs2, hs4])
    | (refine aop_call' (dt) ?_; simp [set_at, n21, m12, n31, n32, m13, m23, n41, n42, n43, m14, m24, m34, hs2, hs4])
    | (refine aop_call' (de) ?_; simp [set_at, n21, m12, n31, n32, m13, m23, n41, n42, n43, m14, m24, m34, hs2, hs4])
    | (refine aop_call' (c1) ?_; simp [set_at, n21, m12, n31, n32, m13, m23, n41, n42, n43, m14, m24, m34, hs2, hs4])
    | (refine aop_call' (c2) ?_; simp [set_at, n21, m12, n31, n32, m13, m23, n41, n42, n43, m14, m24, m34, hs2, hs4])
    | (refine AWp.ret (post_ret1 rfl ?_); (simp; done))
    | (refine guardI (fun hq => ?_) (fun hq => ?_) <;> (try simp at hq) <;> (try simp [set_at, n21, m12, n31, n32, m13, m23, n41, n42, n43, m14, m24, m34, hs2, hs4]))
    | (refine condRunI (fun hq => ?_) (fun hq => ?_) <;> (try simp at hq) <;> (try simp [set_at, n21, m12, n31, n32, m13, m23, n41, n42, n43, m14, m24, m34, hs2, hs4]))
    | (refine iteI (fun hq => ?_) (fun hq => ?_) <;> (try simp [set_at, n21, m12, n31, n32, m13, m23, n41, n42, n43, m14, m24, m34, hs2, hs4])))
section
variable {H : Type} {enc : TypeId × Value → H} {W : World}
theorem o_Put (fuel : Nat) : Opens enc Tryz.prog W 162 Pu.cells (fun _ => True) fuel := by
  cases fuel with
  | zero => exact opens_zero
  | succ k =>
    exact Opens.map (opens_struct Tryz.underlying162 (N := 2) (by kernel_rfl) (fields_cons (n := 1) rfl (by kernel_rfl) (opens_int Tryz.underlying3 _) (fields_cons (n := 1) rfl (by kernel_rfl) (opens_int Tryz.underlying3 _) (fields_nil rfl))))
      (fun x => Pu.mk x.1 x.2.1) fun x hx => ⟨trivial, Les.refl _⟩
theorem o_IntS (fuel : Nat) : Opens enc Tryz.prog W 41 (fun l : List Int => [ints l]) (fun l => l.length ≤ most) fuel := by
  cases fuel with
  | zero => exact opens_zero
  | succ k => exact Opens.map (opens_slice Tryz.underlying41 (n := 1) (elt := AV.int .i64) (by kernel_rfl) (by omega) (fun _ => rfl) (fun _ => rfl) (opens_int Tryz.underlying3 k)) id fun x hx => ⟨hx.1, Les.refl _⟩
theorem o_PutS (fuel : Nat) : Opens enc Tryz.prog W 120 (fun l : List Pu => [.lst false 2 (l.map Pu.av)]) (fun l => l.length ≤ most) fuel := by
  cases fuel with
  | zero => exact opens_zero
  | succ k => exact Opens.map (opens_slice Tryz.underlying120 (n := 2) (elt := Pu.av) (by kernel_rfl) (by omega) (fun _ => rfl) (fun _ => rfl) (o_Put k)) id fun x hx => ⟨hx.1, Les.refl _⟩
theorem o_Hand (fuel : Nat) : Opens enc Tryz.prog W 122 Hd.cells Hd.fit fuel := by
  cases fuel with
  | zero => exact opens_zero
  | succ k =>
    exact Opens.map (opens_struct Tryz.underlying122 (N := 6) (by kernel_rfl) (fields_cons (n := 1) rfl (by kernel_rfl) (opens_int Tryz.underlying3 _) (fields_cons (n := 1) rfl (by kernel_rfl) (o_IntS _) (fields_cons (n := 1) rfl (by kernel_rfl) (o_IntS _) (fields_cons (n := 1) rfl (by kernel_rfl) (o_PutS _)
      (fields_cons (n := 1) rfl (by kernel_rfl) (opens_bool Tryz.underlying4 _) (fields_cons (n := 1) rfl (by kernel_rfl) (opens_bool Tryz.underlying4 _) (fields_nil rfl))))))))
      (fun x => Hd.mk x.1 x.2.1 x.2.2.1 x.2.2.2.1 x.2.2.2.2.1 x.2.2.2.2.2.1) fun x hx => ⟨⟨hx.2.1, hx.2.2.1, hx.2.2.2.1⟩, Les.refl _⟩
theorem o_HandS (fuel : Nat) : Opens enc Tryz.prog W 42 (fun l : List Hd => [.lst false 6 (l.map Hd.av)]) (fun l => l.length ≤ most ∧ ∀ x ∈ l, x.fit) fuel := by
  cases fuel with
  | zero => exact opens_zero
  | succ k => exact Opens.map (opens_slice Tryz.underlying42 (n := 6) (elt := Hd.av) (by kernel_rfl) (by omega) (fun _ => rfl) (fun _ => rfl) (o_Hand k)) id fun x hx => ⟨hx, Les.refl _⟩
theorem o_Mach (fuel : Nat) : Opens enc Tryz.prog W 44 Mc.cells Mc.fit fuel := by
  cases fuel with
  | zero => exact opens_zero
  | succ k =>
    exact Opens.map (opens_struct Tryz.underlying44 (N := 4) (by kernel_rfl) (fields_cons (n := 1) rfl (by kernel_rfl) (o_IntS _) (fields_cons (n := 1) rfl (by kernel_rfl) (o_HandS _) (fields_cons (n := 1) rfl (by kernel_rfl) (o_IntS _)
      (fields_cons (n := 1) rfl (by kernel_rfl) (opens_bool Tryz.underlying4 _) (fields_nil rfl))))))
      (fun x => Mc.mk x.1 x.2.1 x.2.2.1 x.2.2.2.1) fun x hx => ⟨⟨hx.1, hx.2.1.1, hx.2.1.2, hx.2.2.1⟩, Les.refl _⟩
end
end Go.T
