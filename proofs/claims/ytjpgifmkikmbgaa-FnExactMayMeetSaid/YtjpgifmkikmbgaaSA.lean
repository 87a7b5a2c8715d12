/- What the laws' measuring, copying and comparing functions compute, of straight sums and boxes. Straight sums and boxes that are right: what the program and the reference compute. Terms and ranges looked for; boxes that are right: what the program and the reference compute. -/
import Derived.Test.YtjpgifmkikmbgaaD11
import Derived.Test.YtjpgifmkikmbgaaM1
import Derived.Test.YtjpgifmkikmbgaaL1
import Derived.Test.YtjpgifmkikmbgaaT20
import Derived.WalkKit
namespace Go.T
open Go Go.Proofs
set_option maxRecDepth 10000
set_option linter.unusedSimpArgs false
set_option linter.unusedVariables false
theorem c_szTerm0 (t : Tm) (hs : t.fit) (n : Int) (h0 : 0 ≤ n) (h1 : n ≤ 1048576) :
    PCall Try.prog 73 [t.av, .int .i64 n] (.int .i64 (szr (t.s.size) n)) := by
  unfold Tm.fit most at hs
  unfold Tm.av Tm.cells
  refine pcall_of Try.func73 (by kernel_rfl) rfl (by simp [Try.f73]) ?_
  (repeat refine AWp.seq ?_); refine AWp.region noP (by kernel_rfl) ?_
  simp
  intro g
  have w0 : IntKind.wrap .i64 (n - (t.s.size : Int)) = n - (t.s.size : Int) := wrap64 (by omega) (by omega)
  (repeat refine AWp.seq ?_); refine AWp.region noP (by kernel_rfl) ?_
  simp [w0]
  (repeat refine AWp.seq ?_); refine AWp.region noP (by kernel_rfl) ?_
  simp
  have z0 : szr (t.s.size) n = szr (t.s.size) n := rfl
  refine AWp.cond (b := decide ((n - (t.s.size : Int)) < 0)) (by simp) (fun hb => ?_) (fun hb0 => ?_)
  · simp at hb
    (repeat refine AWp.seq ?_); refine AWp.region noP (by kernel_rfl) ?_
    simp
    have e : szr (t.s.size) n = -1 := szr_neg (by omega)
    refine AWp.ret (post_ret1 rfl ?_)
    simp only [put_slot, reduceIte]
    congr 1
    rw [z0, e]
  simp at hb0
  refine AWp.skip ?_
  simp
  have e0 : szr (t.s.size) n = (n - (t.s.size : Int)) := szr_pos (by omega)
  have y0 := e0
  (repeat refine AWp.seq ?_); refine AWp.region noP (by kernel_rfl) ?_
  simp
  refine AWp.ret (post_ret1 rfl ?_)
  simp only [put_slot, reduceIte]
  all_goals (congr 1; rw [y0])
theorem c_szRng0 (t : Rg) (hs : t.fit) (n : Int) (h0 : 0 ≤ n) (h1 : n ≤ 1048576) :
    PCall Try.prog 39 [t.av, .int .i64 n] (.int .i64 (szr (t.s.size) n)) := by
  unfold Rg.fit most at hs
  unfold Rg.av Rg.cells
  refine pcall_of Try.func39 (by kernel_rfl) rfl (by simp [Try.f39]) ?_
  (repeat refine AWp.seq ?_); refine AWp.region noP (by kernel_rfl) ?_
  simp
  intro g
  have w0 : IntKind.wrap .i64 (n - (t.s.size : Int)) = n - (t.s.size : Int) := wrap64 (by omega) (by omega)
  (repeat refine AWp.seq ?_); refine AWp.region noP (by kernel_rfl) ?_
  simp [w0]
  (repeat refine AWp.seq ?_); refine AWp.region noP (by kernel_rfl) ?_
  simp
  have z0 : szr (t.s.size) n = szr (t.s.size) n := rfl
  refine AWp.cond (b := decide ((n - (t.s.size : Int)) < 0)) (by simp) (fun hb => ?_) (fun hb0 => ?_)
  · simp at hb
    (repeat refine AWp.seq ?_); refine AWp.region noP (by kernel_rfl) ?_
    simp
    have e : szr (t.s.size) n = -1 := szr_neg (by omega)
    refine AWp.ret (post_ret1 rfl ?_)
    simp only [put_slot, reduceIte]
    congr 1
    rw [z0, e]
  simp at hb0
  refine AWp.skip ?_
  simp
  have e0 : szr (t.s.size) n = (n - (t.s.size : Int)) := szr_pos (by omega)
  have y0 := e0
  (repeat refine AWp.seq ?_); refine AWp.region noP (by kernel_rfl) ?_
  simp
  refine AWp.ret (post_ret1 rfl ?_)
  simp only [put_slot, reduceIte]
  all_goals (congr 1; rw [y0])
theorem c_szTermS (l : List Tm) (hf : l.length ≤ most) (h : ∀ x ∈ l, ∀ n : Int, 0 ≤ n → n ≤ 1048576 → PCall Try.prog 73 [x.av, .int .i64 n] (.int .i64 (szr x.tot n))) (n : Int) (h0 : 0 ≤ n) (h1 : n ≤ 1048576) :
    PCall Try.prog 38 [.lst false 2 (l.map Tm.av), .int .i64 n] (.int .i64 (szr (totL Tm.tot l) n)) := by
  refine pcall_of Try.func38 (by kernel_rfl) rfl (by simp [Try.f38]) ?_
  unfold most at hf
  (repeat refine AWp.seq ?_); refine AWp.region noP (by kernel_rfl) ?_
  simp
  have hw : IntKind.wrap .i64 (n - (l.length : Int)) = n - l.length := wrap64 (by omega) (by omega)
  (repeat refine AWp.seq ?_); refine AWp.region noP (by kernel_rfl) ?_
  simp [hw]
  (repeat refine AWp.seq ?_); refine AWp.region noP (by kernel_rfl) ?_
  simp
  have ht := totL_sum Tm.tot l
  refine AWp.cond (b := decide (n - (l.length : Int) < 0)) (by simp) (fun hb => ?_) (fun hb => ?_)
  · (repeat refine AWp.seq ?_); refine AWp.region noP (by kernel_rfl) ?_
    simp
    simp at hb
    exact AWp.ret (post_ret1 rfl (by simp; rw [szr_neg (by omega)]))
  simp at hb
  refine AWp.skip ?_
  simp
  (repeat refine AWp.seq ?_); refine AWp.region noP (by kernel_rfl) ?_
  simp
  (repeat refine AWp.seq ?_); refine AWp.block (AWp.rounds (fun m st => ∃ (i : Nat) (q : Int), m = l.length - i ∧ i ≤ l.length ∧ st.slots 0 = .lst false 2 (l.map Tm.av) ∧ st.slots 1 = .int .i64 q ∧ st.slots 5 = .int .i64 i ∧ 0 ≤ q ∧ q ≤ 1048576 ∧ szr (totL Tm.tot l) n = szr (sumL Tm.tot (l.drop i)) q) l.length ⟨0, n - l.length, by simp, by simp, by simp, by simp, by simp, by omega, by omega, by
    rw [ht, szr_add, szr_pos (show ((l.length : Nat) : Int) ≤ n by omega), if_neg (by omega)]; rfl⟩ ?_)
  rintro R m st hR ⟨i, q, rfl, hi, s0, s1, s5, hq0, hq1, hr⟩
  (repeat refine AWp.seq ?_); refine AWp.region noP (by kernel_rfl) ?_
  simp [s0, s5]
  refine AWp.cond (b := decide (i < l.length)) (by simp) (fun hb => ?_) (fun hb => ?_)
  · simp at hb
    have hg : l[i]? = some l[i] := List.getElem?_eq_getElem hb
    have hd : l.drop i = l[i] :: l.drop (i + 1) := List.drop_eq_getElem_cons hb
    refine AWp.skip ?_
    simp
    (repeat refine AWp.seq ?_); refine AWp.block ?_; (repeat refine AWp.seq ?_); refine AWp.region allP (by kernel_rfl) ?_
    have hx : idxA Try.prog st.mem 34 (.lst false 2 (l.map Tm.av)) (.int .i64 i) = some (.ref l[i].cells) := idx (y := l[i].av) es_34 (by simp [hg])
    have hc : List.take 2 l[i].cells = l[i].cells := List.take_of_length_le (by rw [Tm.cells_len]; exact Nat.le_refl _)
    simp [s0, s1, s5, hx, Tm.cells_len, hc]
    refine aop_call _ _ _ _ _ _ _ _ (h l[i] (List.getElem_mem _) q hq0 hq1) ?_
    simp
    have hz : szr (totL Tm.tot l) n = if szr l[i].tot q < 0 then -1 else szr (sumL Tm.tot (l.drop (i + 1))) (szr l[i].tot q) := by rw [hr, hd, sumL, szr_add]
    (repeat refine AWp.seq ?_); refine AWp.region noP (by kernel_rfl) ?_
    simp
    refine AWp.cond (b := decide (szr l[i].tot q < 0)) (by simp) (fun he => ?_) (fun he => ?_)
    · simp at he
      (repeat refine AWp.seq ?_); refine AWp.region noP (by kernel_rfl) ?_
      simp
      exact AWp.ret (post_ret1 rfl (by simp; rw [hz, if_pos he]))
    · simp at he
      refine AWp.skip ?_
      simp
      refine AWp.region noP (by kernel_rfl) ?_
      have hw : IntKind.wrap .i64 ((i : Int) + 1) = (i + 1 : Nat) := wrap64 (by omega) (by omega)
      simp [s0, s1, s5, hw]
      have hle : szr l[i].tot q ≤ 1048576 := by unfold szr; split <;> omega
      refine hR _ (l.length - (i + 1)) (by omega) ⟨i + 1, szr l[i].tot q, rfl, hb, by simp [s0], by simp, by simp, he, hle, ?_⟩
      rw [hz, if_neg (by omega)]
  · simp at hb
    refine AWp.exit ?_
    simp
    (repeat refine AWp.seq ?_); refine AWp.region noP (by kernel_rfl) ?_
    simp [s1]
    have : i = l.length := by omega
    subst this
    refine AWp.ret (post_ret1 rfl ?_)
    simp [hr, sumL]
    rw [szr_pos (by omega)]; simp
theorem c_szRngS (l : List Rg) (hf : l.length ≤ most) (h : ∀ x ∈ l, ∀ n : Int, 0 ≤ n → n ≤ 1048576 → PCall Try.prog 39 [x.av, .int .i64 n] (.int .i64 (szr x.tot n))) (n : Int) (h0 : 0 ≤ n) (h1 : n ≤ 1048576) :
    PCall Try.prog 12 [.lst false 3 (l.map Rg.av), .int .i64 n] (.int .i64 (szr (totL Rg.tot l) n)) := by
  refine pcall_of Try.func12 (by kernel_rfl) rfl (by simp [Try.f12]) ?_
  unfold most at hf
  (repeat refine AWp.seq ?_); refine AWp.region noP (by kernel_rfl) ?_
  simp
  have hw : IntKind.wrap .i64 (n - (l.length : Int)) = n - l.length := wrap64 (by omega) (by omega)
  (repeat refine AWp.seq ?_); refine AWp.region noP (by kernel_rfl) ?_
  simp [hw]
  (repeat refine AWp.seq ?_); refine AWp.region noP (by kernel_rfl) ?_
  simp
  have ht := totL_sum Rg.tot l
  refine AWp.cond (b := decide (n - (l.length : Int) < 0)) (by simp) (fun hb => ?_) (fun hb => ?_)
  · (repeat refine AWp.seq ?_); refine AWp.region noP (by kernel_rfl) ?_
    simp
    simp at hb
    exact AWp.ret (post_ret1 rfl (by simp; rw [szr_neg (by omega)]))
  simp at hb
  refine AWp.skip ?_
  simp
  (repeat refine AWp.seq ?_); refine AWp.region noP (by kernel_rfl) ?_
  simp
  (repeat refine AWp.seq ?_); refine AWp.block (AWp.rounds (fun m st => ∃ (i : Nat) (q : Int), m = l.length - i ∧ i ≤ l.length ∧ st.slots 0 = .lst false 3 (l.map Rg.av) ∧ st.slots 1 = .int .i64 q ∧ st.slots 5 = .int .i64 i ∧ 0 ≤ q ∧ q ≤ 1048576 ∧ szr (totL Rg.tot l) n = szr (sumL Rg.tot (l.drop i)) q) l.length ⟨0, n - l.length, by simp, by simp, by simp, by simp, by simp, by omega, by omega, by
    rw [ht, szr_add, szr_pos (show ((l.length : Nat) : Int) ≤ n by omega), if_neg (by omega)]; rfl⟩ ?_)
  rintro R m st hR ⟨i, q, rfl, hi, s0, s1, s5, hq0, hq1, hr⟩
  (repeat refine AWp.seq ?_); refine AWp.region noP (by kernel_rfl) ?_
  simp [s0, s5]
  refine AWp.cond (b := decide (i < l.length)) (by simp) (fun hb => ?_) (fun hb => ?_)
  · simp at hb
    have hg : l[i]? = some l[i] := List.getElem?_eq_getElem hb
    have hd : l.drop i = l[i] :: l.drop (i + 1) := List.drop_eq_getElem_cons hb
    refine AWp.skip ?_
    simp
    (repeat refine AWp.seq ?_); refine AWp.block ?_; (repeat refine AWp.seq ?_); refine AWp.region allP (by kernel_rfl) ?_
    have hx : idxA Try.prog st.mem 37 (.lst false 3 (l.map Rg.av)) (.int .i64 i) = some (.ref l[i].cells) := idx (y := l[i].av) es_37 (by simp [hg])
    have hc : List.take 3 l[i].cells = l[i].cells := List.take_of_length_le (by rw [Rg.cells_len]; exact Nat.le_refl _)
    simp [s0, s1, s5, hx, Rg.cells_len, hc]
    refine aop_call _ _ _ _ _ _ _ _ (h l[i] (List.getElem_mem _) q hq0 hq1) ?_
    simp
    have hz : szr (totL Rg.tot l) n = if szr l[i].tot q < 0 then -1 else szr (sumL Rg.tot (l.drop (i + 1))) (szr l[i].tot q) := by rw [hr, hd, sumL, szr_add]
    (repeat refine AWp.seq ?_); refine AWp.region noP (by kernel_rfl) ?_
    simp
    refine AWp.cond (b := decide (szr l[i].tot q < 0)) (by simp) (fun he => ?_) (fun he => ?_)
    · simp at he
      (repeat refine AWp.seq ?_); refine AWp.region noP (by kernel_rfl) ?_
      simp
      exact AWp.ret (post_ret1 rfl (by simp; rw [hz, if_pos he]))
    · simp at he
      refine AWp.skip ?_
      simp
      refine AWp.region noP (by kernel_rfl) ?_
      have hw : IntKind.wrap .i64 ((i : Int) + 1) = (i + 1 : Nat) := wrap64 (by omega) (by omega)
      simp [s0, s1, s5, hw]
      have hle : szr l[i].tot q ≤ 1048576 := by unfold szr; split <;> omega
      refine hR _ (l.length - (i + 1)) (by omega) ⟨i + 1, szr l[i].tot q, rfl, hb, by simp [s0], by simp, by simp, he, hle, ?_⟩
      rw [hz, if_neg (by omega)]
  · simp at hb
    refine AWp.exit ?_
    simp
    (repeat refine AWp.seq ?_); refine AWp.region noP (by kernel_rfl) ?_
    simp [s1]
    have : i = l.length := by omega
    subst this
    refine AWp.ret (post_ret1 rfl ?_)
    simp [hr, sumL]
    rw [szr_pos (by omega)]; simp
theorem c_szAff0 (a : Af) (hf : a.fit) (n : Int) (h0 : 0 ≤ n) (h1 : n ≤ 1048576) :
    PCall Try.prog 11 [a.av, .int .i64 n] (.int .i64 (szr (totL Tm.tot a.t) n)) := by
  obtain ⟨f1, f2⟩ := hf
  unfold Af.av Af.cells tms
  refine pcall_of Try.func11 (by kernel_rfl) rfl (by simp [Try.f11]) ?_
  (repeat refine AWp.seq ?_); refine AWp.region noP (by kernel_rfl) ?_
  simp
  intro g
  (repeat refine AWp.seq ?_); refine AWp.region noP (by kernel_rfl) ?_
  simp
  refine aop_call _ _ _ _ _ _ _ _ (c_szTermS a.t f1 (fun x hx => c_szTerm0 x (f2 x hx)) _ (by omega) (by omega)) ?_
  simp
  (repeat refine AWp.seq ?_); refine AWp.region noP (by kernel_rfl) ?_
  simp
  have z0 : szr (totL Tm.tot a.t) n = szr (totL Tm.tot a.t) n := rfl
  refine AWp.cond (b := decide ((szr (totL Tm.tot a.t) n) < 0)) (by simp) (fun hb => ?_) (fun hb0 => ?_)
  · simp at hb
    (repeat refine AWp.seq ?_); refine AWp.region noP (by kernel_rfl) ?_
    simp
    have e : szr (totL Tm.tot a.t) n = -1 := by unfold szr at hb ⊢; split at hb <;> rename_i hq <;> first | omega | rw [if_neg hq]
    refine AWp.ret (post_ret1 rfl ?_)
    simp only [put_slot, reduceIte]
    congr 1
    rw [z0, e]
  simp at hb0
  refine AWp.skip ?_
  simp
  have e0 : szr (totL Tm.tot a.t) n = (szr (totL Tm.tot a.t) n) := rfl
  have l0 : szr (totL Tm.tot a.t) n ≤ 1048576 := by unfold szr; split <;> omega
  have y0 := e0
  (repeat refine AWp.seq ?_); refine AWp.region noP (by kernel_rfl) ?_
  simp
  refine AWp.ret (post_ret1 rfl ?_)
  simp only [put_slot, reduceIte]
  all_goals (congr 1; rw [y0])
theorem c_toTerm0 (p : Tm) : PCall Try.prog 77 [p.av] p.av := by
  unfold Tm.av Tm.cells
  refine pcall_of Try.func77 (by kernel_rfl) rfl (by simp [Try.f77]) ?_
  (repeat refine AWp.seq ?_); refine AWp.region noP (by kernel_rfl) ?_
  simp [set_at]
  intro g1 g2 h2
  (repeat refine AWp.seq ?_); refine AWp.region noP (by kernel_rfl) ?_
  simp [set_at]
  intro g3 h3
  have n21 : g2 ≠ g1 := fun e => by simp [e] at h2
  have m12 := n21.symm
  have n32 : g3 ≠ g2 := fun e => by simp [e] at h3
  have n31 : g3 ≠ g1 := fun e => by simp [e, m12] at h3
  have m23 := n32.symm
  have m13 := n31.symm
  (repeat refine AWp.seq ?_); refine AWp.region noP (by kernel_rfl) ?_
  simp [set_at, n21, n32, n31, m12, m23, m13]
  (repeat refine AWp.seq ?_); refine AWp.region noP (by kernel_rfl) ?_
  simp [set_at, n21, n32, n31, m12, m23, m13]
  (repeat refine AWp.seq ?_); refine AWp.region noP (by kernel_rfl) ?_
  simp [set_at, n21, n32, n31, m12, m23, m13]
  exact AWp.ret (post_cell (.inl rfl) rfl (by simp [set_at, n21, n32, n31, m12, m23, m13]))
theorem c_toRng0 (p : Rg) : PCall Try.prog 48 [p.av] p.av := by
  unfold Rg.av Rg.cells
  refine pcall_of Try.func48 (by kernel_rfl) rfl (by simp [Try.f48]) ?_
  (repeat refine AWp.seq ?_); refine AWp.region noP (by kernel_rfl) ?_
  simp [set_at]
  intro g1 g2 h2
  (repeat refine AWp.seq ?_); refine AWp.region noP (by kernel_rfl) ?_
  simp [set_at]
  intro g3 h3
  have n21 : g2 ≠ g1 := fun e => by simp [e] at h2
  have m12 := n21.symm
  have n32 : g3 ≠ g2 := fun e => by simp [e] at h3
  have n31 : g3 ≠ g1 := fun e => by simp [e, m12] at h3
  have m23 := n32.symm
  have m13 := n31.symm
  (repeat refine AWp.seq ?_); refine AWp.region noP (by kernel_rfl) ?_
  simp [set_at, n21, n32, n31, m12, m23, m13]
  (repeat refine AWp.seq ?_); refine AWp.region noP (by kernel_rfl) ?_
  simp [set_at, n21, n32, n31, m12, m23, m13]
  (repeat refine AWp.seq ?_); refine AWp.region noP (by kernel_rfl) ?_
  simp [set_at, n21, n32, n31, m12, m23, m13]
  (repeat refine AWp.seq ?_); refine AWp.region noP (by kernel_rfl) ?_
  simp [set_at, n21, n32, n31, m12, m23, m13]
  exact AWp.ret (post_cell (.inl rfl) rfl (by simp [set_at, n21, n32, n31, m12, m23, m13]))
theorem c_eqTerm0 (p : Tm) : PCall Try.prog 84 [p.av, p.av] (.bool true) := by
  unfold Tm.av Tm.cells
  refine pcall_of Try.func84 (by kernel_rfl) rfl (by simp [Try.f84]) ?_
  (repeat refine AWp.seq ?_); refine AWp.region noP (by kernel_rfl) ?_
  simp [set_at]
  intro g1 g2 h2
  have n21 : g2 ≠ g1 := fun e => by simp [e] at h2
  have m12 := n21.symm
  (repeat refine AWp.seq ?_); refine AWp.region noP (by kernel_rfl) ?_
  simp [set_at, n21, m12]
  refine AWp.cond (b := false) (by simp) (fun h => by cases h) (fun _ => ?_)
  refine AWp.skip ?_
  simp
  (repeat refine AWp.seq ?_); refine AWp.region noP (by kernel_rfl) ?_
  simp [set_at, n21, m12]
  refine AWp.cond (b := false) (by simp) (fun h => by cases h) (fun _ => ?_)
  refine AWp.skip ?_
  simp
  (repeat refine AWp.seq ?_); refine AWp.region noP (by kernel_rfl) ?_
  simp
  exact AWp.ret (post_ret1 rfl (by simp))
theorem c_eqRng0 (p : Rg) : PCall Try.prog 56 [p.av, p.av] (.bool true) := by
  unfold Rg.av Rg.cells
  refine pcall_of Try.func56 (by kernel_rfl) rfl (by simp [Try.f56]) ?_
  (repeat refine AWp.seq ?_); refine AWp.region noP (by kernel_rfl) ?_
  simp [set_at]
  intro g1 g2 h2
  have n21 : g2 ≠ g1 := fun e => by simp [e] at h2
  have m12 := n21.symm
  (repeat refine AWp.seq ?_); refine AWp.region noP (by kernel_rfl) ?_
  simp [set_at, n21, m12]
  refine AWp.cond (b := false) (by simp) (fun h => by cases h) (fun _ => ?_)
  refine AWp.skip ?_
  simp
  (repeat refine AWp.seq ?_); refine AWp.region noP (by kernel_rfl) ?_
  simp [set_at, n21, m12]
  refine AWp.cond (b := false) (by simp) (fun h => by cases h) (fun _ => ?_)
  refine AWp.skip ?_
  simp
  (repeat refine AWp.seq ?_); refine AWp.region noP (by kernel_rfl) ?_
  simp [set_at, n21, m12]
  refine AWp.cond (b := false) (by simp) (fun h => by cases h) (fun _ => ?_)
  refine AWp.skip ?_
  simp
  (repeat refine AWp.seq ?_); refine AWp.region noP (by kernel_rfl) ?_
  simp
  exact AWp.ret (post_ret1 rfl (by simp))
theorem c_toTermS (l : List Tm) (hl : l.length ≤ 1048576) (h : ∀ x ∈ l, PCall Try.prog 77 [x.av] x.av) :
    PCall Try.prog 47 [.lst false 2 (l.map Tm.av)] (.lst false 2 (l.map Tm.av)) := by
  refine pcall_of Try.func47 (by kernel_rfl) rfl (by simp [Try.f47]) ?_
  (repeat refine AWp.seq ?_); refine AWp.region noP (by kernel_rfl) ?_
  simp
  (repeat refine AWp.seq ?_); refine AWp.region noP (by kernel_rfl) ?_
  simp
  refine ⟨by omega, by omega, fun g => ?_⟩
  (repeat refine AWp.seq ?_); refine AWp.region noP (by kernel_rfl) ?_
  simp
  (repeat refine AWp.seq ?_); refine AWp.block (AWp.rounds (fun m st => ∃ (i : Nat) (xs : List AV), m = l.length - i ∧ i ≤ l.length ∧ st.slots 0 = .lst false 2 (l.map Tm.av) ∧ st.slots 3 = .own g l.length l.length ∧ st.slots 4 = .int .i64 i ∧ st.mem g = some (.arr 126 2 l.length xs) ∧ xs.length = l.length ∧ xs.take i = (l.map Tm.av).take i) l.length ⟨0, _, by simp, by simp, by simp, by simp, by simp, by simp; rfl, by simp, by simp⟩ ?_)
  rintro R m st hR ⟨i, xs, rfl, hi, s0, s3, s4, hg, hn, hx⟩
  (repeat refine AWp.seq ?_); refine AWp.region noP (by kernel_rfl) ?_
  simp [s0, s4]
  refine AWp.cond (b := decide (i < l.length)) (by simp) (fun hb => ?_) (fun hb => ?_)
  · simp at hb
    have hq : l[i]? = some l[i] := List.getElem?_eq_getElem hb
    refine AWp.skip ?_
    simp
    (repeat refine AWp.seq ?_); refine AWp.block ?_; (repeat refine AWp.seq ?_); refine AWp.region noP (by kernel_rfl) ?_
    have hx1 : idxA Try.prog st.mem 34 (.lst false 2 (l.map Tm.av)) (.int .i64 i) = some (.ref l[i].cells) := idx (y := l[i].av) es_34 (by simp [hq])
    simp [s0, s3, s4, hx1]
    refine aop_call _ _ _ _ _ _ _ _ (h l[i] (List.getElem_mem _)) ?_
    have hx2 : idxA Try.prog st.mem 41 (.own g l.length l.length) (.int .i64 i) = some (.elt g 2 i 0) := idx_own es_41 hg hn hb
    have hx3 : storeA st.mem (.elt g 2 i 0) (.agg l[i].cells) = some _ := store_elt hg (by omega) (by simp [Tm.cells_len])
    simp [s0, s3, s4, hx2, Tm.av, hx3]
    (repeat refine AWp.seq ?_); refine AWp.region noP (by kernel_rfl) ?_
    have hw : IntKind.wrap .i64 ((i : Int) + 1) = (i + 1 : Nat) := wrap64 (by omega) (by omega)
    simp [s4, hw]
    refine hR _ (l.length - (i + 1)) (by omega) ⟨i + 1, _, rfl, hb, by simp [s0], by simp [s3], by simp, by simp; rfl, by simp [hn], ?_⟩
    exact take_set hx (by simp [hn]) (by simp [hq, Tm.av])
  · simp at hb
    refine AWp.exit ?_
    simp
    (repeat refine AWp.seq ?_); refine AWp.region noP (by kernel_rfl) ?_
    simp [s3]
    have : i = l.length := by omega
    subst this
    have e : xs = l.map Tm.av := by rw [List.take_of_length_le (by omega), List.take_of_length_le (by simp)] at hx; exact hx
    subst e
    exact AWp.ret (post_own rfl (by simp; rfl) hg (by simp) rfl)
theorem c_eqTermS (l : List Tm) (hl : l.length ≤ 1048576) (h : ∀ x ∈ l, PCall Try.prog 84 [x.av, x.av] (.bool true)) :
    PCall Try.prog 55 [.lst false 2 (l.map Tm.av), .lst false 2 (l.map Tm.av)] (.bool true) := by
  refine pcall_of Try.func55 (by kernel_rfl) rfl (by simp [Try.f55]) ?_
  (repeat refine AWp.seq ?_); refine AWp.region noP (by kernel_rfl) ?_
  simp
  (repeat refine AWp.seq ?_); refine AWp.region noP (by kernel_rfl) ?_
  simp
  refine AWp.cond (b := false) (by simp) (fun h => by cases h) (fun _ => ?_)
  refine AWp.skip ?_
  simp
  (repeat refine AWp.seq ?_); refine AWp.region noP (by kernel_rfl) ?_
  simp
  (repeat refine AWp.seq ?_); refine AWp.block (AWp.rounds (fun m st => ∃ (i : Nat), m = l.length - i ∧ i ≤ l.length ∧ st.slots 0 = .lst false 2 (l.map Tm.av) ∧ st.slots 1 = .lst false 2 (l.map Tm.av) ∧ st.slots 5 = .int .i64 i) l.length ⟨0, by simp, by simp, by simp, by simp, by simp⟩ ?_)
  rintro R m st hR ⟨i, rfl, hi, s0, s1, s5⟩
  (repeat refine AWp.seq ?_); refine AWp.region noP (by kernel_rfl) ?_
  simp [s0, s5]
  refine AWp.cond (b := decide (i < l.length)) (by simp) (fun hb => ?_) (fun hb => ?_)
  · simp at hb
    have hq : l[i]? = some l[i] := List.getElem?_eq_getElem hb
    refine AWp.skip ?_
    simp
    (repeat refine AWp.seq ?_); refine AWp.block ?_; (repeat refine AWp.seq ?_); refine AWp.region allP (by kernel_rfl) ?_
    have hx1 : idxA Try.prog st.mem 41 (.lst false 2 (l.map Tm.av)) (.int .i64 i) = some (.ref l[i].cells) := idx (y := l[i].av) es_41 (by simp [hq])
    simp [s0, s1, s5, hx1]
    refine aop_call _ _ _ _ _ _ _ _ (h l[i] (List.getElem_mem _)) ?_
    simp
    refine AWp.cond (b := false) (by simp) (fun h => by cases h) (fun _ => ?_)
    refine AWp.skip ?_
    simp
    (repeat refine AWp.seq ?_); refine AWp.region noP (by kernel_rfl) ?_
    have hw : IntKind.wrap .i64 ((i : Int) + 1) = (i + 1 : Nat) := wrap64 (by omega) (by omega)
    simp [s5, hw]
    exact hR _ (l.length - (i + 1)) (by omega) ⟨i + 1, rfl, hb, by simp [s0], by simp [s1], by simp⟩
  · simp at hb
    refine AWp.exit ?_
    simp
    (repeat refine AWp.seq ?_); refine AWp.region noP (by kernel_rfl) ?_
    simp
    exact AWp.ret (post_ret1 rfl (by simp))
theorem c_toRngS (l : List Rg) (hl : l.length ≤ 1048576) (h : ∀ x ∈ l, PCall Try.prog 48 [x.av] x.av) :
    PCall Try.prog 15 [.lst false 3 (l.map Rg.av)] (.lst false 3 (l.map Rg.av)) := by
  refine pcall_of Try.func15 (by kernel_rfl) rfl (by simp [Try.f15]) ?_
  (repeat refine AWp.seq ?_); refine AWp.region noP (by kernel_rfl) ?_
  simp
  (repeat refine AWp.seq ?_); refine AWp.region noP (by kernel_rfl) ?_
  simp
  refine ⟨by omega, by omega, fun g => ?_⟩
  (repeat refine AWp.seq ?_); refine AWp.region noP (by kernel_rfl) ?_
  simp
  (repeat refine AWp.seq ?_); refine AWp.block (AWp.rounds (fun m st => ∃ (i : Nat) (xs : List AV), m = l.length - i ∧ i ≤ l.length ∧ st.slots 0 = .lst false 3 (l.map Rg.av) ∧ st.slots 3 = .own g l.length l.length ∧ st.slots 4 = .int .i64 i ∧ st.mem g = some (.arr 91 3 l.length xs) ∧ xs.length = l.length ∧ xs.take i = (l.map Rg.av).take i) l.length ⟨0, _, by simp, by simp, by simp, by simp, by simp, by simp; rfl, by simp, by simp⟩ ?_)
  rintro R m st hR ⟨i, xs, rfl, hi, s0, s3, s4, hg, hn, hx⟩
  (repeat refine AWp.seq ?_); refine AWp.region noP (by kernel_rfl) ?_
  simp [s0, s4]
  refine AWp.cond (b := decide (i < l.length)) (by simp) (fun hb => ?_) (fun hb => ?_)
  · simp at hb
    have hq : l[i]? = some l[i] := List.getElem?_eq_getElem hb
    refine AWp.skip ?_
    simp
    (repeat refine AWp.seq ?_); refine AWp.block ?_; (repeat refine AWp.seq ?_); refine AWp.region noP (by kernel_rfl) ?_
    have hx1 : idxA Try.prog st.mem 37 (.lst false 3 (l.map Rg.av)) (.int .i64 i) = some (.ref l[i].cells) := idx (y := l[i].av) es_37 (by simp [hq])
    simp [s0, s3, s4, hx1]
    refine aop_call _ _ _ _ _ _ _ _ (h l[i] (List.getElem_mem _)) ?_
    have hx2 : idxA Try.prog st.mem 45 (.own g l.length l.length) (.int .i64 i) = some (.elt g 3 i 0) := idx_own es_45 hg hn hb
    have hx3 : storeA st.mem (.elt g 3 i 0) (.agg l[i].cells) = some _ := store_elt hg (by omega) (by simp [Rg.cells_len])
    simp [s0, s3, s4, hx2, Rg.av, hx3]
    (repeat refine AWp.seq ?_); refine AWp.region noP (by kernel_rfl) ?_
    have hw : IntKind.wrap .i64 ((i : Int) + 1) = (i + 1 : Nat) := wrap64 (by omega) (by omega)
    simp [s4, hw]
    refine hR _ (l.length - (i + 1)) (by omega) ⟨i + 1, _, rfl, hb, by simp [s0], by simp [s3], by simp, by simp; rfl, by simp [hn], ?_⟩
    exact take_set hx (by simp [hn]) (by simp [hq, Rg.av])
  · simp at hb
    refine AWp.exit ?_
    simp
    (repeat refine AWp.seq ?_); refine AWp.region noP (by kernel_rfl) ?_
    simp [s3]
    have : i = l.length := by omega
    subst this
    have e : xs = l.map Rg.av := by rw [List.take_of_length_le (by omega), List.take_of_length_le (by simp)] at hx; exact hx
    subst e
    exact AWp.ret (post_own rfl (by simp; rfl) hg (by simp) rfl)
theorem c_eqRngS (l : List Rg) (hl : l.length ≤ 1048576) (h : ∀ x ∈ l, PCall Try.prog 56 [x.av, x.av] (.bool true)) :
    PCall Try.prog 18 [.lst false 3 (l.map Rg.av), .lst false 3 (l.map Rg.av)] (.bool true) := by
  refine pcall_of Try.func18 (by kernel_rfl) rfl (by simp [Try.f18]) ?_
  (repeat refine AWp.seq ?_); refine AWp.region noP (by kernel_rfl) ?_
  simp
  (repeat refine AWp.seq ?_); refine AWp.region noP (by kernel_rfl) ?_
  simp
  refine AWp.cond (b := false) (by simp) (fun h => by cases h) (fun _ => ?_)
  refine AWp.skip ?_
  simp
  (repeat refine AWp.seq ?_); refine AWp.region noP (by kernel_rfl) ?_
  simp
  (repeat refine AWp.seq ?_); refine AWp.block (AWp.rounds (fun m st => ∃ (i : Nat), m = l.length - i ∧ i ≤ l.length ∧ st.slots 0 = .lst false 3 (l.map Rg.av) ∧ st.slots 1 = .lst false 3 (l.map Rg.av) ∧ st.slots 5 = .int .i64 i) l.length ⟨0, by simp, by simp, by simp, by simp, by simp⟩ ?_)
  rintro R m st hR ⟨i, rfl, hi, s0, s1, s5⟩
  (repeat refine AWp.seq ?_); refine AWp.region noP (by kernel_rfl) ?_
  simp [s0, s5]
  refine AWp.cond (b := decide (i < l.length)) (by simp) (fun hb => ?_) (fun hb => ?_)
  · simp at hb
    have hq : l[i]? = some l[i] := List.getElem?_eq_getElem hb
    refine AWp.skip ?_
    simp
    (repeat refine AWp.seq ?_); refine AWp.block ?_; (repeat refine AWp.seq ?_); refine AWp.region allP (by kernel_rfl) ?_
    have hx1 : idxA Try.prog st.mem 45 (.lst false 3 (l.map Rg.av)) (.int .i64 i) = some (.ref l[i].cells) := idx (y := l[i].av) es_45 (by simp [hq])
    simp [s0, s1, s5, hx1]
    refine aop_call _ _ _ _ _ _ _ _ (h l[i] (List.getElem_mem _)) ?_
    simp
    refine AWp.cond (b := false) (by simp) (fun h => by cases h) (fun _ => ?_)
    refine AWp.skip ?_
    simp
    (repeat refine AWp.seq ?_); refine AWp.region noP (by kernel_rfl) ?_
    have hw : IntKind.wrap .i64 ((i : Int) + 1) = (i + 1 : Nat) := wrap64 (by omega) (by omega)
    simp [s5, hw]
    exact hR _ (l.length - (i + 1)) (by omega) ⟨i + 1, rfl, hb, by simp [s0], by simp [s1], by simp⟩
  · simp at hb
    refine AWp.exit ?_
    simp
    (repeat refine AWp.seq ?_); refine AWp.region noP (by kernel_rfl) ?_
    simp
    exact AWp.ret (post_ret1 rfl (by simp))
theorem c_toAff0 (a : Af) (ht : a.tot ≤ 1048576) : PCall Try.prog 14 [a.av] a.av := by
  have h1 := totL_len Tm.tot a.t
  have h3 : a.tot = totL Tm.tot a.t := rfl
  unfold Af.av Af.cells tms
  refine pcall_of Try.func14 (by kernel_rfl) rfl (by simp [Try.f14]) ?_
  (repeat refine AWp.seq ?_); refine AWp.region noP (by kernel_rfl) ?_
  simp [set_at]
  intro g1 g2 h2
  (repeat refine AWp.seq ?_); refine AWp.region noP (by kernel_rfl) ?_
  simp [set_at]
  intro g3 h3
  have n21 : g2 ≠ g1 := fun e => by simp [e] at h2
  have m12 := n21.symm
  have n32 : g3 ≠ g2 := fun e => by simp [e] at h3
  have n31 : g3 ≠ g1 := fun e => by simp [e, m12] at h3
  have m23 := n32.symm
  have m13 := n31.symm
  (repeat refine AWp.seq ?_); refine AWp.region noP (by kernel_rfl) ?_
  simp [set_at, n21, n32, n31, m12, m23, m13]
  (repeat refine AWp.seq ?_); refine AWp.region noP (by kernel_rfl) ?_
  simp [set_at, n21, n32, n31, m12, m23, m13]
  refine aop_call _ _ _ _ _ _ _ _ (c_toTermS a.t (by omega) (fun x _ => c_toTerm0 x)) ?_
  simp [set_at, n21, n32, n31, m12, m23, m13]
  (repeat refine AWp.seq ?_); refine AWp.region noP (by kernel_rfl) ?_
  simp [set_at, n21, n32, n31, m12, m23, m13]
  exact AWp.ret (post_cell (.inl rfl) rfl (by simp [set_at, n21, n32, n31, m12, m23, m13]))
theorem c_eqAff0 (a : Af) (ht : a.tot ≤ 1048576) : PCall Try.prog 17 [a.av, a.av] (.bool true) := by
  have h1 := totL_len Tm.tot a.t
  have h3 : a.tot = totL Tm.tot a.t := rfl
  unfold Af.av Af.cells tms
  refine pcall_of Try.func17 (by kernel_rfl) rfl (by simp [Try.f17]) ?_
  (repeat refine AWp.seq ?_); refine AWp.region noP (by kernel_rfl) ?_
  simp [set_at]
  intro g1 g2 h2
  have n21 : g2 ≠ g1 := fun e => by simp [e] at h2
  have m12 := n21.symm
  (repeat refine AWp.seq ?_); refine AWp.region noP (by kernel_rfl) ?_
  simp [set_at, n21, m12]
  refine AWp.cond (b := false) (by simp) (fun h => by cases h) (fun _ => ?_)
  refine AWp.skip ?_
  simp
  (repeat refine AWp.seq ?_); refine AWp.region allP (by kernel_rfl) ?_
  simp [set_at, n21, m12]
  refine aop_call _ _ _ _ _ _ _ _ (c_eqTermS a.t (by omega) (fun x _ => c_eqTerm0 x)) ?_
  simp [set_at, n21, m12]
  refine AWp.cond (b := false) (by simp) (fun h => by cases h) (fun _ => ?_)
  refine AWp.skip ?_
  simp
  (repeat refine AWp.seq ?_); refine AWp.region noP (by kernel_rfl) ?_
  simp
  exact AWp.ret (post_ret1 rfl (by simp))
end Go.T
namespace Go.T
open Go Go.Proofs
set_option maxRecDepth 10000
set_option linter.unusedSimpArgs false
set_option linter.unusedVariables false
theorem bl_geq (x y : ByteArray) : (!(Op.bytesLess x.toList y.toList)) = !(blt x y) := rfl
theorem bl_leq (x y : ByteArray) : (Op.bytesLess x.toList y.toList || decide (x = y)) = !(blt y x) := by
  unfold blt
  by_cases h : x = y
  · subst h; simp [bl_irrefl]
  · have h' : x.toList ≠ y.toList := fun e => h ((bytes_eq x y).1 e)
    cases hb : Op.bytesLess x.toList y.toList
    · have := bl_tri _ _ h' hb
      simp [h, this]
    · have : Op.bytesLess y.toList x.toList = false := by
        cases hc : Op.bytesLess y.toList x.toList
        · rfl
        · have := bl_trans _ _ _ hb hc
          rw [bl_irrefl] at this
          cases this
      simp [this]
theorem Af.szs {a : Af} (ht : a.tot ≤ 1048576) : a.t.length ≤ 1048576 ∧ ∀ x ∈ a.t, x.s.size ≤ 1048576 := by
  have h1 := totL_len Tm.tot a.t
  have h3 : a.tot = totL Tm.tot a.t := rfl
  refine ⟨by omega, fun x hx => ?_⟩
  have := totL_mem Tm.tot hx
  have h4 : x.tot = x.s.size := rfl
  omega
theorem c_l8Num (n : Int) : PCall Try.prog 100 [.int .i64 n] (.bool (inR n (-100000) 100000)) := by
  refine pcall_of Try.func100 (by kernel_rfl) rfl (by simp [Try.f100]) ?_
  repeat' (first
    | refine AWp.seq ?_
    | (refine AWp.region allP (by kernel_rfl) ?_; simp)
    | (refine AWp.condG ?_; simp)
    | (refine AWp.skip ?_; try simp)
    | (refine AWp.exit ?_; try simp)
    | refine AWp.block ?_
    | (refine aop_call' (c_l1In _ _ _) ?_; simp)
    | (refine AWp.ret (post_ret1 rfl ?_); (simp; done))
    | (refine guardI (fun hq => ?_) (fun hq => ?_) <;> (try simp at hq) <;> (try simp))
    | (refine condRunI (fun hq => ?_) (fun hq => ?_) <;> (try simp at hq) <;> (try simp))
    | (refine iteI (fun hq => ?_) (fun hq => ?_) <;> (try simp)))
theorem c_isCoef (n : Int) : PCall Try.prog 105 [.int .i64 n] (.bool (inR n (-100000) 100000)) := by
  refine pcall_of Try.func105 (by kernel_rfl) rfl (by simp [Try.f105]) ?_
  repeat' (first
    | refine AWp.seq ?_
    | (refine AWp.region allP (by kernel_rfl) ?_; simp)
    | (refine AWp.condG ?_; simp)
    | (refine AWp.skip ?_; try simp)
    | (refine AWp.exit ?_; try simp)
    | refine AWp.block ?_
    | (refine aop_call' (c_inRange _ _ _) ?_; simp)
    | (refine AWp.ret (post_ret1 rfl ?_); (simp; done))
    | (refine guardI (fun hq => ?_) (fun hq => ?_) <;> (try simp at hq) <;> (try simp))
    | (refine condRunI (fun hq => ?_) (fun hq => ?_) <;> (try simp at hq) <;> (try simp))
    | (refine iteI (fun hq => ?_) (fun hq => ?_) <;> (try simp)))
theorem c_spec_AffOk (a : Af) (ht : a.tot ≤ 1048576) : PCall Try.prog 74 [a.av] (.bool a.ok) := by
  obtain ⟨hl, hsz⟩ := Af.szs ht
  refine pcall_of Try.func74 (by kernel_rfl) rfl (by simp [Try.f74]) ?_
  unfold Af.av
  have hc : a.cells = [.int .i64 a.c, .lst false 2 (a.t.map Tm.av)] := rfl
  rw [hc]
  (repeat refine AWp.seq ?_); refine AWp.region noP (by kernel_rfl) ?_
  simp
  intro g
  (repeat refine AWp.seq ?_); refine AWp.region noP (by kernel_rfl) ?_
  try simp
  (repeat refine AWp.seq ?_); refine AWp.block (AWp.rounds (fun m st => ∃ (i : Nat), m = a.t.length - i ∧ i ≤ a.t.length ∧ rowsOk a.t i = true ∧ st.slots 1 = .ptr g 0 ∧ st.slots 3 = .int .i64 i ∧ st.mem g = some (.box [.int .i64 a.c, .lst false 2 (a.t.map Tm.av)])) a.t.length ⟨0, by simp, by simp, by simp [rowsOk], by simp, by simp, by simp [set_at]⟩ ?_)
  rintro R m st hR ⟨i, rfl, hi, hrow, s1, s3, sg⟩
  (repeat refine AWp.seq ?_); refine AWp.region noP (by kernel_rfl) ?_
  try simp [s1, s3, sg]
  (repeat refine AWp.seq ?_); refine AWp.cond (b := decide (i < a.t.length)) (by simp) (fun hb => ?_) (fun hb => ?_)
  · simp at hb
    have hq : a.t[i]? = some a.t[i] := List.getElem?_eq_getElem hb
    have hw : IntKind.wrap .i64 ((i : Int) + 1) = (i + 1 : Nat) := wrap64 (by omega) (by omega)
    have hx : ∀ m, idxA Try.prog m 41 (.lst false 2 (a.t.map Tm.av)) (.int .i64 i) = some (.ref [.str a.t[i].s, .int .i64 a.t[i].n]) := fun m => idx (y := a.t[i].av) es_41 (by simp [hq])
    have hsi := hsz _ (List.getElem_mem hb)
    refine AWp.skip ?_
    try simp
    (repeat refine AWp.seq ?_); refine AWp.block ?_; (repeat refine AWp.seq ?_)
    refine AWp.cutA (fun u => u.slots 57 = .bool (!(rowOk a.t i)) ∧ u.slots 1 = .ptr g 0 ∧ u.slots 3 = .int .i64 i ∧ u.mem g = some (.box [.int .i64 a.c, .lst false 2 (a.t.map Tm.av)])) ?_ ?_
    · refine AWp.region allP (by kernel_rfl) ?_
      unfold rowOk
      rw [hq]
      simp only
      cases i with
      | zero =>
        have hx0 : ∀ m, idxA Try.prog m 41 (.lst false 2 (a.t.map Tm.av)) (.int .i64 0) = some (.ref [.str a.t[0].s, .int .i64 a.t[0].n]) := hx
        have s0 : st.slots 3 = .int .i64 0 := s3
        cases x1 : nameOk a.t[0].s <;> by_cases x2 : a.t[0].n = 0 <;> cases x3 : inR a.t[0].n (-100000) 100000 <;>
          (repeat (first | refine aop_call' (c_spec_NameOk _ (by omega)) ?_ | refine aop_call' (c_l8Num _) ?_ | simp [s1, s3, sg, hx, hx0, s0, x1, x2, x3]))
      | succ k =>
        have hk : a.t[k]? = some a.t[k] := List.getElem?_eq_getElem (by omega)
        have hx2 : ∀ m, idxA Try.prog m 41 (.lst false 2 (a.t.map Tm.av)) (.int .i64 k) = some (.ref [.str a.t[k].s, .int .i64 a.t[k].n]) := fun m => idx (y := a.t[k].av) es_41 (by simp [hk])
        have hw2 : IntKind.wrap .i64 (k : Int) = k := wrap64 (by omega) (by omega)
        have hp : ¬ ((k + 1 : Nat) : Int) ≤ 0 := by omega
        simp only [hk]
        have e1 : ((k + 1 : Nat) : Int) = (k : Int) + 1 := rfl
        rw [e1] at s3 hp
        simp only [e1] at hx
        cases x1 : nameOk a.t[k + 1].s <;> by_cases x2 : a.t[k + 1].n = 0 <;> cases x3 : inR a.t[k + 1].n (-100000) 100000 <;>
          (repeat (first | refine aop_call' (c_spec_NameOk _ (by omega)) ?_ | refine aop_call' (c_l8Num _) ?_ | simp [s1, s3, sg, hx, hx2, hw2, hp, x1, x2, x3, bl_geq, bl_leq]))
    rintro u ⟨uc, u1, u3, ug⟩
    cases hz : rowOk a.t i
    · rw [hz] at uc
      (repeat refine AWp.seq ?_); refine AWp.condT (by simp [uc]) ?_
      (repeat refine AWp.seq ?_); refine AWp.region noP (by kernel_rfl) ?_
      try simp
      exact AWp.ret (post_ret1 rfl (by simp [Af.ok, rowsOk_bad hz hb]))
    · rw [hz] at uc
      (repeat refine AWp.seq ?_); refine AWp.condF (by simp [uc]) ?_
      refine AWp.skip ?_
      try simp
      (repeat refine AWp.seq ?_); refine AWp.region noP (by kernel_rfl) ?_
      try simp [u3, hw]
      exact hR _ (a.t.length - (i + 1)) (by omega) ⟨i + 1, rfl, hb, by rw [rowsOk_succ, hrow, hz]; rfl, by simp [u1], by simp, by simp [ug]⟩
  · simp at hb
    have : i = a.t.length := by omega
    subst this
    have hok : a.ok = inR a.c (-100000) 100000 := by unfold Af.ok; rw [hrow]; rfl
    rw [hok]
    refine AWp.exit ?_
    try simp
    (repeat refine AWp.seq ?_); refine AWp.region allP (by kernel_rfl) ?_
    try simp [s1, sg]
    refine aop_call' (c_l8Num _) ?_
    try simp
    exact AWp.ret (post_ret1 rfl (by simp))
theorem c_impl_AffOk (a : Af) (ht : a.tot ≤ 1048576) : PCall Try.prog 78 [a.av] (.bool a.ok) := by
  obtain ⟨hl, hsz⟩ := Af.szs ht
  refine pcall_of Try.func78 (by kernel_rfl) rfl (by simp [Try.f78]) ?_
  unfold Af.av
  have hc : a.cells = [.int .i64 a.c, .lst false 2 (a.t.map Tm.av)] := rfl
  rw [hc]
  (repeat refine AWp.seq ?_); refine AWp.region noP (by kernel_rfl) ?_
  simp
  intro g
  (repeat refine AWp.seq ?_); refine AWp.region noP (by kernel_rfl) ?_
  try simp
  (repeat refine AWp.seq ?_); refine AWp.block (AWp.rounds (fun m st => ∃ (i : Nat), m = a.t.length - i ∧ i ≤ a.t.length ∧ rowsOk a.t i = true ∧ st.slots 1 = .ptr g 0 ∧ st.slots 6 = .lst false 2 (a.t.map Tm.av) ∧ st.slots 7 = .int .i64 a.t.length ∧ st.slots 8 = .int .i64 i ∧ st.mem g = some (.box [.int .i64 a.c, .lst false 2 (a.t.map Tm.av)])) a.t.length ⟨0, by simp, by simp, by simp [rowsOk], by simp, by simp, by simp, by simp, by simp [set_at]⟩ ?_)
  rintro R m st hR ⟨i, rfl, hi, hrow, s1, s6, s7, s8, sg⟩
  (repeat refine AWp.seq ?_); refine AWp.region noP (by kernel_rfl) ?_
  try simp [s1, s6, s7, s8, sg]
  (repeat refine AWp.seq ?_); refine AWp.cond (b := decide (i < a.t.length)) (by simp) (fun hb => ?_) (fun hb => ?_)
  · simp at hb
    have hq : a.t[i]? = some a.t[i] := List.getElem?_eq_getElem hb
    have hw : IntKind.wrap .i64 ((i : Int) + 1) = (i + 1 : Nat) := wrap64 (by omega) (by omega)
    have hx : ∀ m, idxA Try.prog m 41 (.lst false 2 (a.t.map Tm.av)) (.int .i64 i) = some (.ref [.str a.t[i].s, .int .i64 a.t[i].n]) := fun m => idx (y := a.t[i].av) es_41 (by simp [hq])
    have hsi := hsz _ (List.getElem_mem hb)
    refine AWp.skip ?_
    try simp
    (repeat refine AWp.seq ?_); refine AWp.block ?_; (repeat refine AWp.seq ?_)
    refine AWp.region noP (by kernel_rfl) ?_
    try simp [s1, s6, s7, s8, sg, hx]
    intro g2 hg2
    have hne : g2 ≠ g := by rintro rfl; rw [sg] at hg2; cases hg2
    have hgg := set_same st.mem g2 (.box [.str a.t[i].s, .int .i64 a.t[i].n])
    have sg2 : (st.mem.set g2 (.box [.str a.t[i].s, .int .i64 a.t[i].n])) g = some (.box [.int .i64 a.c, .lst false 2 (a.t.map Tm.av)]) := by rw [set_at, if_neg hne.symm]; exact sg
    try simp [set_set]
    generalize st.mem.set g2 (.box [.str a.t[i].s, .int .i64 a.t[i].n]) = m1 at *
    (repeat refine AWp.seq ?_)
    refine AWp.cutA (fun u => u.slots 43 = .bool (!(rowOk a.t i)) ∧ u.slots 1 = .ptr g 0 ∧ u.slots 6 = .lst false 2 (a.t.map Tm.av) ∧ u.slots 7 = .int .i64 a.t.length ∧ u.slots 8 = .int .i64 i ∧ u.mem g = some (.box [.int .i64 a.c, .lst false 2 (a.t.map Tm.av)])) ?_ ?_
    · refine AWp.region allP (by kernel_rfl) ?_
      unfold rowOk
      rw [hq]
      simp only
      cases i with
      | zero =>
        have hx0 : ∀ m, idxA Try.prog m 41 (.lst false 2 (a.t.map Tm.av)) (.int .i64 0) = some (.ref [.str a.t[0].s, .int .i64 a.t[0].n]) := hx
        have s0 : st.slots 8 = .int .i64 0 := s8
        cases x1 : nameOk a.t[0].s <;> by_cases x2 : a.t[0].n = 0 <;> cases x3 : inR a.t[0].n (-100000) 100000 <;>
          (repeat (first | refine aop_call' (c_impl_NameOk _ (by omega)) ?_ | refine aop_call' (c_isCoef _) ?_ | simp [s1, s6, s7, s8, sg2, hgg, hx, hx0, s0, x1, x2, x3]))
      | succ k =>
        have hk : a.t[k]? = some a.t[k] := List.getElem?_eq_getElem (by omega)
        have hx2 : ∀ m, idxA Try.prog m 41 (.lst false 2 (a.t.map Tm.av)) (.int .i64 k) = some (.ref [.str a.t[k].s, .int .i64 a.t[k].n]) := fun m => idx (y := a.t[k].av) es_41 (by simp [hk])
        have hw2 : IntKind.wrap .i64 (k : Int) = k := wrap64 (by omega) (by omega)
        have hp : ¬ ((k + 1 : Nat) : Int) ≤ 0 := by omega
        simp only [hk]
        have e1 : ((k + 1 : Nat) : Int) = (k : Int) + 1 := rfl
        rw [e1] at s8 hp
        simp only [e1] at hx
        cases x1 : nameOk a.t[k + 1].s <;> by_cases x2 : a.t[k + 1].n = 0 <;> cases x3 : inR a.t[k + 1].n (-100000) 100000 <;>
          (repeat (first | refine aop_call' (c_impl_NameOk _ (by omega)) ?_ | refine aop_call' (c_isCoef _) ?_ | simp [s1, s6, s7, s8, sg2, hgg, hx, hx2, hw2, hp, x1, x2, x3, bl_geq, bl_leq]))
    rintro u ⟨uc, u1, u6, u7, u8, ug⟩
    cases hz : rowOk a.t i
    · rw [hz] at uc
      (repeat refine AWp.seq ?_); refine AWp.condT (by simp [uc]) ?_
      (repeat refine AWp.seq ?_); refine AWp.region noP (by kernel_rfl) ?_
      try simp
      exact AWp.ret (post_ret1 rfl (by simp [Af.ok, rowsOk_bad hz hb]))
    · rw [hz] at uc
      (repeat refine AWp.seq ?_); refine AWp.condF (by simp [uc]) ?_
      refine AWp.skip ?_
      try simp
      (repeat refine AWp.seq ?_); refine AWp.region noP (by kernel_rfl) ?_
      try simp [u8, hw]
      exact hR _ (a.t.length - (i + 1)) (by omega) ⟨i + 1, rfl, hb, by rw [rowsOk_succ, hrow, hz]; rfl, by simp [u1], by simp [u6], by simp [u7], by simp, by simp [ug]⟩
  · simp at hb
    have : i = a.t.length := by omega
    subst this
    have hok : a.ok = inR a.c (-100000) 100000 := by unfold Af.ok; rw [hrow]; rfl
    rw [hok]
    refine AWp.exit ?_
    try simp
    (repeat refine AWp.seq ?_); refine AWp.region allP (by kernel_rfl) ?_
    try simp [s1, sg]
    refine aop_call' (c_isCoef _) ?_
    try simp
    exact AWp.ret (post_ret1 rfl (by simp))
end Go.T
namespace Go.T
open Go Go.Proofs
set_option maxRecDepth 10000
set_option linter.unusedSimpArgs false
set_option linter.unusedVariables false
theorem coef_drop {l : List Tm} {i : Nat} (h : i < l.length) (s : ByteArray) : coef (l.drop i) s = if l[i].s = s then l[i].n else coef (l.drop (i + 1)) s := by
  rw [List.drop_eq_getElem_cons h, coef]
theorem rgAt_drop {l : List Rg} {i : Nat} (h : i < l.length) (s : ByteArray) : idxAt i ((l.map Rg.s).drop i) s = if l[i].s = s then (i : Int) else idxAt (i + 1) ((l.map Rg.s).drop (i + 1)) s := by
  rw [List.drop_eq_getElem_cons (by simpa using h), idxAt]; simp
def szR (l : List Rg) : Prop := l.length ≤ 1048576 ∧ ∀ x ∈ l, x.s.size ≤ 1048576
theorem c_spec_CoefOf (a : Af) (s : ByteArray) (hl : a.t.length ≤ 1048576) : PCall Try.prog 42 [a.av, .str s] (.int .i64 (coef a.t s)) := by
  refine pcall_of Try.func42 (by kernel_rfl) rfl (by simp [Try.f42]) ?_
  unfold Af.av
  have hc : a.cells = [.int .i64 a.c, .lst false 2 (a.t.map Tm.av)] := rfl
  rw [hc]
  (repeat refine AWp.seq ?_); refine AWp.region noP (by kernel_rfl) ?_
  simp
  intro g
  (repeat refine AWp.seq ?_); refine AWp.region noP (by kernel_rfl) ?_
  try simp [set_at]
  (repeat refine AWp.seq ?_); refine AWp.block (AWp.rounds (fun m st => ∃ (i : Nat), m = a.t.length - i ∧ i ≤ a.t.length ∧ coef a.t s = coef (a.t.drop i) s ∧ st.slots 1 = .str s ∧ st.slots 2 = .ptr g 0 ∧ st.mem g = some (.box [.int .i64 a.c, .lst false 2 (a.t.map Tm.av)]) ∧ st.slots 5 = .int .i64 i) a.t.length ⟨0, by simp, by simp, by simp, by simp, by simp, by simp [set_at], by simp⟩ ?_)
  rintro R m st hR ⟨i, rfl, hi, hr, s1, s2, sg, s5⟩
  (repeat refine AWp.seq ?_); refine AWp.region noP (by kernel_rfl) ?_
  try simp [s2, sg, s5]
  (repeat refine AWp.seq ?_); refine AWp.cond (b := decide (i < a.t.length)) (by simp) (fun hb => ?_) (fun hb => ?_)
  · simp at hb
    have hq : a.t[i]? = some a.t[i] := List.getElem?_eq_getElem hb
    have hw : IntKind.wrap .i64 ((i : Int) + 1) = (i + 1 : Nat) := wrap64 (by omega) (by omega)
    have hx : ∀ m, idxA Try.prog m 41 (.lst false 2 (a.t.map Tm.av)) (.int .i64 i) = some (.ref [.str a.t[i].s, .int .i64 a.t[i].n]) := fun m => idx (y := a.t[i].av) es_41 (by simp [hq])
    rw [coef_drop hb] at hr
    refine AWp.skip ?_
    try simp
    (repeat refine AWp.seq ?_); refine AWp.block ?_
    (repeat refine AWp.seq ?_); refine AWp.region noP (by kernel_rfl) ?_
    simp [s1, hx, s2, sg, s5]
    by_cases he : a.t[i].s = s
    · rw [if_pos he] at hr
      (repeat refine AWp.seq ?_); refine AWp.condT (by simp [he]) ?_
      (repeat refine AWp.seq ?_); refine AWp.region noP (by kernel_rfl) ?_
      try simp [s1, hx, s2, sg, s5]
      exact AWp.ret (post_ret1 rfl (by simp [hr]))
    · rw [if_neg he] at hr
      (repeat refine AWp.seq ?_); refine AWp.condF (by simp [he]) ?_
      refine AWp.skip ?_
      try simp
      (repeat refine AWp.seq ?_); refine AWp.region noP (by kernel_rfl) ?_
      simp [s5, hw]
      exact hR _ (a.t.length - (i + 1)) (by omega) ⟨i + 1, rfl, hb, hr, by simp [s1], by simp [s2], by simp [sg], by simp⟩
  · simp at hb
    have : i = a.t.length := by omega
    subst this
    rw [List.drop_length, coef] at hr
    rw [hr]
    refine AWp.exit ?_
    try simp
    (repeat refine AWp.seq ?_); refine AWp.region noP (by kernel_rfl) ?_
    try simp
    exact AWp.ret (post_ret1 rfl (by simp))
theorem c_impl_CoefOf (a : Af) (s : ByteArray) (hl : a.t.length ≤ 1048576) : PCall Try.prog 51 [a.av, .str s] (.int .i64 (coef a.t s)) := by
  refine pcall_of Try.func51 (by kernel_rfl) rfl (by simp [Try.f51]) ?_
  unfold Af.av
  have hc : a.cells = [.int .i64 a.c, .lst false 2 (a.t.map Tm.av)] := rfl
  rw [hc]
  (repeat refine AWp.seq ?_); refine AWp.region noP (by kernel_rfl) ?_
  simp
  intro g
  (repeat refine AWp.seq ?_); refine AWp.region noP (by kernel_rfl) ?_
  try simp [set_at]
  (repeat refine AWp.seq ?_); refine AWp.block (AWp.rounds (fun m st => ∃ (i : Nat), m = a.t.length - i ∧ i ≤ a.t.length ∧ coef a.t s = coef (a.t.drop i) s ∧ st.slots 1 = .str s ∧ st.slots 8 = .lst false 2 (a.t.map Tm.av) ∧ st.slots 9 = .int .i64 a.t.length ∧ st.slots 10 = .int .i64 i) a.t.length ⟨0, by simp, by simp, by simp, by simp, by simp, by simp [set_at], by simp⟩ ?_)
  rintro R m st hR ⟨i, rfl, hi, hr, s1, s8, s9, s10⟩
  (repeat refine AWp.seq ?_); refine AWp.region noP (by kernel_rfl) ?_
  try simp [s8, s9, s10]
  (repeat refine AWp.seq ?_); refine AWp.cond (b := decide (i < a.t.length)) (by simp) (fun hb => ?_) (fun hb => ?_)
  · simp at hb
    have hq : a.t[i]? = some a.t[i] := List.getElem?_eq_getElem hb
    have hw : IntKind.wrap .i64 ((i : Int) + 1) = (i + 1 : Nat) := wrap64 (by omega) (by omega)
    have hx : ∀ m, idxA Try.prog m 41 (.lst false 2 (a.t.map Tm.av)) (.int .i64 i) = some (.ref [.str a.t[i].s, .int .i64 a.t[i].n]) := fun m => idx (y := a.t[i].av) es_41 (by simp [hq])
    rw [coef_drop hb] at hr
    refine AWp.skip ?_
    try simp
    (repeat refine AWp.seq ?_); refine AWp.block ?_
    (repeat refine AWp.seq ?_); refine AWp.region noP (by kernel_rfl) ?_
    simp [s1, hx, s8, s9, s10]
    intro g2 hg2
    have hgg := set_same st.mem g2 (.box [.str a.t[i].s, .int .i64 a.t[i].n])
    try simp [set_set]
    generalize st.mem.set g2 (.box [.str a.t[i].s, .int .i64 a.t[i].n]) = m1 at *
    (repeat refine AWp.seq ?_); refine AWp.region noP (by kernel_rfl) ?_
    simp [s1, hx, s8, s9, s10, hgg]
    by_cases he : a.t[i].s = s
    · rw [if_pos he] at hr
      (repeat refine AWp.seq ?_); refine AWp.condT (by simp [he]) ?_
      (repeat refine AWp.seq ?_); refine AWp.region noP (by kernel_rfl) ?_
      try simp [s1, hx, s8, s9, s10, hgg]
      exact AWp.ret (post_ret1 rfl (by simp [hr]))
    · rw [if_neg he] at hr
      (repeat refine AWp.seq ?_); refine AWp.condF (by simp [he]) ?_
      refine AWp.skip ?_
      try simp
      (repeat refine AWp.seq ?_); refine AWp.region noP (by kernel_rfl) ?_
      simp [s10, hw]
      exact hR _ (a.t.length - (i + 1)) (by omega) ⟨i + 1, rfl, hb, hr, by simp [s1], by simp [s8], by simp [s9], by simp⟩
  · simp at hb
    have : i = a.t.length := by omega
    subst this
    rw [List.drop_length, coef] at hr
    rw [hr]
    refine AWp.exit ?_
    try simp
    (repeat refine AWp.seq ?_); refine AWp.region noP (by kernel_rfl) ?_
    try simp
    exact AWp.ret (post_ret1 rfl (by simp))
theorem c_l9At (l : List Rg) (s : ByteArray) (hl : l.length ≤ 1048576) : PCall Try.prog 43 [rgs l, .str s] (.int .i64 (rgAt l s)) := by
  refine pcall_of Try.func43 (by kernel_rfl) rfl (by simp [Try.f43]) ?_
  unfold rgs
  (repeat refine AWp.seq ?_); refine AWp.region noP (by kernel_rfl) ?_
  try simp
  (repeat refine AWp.seq ?_); refine AWp.region noP (by kernel_rfl) ?_
  try simp
  (repeat refine AWp.seq ?_); refine AWp.block (AWp.rounds (fun m st => ∃ (i : Nat), m = l.length - i ∧ i ≤ l.length ∧ rgAt l s = idxAt i ((l.map Rg.s).drop i) s ∧ st.slots 0 = .lst false 3 (l.map Rg.av) ∧ st.slots 1 = .str s ∧ st.slots 5 = .int .i64 i) l.length ⟨0, by simp, by simp, by simp [rgAt, at_], by simp, by simp, by simp⟩ ?_)
  rintro R m st hR ⟨i, rfl, hi, hr, s0, s1, s5⟩
  (repeat refine AWp.seq ?_); refine AWp.region noP (by kernel_rfl) ?_
  try simp [s0, s5]
  (repeat refine AWp.seq ?_); refine AWp.cond (b := decide (i < l.length)) (by simp) (fun hb => ?_) (fun hb => ?_)
  · simp at hb
    have hq : l[i]? = some l[i] := List.getElem?_eq_getElem hb
    have hw : IntKind.wrap .i64 ((i : Int) + 1) = (i + 1 : Nat) := wrap64 (by omega) (by omega)
    have hx : ∀ m, idxA Try.prog m 45 (.lst false 3 (l.map Rg.av)) (.int .i64 i) = some (.ref [.str l[i].s, .int .i64 l[i].lo, .int .i64 l[i].hi]) := fun m => idx (y := l[i].av) es_45 (by simp [hq])
    rw [rgAt_drop hb] at hr
    refine AWp.skip ?_
    try simp
    (repeat refine AWp.seq ?_); refine AWp.block ?_
    (repeat refine AWp.seq ?_); refine AWp.region noP (by kernel_rfl) ?_
    simp [s0, s1, s5, hx]
    by_cases he : l[i].s = s
    · rw [if_pos he] at hr
      (repeat refine AWp.seq ?_); refine AWp.condT (by simp [he]) ?_
      (repeat refine AWp.seq ?_); refine AWp.region noP (by kernel_rfl) ?_
      try simp [s5]
      exact AWp.ret (post_ret1 rfl (by simp [hr]))
    · rw [if_neg he] at hr
      (repeat refine AWp.seq ?_); refine AWp.condF (by simp [he]) ?_
      refine AWp.skip ?_
      try simp
      (repeat refine AWp.seq ?_); refine AWp.region noP (by kernel_rfl) ?_
      simp [s5, hw]
      exact hR _ (l.length - (i + 1)) (by omega) ⟨i + 1, rfl, hb, hr, by simp [s0], by simp [s1], by simp⟩
  · simp at hb
    have : i = l.length := by omega
    subst this
    rw [List.drop_eq_nil_of_le (by simp), idxAt] at hr
    rw [hr]
    refine AWp.exit ?_
    try simp
    (repeat refine AWp.seq ?_); refine AWp.region noP (by kernel_rfl) ?_
    try simp
    exact AWp.ret (post_ret1 rfl (by simp))
theorem c_rngAt1 (a : Rg) (s : ByteArray) {m : Mem} {gn : Nat} {K : AV → Mem → Prop} (hm : m gn = some (.box [.str s])) (hK : ∀ m', Ext m m' → K (.bool (decide (a.s = s))) m') : WCall Try.prog 82 [a.av, .ptr gn 0] m K := by
  refine wcall_of Try.func82 (by kernel_rfl) rfl (by simp [Try.f82]) ?_
  unfold Rg.av Rg.cells
  (repeat refine AWp.seq ?_); refine AWp.region noP (by kernel_rfl) ?_
  try simp
  intro g hg
  have hgg : (m.set g (.box [.str a.s, .int .i64 a.lo, .int .i64 a.hi])) g = some (.box [.str a.s, .int .i64 a.lo, .int .i64 a.hi]) := set_same _ _ _
  have hE := (Ext.refl m).set hg (.box [.str a.s, .int .i64 a.lo, .int .i64 a.hi])
  have hgn := hE gn _ hm
  generalize m.set g (.box [.str a.s, .int .i64 a.lo, .int .i64 a.hi]) = m1 at *
  (repeat refine AWp.seq ?_); refine AWp.region noP (by kernel_rfl) ?_
  simp [hgg, hgn]
  exact AWp.ret (post_retW rfl ⟨_, _, View.refl _ _, hK _ hE⟩)
theorem c_IndexRng (A : List Rg) (s : ByteArray) (hl : A.length ≤ 1048576) {m : Mem} {gn : Nat} {K : AV → Mem → Prop} (hm : m gn = some (.box [.str s])) (hK : ∀ m', Ext m m' → K (.int .i64 (at_ (A.map Rg.s) s)) m') :
    WCall Try.prog 81 [.lst false 3 (A.map Rg.av), .func (.func 82) [.ptr gn 0]] m K := by
  refine wcall_of Try.func81 (by kernel_rfl) rfl (by simp [Try.f81]) ?_
  (repeat refine AWp.seq ?_); refine AWp.region noP (by kernel_rfl) ?_
  try simp
  (repeat refine AWp.seq ?_); refine AWp.region noP (by kernel_rfl) ?_
  try simp
  (repeat refine AWp.seq ?_); refine AWp.block (AWp.rounds (fun k st => ∃ (i : Nat), k = A.length - i ∧ i ≤ A.length ∧ st.slots 0 = .lst false 3 (A.map Rg.av) ∧ st.slots 1 = .func (.func 82) [.ptr gn 0] ∧ st.slots 7 = .int .i64 A.length ∧ st.slots 8 = .int .i64 i ∧ Ext m st.mem ∧ at_ (A.map Rg.s) s = idxAt i ((A.map Rg.s).drop i) s) A.length ⟨0, by simp, by simp, by simp, by simp, by simp, by simp, by simpa using Ext.refl m, by simp [at_]⟩ ?_)
  rintro R k st hR ⟨i, rfl, hi, s0, s1, s7, s8, hE, hr⟩
  (repeat refine AWp.seq ?_); refine AWp.region noP (by kernel_rfl) ?_
  simp [s7, s8]
  (repeat refine AWp.seq ?_); refine AWp.cond (b := decide (i < A.length)) (by simp) (fun hb => ?_) (fun hb => ?_)
  · simp at hb
    have hg : A[i]? = some A[i] := List.getElem?_eq_getElem hb
    have hdr : (A.map Rg.s).drop i = A[i].s :: (A.map Rg.s).drop (i + 1) := by
      rw [List.drop_eq_getElem_cons (by simpa using hb)]; simp
    have hz : at_ (A.map Rg.s) s = if A[i].s = s then (i : Int) else idxAt (i + 1) ((A.map Rg.s).drop (i + 1)) s := by rw [hr, hdr, idxAt]
    have hx : ∀ m, idxA Try.prog m 45 (.lst false 3 (A.map Rg.av)) (.int .i64 i) = some (.ref A[i].cells) := fun m => idx (y := A[i].av) es_45 (by simp [hg])
    have hw : IntKind.wrap .i64 ((i : Int) + 1) = (i + 1 : Nat) := wrap64 (by omega) (by omega)
    refine AWp.skip ?_
    try simp
    (repeat refine AWp.seq ?_); refine AWp.block ?_; (repeat refine AWp.seq ?_); refine AWp.region noP (by kernel_rfl) ?_
    simp [s8]
    (repeat refine AWp.seq ?_); refine AWp.region noP (by kernel_rfl) ?_
    simp [s0, s1, hx]
    refine aop_wcall _ _ _ _ _ _ _ _ rfl (n := 82) (caps := [.ptr gn 0]) (by simp [s1]) ?_
    try simp [s0, s1, hx]
    refine c_rngAt1 A[i] s (hE gn _ hm) fun m' hE' => ?_
    try simp
    (repeat refine AWp.seq ?_); refine AWp.cond (b := decide (A[i].s = s)) (by simp) (fun he => ?_) (fun he => ?_)
    · simp at he
      (repeat refine AWp.seq ?_); refine AWp.region noP (by kernel_rfl) ?_
      try simp
      refine AWp.ret (post_retW rfl ⟨_, _, View.refl _ _, ?_⟩)
      try simp
      have := hK m' (fun g b h => hE' g b (hE g b h))
      rw [hz, if_pos he] at this
      exact this
    · simp at he
      refine AWp.skip ?_
      try simp
      (repeat refine AWp.seq ?_); refine AWp.region noP (by kernel_rfl) ?_
      simp [s8, hw]
      exact hR _ (A.length - (i + 1)) (by omega) ⟨i + 1, rfl, hb, by simp [s0], by simp [s1], by simp [s7], by simp, (fun g b h => hE' g b (hE g b h)), by rw [hz, if_neg he]⟩
  · simp at hb
    refine AWp.exit ?_
    try simp
    (repeat refine AWp.seq ?_); refine AWp.region noP (by kernel_rfl) ?_
    try simp
    have : i = A.length := by omega
    subst this
    rw [List.drop_eq_nil_of_le (by simp), idxAt] at hr
    refine AWp.ret (post_retW rfl ⟨_, _, View.refl _ _, ?_⟩)
    try simp
    have := hK st.mem hE
    rw [hr] at this
    exact this
theorem c_rngAt (l : List Rg) (s : ByteArray) (hl : l.length ≤ 1048576) : PCall Try.prog 52 [rgs l, .str s] (.int .i64 (rgAt l s)) := by
  refine pcall_of Try.func52 (by kernel_rfl) rfl (by simp [Try.f52]) ?_
  unfold rgs
  (repeat refine AWp.seq ?_); refine AWp.region noP (by kernel_rfl) ?_
  try simp
  intro g
  (repeat refine AWp.seq ?_); refine AWp.region noP (by kernel_rfl) ?_
  try simp [set_at]
  refine aop_wcall _ _ _ _ _ _ _ _ rfl (eval_func _ _) ?_
  refine c_IndexRng l s hl (by simp [set_at]) fun m' hE => ?_
  try simp
  exact AWp.ret (post_ret1 rfl (by simp [rgAt]))
end Go.T
