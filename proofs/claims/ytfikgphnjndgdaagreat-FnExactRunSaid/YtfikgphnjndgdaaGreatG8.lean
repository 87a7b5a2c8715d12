/- Expressions that are right: what the program computes. Expressions that are right: what the reference computes. Statements that are right: what the program and the reference compute. How many statements there are: what the program and the reference compute. Statements that are right, but for loops: what the program computes. Statements that are right: what the program computes. -/
import Derived.Test.YtfikgphnjndgdaaGreatG7
import Derived.Test.YtfikgphnjndgdaaGreatG3
namespace Go.T
open Go Go.Proofs
set_option maxRecDepth 10000
set_option maxHeartbeats 1000000
set_option linter.unusedSimpArgs false
set_option linter.unusedVariables false
theorem c_measure0 (k n : Int) (s : ByteArray) (l : List Ex) (ht : (Ex.mk k n s l).tot ≤ 1048576) (h : ∀ x ∈ l, ∀ d : Nat, d ≤ 9 → PCall Tryz.prog 318 [x.av, .int .i64 d] (.int .i64 (x.msr d))) (d : Nat) (hd : d ≤ 9) :
    PCall Tryz.prog 318 [(Ex.mk k n s l).av, .int .i64 d] (.int .i64 ((Ex.mk k n s l).msr d)) := by
  rw [Ex.msr_mk]
  rw [Ex.tot_mk] at ht
  have hlen := totL_len Ex.tot l
  have hsum := sumL_le Ex.nodes Ex.tot l (fun x _ => Ex.nodes_le x)
  have hs : s.size ≤ 9223372036854775806 := by omega
  refine pcall_of Tryz.func318 (by kernel_rfl) rfl (by simp [Tryz.f318]) ?_
  have hav : (Ex.mk k n s l).av = .agg [.int .i64 k, .int .i64 n, .str s, .lst false 4 (l.map Ex.av)] := by unfold Ex.av; rw [Ex.cells_mk]; rfl
  rw [hav]
  (repeat refine AWp.seq ?_); refine AWp.region noP (by kernel_rfl) ?_
  simp
  intro g
  have c1 := c_partsOk k n s l hs
  rw [hav] at c1
  by_cases hd8 : 8 < d
  · have hd9 : ¬ d ≤ 8 := by omega
    have hdi : (8 : Int) < d := by omega
    repeat' (first
    | refine AWp.seq ?_
    | (refine AWp.region allP (by kernel_rfl) ?_; simp [*])
    | (refine AWp.condG ?_; simp [*])
    | (refine AWp.skip ?_; try simp)
    | (refine AWp.exit ?_; try simp)
    | refine AWp.block ?_
    | (refine aop_call' (c1) ?_; simp [*])
    | (refine AWp.ret (post_ret1 rfl ?_); (simp [*]; done))
    | (refine guardI (fun hq => ?_) (fun hq => ?_) <;> (try simp at hq) <;> (try simp [*]))
    | (refine condRunI (fun hq => ?_) (fun hq => ?_) <;> (try simp at hq) <;> (try simp [*]))
    | (refine iteI (fun hq => ?_) (fun hq => ?_) <;> (try simp [*])))
  have hd9 : d ≤ 8 := by omega
  have hdi : (d : Int) ≤ 8 := by omega
  have hdj : ¬ ((8 : Int) < d) := by omega
  cases hp : partsOk k n s l.length
  · repeat' (first
    | refine AWp.seq ?_
    | (refine AWp.region allP (by kernel_rfl) ?_; simp [*])
    | (refine AWp.condG ?_; simp [*])
    | (refine AWp.skip ?_; try simp)
    | (refine AWp.exit ?_; try simp)
    | refine AWp.block ?_
    | (refine aop_call' (c1) ?_; simp [*])
    | (refine AWp.ret (post_ret1 rfl ?_); (simp [*]; done))
    | (refine guardI (fun hq => ?_) (fun hq => ?_) <;> (try simp at hq) <;> (try simp [*]))
    | (refine condRunI (fun hq => ?_) (fun hq => ?_) <;> (try simp at hq) <;> (try simp [*]))
    | (refine iteI (fun hq => ?_) (fun hq => ?_) <;> (try simp [*])))
  repeat' (first
    | refine AWp.seq ?_
    | (refine AWp.region allP (by kernel_rfl) ?_; simp [*])
    | (refine AWp.condG ?_; simp [*])
    | (refine AWp.skip ?_; try simp)
    | (refine AWp.exit ?_; try simp)
    | refine AWp.block ?_
    | (refine aop_call' (c1) ?_; simp [*])
    | (refine guardI (fun hq => ?_) (fun hq => ?_) <;> (try simp at hq) <;> (try simp [*]))
    | (refine condRunI (fun hq => ?_) (fun hq => ?_) <;> (try simp at hq) <;> (try simp [*]))
    | (refine iteI (fun hq => ?_) (fun hq => ?_) <;> (try simp [*])))
  refine (AWp.rounds (fun m st => ∃ (i : Nat) (q : Int), m = l.length - i ∧ i ≤ l.length ∧ st.slots 17 = .lst false 4 (l.map Ex.av) ∧ st.slots 18 = .int .i64 l.length ∧ st.slots 19 = .int .i64 i ∧ st.slots 1 = .int .i64 d ∧ st.slots 5 = .int .i64 q ∧ 0 ≤ q ∧ q + sumL Ex.nodes (l.drop i) ≤ 1 + sumL Ex.nodes l ∧ Ex.msrs l (d + 1) 1 = Ex.msrs (l.drop i) (d + 1) q) l.length ⟨0, 1, by simp, by simp, by simp, by simp, by simp, by simp, by simp, by omega, by simp, by simp⟩ ?_)
  rintro R m st hR ⟨i, q, rfl, hi, s17, s18, s19, s1, s5, hq0, hq1, hr⟩
  (repeat refine AWp.seq ?_); refine AWp.region noP (by kernel_rfl) ?_
  simp [s18, s19]
  (repeat refine AWp.seq ?_)
  refine AWp.cond (b := decide (i < l.length)) (by simp) (fun hb => ?_) (fun hb => ?_)
  · simp at hb
    have hg : l[i]? = some l[i] := List.getElem?_eq_getElem hb
    have hdr : l.drop i = l[i] :: l.drop (i + 1) := List.drop_eq_getElem_cons hb
    refine AWp.skip ?_
    simp
    (repeat refine AWp.seq ?_); refine AWp.block ?_; (repeat refine AWp.seq ?_); refine AWp.region noP (by kernel_rfl) ?_
    have hx : idxA Tryz.prog st.mem 41 (.lst false 4 (l.map Ex.av)) (.int .i64 i) = some (.ref l[i].cells) := idx (y := l[i].av) es_41 (by simp [hg])
    simp [s17, s18, s19, hx]
    intro g2 hg2
    have hw1 : IntKind.wrap .i64 ((d : Int) + 1) = ((d + 1 : Nat) : Int) := wrap64 (by omega) (by omega)
    (repeat refine AWp.seq ?_); refine AWp.region allP (by kernel_rfl) ?_
    simp [s1, hw1]
    refine aop_call' (h l[i] (List.getElem_mem _) (d + 1) (by omega)) ?_
    simp
    (repeat refine AWp.seq ?_); refine AWp.region noP (by kernel_rfl) ?_
    simp
    have hz : Ex.msrs l (d + 1) 1 = if l[i].msr (d + 1) < 0 then -1 else Ex.msrs (l.drop (i + 1)) (d + 1) (q + l[i].msr (d + 1)) := by rw [hr, hdr, Ex.msrs_cons]
    refine AWp.cond (b := decide (l[i].msr (d + 1) < 0)) (by simp) (fun he => ?_) (fun he => ?_)
    · simp at he
      (repeat refine AWp.seq ?_); refine AWp.region noP (by kernel_rfl) ?_
      simp
      exact AWp.ret (post_ret1 rfl (by simp [hd9]; rw [hz, if_pos he]))
    · simp at he
      refine AWp.skip ?_
      simp
      have hle : l[i].msr (d + 1) ≤ l[i].nodes := by unfold Ex.msr; split <;> omega
      rw [hdr, sumL] at hq1
      have hw2 : IntKind.wrap .i64 (q + l[i].msr (d + 1)) = q + l[i].msr (d + 1) := wrap64 (by omega) (by omega)
      (repeat refine AWp.seq ?_); refine AWp.region noP (by kernel_rfl) ?_
      simp [s5, hw2]
      (repeat refine AWp.seq ?_); refine AWp.region noP (by kernel_rfl) ?_
      have hw : IntKind.wrap .i64 ((i : Int) + 1) = (i + 1 : Nat) := wrap64 (by omega) (by omega)
      simp [s19, hw]
      refine hR _ (l.length - (i + 1)) (by omega) ⟨i + 1, q + l[i].msr (d + 1), rfl, hb, by simp [s17], by simp [s18], by simp, by simp [s1], by simp, by omega, by omega, ?_⟩
      rw [hz, if_neg (by omega)]
  · simp at hb
    refine AWp.exit ?_
    simp
    (repeat refine AWp.seq ?_); refine AWp.region noP (by kernel_rfl) ?_
    simp [s5]
    have : i = l.length := by omega
    subst this
    refine AWp.ret (post_ret1 rfl ?_)
    simp [hd9]
    rw [hr]
    simp [Ex.msrs, Ex.goods, sumL]
theorem c_measure (e : Ex) : e.tot ≤ 1048576 → ∀ d : Nat, d ≤ 9 → PCall Tryz.prog 318 [e.av, .int .i64 d] (.int .i64 (e.msr d)) := by
  induction e using Ex.ind with | h k n s l h =>
  intro ht d hd
  refine c_measure0 k n s l ht (fun x hx => h x hx ?_) d hd
  rw [Ex.tot_mk] at ht
  have := totL_mem Ex.tot hx
  omega
theorem c_impl_ExpOk (e : Ex) (ht : e.tot ≤ 1048576) : PCall Tryz.prog 214 [e.av] (.bool e.ok) := by
  refine pcall_of Tryz.func214 (by kernel_rfl) rfl (by simp [Tryz.f214]) ?_
  have c1 := c_measure e ht 1 (by omega)
  unfold Ex.av at c1 ⊢
  (repeat refine AWp.seq ?_); refine AWp.region noP (by kernel_rfl) ?_
  simp
  intro g
  (repeat refine AWp.seq ?_); refine AWp.region allP (by kernel_rfl) ?_
  simp
  refine aop_call' c1 ?_
  simp
  refine aop_call' (c_inRange _ _ _) ?_
  simp
  refine AWp.ret (post_ret1 rfl ?_)
  simp only [put_slot, reduceIte]
  congr 1
  rw [Bool.eq_iff_iff]
  simp [Ex.ok, Ex.msr, inR]
  have : 1 ≤ e.nodes := by cases e; rw [Ex.nodes]; omega
  by_cases h1 : e.good 1 = true <;> simp [h1] <;> omega
end Go.T
namespace Go.T
open Go Go.Proofs
set_option maxRecDepth 10000
set_option maxHeartbeats 1000000
set_option linter.unusedSimpArgs false
set_option linter.unusedVariables false
theorem c_l3Count0 (k n : Int) (s : ByteArray) (l : List Ex) (ht : (Ex.mk k n s l).tot ≤ 1048576) (h : ∀ x ∈ l, ∀ d : Nat, d ≤ 9 → PCall Tryz.prog 201 [x.av, .int .i64 d] (.int .i64 (x.cnt d))) (d : Nat) (hd : d ≤ 9) :
    PCall Tryz.prog 201 [(Ex.mk k n s l).av, .int .i64 d] (.int .i64 ((Ex.mk k n s l).cnt d)) := by
  rw [Ex.cnt]
  rw [Ex.tot_mk] at ht
  have hlen := totL_len Ex.tot l
  have hsum := sumL_le Ex.nodes Ex.tot l (fun x _ => Ex.nodes_le x)
  have hs : s.size ≤ 9223372036854775806 := by omega
  refine pcall_of Tryz.func201 (by kernel_rfl) rfl (by simp [Tryz.f201]) ?_
  have hav : (Ex.mk k n s l).av = .agg [.int .i64 k, .int .i64 n, .str s, .lst false 4 (l.map Ex.av)] := by unfold Ex.av; rw [Ex.cells_mk]; rfl
  rw [hav]
  (repeat refine AWp.seq ?_); refine AWp.region noP (by kernel_rfl) ?_
  simp
  intro g
  have c1 := c_l3Here k n s l hs
  rw [hav] at c1
  by_cases hd8 : 8 < d
  · have hd9 : ¬ d ≤ 8 := by omega
    have hdi : (8 : Int) < d := by omega
    repeat' (first
    | refine AWp.seq ?_
    | (refine AWp.region allP (by kernel_rfl) ?_; simp [*])
    | (refine AWp.condG ?_; simp [*])
    | (refine AWp.skip ?_; try simp)
    | (refine AWp.exit ?_; try simp)
    | refine AWp.block ?_
    | (refine aop_call' (c1) ?_; simp [*])
    | (refine AWp.ret (post_ret1 rfl ?_); (simp [*]; done))
    | (refine guardI (fun hq => ?_) (fun hq => ?_) <;> (try simp at hq) <;> (try simp [*]))
    | (refine condRunI (fun hq => ?_) (fun hq => ?_) <;> (try simp at hq) <;> (try simp [*]))
    | (refine iteI (fun hq => ?_) (fun hq => ?_) <;> (try simp [*])))
  have hd9 : d ≤ 8 := by omega
  have hdi : (d : Int) ≤ 8 := by omega
  have hdj : ¬ ((8 : Int) < d) := by omega
  cases hp : partsOk k n s l.length
  · repeat' (first
    | refine AWp.seq ?_
    | (refine AWp.region allP (by kernel_rfl) ?_; simp [*])
    | (refine AWp.condG ?_; simp [*])
    | (refine AWp.skip ?_; try simp)
    | (refine AWp.exit ?_; try simp)
    | refine AWp.block ?_
    | (refine aop_call' (c1) ?_; simp [*])
    | (refine AWp.ret (post_ret1 rfl ?_); (simp [*]; done))
    | (refine guardI (fun hq => ?_) (fun hq => ?_) <;> (try simp at hq) <;> (try simp [*]))
    | (refine condRunI (fun hq => ?_) (fun hq => ?_) <;> (try simp at hq) <;> (try simp [*]))
    | (refine iteI (fun hq => ?_) (fun hq => ?_) <;> (try simp [*])))
  repeat' (first
    | refine AWp.seq ?_
    | (refine AWp.region allP (by kernel_rfl) ?_; simp [*])
    | (refine AWp.condG ?_; simp [*])
    | (refine AWp.skip ?_; try simp)
    | (refine AWp.exit ?_; try simp)
    | refine AWp.block ?_
    | (refine aop_call' (c1) ?_; simp [*])
    | (refine guardI (fun hq => ?_) (fun hq => ?_) <;> (try simp at hq) <;> (try simp [*]))
    | (refine condRunI (fun hq => ?_) (fun hq => ?_) <;> (try simp at hq) <;> (try simp [*]))
    | (refine iteI (fun hq => ?_) (fun hq => ?_) <;> (try simp [*])))
  refine (AWp.rounds (fun m st => ∃ (i : Nat) (q : Int), m = l.length - i ∧ i ≤ l.length ∧ st.slots 2 = .ptr g 0 ∧ st.mem g = some (.box [.int .i64 k, .int .i64 n, .str s, .lst false 4 (l.map Ex.av)]) ∧ st.slots 6 = .int .i64 i ∧ st.slots 1 = .int .i64 d ∧ st.slots 5 = .int .i64 q ∧ 0 ≤ q ∧ q + 100 * sumL Ex.nodes (l.drop i) ≤ 1 + 100 * sumL Ex.nodes l ∧ Ex.cnts l (d + 1) 1 = Ex.cnts (l.drop i) (d + 1) q) l.length ⟨0, 1, by simp, by simp, by simp, by simp, by simp, by simp, by simp, by omega, by simp, by simp⟩ ?_)
  rintro R m st hR ⟨i, q, rfl, hi, s2, sg, s6, s1, s5, hq0, hq1, hr⟩
  have hF : i < l.length ∧ q ≤ 60 ∨ Ex.cnts l (d + 1) 1 = q := by
    by_cases hb : i < l.length
    · by_cases hq : q ≤ 60
      · exact .inl ⟨hb, hq⟩
      · refine .inr ?_
        rw [hr, List.drop_eq_getElem_cons hb, Ex.cnts, if_neg hq]
    · refine .inr ?_
      rw [hr, List.drop_eq_nil_of_le (by omega), Ex.cnts]
  by_cases hb : i < l.length ∧ q ≤ 60
  · obtain ⟨hb, hq⟩ := hb
    have hg : l[i]? = some l[i] := List.getElem?_eq_getElem hb
    have hdr : l.drop i = l[i] :: l.drop (i + 1) := List.drop_eq_getElem_cons hb
    have hbi : (i : Int) < l.length := by omega
    (repeat refine AWp.seq ?_); refine AWp.region noP (by kernel_rfl) ?_
    simp [s2, sg, s5, s6, hb, hq]
    (repeat refine AWp.seq ?_); refine AWp.condT (by simp) ?_
    refine AWp.skip ?_
    simp
    (repeat refine AWp.seq ?_); refine AWp.block ?_; (repeat refine AWp.seq ?_); refine AWp.region allP (by kernel_rfl) ?_
    have hx : idxA Tryz.prog st.mem 41 (.lst false 4 (l.map Ex.av)) (.int .i64 i) = some (.ref l[i].cells) := idx (y := l[i].av) es_41 (by simp [hg])
    have hw1 : IntKind.wrap .i64 ((d : Int) + 1) = ((d + 1 : Nat) : Int) := wrap64 (by omega) (by omega)
    simp [s2, sg, s1, s5, s6, hx, hw1]
    refine aop_call' (h l[i] (List.getElem_mem _) (d + 1) (by omega)) ?_
    have hc0 := l[i].cnt_pos (d + 1)
    have hc1 := l[i].cnt_le (d + 1)
    rw [hdr, sumL] at hq1
    have hw2 : IntKind.wrap .i64 (q + l[i].cnt (d + 1)) = q + l[i].cnt (d + 1) := wrap64 (by omega) (by omega)
    simp [hw2]
    (repeat refine AWp.seq ?_); refine AWp.region noP (by kernel_rfl) ?_
    have hw : IntKind.wrap .i64 ((i : Int) + 1) = (i + 1 : Nat) := wrap64 (by omega) (by omega)
    simp [s6, hw]
    refine hR _ (l.length - (i + 1)) (by omega) ⟨i + 1, q + l[i].cnt (d + 1), rfl, hb, by simp [s2], by simp [sg], by simp, by simp [s1], by simp, by omega, by omega, ?_⟩
    rw [hr, hdr, Ex.cnts, if_pos hq]
  · have hfin : Ex.cnts l (d + 1) 1 = q := hF.resolve_left hb
    (repeat refine AWp.seq ?_); refine AWp.region noP (by kernel_rfl) ?_
    by_cases hb1 : i < l.length
    · have hq : ¬ q ≤ 60 := fun hq => hb ⟨hb1, hq⟩
      simp [s2, sg, s5, s6, hb1, hq]
      (repeat refine AWp.seq ?_); refine AWp.condF (by simp [hq]) ?_
      refine AWp.exit ?_
      simp
      (repeat refine AWp.seq ?_); refine AWp.region noP (by kernel_rfl) ?_
      simp [s5]
      exact AWp.ret (post_ret1 rfl (by simp [hd9, hfin]))
    · simp [s2, sg, s5, s6, hb1]
      (repeat refine AWp.seq ?_); refine AWp.condF (by simp) ?_
      refine AWp.exit ?_
      simp
      (repeat refine AWp.seq ?_); refine AWp.region noP (by kernel_rfl) ?_
      simp [s5]
      exact AWp.ret (post_ret1 rfl (by simp [hd9, hfin]))
theorem c_l3Count (e : Ex) : e.tot ≤ 1048576 → ∀ d : Nat, d ≤ 9 → PCall Tryz.prog 201 [e.av, .int .i64 d] (.int .i64 (e.cnt d)) := by
  induction e using Ex.ind with | h k n s l h =>
  intro ht d hd
  refine c_l3Count0 k n s l ht (fun x hx => h x hx ?_) d hd
  rw [Ex.tot_mk] at ht
  have := totL_mem Ex.tot hx
  omega
theorem c_spec_ExpOk (e : Ex) (ht : e.tot ≤ 1048576) : PCall Tryz.prog 89 [e.av] (.bool e.ok) := by
  refine pcall_of Tryz.func89 (by kernel_rfl) rfl (by simp [Tryz.f89]) ?_
  have c1 := c_l3Count e ht 1 (by omega)
  unfold Ex.av at c1 ⊢
  (repeat refine AWp.seq ?_); refine AWp.region noP (by kernel_rfl) ?_
  simp
  intro g
  (repeat refine AWp.seq ?_); refine AWp.region allP (by kernel_rfl) ?_
  simp
  refine aop_call' c1 ?_
  simp
  exact AWp.ret (post_ret1 rfl (by simp [Ex.ok_cnt]))
end Go.T
namespace Go.T
open Go Go.Proofs
set_option maxRecDepth 10000
set_option maxHeartbeats 1000000
set_option linter.unusedSimpArgs false
set_option linter.unusedVariables false
theorem c_isZero (e : Ex) : PCall Tryz.prog 457 [e.av] (.bool e.no) := by
  refine pcall_of Tryz.func457 (by kernel_rfl) rfl (by simp [Tryz.f457]) ?_
  cases e with | mk k n s l =>
  unfold Ex.av
  rw [Ex.cells_mk]
  (repeat refine AWp.seq ?_); refine AWp.region noP (by kernel_rfl) ?_
  simp
  intro g
  by_cases h1 : k = 0
  · by_cases h2 : n = 0
    · by_cases h3 : s = ⟨#[]⟩
      · repeat' (first
    | refine AWp.seq ?_
    | (refine AWp.region allP (by kernel_rfl) ?_; simp [*])
    | (refine AWp.condG ?_; simp [*])
    | (refine AWp.skip ?_; try simp)
    | (refine AWp.exit ?_; try simp)
    | refine AWp.block ?_
    | (refine AWp.ret (post_ret1 rfl ?_); (simp [Ex.no, noS, *]; done))
    | (refine guardI (fun hq => ?_) (fun hq => ?_) <;> (try simp at hq) <;> (try simp [*]))
    | (refine condRunI (fun hq => ?_) (fun hq => ?_) <;> (try simp at hq) <;> (try simp [*]))
    | (refine iteI (fun hq => ?_) (fun hq => ?_) <;> (try simp [*])))
      · repeat' (first
    | refine AWp.seq ?_
    | (refine AWp.region allP (by kernel_rfl) ?_; simp [*])
    | (refine AWp.condG ?_; simp [*])
    | (refine AWp.skip ?_; try simp)
    | (refine AWp.exit ?_; try simp)
    | refine AWp.block ?_
    | (refine AWp.ret (post_ret1 rfl ?_); (simp [Ex.no, noS, *]; done))
    | (refine guardI (fun hq => ?_) (fun hq => ?_) <;> (try simp at hq) <;> (try simp [*]))
    | (refine condRunI (fun hq => ?_) (fun hq => ?_) <;> (try simp at hq) <;> (try simp [*]))
    | (refine iteI (fun hq => ?_) (fun hq => ?_) <;> (try simp [*])))
    · repeat' (first
    | refine AWp.seq ?_
    | (refine AWp.region allP (by kernel_rfl) ?_; simp [*])
    | (refine AWp.condG ?_; simp [*])
    | (refine AWp.skip ?_; try simp)
    | (refine AWp.exit ?_; try simp)
    | refine AWp.block ?_
    | (refine AWp.ret (post_ret1 rfl ?_); (simp [Ex.no, noS, *]; done))
    | (refine guardI (fun hq => ?_) (fun hq => ?_) <;> (try simp at hq) <;> (try simp [*]))
    | (refine condRunI (fun hq => ?_) (fun hq => ?_) <;> (try simp at hq) <;> (try simp [*]))
    | (refine iteI (fun hq => ?_) (fun hq => ?_) <;> (try simp [*])))
  · repeat' (first
    | refine AWp.seq ?_
    | (refine AWp.region allP (by kernel_rfl) ?_; simp [*])
    | (refine AWp.condG ?_; simp [*])
    | (refine AWp.skip ?_; try simp)
    | (refine AWp.exit ?_; try simp)
    | refine AWp.block ?_
    | (refine AWp.ret (post_ret1 rfl ?_); (simp [Ex.no, noS, *]; done))
    | (refine guardI (fun hq => ?_) (fun hq => ?_) <;> (try simp at hq) <;> (try simp [*]))
    | (refine condRunI (fun hq => ?_) (fun hq => ?_) <;> (try simp at hq) <;> (try simp [*]))
    | (refine iteI (fun hq => ?_) (fun hq => ?_) <;> (try simp [*])))
theorem c_l3No (e : Ex) : PCall Tryz.prog 456 [e.av] (.bool e.no) := by
  refine pcall_of Tryz.func456 (by kernel_rfl) rfl (by simp [Tryz.f456]) ?_
  cases e with | mk k n s l =>
  unfold Ex.av
  rw [Ex.cells_mk]
  (repeat refine AWp.seq ?_); refine AWp.region noP (by kernel_rfl) ?_
  simp
  intro g
  by_cases h1 : k = 0
  · by_cases h2 : n = 0
    · by_cases h3 : s = ⟨#[]⟩
      · repeat' (first
    | refine AWp.seq ?_
    | (refine AWp.region allP (by kernel_rfl) ?_; simp [*])
    | (refine AWp.condG ?_; simp [*])
    | (refine AWp.skip ?_; try simp)
    | (refine AWp.exit ?_; try simp)
    | refine AWp.block ?_
    | (refine AWp.ret (post_ret1 rfl ?_); (simp [Ex.no, noS, *]; done))
    | (refine guardI (fun hq => ?_) (fun hq => ?_) <;> (try simp at hq) <;> (try simp [*]))
    | (refine condRunI (fun hq => ?_) (fun hq => ?_) <;> (try simp at hq) <;> (try simp [*]))
    | (refine iteI (fun hq => ?_) (fun hq => ?_) <;> (try simp [*])))
      · repeat' (first
    | refine AWp.seq ?_
    | (refine AWp.region allP (by kernel_rfl) ?_; simp [*])
    | (refine AWp.condG ?_; simp [*])
    | (refine AWp.skip ?_; try simp)
    | (refine AWp.exit ?_; try simp)
    | refine AWp.block ?_
    | (refine AWp.ret (post_ret1 rfl ?_); (simp [Ex.no, noS, *]; done))
    | (refine guardI (fun hq => ?_) (fun hq => ?_) <;> (try simp at hq) <;> (try simp [*]))
    | (refine condRunI (fun hq => ?_) (fun hq => ?_) <;> (try simp at hq) <;> (try simp [*]))
    | (refine iteI (fun hq => ?_) (fun hq => ?_) <;> (try simp [*])))
    · repeat' (first
    | refine AWp.seq ?_
    | (refine AWp.region allP (by kernel_rfl) ?_; simp [*])
    | (refine AWp.condG ?_; simp [*])
    | (refine AWp.skip ?_; try simp)
    | (refine AWp.exit ?_; try simp)
    | refine AWp.block ?_
    | (refine AWp.ret (post_ret1 rfl ?_); (simp [Ex.no, noS, *]; done))
    | (refine guardI (fun hq => ?_) (fun hq => ?_) <;> (try simp at hq) <;> (try simp [*]))
    | (refine condRunI (fun hq => ?_) (fun hq => ?_) <;> (try simp at hq) <;> (try simp [*]))
    | (refine iteI (fun hq => ?_) (fun hq => ?_) <;> (try simp [*])))
  · repeat' (first
    | refine AWp.seq ?_
    | (refine AWp.region allP (by kernel_rfl) ?_; simp [*])
    | (refine AWp.condG ?_; simp [*])
    | (refine AWp.skip ?_; try simp)
    | (refine AWp.exit ?_; try simp)
    | refine AWp.block ?_
    | (refine AWp.ret (post_ret1 rfl ?_); (simp [Ex.no, noS, *]; done))
    | (refine guardI (fun hq => ?_) (fun hq => ?_) <;> (try simp at hq) <;> (try simp [*]))
    | (refine condRunI (fun hq => ?_) (fun hq => ?_) <;> (try simp at hq) <;> (try simp [*]))
    | (refine iteI (fun hq => ?_) (fun hq => ?_) <;> (try simp [*])))
theorem c_fieldOk (e : Ex) (b : Bool) (ht : e.tot ≤ 1048576) : PCall Tryz.prog 416 [e.av, .bool b] (.bool (if b then e.ok else e.no)) := by
  refine pcall_of Tryz.func416 (by kernel_rfl) rfl (by simp [Tryz.f416]) ?_
  have c1 := c_impl_ExpOk e ht
  have c2 := c_isZero e
  unfold Ex.av at c1 c2 ⊢
  (repeat refine AWp.seq ?_); refine AWp.region noP (by kernel_rfl) ?_
  simp
  intro g
  cases b
  · repeat' (first
    | refine AWp.seq ?_
    | (refine AWp.region allP (by kernel_rfl) ?_; simp [*])
    | (refine AWp.condG ?_; simp [*])
    | (refine AWp.skip ?_; try simp)
    | (refine AWp.exit ?_; try simp)
    | refine AWp.block ?_
    | (refine aop_call' (c1) ?_; simp [*])
    | (refine aop_call' (c2) ?_; simp [*])
    | (refine AWp.ret (post_ret1 rfl ?_); (simp [*]; done))
    | (refine guardI (fun hq => ?_) (fun hq => ?_) <;> (try simp at hq) <;> (try simp [*]))
    | (refine condRunI (fun hq => ?_) (fun hq => ?_) <;> (try simp at hq) <;> (try simp [*]))
    | (refine iteI (fun hq => ?_) (fun hq => ?_) <;> (try simp [*])))
  · repeat' (first
    | refine AWp.seq ?_
    | (refine AWp.region allP (by kernel_rfl) ?_; simp [*])
    | (refine AWp.condG ?_; simp [*])
    | (refine AWp.skip ?_; try simp)
    | (refine AWp.exit ?_; try simp)
    | refine AWp.block ?_
    | (refine aop_call' (c1) ?_; simp [*])
    | (refine aop_call' (c2) ?_; simp [*])
    | (refine AWp.ret (post_ret1 rfl ?_); (simp [*]; done))
    | (refine guardI (fun hq => ?_) (fun hq => ?_) <;> (try simp at hq) <;> (try simp [*]))
    | (refine condRunI (fun hq => ?_) (fun hq => ?_) <;> (try simp at hq) <;> (try simp [*]))
    | (refine iteI (fun hq => ?_) (fun hq => ?_) <;> (try simp [*])))
theorem post_ret4 {P : Program} {fn : Func} {t u v w : Tmp} {a b c d : AV} {s : St} (hr : fn.results = #[.tmp t, .tmp u, .tmp v, .tmp w]) (h : s.slots t = a ∧ s.slots u = b ∧ s.slots v = c ∧ s.slots w = d) : Post P fn (fun r' _ => r' = .tup [a, b, c, d]) .ret s := by
  obtain ⟨rfl, rfl, rfl, rfl⟩ := h
  exact ⟨_, _, s.mem, by rw [hr]; rfl, View.refl _ _, rfl⟩
theorem c_fields (k : Int) : PCall Tryz.prog 415 [.int .i64 k] (.tup [.bool (decide (k = 2)), .bool (decide (k ≠ 3)), .bool (decide (k = 3)), .bool (decide (k = 1 ∨ k = 2 ∨ k = 3))]) := by
  refine pcall_of Tryz.func415 (by kernel_rfl) rfl (by simp [Tryz.f415]) ?_
  by_cases h1 : k = 1
  · subst h1
    repeat' (first
    | refine AWp.seq ?_
    | (refine AWp.region allP (by kernel_rfl) ?_; simp)
    | (refine AWp.condG ?_; simp)
    | (refine AWp.skip ?_; try simp)
    | (refine AWp.exit ?_; try simp)
    | refine AWp.block ?_
    | (refine AWp.ret (post_ret4 rfl ?_); (simp; done))
    | (refine guardI (fun hq => ?_) (fun hq => ?_) <;> (try simp at hq) <;> (try simp))
    | (refine condRunI (fun hq => ?_) (fun hq => ?_) <;> (try simp at hq) <;> (try simp))
    | (refine iteI (fun hq => ?_) (fun hq => ?_) <;> (try simp)))
  by_cases h2 : k = 2
  · subst h2
    repeat' (first
    | refine AWp.seq ?_
    | (refine AWp.region allP (by kernel_rfl) ?_; simp)
    | (refine AWp.condG ?_; simp)
    | (refine AWp.skip ?_; try simp)
    | (refine AWp.exit ?_; try simp)
    | refine AWp.block ?_
    | (refine AWp.ret (post_ret4 rfl ?_); (simp; done))
    | (refine guardI (fun hq => ?_) (fun hq => ?_) <;> (try simp at hq) <;> (try simp))
    | (refine condRunI (fun hq => ?_) (fun hq => ?_) <;> (try simp at hq) <;> (try simp))
    | (refine iteI (fun hq => ?_) (fun hq => ?_) <;> (try simp)))
  by_cases h3 : k = 3
  · subst h3
    repeat' (first
    | refine AWp.seq ?_
    | (refine AWp.region allP (by kernel_rfl) ?_; simp)
    | (refine AWp.condG ?_; simp)
    | (refine AWp.skip ?_; try simp)
    | (refine AWp.exit ?_; try simp)
    | refine AWp.block ?_
    | (refine AWp.ret (post_ret4 rfl ?_); (simp; done))
    | (refine guardI (fun hq => ?_) (fun hq => ?_) <;> (try simp at hq) <;> (try simp))
    | (refine condRunI (fun hq => ?_) (fun hq => ?_) <;> (try simp at hq) <;> (try simp))
    | (refine iteI (fun hq => ?_) (fun hq => ?_) <;> (try simp)))
  repeat' (first
    | refine AWp.seq ?_
    | (refine AWp.region allP (by kernel_rfl) ?_; simp [*])
    | (refine AWp.condG ?_; simp [*])
    | (refine AWp.skip ?_; try simp)
    | (refine AWp.exit ?_; try simp)
    | refine AWp.block ?_
    | (refine AWp.ret (post_ret4 rfl ?_); (simp [*]; done))
    | (refine guardI (fun hq => ?_) (fun hq => ?_) <;> (try simp at hq) <;> (try simp [*]))
    | (refine condRunI (fun hq => ?_) (fun hq => ?_) <;> (try simp at hq) <;> (try simp [*]))
    | (refine iteI (fun hq => ?_) (fun hq => ?_) <;> (try simp [*])))
end Go.T
namespace Go.T
open Go Go.Proofs
set_option maxRecDepth 10000
set_option maxHeartbeats 1000000
set_option linter.unusedSimpArgs false
set_option linter.unusedVariables false
theorem c_impl_Size0 (l : List Sm) (ht : totL Sm.tot l ≤ 1048576) (h : ∀ x ∈ l, PCall Tryz.prog 210 [.lst false 19 (x.body.map Sm.av)] (.int .i64 (sumL Sm.size x.body))) :
    PCall Tryz.prog 210 [.lst false 19 (l.map Sm.av)] (.int .i64 (sumL Sm.size l)) := by
  have hlen := totL_len Sm.tot l
  have hsum := sumL_le Sm.size Sm.tot l (fun x _ => x.size_le)
  refine pcall_of Tryz.func210 (by kernel_rfl) rfl (by simp [Tryz.f210]) ?_
  repeat' (first
    | refine AWp.seq ?_
    | (refine AWp.region allP (by kernel_rfl) ?_; simp)
    | (refine AWp.condG ?_; simp)
    | (refine AWp.skip ?_; try simp)
    | (refine AWp.exit ?_; try simp)
    | refine AWp.block ?_
    | (refine guardI (fun hq => ?_) (fun hq => ?_) <;> (try simp at hq) <;> (try simp))
    | (refine condRunI (fun hq => ?_) (fun hq => ?_) <;> (try simp at hq) <;> (try simp))
    | (refine iteI (fun hq => ?_) (fun hq => ?_) <;> (try simp)))
  refine (AWp.rounds (fun m st => ∃ (i : Nat) (q : Int), m = l.length - i ∧ i ≤ l.length ∧ st.slots 8 = .lst false 19 (l.map Sm.av) ∧ st.slots 9 = .int .i64 l.length ∧ st.slots 10 = .int .i64 i ∧ st.slots 3 = .int .i64 q ∧ 0 ≤ q ∧ q + sumL Sm.size (l.drop i) = sumL Sm.size l + (l.length - i)) l.length ⟨0, l.length, by simp, by simp, by simp, by simp, by simp, by simp, by omega, by simp; omega⟩ ?_)
  rintro R m st hR ⟨i, q, rfl, hi, s8, s9, s10, s3, hq0, hq1⟩
  (repeat refine AWp.seq ?_); refine AWp.region noP (by kernel_rfl) ?_
  simp [s9, s10]
  (repeat refine AWp.seq ?_)
  refine AWp.cond (b := decide (i < l.length)) (by simp) (fun hb => ?_) (fun hb => ?_)
  · simp at hb
    have hg : l[i]? = some l[i] := List.getElem?_eq_getElem hb
    have hdr : l.drop i = l[i] :: l.drop (i + 1) := List.drop_eq_getElem_cons hb
    refine AWp.skip ?_
    simp
    (repeat refine AWp.seq ?_); refine AWp.block ?_; (repeat refine AWp.seq ?_); refine AWp.region noP (by kernel_rfl) ?_
    have hx : idxA Tryz.prog st.mem 36 (.lst false 19 (l.map Sm.av)) (.int .i64 i) = some (.ref l[i].cells) := idx (y := l[i].av) es_36 (by simp [hg])
    simp [s8, s9, s10, hx]
    intro g2 hg2
    (repeat refine AWp.seq ?_); refine AWp.region allP (by kernel_rfl) ?_
    simp [s3]
    refine aop_call' (h l[i] (List.getElem_mem _)) ?_
    rw [hdr, sumL, Sm.size_body] at hq1
    have hw2 : IntKind.wrap .i64 (q + (sumL Sm.size l[i].body : Int)) = q + (sumL Sm.size l[i].body : Int) := wrap64 (by omega) (by omega)
    simp [hw2]
    (repeat refine AWp.seq ?_); refine AWp.region noP (by kernel_rfl) ?_
    have hw : IntKind.wrap .i64 ((i : Int) + 1) = (i + 1 : Nat) := wrap64 (by omega) (by omega)
    simp [s10, hw]
    exact hR _ (l.length - (i + 1)) (by omega) ⟨i + 1, q + (sumL Sm.size l[i].body : Int), rfl, hb, by simp [s8], by simp [s9], by simp, by simp, by omega, by omega⟩
  · simp at hb
    refine AWp.exit ?_
    simp
    (repeat refine AWp.seq ?_); refine AWp.region noP (by kernel_rfl) ?_
    simp [s3]
    have : i = l.length := by omega
    subst this
    simp [sumL] at hq1
    exact AWp.ret (post_ret1 rfl (by simp [hq1]))
theorem c_impl_SizeB (e : Sm) : e.tot ≤ 1048576 → PCall Tryz.prog 210 [.lst false 19 (e.body.map Sm.av)] (.int .i64 (sumL Sm.size e.body)) := by
  induction e using Sm.ind with | h k s a e lo hi b h =>
  intro ht
  rw [Sm.tot_mk] at ht
  exact c_impl_Size0 b (by omega) (fun x hx => h x hx (by have := totL_mem Sm.tot hx; omega))
theorem c_impl_Size (l : List Sm) (ht : totL Sm.tot l ≤ 1048576) : PCall Tryz.prog 210 [.lst false 19 (l.map Sm.av)] (.int .i64 (sumL Sm.size l)) :=
  c_impl_Size0 l ht (fun x hx => c_impl_SizeB x (by have := totL_mem Sm.tot hx; omega))
theorem c_spec_Size0 (l : List Sm) (ht : totL Sm.tot l ≤ 1048576) (h : ∀ x ∈ l, PCall Tryz.prog 302 [.lst false 19 (x.body.map Sm.av)] (.int .i64 (sumL Sm.size x.body))) :
    PCall Tryz.prog 302 [.lst false 19 (l.map Sm.av)] (.int .i64 (sumL Sm.size l)) := by
  have hlen := totL_len Sm.tot l
  have hsum := sumL_le Sm.size Sm.tot l (fun x _ => x.size_le)
  refine pcall_of Tryz.func302 (by kernel_rfl) rfl (by simp [Tryz.f302]) ?_
  repeat' (first
    | refine AWp.seq ?_
    | (refine AWp.region allP (by kernel_rfl) ?_; simp)
    | (refine AWp.condG ?_; simp)
    | (refine AWp.skip ?_; try simp)
    | (refine AWp.exit ?_; try simp)
    | refine AWp.block ?_
    | (refine guardI (fun hq => ?_) (fun hq => ?_) <;> (try simp at hq) <;> (try simp))
    | (refine condRunI (fun hq => ?_) (fun hq => ?_) <;> (try simp at hq) <;> (try simp))
    | (refine iteI (fun hq => ?_) (fun hq => ?_) <;> (try simp)))
  refine (AWp.rounds (fun m st => ∃ (i : Nat) (q : Int), m = l.length - i ∧ i ≤ l.length ∧ st.slots 0 = .lst false 19 (l.map Sm.av) ∧ st.slots 4 = .int .i64 i ∧ st.slots 3 = .int .i64 q ∧ 0 ≤ q ∧ q + sumL Sm.size (l.drop i) = sumL Sm.size l) l.length ⟨0, 0, by simp, by simp, by simp, by simp, by simp, by omega, by simp⟩ ?_)
  rintro R m st hR ⟨i, q, rfl, hi, s0, s4, s3, hq0, hq1⟩
  (repeat refine AWp.seq ?_); refine AWp.region noP (by kernel_rfl) ?_
  simp [s0, s4]
  (repeat refine AWp.seq ?_)
  refine AWp.cond (b := decide (i < l.length)) (by simp) (fun hb => ?_) (fun hb => ?_)
  · simp at hb
    have hg : l[i]? = some l[i] := List.getElem?_eq_getElem hb
    have hdr : l.drop i = l[i] :: l.drop (i + 1) := List.drop_eq_getElem_cons hb
    refine AWp.skip ?_
    simp
    (repeat refine AWp.seq ?_); refine AWp.block ?_; (repeat refine AWp.seq ?_); refine AWp.region allP (by kernel_rfl) ?_
    have hx : idxA Tryz.prog st.mem 36 (.lst false 19 (l.map Sm.av)) (.int .i64 i) = some (.ref l[i].cells) := idx (y := l[i].av) es_36 (by simp [hg])
    rw [hdr, sumL, Sm.size_body] at hq1
    have hw1 : IntKind.wrap .i64 (q + 1) = q + 1 := wrap64 (by omega) (by omega)
    have hw2 : IntKind.wrap .i64 (q + 1 + (sumL Sm.size l[i].body : Int)) = q + 1 + (sumL Sm.size l[i].body : Int) := wrap64 (by omega) (by omega)
    simp [s0, s3, s4, hx, hw1]
    refine aop_call' (h l[i] (List.getElem_mem _)) ?_
    simp [hw2]
    (repeat refine AWp.seq ?_); refine AWp.region noP (by kernel_rfl) ?_
    have hw : IntKind.wrap .i64 ((i : Int) + 1) = (i + 1 : Nat) := wrap64 (by omega) (by omega)
    simp [s4, hw]
    exact hR _ (l.length - (i + 1)) (by omega) ⟨i + 1, q + 1 + (sumL Sm.size l[i].body : Int), rfl, hb, by simp [s0], by simp, by simp, by omega, by omega⟩
  · simp at hb
    refine AWp.exit ?_
    simp
    (repeat refine AWp.seq ?_); refine AWp.region noP (by kernel_rfl) ?_
    simp [s3]
    have : i = l.length := by omega
    subst this
    simp [sumL] at hq1
    exact AWp.ret (post_ret1 rfl (by simp [hq1]))
theorem c_spec_SizeB (e : Sm) : e.tot ≤ 1048576 → PCall Tryz.prog 302 [.lst false 19 (e.body.map Sm.av)] (.int .i64 (sumL Sm.size e.body)) := by
  induction e using Sm.ind with | h k s a e lo hi b h =>
  intro ht
  rw [Sm.tot_mk] at ht
  exact c_spec_Size0 b (by omega) (fun x hx => h x hx (by have := totL_mem Sm.tot hx; omega))
theorem c_spec_Size (l : List Sm) (ht : totL Sm.tot l ≤ 1048576) : PCall Tryz.prog 302 [.lst false 19 (l.map Sm.av)] (.int .i64 (sumL Sm.size l)) :=
  c_spec_Size0 l ht (fun x hx => c_spec_SizeB x (by have := totL_mem Sm.tot hx; omega))
end Go.T
namespace Go.T
open Go Go.Proofs
set_option maxRecDepth 10000
set_option maxHeartbeats 1000000
set_option linter.unusedSimpArgs false
set_option linter.unusedVariables false
theorem c_isRight_1 (s : ByteArray) (a e lo hi : Ex) (b : List Sm) (hs : s.size ≤ 9223372036854775806) (ha : a.tot ≤ 1048576) (he : e.tot ≤ 1048576) (hlo : lo.tot ≤ 1048576) (hhi : hi.tot ≤ 1048576) (d : Nat) :
    PCall Tryz.prog 310 [(Sm.mk 1 s a e lo hi b).av, .int .i64 d] (.bool (stHere 1 s a e lo hi b.length d)) := by
  refine pcall_of Tryz.func310 (by kernel_rfl) rfl (by simp [Tryz.f310]) ?_
  unfold Sm.av
  rw [Sm.cells_mk]
  (repeat refine AWp.seq ?_); refine AWp.region noP (by kernel_rfl) ?_
  simp
  intro g
  have r : inR 1 1 4 = true := rfl
  repeat' (first
    | refine AWp.seq ?_
    | (refine AWp.region allP (by kernel_rfl) ?_; simp [*])
    | (refine AWp.condG ?_; simp [*])
    | (refine AWp.skip ?_; try simp)
    | (refine AWp.exit ?_; try simp)
    | refine AWp.block ?_
    | (refine aop_call' (c_inRange _ _ _) ?_; simp [*])
    | (refine aop_call' (c_fields _) ?_; simp [*])
    | (refine aop_call' (c_fieldOk a _ ha) ?_; simp [*])
    | (refine aop_call' (c_fieldOk e _ he) ?_; simp [*])
    | (refine aop_call' (c_fieldOk lo _ hlo) ?_; simp [*])
    | (refine aop_call' (c_fieldOk hi _ hhi) ?_; simp [*])
    | (refine aop_call' (c_impl_NameOk _ hs) ?_; simp [*])
    | (refine AWp.ret (post_ret1 rfl ?_); (simp [stHere, noS, *]; done))
    | (refine guardI (fun hq => ?_) (fun hq => ?_) <;> (try simp at hq) <;> (try simp [*]))
    | (refine condRunI (fun hq => ?_) (fun hq => ?_) <;> (try simp at hq) <;> (try simp [*]))
    | (refine iteI (fun hq => ?_) (fun hq => ?_) <;> (try simp [*])))
theorem c_isRight_2 (s : ByteArray) (a e lo hi : Ex) (b : List Sm) (hs : s.size ≤ 9223372036854775806) (ha : a.tot ≤ 1048576) (he : e.tot ≤ 1048576) (hlo : lo.tot ≤ 1048576) (hhi : hi.tot ≤ 1048576) (d : Nat) :
    PCall Tryz.prog 310 [(Sm.mk 2 s a e lo hi b).av, .int .i64 d] (.bool (stHere 2 s a e lo hi b.length d)) := by
  refine pcall_of Tryz.func310 (by kernel_rfl) rfl (by simp [Tryz.f310]) ?_
  unfold Sm.av
  rw [Sm.cells_mk]
  (repeat refine AWp.seq ?_); refine AWp.region noP (by kernel_rfl) ?_
  simp
  intro g
  have r : inR 2 1 4 = true := rfl
  repeat' (first
    | refine AWp.seq ?_
    | (refine AWp.region allP (by kernel_rfl) ?_; simp [*])
    | (refine AWp.condG ?_; simp [*])
    | (refine AWp.skip ?_; try simp)
    | (refine AWp.exit ?_; try simp)
    | refine AWp.block ?_
    | (refine aop_call' (c_inRange _ _ _) ?_; simp [*])
    | (refine aop_call' (c_fields _) ?_; simp [*])
    | (refine aop_call' (c_fieldOk a _ ha) ?_; simp [*])
    | (refine aop_call' (c_fieldOk e _ he) ?_; simp [*])
    | (refine aop_call' (c_fieldOk lo _ hlo) ?_; simp [*])
    | (refine aop_call' (c_fieldOk hi _ hhi) ?_; simp [*])
    | (refine aop_call' (c_impl_NameOk _ hs) ?_; simp [*])
    | (refine AWp.ret (post_ret1 rfl ?_); (simp [stHere, noS, *]; done))
    | (refine guardI (fun hq => ?_) (fun hq => ?_) <;> (try simp at hq) <;> (try simp [*]))
    | (refine condRunI (fun hq => ?_) (fun hq => ?_) <;> (try simp at hq) <;> (try simp [*]))
    | (refine iteI (fun hq => ?_) (fun hq => ?_) <;> (try simp [*])))
theorem c_isRight_4 (s : ByteArray) (a e lo hi : Ex) (b : List Sm) (hs : s.size ≤ 9223372036854775806) (ha : a.tot ≤ 1048576) (he : e.tot ≤ 1048576) (hlo : lo.tot ≤ 1048576) (hhi : hi.tot ≤ 1048576) (d : Nat) :
    PCall Tryz.prog 310 [(Sm.mk 4 s a e lo hi b).av, .int .i64 d] (.bool (stHere 4 s a e lo hi b.length d)) := by
  refine pcall_of Tryz.func310 (by kernel_rfl) rfl (by simp [Tryz.f310]) ?_
  unfold Sm.av
  rw [Sm.cells_mk]
  (repeat refine AWp.seq ?_); refine AWp.region noP (by kernel_rfl) ?_
  simp
  intro g
  have r : inR 4 1 4 = true := rfl
  repeat' (first
    | refine AWp.seq ?_
    | (refine AWp.region allP (by kernel_rfl) ?_; simp [*])
    | (refine AWp.condG ?_; simp [*])
    | (refine AWp.skip ?_; try simp)
    | (refine AWp.exit ?_; try simp)
    | refine AWp.block ?_
    | (refine aop_call' (c_inRange _ _ _) ?_; simp [*])
    | (refine aop_call' (c_fields _) ?_; simp [*])
    | (refine aop_call' (c_fieldOk a _ ha) ?_; simp [*])
    | (refine aop_call' (c_fieldOk e _ he) ?_; simp [*])
    | (refine aop_call' (c_fieldOk lo _ hlo) ?_; simp [*])
    | (refine aop_call' (c_fieldOk hi _ hhi) ?_; simp [*])
    | (refine aop_call' (c_impl_NameOk _ hs) ?_; simp [*])
    | (refine AWp.ret (post_ret1 rfl ?_); (simp [stHere, noS, *]; done))
    | (refine guardI (fun hq => ?_) (fun hq => ?_) <;> (try simp at hq) <;> (try simp [*]))
    | (refine condRunI (fun hq => ?_) (fun hq => ?_) <;> (try simp at hq) <;> (try simp [*]))
    | (refine iteI (fun hq => ?_) (fun hq => ?_) <;> (try simp [*])))
theorem c_isRight_k (k : Int) (s : ByteArray) (a e lo hi : Ex) (b : List Sm) (hs : s.size ≤ 9223372036854775806) (ha : a.tot ≤ 1048576) (he : e.tot ≤ 1048576) (hlo : lo.tot ≤ 1048576) (hhi : hi.tot ≤ 1048576) (d : Nat) (k1 : ¬ k = 1) (k2 : ¬ k = 2) (k3 : ¬ k = 3) (k4 : ¬ k = 4) :
    PCall Tryz.prog 310 [(Sm.mk k s a e lo hi b).av, .int .i64 d] (.bool (stHere k s a e lo hi b.length d)) := by
  refine pcall_of Tryz.func310 (by kernel_rfl) rfl (by simp [Tryz.f310]) ?_
  unfold Sm.av
  rw [Sm.cells_mk]
  (repeat refine AWp.seq ?_); refine AWp.region noP (by kernel_rfl) ?_
  simp
  intro g
  have r : inR k 1 4 = false := by unfold inR; simp; omega
  repeat' (first
    | refine AWp.seq ?_
    | (refine AWp.region allP (by kernel_rfl) ?_; simp [*])
    | (refine AWp.condG ?_; simp [*])
    | (refine AWp.skip ?_; try simp)
    | (refine AWp.exit ?_; try simp)
    | refine AWp.block ?_
    | (refine aop_call' (c_inRange _ _ _) ?_; simp [*])
    | (refine aop_call' (c_fields _) ?_; simp [*])
    | (refine aop_call' (c_fieldOk a _ ha) ?_; simp [*])
    | (refine aop_call' (c_fieldOk e _ he) ?_; simp [*])
    | (refine aop_call' (c_fieldOk lo _ hlo) ?_; simp [*])
    | (refine aop_call' (c_fieldOk hi _ hhi) ?_; simp [*])
    | (refine aop_call' (c_impl_NameOk _ hs) ?_; simp [*])
    | (refine AWp.ret (post_ret1 rfl ?_); (simp [stHere, noS, *]; done))
    | (refine guardI (fun hq => ?_) (fun hq => ?_) <;> (try simp at hq) <;> (try simp [*]))
    | (refine condRunI (fun hq => ?_) (fun hq => ?_) <;> (try simp at hq) <;> (try simp [*]))
    | (refine iteI (fun hq => ?_) (fun hq => ?_) <;> (try simp [*])))
end Go.T
namespace Go.T
open Go Go.Proofs
set_option maxRecDepth 10000
set_option maxHeartbeats 1000000
set_option linter.unusedSimpArgs false
set_option linter.unusedVariables false
theorem c_isRight_3 (s : ByteArray) (a e lo hi : Ex) (b : List Sm) (hs : s.size ≤ 9223372036854775806) (ha : a.tot ≤ 1048576) (he : e.tot ≤ 1048576) (hlo : lo.tot ≤ 1048576) (hhi : hi.tot ≤ 1048576) (hlen : b.length ≤ 1048576)
    (h : ∀ x ∈ b, ∀ d : Nat, d ≤ 3 → PCall Tryz.prog 310 [x.av, .int .i64 d] (.bool (x.right d))) (d : Nat) (hd : d ≤ 3) :
    PCall Tryz.prog 310 [(Sm.mk 3 s a e lo hi b).av, .int .i64 d] (.bool ((Sm.mk 3 s a e lo hi b).right d)) := by
  rw [Sm.right]
  refine pcall_of Tryz.func310 (by kernel_rfl) rfl (by simp [Tryz.f310]) ?_
  unfold Sm.av
  rw [Sm.cells_mk]
  (repeat refine AWp.seq ?_); refine AWp.region noP (by kernel_rfl) ?_
  simp
  intro g
  have r : inR 3 1 4 = true := rfl
  by_cases hx : stHere 3 s a e lo hi b.length d = true
  · unfold stHere at hx
    simp at hx
    obtain ⟨⟨⟨⟨⟨⟨x1, x2⟩, x3⟩, x4⟩, x5⟩, x6⟩, x7⟩ := hx
    have hd3 : ¬ (d : Int) = 3 := by omega
    repeat' (first
    | refine AWp.seq ?_
    | (refine AWp.region allP (by kernel_rfl) ?_; simp [x1, x2, x3, x4, x5, x7, hd3, r])
    | (refine AWp.condG ?_; simp [x1, x2, x3, x4, x5, x7, hd3, r])
    | (refine AWp.skip ?_; try simp)
    | (refine AWp.exit ?_; try simp)
    | refine AWp.block ?_
    | (refine aop_call' (c_inRange _ _ _) ?_; simp [x1, x2, x3, x4, x5, x7, hd3, r])
    | (refine aop_call' (c_fields _) ?_; simp [x1, x2, x3, x4, x5, x7, hd3, r])
    | (refine aop_call' (c_fieldOk a _ ha) ?_; simp [x1, x2, x3, x4, x5, x7, hd3, r])
    | (refine aop_call' (c_fieldOk e _ he) ?_; simp [x1, x2, x3, x4, x5, x7, hd3, r])
    | (refine aop_call' (c_fieldOk lo _ hlo) ?_; simp [x1, x2, x3, x4, x5, x7, hd3, r])
    | (refine aop_call' (c_fieldOk hi _ hhi) ?_; simp [x1, x2, x3, x4, x5, x7, hd3, r])
    | (refine aop_call' (c_impl_NameOk _ hs) ?_; simp [x1, x2, x3, x4, x5, x7, hd3, r])
    | (refine guardI (fun hq => ?_) (fun hq => ?_) <;> (try simp at hq) <;> (try simp [x1, x2, x3, x4, x5, x7, hd3, r]))
    | (refine condRunI (fun hq => ?_) (fun hq => ?_) <;> (try simp at hq) <;> (try simp [x1, x2, x3, x4, x5, x7, hd3, r]))
    | (refine iteI (fun hq => ?_) (fun hq => ?_) <;> (try simp [x1, x2, x3, x4, x5, x7, hd3, r])))
    have hst : stHere 3 s a e lo hi b.length d = true := by unfold stHere; simp [x1, x2, x3, x4, x5, x6, x7]
    rw [hst]
    simp only [Bool.true_and, ne_eq, not_true_eq_false, decide_false, Bool.false_or]
    refine (AWp.rounds (fun m st => ∃ (i : Nat), m = b.length - i ∧ i ≤ b.length ∧ st.slots 81 = .lst false 19 (b.map Sm.av) ∧ st.slots 82 = .int .i64 b.length ∧ st.slots 83 = .int .i64 i ∧ st.slots 1 = .int .i64 d ∧ Sm.rights b (d + 1) = Sm.rights (b.drop i) (d + 1)) b.length ⟨0, by simp, by simp, by simp, by simp, by simp, by simp, by simp⟩ ?_)
    rintro R m st hR ⟨i, rfl, hi, s81, s82, s83, s1, hr⟩
    (repeat refine AWp.seq ?_); refine AWp.region noP (by kernel_rfl) ?_
    simp [s82, s83]
    (repeat refine AWp.seq ?_)
    refine AWp.cond (b := decide (i < b.length)) (by simp) (fun hb => ?_) (fun hb => ?_)
    · simp at hb
      have hg : b[i]? = some b[i] := List.getElem?_eq_getElem hb
      have hdr : b.drop i = b[i] :: b.drop (i + 1) := List.drop_eq_getElem_cons hb
      refine AWp.skip ?_
      simp
      (repeat refine AWp.seq ?_); refine AWp.block ?_; (repeat refine AWp.seq ?_); refine AWp.region noP (by kernel_rfl) ?_
      have hx : idxA Tryz.prog st.mem 36 (.lst false 19 (b.map Sm.av)) (.int .i64 i) = some (.ref b[i].cells) := idx (y := b[i].av) es_36 (by simp [hg])
      simp [s81, s82, s83, hx]
      intro g2 hg2
      have hw1 : IntKind.wrap .i64 ((d : Int) + 1) = ((d + 1 : Nat) : Int) := wrap64 (by omega) (by omega)
      (repeat refine AWp.seq ?_); refine AWp.region allP (by kernel_rfl) ?_
      simp [s1, hw1]
      refine aop_call' (h b[i] (List.getElem_mem _) (d + 1) (by omega)) ?_
      simp
      have hz : Sm.rights b (d + 1) = (b[i].right (d + 1) && Sm.rights (b.drop (i + 1)) (d + 1)) := by rw [hr, hdr, Sm.rights]
      refine AWp.cond (b := !b[i].right (d + 1)) (by simp) (fun he => ?_) (fun he => ?_)
      · simp at he
        (repeat refine AWp.seq ?_); refine AWp.region noP (by kernel_rfl) ?_
        simp
        exact AWp.ret (post_ret1 rfl (by simp [hz, he]))
      · simp at he
        refine AWp.skip ?_
        simp
        (repeat refine AWp.seq ?_); refine AWp.region noP (by kernel_rfl) ?_
        have hw : IntKind.wrap .i64 ((i : Int) + 1) = (i + 1 : Nat) := wrap64 (by omega) (by omega)
        simp [s83, hw]
        refine hR _ (b.length - (i + 1)) (by omega) ⟨i + 1, rfl, hb, by simp [s81], by simp [s82], by simp, by simp [s1], ?_⟩
        rw [hz, he, Bool.true_and]
    · simp at hb
      refine AWp.exit ?_
      simp
      (repeat refine AWp.seq ?_); refine AWp.region noP (by kernel_rfl) ?_
      simp
      have : i = b.length := by omega
      subst this
      exact AWp.ret (post_ret1 rfl (by simp [hr, Sm.rights]))
  · have hf : stHere 3 s a e lo hi b.length d = false := by simpa using hx
    rw [hf]
    clear h hlen
    cases x1 : a.no
    · clear hx hf
      repeat' (first
    | refine AWp.seq ?_
    | (refine AWp.region allP (by kernel_rfl) ?_; simp [*])
    | (refine AWp.condG ?_; simp [*])
    | (refine AWp.skip ?_; try simp)
    | (refine AWp.exit ?_; try simp)
    | refine AWp.block ?_
    | (refine aop_call' (c_inRange _ _ _) ?_; simp [*])
    | (refine aop_call' (c_fields _) ?_; simp [*])
    | (refine aop_call' (c_fieldOk a _ ha) ?_; simp [*])
    | (refine aop_call' (c_fieldOk e _ he) ?_; simp [*])
    | (refine aop_call' (c_fieldOk lo _ hlo) ?_; simp [*])
    | (refine aop_call' (c_fieldOk hi _ hhi) ?_; simp [*])
    | (refine aop_call' (c_impl_NameOk _ hs) ?_; simp [*])
    | (refine AWp.ret (post_ret1 rfl ?_); (simp; done))
    | (refine guardI (fun hq => ?_) (fun hq => ?_) <;> (try simp at hq) <;> (try simp [*]))
    | (refine condRunI (fun hq => ?_) (fun hq => ?_) <;> (try simp at hq) <;> (try simp [*]))
    | (refine iteI (fun hq => ?_) (fun hq => ?_) <;> (try simp [*])))
    cases x2 : e.no
    · clear hx hf
      repeat' (first
    | refine AWp.seq ?_
    | (refine AWp.region allP (by kernel_rfl) ?_; simp [*])
    | (refine AWp.condG ?_; simp [*])
    | (refine AWp.skip ?_; try simp)
    | (refine AWp.exit ?_; try simp)
    | refine AWp.block ?_
    | (refine aop_call' (c_inRange _ _ _) ?_; simp [*])
    | (refine aop_call' (c_fields _) ?_; simp [*])
    | (refine aop_call' (c_fieldOk a _ ha) ?_; simp [*])
    | (refine aop_call' (c_fieldOk e _ he) ?_; simp [*])
    | (refine aop_call' (c_fieldOk lo _ hlo) ?_; simp [*])
    | (refine aop_call' (c_fieldOk hi _ hhi) ?_; simp [*])
    | (refine aop_call' (c_impl_NameOk _ hs) ?_; simp [*])
    | (refine AWp.ret (post_ret1 rfl ?_); (simp; done))
    | (refine guardI (fun hq => ?_) (fun hq => ?_) <;> (try simp at hq) <;> (try simp [*]))
    | (refine condRunI (fun hq => ?_) (fun hq => ?_) <;> (try simp at hq) <;> (try simp [*]))
    | (refine iteI (fun hq => ?_) (fun hq => ?_) <;> (try simp [*])))
    cases x3 : lo.ok
    · clear hx hf
      repeat' (first
    | refine AWp.seq ?_
    | (refine AWp.region allP (by kernel_rfl) ?_; simp [*])
    | (refine AWp.condG ?_; simp [*])
    | (refine AWp.skip ?_; try simp)
    | (refine AWp.exit ?_; try simp)
    | refine AWp.block ?_
    | (refine aop_call' (c_inRange _ _ _) ?_; simp [*])
    | (refine aop_call' (c_fields _) ?_; simp [*])
    | (refine aop_call' (c_fieldOk a _ ha) ?_; simp [*])
    | (refine aop_call' (c_fieldOk e _ he) ?_; simp [*])
    | (refine aop_call' (c_fieldOk lo _ hlo) ?_; simp [*])
    | (refine aop_call' (c_fieldOk hi _ hhi) ?_; simp [*])
    | (refine aop_call' (c_impl_NameOk _ hs) ?_; simp [*])
    | (refine AWp.ret (post_ret1 rfl ?_); (simp; done))
    | (refine guardI (fun hq => ?_) (fun hq => ?_) <;> (try simp at hq) <;> (try simp [*]))
    | (refine condRunI (fun hq => ?_) (fun hq => ?_) <;> (try simp at hq) <;> (try simp [*]))
    | (refine iteI (fun hq => ?_) (fun hq => ?_) <;> (try simp [*])))
    cases x4 : hi.ok
    · clear hx hf
      repeat' (first
    | refine AWp.seq ?_
    | (refine AWp.region allP (by kernel_rfl) ?_; simp [*])
    | (refine AWp.condG ?_; simp [*])
    | (refine AWp.skip ?_; try simp)
    | (refine AWp.exit ?_; try simp)
    | refine AWp.block ?_
    | (refine aop_call' (c_inRange _ _ _) ?_; simp [*])
    | (refine aop_call' (c_fields _) ?_; simp [*])
    | (refine aop_call' (c_fieldOk a _ ha) ?_; simp [*])
    | (refine aop_call' (c_fieldOk e _ he) ?_; simp [*])
    | (refine aop_call' (c_fieldOk lo _ hlo) ?_; simp [*])
    | (refine aop_call' (c_fieldOk hi _ hhi) ?_; simp [*])
    | (refine aop_call' (c_impl_NameOk _ hs) ?_; simp [*])
    | (refine AWp.ret (post_ret1 rfl ?_); (simp; done))
    | (refine guardI (fun hq => ?_) (fun hq => ?_) <;> (try simp at hq) <;> (try simp [*]))
    | (refine condRunI (fun hq => ?_) (fun hq => ?_) <;> (try simp at hq) <;> (try simp [*]))
    | (refine iteI (fun hq => ?_) (fun hq => ?_) <;> (try simp [*])))
    cases x5 : nameOk s
    · clear hx hf
      repeat' (first
    | refine AWp.seq ?_
    | (refine AWp.region allP (by kernel_rfl) ?_; simp [*])
    | (refine AWp.condG ?_; simp [*])
    | (refine AWp.skip ?_; try simp)
    | (refine AWp.exit ?_; try simp)
    | refine AWp.block ?_
    | (refine aop_call' (c_inRange _ _ _) ?_; simp [*])
    | (refine aop_call' (c_fields _) ?_; simp [*])
    | (refine aop_call' (c_fieldOk a _ ha) ?_; simp [*])
    | (refine aop_call' (c_fieldOk e _ he) ?_; simp [*])
    | (refine aop_call' (c_fieldOk lo _ hlo) ?_; simp [*])
    | (refine aop_call' (c_fieldOk hi _ hhi) ?_; simp [*])
    | (refine aop_call' (c_impl_NameOk _ hs) ?_; simp [*])
    | (refine AWp.ret (post_ret1 rfl ?_); (simp; done))
    | (refine guardI (fun hq => ?_) (fun hq => ?_) <;> (try simp at hq) <;> (try simp [*]))
    | (refine condRunI (fun hq => ?_) (fun hq => ?_) <;> (try simp at hq) <;> (try simp [*]))
    | (refine iteI (fun hq => ?_) (fun hq => ?_) <;> (try simp [*])))
    by_cases hd3 : (d : Int) = 3
    · clear hx hf
      repeat' (first
    | refine AWp.seq ?_
    | (refine AWp.region allP (by kernel_rfl) ?_; simp [*])
    | (refine AWp.condG ?_; simp [*])
    | (refine AWp.skip ?_; try simp)
    | (refine AWp.exit ?_; try simp)
    | refine AWp.block ?_
    | (refine aop_call' (c_inRange _ _ _) ?_; simp [*])
    | (refine aop_call' (c_fields _) ?_; simp [*])
    | (refine aop_call' (c_fieldOk a _ ha) ?_; simp [*])
    | (refine aop_call' (c_fieldOk e _ he) ?_; simp [*])
    | (refine aop_call' (c_fieldOk lo _ hlo) ?_; simp [*])
    | (refine aop_call' (c_fieldOk hi _ hhi) ?_; simp [*])
    | (refine aop_call' (c_impl_NameOk _ hs) ?_; simp [*])
    | (refine AWp.ret (post_ret1 rfl ?_); (simp; done))
    | (refine guardI (fun hq => ?_) (fun hq => ?_) <;> (try simp at hq) <;> (try simp [*]))
    | (refine condRunI (fun hq => ?_) (fun hq => ?_) <;> (try simp at hq) <;> (try simp [*]))
    | (refine iteI (fun hq => ?_) (fun hq => ?_) <;> (try simp [*])))
    have hd4 : d < 3 := by omega
    cases x7 : inR b.length 1 6
    · clear hx hf
      repeat' (first
    | refine AWp.seq ?_
    | (refine AWp.region allP (by kernel_rfl) ?_; simp [*])
    | (refine AWp.condG ?_; simp [*])
    | (refine AWp.skip ?_; try simp)
    | (refine AWp.exit ?_; try simp)
    | refine AWp.block ?_
    | (refine aop_call' (c_inRange _ _ _) ?_; simp [*])
    | (refine aop_call' (c_fields _) ?_; simp [*])
    | (refine aop_call' (c_fieldOk a _ ha) ?_; simp [*])
    | (refine aop_call' (c_fieldOk e _ he) ?_; simp [*])
    | (refine aop_call' (c_fieldOk lo _ hlo) ?_; simp [*])
    | (refine aop_call' (c_fieldOk hi _ hhi) ?_; simp [*])
    | (refine aop_call' (c_impl_NameOk _ hs) ?_; simp [*])
    | (refine AWp.ret (post_ret1 rfl ?_); (simp; done))
    | (refine guardI (fun hq => ?_) (fun hq => ?_) <;> (try simp at hq) <;> (try simp [*]))
    | (refine condRunI (fun hq => ?_) (fun hq => ?_) <;> (try simp at hq) <;> (try simp [*]))
    | (refine iteI (fun hq => ?_) (fun hq => ?_) <;> (try simp [*])))
    exact absurd (by unfold stHere; simp [*]) hx
theorem c_isRight (e : Sm) : e.tot ≤ 1048576 → ∀ d : Nat, d ≤ 3 → PCall Tryz.prog 310 [e.av, .int .i64 d] (.bool (e.right d)) := by
  induction e using Sm.ind with | h k s a e lo hi b h =>
  intro ht d hd
  rw [Sm.tot_mk] at ht
  have hlen := totL_len Sm.tot b
  have hh : ∀ x ∈ b, ∀ d : Nat, d ≤ 3 → PCall Tryz.prog 310 [x.av, .int .i64 d] (.bool (x.right d)) := fun x hx => h x hx (by have := totL_mem Sm.tot hx; omega)
  by_cases k3 : k = 3
  · subst k3
    exact c_isRight_3 s a e lo hi b (by omega) (by omega) (by omega) (by omega) (by omega) (by omega) hh d hd
  have hr : (Sm.mk k s a e lo hi b).right d = stHere k s a e lo hi b.length d := by rw [Sm.right]; simp [k3]
  rw [hr]
  by_cases k1 : k = 1
  · subst k1
    exact c_isRight_1 s a e lo hi b (by omega) (by omega) (by omega) (by omega) (by omega) d
  by_cases k2 : k = 2
  · subst k2
    exact c_isRight_2 s a e lo hi b (by omega) (by omega) (by omega) (by omega) (by omega) d
  by_cases k4 : k = 4
  · subst k4
    exact c_isRight_4 s a e lo hi b (by omega) (by omega) (by omega) (by omega) (by omega) d
  exact c_isRight_k k s a e lo hi b (by omega) (by omega) (by omega) (by omega) (by omega) d k1 k2 k3 k4
end Go.T
