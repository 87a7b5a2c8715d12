/- Drawn instructions, bent ones. Is an instruction right: both hands. Is code right, both hands; drawn code. Drawn code. FnExactInsText: the law, told of trees. FnInstructions: the law, told of trees. -/
import Derived.Test.YtkheogobahhbpaaDoorG5
import Derived.Test.YtkheogobahhbpaaDoorG4
import Derived.Test.YtkheogobahhbpaaDoorG2
import Derived.Test.YtkheogobahhbpaaDoorG3
namespace Go.T
open Go Go.Proofs
set_option maxRecDepth 10000
set_option maxHeartbeats 1000000
set_option linter.unusedSimpArgs false
set_option linter.unusedVariables false
open Go Go.Sort
theorem Bx2.lateral {l : List Int} {g g2 g3 : Nat} {m : Mem} {op a b : Int} {st : St} (h : Bx2 l g g2 g3 m op a b st) (n2 : g2 ≠ g) (n3 : g3 ≠ g) {m1 : Mem} (hc : Cur l g m1) (ho : ∀ k, k ≠ g → m1 k = st.mem k) {st' : St} (hs : ∀ t, t ≤ 3 → st'.slots t = st.slots t) (hm : st'.mem = m1) : Bx2 l g g2 g3 m op a b st' :=
  ⟨by rw [hs 0 (by omega)]; exact h.s0, by rw [hs 2 (by omega)]; exact h.s2, by rw [hs 3 (by omega)]; exact h.s3, by rw [hm]; exact hc, by rw [hm, ho _ n2]; exact h.b2, by rw [hm, ho _ n3]; exact h.b3, fun k k1 k2 k3 => by rw [hm, ho _ k1]; exact h.old k k1 k2 k3⟩
theorem c_l16Any {l : List Int} (hl : byOk l) {g : Nat} {m : Mem} (hm : Cur l g m) {K : AV → Mem → Prop} (hK : ∀ op a b m', insGood op a b → Cur l g m' → (∀ k, k ≠ g → m' k = m k) → K (.agg (insA op a b)) m') : WCall Tryd.prog 21 [.ptr g 0] m K := by
  have hmg : m g ≠ none := by obtain ⟨i, h, _, _, hm⟩ := hm; rw [hm]; simp
  refine wcall_of Tryd.func21 (by kernel_rfl) rfl (by simp [Tryd.f21]) ?_
  (repeat refine AWp.seq ?_); refine AWp.region noP (by kernel_rfl) ?_
  simp
  intro g2 hg2
  have n2 : g2 ≠ g := fun e => hmg (by rw [← e]; exact hg2)
  (repeat refine AWp.seq ?_); refine AWp.region noP (by kernel_rfl) ?_
  simp
  refine aop_wcall _ _ _ _ _ _ _ _ rfl (eval_func _ _) ?_
  try simp
  refine c_l16Draw hl (g := g) (by obtain ⟨i, h, c1, c2, hm⟩ := hm; exact ⟨i, h, c1, c2, by rw [set_at, if_neg (Ne.symm n2)]; exact hm⟩) fun op a b m1 hgd hc1 ho1 => ?_
  unfold insA
  try simp
  intro g3 hg3
  have n3 : g3 ≠ g := fun e => by obtain ⟨i, h, _, _, hc⟩ := hc1; rw [e, hc] at hg3; cases hg3
  have n32 : g3 ≠ g2 := fun e => by rw [e, ho1 g2 n2] at hg3; simp [set_at] at hg3
  have h3 : m g3 = none := by have := ho1 g3 n3; rw [hg3, set_at, if_neg n32] at this; exact this.symm
  have hgood : insGood op a b := ⟨by omega, by unfold in64; omega, by unfold in64; omega⟩
  try simp
  refine AWp.gen (fun st => Bx2 l g g2 g3 m op a b st) ?_ ?_
  · refine ⟨by simp, by simp, by simp, ?_, ?_, by simp [set_at], fun k k1 k2 k3 => ?_⟩
    · obtain ⟨i, h, c1, c2, hc⟩ := hc1
      exact ⟨i, h, c1, c2, by simp [set_at, Ne.symm n3]; exact hc⟩
    · simp [set_at, Ne.symm n32]; rw [ho1 g2 n2]; simp [set_at]
    · simp [set_at, k3]; rw [ho1 k k1]; simp [set_at, k2]
  clear hc1 ho1 hg3 hgd
  rintro st hF
  (repeat refine AWp.seq ?_); refine AWp.region noP (by kernel_rfl) ?_
  simp [hF.s0]
  refine aop_wcall _ _ _ _ _ _ _ _ rfl (eval_func _ _) ?_
  try simp
  refine c_l1Below hl hF.cur 8 (by omega) fun x m2 x0 x1 hc2 ho2 => ?_
  try simp
  refine AWp.gen (fun st => Bx2 l g g2 g3 m op a b st ∧ st.slots 7 = .int .i64 x) ⟨hF.lateral n2 n3 hc2 ho2 (fun t ht => by simp [show ¬ t = 6 by omega, show ¬ t = 7 by omega]) (by simp), by simp⟩ ?_
  clear hF hc2 ho2
  rintro st ⟨hF, s7⟩
  refine AWp.cutA (fun st => ∃ op a b : Int, insGood op a b ∧ Bx2 l g g2 g3 m op a b st) ?_ ?_
  · (repeat refine AWp.seq ?_); refine AWp.block ?_
    (repeat refine AWp.seq ?_); refine AWp.region noP (by kernel_rfl) ?_
    simp [s7]
    by_cases x0 : x = 0
    · (repeat refine AWp.seq ?_); refine AWp.condT (by simp [x0]) ?_
      (repeat refine AWp.seq ?_); refine AWp.region noP (by kernel_rfl) ?_
      simp [hF.s0, literalA]
      refine aop_wcall _ _ _ _ _ _ _ _ rfl (eval_func _ _) ?_
      try simp
      refine c_l1Int hl hF.cur true [0, 20, -1, 4] (by decide) (by decide) fun y m2 hy hc2 ho2 => ?_
      have b3 := hF.b3
      rw [← ho2 g3 n3] at b3
      simp [hF.s3, b3]
      refine ⟨y, a, b, ⟨?_, hgood.2⟩, hF.set n3 (Ne.symm n32) hc2 ho2 (fun t ht => by simp [show ¬ t = 8 by omega, show ¬ t = 9 by omega, show ¬ t = 10 by omega, show ¬ t = 11 by omega, show ¬ t = 12 by omega, show ¬ t = 13 by omega, show ¬ t = 14 by omega, show ¬ t = 15 by omega, show ¬ t = 16 by omega, show ¬ t = 17 by omega, show ¬ t = 18 by omega, show ¬ t = 19 by omega, show ¬ t = 20 by omega, show ¬ t = 21 by omega, show ¬ t = 22 by omega, show ¬ t = 23 by omega, show ¬ t = 24 by omega]) (by simp) n2⟩
      simp at hy
      omega
    (repeat refine AWp.seq ?_); refine AWp.condF (by simp [x0]) ?_
    (repeat refine AWp.seq ?_); refine AWp.region noP (by kernel_rfl) ?_
    simp [s7]
    by_cases x2 : x = 1
    · (repeat refine AWp.seq ?_); refine AWp.condT (by simp [x2]) ?_
      (repeat refine AWp.seq ?_); refine AWp.region noP (by kernel_rfl) ?_
      simp [hF.s0]
      refine aop_wcall _ _ _ _ _ _ _ _ rfl (eval_func _ _) ?_
      try simp
      refine c_l1Word hl hF.cur fun y m2 hy hc2 ho2 => ?_
      have b3 := hF.b3
      rw [← ho2 g3 n3] at b3
      simp [hF.s3, b3]
      exact ⟨op, y, b, ⟨hgood.1, hy, hgood.2.2⟩, hF.set n3 (Ne.symm n32) hc2 ho2 (fun t ht => by simp [show ¬ t = 8 by omega, show ¬ t = 9 by omega, show ¬ t = 10 by omega, show ¬ t = 11 by omega, show ¬ t = 12 by omega, show ¬ t = 13 by omega, show ¬ t = 14 by omega, show ¬ t = 15 by omega, show ¬ t = 16 by omega, show ¬ t = 17 by omega, show ¬ t = 18 by omega, show ¬ t = 19 by omega, show ¬ t = 20 by omega, show ¬ t = 21 by omega, show ¬ t = 22 by omega, show ¬ t = 23 by omega, show ¬ t = 24 by omega]) (by simp) n2⟩
    (repeat refine AWp.seq ?_); refine AWp.condF (by simp [x2]) ?_
    (repeat refine AWp.seq ?_); refine AWp.region noP (by kernel_rfl) ?_
    simp [s7]
    by_cases x3 : x = 2
    · (repeat refine AWp.seq ?_); refine AWp.condT (by simp [x3]) ?_
      (repeat refine AWp.seq ?_); refine AWp.region noP (by kernel_rfl) ?_
      simp [hF.s0, literalA]
      refine aop_wcall _ _ _ _ _ _ _ _ rfl (eval_func _ _) ?_
      try simp
      refine c_l1Int hl hF.cur true [0, 1, 16, 17, -1, 9223372036854775807] (by decide) (by decide) fun y m2 hy hc2 ho2 => ?_
      have b3 := hF.b3
      rw [← ho2 g3 n3] at b3
      simp [hF.s3, b3]
      refine ⟨op, a, y, ⟨hgood.1, hgood.2.1, ?_⟩, hF.set n3 (Ne.symm n32) hc2 ho2 (fun t ht => by simp [show ¬ t = 8 by omega, show ¬ t = 9 by omega, show ¬ t = 10 by omega, show ¬ t = 11 by omega, show ¬ t = 12 by omega, show ¬ t = 13 by omega, show ¬ t = 14 by omega, show ¬ t = 15 by omega, show ¬ t = 16 by omega, show ¬ t = 17 by omega, show ¬ t = 18 by omega, show ¬ t = 19 by omega, show ¬ t = 20 by omega, show ¬ t = 21 by omega, show ¬ t = 22 by omega, show ¬ t = 23 by omega, show ¬ t = 24 by omega]) (by simp) n2⟩
      simp at hy
      unfold in64
      omega
    (repeat refine AWp.seq ?_); refine AWp.condF (by simp [x3]) ?_
    refine AWp.skip ?_
    try simp
    exact ⟨op, a, b, hgood, hF.lateral n2 n3 hF.cur (fun _ _ => rfl) (fun t ht => by simp [show ¬ t = 8 by omega, show ¬ t = 9 by omega, show ¬ t = 10 by omega, show ¬ t = 11 by omega, show ¬ t = 12 by omega, show ¬ t = 13 by omega, show ¬ t = 14 by omega, show ¬ t = 15 by omega, show ¬ t = 16 by omega, show ¬ t = 17 by omega, show ¬ t = 18 by omega, show ¬ t = 19 by omega, show ¬ t = 20 by omega, show ¬ t = 21 by omega, show ¬ t = 22 by omega, show ¬ t = 23 by omega, show ¬ t = 24 by omega]) (by simp)⟩
  clear hF s7 hgood op a b
  rintro st ⟨op, a, b, hgood, hF⟩
  (repeat refine AWp.seq ?_); refine AWp.region noP (by kernel_rfl) ?_
  simp [hF.s3, hF.b3, hF.s2, hF.b2]
  obtain ⟨m', v1, v2, v3⟩ := hF.done n2 n3 hg2 h3
  refine AWp.ret (post_cellW (r := .agg (insA op a b)) (.inl rfl) rfl (by simp [hF.s2, set_at, insA]) (View.forget (fun k x hk => ?_) _) (hK op a b m' hgood v2 v3))
  have hk2 : k ≠ g2 := by rintro rfl; rw [v3 _ n2, hg2] at hk; cases hk
  simp [set_at, hk2]
  exact v1 _ _ hk
theorem post_retC {P : Program} {fn : Func} {a t u v : Tmp} {T : TypeId} {k : AV → Mem → Prop} {s : St} {r : AV} (hr : fn.results = #[.cell a T, .tmp t, .tmp u, .tmp v]) (h : loadA P s.mem T (s.slots a) = some r) {m' : Mem} (hv : ∀ k b, m' k = some b → s.mem k = some b) (hk : k (.tup [r, s.slots t, s.slots u, s.slots v]) m') : Post P fn k .ret s :=
  ⟨[r, s.slots t, s.slots u, s.slots v], _, m', by rw [hr]; simp [resA, h], View.forget hv _, hk⟩
theorem c_DrawInsText (l : List Int) (hl : byOk l) {m : Mem} {K : AV → Mem → Prop} (hK : ∀ op a b, insGood op a b → K (.agg (insA op a b)) m) : WCall Tryd.prog 11 [bys l] m K := by
  refine wcall_of Tryd.func11 (by kernel_rfl) rfl (by simp [Tryd.f11]) ?_
  (repeat refine AWp.seq ?_); refine AWp.region noP (by kernel_rfl) ?_
  simp
  intro g2 hg2
  (repeat refine AWp.seq ?_); refine AWp.region noP (by kernel_rfl) ?_
  simp
  refine aop_wcall _ _ _ _ _ _ _ _ rfl (eval_func _ _) ?_
  try simp
  refine c_l1New l hl fun g m1 hg hc hE => ?_
  try simp
  (repeat refine AWp.seq ?_); refine AWp.region noP (by kernel_rfl) ?_
  simp
  refine aop_wcall _ _ _ _ _ _ _ _ rfl (eval_func _ _) ?_
  try simp
  refine c_l16Any hl hc fun op a b m2 hgd hc2 ho => ?_
  have hE2 := ext_cur hg hE ho
  have b2 := hE2 g2 _ (set_same _ _ _)
  unfold insA at *
  simp [b2]
  refine AWp.ret (post_cellW (r := .agg [.int .i64 op, .int .i64 a, .int .i64 b]) (.inl rfl) rfl (by simp [set_at]) (View.forget (fun k x hk => ?_) _) (hK op a b hgd))
  have hk2 : k ≠ g2 := by rintro rfl; rw [hg2] at hk; cases hk
  simp [set_at, hk2]
  exact hE2 k x (by rw [Mem.set_other hk2]; exact hk)
theorem c_DrawInsOk (l : List Int) (hl : byOk l) {m : Mem} {K : AV → Mem → Prop} (hK : ∀ op a b x y z, insGood op a b → (0 ≤ x ∧ x ≤ 20) → (0 ≤ y ∧ y ≤ 20) → (-1 ≤ z ∧ z ≤ 20) → K (.tup [.agg (insA op a b), .int .i64 x, .int .i64 y, .int .i64 z]) m) : WCall Tryd.prog 9 [bys l] m K := by
  refine wcall_of Tryd.func9 (by kernel_rfl) rfl (by simp [Tryd.f9]) ?_
  (repeat refine AWp.seq ?_); refine AWp.region noP (by kernel_rfl) ?_
  simp
  intro g2 hg2
  (repeat refine AWp.seq ?_); refine AWp.region noP (by kernel_rfl) ?_
  simp
  refine aop_wcall _ _ _ _ _ _ _ _ rfl (eval_func _ _) ?_
  try simp
  refine c_l1New l hl fun g m1 hg hc hE => ?_
  try simp
  (repeat refine AWp.seq ?_); refine AWp.region noP (by kernel_rfl) ?_
  simp
  refine aop_wcall _ _ _ _ _ _ _ _ rfl (eval_func _ _) ?_
  try simp
  refine c_l16Any hl hc fun op a b m2 hgd hc2 ho2 => ?_
  unfold insA at *
  try simp [literalA]
  refine aop_wcall _ _ _ _ _ _ _ _ rfl (eval_func _ _) ?_
  try simp
  refine c_l1Int hl hc2 true [1, 4, 9, 0] (by decide) (by decide) fun x m3 hx hc3 ho3 => ?_
  try simp [literalA]
  refine aop_wcall _ _ _ _ _ _ _ _ rfl (eval_func _ _) ?_
  try simp
  refine c_l1Int hl hc3 true [8, 20, 0] (by decide) (by decide) fun y m4 hy hc4 ho4 => ?_
  try simp [literalA]
  refine aop_wcall _ _ _ _ _ _ _ _ rfl (eval_func _ _) ?_
  try simp
  refine c_l1Int hl hc4 true [2, 6, 0, -1] (by decide) (by decide) fun z m5 hz hc5 ho5 => ?_
  have hE2 := ext_cur hg hE fun k hk => (ho5 k hk).trans ((ho4 k hk).trans ((ho3 k hk).trans (ho2 k hk)))
  have b2 := hE2 g2 _ (set_same _ _ _)
  simp [b2]
  refine AWp.ret (post_retC (r := .agg [.int .i64 op, .int .i64 a, .int .i64 b]) (m' := m) rfl (by simp [set_at]) (fun k x hk => ?_) ?_)
  · have hk2 : k ≠ g2 := by rintro rfl; rw [hg2] at hk; cases hk
    simp [set_at, hk2]
    exact hE2 k x (by rw [Mem.set_other hk2]; exact hk)
  · simp
    simp at hx hy hz
    exact hK op a b x y z hgd (by omega) (by omega) (by omega)
end Go.T
namespace Go.T
open Go Go.Proofs
set_option maxRecDepth 10000
set_option maxHeartbeats 1000000
set_option linter.unusedSimpArgs false
set_option linter.unusedVariables false
open Go Go.Sort
def insOkP (op a b x y z : Int) : Prop :=
  (op = 1 ∧ -2147483648 ≤ a ∧ a ≤ 2147483647 ∧ b = 0) ∨ ((op = 2 ∨ op = 3) ∧ 0 ≤ a ∧ a < z ∧ b = 0) ∨ ((op = 4 ∨ op = 5) ∧ 1 ≤ b ∧ b ≤ 16 ∧ 0 ≤ a ∧ a < y ∧ b ≤ y - a) ∨
  ((op = 6 ∨ op = 7 ∨ op = 17 ∨ op = 18) ∧ 0 ≤ a ∧ a < y ∧ b = 0) ∨ ((op = 13 ∨ op = 14) ∧ 0 ≤ a ∧ a < x ∧ b = 0) ∨ ((op = 8 ∨ op = 9 ∨ op = 10 ∨ op = 11 ∨ op = 12 ∨ op = 15 ∨ op = 16 ∨ op = 19) ∧ a = 0 ∧ b = 0)
instance (op a b x y z : Int) : Decidable (insOkP op a b x y z) := by unfold insOkP; infer_instance
structure InF (op a b x y z : Int) (st : St) : Prop where
  s1 : st.slots 1 = .int .i64 x
  s2 : st.slots 2 = .int .i64 y
  s3 : st.slots 3 = .int .i64 z
  s4 : st.slots 4 = .ref [.int .i64 op, .int .i64 a, .int .i64 b]
  s10 : st.slots 10 = .int .i64 op
theorem InF.puts {op a b x y z : Int} {st : St} (h : InF op a b x y z st) {t u : Nat} {v w : AV} (ht : 10 < t := by decide) (hu : 10 < u := by decide) : InF op a b x y z ((st.put (some t) v).put (some u) w) :=
  ⟨by simp [show ¬ 1 = t by omega, show ¬ 1 = u by omega, h.s1], by simp [show ¬ 2 = t by omega, show ¬ 2 = u by omega, h.s2], by simp [show ¬ 3 = t by omega, show ¬ 3 = u by omega, h.s3], by simp [show ¬ 4 = t by omega, show ¬ 4 = u by omega, h.s4], by simp [show ¬ 10 = t by omega, show ¬ 10 = u by omega, h.s10]⟩
theorem c_isWord (a : Int) : PCall Tryd.prog 26 [.int .i64 a] (.bool (inR a (-2147483648) 2147483647)) := by
  refine pcall_of Tryd.func26 (by kernel_rfl) rfl (by simp [Tryd.f26]) ?_
  (repeat refine AWp.seq ?_); refine AWp.region noP (by kernel_rfl) ?_
  try simp
  (repeat refine AWp.seq ?_); refine AWp.region noP (by kernel_rfl) ?_
  simp
  refine aop_call _ _ _ _ _ _ _ _ (c_inRange a (-2147483648) 2147483647) ?_
  simp
  exact AWp.ret (post_ret1 rfl (by simp))
theorem c_impl_InsOk (op a b x y z : Int) (hx : -1 ≤ x ∧ x ≤ 1000000) (hy : -1 ≤ y ∧ y ≤ 1000000) (hz : -1 ≤ z ∧ z ≤ 1000000) : PCall Tryd.prog 12 [.agg (insA op a b), .int .i64 x, .int .i64 y, .int .i64 z] (.bool (decide (insOkP op a b x y z))) := by
  refine pcall_of Tryd.func12 (by kernel_rfl) rfl (by simp [Tryd.f12]) ?_
  (repeat refine AWp.seq ?_); refine AWp.region noP (by kernel_rfl) ?_
  unfold insA
  simp
  intro g
  refine AWp.sees (Sees.view (t := 4) (View.freezeB (g := g) (cs := [.int .i64 op, .int .i64 a, .int .i64 b]) (by simp [set_at]))) ?_
  (repeat refine AWp.seq ?_); refine AWp.region noP (by kernel_rfl) ?_
  simp
  refine AWp.gen (fun st => InF op a b x y z st) ⟨by simp, by simp, by simp, by simp, by simp⟩ ?_
  rintro st hF
  (repeat refine AWp.seq ?_); refine AWp.block ?_
  (repeat refine AWp.seq ?_); refine AWp.region noP (by kernel_rfl) ?_
  simp [hF.s10]
  refine AWp.gen (fun st => InF op a b x y z st ∧ st.slots 11 = .bool (decide (op = 1))) ⟨hF.puts, by simp; try rfl⟩ ?_
  clear hF
  rintro st ⟨hF, q⟩
  by_cases hc : op = 1
  · (repeat refine AWp.seq ?_); refine AWp.condT (by rw [eval_tmp, q]; simp [hc]) ?_
    (repeat refine AWp.seq ?_); refine AWp.region noP (by kernel_rfl) ?_
    simp [hF.s10, hF.s4, hF.s1, hF.s2, hF.s3]
    refine aop_call _ _ _ _ _ _ _ _ (c_isWord a) ?_
    by_cases hg0 : inR a (-2147483648) 2147483647 = true
    all_goals
      simp [hF.s10, hF.s4, hF.s1, hF.s2, hF.s3, hg0]
      refine AWp.ret (post_ret1 rfl ?_)
      simp
      unfold insOkP
      try simp [inR] at hg0
      try simp [inR] at hg1
      try simp [inR] at hg2
      omega
  (repeat refine AWp.seq ?_); refine AWp.condF (by rw [eval_tmp, q]; simp [hc]) ?_
  have k11 := hc
  clear hc q
  refine AWp.seq ?_
  refine AWp.cutA (fun st => InF op a b x y z st ∧ st.slots 21 = .bool (decide (op = 2 ∨ op = 3))) ?_ ?_
  · (repeat refine AWp.seq ?_); refine AWp.region noP (by kernel_rfl) ?_
    simp [hF.s10]
    refine AWp.gen (fun st => InF op a b x y z st ∧ st.slots 21 = .bool (decide (op = 2))) ⟨hF.puts, by simp; try rfl⟩ ?_
    clear hF
    rintro st ⟨hF, q⟩
    by_cases hn2 : op = 2
    · (repeat refine AWp.seq ?_); refine AWp.condT (by simp [q, hn2]) ?_
      refine AWp.skip ?_
      exact ⟨hF, by rw [q]; simp [hn2]⟩
    (repeat refine AWp.seq ?_); refine AWp.condF (by simp [q, hn2]) ?_
    clear q
    (repeat refine AWp.seq ?_); refine AWp.region noP (by kernel_rfl) ?_
    simp [hF.s10]
    refine ⟨hF.puts, ?_⟩
    by_cases hn3 : op = 3 <;> simp [*]
  clear hF
  rintro st ⟨hF, q⟩
  by_cases hc : op = 2 ∨ op = 3
  · (repeat refine AWp.seq ?_); refine AWp.condT (by rw [eval_tmp, q]; simp [hc]) ?_
    have hw : IntKind.wrap .i64 (z - 1) = z - 1 := wrap64 (by omega) (by omega)
    (repeat refine AWp.seq ?_); refine AWp.region noP (by kernel_rfl) ?_
    simp [hF.s10, hF.s4, hF.s1, hF.s2, hF.s3, hw]
    refine aop_call _ _ _ _ _ _ _ _ (c_inRange a 0 (z - 1)) ?_
    by_cases hg0 : inR a 0 (z - 1) = true
    all_goals
      simp [hF.s10, hF.s4, hF.s1, hF.s2, hF.s3, hw, hg0]
      refine AWp.ret (post_ret1 rfl ?_)
      simp
      unfold insOkP
      try simp [inR] at hg0
      try simp [inR] at hg1
      try simp [inR] at hg2
      omega
  (repeat refine AWp.seq ?_); refine AWp.condF (by rw [eval_tmp, q]; simp [hc]) ?_
  have k21 := hc
  clear hc q
  refine AWp.seq ?_
  refine AWp.cutA (fun st => InF op a b x y z st ∧ st.slots 34 = .bool (decide (op = 4 ∨ op = 5))) ?_ ?_
  · (repeat refine AWp.seq ?_); refine AWp.region noP (by kernel_rfl) ?_
    simp [hF.s10]
    refine AWp.gen (fun st => InF op a b x y z st ∧ st.slots 34 = .bool (decide (op = 4))) ⟨hF.puts, by simp; try rfl⟩ ?_
    clear hF
    rintro st ⟨hF, q⟩
    by_cases hn4 : op = 4
    · (repeat refine AWp.seq ?_); refine AWp.condT (by simp [q, hn4]) ?_
      refine AWp.skip ?_
      exact ⟨hF, by rw [q]; simp [hn4]⟩
    (repeat refine AWp.seq ?_); refine AWp.condF (by simp [q, hn4]) ?_
    clear q
    (repeat refine AWp.seq ?_); refine AWp.region noP (by kernel_rfl) ?_
    simp [hF.s10]
    refine ⟨hF.puts, ?_⟩
    by_cases hn5 : op = 5 <;> simp [*]
  clear hF
  rintro st ⟨hF, q⟩
  by_cases hc : op = 4 ∨ op = 5
  · (repeat refine AWp.seq ?_); refine AWp.condT (by rw [eval_tmp, q]; simp [hc]) ?_
    have hw : inR b 1 16 = true → IntKind.wrap .i64 (y - b) = y - b := fun h => by simp [inR] at h; exact wrap64 (by omega) (by omega)
    (repeat refine AWp.seq ?_); refine AWp.region noP (by kernel_rfl) ?_
    simp [hF.s10, hF.s4, hF.s1, hF.s2, hF.s3, hw]
    refine aop_call _ _ _ _ _ _ _ _ (c_inRange b 1 16) ?_
    by_cases hg0 : inR b 1 16 = true <;> by_cases hg1 : 0 ≤ a
    all_goals
      simp [hF.s10, hF.s4, hF.s1, hF.s2, hF.s3, hw, hg0, hg1]
      refine AWp.ret (post_ret1 rfl ?_)
      simp
      unfold insOkP
      try simp [inR] at hg0
      try simp [inR] at hg1
      try simp [inR] at hg2
      omega
  (repeat refine AWp.seq ?_); refine AWp.condF (by rw [eval_tmp, q]; simp [hc]) ?_
  have k34 := hc
  clear hc q
  refine AWp.seq ?_
  refine AWp.cutA (fun st => InF op a b x y z st ∧ st.slots 54 = .bool (decide (op = 6 ∨ op = 7 ∨ op = 17 ∨ op = 18))) ?_ ?_
  · (repeat refine AWp.seq ?_); refine AWp.region noP (by kernel_rfl) ?_
    simp [hF.s10]
    refine AWp.gen (fun st => InF op a b x y z st ∧ st.slots 54 = .bool (decide (op = 6))) ⟨hF.puts, by simp; try rfl⟩ ?_
    clear hF
    rintro st ⟨hF, q⟩
    by_cases hn6 : op = 6
    · (repeat refine AWp.seq ?_); refine AWp.condT (by simp [q, hn6]) ?_
      refine AWp.skip ?_
      exact ⟨hF, by rw [q]; simp [hn6]⟩
    (repeat refine AWp.seq ?_); refine AWp.condF (by simp [q, hn6]) ?_
    clear q
    (repeat refine AWp.seq ?_); refine AWp.region noP (by kernel_rfl) ?_
    simp [hF.s10]
    refine AWp.gen (fun st => InF op a b x y z st ∧ st.slots 54 = .bool (decide (op = 7))) ⟨hF.puts, by simp; try rfl⟩ ?_
    clear hF
    rintro st ⟨hF, q⟩
    by_cases hn7 : op = 7
    · (repeat refine AWp.seq ?_); refine AWp.condT (by simp [q, hn7]) ?_
      refine AWp.skip ?_
      exact ⟨hF, by rw [q]; simp [hn7]⟩
    (repeat refine AWp.seq ?_); refine AWp.condF (by simp [q, hn7]) ?_
    clear q
    (repeat refine AWp.seq ?_); refine AWp.region noP (by kernel_rfl) ?_
    simp [hF.s10]
    refine AWp.gen (fun st => InF op a b x y z st ∧ st.slots 54 = .bool (decide (op = 17))) ⟨hF.puts, by simp; try rfl⟩ ?_
    clear hF
    rintro st ⟨hF, q⟩
    by_cases hn17 : op = 17
    · (repeat refine AWp.seq ?_); refine AWp.condT (by simp [q, hn17]) ?_
      refine AWp.skip ?_
      exact ⟨hF, by rw [q]; simp [hn17]⟩
    (repeat refine AWp.seq ?_); refine AWp.condF (by simp [q, hn17]) ?_
    clear q
    (repeat refine AWp.seq ?_); refine AWp.region noP (by kernel_rfl) ?_
    simp [hF.s10]
    refine ⟨hF.puts, ?_⟩
    by_cases hn18 : op = 18 <;> simp [*]
  clear hF
  rintro st ⟨hF, q⟩
  by_cases hc : op = 6 ∨ op = 7 ∨ op = 17 ∨ op = 18
  · (repeat refine AWp.seq ?_); refine AWp.condT (by rw [eval_tmp, q]; simp [hc]) ?_
    have hw : IntKind.wrap .i64 (y - 1) = y - 1 := wrap64 (by omega) (by omega)
    (repeat refine AWp.seq ?_); refine AWp.region noP (by kernel_rfl) ?_
    simp [hF.s10, hF.s4, hF.s1, hF.s2, hF.s3, hw]
    refine aop_call _ _ _ _ _ _ _ _ (c_inRange a 0 (y - 1)) ?_
    by_cases hg0 : inR a 0 (y - 1) = true
    all_goals
      simp [hF.s10, hF.s4, hF.s1, hF.s2, hF.s3, hw, hg0]
      refine AWp.ret (post_ret1 rfl ?_)
      simp
      unfold insOkP
      try simp [inR] at hg0
      try simp [inR] at hg1
      try simp [inR] at hg2
      omega
  (repeat refine AWp.seq ?_); refine AWp.condF (by rw [eval_tmp, q]; simp [hc]) ?_
  have k54 := hc
  clear hc q
  refine AWp.seq ?_
  refine AWp.cutA (fun st => InF op a b x y z st ∧ st.slots 69 = .bool (decide (op = 13 ∨ op = 14))) ?_ ?_
  · (repeat refine AWp.seq ?_); refine AWp.region noP (by kernel_rfl) ?_
    simp [hF.s10]
    refine AWp.gen (fun st => InF op a b x y z st ∧ st.slots 69 = .bool (decide (op = 13))) ⟨hF.puts, by simp; try rfl⟩ ?_
    clear hF
    rintro st ⟨hF, q⟩
    by_cases hn13 : op = 13
    · (repeat refine AWp.seq ?_); refine AWp.condT (by simp [q, hn13]) ?_
      refine AWp.skip ?_
      exact ⟨hF, by rw [q]; simp [hn13]⟩
    (repeat refine AWp.seq ?_); refine AWp.condF (by simp [q, hn13]) ?_
    clear q
    (repeat refine AWp.seq ?_); refine AWp.region noP (by kernel_rfl) ?_
    simp [hF.s10]
    refine ⟨hF.puts, ?_⟩
    by_cases hn14 : op = 14 <;> simp [*]
  clear hF
  rintro st ⟨hF, q⟩
  by_cases hc : op = 13 ∨ op = 14
  · (repeat refine AWp.seq ?_); refine AWp.condT (by rw [eval_tmp, q]; simp [hc]) ?_
    have hw : IntKind.wrap .i64 (x - 1) = x - 1 := wrap64 (by omega) (by omega)
    (repeat refine AWp.seq ?_); refine AWp.region noP (by kernel_rfl) ?_
    simp [hF.s10, hF.s4, hF.s1, hF.s2, hF.s3, hw]
    refine aop_call _ _ _ _ _ _ _ _ (c_inRange a 0 (x - 1)) ?_
    by_cases hg0 : inR a 0 (x - 1) = true
    all_goals
      simp [hF.s10, hF.s4, hF.s1, hF.s2, hF.s3, hw, hg0]
      refine AWp.ret (post_ret1 rfl ?_)
      simp
      unfold insOkP
      try simp [inR] at hg0
      try simp [inR] at hg1
      try simp [inR] at hg2
      omega
  (repeat refine AWp.seq ?_); refine AWp.condF (by rw [eval_tmp, q]; simp [hc]) ?_
  have k69 := hc
  clear hc q
  refine AWp.skip ?_
  try simp
  (repeat refine AWp.seq ?_); refine AWp.region noP (by kernel_rfl) ?_
  simp [hF.s10, hF.s4, hF.s1, hF.s2, hF.s3]
  refine aop_call _ _ _ _ _ _ _ _ (c_inRange op 8 19) ?_
  by_cases hg0 : inR op 8 19 = true <;> by_cases hg1 : a = 0
  all_goals
    simp [hF.s10, hF.s4, hF.s1, hF.s2, hF.s3, hg0, hg1]
    refine AWp.ret (post_ret1 rfl ?_)
    simp
    unfold insOkP
    try simp [inR] at hg0
    try simp [inR] at hg1
    try simp [inR] at hg2
    omega
theorem c_spec_InsOk (op a b x y z : Int) (ha : in64 a) (hx : -1 ≤ x ∧ x ≤ 1000000) (hy : -1 ≤ y ∧ y ≤ 1000000) (hz : -1 ≤ z ∧ z ≤ 1000000) : PCall Tryd.prog 13 [.agg (insA op a b), .int .i64 x, .int .i64 y, .int .i64 z] (.bool (decide (insOkP op a b x y z))) := by
  unfold in64 at ha
  refine pcall_of Tryd.func13 (by kernel_rfl) rfl (by simp [Tryd.f13]) ?_
  (repeat refine AWp.seq ?_); refine AWp.region noP (by kernel_rfl) ?_
  unfold insA
  simp
  intro g
  refine AWp.sees (Sees.view (t := 4) (View.freezeB (g := g) (cs := [.int .i64 op, .int .i64 a, .int .i64 b]) (by simp [set_at]))) ?_
  (repeat refine AWp.seq ?_); refine AWp.region noP (by kernel_rfl) ?_
  simp
  refine AWp.gen (fun st => InF op a b x y z st) ⟨by simp, by simp, by simp, by simp, by simp⟩ ?_
  rintro st hF
  (repeat refine AWp.seq ?_); refine AWp.block ?_
  (repeat refine AWp.seq ?_); refine AWp.region noP (by kernel_rfl) ?_
  simp [hF.s10]
  refine AWp.gen (fun st => InF op a b x y z st ∧ st.slots 11 = .bool (decide (op = 1))) ⟨hF.puts, by simp; try rfl⟩ ?_
  clear hF
  rintro st ⟨hF, q⟩
  by_cases hc : op = 1
  · (repeat refine AWp.seq ?_); refine AWp.condT (by rw [eval_tmp, q]; simp [hc]) ?_
    (repeat refine AWp.seq ?_); refine AWp.region noP (by kernel_rfl) ?_
    simp [hF.s10, hF.s4, hF.s1, hF.s2, hF.s3]
    refine aop_call _ _ _ _ _ _ _ _ (c_l1In a (-2147483648) 2147483647) ?_
    by_cases hg0 : inR a (-2147483648) 2147483647 = true
    all_goals
      simp [hF.s10, hF.s4, hF.s1, hF.s2, hF.s3, hg0]
      refine AWp.ret (post_ret1 rfl ?_)
      simp
      unfold insOkP
      try simp [inR] at hg0
      try simp [inR] at hg1
      try simp [inR] at hg2
      omega
  (repeat refine AWp.seq ?_); refine AWp.condF (by rw [eval_tmp, q]; simp [hc]) ?_
  have k11 := hc
  clear hc q
  refine AWp.seq ?_
  refine AWp.cutA (fun st => InF op a b x y z st ∧ st.slots 21 = .bool (decide (op = 2 ∨ op = 3))) ?_ ?_
  · (repeat refine AWp.seq ?_); refine AWp.region noP (by kernel_rfl) ?_
    simp [hF.s10]
    refine AWp.gen (fun st => InF op a b x y z st ∧ st.slots 21 = .bool (decide (op = 2))) ⟨hF.puts, by simp; try rfl⟩ ?_
    clear hF
    rintro st ⟨hF, q⟩
    by_cases hn2 : op = 2
    · (repeat refine AWp.seq ?_); refine AWp.condT (by simp [q, hn2]) ?_
      refine AWp.skip ?_
      exact ⟨hF, by rw [q]; simp [hn2]⟩
    (repeat refine AWp.seq ?_); refine AWp.condF (by simp [q, hn2]) ?_
    clear q
    (repeat refine AWp.seq ?_); refine AWp.region noP (by kernel_rfl) ?_
    simp [hF.s10]
    refine ⟨hF.puts, ?_⟩
    by_cases hn3 : op = 3 <;> simp [*]
  clear hF
  rintro st ⟨hF, q⟩
  by_cases hc : op = 2 ∨ op = 3
  · (repeat refine AWp.seq ?_); refine AWp.condT (by rw [eval_tmp, q]; simp [hc]) ?_
    (repeat refine AWp.seq ?_); refine AWp.region noP (by kernel_rfl) ?_
    simp [hF.s10, hF.s4, hF.s1, hF.s2, hF.s3]
    by_cases hg0 : 0 ≤ a <;> by_cases hg1 : a < z
    all_goals
      simp [hF.s10, hF.s4, hF.s1, hF.s2, hF.s3, hg0, hg1]
      refine AWp.ret (post_ret1 rfl ?_)
      simp
      unfold insOkP
      try simp [inR] at hg0
      try simp [inR] at hg1
      try simp [inR] at hg2
      omega
  (repeat refine AWp.seq ?_); refine AWp.condF (by rw [eval_tmp, q]; simp [hc]) ?_
  have k21 := hc
  clear hc q
  refine AWp.seq ?_
  refine AWp.cutA (fun st => InF op a b x y z st ∧ st.slots 38 = .bool (decide (op = 4 ∨ op = 5))) ?_ ?_
  · (repeat refine AWp.seq ?_); refine AWp.region noP (by kernel_rfl) ?_
    simp [hF.s10]
    refine AWp.gen (fun st => InF op a b x y z st ∧ st.slots 38 = .bool (decide (op = 4))) ⟨hF.puts, by simp; try rfl⟩ ?_
    clear hF
    rintro st ⟨hF, q⟩
    by_cases hn4 : op = 4
    · (repeat refine AWp.seq ?_); refine AWp.condT (by simp [q, hn4]) ?_
      refine AWp.skip ?_
      exact ⟨hF, by rw [q]; simp [hn4]⟩
    (repeat refine AWp.seq ?_); refine AWp.condF (by simp [q, hn4]) ?_
    clear q
    (repeat refine AWp.seq ?_); refine AWp.region noP (by kernel_rfl) ?_
    simp [hF.s10]
    refine ⟨hF.puts, ?_⟩
    by_cases hn5 : op = 5 <;> simp [*]
  clear hF
  rintro st ⟨hF, q⟩
  by_cases hc : op = 4 ∨ op = 5
  · (repeat refine AWp.seq ?_); refine AWp.condT (by rw [eval_tmp, q]; simp [hc]) ?_
    have hw : 0 ≤ a → IntKind.wrap .i64 (y - a) = y - a := fun h => wrap64 (by omega) (by omega)
    (repeat refine AWp.seq ?_); refine AWp.region noP (by kernel_rfl) ?_
    simp [hF.s10, hF.s4, hF.s1, hF.s2, hF.s3, hw]
    refine aop_call _ _ _ _ _ _ _ _ (c_l1In b 1 16) ?_
    by_cases hg0 : inR b 1 16 = true <;> by_cases hg1 : 0 ≤ a <;> by_cases hg2 : a < y
    all_goals
      simp [hF.s10, hF.s4, hF.s1, hF.s2, hF.s3, hw, hg0, hg1, hg2]
      refine AWp.ret (post_ret1 rfl ?_)
      simp
      unfold insOkP
      try simp [inR] at hg0
      try simp [inR] at hg1
      try simp [inR] at hg2
      omega
  (repeat refine AWp.seq ?_); refine AWp.condF (by rw [eval_tmp, q]; simp [hc]) ?_
  have k38 := hc
  clear hc q
  refine AWp.seq ?_
  refine AWp.cutA (fun st => InF op a b x y z st ∧ st.slots 64 = .bool (decide (op = 6 ∨ op = 7 ∨ op = 17 ∨ op = 18))) ?_ ?_
  · (repeat refine AWp.seq ?_); refine AWp.region noP (by kernel_rfl) ?_
    simp [hF.s10]
    refine AWp.gen (fun st => InF op a b x y z st ∧ st.slots 64 = .bool (decide (op = 6))) ⟨hF.puts, by simp; try rfl⟩ ?_
    clear hF
    rintro st ⟨hF, q⟩
    by_cases hn6 : op = 6
    · (repeat refine AWp.seq ?_); refine AWp.condT (by simp [q, hn6]) ?_
      refine AWp.skip ?_
      exact ⟨hF, by rw [q]; simp [hn6]⟩
    (repeat refine AWp.seq ?_); refine AWp.condF (by simp [q, hn6]) ?_
    clear q
    (repeat refine AWp.seq ?_); refine AWp.region noP (by kernel_rfl) ?_
    simp [hF.s10]
    refine AWp.gen (fun st => InF op a b x y z st ∧ st.slots 64 = .bool (decide (op = 7))) ⟨hF.puts, by simp; try rfl⟩ ?_
    clear hF
    rintro st ⟨hF, q⟩
    by_cases hn7 : op = 7
    · (repeat refine AWp.seq ?_); refine AWp.condT (by simp [q, hn7]) ?_
      refine AWp.skip ?_
      exact ⟨hF, by rw [q]; simp [hn7]⟩
    (repeat refine AWp.seq ?_); refine AWp.condF (by simp [q, hn7]) ?_
    clear q
    (repeat refine AWp.seq ?_); refine AWp.region noP (by kernel_rfl) ?_
    simp [hF.s10]
    refine AWp.gen (fun st => InF op a b x y z st ∧ st.slots 64 = .bool (decide (op = 17))) ⟨hF.puts, by simp; try rfl⟩ ?_
    clear hF
    rintro st ⟨hF, q⟩
    by_cases hn17 : op = 17
    · (repeat refine AWp.seq ?_); refine AWp.condT (by simp [q, hn17]) ?_
      refine AWp.skip ?_
      exact ⟨hF, by rw [q]; simp [hn17]⟩
    (repeat refine AWp.seq ?_); refine AWp.condF (by simp [q, hn17]) ?_
    clear q
    (repeat refine AWp.seq ?_); refine AWp.region noP (by kernel_rfl) ?_
    simp [hF.s10]
    refine ⟨hF.puts, ?_⟩
    by_cases hn18 : op = 18 <;> simp [*]
  clear hF
  rintro st ⟨hF, q⟩
  by_cases hc : op = 6 ∨ op = 7 ∨ op = 17 ∨ op = 18
  · (repeat refine AWp.seq ?_); refine AWp.condT (by rw [eval_tmp, q]; simp [hc]) ?_
    (repeat refine AWp.seq ?_); refine AWp.region noP (by kernel_rfl) ?_
    simp [hF.s10, hF.s4, hF.s1, hF.s2, hF.s3]
    by_cases hg0 : 0 ≤ a <;> by_cases hg1 : a < y
    all_goals
      simp [hF.s10, hF.s4, hF.s1, hF.s2, hF.s3, hg0, hg1]
      refine AWp.ret (post_ret1 rfl ?_)
      simp
      unfold insOkP
      try simp [inR] at hg0
      try simp [inR] at hg1
      try simp [inR] at hg2
      omega
  (repeat refine AWp.seq ?_); refine AWp.condF (by rw [eval_tmp, q]; simp [hc]) ?_
  have k64 := hc
  clear hc q
  refine AWp.seq ?_
  refine AWp.cutA (fun st => InF op a b x y z st ∧ st.slots 83 = .bool (decide (op = 13 ∨ op = 14))) ?_ ?_
  · (repeat refine AWp.seq ?_); refine AWp.region noP (by kernel_rfl) ?_
    simp [hF.s10]
    refine AWp.gen (fun st => InF op a b x y z st ∧ st.slots 83 = .bool (decide (op = 13))) ⟨hF.puts, by simp; try rfl⟩ ?_
    clear hF
    rintro st ⟨hF, q⟩
    by_cases hn13 : op = 13
    · (repeat refine AWp.seq ?_); refine AWp.condT (by simp [q, hn13]) ?_
      refine AWp.skip ?_
      exact ⟨hF, by rw [q]; simp [hn13]⟩
    (repeat refine AWp.seq ?_); refine AWp.condF (by simp [q, hn13]) ?_
    clear q
    (repeat refine AWp.seq ?_); refine AWp.region noP (by kernel_rfl) ?_
    simp [hF.s10]
    refine ⟨hF.puts, ?_⟩
    by_cases hn14 : op = 14 <;> simp [*]
  clear hF
  rintro st ⟨hF, q⟩
  by_cases hc : op = 13 ∨ op = 14
  · (repeat refine AWp.seq ?_); refine AWp.condT (by rw [eval_tmp, q]; simp [hc]) ?_
    (repeat refine AWp.seq ?_); refine AWp.region noP (by kernel_rfl) ?_
    simp [hF.s10, hF.s4, hF.s1, hF.s2, hF.s3]
    by_cases hg0 : 0 ≤ a <;> by_cases hg1 : a < x
    all_goals
      simp [hF.s10, hF.s4, hF.s1, hF.s2, hF.s3, hg0, hg1]
      refine AWp.ret (post_ret1 rfl ?_)
      simp
      unfold insOkP
      try simp [inR] at hg0
      try simp [inR] at hg1
      try simp [inR] at hg2
      omega
  (repeat refine AWp.seq ?_); refine AWp.condF (by rw [eval_tmp, q]; simp [hc]) ?_
  have k83 := hc
  clear hc q
  refine AWp.seq ?_
  refine AWp.cutA (fun st => InF op a b x y z st ∧ st.slots 100 = .bool (decide (op = 8 ∨ op = 9 ∨ op = 10 ∨ op = 11 ∨ op = 12 ∨ op = 15 ∨ op = 16 ∨ op = 19))) ?_ ?_
  · (repeat refine AWp.seq ?_); refine AWp.region noP (by kernel_rfl) ?_
    simp [hF.s10]
    refine AWp.gen (fun st => InF op a b x y z st ∧ st.slots 100 = .bool (decide (op = 8))) ⟨hF.puts, by simp; try rfl⟩ ?_
    clear hF
    rintro st ⟨hF, q⟩
    by_cases hn8 : op = 8
    · (repeat refine AWp.seq ?_); refine AWp.condT (by simp [q, hn8]) ?_
      refine AWp.skip ?_
      exact ⟨hF, by rw [q]; simp [hn8]⟩
    (repeat refine AWp.seq ?_); refine AWp.condF (by simp [q, hn8]) ?_
    clear q
    (repeat refine AWp.seq ?_); refine AWp.region noP (by kernel_rfl) ?_
    simp [hF.s10]
    refine AWp.gen (fun st => InF op a b x y z st ∧ st.slots 100 = .bool (decide (op = 9))) ⟨hF.puts, by simp; try rfl⟩ ?_
    clear hF
    rintro st ⟨hF, q⟩
    by_cases hn9 : op = 9
    · (repeat refine AWp.seq ?_); refine AWp.condT (by simp [q, hn9]) ?_
      refine AWp.skip ?_
      exact ⟨hF, by rw [q]; simp [hn9]⟩
    (repeat refine AWp.seq ?_); refine AWp.condF (by simp [q, hn9]) ?_
    clear q
    (repeat refine AWp.seq ?_); refine AWp.region noP (by kernel_rfl) ?_
    simp [hF.s10]
    refine AWp.gen (fun st => InF op a b x y z st ∧ st.slots 100 = .bool (decide (op = 10))) ⟨hF.puts, by simp; try rfl⟩ ?_
    clear hF
    rintro st ⟨hF, q⟩
    by_cases hn10 : op = 10
    · (repeat refine AWp.seq ?_); refine AWp.condT (by simp [q, hn10]) ?_
      refine AWp.skip ?_
      exact ⟨hF, by rw [q]; simp [hn10]⟩
    (repeat refine AWp.seq ?_); refine AWp.condF (by simp [q, hn10]) ?_
    clear q
    (repeat refine AWp.seq ?_); refine AWp.region noP (by kernel_rfl) ?_
    simp [hF.s10]
    refine AWp.gen (fun st => InF op a b x y z st ∧ st.slots 100 = .bool (decide (op = 11))) ⟨hF.puts, by simp; try rfl⟩ ?_
    clear hF
    rintro st ⟨hF, q⟩
    by_cases hn11 : op = 11
    · (repeat refine AWp.seq ?_); refine AWp.condT (by simp [q, hn11]) ?_
      refine AWp.skip ?_
      exact ⟨hF, by rw [q]; simp [hn11]⟩
    (repeat refine AWp.seq ?_); refine AWp.condF (by simp [q, hn11]) ?_
    clear q
    (repeat refine AWp.seq ?_); refine AWp.region noP (by kernel_rfl) ?_
    simp [hF.s10]
    refine AWp.gen (fun st => InF op a b x y z st ∧ st.slots 100 = .bool (decide (op = 12))) ⟨hF.puts, by simp; try rfl⟩ ?_
    clear hF
    rintro st ⟨hF, q⟩
    by_cases hn12 : op = 12
    · (repeat refine AWp.seq ?_); refine AWp.condT (by simp [q, hn12]) ?_
      refine AWp.skip ?_
      exact ⟨hF, by rw [q]; simp [hn12]⟩
    (repeat refine AWp.seq ?_); refine AWp.condF (by simp [q, hn12]) ?_
    clear q
    (repeat refine AWp.seq ?_); refine AWp.region noP (by kernel_rfl) ?_
    simp [hF.s10]
    refine AWp.gen (fun st => InF op a b x y z st ∧ st.slots 100 = .bool (decide (op = 15))) ⟨hF.puts, by simp; try rfl⟩ ?_
    clear hF
    rintro st ⟨hF, q⟩
    by_cases hn15 : op = 15
    · (repeat refine AWp.seq ?_); refine AWp.condT (by simp [q, hn15]) ?_
      refine AWp.skip ?_
      exact ⟨hF, by rw [q]; simp [hn15]⟩
    (repeat refine AWp.seq ?_); refine AWp.condF (by simp [q, hn15]) ?_
    clear q
    (repeat refine AWp.seq ?_); refine AWp.region noP (by kernel_rfl) ?_
    simp [hF.s10]
    refine AWp.gen (fun st => InF op a b x y z st ∧ st.slots 100 = .bool (decide (op = 16))) ⟨hF.puts, by simp; try rfl⟩ ?_
    clear hF
    rintro st ⟨hF, q⟩
    by_cases hn16 : op = 16
    · (repeat refine AWp.seq ?_); refine AWp.condT (by simp [q, hn16]) ?_
      refine AWp.skip ?_
      exact ⟨hF, by rw [q]; simp [hn16]⟩
    (repeat refine AWp.seq ?_); refine AWp.condF (by simp [q, hn16]) ?_
    clear q
    (repeat refine AWp.seq ?_); refine AWp.region noP (by kernel_rfl) ?_
    simp [hF.s10]
    refine ⟨hF.puts, ?_⟩
    by_cases hn19 : op = 19 <;> simp [*]
  clear hF
  rintro st ⟨hF, q⟩
  by_cases hc : op = 8 ∨ op = 9 ∨ op = 10 ∨ op = 11 ∨ op = 12 ∨ op = 15 ∨ op = 16 ∨ op = 19
  · (repeat refine AWp.seq ?_); refine AWp.condT (by rw [eval_tmp, q]; simp [hc]) ?_
    (repeat refine AWp.seq ?_); refine AWp.region noP (by kernel_rfl) ?_
    simp [hF.s10, hF.s4, hF.s1, hF.s2, hF.s3]
    by_cases hg0 : a = 0
    all_goals
      simp [hF.s10, hF.s4, hF.s1, hF.s2, hF.s3, hg0]
      refine AWp.ret (post_ret1 rfl ?_)
      simp
      unfold insOkP
      try simp [inR] at hg0
      try simp [inR] at hg1
      try simp [inR] at hg2
      omega
  (repeat refine AWp.seq ?_); refine AWp.condF (by rw [eval_tmp, q]; simp [hc]) ?_
  have k100 := hc
  clear hc q
  refine AWp.skip ?_
  try simp
  (repeat refine AWp.seq ?_); refine AWp.region noP (by kernel_rfl) ?_
  simp
  refine AWp.ret (post_ret1 rfl ?_)
  simp
  unfold insOkP
  try simp [inR] at hg0
  try simp [inR] at hg1
  try simp [inR] at hg2
  omega
end Go.T
namespace Go.T
open Go Go.Proofs
set_option maxRecDepth 10000
set_option maxHeartbeats 1000000
set_option linter.unusedSimpArgs false
set_option linter.unusedVariables false
open Go Go.Sort
abbrev I3 := Int × Int × Int
def iav (t : I3) : AV := .agg (insA t.1 t.2.1 t.2.2)
def okAll (L : List I3) (x y z : Int) : Bool := L.all fun t => decide (insOkP t.1 t.2.1 t.2.2 x y z)
def lastOp (L : List I3) : Int := (L.getD (L.length - 1) (0, 0, 0)).1
def codeOk (L : List I3) (y z : Int) : Bool := decide (1 ≤ L.length) && decide (lastOp L = 19) && okAll L L.length y z
theorem okAll_drop (L : List I3) (x y z : Int) (i : Nat) (h : i < L.length) : okAll (L.drop i) x y z = (decide (insOkP L[i].1 L[i].2.1 L[i].2.2 x y z) && okAll (L.drop (i + 1)) x y z) := by
  unfold okAll
  rw [List.drop_eq_getElem_cons h, List.all_cons]
theorem iav_idx (L : List I3) (f : Bool) (m : Mem) (i : Nat) (h : i < L.length) : idxA Tryd.prog m 32 (.lst f 3 (L.map iav)) (.int .i64 i) = some (.ref [.int .i64 L[i].1, .int .i64 L[i].2.1, .int .i64 L[i].2.2]) :=
  idx (y := iav L[i]) es_32 (by simp [List.getElem?_eq_getElem h])
theorem lastOp_at {L : List I3} (h : L.length ≠ 0) : lastOp L = (L[L.length - 1]'(by omega)).1 := by
  unfold lastOp
  rw [List.getD_eq_getElem?_getD, List.getElem?_eq_getElem (by omega)]
  rfl
theorem c_impl_CodeOk (L : List I3) (hL : L.length ≤ 1000) (y z : Int) (hy : -1 ≤ y ∧ y ≤ 1000000) (hz : -1 ≤ z ∧ z ≤ 1000000) : PCall Tryd.prog 14 [.lst false 3 (L.map iav), .int .i64 y, .int .i64 z] (.bool (codeOk L y z)) := by
  refine pcall_of Tryd.func14 (by kernel_rfl) rfl (by simp [Tryd.f14]) ?_
  (repeat refine AWp.seq ?_); refine AWp.region noP (by kernel_rfl) ?_
  simp
  by_cases h0 : L.length = 0
  · have hn : L = [] := List.eq_nil_of_length_eq_zero h0
    subst hn
    (repeat refine AWp.seq ?_); refine AWp.region noP (by kernel_rfl) ?_
    simp
    refine aop_call _ _ _ _ _ _ _ _ (c_inRange 0 1 4000) ?_
    simp [inR]
    (repeat refine AWp.seq ?_); refine AWp.condT (by simp) ?_
    (repeat refine AWp.seq ?_); refine AWp.region noP (by kernel_rfl) ?_
    simp
    exact AWp.ret (post_ret1 rfl (by simp [codeOk]))
  have hw0 : IntKind.wrap .i64 ((L.length : Int) - 1) = ((L.length - 1 : Nat) : Int) := by rw [wrap64 (by omega) (by omega)]; omega
  have hx0 := fun m => iav_idx L false m (L.length - 1) (by omega)
  have hl0 := lastOp_at h0
  (repeat refine AWp.seq ?_); refine AWp.region noP (by kernel_rfl) ?_
  simp
  refine aop_call _ _ _ _ _ _ _ _ (c_inRange L.length 1 4000) ?_
  have hin : inR L.length 1 4000 = true := by simp [inR]; omega
  simp [hin, hw0, hx0, ← hl0]
  by_cases h19 : ¬ lastOp L = 19
  · (repeat refine AWp.seq ?_); refine AWp.condT (by simp [h19]) ?_
    (repeat refine AWp.seq ?_); refine AWp.region noP (by kernel_rfl) ?_
    simp
    exact AWp.ret (post_ret1 rfl (by simp [codeOk, h19]))
  have h19 : lastOp L = 19 := Decidable.byContradiction h19
  (repeat refine AWp.seq ?_); refine AWp.condF (by simp [h19]) ?_
  refine AWp.skip ?_
  try simp
  (repeat refine AWp.seq ?_); refine AWp.region noP (by kernel_rfl) ?_
  simp
  refine AWp.cutA (fun st => okAll L L.length y z = true) ?_ ?_
  · refine AWp.block (AWp.rounds (fun k st => ∃ i : Nat, k = L.length - i ∧ i ≤ L.length ∧ okAll L L.length y z = okAll (L.drop i) L.length y z ∧ st.slots 0 = .lst false 3 (L.map iav) ∧ st.slots 1 = .int .i64 y ∧ st.slots 2 = .int .i64 z ∧ st.slots 23 = .lst false 3 (L.map iav) ∧ st.slots 24 = .int .i64 L.length ∧ st.slots 25 = .int .i64 i) L.length ⟨0, by simp, by simp, by simp, by simp, by simp, by simp, by simp, by simp, by simp⟩ ?_)
    rintro RR k st hR ⟨i, rfl, hi, hr, s0, s1, s2, s23, s24, s25⟩
    by_cases hb : i < L.length
    · (repeat refine AWp.seq ?_); refine AWp.region noP (by kernel_rfl) ?_
      simp [s24, s25, hb]
      (repeat refine AWp.seq ?_); refine AWp.condT (by simp) ?_
      refine AWp.skip ?_
      try simp
      have hd := okAll_drop L L.length y z i hb
      have hx := fun m => iav_idx L false m i hb
      have hw : IntKind.wrap .i64 ((i : Int) + 1) = (i + 1 : Nat) := wrap64 (by omega) (by omega)
      (repeat refine AWp.seq ?_); refine AWp.block ?_
      (repeat refine AWp.seq ?_); refine AWp.region noP (by kernel_rfl) ?_
      simp [s23, s25, hx]
      intro g hg
      (repeat refine AWp.seq ?_); refine AWp.region noP (by kernel_rfl) ?_
      simp [set_at, s0, s1, s2]
      have c := c_impl_InsOk L[i].1 L[i].2.1 L[i].2.2 L.length y z (by omega) hy hz
      unfold insA at c
      refine aop_call _ _ _ _ _ _ _ _ c ?_
      simp
      by_cases hok : insOkP L[i].1 L[i].2.1 L[i].2.2 L.length y z
      · (repeat refine AWp.seq ?_); refine AWp.condF (by simp [hok]) ?_
        refine AWp.skip ?_
        try simp
        (repeat refine AWp.seq ?_); refine AWp.region noP (by kernel_rfl) ?_
        simp [s25, hw]
        exact hR _ (L.length - (i + 1)) (by omega) ⟨i + 1, rfl, by omega, by rw [hr, hd]; simp [hok], by simp [s0], by simp [s1], by simp [s2], by simp [s23], by simp [s24], by simp⟩
      · (repeat refine AWp.seq ?_); refine AWp.condT (by simp [hok]) ?_
        (repeat refine AWp.seq ?_); refine AWp.region noP (by kernel_rfl) ?_
        simp
        exact AWp.ret (post_ret1 rfl (by simp [codeOk, hr, hd, hok]))
    · have : i = L.length := by omega
      subst this
      (repeat refine AWp.seq ?_); refine AWp.region noP (by kernel_rfl) ?_
      simp [s24, s25]
      (repeat refine AWp.seq ?_); refine AWp.condF (by simp) ?_
      refine AWp.exit ?_
      have hall : okAll L L.length y z = true := by rw [hr]; simp [okAll]
      simp [hall]
  rintro st hall
  (repeat refine AWp.seq ?_); refine AWp.region noP (by kernel_rfl) ?_
  simp
  exact AWp.ret (post_ret1 rfl (by simp [codeOk, hall, h19]; omega))
theorem c_spec_CodeOk (L : List I3) (hL : L.length ≤ 1000) (hg : ∀ t ∈ L, in64 t.2.1) (y z : Int) (hy : -1 ≤ y ∧ y ≤ 1000000) (hz : -1 ≤ z ∧ z ≤ 1000000) : PCall Tryd.prog 15 [.lst false 3 (L.map iav), .int .i64 y, .int .i64 z] (.bool (codeOk L y z)) := by
  refine pcall_of Tryd.func15 (by kernel_rfl) rfl (by simp [Tryd.f15]) ?_
  (repeat refine AWp.seq ?_); refine AWp.region noP (by kernel_rfl) ?_
  simp
  (repeat refine AWp.seq ?_); refine AWp.region noP (by kernel_rfl) ?_
  simp
  refine AWp.cutA (fun st => okAll L L.length y z = true ∧ st.slots 0 = .lst false 3 (L.map iav)) ?_ ?_
  · refine AWp.block (AWp.rounds (fun k st => ∃ i : Nat, k = L.length - i ∧ i ≤ L.length ∧ okAll L L.length y z = okAll (L.drop i) L.length y z ∧ st.slots 0 = .lst false 3 (L.map iav) ∧ st.slots 1 = .int .i64 y ∧ st.slots 2 = .int .i64 z ∧ st.slots 7 = .int .i64 i) L.length ⟨0, by simp, by simp, by simp, by simp, by simp, by simp, by simp⟩ ?_)
    rintro RR k st hR ⟨i, rfl, hi, hr, s0, s1, s2, s7⟩
    by_cases hb : i < L.length
    · (repeat refine AWp.seq ?_); refine AWp.region noP (by kernel_rfl) ?_
      simp [s0, s7, hb]
      (repeat refine AWp.seq ?_); refine AWp.condT (by simp) ?_
      refine AWp.skip ?_
      try simp
      have hd := okAll_drop L L.length y z i hb
      have hx := fun m => iav_idx L false m i hb
      have hw : IntKind.wrap .i64 ((i : Int) + 1) = (i + 1 : Nat) := wrap64 (by omega) (by omega)
      (repeat refine AWp.seq ?_); refine AWp.block ?_
      (repeat refine AWp.seq ?_); refine AWp.region noP (by kernel_rfl) ?_
      simp [s0, s7, hx, s1, s2]
      have c := c_spec_InsOk L[i].1 L[i].2.1 L[i].2.2 L.length y z (hg _ (List.getElem_mem hb)) (by omega) hy hz
      unfold insA at c
      refine aop_call _ _ _ _ _ _ _ _ c ?_
      simp
      by_cases hok : insOkP L[i].1 L[i].2.1 L[i].2.2 L.length y z
      · (repeat refine AWp.seq ?_); refine AWp.condF (by simp [hok]) ?_
        refine AWp.skip ?_
        try simp
        (repeat refine AWp.seq ?_); refine AWp.region noP (by kernel_rfl) ?_
        simp [s7, hw]
        exact hR _ (L.length - (i + 1)) (by omega) ⟨i + 1, rfl, by omega, by rw [hr, hd]; simp [hok], by simp [s0], by simp [s1], by simp [s2], by simp⟩
      · (repeat refine AWp.seq ?_); refine AWp.condT (by simp [hok]) ?_
        (repeat refine AWp.seq ?_); refine AWp.region noP (by kernel_rfl) ?_
        simp
        exact AWp.ret (post_ret1 rfl (by simp [codeOk, hr, hd, hok]))
    · have : i = L.length := by omega
      subst this
      (repeat refine AWp.seq ?_); refine AWp.region noP (by kernel_rfl) ?_
      simp [s0, s7]
      (repeat refine AWp.seq ?_); refine AWp.condF (by simp) ?_
      refine AWp.exit ?_
      have hall : okAll L L.length y z = true := by rw [hr]; simp [okAll]
      simp [hall, s0]
  rintro st ⟨hall, s0⟩
  by_cases h0 : L.length = 0
  · have hn : L = [] := List.eq_nil_of_length_eq_zero h0
    subst hn
    (repeat refine AWp.seq ?_); refine AWp.region noP (by kernel_rfl) ?_
    simp [s0]
    refine aop_call _ _ _ _ _ _ _ _ (c_l1In 0 1 4000) ?_
    simp [inR]
    exact AWp.ret (post_ret1 rfl (by simp [codeOk]))
  have hw0 : IntKind.wrap .i64 ((L.length : Int) - 1) = ((L.length - 1 : Nat) : Int) := by rw [wrap64 (by omega) (by omega)]; omega
  have hx0 := fun m => iav_idx L false m (L.length - 1) (by omega)
  have hl0 := lastOp_at h0
  (repeat refine AWp.seq ?_); refine AWp.region noP (by kernel_rfl) ?_
  simp [s0]
  refine aop_call _ _ _ _ _ _ _ _ (c_l1In L.length 1 4000) ?_
  have hin : inR L.length 1 4000 = true := by simp [inR]; omega
  simp [s0, hin, hw0, hx0, ← hl0]
  exact AWp.ret (post_ret1 rfl (by simp [codeOk, hall]; omega))
end Go.T
namespace Go.T
open Go Go.Proofs
set_option maxRecDepth 10000
set_option maxHeartbeats 1000000
set_option linter.unusedSimpArgs false
set_option linter.unusedVariables false
open Go Go.Sort
theorem View.tup3 {m m' : Mem} {v v' a b : AV} (h : View m v m' v') : View m (.tup [v, a, b]) m' (.tup [v', a, b]) := fun w S u h1 h2 => by
  cases h2 with
  | tup h2 =>
  cases h2 with
  | cons hv ht =>
  obtain ⟨S', k1, k2, k3, k4, k5⟩ := h w S _ h1 hv
  exact ⟨S', k1, k2, k3, .tup (.cons k4 (ht.mono (fun _ _ => rfl) k1)), k5⟩
theorem gr_cur {T : TypeId} {e : Nat} {m m1 m2 : Mem} {xs : List AV} {v : AV} {l : List Int} {g : Nat} (h : Gr T e m xs v m1) (hg : m g = none) (hc : Cur l g m1) (ho : ∀ k, k ≠ g → m2 k = m1 k) : Gr T e m xs v m2 := by
  obtain ⟨hE, h⟩ := h
  refine ⟨ext_cur hg hE ho, h.imp id ?_⟩
  rintro ⟨g', c, h1, h2, h3⟩
  refine ⟨g', c, h1, ?_, h3⟩
  rw [ho]
  · exact h2
  · rintro rfl
    obtain ⟨i, h, _, _, hc⟩ := hc
    rw [hc] at h2
    cases h2
theorem cur_box {l : List Int} {g : Nat} {m m' : Mem} (h : Cur l g m) (hB : ∀ g cs, m g = some (.box cs) → m' g = some (.box cs)) : Cur l g m' := by
  obtain ⟨i, h1, c1, c2, c3⟩ := h
  exact ⟨i, h1, c1, c2, hB _ _ c3⟩
/-- Code that grows beside a cursor. -/
structure Cd (l : List Int) (g : Nat) (m : Mem) (L : List I3) (st : St) : Prop where
  s5 : st.slots 5 = .ptr g 0
  gr : Gr 25 3 m (L.map iav) (st.slots 6) st.mem
  cur : Cur l g st.mem
  good : ∀ t ∈ L, insGood t.1 t.2.1 t.2.2
theorem Cd.next {l : List Int} {g : Nat} {m : Mem} {L : List I3} {st : St} (h : Cd l g m L st) (hg : m g = none) {m2 : Mem} (hc : Cur l g m2) (ho : ∀ k, k ≠ g → m2 k = st.mem k) {st' : St} (s5 : st'.slots 5 = st.slots 5) (s6 : st'.slots 6 = st.slots 6) (hm : st'.mem = m2) : Cd l g m L st' :=
  ⟨s5.trans h.s5, by rw [s6, hm]; exact gr_cur h.gr hg h.cur ho, by rw [hm]; exact hc, h.good⟩
theorem Cd.app {l : List Int} {g : Nat} {m : Mem} {L : List I3} {v : AV} {m2 : Mem} (hG : Gr 25 3 m (L.map iav) v m2) (hc : Cur l g m2) (hgd : ∀ t ∈ L, insGood t.1 t.2.1 t.2.2) (hL : L.length ≤ 1000) {op a b : Int} (h1 : insGood op a b) {k : AV → Mem → Prop}
    (hk : ∀ v' m', Gr 25 3 m ((L ++ [(op, a, b)]).map iav) v' m' → Cur l g m' → (∀ t ∈ L ++ [(op, a, b)], insGood t.1 t.2.1 t.2.2) → k v' m') : appendW Tryd.prog m2 k #[32, 32] v (.lst true 3 [.agg [.int .i64 op, .int .i64 a, .int .i64 b]]) := by
  refine Gr.app et_32 hG (ys := [iav (op, a, b)]) rfl (by intro y hy; simp at hy; subst hy; rfl) (by simp; omega) fun v' m' h2 h3 => hk v' m' (by simpa using h2) (cur_box hc h3) ?_
  intro t ht
  rcases List.mem_append.1 ht with ht | ht
  · exact hgd t ht
  · simp at ht; subst ht; exact h1
theorem c_DrawCodeOk (l : List Int) (hl : byOk l) {m : Mem} {K : AV → Mem → Prop} (hK : ∀ L : List I3, L.length ≤ 100 → (∀ t ∈ L, insGood t.1 t.2.1 t.2.2) → K (.tup [.lst false 3 (L.map iav), .int .i64 20, .int .i64 8]) m) : WCall Tryd.prog 10 [bys l] m K := by
  refine wcall_of Tryd.func10 (by kernel_rfl) rfl (by simp [Tryd.f10]) ?_
  (repeat refine AWp.seq ?_); refine AWp.region noP (by kernel_rfl) ?_
  simp
  (repeat refine AWp.seq ?_); refine AWp.region noP (by kernel_rfl) ?_
  simp
  refine aop_wcall _ _ _ _ _ _ _ _ rfl (eval_func _ _) ?_
  try simp
  refine c_l1New l hl fun g m1 hg hc hE => ?_
  try simp
  (repeat refine AWp.seq ?_); refine AWp.region noP (by kernel_rfl) ?_
  simp [literalA]
  try simp
  (repeat refine AWp.seq ?_); refine AWp.region noP (by kernel_rfl) ?_
  simp
  refine aop_wcall _ _ _ _ _ _ _ _ rfl (eval_func _ _) ?_
  try simp
  refine c_l1Below hl hc 6 (by omega) fun x m2 x0 x1 hc2 ho2 => ?_
  obtain ⟨n, rfl⟩ := Int.eq_ofNat_of_zero_le x0
  try simp
  refine AWp.gen (fun st => Cd l g m [] st ∧ st.slots 7 = .int .i64 n) ⟨⟨by simp, ?_, by simpa using hc2, by simp⟩, by simp⟩ ?_
  · exact ⟨ext_cur hg hE (fun k hk => by simpa using ho2 k hk), .inl ⟨rfl, _, by simp; try rfl⟩⟩
  clear hc hE hc2 ho2
  rintro st ⟨hC, s7⟩
  refine AWp.cutA (fun st => ∃ L : List I3, L.length ≤ 6 ∧ Cd l g m L st) ?_ ?_
  · refine AWp.block (AWp.rounds (fun k st => ∃ (i : Nat) (L : List I3), k = i ∧ L.length + i = n ∧ Cd l g m L st ∧ st.slots 7 = .int .i64 i) n ⟨n, [], rfl, by simp, hC, s7⟩ ?_)
    clear hC s7
    rintro RR k st hR ⟨i, L, rfl, hi, hC, s7⟩
    by_cases hb : 0 < k
    · have hw : IntKind.wrap .i64 ((k : Int) - 1) = ((k - 1 : Nat) : Int) := by rw [wrap64 (by omega) (by omega)]; omega
      (repeat refine AWp.seq ?_); refine AWp.region noP (by kernel_rfl) ?_
      simp [s7, hb]
      (repeat refine AWp.seq ?_); refine AWp.condT (by simp) ?_
      refine AWp.skip ?_
      try simp
      (repeat refine AWp.seq ?_); refine AWp.block ?_
      (repeat refine AWp.seq ?_); refine AWp.region noP (by kernel_rfl) ?_
      simp [hC.s5]
      refine aop_wcall _ _ _ _ _ _ _ _ rfl (eval_func _ _) ?_
      try simp
      refine c_l16Draw hl hC.cur fun op a b m3 hgd hc3 ho3 => ?_
      unfold insA
      try simp [literalA]
      refine Cd.app (gr_cur hC.gr hg hC.cur ho3) hc3 hC.good (by omega) (op := op) (a := a) (b := b) ⟨by omega, by unfold in64; omega, by unfold in64; omega⟩ fun v' m' hG' hc' hgd' => ?_
      try simp
      refine AWp.gen (fun st => Cd l g m (L ++ [(op, a, b)]) st ∧ st.slots 7 = .int .i64 k) ⟨⟨by simp [hC.s5], by simpa using hG', by simpa using hc', hgd'⟩, by simp [s7]⟩ ?_
      clear hC s7
      rintro st ⟨hC, s7⟩
      (repeat refine AWp.seq ?_); refine AWp.region noP (by kernel_rfl) ?_
      simp [s7, hw]
      exact hR _ (k - 1) (by omega) ⟨k - 1, L ++ [(op, a, b)], rfl, by simp; omega, ⟨by simp [hC.s5], by simpa using hC.gr, by simpa using hC.cur, hC.good⟩, by simp⟩
    · have : k = 0 := by omega
      subst this
      (repeat refine AWp.seq ?_); refine AWp.region noP (by kernel_rfl) ?_
      simp [s7]
      (repeat refine AWp.seq ?_); refine AWp.condF (by simp) ?_
      refine AWp.exit ?_
      exact ⟨L, by omega, ⟨by simp [hC.s5], by simpa using hC.gr, by simpa using hC.cur, hC.good⟩⟩
  clear hC s7
  rintro st ⟨L, hL, hC⟩
  (repeat refine AWp.seq ?_); refine AWp.region noP (by kernel_rfl) ?_
  simp [hC.s5]
  refine aop_wcall _ _ _ _ _ _ _ _ rfl (eval_func _ _) ?_
  try simp
  refine c_l1Once hl hC.cur 4 (by omega) fun b m3 hc3 ho3 => ?_
  try simp
  refine AWp.gen (fun st => Cd l g m L st ∧ st.slots 24 = .bool (!b)) ⟨hC.next hg hc3 ho3 (by simp) (by simp) (by simp), by simp⟩ ?_
  clear hC hc3 ho3
  rintro st ⟨hC, s24⟩
  refine AWp.cutA (fun st => ∃ L : List I3, L.length ≤ 7 ∧ Cd l g m L st) ?_ ?_
  · cases b
    · refine AWp.condT (by simp [s24]) ?_
      (repeat refine AWp.seq ?_); refine AWp.region noP (by kernel_rfl) ?_
      simp [literalA]
      try simp
      refine Cd.app hC.gr hC.cur hC.good (by omega) (op := 19) (a := 0) (b := 0) ⟨by omega, by unfold in64; omega, by unfold in64; omega⟩ fun v' m' hG' hc' hgd' => ?_
      try simp
      exact ⟨L ++ [(19, 0, 0)], by simp; omega, ⟨by simp [hC.s5], by simpa using hG', by simpa using hc', hgd'⟩⟩
    · refine AWp.condF (by simp [s24]) ?_
      refine AWp.skip ?_
      exact ⟨L, by omega, hC⟩
  clear hC s24 hL L
  rintro st ⟨L, hL, hC⟩
  (repeat refine AWp.seq ?_); refine AWp.region noP (by kernel_rfl) ?_
  simp [hC.s5]
  refine aop_wcall _ _ _ _ _ _ _ _ rfl (eval_func _ _) ?_
  try simp
  refine c_l1Once hl hC.cur 6 (by omega) fun b m3 hc3 ho3 => ?_
  try simp
  refine AWp.gen (fun st => Cd l g m L st ∧ st.slots 30 = .bool b) ⟨hC.next hg hc3 ho3 (by simp) (by simp) (by simp), by simp⟩ ?_
  clear hC hc3 ho3
  rintro st ⟨hC, s30⟩
  refine AWp.cutA (fun st => ∃ L : List I3, L.length ≤ 8 ∧ Cd l g m L st) ?_ ?_
  · cases b
    · refine AWp.condF (by simp [s30]) ?_
      refine AWp.skip ?_
      exact ⟨L, by omega, hC⟩
    · refine AWp.condT (by simp [s30]) ?_
      (repeat refine AWp.seq ?_); refine AWp.region noP (by kernel_rfl) ?_
      simp [hC.s5]
      refine aop_wcall _ _ _ _ _ _ _ _ rfl (eval_func _ _) ?_
      try simp
      refine c_l16Any hl hC.cur fun op a b m3 hgd hc3 ho3 => ?_
      unfold insA
      try simp [literalA]
      refine Cd.app (gr_cur hC.gr hg hC.cur ho3) hc3 hC.good (by omega) (op := op) (a := a) (b := b) hgd fun v' m' hG' hc' hgd' => ?_
      try simp
      exact ⟨L ++ [(op, a, b)], by simp; omega, ⟨by simp [hC.s5], by simpa using hG', by simpa using hc', hgd'⟩⟩
  clear hC s30 hL L
  rintro st ⟨L, hL, hC⟩
  (repeat refine AWp.seq ?_); refine AWp.region noP (by kernel_rfl) ?_
  simp
  refine AWp.ret ⟨[st.slots 6, .int .i64 20, .int .i64 8], _, m, by simp [Tryd.f10, resA], View.tup3 (by simpa using hC.gr.view), hK L (by omega) hC.good⟩
end Go.T
namespace Go.T
open Go Go.Proofs
set_option maxRecDepth 10000
set_option maxHeartbeats 1000000
set_option linter.unusedSimpArgs false
set_option linter.unusedVariables false
open Go Go.Sort
section
open Go.RowKit Go.ChangeShapes
variable {H : Type} {enc : TypeId × Value → H} {W : World}
end
end Go.T
namespace Go.T
open Go Go.Proofs
set_option maxRecDepth 10000
set_option maxHeartbeats 1000000
set_option linter.unusedSimpArgs false
set_option linter.unusedVariables false
open Go Go.Sort
theorem insNm_pos {op : Int} (h0 : 1 ≤ op) (h1 : op ≤ 19) : 1 ≤ (insNm op).size := by
  have : ∀ x ∈ insNms, 1 ≤ x.size := by decide
  exact this _ (List.mem_of_getElem? (insNm_get h0 h1))
theorem insT_pos {op a b : Int} (h0 : 1 ≤ op) (h1 : op ≤ 19) : 1 ≤ (insT op a b).size := by
  have h := insNm_pos h0 h1
  unfold insT
  rw [if_pos ⟨h0, h1⟩]
  split
  · simp only [ByteArray.size_append]; omega
  · split
    · simp only [ByteArray.size_append]; omega
    · exact h
theorem toList_full {s : ByteArray} (h : 1 ≤ s.size) : s.toList.isEmpty = false := by
  rw [toList_eq]
  cases hs : toL s with
  | nil =>
    have h2 : (toL s).length = s.size := size_list s
    rw [hs] at h2
    simp only [List.length_nil] at h2
    omega
  | cons x xs => rfl
theorem insT_out {op a b : Int} (h : ¬ (1 ≤ op ∧ op ≤ 19)) : insT op a b = ⟨#[]⟩ := by
  unfold insT
  rw [if_neg h]
theorem codeOk_last {L : List I3} {y z : Int} (h : codeOk L y z = true) : L.length ≠ 0 ∧ lastOp L = 19 := by
  unfold codeOk at h
  simp only [Bool.and_eq_true, decide_eq_true_eq] at h
  exact ⟨by omega, h.1.2⟩
theorem c_FnInstructions (l : List Int) (hby : ∀ x ∈ l, 0 ≤ x ∧ x ≤ 255) (T : TypeId) : WCall Tryd.prog 4 [bys l] (tabMem TB T) fun r m' => r = .bool true ∧ m' TB = some (tabBlk T) := by
  have hm : tabMem TB T TB = some (tabBlk T) := by simp [tabMem]
  generalize tabMem TB T = m at *
  refine wcall_of Tryd.func4 (by kernel_rfl) rfl (by simp [Tryd.f4]) ?_
  (repeat refine AWp.seq ?_); refine AWp.region noP (by kernel_rfl) ?_
  try simp
  by_cases hlen : ¬ l.length ≤ 1048576
  · have cb := c_bigT l hlen
    (repeat refine AWp.seq ?_); refine AWp.region noP (by kernel_rfl) ?_
    try simp
    refine aop_call _ _ _ _ _ _ _ _ cb ?_
    try simp
    (repeat refine AWp.seq ?_); refine AWp.condT (by simp) ?_
    (repeat refine AWp.seq ?_); refine AWp.region noP (by kernel_rfl) ?_
    simp
    refine AWp.ret (post_retW rfl ⟨_, _, View.refl _ _, ?_⟩)
    simp
    exact hm
  have hl : byOk l := ⟨Decidable.byContradiction hlen, hby⟩
  have cb := c_big l hl
  (repeat refine AWp.seq ?_); refine AWp.region noP (by kernel_rfl) ?_
  try simp
  refine aop_call _ _ _ _ _ _ _ _ cb ?_
  try simp
  (repeat refine AWp.seq ?_); refine AWp.condF (by simp) ?_
  refine AWp.skip ?_
  try simp
  (repeat refine AWp.seq ?_); refine AWp.region noP (by kernel_rfl) ?_
  simp
  refine aop_wcall _ _ _ _ _ _ _ _ rfl (eval_func _ _) ?_
  try simp
  refine c_DrawInsOk l hl fun op a b x y z hgd hx hy hz => ?_
  unfold insA
  try simp
  intro gA hA
  have nA : TB ≠ gA := fun e => by rw [← e, hm] at hA; cases hA
  (repeat refine AWp.seq ?_); refine AWp.region noP (by kernel_rfl) ?_
  simp
  refine aop_wcall _ _ _ _ _ _ _ _ rfl (eval_func _ _) ?_
  try simp
  refine c_DrawCodeOk l hl fun L hL hLg => ?_
  try simp
  (repeat refine AWp.seq ?_); refine AWp.region noP (by kernel_rfl) ?_
  simp
  refine aop_wcall _ _ _ _ _ _ _ _ rfl (eval_func _ _) ?_
  try simp
  refine c_DrawInsText l hl fun op2 a2 b2 hgd2 => ?_
  unfold insA
  try simp
  intro gB hB
  have nAB : gB ≠ gA := fun e => by rw [e] at hB; simp [set_at] at hB
  have hB0 : m gB = none := by simpa [set_at, nAB] using hB
  have nB : TB ≠ gB := fun e => by rw [← e, hm] at hB0; cases hB0
  try simp [set_at]
  refine AWp.gen (fun st => st.slots 3 = .ptr gA 0 ∧ st.slots 10 = .ptr gB 0 ∧ st.slots 4 = .int .i64 x ∧ st.slots 5 = .int .i64 y ∧ st.slots 6 = .int .i64 z ∧ st.slots 7 = .lst false 3 (L.map iav) ∧ st.slots 8 = .int .i64 20 ∧ st.slots 9 = .int .i64 8 ∧ st.mem gA = some (.box [.int .i64 op, .int .i64 a, .int .i64 b]) ∧ st.mem gB = some (.box [.int .i64 op2, .int .i64 a2, .int .i64 b2]) ∧ st.mem TB = some (tabBlk T))
    ⟨by simp, by simp, by simp, by simp, by simp, by simp, by simp, by simp, by simp [set_at, Ne.symm nAB], by simp [set_at], by simp [set_at, nA, nB]; exact hm⟩ ?_
  clear hA hB hB0
  rintro st ⟨s3, s10, s4, s5, s6, s7, s8, s9, mA, mB, mT⟩
  refine AWp.sees (Sees.view (t := 3) (View.trans (by rw [s3]; exact View.freezeB mA) (View.refl _ _))) ?_
  refine AWp.sees (Sees.view (t := 10) (View.trans (by simp only [show ¬ (10 : Nat) = 3 by omega, if_false]; rw [s10]; exact View.freezeB (cs := [.int .i64 op2, .int .i64 a2, .int .i64 b2]) (by simp [Mem.del, nAB]; exact mB)) (View.refl _ _))) ?_
  refine AWp.gen (fun st => st.slots 3 = .ref [.int .i64 op, .int .i64 a, .int .i64 b] ∧ st.slots 10 = .ref [.int .i64 op2, .int .i64 a2, .int .i64 b2] ∧ st.slots 4 = .int .i64 x ∧ st.slots 5 = .int .i64 y ∧ st.slots 6 = .int .i64 z ∧ st.slots 7 = .lst false 3 (L.map iav) ∧ st.slots 8 = .int .i64 20 ∧ st.slots 9 = .int .i64 8 ∧ st.mem TB = some (tabBlk T))
    ⟨by simp, by simp, by simp [s4], by simp [s5], by simp [s6], by simp [s7], by simp [s8], by simp [s9], by simp [Mem.del, nA, nB]; exact mT⟩ ?_
  clear mA mB s3 s10 s4 s5 s6 s7 s8 s9 mT
  rintro st ⟨s3, s10, s4, s5, s6, s7, s8, s9, mT⟩
  have i1 := c_impl_InsOk op a b x y z (by omega) (by omega) (by omega)
  have i2 := c_spec_InsOk op a b x y z hgd.2.1 (by omega) (by omega) (by omega)
  have k1 := c_impl_CodeOk L (by omega) 20 8 (by omega) (by omega)
  have k2 := c_spec_CodeOk L (by omega) (fun t ht => (hLg t ht).2.1) 20 8 (by omega) (by omega)
  obtain ⟨ga, gb⟩ := hgd2.2
  unfold in64 at ga gb
  have t1 := fun K => @c_impl_InsText op2 a2 b2 ga.1 ga.2 gb.1 gb.2 T st.mem mT K
  have t2 := c_spec_InsText op2 a2 b2 ga.1 ga.2 gb.1 gb.2
  unfold insA at i1 i2 t1 t2
  (repeat refine AWp.seq ?_); refine AWp.regionG (fun i => i == 4 || i == 9 || i == 15 || i == 19 || i == 26 || i == 47) (fun i => i == 0 || i == 5 || i == 23 || i == 25 || i == 30 || i == 34 || i == 38 || i == 54 || i == 56) [0, 1, 2, 3, 4, 5, 6, 7, 8, 9, 10, 11, 12, 13, 14, 15, 16, 17, 18, 19, 20, 21, 22, 23, 25, 26, 24, 27, 28, 29, 30, 33, 34, 35, 36, 37, 38, 39, 40, 31, 32, 41, 42, 43, 44, 45, 46, 47, 48, 49, 50, 51, 52, 53, 54, 55, 56, 57, 58, 59, 60] [0, 1, 2, 3, 4, 5, 6, 7, 8, 9, 10, 11, 12, 13, 14, 15, 16, 17, 18, 19, 20, 21, 22, 23, 24, 25, 26, 27, 28, 29, 30, 31, 32, 33, 34, 35, 36, 37, 38, 39, 40, 41, 42, 43, 44, 45, 46, 47, 48, 49, 50, 51, 52, 53, 54, 55, 56, 57, 58, 59, 60] (by kernel_rfl) ?_
  simp [s3, s4, s5, s6]
  refine aop_call' i1 ?_
  simp [s3, s4, s5, s6]
  refine aop_call' i2 ?_
  simp [s7, s8, s9, binA, eqO, eqA, Tryd.underlying4]
  refine aop_call' k1 ?_
  simp [s7, s8, s9]
  refine aop_call' k2 ?_
  simp [s10, binA, eqO, eqA, Tryd.underlying4]
  refine aop_call' t2 ?_
  simp
  refine aop_wcall _ _ _ _ _ _ _ _ rfl (eval_func _ _) ?_
  try simp
  refine t1 _ ?_
  simp [binA, eqO, eqA, Tryd.underlying4]
  by_cases lo : op2 < 1
  · have he : insT op2 a2 b2 = ⟨#[]⟩ := insT_out (by omega)
    simp [s10, lo]
    refine aop_wcall _ _ _ _ _ _ _ _ rfl (eval_func _ _) ?_
    try simp
    refine t1 _ ?_
    simp [s7, s8, s9, binA, eqO, eqA, Tryd.underlying4, strA, he, lo]
    refine aop_call' k1 ?_
    by_cases hc : codeOk L 20 8 = true
    · obtain ⟨h0, h19⟩ := codeOk_last hc
      have hw0 : IntKind.wrap .i64 ((L.length : Int) - 1) = ((L.length - 1 : Nat) : Int) := by rw [wrap64 (by omega) (by omega)]; omega
      have hx0 := fun m => iav_idx L false m (L.length - 1) (by omega)
      have hl0 := lastOp_at h0
      simp [hc, s7, hw0, hx0, ← hl0, h19, binA, eqO, eqA, Tryd.underlying4]
      exact AWp.ret (post_retW rfl ⟨_, _, View.refl _ _, by simp; exact mT⟩)
    · simp [hc, binA, eqO, eqA, Tryd.underlying4]
      exact AWp.ret (post_retW rfl ⟨_, _, View.refl _ _, by simp; exact mT⟩)
  by_cases hi : op2 > 19
  · have he : insT op2 a2 b2 = ⟨#[]⟩ := insT_out (by omega)
    have hi2 : 19 < op2 := hi
    simp [s10, lo, hi2]
    refine aop_wcall _ _ _ _ _ _ _ _ rfl (eval_func _ _) ?_
    try simp
    refine t1 _ ?_
    simp [s7, s8, s9, binA, eqO, eqA, Tryd.underlying4, strA, he, lo, hi2]
    refine aop_call' k1 ?_
    by_cases hc : codeOk L 20 8 = true
    · obtain ⟨h0, h19⟩ := codeOk_last hc
      have hw0 : IntKind.wrap .i64 ((L.length : Int) - 1) = ((L.length - 1 : Nat) : Int) := by rw [wrap64 (by omega) (by omega)]; omega
      have hx0 := fun m => iav_idx L false m (L.length - 1) (by omega)
      have hl0 := lastOp_at h0
      simp [hc, s7, hw0, hx0, ← hl0, h19, binA, eqO, eqA, Tryd.underlying4]
      exact AWp.ret (post_retW rfl ⟨_, _, View.refl _ _, by simp; exact mT⟩)
    · simp [hc, binA, eqO, eqA, Tryd.underlying4]
      exact AWp.ret (post_retW rfl ⟨_, _, View.refl _ _, by simp; exact mT⟩)
  have hne := toList_full (insT_pos (op := op2) (a := a2) (b := b2) (by omega) (by omega))
  have hi2 : ¬ 19 < op2 := hi
  simp [s10, lo, hi2]
  refine aop_wcall _ _ _ _ _ _ _ _ rfl (eval_func _ _) ?_
  try simp
  refine t1 _ ?_
  simp [s7, s8, s9, binA, eqO, eqA, Tryd.underlying4, strA, hne, lo, hi2]
  refine aop_call' k1 ?_
  by_cases hc : codeOk L 20 8 = true
  · obtain ⟨h0, h19⟩ := codeOk_last hc
    have hw0 : IntKind.wrap .i64 ((L.length : Int) - 1) = ((L.length - 1 : Nat) : Int) := by rw [wrap64 (by omega) (by omega)]; omega
    have hx0 := fun m => iav_idx L false m (L.length - 1) (by omega)
    have hl0 := lastOp_at h0
    simp [hc, s7, hw0, hx0, ← hl0, h19, binA, eqO, eqA, Tryd.underlying4]
    exact AWp.ret (post_retW rfl ⟨_, _, View.refl _ _, by simp; exact mT⟩)
  · simp [hc, binA, eqO, eqA, Tryd.underlying4]
    exact AWp.ret (post_retW rfl ⟨_, _, View.refl _ _, by simp; exact mT⟩)
theorem cells_any {w : World} {S S' : Nat → Prop} {b : Nat} {k : IntKind} : ∀ {zs : List Int} {o : Nat}, Cells w S b o (intsA k zs) → Cells w S' b o (intsA k zs)
  | [], o, h => .nil _ _
  | z :: zs, o, h => by
    unfold intsA at h ⊢
    simp only [List.map_cons] at h ⊢
    cases h with
    | cons hc hr ht =>
    cases hr
    exact .cons hc (.int _ _) (cells_any ht)
theorem bys_but {W : World} {g : Nat} {T : TypeId} {S : Nat → Prop} (hb : BlkRep W S g (tabBlk T)) {l : List Int} {v : Value} (h : Rep W (Old W) (bys l) v) : Rep W (OldBut W g) (bys l) v := by
  have hrow := tab_row hb
  unfold bys at h ⊢
  cases l with
  | nil =>
    simp only [List.map_nil] at h ⊢
    cases h with
    | lnil f e A c hf => exact .lnil _ _ _ _ hf
    | lst f e b o c hS he hle hf hc => exact .lnil _ _ _ _ (fun h => by cases h)
  | cons x xs =>
    generalize hL : (x :: xs) = L at h ⊢
    have hne : L.map (AV.int .u8) ≠ [] := by rw [← hL]; simp
    generalize hM : L.map (AV.int .u8) = M at h ⊢ hne
    cases h with
    | lnil f e A c hf => exact absurd rfl hne
    | lst f e b o c hS he hle hf hc =>
      have hflat : flat M = intsA .u8 L := by rw [← hM]; exact flat_ints .u8 L
      rw [hflat] at hc
      refine .lst _ _ b o c ⟨hS, ?_⟩ he hle hf (by rw [hflat]; exact cells_any hc)
      rintro rfl
      rw [← hL] at hc
      unfold intsA at hc
      simp only [List.map_cons] at hc
      cases hc with
      | cons h1 h2 h3 =>
      cases h2
      simp only [World.cell?, hrow] at h1
      rw [List.getElem?_toArray, List.getElem?_map] at h1
      obtain ⟨z, _, hz⟩ := Option.map_eq_some_iff.1 h1
      cases hz
end Go.T
