/- New machines: the law's function. -/
import Derived.Test.YtjpgifmkikmbgaaGreatG12
namespace Go.T
open Go Go.Proofs
set_option maxRecDepth 10000
set_option linter.unusedSimpArgs false
set_option linter.unusedVariables false
/-- What stands when the argument is copied. -/
structure X0 (g1 g6 g7 : Nat) (h : Int) (pc mc c7 : List AV) (F1 : Nat → Prop) (u : St) : Prop where
  s1 : u.slots 1 = .int .i64 h
  s2 : u.slots 2 = .ptr g1 0
  s6 : u.slots 6 = .ptr g6 0
  s7 : u.slots 7 = .ptr g7 0
  b1 : u.mem g1 = some (.box pc)
  b6 : u.mem g6 = some (.box mc)
  b7 : u.mem g7 = some (.box c7)
  T1 : OwnT u.mem F1 (.agg c7) (.agg pc)
  d1 : ∀ b, F1 b → u.mem b ≠ none
  f1 : ¬ F1 g1
  f6 : ¬ F1 g6
  f7 : ¬ F1 g7
/-- What stands when the answer is there. -/
structure X1 (g1 g6 g7 g8 : Nat) (h : Int) (pc mc c7 c8 : List AV) (F1 F2 : Nat → Prop) (u : St) : Prop where
  x0 : X0 g1 g6 g7 h pc mc c7 F1 u
  s8 : u.slots 8 = .ptr g8 0
  b8 : u.mem g8 = some (.box c8)
  T2 : OwnT u.mem F2 (.agg c8) (.agg mc)
  d2 : ∀ b, F2 b → u.mem b ≠ none
  f8 : ¬ F1 g8
  e1 : ¬ F2 g1
  e6 : ¬ F2 g6
  e8 : ¬ F2 g8
  dis : ∀ b, F1 b → ¬ F2 b
theorem c_FnExactMachNew (p : Pg) (hf : p.fit) (h : Int) : PCall Tryz.prog 11 [p.av, .int .i64 h] (.bool true) := by
  refine pcall_of Tryz.func11 (by kernel_rfl) rfl (by simp [Tryz.f11]) ?_
  have cs := c_szProg p hf 1048576 (by omega) (by omega)
  by_cases hb : p.tot ≤ 1048576
  rotate_left
  · have hs : szr p.tot 1048576 = -1 := szr_neg (by omega)
    rw [hs] at cs
    unfold Pg.av at *
    (repeat refine AWp.seq ?_); refine AWp.region noP (by kernel_rfl) ?_
    try simp
    intro g1
    repeat' (first
    | refine AWp.seq ?_
    | (refine AWp.region allP (by kernel_rfl) ?_; simp [set_at])
    | (refine AWp.condG ?_; simp [set_at])
    | (refine AWp.skip ?_; try simp)
    | (refine AWp.exit ?_; try simp)
    | refine AWp.block ?_
    | (refine aop_call' (cs) ?_; simp [set_at])
    | (refine AWp.ret (post_ret1 rfl ?_); (simp; done))
    | (refine guardI (fun hq => ?_) (fun hq => ?_) <;> (try simp at hq) <;> (try simp [set_at]))
    | (refine condRunI (fun hq => ?_) (fun hq => ?_) <;> (try simp at hq) <;> (try simp [set_at]))
    | (refine iteI (fun hq => ?_) (fun hq => ?_) <;> (try simp [set_at])))
  have hs : szr p.tot 1048576 = 1048576 - p.tot := szr_pos (by omega)
  have hs2 : ¬ (1048576 - (p.tot : Int) < 0) := by omega
  rw [hs] at cs
  have ct := c_toProg0 p hb
  have oT := o_toProg0 p hb
  have cS := (o_spec_MachNew p hb h).p
  have oI := o_impl_MachNew p hb h
  obtain ⟨z1, z2, z3, z4⟩ := machNew_small p hb h
  obtain ⟨y1, y2⟩ := p.cnts_le hb
  have cE := c_eqMach0B (machNew p h) z1
  have cQ := c_eqProg0 p hb
  generalize machNew p h = mc at *
  have lp : p.cells.length = 2 := rfl
  have lm : mc.cells.length = 4 := rfl
  unfold Pg.av at cs ct cS oT oI cQ ⊢
  unfold Mc.av at cS oI cE
  (repeat refine AWp.seq ?_); refine AWp.region noP (by kernel_rfl) ?_
  try simp
  intro g1
  (repeat refine AWp.seq ?_); refine AWp.region noP (by kernel_rfl) ?_
  try simp
  (repeat refine AWp.seq ?_); refine AWp.region allP (by kernel_rfl) ?_
  simp [set_at]
  refine aop_call' cs ?_
  simp
  (repeat refine AWp.seq ?_); refine AWp.region noP (by kernel_rfl) ?_
  simp
  (repeat refine AWp.seq ?_); refine AWp.condF (by simp [hs2]) ?_
  refine AWp.skip ?_
  try simp
  (repeat refine AWp.seq ?_); refine AWp.cutA (fun u => ∃ g6, u.slots 1 = .int .i64 h ∧ u.slots 2 = .ptr g1 0 ∧ u.slots 6 = .ptr g6 0 ∧ u.mem g1 = some (.box p.cells) ∧ u.mem g6 = some (.box mc.cells)) ?_ ?_
  · refine AWp.region noP (by kernel_rfl) ?_
    simp [set_at]
    refine aop_call' ct ?_
    simp [set_at]
    refine aop_call' cS ?_
    simp [set_at]
    intro g6 h6
    have n61 : ¬ g1 = g6 := by rintro rfl; simp at h6
    exact fun e => absurd e n61
  rintro u ⟨g6, s1, s2, s6, b1, b6⟩
  (repeat refine AWp.seq ?_); refine AWp.cutA (fun u => ∃ g7 c7 F1, c7.length = 2 ∧ X0 g1 g6 g7 h p.cells mc.cells c7 F1 u) ?_ ?_
  · refine AWp.region noP (by kernel_rfl) ?_
    simp [s2, b1]
    refine aop_wcall _ _ _ _ _ _ _ _ rfl (eval_func _ _) ?_
    refine OCall.w oT fun r m' G hE hO hG hGd => ?_
    obtain ⟨c7, rfl, hT, hok⟩ := own_agg hO
    have l7 : c7.length = 2 := hT.len.trans lp
    have hok2 : ∀ x ∈ c7, okCell x = true := by simpa using hok
    simp at hE hG
    have k1 := hE g1 _ b1
    have k6 := hE g6 _ b6
    have f1 : ¬ G g1 := fun hg => by have := hG g1 hg; simp [b1] at this
    have f6 : ¬ G g6 := fun hg => by have := hG g6 hg; simp [b6] at this
    simp
    intro g7 hn
    have hdr : List.drop 2 c7 = [] := List.drop_eq_nil_of_le (by omega)
    have hE2 := ext_set hn (.box c7)
    simp [l7, set_at]
    refine ⟨hok2, ?_⟩
    try simp [set_set, hdr]
    have f7 : ¬ G g7 := fun hg => hGd g7 hg hn
    have n1 : ¬ g1 = g7 := by rintro rfl; rw [k1] at hn; cases hn
    have n6 : ¬ g6 = g7 := by rintro rfl; rw [k6] at hn; cases hn
    refine ⟨g7, c7, l7, G, ⟨by simp [s1], by simp [s2], by simp [s6], by simp, by simp [set_at, n1, k1], by simp [set_at, n6, k6], by simp [set_at], ?_, fun b hb => ?_, f1, f6, f7⟩⟩
    · simpa using hO.ext hGd hE2
    · have := ext_at hE2 (hGd b hb)
      simpa [this] using hGd b hb
  clear s1 s2 s6 b1 b6
  rintro u ⟨g7, c7, F1, l7, X⟩
  (repeat refine AWp.seq ?_); refine AWp.cutA (fun u => ∃ g8 c8 F2, c8.length = 4 ∧ X1 g1 g6 g7 g8 h p.cells mc.cells c7 c8 F1 F2 u) ?_ ?_
  · obtain ⟨F', hL⟩ := ((Lent.nil u.mem).same (.int .i64 h)).own X.T1
    refine AWp.region noP (by kernel_rfl) ?_
    simp [X.s1, X.s7, X.b7, l7, List.take_of_length_le (Nat.le_of_eq l7)]
    refine aop_wcall _ _ _ _ _ _ _ _ rfl (eval_func _ _) ?_
    refine OCall.lends oI hL fun r m' G hE hO hG hGd => ?_
    obtain ⟨c8, rfl, hT, hok⟩ := own_agg hO
    have l8 : c8.length = 4 := hT.len.trans lm
    have hok2 : ∀ x ∈ c8, okCell x = true := by simpa using hok
    simp at hE hG
    have k1 := hE g1 _ X.b1
    have k6 := hE g6 _ X.b6
    have k7 := hE g7 _ X.b7
    have e1 : ¬ G g1 := fun hg => by have := hG g1 hg; simp [X.b1] at this
    have e6 : ¬ G g6 := fun hg => by have := hG g6 hg; simp [X.b6] at this
    have dis : ∀ b, F1 b → ¬ G b := fun b hb hg => X.d1 b hb (hG b hg)
    simp
    intro g8 hn
    have hdr : List.drop 4 c8 = [] := List.drop_eq_nil_of_le (by omega)
    have hE2 := ext_set hn (.box c8)
    simp [l8, set_at]
    refine ⟨hok2, ?_⟩
    try simp [set_set, hdr]
    have e8 : ¬ G g8 := fun hg => hGd g8 hg hn
    have n1 : ¬ g1 = g8 := by rintro rfl; rw [k1] at hn; cases hn
    have n6 : ¬ g6 = g8 := by rintro rfl; rw [k6] at hn; cases hn
    have n7 : ¬ g7 = g8 := by rintro rfl; rw [k7] at hn; cases hn
    have f8 : ¬ F1 g8 := fun hb => by have := ext_at hE (X.d1 g8 hb); rw [hn] at this; exact X.d1 g8 hb this.symm
    have hT1 := X.T1.ext X.d1 (hE.trans hE2)
    refine ⟨g8, c8, l8, G, ⟨⟨by simp [X.s1], by simp [X.s2], by simp [X.s6], by simp [X.s7], by simp [set_at, n1, k1], by simp [set_at, n6, k6], by simp [set_at, n7, k7], by simpa using hT1, fun b hb => ?_, X.f1, X.f6, X.f7⟩, by simp, by simp [set_at], ?_, fun b hb => ?_, f8, e1, e6, e8, dis⟩⟩
    · have := ext_at (hE.trans hE2) (X.d1 b hb)
      simpa [this] using X.d1 b hb
    · simpa using hO.ext hGd hE2
    · have := ext_at hE2 (hGd b hb)
      simpa [this] using hGd b hb
  clear X
  rintro u ⟨g8, c8, F2, l8, Y⟩
  have X := Y.x0
  have t8 : List.take 4 c8 = c8 := List.take_of_length_le (by omega)
  have t7 : List.take 2 c7 = c7 := List.take_of_length_le (by omega)
  obtain ⟨F', hL⟩ := ((Lent.nil u.mem).same (.agg mc.cells)).own Y.T2
  (repeat refine AWp.seq ?_); refine AWp.region noP (by kernel_rfl) ?_
  simp [Y.s8, Y.b8, X.s6, X.b6, l8, t8]
  refine aop_wcall _ _ _ _ _ _ _ _ rfl (eval_func _ _) ?_
  refine PCall.lend cE hL rfl ?_
  simp
  (repeat refine AWp.seq ?_); refine AWp.condF (by simp) ?_
  refine AWp.skip ?_
  try simp
  clear hL
  obtain ⟨F', hL⟩ := ((Lent.nil u.mem).same (.agg p.cells)).own X.T1
  (repeat refine AWp.seq ?_); refine AWp.regionF (fun i => i == 2) (fun _ => false) [0, 1, 2, 3, 4] (by kernel_rfl) ?_
  simp [X.s7, X.b7, X.s2, X.b1, l7, t7]
  refine aop_call' ct ?_
  simp
  refine aop_wcall _ _ _ _ _ _ _ _ rfl (eval_func _ _) ?_
  refine PCall.lend cQ (by simpa [X.s7, X.b7] using hL) rfl ?_
  simp
  (repeat refine AWp.seq ?_); refine AWp.condF (by simp) ?_
  refine AWp.skip ?_
  try simp
  clear hL
  (repeat refine AWp.seq ?_); refine AWp.region noP (by kernel_rfl) ?_
  simp
  (repeat refine AWp.seq ?_); refine AWp.region noP (by kernel_rfl) ?_
  simp [X.s7, X.b7, l7, t7]
  refine aop_wcall _ _ _ _ _ _ _ _ rfl (eval_func _ _) ?_
  refine c_markProg p X.T1 1 (by omega) (by omega) fun m2 l0 l1 hout hO hH => ?_
  clear hO hH
  have hn0 : ¬ ((1 + (AV.cnts (p.arrs.map Ar.av) : Int) + (AV.cnts (p.body.map Sm.av) : Int)) < 0) := by omega
  generalize (1 + (AV.cnts (p.arrs.map Ar.av) : Int) + (AV.cnts (p.body.map Sm.av) : Int)) = kp at *
  simp
  have b1 := hout g1 _ X.f1 X.b1
  have b6 := hout g6 _ X.f6 X.b6
  have b8 := hout g8 _ Y.f8 Y.b8
  have T2 := Y.T2.mem (m' := m2) fun b hb => by
    cases hq : u.mem b with
    | none => exact absurd hq (Y.d2 b hb)
    | some x => exact hout b x (fun h1 => Y.dis b h1 hb) hq
  obtain ⟨F', hL⟩ := ((Lent.nil m2).same (.agg mc.cells)).own T2
  (repeat refine AWp.seq ?_); refine AWp.region noP (by kernel_rfl) ?_
  simp [Y.s8, b8, X.s6, b6, l8, t8, hn0]
  refine aop_wcall _ _ _ _ _ _ _ _ rfl (eval_func _ _) ?_
  refine PCall.lend cE hL rfl ?_
  simp
  (repeat refine AWp.seq ?_); refine AWp.condF (by simp) ?_
  refine AWp.skip ?_
  try simp
  clear hL
  (repeat refine AWp.seq ?_); refine AWp.region noP (by kernel_rfl) ?_
  simp
  (repeat refine AWp.seq ?_); refine AWp.region noP (by kernel_rfl) ?_
  simp [Y.s8, b8, l8, t8]
  refine aop_wcall _ _ _ _ _ _ _ _ rfl (eval_func _ _) ?_
  refine c_markMach mc T2 1 (by omega) (by omega) fun m3 q0 q1 q2 hout2 hO2 hH2 => ?_
  have hm0 : ¬ ((1 + (AV.cnts (mc.mem.map (AV.int .i64)) : Int) + (AV.cnts (mc.hands.map Hd.av) : Int) + (AV.cnts (mc.out.map (AV.int .i64)) : Int)) < 0) := by omega
  have hm1 : (1 + (AV.cnts (mc.mem.map (AV.int .i64)) : Int) + (AV.cnts (mc.hands.map Hd.av) : Int) + (AV.cnts (mc.out.map (AV.int .i64)) : Int)) ≤ 4611686018427387904 := by omega
  generalize (1 + (AV.cnts (mc.mem.map (AV.int .i64)) : Int) + (AV.cnts (mc.hands.map Hd.av) : Int) + (AV.cnts (mc.out.map (AV.int .i64)) : Int)) = km at *
  simp
  replace b1 := hout2 g1 _ Y.e1 b1
  replace b6 := hout2 g6 _ Y.e6 b6
  replace b8 := hout2 g8 _ Y.e8 b8
  obtain ⟨F3, T3, _, d3⟩ := hO2.dom
  have cH := c_heldMach ⟨q0, q1, q2, mc.trap⟩ 1 km (by omega) hm1 hH2
  obtain ⟨F', hL⟩ := ((Lent.nil m3).same (.int .i64 1)).own T3
  (repeat refine AWp.seq ?_); refine AWp.region noP (by kernel_rfl) ?_
  simp
  (repeat refine AWp.seq ?_); refine AWp.region noP (by kernel_rfl) ?_
  simp [Y.s8, b8, l8, t8]
  refine aop_wcall _ _ _ _ _ _ _ _ rfl (eval_func _ _) ?_
  refine PCall.lend cH hL rfl ?_
  simp
  clear hL
  (repeat refine AWp.seq ?_); refine AWp.region noP (by kernel_rfl) ?_
  simp
  (repeat refine AWp.seq ?_); refine AWp.condF (by simp [hm0]) ?_
  refine AWp.skip ?_
  try simp
  (repeat refine AWp.seq ?_); refine AWp.region noP (by kernel_rfl) ?_
  simp
  (repeat refine AWp.seq ?_); refine AWp.condF (by simp) ?_
  refine AWp.skip ?_
  try simp
  (repeat refine AWp.seq ?_); refine AWp.region noP (by kernel_rfl) ?_
  simp [X.s1, X.s2, b1, lp]
  refine aop_call' ct ?_
  simp [X.s1]
  refine aop_wcall _ _ _ _ _ _ _ _ rfl (eval_func _ _) ?_
  refine OCall.w oI fun r m4 G hE hO hG hGd => ?_
  obtain ⟨c12, rfl, hT, hok⟩ := own_agg hO
  have l12 : c12.length = 4 := hT.len.trans lm
  have t12 : List.take 4 c12 = c12 := List.take_of_length_le (by omega)
  have hok2 : ∀ x ∈ c12, okCell x = true := by simpa using hok
  simp at hE
  replace b6 := hE g6 _ b6
  replace b8 := hE g8 _ b8
  simp
  intro g12 hn
  have hdr : List.drop 4 c12 = [] := List.drop_eq_nil_of_le (by omega)
  have hE2 := ext_set hn (.box c12)
  simp [l12, set_at]
  refine ⟨hok2, ?_⟩
  try simp [set_set, hdr]
  have n6 : ¬ g6 = g12 := by rintro rfl; rw [b6] at hn; cases hn
  have n8 : ¬ g8 = g12 := by rintro rfl; rw [b8] at hn; cases hn
  have b12 := set_same m4 g12 (.box c12)
  have T4 := T3.ext d3 (hE.trans hE2)
  have T5 := hO.ext hGd hE2
  replace b6 := hE2 g6 _ b6
  replace b8 := hE2 g8 _ b8
  generalize m4.set g12 (.box c12) = m5 at *
  obtain ⟨F', hL⟩ := ((Lent.nil m5).same (.agg mc.cells)).own T5
  (repeat refine AWp.seq ?_); refine AWp.region noP (by kernel_rfl) ?_
  simp [X.s6, b6, b12, l12, t12]
  refine aop_wcall _ _ _ _ _ _ _ _ rfl (eval_func _ _) ?_
  refine PCall.lend cE hL rfl ?_
  simp
  (repeat refine AWp.seq ?_); refine AWp.condF (by simp) ?_
  refine AWp.skip ?_
  try simp
  clear hL
  obtain ⟨F', hL⟩ := ((Lent.nil m5).same (.int .i64 1)).own T4
  (repeat refine AWp.seq ?_); refine AWp.region noP (by kernel_rfl) ?_
  simp
  (repeat refine AWp.seq ?_); refine AWp.region noP (by kernel_rfl) ?_
  simp [Y.s8, b8, l8, t8]
  refine aop_wcall _ _ _ _ _ _ _ _ rfl (eval_func _ _) ?_
  refine PCall.lend cH hL rfl ?_
  simp
  (repeat refine AWp.seq ?_); refine AWp.region noP (by kernel_rfl) ?_
  simp
  (repeat refine AWp.seq ?_); refine AWp.condF (by simp [hm0]) ?_
  refine AWp.skip ?_
  try simp
  (repeat refine AWp.seq ?_); refine AWp.region noP (by kernel_rfl) ?_
  simp
  (repeat refine AWp.seq ?_); refine AWp.condF (by simp) ?_
  refine AWp.skip ?_
  try simp
  (repeat refine AWp.seq ?_); refine AWp.region noP (by kernel_rfl) ?_
  try simp
  exact AWp.ret (post_ret1 rfl (by simp))
end Go.T
