/- Statements marked: what the program's marking function computes. Copies that are one's own: what the laws' copying functions compute, of programs. -/
import Derived.Test.YtfikgphnjndgdaaGreatG14
import Derived.Test.YtfikgphnjndgdaaGreatG4
namespace Go.T
open Go Go.Proofs
set_option maxRecDepth 10000
set_option maxHeartbeats 1000000
set_option linter.unusedSimpArgs false
set_option linter.unusedVariables false
def Sm.parts : Sm → List Sm
  | .mk _ _ _ _ _ _ l => l
/-- What marking rows of these comes to. -/
def MkStmt (l : List Sm) : Prop := ∀ (m : Mem) (F : Nat → Prop) (v : AV) (f : Bool) (h : OwnT m F v (.lst f 19 (l.map Sm.av))) (k : Int) (h0 : 0 < k) (hb : k + (AV.cnts (l.map Sm.av) : Int) ≤ 4611686018427387904) (K : AV → Mem → Prop)
    (hK : ∀ m' (l' : List Sm), (∀ b, ¬ F b → m' b = m b) → OwnT m' F v (.lst false 19 (l'.map Sm.av)) → Held (l'.map Sm.av) k (k + (AV.cnts (l.map Sm.av) : Int)) → K (.int .i64 (k + (AV.cnts (l.map Sm.av) : Int))) m'), WCall Tryz.prog 104 [v, .int .i64 k] m K
set_option maxHeartbeats 4000000 in
theorem c_markStmtS0 (l : List Sm) (hr : ∀ x ∈ l, MkStmt x.parts) : MkStmt l := by
  intro m F v f h k h0 hb K hK
  refine wcall_of Tryz.func104 (by kernel_rfl) rfl (by simp [Tryz.f104]) ?_
  rcases own_row h with ⟨f', e', rfl, hnil⟩ | ⟨g, n, c, rfl, hn, rfl⟩
  · have hl : l = [] := by simpa using hnil
    subst hl
    (repeat refine AWp.seq ?_); refine AWp.region noP (by kernel_rfl) ?_
    try simp
    (repeat refine AWp.seq ?_); refine AWp.region noP (by kernel_rfl) ?_
    try simp
    (repeat refine AWp.seq ?_); refine AWp.block (AWp.rounds (fun q st => q = 0 ∧ st.slots 0 = .lst f' e' [] ∧ st.slots 1 = .int .i64 k ∧ st.slots 5 = .int .i64 0 ∧ st.mem = m) 0 ⟨rfl, by simp, by simp, by simp, by simp⟩ ?_)
    rintro R q st hR ⟨rfl, s0, s1, s5, sm⟩
    (repeat refine AWp.seq ?_); refine AWp.region noP (by kernel_rfl) ?_
    simp [s0, s5]
    (repeat refine AWp.seq ?_); refine AWp.condF (by simp) ?_
    refine AWp.exit ?_
    try simp
    (repeat refine AWp.seq ?_); refine AWp.region noP (by kernel_rfl) ?_
    simp [s1]
    refine AWp.ret (post_retW rfl ⟨_, _, View.refl _ _, ?_⟩)
    have := hK m [] (fun _ _ => rfl) (.nil _ _ _) (by simpa [AV.cnts] using Held.nil k)
    simpa [AV.cnts, sm] using this
  obtain ⟨T, G, ys, hM, hy, hx⟩ := Marking.start h
  have hlen : l.length = n := by simpa using hx
  have hcl := cnts_len (f := Sm.av) (fun x => by cases x; simp [Sm.av, Sm.cells_mk, AV.cnt, AV.cnts]; try omega) l
  (repeat refine AWp.seq ?_); refine AWp.region noP (by kernel_rfl) ?_
  try simp
  (repeat refine AWp.seq ?_); refine AWp.region noP (by kernel_rfl) ?_
  try simp
  (repeat refine AWp.seq ?_); refine AWp.block (AWp.rounds (fun q st => ∃ (i : Nat) (ys : List AV) (ki : Int) (done : List Sm), q = n - i ∧ i ≤ n ∧ done.length = i ∧ ys.length = n ∧ st.slots 0 = .own g n c ∧ st.slots 1 = .int .i64 ki ∧ st.slots 5 = .int .i64 i ∧ Held (done.map Sm.av) k ki ∧ k ≤ ki ∧ ki + (AV.cnts ((l.drop i).map Sm.av) : Int) = k + (AV.cnts (l.map Sm.av) : Int) ∧ Marking st.mem m F g T 19 c G ys ((done ++ l.drop i).map Sm.av)) n ⟨0, ys, k, [], by simp, by simp, rfl, hy, by simp, by simp, by simp, .nil k, by omega, by simp, by simpa using hM⟩ ?_)
  clear hM hy ys
  rintro R q st hR ⟨i, ys, ki, done, rfl, hi, hdl, hy, s0, s1, s5, hH, hki, hcnt, hM⟩
  (repeat refine AWp.seq ?_); refine AWp.region noP (by kernel_rfl) ?_
  simp [s0, s5]
  (repeat refine AWp.seq ?_); refine AWp.cond (b := decide (i < n)) (by simp) (fun hlt => ?_) (fun hlt => ?_)
  rotate_left
  · simp at hlt
    have hin : i = n := by omega
    subst hin
    refine AWp.exit ?_
    try simp
    (repeat refine AWp.seq ?_); refine AWp.region noP (by kernel_rfl) ?_
    simp [s1]
    rw [List.drop_eq_nil_of_le (by omega)] at hcnt hM
    rw [List.append_nil] at hM
    have hke : ki = k + (AV.cnts (l.map Sm.av) : Int) := by simpa [AV.cnts] using hcnt
    subst hke
    refine AWp.ret (post_retW rfl ⟨_, _, View.refl _ _, ?_⟩)
    simp
    exact hK _ done hM.out (hM.done hy) hH
  simp at hlt
  have hil : i < l.length := by omega
  have hdr : l.drop i = l[i] :: l.drop (i + 1) := List.drop_eq_getElem_cons hil
  have hmem := List.getElem_mem hil
  have hwi : IntKind.wrap .i64 ((i : Int) + 1) = (i + 1 : Nat) := wrap64 (by omega) (by omega)
  rw [hdr] at hcnt hM
  rcases hx0 : l[i] with ⟨b0, b1, ⟨c0, c1, c2, c3⟩, ⟨d0, d1, d2, d3⟩, ⟨p0, p1, p2, p3⟩, ⟨q0, q1, q2, q3⟩, b6⟩
  rw [hx0] at hcnt hM hmem
  have hat := at_done Sm.av done (Sm.mk b0 b1 (Ex.mk c0 c1 c2 c3) (Ex.mk d0 d1 d2 d3) (Ex.mk p0 p1 p2 p3) (Ex.mk q0 q1 q2 q3) b6) (l.drop (i + 1)) hdl
  obtain ⟨B, cs0, hok, hal, I, hback⟩ := hM.into (i := i) (by omega) (cs := [.int .i64 b0, .str b1, .int .i64 c0, .int .i64 c1, .str c2, .lst false 4 (c3.map Ex.av), .int .i64 d0, .int .i64 d1, .str d2, .lst false 4 (d3.map Ex.av), .int .i64 p0, .int .i64 p1, .str p2, .lst false 4 (p3.map Ex.av), .int .i64 q0, .int .i64 q1, .str q2, .lst false 4 (q3.map Ex.av), .lst false 19 (b6.map Sm.av)]) (by rw [hat]; simp [Sm.av, Sm.cells_mk, Ex.cells_mk])
  obtain ⟨a0, a1, a2, a3, a4, a5, a6, a7, a8, a9, a10, a11, a12, a13, a14, a15, a16, a17, a18, rfl⟩ : ∃ a0 a1 a2 a3 a4 a5 a6 a7 a8 a9 a10 a11 a12 a13 a14 a15 a16 a17 a18, cs0 = [a0, a1, a2, a3, a4, a5, a6, a7, a8, a9, a10, a11, a12, a13, a14, a15, a16, a17, a18] := by
    match cs0, hal with
    | [a0, a1, a2, a3, a4, a5, a6, a7, a8, a9, a10, a11, a12, a13, a14, a15, a16, a17, a18], _ => exact ⟨_, _, _, _, _, _, _, _, _, _, _, _, _, _, _, _, _, _, _, rfl⟩
  simp only [List.map_cons, AV.cnts, Sm.av, Sm.cells_mk, Ex.cells_mk, AV.cnt, List.cons_append, List.nil_append] at hcnt
  simp only [List.all_cons, List.all_nil, Bool.and_eq_true, Bool.and_true] at hok
  refine AWp.skip ?_
  try simp
  (repeat refine AWp.seq ?_); refine AWp.block ?_
  have hg := I.row
  have hx : idxA Tryz.prog st.mem 36 (.own g n c) (.int .i64 i) = some (.elt g 19 i 0) := idx_own es_36 hg (by simp [hy]) hlt
  have I2 := I.leaf 0 (x := .int .i64 (ki)) (own_int _ _)
  have hst := I.store (by omega) rfl 0 (by omega) (by omega) (x := .int .i64 (ki)) rfl
  simp only [List.set_cons_zero, List.set_cons_succ] at I2 hst
  (repeat refine AWp.seq ?_); refine AWp.cutA (fun u => u.slots 0 = .own g n c ∧ u.slots 1 = .int .i64 (ki) ∧ u.slots 5 = .int .i64 i ∧ InRow u.mem st.mem g T 19 c i ys B [.int .i64 (ki), a1, a2, a3, a4, a5, a6, a7, a8, a9, a10, a11, a12, a13, a14, a15, a16, a17, a18] [.int .i64 (ki), .str b1, .int .i64 c0, .int .i64 c1, .str c2, .lst false 4 (c3.map Ex.av), .int .i64 d0, .int .i64 d1, .str d2, .lst false 4 (d3.map Ex.av), .int .i64 p0, .int .i64 p1, .str p2, .lst false 4 (p3.map Ex.av), .int .i64 q0, .int .i64 q1, .str q2, .lst false 4 (q3.map Ex.av), .lst false 19 (b6.map Sm.av)]) ?_ ?_
  · refine AWp.region noP (by kernel_rfl) ?_
    simp [s0, s1, s5, hx, hst]
    exact I2
  clear hg hx hst I2 I
  rintro u0 ⟨s0, s1, s5, I⟩
  have hw : IntKind.wrap .i64 (ki + 1) = ki + 1 := wrap64 (by omega) (by omega)
  (repeat refine AWp.seq ?_); refine AWp.region noP (by kernel_rfl) ?_
  simp [s1, hw]
  clear hw
  have hg := I.row
  have hx : idxA Tryz.prog u0.mem 36 (.own g n c) (.int .i64 i) = some (.elt g 19 i 0) := idx_own es_36 hg (by simp [hy]) hlt
  have I2 := I.leaf 1 (x := .str (markT (ki + 1))) (own_str _)
  have hst := I.store (by omega) rfl 1 (by omega) (by omega) (x := .str (markT (ki + 1))) rfl
  simp only [List.set_cons_zero, List.set_cons_succ] at I2 hst
  (repeat refine AWp.seq ?_); refine AWp.cutA (fun u => u.slots 0 = .own g n c ∧ u.slots 1 = .int .i64 (ki + 1) ∧ u.slots 5 = .int .i64 i ∧ InRow u.mem st.mem g T 19 c i ys B [.int .i64 (ki), .str (markT (ki + 1)), a2, a3, a4, a5, a6, a7, a8, a9, a10, a11, a12, a13, a14, a15, a16, a17, a18] [.int .i64 (ki), .str (markT (ki + 1)), .int .i64 c0, .int .i64 c1, .str c2, .lst false 4 (c3.map Ex.av), .int .i64 d0, .int .i64 d1, .str d2, .lst false 4 (d3.map Ex.av), .int .i64 p0, .int .i64 p1, .str p2, .lst false 4 (p3.map Ex.av), .int .i64 q0, .int .i64 q1, .str q2, .lst false 4 (q3.map Ex.av), .lst false 19 (b6.map Sm.av)]) ?_ ?_
  · refine AWp.region noP (by kernel_rfl) ?_
    simp [s0, s1, s5, hx, hst]
    refine aop_call' (c_markText (ki + 1) (by omega) (by omega)) ?_
    simp [s0, s1, s5, hx, hst]
    exact I2
  clear hg hx hst I2 I
  rintro u1 ⟨s0, s1, s5, I⟩
  have hw : IntKind.wrap .i64 (ki + 1 + 1) = ki + 1 + 1 := wrap64 (by omega) (by omega)
  (repeat refine AWp.seq ?_); refine AWp.region noP (by kernel_rfl) ?_
  simp [s1, hw]
  clear hw
  have hg := I.row
  have hx : idxA Tryz.prog u1.mem 36 (.own g n c) (.int .i64 i) = some (.elt g 19 i 0) := idx_own es_36 hg (by simp [hy]) hlt
  have I2 := I.leaf 2 (x := .int .i64 (ki + 1 + 1)) (own_int _ _)
  have hst := I.store (by omega) rfl 2 (by omega) (by omega) (x := .int .i64 (ki + 1 + 1)) rfl
  simp only [List.set_cons_zero, List.set_cons_succ] at I2 hst
  (repeat refine AWp.seq ?_); refine AWp.cutA (fun u => u.slots 0 = .own g n c ∧ u.slots 1 = .int .i64 (ki + 1 + 1) ∧ u.slots 5 = .int .i64 i ∧ InRow u.mem st.mem g T 19 c i ys B [.int .i64 (ki), .str (markT (ki + 1)), .int .i64 (ki + 1 + 1), a3, a4, a5, a6, a7, a8, a9, a10, a11, a12, a13, a14, a15, a16, a17, a18] [.int .i64 (ki), .str (markT (ki + 1)), .int .i64 (ki + 1 + 1), .int .i64 c1, .str c2, .lst false 4 (c3.map Ex.av), .int .i64 d0, .int .i64 d1, .str d2, .lst false 4 (d3.map Ex.av), .int .i64 p0, .int .i64 p1, .str p2, .lst false 4 (p3.map Ex.av), .int .i64 q0, .int .i64 q1, .str q2, .lst false 4 (q3.map Ex.av), .lst false 19 (b6.map Sm.av)]) ?_ ?_
  · refine AWp.region noP (by kernel_rfl) ?_
    simp [s0, s1, s5, hx, hst]
    exact I2
  clear hg hx hst I2 I
  rintro u2 ⟨s0, s1, s5, I⟩
  have hw : IntKind.wrap .i64 (ki + 1 + 1 + 1) = ki + 1 + 1 + 1 := wrap64 (by omega) (by omega)
  (repeat refine AWp.seq ?_); refine AWp.region noP (by kernel_rfl) ?_
  simp [s1, hw]
  clear hw
  have hg := I.row
  have hx : idxA Tryz.prog u2.mem 36 (.own g n c) (.int .i64 i) = some (.elt g 19 i 0) := idx_own es_36 hg (by simp [hy]) hlt
  have I2 := I.leaf 3 (x := .int .i64 (ki + 1 + 1 + 1)) (own_int _ _)
  have hst := I.store (by omega) rfl 3 (by omega) (by omega) (x := .int .i64 (ki + 1 + 1 + 1)) rfl
  simp only [List.set_cons_zero, List.set_cons_succ] at I2 hst
  (repeat refine AWp.seq ?_); refine AWp.cutA (fun u => u.slots 0 = .own g n c ∧ u.slots 1 = .int .i64 (ki + 1 + 1 + 1) ∧ u.slots 5 = .int .i64 i ∧ InRow u.mem st.mem g T 19 c i ys B [.int .i64 (ki), .str (markT (ki + 1)), .int .i64 (ki + 1 + 1), .int .i64 (ki + 1 + 1 + 1), a4, a5, a6, a7, a8, a9, a10, a11, a12, a13, a14, a15, a16, a17, a18] [.int .i64 (ki), .str (markT (ki + 1)), .int .i64 (ki + 1 + 1), .int .i64 (ki + 1 + 1 + 1), .str c2, .lst false 4 (c3.map Ex.av), .int .i64 d0, .int .i64 d1, .str d2, .lst false 4 (d3.map Ex.av), .int .i64 p0, .int .i64 p1, .str p2, .lst false 4 (p3.map Ex.av), .int .i64 q0, .int .i64 q1, .str q2, .lst false 4 (q3.map Ex.av), .lst false 19 (b6.map Sm.av)]) ?_ ?_
  · refine AWp.region noP (by kernel_rfl) ?_
    simp [s0, s1, s5, hx, hst]
    exact I2
  clear hg hx hst I2 I
  rintro u3 ⟨s0, s1, s5, I⟩
  have hw : IntKind.wrap .i64 (ki + 1 + 1 + 1 + 1) = ki + 1 + 1 + 1 + 1 := wrap64 (by omega) (by omega)
  (repeat refine AWp.seq ?_); refine AWp.region noP (by kernel_rfl) ?_
  simp [s1, hw]
  clear hw
  have hg := I.row
  have hx : idxA Tryz.prog u3.mem 36 (.own g n c) (.int .i64 i) = some (.elt g 19 i 0) := idx_own es_36 hg (by simp [hy]) hlt
  have I2 := I.leaf 4 (x := .str (markT (ki + 1 + 1 + 1 + 1))) (own_str _)
  have hst := I.store (by omega) rfl 4 (by omega) (by omega) (x := .str (markT (ki + 1 + 1 + 1 + 1))) rfl
  simp only [List.set_cons_zero, List.set_cons_succ] at I2 hst
  (repeat refine AWp.seq ?_); refine AWp.cutA (fun u => u.slots 0 = .own g n c ∧ u.slots 1 = .int .i64 (ki + 1 + 1 + 1 + 1) ∧ u.slots 5 = .int .i64 i ∧ InRow u.mem st.mem g T 19 c i ys B [.int .i64 (ki), .str (markT (ki + 1)), .int .i64 (ki + 1 + 1), .int .i64 (ki + 1 + 1 + 1), .str (markT (ki + 1 + 1 + 1 + 1)), a5, a6, a7, a8, a9, a10, a11, a12, a13, a14, a15, a16, a17, a18] [.int .i64 (ki), .str (markT (ki + 1)), .int .i64 (ki + 1 + 1), .int .i64 (ki + 1 + 1 + 1), .str (markT (ki + 1 + 1 + 1 + 1)), .lst false 4 (c3.map Ex.av), .int .i64 d0, .int .i64 d1, .str d2, .lst false 4 (d3.map Ex.av), .int .i64 p0, .int .i64 p1, .str p2, .lst false 4 (p3.map Ex.av), .int .i64 q0, .int .i64 q1, .str q2, .lst false 4 (q3.map Ex.av), .lst false 19 (b6.map Sm.av)]) ?_ ?_
  · refine AWp.region noP (by kernel_rfl) ?_
    simp [s0, s1, s5, hx, hst]
    refine aop_call' (c_markText (ki + 1 + 1 + 1 + 1) (by omega) (by omega)) ?_
    simp [s0, s1, s5, hx, hst]
    exact I2
  clear hg hx hst I2 I
  rintro u4 ⟨s0, s1, s5, I⟩
  have hw : IntKind.wrap .i64 (ki + 1 + 1 + 1 + 1 + 1) = ki + 1 + 1 + 1 + 1 + 1 := wrap64 (by omega) (by omega)
  (repeat refine AWp.seq ?_); refine AWp.region noP (by kernel_rfl) ?_
  simp [s1, hw]
  clear hw
  have hg := I.row
  have hx : idxA Tryz.prog u4.mem 36 (.own g n c) (.int .i64 i) = some (.elt g 19 i 0) := idx_own es_36 hg (by simp [hy]) hlt
  obtain ⟨A, x, hxo, hown, hupd⟩ := I.call (o := 5) (by simp)
  obtain rfl : .lst false 4 (c3.map Ex.av) = x := Option.some.inj hxo
  simp only [List.getElem_cons_succ, List.getElem_cons_zero] at hown hupd
  (repeat refine AWp.seq ?_); refine AWp.cutA (fun u => ∃ l5 : List Ex, u.slots 0 = .own g n c ∧ u.slots 1 = .int .i64 (ki + 1 + 1 + 1 + 1 + 1 + (AV.cnts (c3.map Ex.av) : Int)) ∧ u.slots 5 = .int .i64 i ∧ Held (l5.map Ex.av) (ki + 1 + 1 + 1 + 1 + 1) (ki + 1 + 1 + 1 + 1 + 1 + (AV.cnts (c3.map Ex.av) : Int)) ∧ InRow u.mem st.mem g T 19 c i ys B [.int .i64 (ki), .str (markT (ki + 1)), .int .i64 (ki + 1 + 1), .int .i64 (ki + 1 + 1 + 1), .str (markT (ki + 1 + 1 + 1 + 1)), a5, a6, a7, a8, a9, a10, a11, a12, a13, a14, a15, a16, a17, a18] [.int .i64 (ki), .str (markT (ki + 1)), .int .i64 (ki + 1 + 1), .int .i64 (ki + 1 + 1 + 1), .str (markT (ki + 1 + 1 + 1 + 1)), .lst false 4 (l5.map Ex.av), .int .i64 d0, .int .i64 d1, .str d2, .lst false 4 (d3.map Ex.av), .int .i64 p0, .int .i64 p1, .str p2, .lst false 4 (p3.map Ex.av), .int .i64 q0, .int .i64 q1, .str q2, .lst false 4 (q3.map Ex.av), .lst false 19 (b6.map Sm.av)]) ?_ ?_
  · refine AWp.region noP (by kernel_rfl) ?_
    simp [s0, s1, s5, hx, hg, hy, hlt]
    refine aop_wcall _ _ _ _ _ _ _ _ rfl (eval_func _ _) ?_
    refine c_markExpS _ _ _ _ _ hown (ki + 1 + 1 + 1 + 1 + 1) (by omega) (by omega) _ fun m' l' hout ho hh => ?_
    simp [s0, s1, s5]
    have I2 := hupd m' _ hout ho
    simp only [List.set_cons_zero, List.set_cons_succ] at I2
    exact ⟨l', hh, I2⟩
  clear hg hx I hupd hown hxo
  rintro u5 ⟨l5, s0, s1, s5, hh5, I⟩
  have hg := I.row
  have hx : idxA Tryz.prog u5.mem 36 (.own g n c) (.int .i64 i) = some (.elt g 19 i 0) := idx_own es_36 hg (by simp [hy]) hlt
  have I2 := I.leaf 6 (x := .int .i64 (ki + 1 + 1 + 1 + 1 + 1 + (AV.cnts (c3.map Ex.av) : Int))) (own_int _ _)
  have hst := I.store (by omega) rfl 6 (by omega) (by omega) (x := .int .i64 (ki + 1 + 1 + 1 + 1 + 1 + (AV.cnts (c3.map Ex.av) : Int))) rfl
  simp only [List.set_cons_zero, List.set_cons_succ] at I2 hst
  (repeat refine AWp.seq ?_); refine AWp.cutA (fun u => u.slots 0 = .own g n c ∧ u.slots 1 = .int .i64 (ki + 1 + 1 + 1 + 1 + 1 + (AV.cnts (c3.map Ex.av) : Int)) ∧ u.slots 5 = .int .i64 i ∧ InRow u.mem st.mem g T 19 c i ys B [.int .i64 (ki), .str (markT (ki + 1)), .int .i64 (ki + 1 + 1), .int .i64 (ki + 1 + 1 + 1), .str (markT (ki + 1 + 1 + 1 + 1)), a5, .int .i64 (ki + 1 + 1 + 1 + 1 + 1 + (AV.cnts (c3.map Ex.av) : Int)), a7, a8, a9, a10, a11, a12, a13, a14, a15, a16, a17, a18] [.int .i64 (ki), .str (markT (ki + 1)), .int .i64 (ki + 1 + 1), .int .i64 (ki + 1 + 1 + 1), .str (markT (ki + 1 + 1 + 1 + 1)), .lst false 4 (l5.map Ex.av), .int .i64 (ki + 1 + 1 + 1 + 1 + 1 + (AV.cnts (c3.map Ex.av) : Int)), .int .i64 d1, .str d2, .lst false 4 (d3.map Ex.av), .int .i64 p0, .int .i64 p1, .str p2, .lst false 4 (p3.map Ex.av), .int .i64 q0, .int .i64 q1, .str q2, .lst false 4 (q3.map Ex.av), .lst false 19 (b6.map Sm.av)]) ?_ ?_
  · refine AWp.region noP (by kernel_rfl) ?_
    simp [s0, s1, s5, hx, hst]
    exact I2
  clear hg hx hst I2 I
  rintro u6 ⟨s0, s1, s5, I⟩
  have hw : IntKind.wrap .i64 (ki + 1 + 1 + 1 + 1 + 1 + (AV.cnts (c3.map Ex.av) : Int) + 1) = ki + 1 + 1 + 1 + 1 + 1 + (AV.cnts (c3.map Ex.av) : Int) + 1 := wrap64 (by omega) (by omega)
  (repeat refine AWp.seq ?_); refine AWp.region noP (by kernel_rfl) ?_
  simp [s1, hw]
  clear hw
  have hg := I.row
  have hx : idxA Tryz.prog u6.mem 36 (.own g n c) (.int .i64 i) = some (.elt g 19 i 0) := idx_own es_36 hg (by simp [hy]) hlt
  have I2 := I.leaf 7 (x := .int .i64 (ki + 1 + 1 + 1 + 1 + 1 + (AV.cnts (c3.map Ex.av) : Int) + 1)) (own_int _ _)
  have hst := I.store (by omega) rfl 7 (by omega) (by omega) (x := .int .i64 (ki + 1 + 1 + 1 + 1 + 1 + (AV.cnts (c3.map Ex.av) : Int) + 1)) rfl
  simp only [List.set_cons_zero, List.set_cons_succ] at I2 hst
  (repeat refine AWp.seq ?_); refine AWp.cutA (fun u => u.slots 0 = .own g n c ∧ u.slots 1 = .int .i64 (ki + 1 + 1 + 1 + 1 + 1 + (AV.cnts (c3.map Ex.av) : Int) + 1) ∧ u.slots 5 = .int .i64 i ∧ InRow u.mem st.mem g T 19 c i ys B [.int .i64 (ki), .str (markT (ki + 1)), .int .i64 (ki + 1 + 1), .int .i64 (ki + 1 + 1 + 1), .str (markT (ki + 1 + 1 + 1 + 1)), a5, .int .i64 (ki + 1 + 1 + 1 + 1 + 1 + (AV.cnts (c3.map Ex.av) : Int)), .int .i64 (ki + 1 + 1 + 1 + 1 + 1 + (AV.cnts (c3.map Ex.av) : Int) + 1), a8, a9, a10, a11, a12, a13, a14, a15, a16, a17, a18] [.int .i64 (ki), .str (markT (ki + 1)), .int .i64 (ki + 1 + 1), .int .i64 (ki + 1 + 1 + 1), .str (markT (ki + 1 + 1 + 1 + 1)), .lst false 4 (l5.map Ex.av), .int .i64 (ki + 1 + 1 + 1 + 1 + 1 + (AV.cnts (c3.map Ex.av) : Int)), .int .i64 (ki + 1 + 1 + 1 + 1 + 1 + (AV.cnts (c3.map Ex.av) : Int) + 1), .str d2, .lst false 4 (d3.map Ex.av), .int .i64 p0, .int .i64 p1, .str p2, .lst false 4 (p3.map Ex.av), .int .i64 q0, .int .i64 q1, .str q2, .lst false 4 (q3.map Ex.av), .lst false 19 (b6.map Sm.av)]) ?_ ?_
  · refine AWp.region noP (by kernel_rfl) ?_
    simp [s0, s1, s5, hx, hst]
    exact I2
  clear hg hx hst I2 I
  rintro u7 ⟨s0, s1, s5, I⟩
  have hw : IntKind.wrap .i64 (ki + 1 + 1 + 1 + 1 + 1 + (AV.cnts (c3.map Ex.av) : Int) + 1 + 1) = ki + 1 + 1 + 1 + 1 + 1 + (AV.cnts (c3.map Ex.av) : Int) + 1 + 1 := wrap64 (by omega) (by omega)
  (repeat refine AWp.seq ?_); refine AWp.region noP (by kernel_rfl) ?_
  simp [s1, hw]
  clear hw
  have hg := I.row
  have hx : idxA Tryz.prog u7.mem 36 (.own g n c) (.int .i64 i) = some (.elt g 19 i 0) := idx_own es_36 hg (by simp [hy]) hlt
  have I2 := I.leaf 8 (x := .str (markT (ki + 1 + 1 + 1 + 1 + 1 + (AV.cnts (c3.map Ex.av) : Int) + 1 + 1))) (own_str _)
  have hst := I.store (by omega) rfl 8 (by omega) (by omega) (x := .str (markT (ki + 1 + 1 + 1 + 1 + 1 + (AV.cnts (c3.map Ex.av) : Int) + 1 + 1))) rfl
  simp only [List.set_cons_zero, List.set_cons_succ] at I2 hst
  (repeat refine AWp.seq ?_); refine AWp.cutA (fun u => u.slots 0 = .own g n c ∧ u.slots 1 = .int .i64 (ki + 1 + 1 + 1 + 1 + 1 + (AV.cnts (c3.map Ex.av) : Int) + 1 + 1) ∧ u.slots 5 = .int .i64 i ∧ InRow u.mem st.mem g T 19 c i ys B [.int .i64 (ki), .str (markT (ki + 1)), .int .i64 (ki + 1 + 1), .int .i64 (ki + 1 + 1 + 1), .str (markT (ki + 1 + 1 + 1 + 1)), a5, .int .i64 (ki + 1 + 1 + 1 + 1 + 1 + (AV.cnts (c3.map Ex.av) : Int)), .int .i64 (ki + 1 + 1 + 1 + 1 + 1 + (AV.cnts (c3.map Ex.av) : Int) + 1), .str (markT (ki + 1 + 1 + 1 + 1 + 1 + (AV.cnts (c3.map Ex.av) : Int) + 1 + 1)), a9, a10, a11, a12, a13, a14, a15, a16, a17, a18] [.int .i64 (ki), .str (markT (ki + 1)), .int .i64 (ki + 1 + 1), .int .i64 (ki + 1 + 1 + 1), .str (markT (ki + 1 + 1 + 1 + 1)), .lst false 4 (l5.map Ex.av), .int .i64 (ki + 1 + 1 + 1 + 1 + 1 + (AV.cnts (c3.map Ex.av) : Int)), .int .i64 (ki + 1 + 1 + 1 + 1 + 1 + (AV.cnts (c3.map Ex.av) : Int) + 1), .str (markT (ki + 1 + 1 + 1 + 1 + 1 + (AV.cnts (c3.map Ex.av) : Int) + 1 + 1)), .lst false 4 (d3.map Ex.av), .int .i64 p0, .int .i64 p1, .str p2, .lst false 4 (p3.map Ex.av), .int .i64 q0, .int .i64 q1, .str q2, .lst false 4 (q3.map Ex.av), .lst false 19 (b6.map Sm.av)]) ?_ ?_
  · refine AWp.region noP (by kernel_rfl) ?_
    simp [s0, s1, s5, hx, hst]
    refine aop_call' (c_markText (ki + 1 + 1 + 1 + 1 + 1 + (AV.cnts (c3.map Ex.av) : Int) + 1 + 1) (by omega) (by omega)) ?_
    simp [s0, s1, s5, hx, hst]
    exact I2
  clear hg hx hst I2 I
  rintro u8 ⟨s0, s1, s5, I⟩
  have hw : IntKind.wrap .i64 (ki + 1 + 1 + 1 + 1 + 1 + (AV.cnts (c3.map Ex.av) : Int) + 1 + 1 + 1) = ki + 1 + 1 + 1 + 1 + 1 + (AV.cnts (c3.map Ex.av) : Int) + 1 + 1 + 1 := wrap64 (by omega) (by omega)
  (repeat refine AWp.seq ?_); refine AWp.region noP (by kernel_rfl) ?_
  simp [s1, hw]
  clear hw
  have hg := I.row
  have hx : idxA Tryz.prog u8.mem 36 (.own g n c) (.int .i64 i) = some (.elt g 19 i 0) := idx_own es_36 hg (by simp [hy]) hlt
  obtain ⟨A, x, hxo, hown, hupd⟩ := I.call (o := 9) (by simp)
  obtain rfl : .lst false 4 (d3.map Ex.av) = x := Option.some.inj hxo
  simp only [List.getElem_cons_succ, List.getElem_cons_zero] at hown hupd
  (repeat refine AWp.seq ?_); refine AWp.cutA (fun u => ∃ l9 : List Ex, u.slots 0 = .own g n c ∧ u.slots 1 = .int .i64 (ki + 1 + 1 + 1 + 1 + 1 + (AV.cnts (c3.map Ex.av) : Int) + 1 + 1 + 1 + (AV.cnts (d3.map Ex.av) : Int)) ∧ u.slots 5 = .int .i64 i ∧ Held (l9.map Ex.av) (ki + 1 + 1 + 1 + 1 + 1 + (AV.cnts (c3.map Ex.av) : Int) + 1 + 1 + 1) (ki + 1 + 1 + 1 + 1 + 1 + (AV.cnts (c3.map Ex.av) : Int) + 1 + 1 + 1 + (AV.cnts (d3.map Ex.av) : Int)) ∧ InRow u.mem st.mem g T 19 c i ys B [.int .i64 (ki), .str (markT (ki + 1)), .int .i64 (ki + 1 + 1), .int .i64 (ki + 1 + 1 + 1), .str (markT (ki + 1 + 1 + 1 + 1)), a5, .int .i64 (ki + 1 + 1 + 1 + 1 + 1 + (AV.cnts (c3.map Ex.av) : Int)), .int .i64 (ki + 1 + 1 + 1 + 1 + 1 + (AV.cnts (c3.map Ex.av) : Int) + 1), .str (markT (ki + 1 + 1 + 1 + 1 + 1 + (AV.cnts (c3.map Ex.av) : Int) + 1 + 1)), a9, a10, a11, a12, a13, a14, a15, a16, a17, a18] [.int .i64 (ki), .str (markT (ki + 1)), .int .i64 (ki + 1 + 1), .int .i64 (ki + 1 + 1 + 1), .str (markT (ki + 1 + 1 + 1 + 1)), .lst false 4 (l5.map Ex.av), .int .i64 (ki + 1 + 1 + 1 + 1 + 1 + (AV.cnts (c3.map Ex.av) : Int)), .int .i64 (ki + 1 + 1 + 1 + 1 + 1 + (AV.cnts (c3.map Ex.av) : Int) + 1), .str (markT (ki + 1 + 1 + 1 + 1 + 1 + (AV.cnts (c3.map Ex.av) : Int) + 1 + 1)), .lst false 4 (l9.map Ex.av), .int .i64 p0, .int .i64 p1, .str p2, .lst false 4 (p3.map Ex.av), .int .i64 q0, .int .i64 q1, .str q2, .lst false 4 (q3.map Ex.av), .lst false 19 (b6.map Sm.av)]) ?_ ?_
  · refine AWp.region noP (by kernel_rfl) ?_
    simp [s0, s1, s5, hx, hg, hy, hlt]
    refine aop_wcall _ _ _ _ _ _ _ _ rfl (eval_func _ _) ?_
    refine c_markExpS _ _ _ _ _ hown (ki + 1 + 1 + 1 + 1 + 1 + (AV.cnts (c3.map Ex.av) : Int) + 1 + 1 + 1) (by omega) (by omega) _ fun m' l' hout ho hh => ?_
    simp [s0, s1, s5]
    have I2 := hupd m' _ hout ho
    simp only [List.set_cons_zero, List.set_cons_succ] at I2
    exact ⟨l', hh, I2⟩
  clear hg hx I hupd hown hxo
  rintro u9 ⟨l9, s0, s1, s5, hh9, I⟩
  have hg := I.row
  have hx : idxA Tryz.prog u9.mem 36 (.own g n c) (.int .i64 i) = some (.elt g 19 i 0) := idx_own es_36 hg (by simp [hy]) hlt
  have I2 := I.leaf 10 (x := .int .i64 (ki + 1 + 1 + 1 + 1 + 1 + (AV.cnts (c3.map Ex.av) : Int) + 1 + 1 + 1 + (AV.cnts (d3.map Ex.av) : Int))) (own_int _ _)
  have hst := I.store (by omega) rfl 10 (by omega) (by omega) (x := .int .i64 (ki + 1 + 1 + 1 + 1 + 1 + (AV.cnts (c3.map Ex.av) : Int) + 1 + 1 + 1 + (AV.cnts (d3.map Ex.av) : Int))) rfl
  simp only [List.set_cons_zero, List.set_cons_succ] at I2 hst
  (repeat refine AWp.seq ?_); refine AWp.cutA (fun u => u.slots 0 = .own g n c ∧ u.slots 1 = .int .i64 (ki + 1 + 1 + 1 + 1 + 1 + (AV.cnts (c3.map Ex.av) : Int) + 1 + 1 + 1 + (AV.cnts (d3.map Ex.av) : Int)) ∧ u.slots 5 = .int .i64 i ∧ InRow u.mem st.mem g T 19 c i ys B [.int .i64 (ki), .str (markT (ki + 1)), .int .i64 (ki + 1 + 1), .int .i64 (ki + 1 + 1 + 1), .str (markT (ki + 1 + 1 + 1 + 1)), a5, .int .i64 (ki + 1 + 1 + 1 + 1 + 1 + (AV.cnts (c3.map Ex.av) : Int)), .int .i64 (ki + 1 + 1 + 1 + 1 + 1 + (AV.cnts (c3.map Ex.av) : Int) + 1), .str (markT (ki + 1 + 1 + 1 + 1 + 1 + (AV.cnts (c3.map Ex.av) : Int) + 1 + 1)), a9, .int .i64 (ki + 1 + 1 + 1 + 1 + 1 + (AV.cnts (c3.map Ex.av) : Int) + 1 + 1 + 1 + (AV.cnts (d3.map Ex.av) : Int)), a11, a12, a13, a14, a15, a16, a17, a18] [.int .i64 (ki), .str (markT (ki + 1)), .int .i64 (ki + 1 + 1), .int .i64 (ki + 1 + 1 + 1), .str (markT (ki + 1 + 1 + 1 + 1)), .lst false 4 (l5.map Ex.av), .int .i64 (ki + 1 + 1 + 1 + 1 + 1 + (AV.cnts (c3.map Ex.av) : Int)), .int .i64 (ki + 1 + 1 + 1 + 1 + 1 + (AV.cnts (c3.map Ex.av) : Int) + 1), .str (markT (ki + 1 + 1 + 1 + 1 + 1 + (AV.cnts (c3.map Ex.av) : Int) + 1 + 1)), .lst false 4 (l9.map Ex.av), .int .i64 (ki + 1 + 1 + 1 + 1 + 1 + (AV.cnts (c3.map Ex.av) : Int) + 1 + 1 + 1 + (AV.cnts (d3.map Ex.av) : Int)), .int .i64 p1, .str p2, .lst false 4 (p3.map Ex.av), .int .i64 q0, .int .i64 q1, .str q2, .lst false 4 (q3.map Ex.av), .lst false 19 (b6.map Sm.av)]) ?_ ?_
  · refine AWp.region noP (by kernel_rfl) ?_
    simp [s0, s1, s5, hx, hst]
    exact I2
  clear hg hx hst I2 I
  rintro u10 ⟨s0, s1, s5, I⟩
  have hw : IntKind.wrap .i64 (ki + 1 + 1 + 1 + 1 + 1 + (AV.cnts (c3.map Ex.av) : Int) + 1 + 1 + 1 + (AV.cnts (d3.map Ex.av) : Int) + 1) = ki + 1 + 1 + 1 + 1 + 1 + (AV.cnts (c3.map Ex.av) : Int) + 1 + 1 + 1 + (AV.cnts (d3.map Ex.av) : Int) + 1 := wrap64 (by omega) (by omega)
  (repeat refine AWp.seq ?_); refine AWp.region noP (by kernel_rfl) ?_
  simp [s1, hw]
  clear hw
  have hg := I.row
  have hx : idxA Tryz.prog u10.mem 36 (.own g n c) (.int .i64 i) = some (.elt g 19 i 0) := idx_own es_36 hg (by simp [hy]) hlt
  have I2 := I.leaf 11 (x := .int .i64 (ki + 1 + 1 + 1 + 1 + 1 + (AV.cnts (c3.map Ex.av) : Int) + 1 + 1 + 1 + (AV.cnts (d3.map Ex.av) : Int) + 1)) (own_int _ _)
  have hst := I.store (by omega) rfl 11 (by omega) (by omega) (x := .int .i64 (ki + 1 + 1 + 1 + 1 + 1 + (AV.cnts (c3.map Ex.av) : Int) + 1 + 1 + 1 + (AV.cnts (d3.map Ex.av) : Int) + 1)) rfl
  simp only [List.set_cons_zero, List.set_cons_succ] at I2 hst
  (repeat refine AWp.seq ?_); refine AWp.cutA (fun u => u.slots 0 = .own g n c ∧ u.slots 1 = .int .i64 (ki + 1 + 1 + 1 + 1 + 1 + (AV.cnts (c3.map Ex.av) : Int) + 1 + 1 + 1 + (AV.cnts (d3.map Ex.av) : Int) + 1) ∧ u.slots 5 = .int .i64 i ∧ InRow u.mem st.mem g T 19 c i ys B [.int .i64 (ki), .str (markT (ki + 1)), .int .i64 (ki + 1 + 1), .int .i64 (ki + 1 + 1 + 1), .str (markT (ki + 1 + 1 + 1 + 1)), a5, .int .i64 (ki + 1 + 1 + 1 + 1 + 1 + (AV.cnts (c3.map Ex.av) : Int)), .int .i64 (ki + 1 + 1 + 1 + 1 + 1 + (AV.cnts (c3.map Ex.av) : Int) + 1), .str (markT (ki + 1 + 1 + 1 + 1 + 1 + (AV.cnts (c3.map Ex.av) : Int) + 1 + 1)), a9, .int .i64 (ki + 1 + 1 + 1 + 1 + 1 + (AV.cnts (c3.map Ex.av) : Int) + 1 + 1 + 1 + (AV.cnts (d3.map Ex.av) : Int)), .int .i64 (ki + 1 + 1 + 1 + 1 + 1 + (AV.cnts (c3.map Ex.av) : Int) + 1 + 1 + 1 + (AV.cnts (d3.map Ex.av) : Int) + 1), a12, a13, a14, a15, a16, a17, a18] [.int .i64 (ki), .str (markT (ki + 1)), .int .i64 (ki + 1 + 1), .int .i64 (ki + 1 + 1 + 1), .str (markT (ki + 1 + 1 + 1 + 1)), .lst false 4 (l5.map Ex.av), .int .i64 (ki + 1 + 1 + 1 + 1 + 1 + (AV.cnts (c3.map Ex.av) : Int)), .int .i64 (ki + 1 + 1 + 1 + 1 + 1 + (AV.cnts (c3.map Ex.av) : Int) + 1), .str (markT (ki + 1 + 1 + 1 + 1 + 1 + (AV.cnts (c3.map Ex.av) : Int) + 1 + 1)), .lst false 4 (l9.map Ex.av), .int .i64 (ki + 1 + 1 + 1 + 1 + 1 + (AV.cnts (c3.map Ex.av) : Int) + 1 + 1 + 1 + (AV.cnts (d3.map Ex.av) : Int)), .int .i64 (ki + 1 + 1 + 1 + 1 + 1 + (AV.cnts (c3.map Ex.av) : Int) + 1 + 1 + 1 + (AV.cnts (d3.map Ex.av) : Int) + 1), .str p2, .lst false 4 (p3.map Ex.av), .int .i64 q0, .int .i64 q1, .str q2, .lst false 4 (q3.map Ex.av), .lst false 19 (b6.map Sm.av)]) ?_ ?_
  · refine AWp.region noP (by kernel_rfl) ?_
    simp [s0, s1, s5, hx, hst]
    exact I2
  clear hg hx hst I2 I
  rintro u11 ⟨s0, s1, s5, I⟩
  have hw : IntKind.wrap .i64 (ki + 1 + 1 + 1 + 1 + 1 + (AV.cnts (c3.map Ex.av) : Int) + 1 + 1 + 1 + (AV.cnts (d3.map Ex.av) : Int) + 1 + 1) = ki + 1 + 1 + 1 + 1 + 1 + (AV.cnts (c3.map Ex.av) : Int) + 1 + 1 + 1 + (AV.cnts (d3.map Ex.av) : Int) + 1 + 1 := wrap64 (by omega) (by omega)
  (repeat refine AWp.seq ?_); refine AWp.region noP (by kernel_rfl) ?_
  simp [s1, hw]
  clear hw
  have hg := I.row
  have hx : idxA Tryz.prog u11.mem 36 (.own g n c) (.int .i64 i) = some (.elt g 19 i 0) := idx_own es_36 hg (by simp [hy]) hlt
  have I2 := I.leaf 12 (x := .str (markT (ki + 1 + 1 + 1 + 1 + 1 + (AV.cnts (c3.map Ex.av) : Int) + 1 + 1 + 1 + (AV.cnts (d3.map Ex.av) : Int) + 1 + 1))) (own_str _)
  have hst := I.store (by omega) rfl 12 (by omega) (by omega) (x := .str (markT (ki + 1 + 1 + 1 + 1 + 1 + (AV.cnts (c3.map Ex.av) : Int) + 1 + 1 + 1 + (AV.cnts (d3.map Ex.av) : Int) + 1 + 1))) rfl
  simp only [List.set_cons_zero, List.set_cons_succ] at I2 hst
  (repeat refine AWp.seq ?_); refine AWp.cutA (fun u => u.slots 0 = .own g n c ∧ u.slots 1 = .int .i64 (ki + 1 + 1 + 1 + 1 + 1 + (AV.cnts (c3.map Ex.av) : Int) + 1 + 1 + 1 + (AV.cnts (d3.map Ex.av) : Int) + 1 + 1) ∧ u.slots 5 = .int .i64 i ∧ InRow u.mem st.mem g T 19 c i ys B [.int .i64 (ki), .str (markT (ki + 1)), .int .i64 (ki + 1 + 1), .int .i64 (ki + 1 + 1 + 1), .str (markT (ki + 1 + 1 + 1 + 1)), a5, .int .i64 (ki + 1 + 1 + 1 + 1 + 1 + (AV.cnts (c3.map Ex.av) : Int)), .int .i64 (ki + 1 + 1 + 1 + 1 + 1 + (AV.cnts (c3.map Ex.av) : Int) + 1), .str (markT (ki + 1 + 1 + 1 + 1 + 1 + (AV.cnts (c3.map Ex.av) : Int) + 1 + 1)), a9, .int .i64 (ki + 1 + 1 + 1 + 1 + 1 + (AV.cnts (c3.map Ex.av) : Int) + 1 + 1 + 1 + (AV.cnts (d3.map Ex.av) : Int)), .int .i64 (ki + 1 + 1 + 1 + 1 + 1 + (AV.cnts (c3.map Ex.av) : Int) + 1 + 1 + 1 + (AV.cnts (d3.map Ex.av) : Int) + 1), .str (markT (ki + 1 + 1 + 1 + 1 + 1 + (AV.cnts (c3.map Ex.av) : Int) + 1 + 1 + 1 + (AV.cnts (d3.map Ex.av) : Int) + 1 + 1)), a13, a14, a15, a16, a17, a18] [.int .i64 (ki), .str (markT (ki + 1)), .int .i64 (ki + 1 + 1), .int .i64 (ki + 1 + 1 + 1), .str (markT (ki + 1 + 1 + 1 + 1)), .lst false 4 (l5.map Ex.av), .int .i64 (ki + 1 + 1 + 1 + 1 + 1 + (AV.cnts (c3.map Ex.av) : Int)), .int .i64 (ki + 1 + 1 + 1 + 1 + 1 + (AV.cnts (c3.map Ex.av) : Int) + 1), .str (markT (ki + 1 + 1 + 1 + 1 + 1 + (AV.cnts (c3.map Ex.av) : Int) + 1 + 1)), .lst false 4 (l9.map Ex.av), .int .i64 (ki + 1 + 1 + 1 + 1 + 1 + (AV.cnts (c3.map Ex.av) : Int) + 1 + 1 + 1 + (AV.cnts (d3.map Ex.av) : Int)), .int .i64 (ki + 1 + 1 + 1 + 1 + 1 + (AV.cnts (c3.map Ex.av) : Int) + 1 + 1 + 1 + (AV.cnts (d3.map Ex.av) : Int) + 1), .str (markT (ki + 1 + 1 + 1 + 1 + 1 + (AV.cnts (c3.map Ex.av) : Int) + 1 + 1 + 1 + (AV.cnts (d3.map Ex.av) : Int) + 1 + 1)), .lst false 4 (p3.map Ex.av), .int .i64 q0, .int .i64 q1, .str q2, .lst false 4 (q3.map Ex.av), .lst false 19 (b6.map Sm.av)]) ?_ ?_
  · refine AWp.region noP (by kernel_rfl) ?_
    simp [s0, s1, s5, hx, hst]
    refine aop_call' (c_markText (ki + 1 + 1 + 1 + 1 + 1 + (AV.cnts (c3.map Ex.av) : Int) + 1 + 1 + 1 + (AV.cnts (d3.map Ex.av) : Int) + 1 + 1) (by omega) (by omega)) ?_
    simp [s0, s1, s5, hx, hst]
    exact I2
  clear hg hx hst I2 I
  rintro u12 ⟨s0, s1, s5, I⟩
  have hw : IntKind.wrap .i64 (ki + 1 + 1 + 1 + 1 + 1 + (AV.cnts (c3.map Ex.av) : Int) + 1 + 1 + 1 + (AV.cnts (d3.map Ex.av) : Int) + 1 + 1 + 1) = ki + 1 + 1 + 1 + 1 + 1 + (AV.cnts (c3.map Ex.av) : Int) + 1 + 1 + 1 + (AV.cnts (d3.map Ex.av) : Int) + 1 + 1 + 1 := wrap64 (by omega) (by omega)
  (repeat refine AWp.seq ?_); refine AWp.region noP (by kernel_rfl) ?_
  simp [s1, hw]
  clear hw
  have hg := I.row
  have hx : idxA Tryz.prog u12.mem 36 (.own g n c) (.int .i64 i) = some (.elt g 19 i 0) := idx_own es_36 hg (by simp [hy]) hlt
  obtain ⟨A, x, hxo, hown, hupd⟩ := I.call (o := 13) (by simp)
  obtain rfl : .lst false 4 (p3.map Ex.av) = x := Option.some.inj hxo
  simp only [List.getElem_cons_succ, List.getElem_cons_zero] at hown hupd
  (repeat refine AWp.seq ?_); refine AWp.cutA (fun u => ∃ l13 : List Ex, u.slots 0 = .own g n c ∧ u.slots 1 = .int .i64 (ki + 1 + 1 + 1 + 1 + 1 + (AV.cnts (c3.map Ex.av) : Int) + 1 + 1 + 1 + (AV.cnts (d3.map Ex.av) : Int) + 1 + 1 + 1 + (AV.cnts (p3.map Ex.av) : Int)) ∧ u.slots 5 = .int .i64 i ∧ Held (l13.map Ex.av) (ki + 1 + 1 + 1 + 1 + 1 + (AV.cnts (c3.map Ex.av) : Int) + 1 + 1 + 1 + (AV.cnts (d3.map Ex.av) : Int) + 1 + 1 + 1) (ki + 1 + 1 + 1 + 1 + 1 + (AV.cnts (c3.map Ex.av) : Int) + 1 + 1 + 1 + (AV.cnts (d3.map Ex.av) : Int) + 1 + 1 + 1 + (AV.cnts (p3.map Ex.av) : Int)) ∧ InRow u.mem st.mem g T 19 c i ys B [.int .i64 (ki), .str (markT (ki + 1)), .int .i64 (ki + 1 + 1), .int .i64 (ki + 1 + 1 + 1), .str (markT (ki + 1 + 1 + 1 + 1)), a5, .int .i64 (ki + 1 + 1 + 1 + 1 + 1 + (AV.cnts (c3.map Ex.av) : Int)), .int .i64 (ki + 1 + 1 + 1 + 1 + 1 + (AV.cnts (c3.map Ex.av) : Int) + 1), .str (markT (ki + 1 + 1 + 1 + 1 + 1 + (AV.cnts (c3.map Ex.av) : Int) + 1 + 1)), a9, .int .i64 (ki + 1 + 1 + 1 + 1 + 1 + (AV.cnts (c3.map Ex.av) : Int) + 1 + 1 + 1 + (AV.cnts (d3.map Ex.av) : Int)), .int .i64 (ki + 1 + 1 + 1 + 1 + 1 + (AV.cnts (c3.map Ex.av) : Int) + 1 + 1 + 1 + (AV.cnts (d3.map Ex.av) : Int) + 1), .str (markT (ki + 1 + 1 + 1 + 1 + 1 + (AV.cnts (c3.map Ex.av) : Int) + 1 + 1 + 1 + (AV.cnts (d3.map Ex.av) : Int) + 1 + 1)), a13, a14, a15, a16, a17, a18] [.int .i64 (ki), .str (markT (ki + 1)), .int .i64 (ki + 1 + 1), .int .i64 (ki + 1 + 1 + 1), .str (markT (ki + 1 + 1 + 1 + 1)), .lst false 4 (l5.map Ex.av), .int .i64 (ki + 1 + 1 + 1 + 1 + 1 + (AV.cnts (c3.map Ex.av) : Int)), .int .i64 (ki + 1 + 1 + 1 + 1 + 1 + (AV.cnts (c3.map Ex.av) : Int) + 1), .str (markT (ki + 1 + 1 + 1 + 1 + 1 + (AV.cnts (c3.map Ex.av) : Int) + 1 + 1)), .lst false 4 (l9.map Ex.av), .int .i64 (ki + 1 + 1 + 1 + 1 + 1 + (AV.cnts (c3.map Ex.av) : Int) + 1 + 1 + 1 + (AV.cnts (d3.map Ex.av) : Int)), .int .i64 (ki + 1 + 1 + 1 + 1 + 1 + (AV.cnts (c3.map Ex.av) : Int) + 1 + 1 + 1 + (AV.cnts (d3.map Ex.av) : Int) + 1), .str (markT (ki + 1 + 1 + 1 + 1 + 1 + (AV.cnts (c3.map Ex.av) : Int) + 1 + 1 + 1 + (AV.cnts (d3.map Ex.av) : Int) + 1 + 1)), .lst false 4 (l13.map Ex.av), .int .i64 q0, .int .i64 q1, .str q2, .lst false 4 (q3.map Ex.av), .lst false 19 (b6.map Sm.av)]) ?_ ?_
  · refine AWp.region noP (by kernel_rfl) ?_
    simp [s0, s1, s5, hx, hg, hy, hlt]
    refine aop_wcall _ _ _ _ _ _ _ _ rfl (eval_func _ _) ?_
    refine c_markExpS _ _ _ _ _ hown (ki + 1 + 1 + 1 + 1 + 1 + (AV.cnts (c3.map Ex.av) : Int) + 1 + 1 + 1 + (AV.cnts (d3.map Ex.av) : Int) + 1 + 1 + 1) (by omega) (by omega) _ fun m' l' hout ho hh => ?_
    simp [s0, s1, s5]
    have I2 := hupd m' _ hout ho
    simp only [List.set_cons_zero, List.set_cons_succ] at I2
    exact ⟨l', hh, I2⟩
  clear hg hx I hupd hown hxo
  rintro u13 ⟨l13, s0, s1, s5, hh13, I⟩
  have hg := I.row
  have hx : idxA Tryz.prog u13.mem 36 (.own g n c) (.int .i64 i) = some (.elt g 19 i 0) := idx_own es_36 hg (by simp [hy]) hlt
  have I2 := I.leaf 14 (x := .int .i64 (ki + 1 + 1 + 1 + 1 + 1 + (AV.cnts (c3.map Ex.av) : Int) + 1 + 1 + 1 + (AV.cnts (d3.map Ex.av) : Int) + 1 + 1 + 1 + (AV.cnts (p3.map Ex.av) : Int))) (own_int _ _)
  have hst := I.store (by omega) rfl 14 (by omega) (by omega) (x := .int .i64 (ki + 1 + 1 + 1 + 1 + 1 + (AV.cnts (c3.map Ex.av) : Int) + 1 + 1 + 1 + (AV.cnts (d3.map Ex.av) : Int) + 1 + 1 + 1 + (AV.cnts (p3.map Ex.av) : Int))) rfl
  simp only [List.set_cons_zero, List.set_cons_succ] at I2 hst
  (repeat refine AWp.seq ?_); refine AWp.cutA (fun u => u.slots 0 = .own g n c ∧ u.slots 1 = .int .i64 (ki + 1 + 1 + 1 + 1 + 1 + (AV.cnts (c3.map Ex.av) : Int) + 1 + 1 + 1 + (AV.cnts (d3.map Ex.av) : Int) + 1 + 1 + 1 + (AV.cnts (p3.map Ex.av) : Int)) ∧ u.slots 5 = .int .i64 i ∧ InRow u.mem st.mem g T 19 c i ys B [.int .i64 (ki), .str (markT (ki + 1)), .int .i64 (ki + 1 + 1), .int .i64 (ki + 1 + 1 + 1), .str (markT (ki + 1 + 1 + 1 + 1)), a5, .int .i64 (ki + 1 + 1 + 1 + 1 + 1 + (AV.cnts (c3.map Ex.av) : Int)), .int .i64 (ki + 1 + 1 + 1 + 1 + 1 + (AV.cnts (c3.map Ex.av) : Int) + 1), .str (markT (ki + 1 + 1 + 1 + 1 + 1 + (AV.cnts (c3.map Ex.av) : Int) + 1 + 1)), a9, .int .i64 (ki + 1 + 1 + 1 + 1 + 1 + (AV.cnts (c3.map Ex.av) : Int) + 1 + 1 + 1 + (AV.cnts (d3.map Ex.av) : Int)), .int .i64 (ki + 1 + 1 + 1 + 1 + 1 + (AV.cnts (c3.map Ex.av) : Int) + 1 + 1 + 1 + (AV.cnts (d3.map Ex.av) : Int) + 1), .str (markT (ki + 1 + 1 + 1 + 1 + 1 + (AV.cnts (c3.map Ex.av) : Int) + 1 + 1 + 1 + (AV.cnts (d3.map Ex.av) : Int) + 1 + 1)), a13, .int .i64 (ki + 1 + 1 + 1 + 1 + 1 + (AV.cnts (c3.map Ex.av) : Int) + 1 + 1 + 1 + (AV.cnts (d3.map Ex.av) : Int) + 1 + 1 + 1 + (AV.cnts (p3.map Ex.av) : Int)), a15, a16, a17, a18] [.int .i64 (ki), .str (markT (ki + 1)), .int .i64 (ki + 1 + 1), .int .i64 (ki + 1 + 1 + 1), .str (markT (ki + 1 + 1 + 1 + 1)), .lst false 4 (l5.map Ex.av), .int .i64 (ki + 1 + 1 + 1 + 1 + 1 + (AV.cnts (c3.map Ex.av) : Int)), .int .i64 (ki + 1 + 1 + 1 + 1 + 1 + (AV.cnts (c3.map Ex.av) : Int) + 1), .str (markT (ki + 1 + 1 + 1 + 1 + 1 + (AV.cnts (c3.map Ex.av) : Int) + 1 + 1)), .lst false 4 (l9.map Ex.av), .int .i64 (ki + 1 + 1 + 1 + 1 + 1 + (AV.cnts (c3.map Ex.av) : Int) + 1 + 1 + 1 + (AV.cnts (d3.map Ex.av) : Int)), .int .i64 (ki + 1 + 1 + 1 + 1 + 1 + (AV.cnts (c3.map Ex.av) : Int) + 1 + 1 + 1 + (AV.cnts (d3.map Ex.av) : Int) + 1), .str (markT (ki + 1 + 1 + 1 + 1 + 1 + (AV.cnts (c3.map Ex.av) : Int) + 1 + 1 + 1 + (AV.cnts (d3.map Ex.av) : Int) + 1 + 1)), .lst false 4 (l13.map Ex.av), .int .i64 (ki + 1 + 1 + 1 + 1 + 1 + (AV.cnts (c3.map Ex.av) : Int) + 1 + 1 + 1 + (AV.cnts (d3.map Ex.av) : Int) + 1 + 1 + 1 + (AV.cnts (p3.map Ex.av) : Int)), .int .i64 q1, .str q2, .lst false 4 (q3.map Ex.av), .lst false 19 (b6.map Sm.av)]) ?_ ?_
  · refine AWp.region noP (by kernel_rfl) ?_
    simp [s0, s1, s5, hx, hst]
    exact I2
  clear hg hx hst I2 I
  rintro u14 ⟨s0, s1, s5, I⟩
  have hw : IntKind.wrap .i64 (ki + 1 + 1 + 1 + 1 + 1 + (AV.cnts (c3.map Ex.av) : Int) + 1 + 1 + 1 + (AV.cnts (d3.map Ex.av) : Int) + 1 + 1 + 1 + (AV.cnts (p3.map Ex.av) : Int) + 1) = ki + 1 + 1 + 1 + 1 + 1 + (AV.cnts (c3.map Ex.av) : Int) + 1 + 1 + 1 + (AV.cnts (d3.map Ex.av) : Int) + 1 + 1 + 1 + (AV.cnts (p3.map Ex.av) : Int) + 1 := wrap64 (by omega) (by omega)
  (repeat refine AWp.seq ?_); refine AWp.region noP (by kernel_rfl) ?_
  simp [s1, hw]
  clear hw
  have hg := I.row
  have hx : idxA Tryz.prog u14.mem 36 (.own g n c) (.int .i64 i) = some (.elt g 19 i 0) := idx_own es_36 hg (by simp [hy]) hlt
  have I2 := I.leaf 15 (x := .int .i64 (ki + 1 + 1 + 1 + 1 + 1 + (AV.cnts (c3.map Ex.av) : Int) + 1 + 1 + 1 + (AV.cnts (d3.map Ex.av) : Int) + 1 + 1 + 1 + (AV.cnts (p3.map Ex.av) : Int) + 1)) (own_int _ _)
  have hst := I.store (by omega) rfl 15 (by omega) (by omega) (x := .int .i64 (ki + 1 + 1 + 1 + 1 + 1 + (AV.cnts (c3.map Ex.av) : Int) + 1 + 1 + 1 + (AV.cnts (d3.map Ex.av) : Int) + 1 + 1 + 1 + (AV.cnts (p3.map Ex.av) : Int) + 1)) rfl
  simp only [List.set_cons_zero, List.set_cons_succ] at I2 hst
  (repeat refine AWp.seq ?_); refine AWp.cutA (fun u => u.slots 0 = .own g n c ∧ u.slots 1 = .int .i64 (ki + 1 + 1 + 1 + 1 + 1 + (AV.cnts (c3.map Ex.av) : Int) + 1 + 1 + 1 + (AV.cnts (d3.map Ex.av) : Int) + 1 + 1 + 1 + (AV.cnts (p3.map Ex.av) : Int) + 1) ∧ u.slots 5 = .int .i64 i ∧ InRow u.mem st.mem g T 19 c i ys B [.int .i64 (ki), .str (markT (ki + 1)), .int .i64 (ki + 1 + 1), .int .i64 (ki + 1 + 1 + 1), .str (markT (ki + 1 + 1 + 1 + 1)), a5, .int .i64 (ki + 1 + 1 + 1 + 1 + 1 + (AV.cnts (c3.map Ex.av) : Int)), .int .i64 (ki + 1 + 1 + 1 + 1 + 1 + (AV.cnts (c3.map Ex.av) : Int) + 1), .str (markT (ki + 1 + 1 + 1 + 1 + 1 + (AV.cnts (c3.map Ex.av) : Int) + 1 + 1)), a9, .int .i64 (ki + 1 + 1 + 1 + 1 + 1 + (AV.cnts (c3.map Ex.av) : Int) + 1 + 1 + 1 + (AV.cnts (d3.map Ex.av) : Int)), .int .i64 (ki + 1 + 1 + 1 + 1 + 1 + (AV.cnts (c3.map Ex.av) : Int) + 1 + 1 + 1 + (AV.cnts (d3.map Ex.av) : Int) + 1), .str (markT (ki + 1 + 1 + 1 + 1 + 1 + (AV.cnts (c3.map Ex.av) : Int) + 1 + 1 + 1 + (AV.cnts (d3.map Ex.av) : Int) + 1 + 1)), a13, .int .i64 (ki + 1 + 1 + 1 + 1 + 1 + (AV.cnts (c3.map Ex.av) : Int) + 1 + 1 + 1 + (AV.cnts (d3.map Ex.av) : Int) + 1 + 1 + 1 + (AV.cnts (p3.map Ex.av) : Int)), .int .i64 (ki + 1 + 1 + 1 + 1 + 1 + (AV.cnts (c3.map Ex.av) : Int) + 1 + 1 + 1 + (AV.cnts (d3.map Ex.av) : Int) + 1 + 1 + 1 + (AV.cnts (p3.map Ex.av) : Int) + 1), a16, a17, a18] [.int .i64 (ki), .str (markT (ki + 1)), .int .i64 (ki + 1 + 1), .int .i64 (ki + 1 + 1 + 1), .str (markT (ki + 1 + 1 + 1 + 1)), .lst false 4 (l5.map Ex.av), .int .i64 (ki + 1 + 1 + 1 + 1 + 1 + (AV.cnts (c3.map Ex.av) : Int)), .int .i64 (ki + 1 + 1 + 1 + 1 + 1 + (AV.cnts (c3.map Ex.av) : Int) + 1), .str (markT (ki + 1 + 1 + 1 + 1 + 1 + (AV.cnts (c3.map Ex.av) : Int) + 1 + 1)), .lst false 4 (l9.map Ex.av), .int .i64 (ki + 1 + 1 + 1 + 1 + 1 + (AV.cnts (c3.map Ex.av) : Int) + 1 + 1 + 1 + (AV.cnts (d3.map Ex.av) : Int)), .int .i64 (ki + 1 + 1 + 1 + 1 + 1 + (AV.cnts (c3.map Ex.av) : Int) + 1 + 1 + 1 + (AV.cnts (d3.map Ex.av) : Int) + 1), .str (markT (ki + 1 + 1 + 1 + 1 + 1 + (AV.cnts (c3.map Ex.av) : Int) + 1 + 1 + 1 + (AV.cnts (d3.map Ex.av) : Int) + 1 + 1)), .lst false 4 (l13.map Ex.av), .int .i64 (ki + 1 + 1 + 1 + 1 + 1 + (AV.cnts (c3.map Ex.av) : Int) + 1 + 1 + 1 + (AV.cnts (d3.map Ex.av) : Int) + 1 + 1 + 1 + (AV.cnts (p3.map Ex.av) : Int)), .int .i64 (ki + 1 + 1 + 1 + 1 + 1 + (AV.cnts (c3.map Ex.av) : Int) + 1 + 1 + 1 + (AV.cnts (d3.map Ex.av) : Int) + 1 + 1 + 1 + (AV.cnts (p3.map Ex.av) : Int) + 1), .str q2, .lst false 4 (q3.map Ex.av), .lst false 19 (b6.map Sm.av)]) ?_ ?_
  · refine AWp.region noP (by kernel_rfl) ?_
    simp [s0, s1, s5, hx, hst]
    exact I2
  clear hg hx hst I2 I
  rintro u15 ⟨s0, s1, s5, I⟩
  have hw : IntKind.wrap .i64 (ki + 1 + 1 + 1 + 1 + 1 + (AV.cnts (c3.map Ex.av) : Int) + 1 + 1 + 1 + (AV.cnts (d3.map Ex.av) : Int) + 1 + 1 + 1 + (AV.cnts (p3.map Ex.av) : Int) + 1 + 1) = ki + 1 + 1 + 1 + 1 + 1 + (AV.cnts (c3.map Ex.av) : Int) + 1 + 1 + 1 + (AV.cnts (d3.map Ex.av) : Int) + 1 + 1 + 1 + (AV.cnts (p3.map Ex.av) : Int) + 1 + 1 := wrap64 (by omega) (by omega)
  (repeat refine AWp.seq ?_); refine AWp.region noP (by kernel_rfl) ?_
  simp [s1, hw]
  clear hw
  have hg := I.row
  have hx : idxA Tryz.prog u15.mem 36 (.own g n c) (.int .i64 i) = some (.elt g 19 i 0) := idx_own es_36 hg (by simp [hy]) hlt
  have I2 := I.leaf 16 (x := .str (markT (ki + 1 + 1 + 1 + 1 + 1 + (AV.cnts (c3.map Ex.av) : Int) + 1 + 1 + 1 + (AV.cnts (d3.map Ex.av) : Int) + 1 + 1 + 1 + (AV.cnts (p3.map Ex.av) : Int) + 1 + 1))) (own_str _)
  have hst := I.store (by omega) rfl 16 (by omega) (by omega) (x := .str (markT (ki + 1 + 1 + 1 + 1 + 1 + (AV.cnts (c3.map Ex.av) : Int) + 1 + 1 + 1 + (AV.cnts (d3.map Ex.av) : Int) + 1 + 1 + 1 + (AV.cnts (p3.map Ex.av) : Int) + 1 + 1))) rfl
  simp only [List.set_cons_zero, List.set_cons_succ] at I2 hst
  (repeat refine AWp.seq ?_); refine AWp.cutA (fun u => u.slots 0 = .own g n c ∧ u.slots 1 = .int .i64 (ki + 1 + 1 + 1 + 1 + 1 + (AV.cnts (c3.map Ex.av) : Int) + 1 + 1 + 1 + (AV.cnts (d3.map Ex.av) : Int) + 1 + 1 + 1 + (AV.cnts (p3.map Ex.av) : Int) + 1 + 1) ∧ u.slots 5 = .int .i64 i ∧ InRow u.mem st.mem g T 19 c i ys B [.int .i64 (ki), .str (markT (ki + 1)), .int .i64 (ki + 1 + 1), .int .i64 (ki + 1 + 1 + 1), .str (markT (ki + 1 + 1 + 1 + 1)), a5, .int .i64 (ki + 1 + 1 + 1 + 1 + 1 + (AV.cnts (c3.map Ex.av) : Int)), .int .i64 (ki + 1 + 1 + 1 + 1 + 1 + (AV.cnts (c3.map Ex.av) : Int) + 1), .str (markT (ki + 1 + 1 + 1 + 1 + 1 + (AV.cnts (c3.map Ex.av) : Int) + 1 + 1)), a9, .int .i64 (ki + 1 + 1 + 1 + 1 + 1 + (AV.cnts (c3.map Ex.av) : Int) + 1 + 1 + 1 + (AV.cnts (d3.map Ex.av) : Int)), .int .i64 (ki + 1 + 1 + 1 + 1 + 1 + (AV.cnts (c3.map Ex.av) : Int) + 1 + 1 + 1 + (AV.cnts (d3.map Ex.av) : Int) + 1), .str (markT (ki + 1 + 1 + 1 + 1 + 1 + (AV.cnts (c3.map Ex.av) : Int) + 1 + 1 + 1 + (AV.cnts (d3.map Ex.av) : Int) + 1 + 1)), a13, .int .i64 (ki + 1 + 1 + 1 + 1 + 1 + (AV.cnts (c3.map Ex.av) : Int) + 1 + 1 + 1 + (AV.cnts (d3.map Ex.av) : Int) + 1 + 1 + 1 + (AV.cnts (p3.map Ex.av) : Int)), .int .i64 (ki + 1 + 1 + 1 + 1 + 1 + (AV.cnts (c3.map Ex.av) : Int) + 1 + 1 + 1 + (AV.cnts (d3.map Ex.av) : Int) + 1 + 1 + 1 + (AV.cnts (p3.map Ex.av) : Int) + 1), .str (markT (ki + 1 + 1 + 1 + 1 + 1 + (AV.cnts (c3.map Ex.av) : Int) + 1 + 1 + 1 + (AV.cnts (d3.map Ex.av) : Int) + 1 + 1 + 1 + (AV.cnts (p3.map Ex.av) : Int) + 1 + 1)), a17, a18] [.int .i64 (ki), .str (markT (ki + 1)), .int .i64 (ki + 1 + 1), .int .i64 (ki + 1 + 1 + 1), .str (markT (ki + 1 + 1 + 1 + 1)), .lst false 4 (l5.map Ex.av), .int .i64 (ki + 1 + 1 + 1 + 1 + 1 + (AV.cnts (c3.map Ex.av) : Int)), .int .i64 (ki + 1 + 1 + 1 + 1 + 1 + (AV.cnts (c3.map Ex.av) : Int) + 1), .str (markT (ki + 1 + 1 + 1 + 1 + 1 + (AV.cnts (c3.map Ex.av) : Int) + 1 + 1)), .lst false 4 (l9.map Ex.av), .int .i64 (ki + 1 + 1 + 1 + 1 + 1 + (AV.cnts (c3.map Ex.av) : Int) + 1 + 1 + 1 + (AV.cnts (d3.map Ex.av) : Int)), .int .i64 (ki + 1 + 1 + 1 + 1 + 1 + (AV.cnts (c3.map Ex.av) : Int) + 1 + 1 + 1 + (AV.cnts (d3.map Ex.av) : Int) + 1), .str (markT (ki + 1 + 1 + 1 + 1 + 1 + (AV.cnts (c3.map Ex.av) : Int) + 1 + 1 + 1 + (AV.cnts (d3.map Ex.av) : Int) + 1 + 1)), .lst false 4 (l13.map Ex.av), .int .i64 (ki + 1 + 1 + 1 + 1 + 1 + (AV.cnts (c3.map Ex.av) : Int) + 1 + 1 + 1 + (AV.cnts (d3.map Ex.av) : Int) + 1 + 1 + 1 + (AV.cnts (p3.map Ex.av) : Int)), .int .i64 (ki + 1 + 1 + 1 + 1 + 1 + (AV.cnts (c3.map Ex.av) : Int) + 1 + 1 + 1 + (AV.cnts (d3.map Ex.av) : Int) + 1 + 1 + 1 + (AV.cnts (p3.map Ex.av) : Int) + 1), .str (markT (ki + 1 + 1 + 1 + 1 + 1 + (AV.cnts (c3.map Ex.av) : Int) + 1 + 1 + 1 + (AV.cnts (d3.map Ex.av) : Int) + 1 + 1 + 1 + (AV.cnts (p3.map Ex.av) : Int) + 1 + 1)), .lst false 4 (q3.map Ex.av), .lst false 19 (b6.map Sm.av)]) ?_ ?_
  · refine AWp.region noP (by kernel_rfl) ?_
    simp [s0, s1, s5, hx, hst]
    refine aop_call' (c_markText (ki + 1 + 1 + 1 + 1 + 1 + (AV.cnts (c3.map Ex.av) : Int) + 1 + 1 + 1 + (AV.cnts (d3.map Ex.av) : Int) + 1 + 1 + 1 + (AV.cnts (p3.map Ex.av) : Int) + 1 + 1) (by omega) (by omega)) ?_
    simp [s0, s1, s5, hx, hst]
    exact I2
  clear hg hx hst I2 I
  rintro u16 ⟨s0, s1, s5, I⟩
  have hw : IntKind.wrap .i64 (ki + 1 + 1 + 1 + 1 + 1 + (AV.cnts (c3.map Ex.av) : Int) + 1 + 1 + 1 + (AV.cnts (d3.map Ex.av) : Int) + 1 + 1 + 1 + (AV.cnts (p3.map Ex.av) : Int) + 1 + 1 + 1) = ki + 1 + 1 + 1 + 1 + 1 + (AV.cnts (c3.map Ex.av) : Int) + 1 + 1 + 1 + (AV.cnts (d3.map Ex.av) : Int) + 1 + 1 + 1 + (AV.cnts (p3.map Ex.av) : Int) + 1 + 1 + 1 := wrap64 (by omega) (by omega)
  (repeat refine AWp.seq ?_); refine AWp.region noP (by kernel_rfl) ?_
  simp [s1, hw]
  clear hw
  have hg := I.row
  have hx : idxA Tryz.prog u16.mem 36 (.own g n c) (.int .i64 i) = some (.elt g 19 i 0) := idx_own es_36 hg (by simp [hy]) hlt
  obtain ⟨A, x, hxo, hown, hupd⟩ := I.call (o := 17) (by simp)
  obtain rfl : .lst false 4 (q3.map Ex.av) = x := Option.some.inj hxo
  simp only [List.getElem_cons_succ, List.getElem_cons_zero] at hown hupd
  (repeat refine AWp.seq ?_); refine AWp.cutA (fun u => ∃ l17 : List Ex, u.slots 0 = .own g n c ∧ u.slots 1 = .int .i64 (ki + 1 + 1 + 1 + 1 + 1 + (AV.cnts (c3.map Ex.av) : Int) + 1 + 1 + 1 + (AV.cnts (d3.map Ex.av) : Int) + 1 + 1 + 1 + (AV.cnts (p3.map Ex.av) : Int) + 1 + 1 + 1 + (AV.cnts (q3.map Ex.av) : Int)) ∧ u.slots 5 = .int .i64 i ∧ Held (l17.map Ex.av) (ki + 1 + 1 + 1 + 1 + 1 + (AV.cnts (c3.map Ex.av) : Int) + 1 + 1 + 1 + (AV.cnts (d3.map Ex.av) : Int) + 1 + 1 + 1 + (AV.cnts (p3.map Ex.av) : Int) + 1 + 1 + 1) (ki + 1 + 1 + 1 + 1 + 1 + (AV.cnts (c3.map Ex.av) : Int) + 1 + 1 + 1 + (AV.cnts (d3.map Ex.av) : Int) + 1 + 1 + 1 + (AV.cnts (p3.map Ex.av) : Int) + 1 + 1 + 1 + (AV.cnts (q3.map Ex.av) : Int)) ∧ InRow u.mem st.mem g T 19 c i ys B [.int .i64 (ki), .str (markT (ki + 1)), .int .i64 (ki + 1 + 1), .int .i64 (ki + 1 + 1 + 1), .str (markT (ki + 1 + 1 + 1 + 1)), a5, .int .i64 (ki + 1 + 1 + 1 + 1 + 1 + (AV.cnts (c3.map Ex.av) : Int)), .int .i64 (ki + 1 + 1 + 1 + 1 + 1 + (AV.cnts (c3.map Ex.av) : Int) + 1), .str (markT (ki + 1 + 1 + 1 + 1 + 1 + (AV.cnts (c3.map Ex.av) : Int) + 1 + 1)), a9, .int .i64 (ki + 1 + 1 + 1 + 1 + 1 + (AV.cnts (c3.map Ex.av) : Int) + 1 + 1 + 1 + (AV.cnts (d3.map Ex.av) : Int)), .int .i64 (ki + 1 + 1 + 1 + 1 + 1 + (AV.cnts (c3.map Ex.av) : Int) + 1 + 1 + 1 + (AV.cnts (d3.map Ex.av) : Int) + 1), .str (markT (ki + 1 + 1 + 1 + 1 + 1 + (AV.cnts (c3.map Ex.av) : Int) + 1 + 1 + 1 + (AV.cnts (d3.map Ex.av) : Int) + 1 + 1)), a13, .int .i64 (ki + 1 + 1 + 1 + 1 + 1 + (AV.cnts (c3.map Ex.av) : Int) + 1 + 1 + 1 + (AV.cnts (d3.map Ex.av) : Int) + 1 + 1 + 1 + (AV.cnts (p3.map Ex.av) : Int)), .int .i64 (ki + 1 + 1 + 1 + 1 + 1 + (AV.cnts (c3.map Ex.av) : Int) + 1 + 1 + 1 + (AV.cnts (d3.map Ex.av) : Int) + 1 + 1 + 1 + (AV.cnts (p3.map Ex.av) : Int) + 1), .str (markT (ki + 1 + 1 + 1 + 1 + 1 + (AV.cnts (c3.map Ex.av) : Int) + 1 + 1 + 1 + (AV.cnts (d3.map Ex.av) : Int) + 1 + 1 + 1 + (AV.cnts (p3.map Ex.av) : Int) + 1 + 1)), a17, a18] [.int .i64 (ki), .str (markT (ki + 1)), .int .i64 (ki + 1 + 1), .int .i64 (ki + 1 + 1 + 1), .str (markT (ki + 1 + 1 + 1 + 1)), .lst false 4 (l5.map Ex.av), .int .i64 (ki + 1 + 1 + 1 + 1 + 1 + (AV.cnts (c3.map Ex.av) : Int)), .int .i64 (ki + 1 + 1 + 1 + 1 + 1 + (AV.cnts (c3.map Ex.av) : Int) + 1), .str (markT (ki + 1 + 1 + 1 + 1 + 1 + (AV.cnts (c3.map Ex.av) : Int) + 1 + 1)), .lst false 4 (l9.map Ex.av), .int .i64 (ki + 1 + 1 + 1 + 1 + 1 + (AV.cnts (c3.map Ex.av) : Int) + 1 + 1 + 1 + (AV.cnts (d3.map Ex.av) : Int)), .int .i64 (ki + 1 + 1 + 1 + 1 + 1 + (AV.cnts (c3.map Ex.av) : Int) + 1 + 1 + 1 + (AV.cnts (d3.map Ex.av) : Int) + 1), .str (markT (ki + 1 + 1 + 1 + 1 + 1 + (AV.cnts (c3.map Ex.av) : Int) + 1 + 1 + 1 + (AV.cnts (d3.map Ex.av) : Int) + 1 + 1)), .lst false 4 (l13.map Ex.av), .int .i64 (ki + 1 + 1 + 1 + 1 + 1 + (AV.cnts (c3.map Ex.av) : Int) + 1 + 1 + 1 + (AV.cnts (d3.map Ex.av) : Int) + 1 + 1 + 1 + (AV.cnts (p3.map Ex.av) : Int)), .int .i64 (ki + 1 + 1 + 1 + 1 + 1 + (AV.cnts (c3.map Ex.av) : Int) + 1 + 1 + 1 + (AV.cnts (d3.map Ex.av) : Int) + 1 + 1 + 1 + (AV.cnts (p3.map Ex.av) : Int) + 1), .str (markT (ki + 1 + 1 + 1 + 1 + 1 + (AV.cnts (c3.map Ex.av) : Int) + 1 + 1 + 1 + (AV.cnts (d3.map Ex.av) : Int) + 1 + 1 + 1 + (AV.cnts (p3.map Ex.av) : Int) + 1 + 1)), .lst false 4 (l17.map Ex.av), .lst false 19 (b6.map Sm.av)]) ?_ ?_
  · refine AWp.region noP (by kernel_rfl) ?_
    simp [s0, s1, s5, hx, hg, hy, hlt]
    refine aop_wcall _ _ _ _ _ _ _ _ rfl (eval_func _ _) ?_
    refine c_markExpS _ _ _ _ _ hown (ki + 1 + 1 + 1 + 1 + 1 + (AV.cnts (c3.map Ex.av) : Int) + 1 + 1 + 1 + (AV.cnts (d3.map Ex.av) : Int) + 1 + 1 + 1 + (AV.cnts (p3.map Ex.av) : Int) + 1 + 1 + 1) (by omega) (by omega) _ fun m' l' hout ho hh => ?_
    simp [s0, s1, s5]
    have I2 := hupd m' _ hout ho
    simp only [List.set_cons_zero, List.set_cons_succ] at I2
    exact ⟨l', hh, I2⟩
  clear hg hx I hupd hown hxo
  rintro u17 ⟨l17, s0, s1, s5, hh17, I⟩
  have hg := I.row
  have hx : idxA Tryz.prog u17.mem 36 (.own g n c) (.int .i64 i) = some (.elt g 19 i 0) := idx_own es_36 hg (by simp [hy]) hlt
  obtain ⟨A, x, hxo, hown, hupd⟩ := I.call (o := 18) (by simp)
  obtain rfl : .lst false 19 (b6.map Sm.av) = x := Option.some.inj hxo
  simp only [List.getElem_cons_succ, List.getElem_cons_zero] at hown hupd
  (repeat refine AWp.seq ?_); refine AWp.region noP (by kernel_rfl) ?_
  simp [s0, s1, s5, hx, hg, hy, hlt]
  refine aop_wcall _ _ _ _ _ _ _ _ rfl (eval_func _ _) ?_
  refine (show MkStmt b6 from hr _ hmem) _ _ _ _ hown (ki + 1 + 1 + 1 + 1 + 1 + (AV.cnts (c3.map Ex.av) : Int) + 1 + 1 + 1 + (AV.cnts (d3.map Ex.av) : Int) + 1 + 1 + 1 + (AV.cnts (p3.map Ex.av) : Int) + 1 + 1 + 1 + (AV.cnts (q3.map Ex.av) : Int)) (by omega) (by omega) _ fun m' l18 hout ho hh18 => ?_
  simp [s0, s1, s5]
  have I2 := hupd m' _ hout ho
  simp only [List.set_cons_zero, List.set_cons_succ] at I2
  clear hg hx I hupd hown hxo
  have I := I2
  have hnew : Sm.av (Sm.mk (ki) (markT (ki + 1)) (Ex.mk (ki + 1 + 1) (ki + 1 + 1 + 1) (markT (ki + 1 + 1 + 1 + 1)) l5) (Ex.mk (ki + 1 + 1 + 1 + 1 + 1 + (AV.cnts (c3.map Ex.av) : Int)) (ki + 1 + 1 + 1 + 1 + 1 + (AV.cnts (c3.map Ex.av) : Int) + 1) (markT (ki + 1 + 1 + 1 + 1 + 1 + (AV.cnts (c3.map Ex.av) : Int) + 1 + 1)) l9) (Ex.mk (ki + 1 + 1 + 1 + 1 + 1 + (AV.cnts (c3.map Ex.av) : Int) + 1 + 1 + 1 + (AV.cnts (d3.map Ex.av) : Int)) (ki + 1 + 1 + 1 + 1 + 1 + (AV.cnts (c3.map Ex.av) : Int) + 1 + 1 + 1 + (AV.cnts (d3.map Ex.av) : Int) + 1) (markT (ki + 1 + 1 + 1 + 1 + 1 + (AV.cnts (c3.map Ex.av) : Int) + 1 + 1 + 1 + (AV.cnts (d3.map Ex.av) : Int) + 1 + 1)) l13) (Ex.mk (ki + 1 + 1 + 1 + 1 + 1 + (AV.cnts (c3.map Ex.av) : Int) + 1 + 1 + 1 + (AV.cnts (d3.map Ex.av) : Int) + 1 + 1 + 1 + (AV.cnts (p3.map Ex.av) : Int)) (ki + 1 + 1 + 1 + 1 + 1 + (AV.cnts (c3.map Ex.av) : Int) + 1 + 1 + 1 + (AV.cnts (d3.map Ex.av) : Int) + 1 + 1 + 1 + (AV.cnts (p3.map Ex.av) : Int) + 1) (markT (ki + 1 + 1 + 1 + 1 + 1 + (AV.cnts (c3.map Ex.av) : Int) + 1 + 1 + 1 + (AV.cnts (d3.map Ex.av) : Int) + 1 + 1 + 1 + (AV.cnts (p3.map Ex.av) : Int) + 1 + 1)) l17) l18) = .agg [.int .i64 (ki), .str (markT (ki + 1)), .int .i64 (ki + 1 + 1), .int .i64 (ki + 1 + 1 + 1), .str (markT (ki + 1 + 1 + 1 + 1)), .lst false 4 (l5.map Ex.av), .int .i64 (ki + 1 + 1 + 1 + 1 + 1 + (AV.cnts (c3.map Ex.av) : Int)), .int .i64 (ki + 1 + 1 + 1 + 1 + 1 + (AV.cnts (c3.map Ex.av) : Int) + 1), .str (markT (ki + 1 + 1 + 1 + 1 + 1 + (AV.cnts (c3.map Ex.av) : Int) + 1 + 1)), .lst false 4 (l9.map Ex.av), .int .i64 (ki + 1 + 1 + 1 + 1 + 1 + (AV.cnts (c3.map Ex.av) : Int) + 1 + 1 + 1 + (AV.cnts (d3.map Ex.av) : Int)), .int .i64 (ki + 1 + 1 + 1 + 1 + 1 + (AV.cnts (c3.map Ex.av) : Int) + 1 + 1 + 1 + (AV.cnts (d3.map Ex.av) : Int) + 1), .str (markT (ki + 1 + 1 + 1 + 1 + 1 + (AV.cnts (c3.map Ex.av) : Int) + 1 + 1 + 1 + (AV.cnts (d3.map Ex.av) : Int) + 1 + 1)), .lst false 4 (l13.map Ex.av), .int .i64 (ki + 1 + 1 + 1 + 1 + 1 + (AV.cnts (c3.map Ex.av) : Int) + 1 + 1 + 1 + (AV.cnts (d3.map Ex.av) : Int) + 1 + 1 + 1 + (AV.cnts (p3.map Ex.av) : Int)), .int .i64 (ki + 1 + 1 + 1 + 1 + 1 + (AV.cnts (c3.map Ex.av) : Int) + 1 + 1 + 1 + (AV.cnts (d3.map Ex.av) : Int) + 1 + 1 + 1 + (AV.cnts (p3.map Ex.av) : Int) + 1), .str (markT (ki + 1 + 1 + 1 + 1 + 1 + (AV.cnts (c3.map Ex.av) : Int) + 1 + 1 + 1 + (AV.cnts (d3.map Ex.av) : Int) + 1 + 1 + 1 + (AV.cnts (p3.map Ex.av) : Int) + 1 + 1)), .lst false 4 (l17.map Ex.av), .lst false 19 (l18.map Sm.av)] := by simp [Sm.av, Sm.cells_mk, Ex.cells_mk]
  have hM2 := hback m' [.int .i64 (ki), .str (markT (ki + 1)), .int .i64 (ki + 1 + 1), .int .i64 (ki + 1 + 1 + 1), .str (markT (ki + 1 + 1 + 1 + 1)), a5, .int .i64 (ki + 1 + 1 + 1 + 1 + 1 + (AV.cnts (c3.map Ex.av) : Int)), .int .i64 (ki + 1 + 1 + 1 + 1 + 1 + (AV.cnts (c3.map Ex.av) : Int) + 1), .str (markT (ki + 1 + 1 + 1 + 1 + 1 + (AV.cnts (c3.map Ex.av) : Int) + 1 + 1)), a9, .int .i64 (ki + 1 + 1 + 1 + 1 + 1 + (AV.cnts (c3.map Ex.av) : Int) + 1 + 1 + 1 + (AV.cnts (d3.map Ex.av) : Int)), .int .i64 (ki + 1 + 1 + 1 + 1 + 1 + (AV.cnts (c3.map Ex.av) : Int) + 1 + 1 + 1 + (AV.cnts (d3.map Ex.av) : Int) + 1), .str (markT (ki + 1 + 1 + 1 + 1 + 1 + (AV.cnts (c3.map Ex.av) : Int) + 1 + 1 + 1 + (AV.cnts (d3.map Ex.av) : Int) + 1 + 1)), a13, .int .i64 (ki + 1 + 1 + 1 + 1 + 1 + (AV.cnts (c3.map Ex.av) : Int) + 1 + 1 + 1 + (AV.cnts (d3.map Ex.av) : Int) + 1 + 1 + 1 + (AV.cnts (p3.map Ex.av) : Int)), .int .i64 (ki + 1 + 1 + 1 + 1 + 1 + (AV.cnts (c3.map Ex.av) : Int) + 1 + 1 + 1 + (AV.cnts (d3.map Ex.av) : Int) + 1 + 1 + 1 + (AV.cnts (p3.map Ex.av) : Int) + 1), .str (markT (ki + 1 + 1 + 1 + 1 + 1 + (AV.cnts (c3.map Ex.av) : Int) + 1 + 1 + 1 + (AV.cnts (d3.map Ex.av) : Int) + 1 + 1 + 1 + (AV.cnts (p3.map Ex.av) : Int) + 1 + 1)), a17, a18] [.int .i64 (ki), .str (markT (ki + 1)), .int .i64 (ki + 1 + 1), .int .i64 (ki + 1 + 1 + 1), .str (markT (ki + 1 + 1 + 1 + 1)), .lst false 4 (l5.map Ex.av), .int .i64 (ki + 1 + 1 + 1 + 1 + 1 + (AV.cnts (c3.map Ex.av) : Int)), .int .i64 (ki + 1 + 1 + 1 + 1 + 1 + (AV.cnts (c3.map Ex.av) : Int) + 1), .str (markT (ki + 1 + 1 + 1 + 1 + 1 + (AV.cnts (c3.map Ex.av) : Int) + 1 + 1)), .lst false 4 (l9.map Ex.av), .int .i64 (ki + 1 + 1 + 1 + 1 + 1 + (AV.cnts (c3.map Ex.av) : Int) + 1 + 1 + 1 + (AV.cnts (d3.map Ex.av) : Int)), .int .i64 (ki + 1 + 1 + 1 + 1 + 1 + (AV.cnts (c3.map Ex.av) : Int) + 1 + 1 + 1 + (AV.cnts (d3.map Ex.av) : Int) + 1), .str (markT (ki + 1 + 1 + 1 + 1 + 1 + (AV.cnts (c3.map Ex.av) : Int) + 1 + 1 + 1 + (AV.cnts (d3.map Ex.av) : Int) + 1 + 1)), .lst false 4 (l13.map Ex.av), .int .i64 (ki + 1 + 1 + 1 + 1 + 1 + (AV.cnts (c3.map Ex.av) : Int) + 1 + 1 + 1 + (AV.cnts (d3.map Ex.av) : Int) + 1 + 1 + 1 + (AV.cnts (p3.map Ex.av) : Int)), .int .i64 (ki + 1 + 1 + 1 + 1 + 1 + (AV.cnts (c3.map Ex.av) : Int) + 1 + 1 + 1 + (AV.cnts (d3.map Ex.av) : Int) + 1 + 1 + 1 + (AV.cnts (p3.map Ex.av) : Int) + 1), .str (markT (ki + 1 + 1 + 1 + 1 + 1 + (AV.cnts (c3.map Ex.av) : Int) + 1 + 1 + 1 + (AV.cnts (d3.map Ex.av) : Int) + 1 + 1 + 1 + (AV.cnts (p3.map Ex.av) : Int) + 1 + 1)), .lst false 4 (l17.map Ex.av), .lst false 19 (l18.map Sm.av)] I (by simp [hok])
  rw [← hnew, set_done Sm.av done _ _ _ hdl] at hM2
  (repeat refine AWp.seq ?_); refine AWp.region noP (by kernel_rfl) ?_
  simp [s0, s1, s5, hwi]
  refine hR _ (n - (i + 1)) (by omega) ⟨i + 1, _, ki + 1 + 1 + 1 + 1 + 1 + (AV.cnts (c3.map Ex.av) : Int) + 1 + 1 + 1 + (AV.cnts (d3.map Ex.av) : Int) + 1 + 1 + 1 + (AV.cnts (p3.map Ex.av) : Int) + 1 + 1 + 1 + (AV.cnts (q3.map Ex.av) : Int) + (AV.cnts (b6.map Sm.av) : Int), done ++ [(Sm.mk (ki) (markT (ki + 1)) (Ex.mk (ki + 1 + 1) (ki + 1 + 1 + 1) (markT (ki + 1 + 1 + 1 + 1)) l5) (Ex.mk (ki + 1 + 1 + 1 + 1 + 1 + (AV.cnts (c3.map Ex.av) : Int)) (ki + 1 + 1 + 1 + 1 + 1 + (AV.cnts (c3.map Ex.av) : Int) + 1) (markT (ki + 1 + 1 + 1 + 1 + 1 + (AV.cnts (c3.map Ex.av) : Int) + 1 + 1)) l9) (Ex.mk (ki + 1 + 1 + 1 + 1 + 1 + (AV.cnts (c3.map Ex.av) : Int) + 1 + 1 + 1 + (AV.cnts (d3.map Ex.av) : Int)) (ki + 1 + 1 + 1 + 1 + 1 + (AV.cnts (c3.map Ex.av) : Int) + 1 + 1 + 1 + (AV.cnts (d3.map Ex.av) : Int) + 1) (markT (ki + 1 + 1 + 1 + 1 + 1 + (AV.cnts (c3.map Ex.av) : Int) + 1 + 1 + 1 + (AV.cnts (d3.map Ex.av) : Int) + 1 + 1)) l13) (Ex.mk (ki + 1 + 1 + 1 + 1 + 1 + (AV.cnts (c3.map Ex.av) : Int) + 1 + 1 + 1 + (AV.cnts (d3.map Ex.av) : Int) + 1 + 1 + 1 + (AV.cnts (p3.map Ex.av) : Int)) (ki + 1 + 1 + 1 + 1 + 1 + (AV.cnts (c3.map Ex.av) : Int) + 1 + 1 + 1 + (AV.cnts (d3.map Ex.av) : Int) + 1 + 1 + 1 + (AV.cnts (p3.map Ex.av) : Int) + 1) (markT (ki + 1 + 1 + 1 + 1 + 1 + (AV.cnts (c3.map Ex.av) : Int) + 1 + 1 + 1 + (AV.cnts (d3.map Ex.av) : Int) + 1 + 1 + 1 + (AV.cnts (p3.map Ex.av) : Int) + 1 + 1)) l17) l18)], rfl, by omega, by simp [hdl], ?_, by simp [s0, s1, s5], by simp [s0, s1, s5], by simp, ?_, by omega, by omega, by simpa using hM2⟩
  · simp [hy]
  · rw [List.map_append, List.map_cons, hnew]
    exact hH.append (.agg (.int (.str (.int (.int (.str (.lst hh5 (.int (.int (.str (.lst hh9 (.int (.int (.str (.lst hh13 (.int (.int (.str (.lst hh17 (.lst hh18 (.nil _)))))))))))))))))))) (.nil _))
theorem mk_stmt (e : Sm) : MkStmt e.parts := by
  induction e using Sm.ind with | h k s a e lo hi b h => exact c_markStmtS0 b h
theorem c_markStmtS (l : List Sm) : MkStmt l := mk_stmt (Sm.mk 0 ⟨#[]⟩ (.mk 0 0 ⟨#[]⟩ []) (.mk 0 0 ⟨#[]⟩ []) (.mk 0 0 ⟨#[]⟩ []) (.mk 0 0 ⟨#[]⟩ []) l)
end Go.T
namespace Go.T
open Go Go.Proofs
set_option maxRecDepth 10000
set_option maxHeartbeats 1000000
set_option linter.unusedSimpArgs false
set_option linter.unusedVariables false
theorem o_toArrS (l : List Ar) (hl : l.length ≤ 1048576) (h : ∀ x ∈ l, OCall Tryz.prog 207 [x.av] x.av) :
    OCall Tryz.prog 92 [.lst false 2 (l.map Ar.av)] (.lst false 2 (l.map Ar.av)) := by
  refine wcall_of Tryz.func92 (by kernel_rfl) rfl (by simp [Tryz.f92]) ?_
  (repeat refine AWp.seq ?_); refine AWp.region noP (by kernel_rfl) ?_
  try simp
  (repeat refine AWp.seq ?_); refine AWp.region noP (by kernel_rfl) ?_
  try simp
  refine ⟨by omega, by omega, fun g => ?_⟩
  (repeat refine AWp.seq ?_); refine AWp.region noP (by kernel_rfl) ?_
  try simp
  (repeat refine AWp.seq ?_); refine AWp.block (AWp.rounds (fun m st => ∃ (i : Nat) (ys : List AV) (F : Nat → Prop), m = l.length - i ∧ i ≤ l.length ∧ st.slots 0 = .lst false 2 (l.map Ar.av) ∧ st.slots 3 = .own g l.length l.length ∧ st.slots 4 = .int .i64 i ∧ Fil st.mem g 197 2 l.length i ys F ((l.map Ar.av).take i) ∧ ys.length = l.length) l.length ⟨0, _, fun _ => False, by simp, by simp, by simp, by simp, by simp, ⟨by simp [set_at]; rfl, by simpa using OwnTs.nil, fun _ h => h.elim, id⟩, by simp⟩ ?_)
  rintro R m st hR ⟨i, ys, F, rfl, hi, s0, s3, s4, hF, hy⟩
  (repeat refine AWp.seq ?_); refine AWp.region noP (by kernel_rfl) ?_
  simp [s0, s4]
  refine AWp.cond (b := decide (i < l.length)) (by simp) (fun hb => ?_) (fun hb => ?_)
  · simp at hb
    have hq : l[i]? = some l[i] := List.getElem?_eq_getElem hb
    refine AWp.skip ?_
    try simp
    (repeat refine AWp.seq ?_); refine AWp.block ?_; (repeat refine AWp.seq ?_); refine AWp.region noP (by kernel_rfl) ?_
    have hx1 : idxA Tryz.prog st.mem 22 (.lst false 2 (l.map Ar.av)) (.int .i64 i) = some (.ref l[i].cells) := idx (y := l[i].av) es_22 (by simp [hq])
    have hc : List.take 2 l[i].cells = l[i].cells := List.take_of_length_le (by rw [Ar.cells_len]; exact Nat.le_refl _)
    simp [s0, s3, s4, hx1, Ar.cells_len, hc]
    refine aop_wcall _ _ _ _ _ _ _ _ rfl (eval_func _ _) ?_
    refine OCall.w (h l[i] (List.getElem_mem _)) fun r m' G hE hO hG hGd => ?_
    obtain ⟨rs, rfl, hOs, hok⟩ := own_agg hO
    have hlen : rs.length = 2 := hOs.len.trans (Ar.cells_len _)
    simp at hE hG
    have hF2 := hF.step (by omega) hE hO hG hGd
    have hrow := hE g _ hF.row
    have hx2 : idxA Tryz.prog m' 35 (.own g l.length l.length) (.int .i64 i) = some (.elt g 2 i 0) := idx_own es_35 hrow hy hb
    have hx3 : storeA m' (.elt g 2 i 0) (.agg rs) = some _ := store_elt hrow (by omega) hlen
    have hok2 : ∀ x ∈ rs, okCell x = true := by simpa using hok
    simp [s0, s3, s4, hx2, hx3, hlen]
    refine ⟨hok2, ?_⟩
    try simp [hx3]
    (repeat refine AWp.seq ?_); refine AWp.region noP (by kernel_rfl) ?_
    have hw : IntKind.wrap .i64 ((i : Int) + 1) = (i + 1 : Nat) := wrap64 (by omega) (by omega)
    simp [s4, hw]
    have ht : (l.map Ar.av).take (i + 1) = (l.map Ar.av).take i ++ [l[i].av] := by rw [List.take_add_one]; simp [hq]
    refine hR _ (l.length - (i + 1)) (by omega) ⟨i + 1, _, _, rfl, hb, by simp [s0], by simp [s3], by simp, by rw [ht]; simpa using hF2, ?_⟩
    simp [hy]
  · simp at hb
    refine AWp.exit ?_
    try simp
    (repeat refine AWp.seq ?_); refine AWp.region noP (by kernel_rfl) ?_
    have : i = l.length := by omega
    subst this
    simp [s3]
    have hd := hF.done hy
    rw [List.take_of_length_le (by simp)] at hd
    exact AWp.ret (post_retO rfl (by simp; rfl) (by simpa using hd))
theorem o_toExpS (l : List Ex) (hl : l.length ≤ 1048576) (h : ∀ x ∈ l, OCall Tryz.prog 18 [x.av] x.av) :
    OCall Tryz.prog 94 [.lst false 4 (l.map Ex.av)] (.lst false 4 (l.map Ex.av)) := by
  refine wcall_of Tryz.func94 (by kernel_rfl) rfl (by simp [Tryz.f94]) ?_
  (repeat refine AWp.seq ?_); refine AWp.region noP (by kernel_rfl) ?_
  try simp
  (repeat refine AWp.seq ?_); refine AWp.region noP (by kernel_rfl) ?_
  try simp
  refine ⟨by omega, by omega, fun g => ?_⟩
  (repeat refine AWp.seq ?_); refine AWp.region noP (by kernel_rfl) ?_
  try simp
  (repeat refine AWp.seq ?_); refine AWp.block (AWp.rounds (fun m st => ∃ (i : Nat) (ys : List AV) (F : Nat → Prop), m = l.length - i ∧ i ≤ l.length ∧ st.slots 0 = .lst false 4 (l.map Ex.av) ∧ st.slots 3 = .own g l.length l.length ∧ st.slots 4 = .int .i64 i ∧ Fil st.mem g 43 4 l.length i ys F ((l.map Ex.av).take i) ∧ ys.length = l.length) l.length ⟨0, _, fun _ => False, by simp, by simp, by simp, by simp, by simp, ⟨by simp [set_at]; rfl, by simpa using OwnTs.nil, fun _ h => h.elim, id⟩, by simp⟩ ?_)
  rintro R m st hR ⟨i, ys, F, rfl, hi, s0, s3, s4, hF, hy⟩
  (repeat refine AWp.seq ?_); refine AWp.region noP (by kernel_rfl) ?_
  simp [s0, s4]
  refine AWp.cond (b := decide (i < l.length)) (by simp) (fun hb => ?_) (fun hb => ?_)
  · simp at hb
    have hq : l[i]? = some l[i] := List.getElem?_eq_getElem hb
    refine AWp.skip ?_
    try simp
    (repeat refine AWp.seq ?_); refine AWp.block ?_; (repeat refine AWp.seq ?_); refine AWp.region noP (by kernel_rfl) ?_
    have hx1 : idxA Tryz.prog st.mem 27 (.lst false 4 (l.map Ex.av)) (.int .i64 i) = some (.ref l[i].cells) := idx (y := l[i].av) es_27 (by simp [hq])
    have hc : List.take 4 l[i].cells = l[i].cells := List.take_of_length_le (by rw [Ex.cells_len]; exact Nat.le_refl _)
    simp [s0, s3, s4, hx1, Ex.cells_len, hc]
    refine aop_wcall _ _ _ _ _ _ _ _ rfl (eval_func _ _) ?_
    refine OCall.w (h l[i] (List.getElem_mem _)) fun r m' G hE hO hG hGd => ?_
    obtain ⟨rs, rfl, hOs, hok⟩ := own_agg hO
    have hlen : rs.length = 4 := hOs.len.trans (Ex.cells_len _)
    simp at hE hG
    have hF2 := hF.step (by omega) hE hO hG hGd
    have hrow := hE g _ hF.row
    have hx2 : idxA Tryz.prog m' 41 (.own g l.length l.length) (.int .i64 i) = some (.elt g 4 i 0) := idx_own es_41 hrow hy hb
    have hx3 : storeA m' (.elt g 4 i 0) (.agg rs) = some _ := store_elt hrow (by omega) hlen
    have hok2 : ∀ x ∈ rs, okCell x = true := by simpa using hok
    simp [s0, s3, s4, hx2, hx3, hlen]
    refine ⟨hok2, ?_⟩
    try simp [hx3]
    (repeat refine AWp.seq ?_); refine AWp.region noP (by kernel_rfl) ?_
    have hw : IntKind.wrap .i64 ((i : Int) + 1) = (i + 1 : Nat) := wrap64 (by omega) (by omega)
    simp [s4, hw]
    have ht : (l.map Ex.av).take (i + 1) = (l.map Ex.av).take i ++ [l[i].av] := by rw [List.take_add_one]; simp [hq]
    refine hR _ (l.length - (i + 1)) (by omega) ⟨i + 1, _, _, rfl, hb, by simp [s0], by simp [s3], by simp, by rw [ht]; simpa using hF2, ?_⟩
    simp [hy]
  · simp at hb
    refine AWp.exit ?_
    try simp
    (repeat refine AWp.seq ?_); refine AWp.region noP (by kernel_rfl) ?_
    have : i = l.length := by omega
    subst this
    simp [s3]
    have hd := hF.done hy
    rw [List.take_of_length_le (by simp)] at hd
    exact AWp.ret (post_retO rfl (by simp; rfl) (by simpa using hd))
theorem o_toStmtS (l : List Sm) (hl : l.length ≤ 1048576) (h : ∀ x ∈ l, OCall Tryz.prog 208 [x.av] x.av) :
    OCall Tryz.prog 93 [.lst false 19 (l.map Sm.av)] (.lst false 19 (l.map Sm.av)) := by
  refine wcall_of Tryz.func93 (by kernel_rfl) rfl (by simp [Tryz.f93]) ?_
  (repeat refine AWp.seq ?_); refine AWp.region noP (by kernel_rfl) ?_
  try simp
  (repeat refine AWp.seq ?_); refine AWp.region noP (by kernel_rfl) ?_
  try simp
  refine ⟨by omega, by omega, fun g => ?_⟩
  (repeat refine AWp.seq ?_); refine AWp.region noP (by kernel_rfl) ?_
  try simp
  (repeat refine AWp.seq ?_); refine AWp.block (AWp.rounds (fun m st => ∃ (i : Nat) (ys : List AV) (F : Nat → Prop), m = l.length - i ∧ i ≤ l.length ∧ st.slots 0 = .lst false 19 (l.map Sm.av) ∧ st.slots 3 = .own g l.length l.length ∧ st.slots 4 = .int .i64 i ∧ Fil st.mem g 74 19 l.length i ys F ((l.map Sm.av).take i) ∧ ys.length = l.length) l.length ⟨0, _, fun _ => False, by simp, by simp, by simp, by simp, by simp, ⟨by simp [set_at]; rfl, by simpa using OwnTs.nil, fun _ h => h.elim, id⟩, by simp⟩ ?_)
  rintro R m st hR ⟨i, ys, F, rfl, hi, s0, s3, s4, hF, hy⟩
  (repeat refine AWp.seq ?_); refine AWp.region noP (by kernel_rfl) ?_
  simp [s0, s4]
  refine AWp.cond (b := decide (i < l.length)) (by simp) (fun hb => ?_) (fun hb => ?_)
  · simp at hb
    have hq : l[i]? = some l[i] := List.getElem?_eq_getElem hb
    refine AWp.skip ?_
    try simp
    (repeat refine AWp.seq ?_); refine AWp.block ?_; (repeat refine AWp.seq ?_); refine AWp.region noP (by kernel_rfl) ?_
    have hx1 : idxA Tryz.prog st.mem 23 (.lst false 19 (l.map Sm.av)) (.int .i64 i) = some (.ref l[i].cells) := idx (y := l[i].av) es_23 (by simp [hq])
    have hc : List.take 19 l[i].cells = l[i].cells := List.take_of_length_le (by rw [Sm.cells_len]; exact Nat.le_refl _)
    simp [s0, s3, s4, hx1, Sm.cells_len, hc]
    refine aop_wcall _ _ _ _ _ _ _ _ rfl (eval_func _ _) ?_
    refine OCall.w (h l[i] (List.getElem_mem _)) fun r m' G hE hO hG hGd => ?_
    obtain ⟨rs, rfl, hOs, hok⟩ := own_agg hO
    have hlen : rs.length = 19 := hOs.len.trans (Sm.cells_len _)
    simp at hE hG
    have hF2 := hF.step (by omega) hE hO hG hGd
    have hrow := hE g _ hF.row
    have hx2 : idxA Tryz.prog m' 36 (.own g l.length l.length) (.int .i64 i) = some (.elt g 19 i 0) := idx_own es_36 hrow hy hb
    have hx3 : storeA m' (.elt g 19 i 0) (.agg rs) = some _ := store_elt hrow (by omega) hlen
    have hok2 : ∀ x ∈ rs, okCell x = true := by simpa using hok
    simp [s0, s3, s4, hx2, hx3, hlen]
    refine ⟨hok2, ?_⟩
    try simp [hx3]
    (repeat refine AWp.seq ?_); refine AWp.region noP (by kernel_rfl) ?_
    have hw : IntKind.wrap .i64 ((i : Int) + 1) = (i + 1 : Nat) := wrap64 (by omega) (by omega)
    simp [s4, hw]
    have ht : (l.map Sm.av).take (i + 1) = (l.map Sm.av).take i ++ [l[i].av] := by rw [List.take_add_one]; simp [hq]
    refine hR _ (l.length - (i + 1)) (by omega) ⟨i + 1, _, _, rfl, hb, by simp [s0], by simp [s3], by simp, by rw [ht]; simpa using hF2, ?_⟩
    simp [hy]
  · simp at hb
    refine AWp.exit ?_
    try simp
    (repeat refine AWp.seq ?_); refine AWp.region noP (by kernel_rfl) ?_
    have : i = l.length := by omega
    subst this
    simp [s3]
    have hd := hF.done hy
    rw [List.take_of_length_le (by simp)] at hd
    exact AWp.ret (post_retO rfl (by simp; rfl) (by simpa using hd))
theorem o_toArr0 (a : Ar) : OCall Tryz.prog 207 [a.av] a.av := by
  obtain ⟨s, n⟩ := a
  unfold Ar.av Ar.cells
  refine wcall_of Tryz.func207 (by kernel_rfl) rfl (by simp [Tryz.f207]) ?_
  (repeat refine AWp.seq ?_); refine AWp.region noP (by kernel_rfl) ?_
  simp [set_at]
  intro g1 g2 h2
  have n21 : g2 ≠ g1 := fun e => by simp [e] at h2
  have m12 := n21.symm
  (repeat refine AWp.seq ?_); refine AWp.cutA (fun u => ∃ g3, g3 ≠ g1 ∧ g3 ≠ g2 ∧ u.slots 1 = .ptr g1 0 ∧ u.slots 2 = .ptr g2 0 ∧ u.slots 3 = .ptr g3 0 ∧ Cpy u.mem g1 g2 g3 [.str s, .int .i64 n] 2 [.str ByteArray.empty, .int .i64 0] (fun _ => False) [] []) ?_ ?_
  · refine AWp.region noP (by kernel_rfl) ?_
    simp [set_at]
    intro g3 h3
    have n32 : g3 ≠ g2 := fun e => by simp [e] at h3
    have n31 : g3 ≠ g1 := fun e => by simp [e, m12] at h3
    have m23 := n32.symm
    have m13 := n31.symm
    exact ⟨g3, n31, n32, rfl, Cpy.start (c2 := [.str ByteArray.empty, .int .i64 0]) (by simp [set_at, n21, n32, n31, m12, m23, m13]) (by simp [set_at, n21, n32, n31, m12, m23, m13]) rfl (by simp [set_at, n21, n32, n31, m12, m23, m13])⟩
  rintro u ⟨g3, n31, n32, s1, s2, s3, C⟩
  (repeat refine AWp.seq ?_); refine AWp.cutA (fun u => u.slots 1 = .ptr g1 0 ∧ u.slots 2 = .ptr g2 0 ∧ u.slots 3 = .ptr g3 0 ∧ Cpy u.mem g1 g2 g3 [.str s, .int .i64 n] 2 [.str s, .int .i64 0] (fun _ => False) [.str s] [.str s]) ?_ ?_
  · refine AWp.region noP (by kernel_rfl) ?_
    simp [s1, s2, s3, C.b1, C.b3]
    simpa using C.leaf n31 n32 (own_str _) rfl
  clear C s1 s2 s3
  rintro u ⟨s1, s2, s3, C⟩
  (repeat refine AWp.seq ?_); refine AWp.cutA (fun u => u.slots 1 = .ptr g1 0 ∧ u.slots 2 = .ptr g2 0 ∧ u.slots 3 = .ptr g3 0 ∧ Cpy u.mem g1 g2 g3 [.str s, .int .i64 n] 2 [.str s, .int .i64 n] (fun _ => False) [.str s, .int .i64 n] [.str s, .int .i64 n]) ?_ ?_
  · refine AWp.region noP (by kernel_rfl) ?_
    simp [s1, s2, s3, C.b1, C.b3]
    simpa using C.leaf n31 n32 (own_int _ _) rfl
  clear C s1 s2 s3
  rintro u ⟨s1, s2, s3, C⟩
  obtain ⟨c2, b2, hc2⟩ := C.b2
  have hok := C.ok
  simp only [List.all_cons, List.all_nil, Bool.and_eq_true, Bool.and_true] at hok
  (repeat refine AWp.seq ?_); refine AWp.region noP (by kernel_rfl) ?_
  simp [s1, s2, s3, C.b3, b2, hc2, hok]
  refine AWp.ret (post_cellO (F := (fun _ => False)) (q := .agg [.str s, .int .i64 n]) (.inl rfl) rfl (by simp [s2, set_at]) ?_)
  simpa [s2] using C.done _
theorem o_toExp0 (k n : Int) (s : ByteArray) (l : List Ex) (hl : l.length ≤ 1048576) (h : ∀ x ∈ l, OCall Tryz.prog 18 [x.av] x.av) : OCall Tryz.prog 18 [(Ex.mk k n s l).av] (Ex.mk k n s l).av := by
  unfold Ex.av
  rw [Ex.cells_mk]
  refine wcall_of Tryz.func18 (by kernel_rfl) rfl (by simp [Tryz.f18]) ?_
  (repeat refine AWp.seq ?_); refine AWp.region noP (by kernel_rfl) ?_
  simp [set_at]
  intro g1 g2 h2
  have n21 : g2 ≠ g1 := fun e => by simp [e] at h2
  have m12 := n21.symm
  (repeat refine AWp.seq ?_); refine AWp.cutA (fun u => ∃ g3, g3 ≠ g1 ∧ g3 ≠ g2 ∧ u.slots 1 = .ptr g1 0 ∧ u.slots 2 = .ptr g2 0 ∧ u.slots 3 = .ptr g3 0 ∧ Cpy u.mem g1 g2 g3 [.int .i64 k, .int .i64 n, .str s, .lst false 4 (l.map Ex.av)] 4 [.int .i64 0, .int .i64 0, .str ByteArray.empty, .lst true 0 []] (fun _ => False) [] []) ?_ ?_
  · refine AWp.region noP (by kernel_rfl) ?_
    simp [set_at]
    intro g3 h3
    have n32 : g3 ≠ g2 := fun e => by simp [e] at h3
    have n31 : g3 ≠ g1 := fun e => by simp [e, m12] at h3
    have m23 := n32.symm
    have m13 := n31.symm
    exact ⟨g3, n31, n32, rfl, Cpy.start (c2 := [.int .i64 0, .int .i64 0, .str ByteArray.empty, .lst true 0 []]) (by simp [set_at, n21, n32, n31, m12, m23, m13]) (by simp [set_at, n21, n32, n31, m12, m23, m13]) rfl (by simp [set_at, n21, n32, n31, m12, m23, m13])⟩
  rintro u ⟨g3, n31, n32, s1, s2, s3, C⟩
  (repeat refine AWp.seq ?_); refine AWp.cutA (fun u => u.slots 1 = .ptr g1 0 ∧ u.slots 2 = .ptr g2 0 ∧ u.slots 3 = .ptr g3 0 ∧ Cpy u.mem g1 g2 g3 [.int .i64 k, .int .i64 n, .str s, .lst false 4 (l.map Ex.av)] 4 [.int .i64 k, .int .i64 0, .str ByteArray.empty, .lst true 0 []] (fun _ => False) [.int .i64 k] [.int .i64 k]) ?_ ?_
  · refine AWp.region noP (by kernel_rfl) ?_
    simp [s1, s2, s3, C.b1, C.b3]
    simpa using C.leaf n31 n32 (own_int _ _) rfl
  clear C s1 s2 s3
  rintro u ⟨s1, s2, s3, C⟩
  (repeat refine AWp.seq ?_); refine AWp.cutA (fun u => u.slots 1 = .ptr g1 0 ∧ u.slots 2 = .ptr g2 0 ∧ u.slots 3 = .ptr g3 0 ∧ Cpy u.mem g1 g2 g3 [.int .i64 k, .int .i64 n, .str s, .lst false 4 (l.map Ex.av)] 4 [.int .i64 k, .int .i64 n, .str ByteArray.empty, .lst true 0 []] (fun _ => False) [.int .i64 k, .int .i64 n] [.int .i64 k, .int .i64 n]) ?_ ?_
  · refine AWp.region noP (by kernel_rfl) ?_
    simp [s1, s2, s3, C.b1, C.b3]
    simpa using C.leaf n31 n32 (own_int _ _) rfl
  clear C s1 s2 s3
  rintro u ⟨s1, s2, s3, C⟩
  (repeat refine AWp.seq ?_); refine AWp.cutA (fun u => u.slots 1 = .ptr g1 0 ∧ u.slots 2 = .ptr g2 0 ∧ u.slots 3 = .ptr g3 0 ∧ Cpy u.mem g1 g2 g3 [.int .i64 k, .int .i64 n, .str s, .lst false 4 (l.map Ex.av)] 4 [.int .i64 k, .int .i64 n, .str s, .lst true 0 []] (fun _ => False) [.int .i64 k, .int .i64 n, .str s] [.int .i64 k, .int .i64 n, .str s]) ?_ ?_
  · refine AWp.region noP (by kernel_rfl) ?_
    simp [s1, s2, s3, C.b1, C.b3]
    simpa using C.leaf n31 n32 (own_str _) rfl
  clear C s1 s2 s3
  rintro u ⟨s1, s2, s3, C⟩
  (repeat refine AWp.seq ?_); refine AWp.cutA (fun u => ∃ (F : Nat → Prop) (v3_0 : AV), u.slots 1 = .ptr g1 0 ∧ u.slots 2 = .ptr g2 0 ∧ u.slots 3 = .ptr g3 0 ∧ Cpy u.mem g1 g2 g3 [.int .i64 k, .int .i64 n, .str s, .lst false 4 (l.map Ex.av)] 4 [.int .i64 k, .int .i64 n, .str s, v3_0] F [.int .i64 k, .int .i64 n, .str s, v3_0] [.int .i64 k, .int .i64 n, .str s, .lst false 4 (l.map Ex.av)]) ?_ ?_
  · refine AWp.region noP (by kernel_rfl) ?_
    simp [s1, s2, s3, C.b1, C.b3]
    refine aop_wcall _ _ _ _ _ _ _ _ rfl (eval_func _ _) ?_
    refine OCall.w (o_toExpS l hl h) fun r m' G hE hO hG hGd => ?_
    simp at hE hG
    have b3 := hE _ _ C.b3
    have hok := hO.okc
    rcases own_row hO with ⟨f', e', rfl, hnil⟩ | ⟨g, n, c, rfl, hn, _⟩
    all_goals
      simp [s1, s2, s3, b3]
      exact ⟨_, _, by simpa using C.call n31 n32 hE (OwnTs.one hO) (by simp) (by simpa using hG) hGd⟩
  clear C s1 s2 s3
  rintro u ⟨F3, v3_0, s1, s2, s3, C⟩
  obtain ⟨c2, b2, hc2⟩ := C.b2
  have hok := C.ok
  simp only [List.all_cons, List.all_nil, Bool.and_eq_true, Bool.and_true] at hok
  (repeat refine AWp.seq ?_); refine AWp.region noP (by kernel_rfl) ?_
  simp [s1, s2, s3, C.b3, b2, hc2, hok]
  refine AWp.ret (post_cellO (F := F3) (q := .agg [.int .i64 k, .int .i64 n, .str s, v3_0]) (.inl rfl) rfl (by simp [s2, set_at]) ?_)
  simpa [s2] using C.done _
end Go.T
