/- Statements marked: what the program's marking function computes. Copies that are one's own: what the laws' copying functions compute, of programs. Copies that are one's own, of statements and programs: what the laws' copying functions compute. Statements and expressions marked. Expressions held. What holds the marks of machines; programs and machines marked. Programs and machines marked; what holds a machine's marks. -/
import Derived.Test.YtdbnllfjmkmdiaaGreatDoorG14
import Derived.Test.YtdbnllfjmkmdiaaGreatDoorG5
import Derived.Test.YtdbnllfjmkmdiaaGreatDoorG4
set_option linter.unusedSimpArgs false
set_option linter.unusedVariables false
namespace Go.T
open Go Go.Proofs
set_option maxRecDepth 10000
set_option maxHeartbeats 1000000
def Sm.parts : Sm → List Sm
 | .mk _ _ _ _ _ _ l => l
/-- What marking rows of these comes to. -/
def MkStmt (l : List Sm) : Prop := ∀ (m : Mem) (F : Nat → Prop) (v : AV) (f : Bool) (h : OwnT m F v (.lst f 19 (l.map Sm.av))) (k : Int) (h0 : 0 < k) (hb : k + (AV.cnts (l.map Sm.av) : Int) ≤ 4611686018427387904) (K : AV → Mem → Prop)
  (hK : ∀ m' (l' : List Sm), (∀ b, ¬ F b → m' b = m b) → OwnT m' F v (.lst false 19 (l'.map Sm.av)) → Held (l'.map Sm.av) k (k + (AV.cnts (l.map Sm.av) : Int)) → K (.int .i64 (k + (AV.cnts (l.map Sm.av) : Int))) m'), WCall Tryz.prog 71 [v, .int .i64 k] m K
set_option maxHeartbeats 4000000 in
theorem c_markStmtS0 (l : List Sm) (hr : ∀ x ∈ l, MkStmt x.parts) : MkStmt l := by
 intro m F v f h k h0 hb K hK
 refine wcall_of Tryz.func71 (by kernel_rfl) rfl (by simp [Tryz.f71]) ?_
 rcases own_row h with ⟨f', e', rfl, hnil⟩ | ⟨g, n, c, rfl, hn, rfl⟩
 ·have hl : l = [] := by simpa using hnil
  subst hl
  (repeat refine sqA ?_); refine rgA (by kernel_rfl) ?_
  try simp
  (repeat refine sqA ?_); refine rgA (by kernel_rfl) ?_
  try simp
  (repeat refine sqA ?_); refine AWp.block (AWp.rounds (fun q st => q = 0 ∧ st.slots 0 = .lst f' e' [] ∧ st.slots 1 = .int .i64 k ∧ st.slots 5 = .int .i64 0 ∧ st.mem = m) 0 ⟨rfl, by simp, by simp, by simp, by simp⟩ ?_)
  rintro R q st hR ⟨rfl, s0, s1, s5, sm⟩
  (repeat refine sqA ?_); refine rgA (by kernel_rfl) ?_
  simp [s0, s5]
  (repeat refine sqA ?_); refine AWp.condF (by simp) ?_
  refine AWp.exit ?_
  try simp
  (repeat refine sqA ?_); refine rgA (by kernel_rfl) ?_
  simp [s1]
  refine AWp.ret (post_retW rfl ⟨_, _, View.refl _ _, ?_⟩)
  have := hK m [] (fun _ _ => rfl) (.nil _ _ _) (by simpa [AV.cnts] using Held.nil k)
  simpa [AV.cnts, sm] using this
 obtain ⟨T, G, ys, hM, hy, hx⟩ := Marking.start h
 have hlen : l.length = n := by simpa using hx
 have hcl := cnts_len (f := Sm.av) (fun x => by cases x; simp [Sm.av, Sm.cells_mk, AV.cnt, AV.cnts]; try omega) l
 (repeat refine sqA ?_); refine rgA (by kernel_rfl) ?_
 try simp
 (repeat refine sqA ?_); refine rgA (by kernel_rfl) ?_
 try simp
 (repeat refine sqA ?_); refine AWp.block (AWp.rounds (fun q st => ∃ (i : Nat) (ys : List AV) (ki : Int) (done : List Sm), q = n - i ∧ i ≤ n ∧ done.length = i ∧ ys.length = n ∧ st.slots 0 = .own g n c ∧ st.slots 1 = .int .i64 ki ∧ st.slots 5 = .int .i64 i ∧ Held (done.map Sm.av) k ki ∧ k ≤ ki ∧ ki + (AV.cnts ((l.drop i).map Sm.av) : Int) = k + (AV.cnts (l.map Sm.av) : Int) ∧ Marking st.mem m F g T 19 c G ys ((done ++ l.drop i).map Sm.av)) n ⟨0, ys, k, [], by simp, by simp, rfl, hy, by simp, by simp, by simp, .nil k, by omega, by simp, by simpa using hM⟩ ?_)
 clear hM hy ys
 rintro R q st hR ⟨i, ys, ki, done, rfl, hi, hdl, hy, s0, s1, s5, hH, hki, hcnt, hM⟩
 (repeat refine sqA ?_); refine rgA (by kernel_rfl) ?_
 simp [s0, s5]
 (repeat refine sqA ?_); refine AWp.cond (b := decide (i < n)) (by simp) (fun hlt => ?_) (fun hlt => ?_)
 rotate_left
 ·simp at hlt
  have hin : i = n := by omega
  subst hin
  refine AWp.exit ?_
  try simp
  (repeat refine sqA ?_); refine rgA (by kernel_rfl) ?_
  simp [s1]
  rw [List.drop_eq_nil_of_le (by omega)] at hcnt hM
  rw [List.append_nil] at hM
  have hke : ki = k + (AV.cnts (l.map Sm.av) : Int) := by simpa [AV.cnts] using hcnt
  subst hke
  refine AWp.ret (post_retW rfl ⟨_, _, View.refl _ _, ?_⟩)
  simp
  exact hK _ done hM.out (hM.done hy) hH
 simp at hlt
 have hil : i < l.length := by omega
 have hdr : l.drop i = l[i] :: l.drop (i + 1) := List.drop_eq_getElem_cons hil
 have hmem := List.getElem_mem hil
 have hwi : IntKind.wrap .i64 ((i : Int) + 1) = (i + 1 : Nat) := wrap64 (by omega) (by omega)
 rw [hdr] at hcnt hM
 rcases hx0 : l[i] with ⟨b0, b1, ⟨c0, c1, c2, c3⟩, ⟨d0, d1, d2, d3⟩, ⟨p0, p1, p2, p3⟩, ⟨q0, q1, q2, q3⟩, b6⟩
 rw [hx0] at hcnt hM hmem
 have hat := at_done Sm.av done (Sm.mk b0 b1 (Ex.mk c0 c1 c2 c3) (Ex.mk d0 d1 d2 d3) (Ex.mk p0 p1 p2 p3) (Ex.mk q0 q1 q2 q3) b6) (l.drop (i + 1)) hdl
 obtain ⟨B, cs0, hok, hal, I, hback⟩ := hM.into (i := i) (by omega) (cs := [.int .i64 b0, .str b1, .int .i64 c0, .int .i64 c1, .str c2, .lst false 4 (c3.map Ex.av), .int .i64 d0, .int .i64 d1, .str d2, .lst false 4 (d3.map Ex.av), .int .i64 p0, .int .i64 p1, .str p2, .lst false 4 (p3.map Ex.av), .int .i64 q0, .int .i64 q1, .str q2, .lst false 4 (q3.map Ex.av), .lst false 19 (b6.map Sm.av)]) (by rw [hat]; simp [Sm.av, Sm.cells_mk, Ex.cells_mk])
 obtain ⟨a0, a1, a2, a3, a4, a5, a6, a7, a8, a9, a10, a11, a12, a13, a14, a15, a16, a17, a18, rfl⟩ : ∃ a0 a1 a2 a3 a4 a5 a6 a7 a8 a9 a10 a11 a12 a13 a14 a15 a16 a17 a18, cs0 = [a0, a1, a2, a3, a4, a5, a6, a7, a8, a9, a10, a11, a12, a13, a14, a15, a16, a17, a18] := by
  match cs0, hal with
  | [a0, a1, a2, a3, a4, a5, a6, a7, a8, a9, a10, a11, a12, a13, a14, a15, a16, a17, a18], _ => exact ⟨_, _, _, _, _, _, _, _, _, _, _, _, _, _, _, _, _, _, _, rfl⟩
 simp only [List.map_cons, AV.cnts, Sm.av, Sm.cells_mk, Ex.cells_mk, AV.cnt, List.cons_append, List.nil_append] at hcnt
 simp only [List.all_cons, List.all_nil, Bool.and_eq_true, Bool.and_true] at hok
 refine AWp.skip ?_
 try simp
 (repeat refine sqA ?_); refine AWp.block ?_
 have hg := I.row
 have hx : idxA Tryz.prog st.mem 30 (.own g n c) (.int .i64 i) = some (.elt g 19 i 0) := idx_own es_30 hg (by simp [hy]) hlt
 have I2 := I.leaf 0 (x := .int .i64 (ki)) (own_int _ _)
 have hst := I.store (by omega) rfl 0 (by omega) (by omega) (x := .int .i64 (ki)) rfl
 simp only [List.set_cons_zero, List.set_cons_succ] at I2 hst
 (repeat refine sqA ?_); refine AWp.cutA (fun u => u.slots 0 = .own g n c ∧ u.slots 1 = .int .i64 (ki) ∧ u.slots 5 = .int .i64 i ∧ InRow u.mem st.mem g T 19 c i ys B [.int .i64 (ki), a1, a2, a3, a4, a5, a6, a7, a8, a9, a10, a11, a12, a13, a14, a15, a16, a17, a18] [.int .i64 (ki), .str b1, .int .i64 c0, .int .i64 c1, .str c2, .lst false 4 (c3.map Ex.av), .int .i64 d0, .int .i64 d1, .str d2, .lst false 4 (d3.map Ex.av), .int .i64 p0, .int .i64 p1, .str p2, .lst false 4 (p3.map Ex.av), .int .i64 q0, .int .i64 q1, .str q2, .lst false 4 (q3.map Ex.av), .lst false 19 (b6.map Sm.av)]) ?_ ?_
 ·refine rgA (by kernel_rfl) ?_
  simp [s0, s1, s5, hx, hst]
  exact I2
 clear hg hx hst I2 I
 rintro u0 ⟨s0, s1, s5, I⟩
 have hw : IntKind.wrap .i64 (ki + 1) = ki + 1 := wrap64 (by omega) (by omega)
 (repeat refine sqA ?_); refine rgA (by kernel_rfl) ?_
 simp [s1, hw]
 clear hw
 have hg := I.row
 have hx : idxA Tryz.prog u0.mem 30 (.own g n c) (.int .i64 i) = some (.elt g 19 i 0) := idx_own es_30 hg (by simp [hy]) hlt
 have I2 := I.leaf 1 (x := .str (markT (ki + 1))) (own_str _)
 have hst := I.store (by omega) rfl 1 (by omega) (by omega) (x := .str (markT (ki + 1))) rfl
 simp only [List.set_cons_zero, List.set_cons_succ] at I2 hst
 (repeat refine sqA ?_); refine AWp.cutA (fun u => u.slots 0 = .own g n c ∧ u.slots 1 = .int .i64 (ki + 1) ∧ u.slots 5 = .int .i64 i ∧ InRow u.mem st.mem g T 19 c i ys B [.int .i64 (ki), .str (markT (ki + 1)), a2, a3, a4, a5, a6, a7, a8, a9, a10, a11, a12, a13, a14, a15, a16, a17, a18] [.int .i64 (ki), .str (markT (ki + 1)), .int .i64 c0, .int .i64 c1, .str c2, .lst false 4 (c3.map Ex.av), .int .i64 d0, .int .i64 d1, .str d2, .lst false 4 (d3.map Ex.av), .int .i64 p0, .int .i64 p1, .str p2, .lst false 4 (p3.map Ex.av), .int .i64 q0, .int .i64 q1, .str q2, .lst false 4 (q3.map Ex.av), .lst false 19 (b6.map Sm.av)]) ?_ ?_
 ·refine rgA (by kernel_rfl) ?_
  simp [s0, s1, s5, hx, hst]
  refine aop_call' (c_markText (ki + 1) (by omega) (by omega)) ?_
  simp [s0, s1, s5, hx, hst]
  exact I2
 clear hg hx hst I2 I
 rintro u1 ⟨s0, s1, s5, I⟩
 have hw : IntKind.wrap .i64 (ki + 1 + 1) = ki + 1 + 1 := wrap64 (by omega) (by omega)
 (repeat refine sqA ?_); refine rgA (by kernel_rfl) ?_
 simp [s1, hw]
 clear hw
 have hg := I.row
 have hx : idxA Tryz.prog u1.mem 30 (.own g n c) (.int .i64 i) = some (.elt g 19 i 0) := idx_own es_30 hg (by simp [hy]) hlt
 have I2 := I.leaf 2 (x := .int .i64 (ki + 1 + 1)) (own_int _ _)
 have hst := I.store (by omega) rfl 2 (by omega) (by omega) (x := .int .i64 (ki + 1 + 1)) rfl
 simp only [List.set_cons_zero, List.set_cons_succ] at I2 hst
 (repeat refine sqA ?_); refine AWp.cutA (fun u => u.slots 0 = .own g n c ∧ u.slots 1 = .int .i64 (ki + 1 + 1) ∧ u.slots 5 = .int .i64 i ∧ InRow u.mem st.mem g T 19 c i ys B [.int .i64 (ki), .str (markT (ki + 1)), .int .i64 (ki + 1 + 1), a3, a4, a5, a6, a7, a8, a9, a10, a11, a12, a13, a14, a15, a16, a17, a18] [.int .i64 (ki), .str (markT (ki + 1)), .int .i64 (ki + 1 + 1), .int .i64 c1, .str c2, .lst false 4 (c3.map Ex.av), .int .i64 d0, .int .i64 d1, .str d2, .lst false 4 (d3.map Ex.av), .int .i64 p0, .int .i64 p1, .str p2, .lst false 4 (p3.map Ex.av), .int .i64 q0, .int .i64 q1, .str q2, .lst false 4 (q3.map Ex.av), .lst false 19 (b6.map Sm.av)]) ?_ ?_
 ·refine rgA (by kernel_rfl) ?_
  simp [s0, s1, s5, hx, hst]
  exact I2
 clear hg hx hst I2 I
 rintro u2 ⟨s0, s1, s5, I⟩
 have hw : IntKind.wrap .i64 (ki + 1 + 1 + 1) = ki + 1 + 1 + 1 := wrap64 (by omega) (by omega)
 (repeat refine sqA ?_); refine rgA (by kernel_rfl) ?_
 simp [s1, hw]
 clear hw
 have hg := I.row
 have hx : idxA Tryz.prog u2.mem 30 (.own g n c) (.int .i64 i) = some (.elt g 19 i 0) := idx_own es_30 hg (by simp [hy]) hlt
 have I2 := I.leaf 3 (x := .int .i64 (ki + 1 + 1 + 1)) (own_int _ _)
 have hst := I.store (by omega) rfl 3 (by omega) (by omega) (x := .int .i64 (ki + 1 + 1 + 1)) rfl
 simp only [List.set_cons_zero, List.set_cons_succ] at I2 hst
 (repeat refine sqA ?_); refine AWp.cutA (fun u => u.slots 0 = .own g n c ∧ u.slots 1 = .int .i64 (ki + 1 + 1 + 1) ∧ u.slots 5 = .int .i64 i ∧ InRow u.mem st.mem g T 19 c i ys B [.int .i64 (ki), .str (markT (ki + 1)), .int .i64 (ki + 1 + 1), .int .i64 (ki + 1 + 1 + 1), a4, a5, a6, a7, a8, a9, a10, a11, a12, a13, a14, a15, a16, a17, a18] [.int .i64 (ki), .str (markT (ki + 1)), .int .i64 (ki + 1 + 1), .int .i64 (ki + 1 + 1 + 1), .str c2, .lst false 4 (c3.map Ex.av), .int .i64 d0, .int .i64 d1, .str d2, .lst false 4 (d3.map Ex.av), .int .i64 p0, .int .i64 p1, .str p2, .lst false 4 (p3.map Ex.av), .int .i64 q0, .int .i64 q1, .str q2, .lst false 4 (q3.map Ex.av), .lst false 19 (b6.map Sm.av)]) ?_ ?_
 ·refine rgA (by kernel_rfl) ?_
  simp [s0, s1, s5, hx, hst]
  exact I2
 clear hg hx hst I2 I
 rintro u3 ⟨s0, s1, s5, I⟩
 have hw : IntKind.wrap .i64 (ki + 1 + 1 + 1 + 1) = ki + 1 + 1 + 1 + 1 := wrap64 (by omega) (by omega)
 (repeat refine sqA ?_); refine rgA (by kernel_rfl) ?_
 simp [s1, hw]
 clear hw
 have hg := I.row
 have hx : idxA Tryz.prog u3.mem 30 (.own g n c) (.int .i64 i) = some (.elt g 19 i 0) := idx_own es_30 hg (by simp [hy]) hlt
 have I2 := I.leaf 4 (x := .str (markT (ki + 1 + 1 + 1 + 1))) (own_str _)
 have hst := I.store (by omega) rfl 4 (by omega) (by omega) (x := .str (markT (ki + 1 + 1 + 1 + 1))) rfl
 simp only [List.set_cons_zero, List.set_cons_succ] at I2 hst
 (repeat refine sqA ?_); refine AWp.cutA (fun u => u.slots 0 = .own g n c ∧ u.slots 1 = .int .i64 (ki + 1 + 1 + 1 + 1) ∧ u.slots 5 = .int .i64 i ∧ InRow u.mem st.mem g T 19 c i ys B [.int .i64 (ki), .str (markT (ki + 1)), .int .i64 (ki + 1 + 1), .int .i64 (ki + 1 + 1 + 1), .str (markT (ki + 1 + 1 + 1 + 1)), a5, a6, a7, a8, a9, a10, a11, a12, a13, a14, a15, a16, a17, a18] [.int .i64 (ki), .str (markT (ki + 1)), .int .i64 (ki + 1 + 1), .int .i64 (ki + 1 + 1 + 1), .str (markT (ki + 1 + 1 + 1 + 1)), .lst false 4 (c3.map Ex.av), .int .i64 d0, .int .i64 d1, .str d2, .lst false 4 (d3.map Ex.av), .int .i64 p0, .int .i64 p1, .str p2, .lst false 4 (p3.map Ex.av), .int .i64 q0, .int .i64 q1, .str q2, .lst false 4 (q3.map Ex.av), .lst false 19 (b6.map Sm.av)]) ?_ ?_
 ·refine rgA (by kernel_rfl) ?_
  simp [s0, s1, s5, hx, hst]
  refine aop_call' (c_markText (ki + 1 + 1 + 1 + 1) (by omega) (by omega)) ?_
  simp [s0, s1, s5, hx, hst]
  exact I2
 clear hg hx hst I2 I
 rintro u4 ⟨s0, s1, s5, I⟩
 have hw : IntKind.wrap .i64 (ki + 1 + 1 + 1 + 1 + 1) = ki + 1 + 1 + 1 + 1 + 1 := wrap64 (by omega) (by omega)
 (repeat refine sqA ?_); refine rgA (by kernel_rfl) ?_
 simp [s1, hw]
 clear hw
 have hg := I.row
 have hx : idxA Tryz.prog u4.mem 30 (.own g n c) (.int .i64 i) = some (.elt g 19 i 0) := idx_own es_30 hg (by simp [hy]) hlt
 obtain ⟨A, x, hxo, hown, hupd⟩ := I.call (o := 5) (by simp)
 obtain rfl : .lst false 4 (c3.map Ex.av) = x := Option.some.inj hxo
 simp only [List.getElem_cons_succ, List.getElem_cons_zero] at hown hupd
 (repeat refine sqA ?_); refine AWp.cutA (fun u => ∃ l5 : List Ex, u.slots 0 = .own g n c ∧ u.slots 1 = .int .i64 (ki + 1 + 1 + 1 + 1 + 1 + (AV.cnts (c3.map Ex.av) : Int)) ∧ u.slots 5 = .int .i64 i ∧ Held (l5.map Ex.av) (ki + 1 + 1 + 1 + 1 + 1) (ki + 1 + 1 + 1 + 1 + 1 + (AV.cnts (c3.map Ex.av) : Int)) ∧ InRow u.mem st.mem g T 19 c i ys B [.int .i64 (ki), .str (markT (ki + 1)), .int .i64 (ki + 1 + 1), .int .i64 (ki + 1 + 1 + 1), .str (markT (ki + 1 + 1 + 1 + 1)), a5, a6, a7, a8, a9, a10, a11, a12, a13, a14, a15, a16, a17, a18] [.int .i64 (ki), .str (markT (ki + 1)), .int .i64 (ki + 1 + 1), .int .i64 (ki + 1 + 1 + 1), .str (markT (ki + 1 + 1 + 1 + 1)), .lst false 4 (l5.map Ex.av), .int .i64 d0, .int .i64 d1, .str d2, .lst false 4 (d3.map Ex.av), .int .i64 p0, .int .i64 p1, .str p2, .lst false 4 (p3.map Ex.av), .int .i64 q0, .int .i64 q1, .str q2, .lst false 4 (q3.map Ex.av), .lst false 19 (b6.map Sm.av)]) ?_ ?_
 ·refine rgA (by kernel_rfl) ?_
  simp [s0, s1, s5, hx, hg, hy, hlt]
  refine aop_wcall _ _ _ _ _ _ _ _ rfl (eval_func _ _) ?_
  refine c_markExpS _ _ _ _ _ hown (ki + 1 + 1 + 1 + 1 + 1) (by omega) (by omega) _ fun m' l' hout ho hh => ?_
  simp [s0, s1, s5]
  have I2 := hupd m' _ hout ho
  simp only [List.set_cons_zero, List.set_cons_succ] at I2
  exact ⟨l', hh, I2⟩
 clear hg hx I hupd hown hxo
 rintro u5 ⟨l5, s0, s1, s5, hh5, I⟩
 have hg := I.row
 have hx : idxA Tryz.prog u5.mem 30 (.own g n c) (.int .i64 i) = some (.elt g 19 i 0) := idx_own es_30 hg (by simp [hy]) hlt
 have I2 := I.leaf 6 (x := .int .i64 (ki + 1 + 1 + 1 + 1 + 1 + (AV.cnts (c3.map Ex.av) : Int))) (own_int _ _)
 have hst := I.store (by omega) rfl 6 (by omega) (by omega) (x := .int .i64 (ki + 1 + 1 + 1 + 1 + 1 + (AV.cnts (c3.map Ex.av) : Int))) rfl
 simp only [List.set_cons_zero, List.set_cons_succ] at I2 hst
 (repeat refine sqA ?_); refine AWp.cutA (fun u => u.slots 0 = .own g n c ∧ u.slots 1 = .int .i64 (ki + 1 + 1 + 1 + 1 + 1 + (AV.cnts (c3.map Ex.av) : Int)) ∧ u.slots 5 = .int .i64 i ∧ InRow u.mem st.mem g T 19 c i ys B [.int .i64 (ki), .str (markT (ki + 1)), .int .i64 (ki + 1 + 1), .int .i64 (ki + 1 + 1 + 1), .str (markT (ki + 1 + 1 + 1 + 1)), a5, .int .i64 (ki + 1 + 1 + 1 + 1 + 1 + (AV.cnts (c3.map Ex.av) : Int)), a7, a8, a9, a10, a11, a12, a13, a14, a15, a16, a17, a18] [.int .i64 (ki), .str (markT (ki + 1)), .int .i64 (ki + 1 + 1), .int .i64 (ki + 1 + 1 + 1), .str (markT (ki + 1 + 1 + 1 + 1)), .lst false 4 (l5.map Ex.av), .int .i64 (ki + 1 + 1 + 1 + 1 + 1 + (AV.cnts (c3.map Ex.av) : Int)), .int .i64 d1, .str d2, .lst false 4 (d3.map Ex.av), .int .i64 p0, .int .i64 p1, .str p2, .lst false 4 (p3.map Ex.av), .int .i64 q0, .int .i64 q1, .str q2, .lst false 4 (q3.map Ex.av), .lst false 19 (b6.map Sm.av)]) ?_ ?_
 ·refine rgA (by kernel_rfl) ?_
  simp [s0, s1, s5, hx, hst]
  exact I2
 clear hg hx hst I2 I
 rintro u6 ⟨s0, s1, s5, I⟩
 have hw : IntKind.wrap .i64 (ki + 1 + 1 + 1 + 1 + 1 + (AV.cnts (c3.map Ex.av) : Int) + 1) = ki + 1 + 1 + 1 + 1 + 1 + (AV.cnts (c3.map Ex.av) : Int) + 1 := wrap64 (by omega) (by omega)
 (repeat refine sqA ?_); refine rgA (by kernel_rfl) ?_
 simp [s1, hw]
 clear hw
 have hg := I.row
 have hx : idxA Tryz.prog u6.mem 30 (.own g n c) (.int .i64 i) = some (.elt g 19 i 0) := idx_own es_30 hg (by simp [hy]) hlt
 have I2 := I.leaf 7 (x := .int .i64 (ki + 1 + 1 + 1 + 1 + 1 + (AV.cnts (c3.map Ex.av) : Int) + 1)) (own_int _ _)
 have hst := I.store (by omega) rfl 7 (by omega) (by omega) (x := .int .i64 (ki + 1 + 1 + 1 + 1 + 1 + (AV.cnts (c3.map Ex.av) : Int) + 1)) rfl
 simp only [List.set_cons_zero, List.set_cons_succ] at I2 hst
 (repeat refine sqA ?_); refine AWp.cutA (fun u => u.slots 0 = .own g n c ∧ u.slots 1 = .int .i64 (ki + 1 + 1 + 1 + 1 + 1 + (AV.cnts (c3.map Ex.av) : Int) + 1) ∧ u.slots 5 = .int .i64 i ∧ InRow u.mem st.mem g T 19 c i ys B [.int .i64 (ki), .str (markT (ki + 1)), .int .i64 (ki + 1 + 1), .int .i64 (ki + 1 + 1 + 1), .str (markT (ki + 1 + 1 + 1 + 1)), a5, .int .i64 (ki + 1 + 1 + 1 + 1 + 1 + (AV.cnts (c3.map Ex.av) : Int)), .int .i64 (ki + 1 + 1 + 1 + 1 + 1 + (AV.cnts (c3.map Ex.av) : Int) + 1), a8, a9, a10, a11, a12, a13, a14, a15, a16, a17, a18] [.int .i64 (ki), .str (markT (ki + 1)), .int .i64 (ki + 1 + 1), .int .i64 (ki + 1 + 1 + 1), .str (markT (ki + 1 + 1 + 1 + 1)), .lst false 4 (l5.map Ex.av), .int .i64 (ki + 1 + 1 + 1 + 1 + 1 + (AV.cnts (c3.map Ex.av) : Int)), .int .i64 (ki + 1 + 1 + 1 + 1 + 1 + (AV.cnts (c3.map Ex.av) : Int) + 1), .str d2, .lst false 4 (d3.map Ex.av), .int .i64 p0, .int .i64 p1, .str p2, .lst false 4 (p3.map Ex.av), .int .i64 q0, .int .i64 q1, .str q2, .lst false 4 (q3.map Ex.av), .lst false 19 (b6.map Sm.av)]) ?_ ?_
 ·refine rgA (by kernel_rfl) ?_
  simp [s0, s1, s5, hx, hst]
  exact I2
 clear hg hx hst I2 I
 rintro u7 ⟨s0, s1, s5, I⟩
 have hw : IntKind.wrap .i64 (ki + 1 + 1 + 1 + 1 + 1 + (AV.cnts (c3.map Ex.av) : Int) + 1 + 1) = ki + 1 + 1 + 1 + 1 + 1 + (AV.cnts (c3.map Ex.av) : Int) + 1 + 1 := wrap64 (by omega) (by omega)
 (repeat refine sqA ?_); refine rgA (by kernel_rfl) ?_
 simp [s1, hw]
 clear hw
 have hg := I.row
 have hx : idxA Tryz.prog u7.mem 30 (.own g n c) (.int .i64 i) = some (.elt g 19 i 0) := idx_own es_30 hg (by simp [hy]) hlt
 have I2 := I.leaf 8 (x := .str (markT (ki + 1 + 1 + 1 + 1 + 1 + (AV.cnts (c3.map Ex.av) : Int) + 1 + 1))) (own_str _)
 have hst := I.store (by omega) rfl 8 (by omega) (by omega) (x := .str (markT (ki + 1 + 1 + 1 + 1 + 1 + (AV.cnts (c3.map Ex.av) : Int) + 1 + 1))) rfl
 simp only [List.set_cons_zero, List.set_cons_succ] at I2 hst
 (repeat refine sqA ?_); refine AWp.cutA (fun u => u.slots 0 = .own g n c ∧ u.slots 1 = .int .i64 (ki + 1 + 1 + 1 + 1 + 1 + (AV.cnts (c3.map Ex.av) : Int) + 1 + 1) ∧ u.slots 5 = .int .i64 i ∧ InRow u.mem st.mem g T 19 c i ys B [.int .i64 (ki), .str (markT (ki + 1)), .int .i64 (ki + 1 + 1), .int .i64 (ki + 1 + 1 + 1), .str (markT (ki + 1 + 1 + 1 + 1)), a5, .int .i64 (ki + 1 + 1 + 1 + 1 + 1 + (AV.cnts (c3.map Ex.av) : Int)), .int .i64 (ki + 1 + 1 + 1 + 1 + 1 + (AV.cnts (c3.map Ex.av) : Int) + 1), .str (markT (ki + 1 + 1 + 1 + 1 + 1 + (AV.cnts (c3.map Ex.av) : Int) + 1 + 1)), a9, a10, a11, a12, a13, a14, a15, a16, a17, a18] [.int .i64 (ki), .str (markT (ki + 1)), .int .i64 (ki + 1 + 1), .int .i64 (ki + 1 + 1 + 1), .str (markT (ki + 1 + 1 + 1 + 1)), .lst false 4 (l5.map Ex.av), .int .i64 (ki + 1 + 1 + 1 + 1 + 1 + (AV.cnts (c3.map Ex.av) : Int)), .int .i64 (ki + 1 + 1 + 1 + 1 + 1 + (AV.cnts (c3.map Ex.av) : Int) + 1), .str (markT (ki + 1 + 1 + 1 + 1 + 1 + (AV.cnts (c3.map Ex.av) : Int) + 1 + 1)), .lst false 4 (d3.map Ex.av), .int .i64 p0, .int .i64 p1, .str p2, .lst false 4 (p3.map Ex.av), .int .i64 q0, .int .i64 q1, .str q2, .lst false 4 (q3.map Ex.av), .lst false 19 (b6.map Sm.av)]) ?_ ?_
 ·refine rgA (by kernel_rfl) ?_
  simp [s0, s1, s5, hx, hst]
  refine aop_call' (c_markText (ki + 1 + 1 + 1 + 1 + 1 + (AV.cnts (c3.map Ex.av) : Int) + 1 + 1) (by omega) (by omega)) ?_
  simp [s0, s1, s5, hx, hst]
  exact I2
 clear hg hx hst I2 I
 rintro u8 ⟨s0, s1, s5, I⟩
 have hw : IntKind.wrap .i64 (ki + 1 + 1 + 1 + 1 + 1 + (AV.cnts (c3.map Ex.av) : Int) + 1 + 1 + 1) = ki + 1 + 1 + 1 + 1 + 1 + (AV.cnts (c3.map Ex.av) : Int) + 1 + 1 + 1 := wrap64 (by omega) (by omega)
 (repeat refine sqA ?_); refine rgA (by kernel_rfl) ?_
 simp [s1, hw]
 clear hw
 have hg := I.row
 have hx : idxA Tryz.prog u8.mem 30 (.own g n c) (.int .i64 i) = some (.elt g 19 i 0) := idx_own es_30 hg (by simp [hy]) hlt
 obtain ⟨A, x, hxo, hown, hupd⟩ := I.call (o := 9) (by simp)
 obtain rfl : .lst false 4 (d3.map Ex.av) = x := Option.some.inj hxo
 simp only [List.getElem_cons_succ, List.getElem_cons_zero] at hown hupd
 (repeat refine sqA ?_); refine AWp.cutA (fun u => ∃ l9 : List Ex, u.slots 0 = .own g n c ∧ u.slots 1 = .int .i64 (ki + 1 + 1 + 1 + 1 + 1 + (AV.cnts (c3.map Ex.av) : Int) + 1 + 1 + 1 + (AV.cnts (d3.map Ex.av) : Int)) ∧ u.slots 5 = .int .i64 i ∧ Held (l9.map Ex.av) (ki + 1 + 1 + 1 + 1 + 1 + (AV.cnts (c3.map Ex.av) : Int) + 1 + 1 + 1) (ki + 1 + 1 + 1 + 1 + 1 + (AV.cnts (c3.map Ex.av) : Int) + 1 + 1 + 1 + (AV.cnts (d3.map Ex.av) : Int)) ∧ InRow u.mem st.mem g T 19 c i ys B [.int .i64 (ki), .str (markT (ki + 1)), .int .i64 (ki + 1 + 1), .int .i64 (ki + 1 + 1 + 1), .str (markT (ki + 1 + 1 + 1 + 1)), a5, .int .i64 (ki + 1 + 1 + 1 + 1 + 1 + (AV.cnts (c3.map Ex.av) : Int)), .int .i64 (ki + 1 + 1 + 1 + 1 + 1 + (AV.cnts (c3.map Ex.av) : Int) + 1), .str (markT (ki + 1 + 1 + 1 + 1 + 1 + (AV.cnts (c3.map Ex.av) : Int) + 1 + 1)), a9, a10, a11, a12, a13, a14, a15, a16, a17, a18] [.int .i64 (ki), .str (markT (ki + 1)), .int .i64 (ki + 1 + 1), .int .i64 (ki + 1 + 1 + 1), .str (markT (ki + 1 + 1 + 1 + 1)), .lst false 4 (l5.map Ex.av), .int .i64 (ki + 1 + 1 + 1 + 1 + 1 + (AV.cnts (c3.map Ex.av) : Int)), .int .i64 (ki + 1 + 1 + 1 + 1 + 1 + (AV.cnts (c3.map Ex.av) : Int) + 1), .str (markT (ki + 1 + 1 + 1 + 1 + 1 + (AV.cnts (c3.map Ex.av) : Int) + 1 + 1)), .lst false 4 (l9.map Ex.av), .int .i64 p0, .int .i64 p1, .str p2, .lst false 4 (p3.map Ex.av), .int .i64 q0, .int .i64 q1, .str q2, .lst false 4 (q3.map Ex.av), .lst false 19 (b6.map Sm.av)]) ?_ ?_
 ·refine rgA (by kernel_rfl) ?_
  simp [s0, s1, s5, hx, hg, hy, hlt]
  refine aop_wcall _ _ _ _ _ _ _ _ rfl (eval_func _ _) ?_
  refine c_markExpS _ _ _ _ _ hown (ki + 1 + 1 + 1 + 1 + 1 + (AV.cnts (c3.map Ex.av) : Int) + 1 + 1 + 1) (by omega) (by omega) _ fun m' l' hout ho hh => ?_
  simp [s0, s1, s5]
  have I2 := hupd m' _ hout ho
  simp only [List.set_cons_zero, List.set_cons_succ] at I2
  exact ⟨l', hh, I2⟩
 clear hg hx I hupd hown hxo
 rintro u9 ⟨l9, s0, s1, s5, hh9, I⟩
 have hg := I.row
 have hx : idxA Tryz.prog u9.mem 30 (.own g n c) (.int .i64 i) = some (.elt g 19 i 0) := idx_own es_30 hg (by simp [hy]) hlt
 have I2 := I.leaf 10 (x := .int .i64 (ki + 1 + 1 + 1 + 1 + 1 + (AV.cnts (c3.map Ex.av) : Int) + 1 + 1 + 1 + (AV.cnts (d3.map Ex.av) : Int))) (own_int _ _)
 have hst := I.store (by omega) rfl 10 (by omega) (by omega) (x := .int .i64 (ki + 1 + 1 + 1 + 1 + 1 + (AV.cnts (c3.map Ex.av) : Int) + 1 + 1 + 1 + (AV.cnts (d3.map Ex.av) : Int))) rfl
 simp only [List.set_cons_zero, List.set_cons_succ] at I2 hst
 (repeat refine sqA ?_); refine AWp.cutA (fun u => u.slots 0 = .own g n c ∧ u.slots 1 = .int .i64 (ki + 1 + 1 + 1 + 1 + 1 + (AV.cnts (c3.map Ex.av) : Int) + 1 + 1 + 1 + (AV.cnts (d3.map Ex.av) : Int)) ∧ u.slots 5 = .int .i64 i ∧ InRow u.mem st.mem g T 19 c i ys B [.int .i64 (ki), .str (markT (ki + 1)), .int .i64 (ki + 1 + 1), .int .i64 (ki + 1 + 1 + 1), .str (markT (ki + 1 + 1 + 1 + 1)), a5, .int .i64 (ki + 1 + 1 + 1 + 1 + 1 + (AV.cnts (c3.map Ex.av) : Int)), .int .i64 (ki + 1 + 1 + 1 + 1 + 1 + (AV.cnts (c3.map Ex.av) : Int) + 1), .str (markT (ki + 1 + 1 + 1 + 1 + 1 + (AV.cnts (c3.map Ex.av) : Int) + 1 + 1)), a9, .int .i64 (ki + 1 + 1 + 1 + 1 + 1 + (AV.cnts (c3.map Ex.av) : Int) + 1 + 1 + 1 + (AV.cnts (d3.map Ex.av) : Int)), a11, a12, a13, a14, a15, a16, a17, a18] [.int .i64 (ki), .str (markT (ki + 1)), .int .i64 (ki + 1 + 1), .int .i64 (ki + 1 + 1 + 1), .str (markT (ki + 1 + 1 + 1 + 1)), .lst false 4 (l5.map Ex.av), .int .i64 (ki + 1 + 1 + 1 + 1 + 1 + (AV.cnts (c3.map Ex.av) : Int)), .int .i64 (ki + 1 + 1 + 1 + 1 + 1 + (AV.cnts (c3.map Ex.av) : Int) + 1), .str (markT (ki + 1 + 1 + 1 + 1 + 1 + (AV.cnts (c3.map Ex.av) : Int) + 1 + 1)), .lst false 4 (l9.map Ex.av), .int .i64 (ki + 1 + 1 + 1 + 1 + 1 + (AV.cnts (c3.map Ex.av) : Int) + 1 + 1 + 1 + (AV.cnts (d3.map Ex.av) : Int)), .int .i64 p1, .str p2, .lst false 4 (p3.map Ex.av), .int .i64 q0, .int .i64 q1, .str q2, .lst false 4 (q3.map Ex.av), .lst false 19 (b6.map Sm.av)]) ?_ ?_
 ·refine rgA (by kernel_rfl) ?_
  simp [s0, s1, s5, hx, hst]
  exact I2
 clear hg hx hst I2 I
 rintro u10 ⟨s0, s1, s5, I⟩
 have hw : IntKind.wrap .i64 (ki + 1 + 1 + 1 + 1 + 1 + (AV.cnts (c3.map Ex.av) : Int) + 1 + 1 + 1 + (AV.cnts (d3.map Ex.av) : Int) + 1) = ki + 1 + 1 + 1 + 1 + 1 + (AV.cnts (c3.map Ex.av) : Int) + 1 + 1 + 1 + (AV.cnts (d3.map Ex.av) : Int) + 1 := wrap64 (by omega) (by omega)
 (repeat refine sqA ?_); refine rgA (by kernel_rfl) ?_
 simp [s1, hw]
 clear hw
 have hg := I.row
 have hx : idxA Tryz.prog u10.mem 30 (.own g n c) (.int .i64 i) = some (.elt g 19 i 0) := idx_own es_30 hg (by simp [hy]) hlt
 have I2 := I.leaf 11 (x := .int .i64 (ki + 1 + 1 + 1 + 1 + 1 + (AV.cnts (c3.map Ex.av) : Int) + 1 + 1 + 1 + (AV.cnts (d3.map Ex.av) : Int) + 1)) (own_int _ _)
 have hst := I.store (by omega) rfl 11 (by omega) (by omega) (x := .int .i64 (ki + 1 + 1 + 1 + 1 + 1 + (AV.cnts (c3.map Ex.av) : Int) + 1 + 1 + 1 + (AV.cnts (d3.map Ex.av) : Int) + 1)) rfl
 simp only [List.set_cons_zero, List.set_cons_succ] at I2 hst
 (repeat refine sqA ?_); refine AWp.cutA (fun u => u.slots 0 = .own g n c ∧ u.slots 1 = .int .i64 (ki + 1 + 1 + 1 + 1 + 1 + (AV.cnts (c3.map Ex.av) : Int) + 1 + 1 + 1 + (AV.cnts (d3.map Ex.av) : Int) + 1) ∧ u.slots 5 = .int .i64 i ∧ InRow u.mem st.mem g T 19 c i ys B [.int .i64 (ki), .str (markT (ki + 1)), .int .i64 (ki + 1 + 1), .int .i64 (ki + 1 + 1 + 1), .str (markT (ki + 1 + 1 + 1 + 1)), a5, .int .i64 (ki + 1 + 1 + 1 + 1 + 1 + (AV.cnts (c3.map Ex.av) : Int)), .int .i64 (ki + 1 + 1 + 1 + 1 + 1 + (AV.cnts (c3.map Ex.av) : Int) + 1), .str (markT (ki + 1 + 1 + 1 + 1 + 1 + (AV.cnts (c3.map Ex.av) : Int) + 1 + 1)), a9, .int .i64 (ki + 1 + 1 + 1 + 1 + 1 + (AV.cnts (c3.map Ex.av) : Int) + 1 + 1 + 1 + (AV.cnts (d3.map Ex.av) : Int)), .int .i64 (ki + 1 + 1 + 1 + 1 + 1 + (AV.cnts (c3.map Ex.av) : Int) + 1 + 1 + 1 + (AV.cnts (d3.map Ex.av) : Int) + 1), a12, a13, a14, a15, a16, a17, a18] [.int .i64 (ki), .str (markT (ki + 1)), .int .i64 (ki + 1 + 1), .int .i64 (ki + 1 + 1 + 1), .str (markT (ki + 1 + 1 + 1 + 1)), .lst false 4 (l5.map Ex.av), .int .i64 (ki + 1 + 1 + 1 + 1 + 1 + (AV.cnts (c3.map Ex.av) : Int)), .int .i64 (ki + 1 + 1 + 1 + 1 + 1 + (AV.cnts (c3.map Ex.av) : Int) + 1), .str (markT (ki + 1 + 1 + 1 + 1 + 1 + (AV.cnts (c3.map Ex.av) : Int) + 1 + 1)), .lst false 4 (l9.map Ex.av), .int .i64 (ki + 1 + 1 + 1 + 1 + 1 + (AV.cnts (c3.map Ex.av) : Int) + 1 + 1 + 1 + (AV.cnts (d3.map Ex.av) : Int)), .int .i64 (ki + 1 + 1 + 1 + 1 + 1 + (AV.cnts (c3.map Ex.av) : Int) + 1 + 1 + 1 + (AV.cnts (d3.map Ex.av) : Int) + 1), .str p2, .lst false 4 (p3.map Ex.av), .int .i64 q0, .int .i64 q1, .str q2, .lst false 4 (q3.map Ex.av), .lst false 19 (b6.map Sm.av)]) ?_ ?_
 ·refine rgA (by kernel_rfl) ?_
  simp [s0, s1, s5, hx, hst]
  exact I2
 clear hg hx hst I2 I
 rintro u11 ⟨s0, s1, s5, I⟩
 have hw : IntKind.wrap .i64 (ki + 1 + 1 + 1 + 1 + 1 + (AV.cnts (c3.map Ex.av) : Int) + 1 + 1 + 1 + (AV.cnts (d3.map Ex.av) : Int) + 1 + 1) = ki + 1 + 1 + 1 + 1 + 1 + (AV.cnts (c3.map Ex.av) : Int) + 1 + 1 + 1 + (AV.cnts (d3.map Ex.av) : Int) + 1 + 1 := wrap64 (by omega) (by omega)
 (repeat refine sqA ?_); refine rgA (by kernel_rfl) ?_
 simp [s1, hw]
 clear hw
 have hg := I.row
 have hx : idxA Tryz.prog u11.mem 30 (.own g n c) (.int .i64 i) = some (.elt g 19 i 0) := idx_own es_30 hg (by simp [hy]) hlt
 have I2 := I.leaf 12 (x := .str (markT (ki + 1 + 1 + 1 + 1 + 1 + (AV.cnts (c3.map Ex.av) : Int) + 1 + 1 + 1 + (AV.cnts (d3.map Ex.av) : Int) + 1 + 1))) (own_str _)
 have hst := I.store (by omega) rfl 12 (by omega) (by omega) (x := .str (markT (ki + 1 + 1 + 1 + 1 + 1 + (AV.cnts (c3.map Ex.av) : Int) + 1 + 1 + 1 + (AV.cnts (d3.map Ex.av) : Int) + 1 + 1))) rfl
 simp only [List.set_cons_zero, List.set_cons_succ] at I2 hst
 (repeat refine sqA ?_); refine AWp.cutA (fun u => u.slots 0 = .own g n c ∧ u.slots 1 = .int .i64 (ki + 1 + 1 + 1 + 1 + 1 + (AV.cnts (c3.map Ex.av) : Int) + 1 + 1 + 1 + (AV.cnts (d3.map Ex.av) : Int) + 1 + 1) ∧ u.slots 5 = .int .i64 i ∧ InRow u.mem st.mem g T 19 c i ys B [.int .i64 (ki), .str (markT (ki + 1)), .int .i64 (ki + 1 + 1), .int .i64 (ki + 1 + 1 + 1), .str (markT (ki + 1 + 1 + 1 + 1)), a5, .int .i64 (ki + 1 + 1 + 1 + 1 + 1 + (AV.cnts (c3.map Ex.av) : Int)), .int .i64 (ki + 1 + 1 + 1 + 1 + 1 + (AV.cnts (c3.map Ex.av) : Int) + 1), .str (markT (ki + 1 + 1 + 1 + 1 + 1 + (AV.cnts (c3.map Ex.av) : Int) + 1 + 1)), a9, .int .i64 (ki + 1 + 1 + 1 + 1 + 1 + (AV.cnts (c3.map Ex.av) : Int) + 1 + 1 + 1 + (AV.cnts (d3.map Ex.av) : Int)), .int .i64 (ki + 1 + 1 + 1 + 1 + 1 + (AV.cnts (c3.map Ex.av) : Int) + 1 + 1 + 1 + (AV.cnts (d3.map Ex.av) : Int) + 1), .str (markT (ki + 1 + 1 + 1 + 1 + 1 + (AV.cnts (c3.map Ex.av) : Int) + 1 + 1 + 1 + (AV.cnts (d3.map Ex.av) : Int) + 1 + 1)), a13, a14, a15, a16, a17, a18] [.int .i64 (ki), .str (markT (ki + 1)), .int .i64 (ki + 1 + 1), .int .i64 (ki + 1 + 1 + 1), .str (markT (ki + 1 + 1 + 1 + 1)), .lst false 4 (l5.map Ex.av), .int .i64 (ki + 1 + 1 + 1 + 1 + 1 + (AV.cnts (c3.map Ex.av) : Int)), .int .i64 (ki + 1 + 1 + 1 + 1 + 1 + (AV.cnts (c3.map Ex.av) : Int) + 1), .str (markT (ki + 1 + 1 + 1 + 1 + 1 + (AV.cnts (c3.map Ex.av) : Int) + 1 + 1)), .lst false 4 (l9.map Ex.av), .int .i64 (ki + 1 + 1 + 1 + 1 + 1 + (AV.cnts (c3.map Ex.av) : Int) + 1 + 1 + 1 + (AV.cnts (d3.map Ex.av) : Int)), .int .i64 (ki + 1 + 1 + 1 + 1 + 1 + (AV.cnts (c3.map Ex.av) : Int) + 1 + 1 + 1 + (AV.cnts (d3.map Ex.av) : Int) + 1), .str (markT (ki + 1 + 1 + 1 + 1 + 1 + (AV.cnts (c3.map Ex.av) : Int) + 1 + 1 + 1 + (AV.cnts (d3.map Ex.av) : Int) + 1 + 1)), .lst false 4 (p3.map Ex.av), .int .i64 q0, .int .i64 q1, .str q2, .lst false 4 (q3.map Ex.av), .lst false 19 (b6.map Sm.av)]) ?_ ?_
 ·refine rgA (by kernel_rfl) ?_
  simp [s0, s1, s5, hx, hst]
  refine aop_call' (c_markText (ki + 1 + 1 + 1 + 1 + 1 + (AV.cnts (c3.map Ex.av) : Int) + 1 + 1 + 1 + (AV.cnts (d3.map Ex.av) : Int) + 1 + 1) (by omega) (by omega)) ?_
  simp [s0, s1, s5, hx, hst]
  exact I2
 clear hg hx hst I2 I
 rintro u12 ⟨s0, s1, s5, I⟩
 have hw : IntKind.wrap .i64 (ki + 1 + 1 + 1 + 1 + 1 + (AV.cnts (c3.map Ex.av) : Int) + 1 + 1 + 1 + (AV.cnts (d3.map Ex.av) : Int) + 1 + 1 + 1) = ki + 1 + 1 + 1 + 1 + 1 + (AV.cnts (c3.map Ex.av) : Int) + 1 + 1 + 1 + (AV.cnts (d3.map Ex.av) : Int) + 1 + 1 + 1 := wrap64 (by omega) (by omega)
 (repeat refine sqA ?_); refine rgA (by kernel_rfl) ?_
 simp [s1, hw]
 clear hw
 have hg := I.row
 have hx : idxA Tryz.prog u12.mem 30 (.own g n c) (.int .i64 i) = some (.elt g 19 i 0) := idx_own es_30 hg (by simp [hy]) hlt
 obtain ⟨A, x, hxo, hown, hupd⟩ := I.call (o := 13) (by simp)
 obtain rfl : .lst false 4 (p3.map Ex.av) = x := Option.some.inj hxo
 simp only [List.getElem_cons_succ, List.getElem_cons_zero] at hown hupd
 (repeat refine sqA ?_); refine AWp.cutA (fun u => ∃ l13 : List Ex, u.slots 0 = .own g n c ∧ u.slots 1 = .int .i64 (ki + 1 + 1 + 1 + 1 + 1 + (AV.cnts (c3.map Ex.av) : Int) + 1 + 1 + 1 + (AV.cnts (d3.map Ex.av) : Int) + 1 + 1 + 1 + (AV.cnts (p3.map Ex.av) : Int)) ∧ u.slots 5 = .int .i64 i ∧ Held (l13.map Ex.av) (ki + 1 + 1 + 1 + 1 + 1 + (AV.cnts (c3.map Ex.av) : Int) + 1 + 1 + 1 + (AV.cnts (d3.map Ex.av) : Int) + 1 + 1 + 1) (ki + 1 + 1 + 1 + 1 + 1 + (AV.cnts (c3.map Ex.av) : Int) + 1 + 1 + 1 + (AV.cnts (d3.map Ex.av) : Int) + 1 + 1 + 1 + (AV.cnts (p3.map Ex.av) : Int)) ∧ InRow u.mem st.mem g T 19 c i ys B [.int .i64 (ki), .str (markT (ki + 1)), .int .i64 (ki + 1 + 1), .int .i64 (ki + 1 + 1 + 1), .str (markT (ki + 1 + 1 + 1 + 1)), a5, .int .i64 (ki + 1 + 1 + 1 + 1 + 1 + (AV.cnts (c3.map Ex.av) : Int)), .int .i64 (ki + 1 + 1 + 1 + 1 + 1 + (AV.cnts (c3.map Ex.av) : Int) + 1), .str (markT (ki + 1 + 1 + 1 + 1 + 1 + (AV.cnts (c3.map Ex.av) : Int) + 1 + 1)), a9, .int .i64 (ki + 1 + 1 + 1 + 1 + 1 + (AV.cnts (c3.map Ex.av) : Int) + 1 + 1 + 1 + (AV.cnts (d3.map Ex.av) : Int)), .int .i64 (ki + 1 + 1 + 1 + 1 + 1 + (AV.cnts (c3.map Ex.av) : Int) + 1 + 1 + 1 + (AV.cnts (d3.map Ex.av) : Int) + 1), .str (markT (ki + 1 + 1 + 1 + 1 + 1 + (AV.cnts (c3.map Ex.av) : Int) + 1 + 1 + 1 + (AV.cnts (d3.map Ex.av) : Int) + 1 + 1)), a13, a14, a15, a16, a17, a18] [.int .i64 (ki), .str (markT (ki + 1)), .int .i64 (ki + 1 + 1), .int .i64 (ki + 1 + 1 + 1), .str (markT (ki + 1 + 1 + 1 + 1)), .lst false 4 (l5.map Ex.av), .int .i64 (ki + 1 + 1 + 1 + 1 + 1 + (AV.cnts (c3.map Ex.av) : Int)), .int .i64 (ki + 1 + 1 + 1 + 1 + 1 + (AV.cnts (c3.map Ex.av) : Int) + 1), .str (markT (ki + 1 + 1 + 1 + 1 + 1 + (AV.cnts (c3.map Ex.av) : Int) + 1 + 1)), .lst false 4 (l9.map Ex.av), .int .i64 (ki + 1 + 1 + 1 + 1 + 1 + (AV.cnts (c3.map Ex.av) : Int) + 1 + 1 + 1 + (AV.cnts (d3.map Ex.av) : Int)), .int .i64 (ki + 1 + 1 + 1 + 1 + 1 + (AV.cnts (c3.map Ex.av) : Int) + 1 + 1 + 1 + (AV.cnts (d3.map Ex.av) : Int) + 1), .str (markT (ki + 1 + 1 + 1 + 1 + 1 + (AV.cnts (c3.map Ex.av) : Int) + 1 + 1 + 1 + (AV.cnts (d3.map Ex.av) : Int) + 1 + 1)), .lst false 4 (l13.map Ex.av), .int .i64 q0, .int .i64 q1, .str q2, .lst false 4 (q3.map Ex.av), .lst false 19 (b6.map Sm.av)]) ?_ ?_
 ·refine rgA (by kernel_rfl) ?_
  simp [s0, s1, s5, hx, hg, hy, hlt]
  refine aop_wcall _ _ _ _ _ _ _ _ rfl (eval_func _ _) ?_
  refine c_markExpS _ _ _ _ _ hown (ki + 1 + 1 + 1 + 1 + 1 + (AV.cnts (c3.map Ex.av) : Int) + 1 + 1 + 1 + (AV.cnts (d3.map Ex.av) : Int) + 1 + 1 + 1) (by omega) (by omega) _ fun m' l' hout ho hh => ?_
  simp [s0, s1, s5]
  have I2 := hupd m' _ hout ho
  simp only [List.set_cons_zero, List.set_cons_succ] at I2
  exact ⟨l', hh, I2⟩
 clear hg hx I hupd hown hxo
 rintro u13 ⟨l13, s0, s1, s5, hh13, I⟩
 have hg := I.row
 have hx : idxA Tryz.prog u13.mem 30 (.own g n c) (.int .i64 i) = some (.elt g 19 i 0) := idx_own es_30 hg (by simp [hy]) hlt
 have I2 := I.leaf 14 (x := .int .i64 (ki + 1 + 1 + 1 + 1 + 1 + (AV.cnts (c3.map Ex.av) : Int) + 1 + 1 + 1 + (AV.cnts (d3.map Ex.av) : Int) + 1 + 1 + 1 + (AV.cnts (p3.map Ex.av) : Int))) (own_int _ _)
 have hst := I.store (by omega) rfl 14 (by omega) (by omega) (x := .int .i64 (ki + 1 + 1 + 1 + 1 + 1 + (AV.cnts (c3.map Ex.av) : Int) + 1 + 1 + 1 + (AV.cnts (d3.map Ex.av) : Int) + 1 + 1 + 1 + (AV.cnts (p3.map Ex.av) : Int))) rfl
 simp only [List.set_cons_zero, List.set_cons_succ] at I2 hst
 (repeat refine sqA ?_); refine AWp.cutA (fun u => u.slots 0 = .own g n c ∧ u.slots 1 = .int .i64 (ki + 1 + 1 + 1 + 1 + 1 + (AV.cnts (c3.map Ex.av) : Int) + 1 + 1 + 1 + (AV.cnts (d3.map Ex.av) : Int) + 1 + 1 + 1 + (AV.cnts (p3.map Ex.av) : Int)) ∧ u.slots 5 = .int .i64 i ∧ InRow u.mem st.mem g T 19 c i ys B [.int .i64 (ki), .str (markT (ki + 1)), .int .i64 (ki + 1 + 1), .int .i64 (ki + 1 + 1 + 1), .str (markT (ki + 1 + 1 + 1 + 1)), a5, .int .i64 (ki + 1 + 1 + 1 + 1 + 1 + (AV.cnts (c3.map Ex.av) : Int)), .int .i64 (ki + 1 + 1 + 1 + 1 + 1 + (AV.cnts (c3.map Ex.av) : Int) + 1), .str (markT (ki + 1 + 1 + 1 + 1 + 1 + (AV.cnts (c3.map Ex.av) : Int) + 1 + 1)), a9, .int .i64 (ki + 1 + 1 + 1 + 1 + 1 + (AV.cnts (c3.map Ex.av) : Int) + 1 + 1 + 1 + (AV.cnts (d3.map Ex.av) : Int)), .int .i64 (ki + 1 + 1 + 1 + 1 + 1 + (AV.cnts (c3.map Ex.av) : Int) + 1 + 1 + 1 + (AV.cnts (d3.map Ex.av) : Int) + 1), .str (markT (ki + 1 + 1 + 1 + 1 + 1 + (AV.cnts (c3.map Ex.av) : Int) + 1 + 1 + 1 + (AV.cnts (d3.map Ex.av) : Int) + 1 + 1)), a13, .int .i64 (ki + 1 + 1 + 1 + 1 + 1 + (AV.cnts (c3.map Ex.av) : Int) + 1 + 1 + 1 + (AV.cnts (d3.map Ex.av) : Int) + 1 + 1 + 1 + (AV.cnts (p3.map Ex.av) : Int)), a15, a16, a17, a18] [.int .i64 (ki), .str (markT (ki + 1)), .int .i64 (ki + 1 + 1), .int .i64 (ki + 1 + 1 + 1), .str (markT (ki + 1 + 1 + 1 + 1)), .lst false 4 (l5.map Ex.av), .int .i64 (ki + 1 + 1 + 1 + 1 + 1 + (AV.cnts (c3.map Ex.av) : Int)), .int .i64 (ki + 1 + 1 + 1 + 1 + 1 + (AV.cnts (c3.map Ex.av) : Int) + 1), .str (markT (ki + 1 + 1 + 1 + 1 + 1 + (AV.cnts (c3.map Ex.av) : Int) + 1 + 1)), .lst false 4 (l9.map Ex.av), .int .i64 (ki + 1 + 1 + 1 + 1 + 1 + (AV.cnts (c3.map Ex.av) : Int) + 1 + 1 + 1 + (AV.cnts (d3.map Ex.av) : Int)), .int .i64 (ki + 1 + 1 + 1 + 1 + 1 + (AV.cnts (c3.map Ex.av) : Int) + 1 + 1 + 1 + (AV.cnts (d3.map Ex.av) : Int) + 1), .str (markT (ki + 1 + 1 + 1 + 1 + 1 + (AV.cnts (c3.map Ex.av) : Int) + 1 + 1 + 1 + (AV.cnts (d3.map Ex.av) : Int) + 1 + 1)), .lst false 4 (l13.map Ex.av), .int .i64 (ki + 1 + 1 + 1 + 1 + 1 + (AV.cnts (c3.map Ex.av) : Int) + 1 + 1 + 1 + (AV.cnts (d3.map Ex.av) : Int) + 1 + 1 + 1 + (AV.cnts (p3.map Ex.av) : Int)), .int .i64 q1, .str q2, .lst false 4 (q3.map Ex.av), .lst false 19 (b6.map Sm.av)]) ?_ ?_
 ·refine rgA (by kernel_rfl) ?_
  simp [s0, s1, s5, hx, hst]
  exact I2
 clear hg hx hst I2 I
 rintro u14 ⟨s0, s1, s5, I⟩
 have hw : IntKind.wrap .i64 (ki + 1 + 1 + 1 + 1 + 1 + (AV.cnts (c3.map Ex.av) : Int) + 1 + 1 + 1 + (AV.cnts (d3.map Ex.av) : Int) + 1 + 1 + 1 + (AV.cnts (p3.map Ex.av) : Int) + 1) = ki + 1 + 1 + 1 + 1 + 1 + (AV.cnts (c3.map Ex.av) : Int) + 1 + 1 + 1 + (AV.cnts (d3.map Ex.av) : Int) + 1 + 1 + 1 + (AV.cnts (p3.map Ex.av) : Int) + 1 := wrap64 (by omega) (by omega)
 (repeat refine sqA ?_); refine rgA (by kernel_rfl) ?_
 simp [s1, hw]
 clear hw
 have hg := I.row
 have hx : idxA Tryz.prog u14.mem 30 (.own g n c) (.int .i64 i) = some (.elt g 19 i 0) := idx_own es_30 hg (by simp [hy]) hlt
 have I2 := I.leaf 15 (x := .int .i64 (ki + 1 + 1 + 1 + 1 + 1 + (AV.cnts (c3.map Ex.av) : Int) + 1 + 1 + 1 + (AV.cnts (d3.map Ex.av) : Int) + 1 + 1 + 1 + (AV.cnts (p3.map Ex.av) : Int) + 1)) (own_int _ _)
 have hst := I.store (by omega) rfl 15 (by omega) (by omega) (x := .int .i64 (ki + 1 + 1 + 1 + 1 + 1 + (AV.cnts (c3.map Ex.av) : Int) + 1 + 1 + 1 + (AV.cnts (d3.map Ex.av) : Int) + 1 + 1 + 1 + (AV.cnts (p3.map Ex.av) : Int) + 1)) rfl
 simp only [List.set_cons_zero, List.set_cons_succ] at I2 hst
 (repeat refine sqA ?_); refine AWp.cutA (fun u => u.slots 0 = .own g n c ∧ u.slots 1 = .int .i64 (ki + 1 + 1 + 1 + 1 + 1 + (AV.cnts (c3.map Ex.av) : Int) + 1 + 1 + 1 + (AV.cnts (d3.map Ex.av) : Int) + 1 + 1 + 1 + (AV.cnts (p3.map Ex.av) : Int) + 1) ∧ u.slots 5 = .int .i64 i ∧ InRow u.mem st.mem g T 19 c i ys B [.int .i64 (ki), .str (markT (ki + 1)), .int .i64 (ki + 1 + 1), .int .i64 (ki + 1 + 1 + 1), .str (markT (ki + 1 + 1 + 1 + 1)), a5, .int .i64 (ki + 1 + 1 + 1 + 1 + 1 + (AV.cnts (c3.map Ex.av) : Int)), .int .i64 (ki + 1 + 1 + 1 + 1 + 1 + (AV.cnts (c3.map Ex.av) : Int) + 1), .str (markT (ki + 1 + 1 + 1 + 1 + 1 + (AV.cnts (c3.map Ex.av) : Int) + 1 + 1)), a9, .int .i64 (ki + 1 + 1 + 1 + 1 + 1 + (AV.cnts (c3.map Ex.av) : Int) + 1 + 1 + 1 + (AV.cnts (d3.map Ex.av) : Int)), .int .i64 (ki + 1 + 1 + 1 + 1 + 1 + (AV.cnts (c3.map Ex.av) : Int) + 1 + 1 + 1 + (AV.cnts (d3.map Ex.av) : Int) + 1), .str (markT (ki + 1 + 1 + 1 + 1 + 1 + (AV.cnts (c3.map Ex.av) : Int) + 1 + 1 + 1 + (AV.cnts (d3.map Ex.av) : Int) + 1 + 1)), a13, .int .i64 (ki + 1 + 1 + 1 + 1 + 1 + (AV.cnts (c3.map Ex.av) : Int) + 1 + 1 + 1 + (AV.cnts (d3.map Ex.av) : Int) + 1 + 1 + 1 + (AV.cnts (p3.map Ex.av) : Int)), .int .i64 (ki + 1 + 1 + 1 + 1 + 1 + (AV.cnts (c3.map Ex.av) : Int) + 1 + 1 + 1 + (AV.cnts (d3.map Ex.av) : Int) + 1 + 1 + 1 + (AV.cnts (p3.map Ex.av) : Int) + 1), a16, a17, a18] [.int .i64 (ki), .str (markT (ki + 1)), .int .i64 (ki + 1 + 1), .int .i64 (ki + 1 + 1 + 1), .str (markT (ki + 1 + 1 + 1 + 1)), .lst false 4 (l5.map Ex.av), .int .i64 (ki + 1 + 1 + 1 + 1 + 1 + (AV.cnts (c3.map Ex.av) : Int)), .int .i64 (ki + 1 + 1 + 1 + 1 + 1 + (AV.cnts (c3.map Ex.av) : Int) + 1), .str (markT (ki + 1 + 1 + 1 + 1 + 1 + (AV.cnts (c3.map Ex.av) : Int) + 1 + 1)), .lst false 4 (l9.map Ex.av), .int .i64 (ki + 1 + 1 + 1 + 1 + 1 + (AV.cnts (c3.map Ex.av) : Int) + 1 + 1 + 1 + (AV.cnts (d3.map Ex.av) : Int)), .int .i64 (ki + 1 + 1 + 1 + 1 + 1 + (AV.cnts (c3.map Ex.av) : Int) + 1 + 1 + 1 + (AV.cnts (d3.map Ex.av) : Int) + 1), .str (markT (ki + 1 + 1 + 1 + 1 + 1 + (AV.cnts (c3.map Ex.av) : Int) + 1 + 1 + 1 + (AV.cnts (d3.map Ex.av) : Int) + 1 + 1)), .lst false 4 (l13.map Ex.av), .int .i64 (ki + 1 + 1 + 1 + 1 + 1 + (AV.cnts (c3.map Ex.av) : Int) + 1 + 1 + 1 + (AV.cnts (d3.map Ex.av) : Int) + 1 + 1 + 1 + (AV.cnts (p3.map Ex.av) : Int)), .int .i64 (ki + 1 + 1 + 1 + 1 + 1 + (AV.cnts (c3.map Ex.av) : Int) + 1 + 1 + 1 + (AV.cnts (d3.map Ex.av) : Int) + 1 + 1 + 1 + (AV.cnts (p3.map Ex.av) : Int) + 1), .str q2, .lst false 4 (q3.map Ex.av), .lst false 19 (b6.map Sm.av)]) ?_ ?_
 ·refine rgA (by kernel_rfl) ?_
  simp [s0, s1, s5, hx, hst]
  exact I2
 clear hg hx hst I2 I
 rintro u15 ⟨s0, s1, s5, I⟩
 have hw : IntKind.wrap .i64 (ki + 1 + 1 + 1 + 1 + 1 + (AV.cnts (c3.map Ex.av) : Int) + 1 + 1 + 1 + (AV.cnts (d3.map Ex.av) : Int) + 1 + 1 + 1 + (AV.cnts (p3.map Ex.av) : Int) + 1 + 1) = ki + 1 + 1 + 1 + 1 + 1 + (AV.cnts (c3.map Ex.av) : Int) + 1 + 1 + 1 + (AV.cnts (d3.map Ex.av) : Int) + 1 + 1 + 1 + (AV.cnts (p3.map Ex.av) : Int) + 1 + 1 := wrap64 (by omega) (by omega)
 (repeat refine sqA ?_); refine rgA (by kernel_rfl) ?_
 simp [s1, hw]
 clear hw
 have hg := I.row
 have hx : idxA Tryz.prog u15.mem 30 (.own g n c) (.int .i64 i) = some (.elt g 19 i 0) := idx_own es_30 hg (by simp [hy]) hlt
 have I2 := I.leaf 16 (x := .str (markT (ki + 1 + 1 + 1 + 1 + 1 + (AV.cnts (c3.map Ex.av) : Int) + 1 + 1 + 1 + (AV.cnts (d3.map Ex.av) : Int) + 1 + 1 + 1 + (AV.cnts (p3.map Ex.av) : Int) + 1 + 1))) (own_str _)
 have hst := I.store (by omega) rfl 16 (by omega) (by omega) (x := .str (markT (ki + 1 + 1 + 1 + 1 + 1 + (AV.cnts (c3.map Ex.av) : Int) + 1 + 1 + 1 + (AV.cnts (d3.map Ex.av) : Int) + 1 + 1 + 1 + (AV.cnts (p3.map Ex.av) : Int) + 1 + 1))) rfl
 simp only [List.set_cons_zero, List.set_cons_succ] at I2 hst
 (repeat refine sqA ?_); refine AWp.cutA (fun u => u.slots 0 = .own g n c ∧ u.slots 1 = .int .i64 (ki + 1 + 1 + 1 + 1 + 1 + (AV.cnts (c3.map Ex.av) : Int) + 1 + 1 + 1 + (AV.cnts (d3.map Ex.av) : Int) + 1 + 1 + 1 + (AV.cnts (p3.map Ex.av) : Int) + 1 + 1) ∧ u.slots 5 = .int .i64 i ∧ InRow u.mem st.mem g T 19 c i ys B [.int .i64 (ki), .str (markT (ki + 1)), .int .i64 (ki + 1 + 1), .int .i64 (ki + 1 + 1 + 1), .str (markT (ki + 1 + 1 + 1 + 1)), a5, .int .i64 (ki + 1 + 1 + 1 + 1 + 1 + (AV.cnts (c3.map Ex.av) : Int)), .int .i64 (ki + 1 + 1 + 1 + 1 + 1 + (AV.cnts (c3.map Ex.av) : Int) + 1), .str (markT (ki + 1 + 1 + 1 + 1 + 1 + (AV.cnts (c3.map Ex.av) : Int) + 1 + 1)), a9, .int .i64 (ki + 1 + 1 + 1 + 1 + 1 + (AV.cnts (c3.map Ex.av) : Int) + 1 + 1 + 1 + (AV.cnts (d3.map Ex.av) : Int)), .int .i64 (ki + 1 + 1 + 1 + 1 + 1 + (AV.cnts (c3.map Ex.av) : Int) + 1 + 1 + 1 + (AV.cnts (d3.map Ex.av) : Int) + 1), .str (markT (ki + 1 + 1 + 1 + 1 + 1 + (AV.cnts (c3.map Ex.av) : Int) + 1 + 1 + 1 + (AV.cnts (d3.map Ex.av) : Int) + 1 + 1)), a13, .int .i64 (ki + 1 + 1 + 1 + 1 + 1 + (AV.cnts (c3.map Ex.av) : Int) + 1 + 1 + 1 + (AV.cnts (d3.map Ex.av) : Int) + 1 + 1 + 1 + (AV.cnts (p3.map Ex.av) : Int)), .int .i64 (ki + 1 + 1 + 1 + 1 + 1 + (AV.cnts (c3.map Ex.av) : Int) + 1 + 1 + 1 + (AV.cnts (d3.map Ex.av) : Int) + 1 + 1 + 1 + (AV.cnts (p3.map Ex.av) : Int) + 1), .str (markT (ki + 1 + 1 + 1 + 1 + 1 + (AV.cnts (c3.map Ex.av) : Int) + 1 + 1 + 1 + (AV.cnts (d3.map Ex.av) : Int) + 1 + 1 + 1 + (AV.cnts (p3.map Ex.av) : Int) + 1 + 1)), a17, a18] [.int .i64 (ki), .str (markT (ki + 1)), .int .i64 (ki + 1 + 1), .int .i64 (ki + 1 + 1 + 1), .str (markT (ki + 1 + 1 + 1 + 1)), .lst false 4 (l5.map Ex.av), .int .i64 (ki + 1 + 1 + 1 + 1 + 1 + (AV.cnts (c3.map Ex.av) : Int)), .int .i64 (ki + 1 + 1 + 1 + 1 + 1 + (AV.cnts (c3.map Ex.av) : Int) + 1), .str (markT (ki + 1 + 1 + 1 + 1 + 1 + (AV.cnts (c3.map Ex.av) : Int) + 1 + 1)), .lst false 4 (l9.map Ex.av), .int .i64 (ki + 1 + 1 + 1 + 1 + 1 + (AV.cnts (c3.map Ex.av) : Int) + 1 + 1 + 1 + (AV.cnts (d3.map Ex.av) : Int)), .int .i64 (ki + 1 + 1 + 1 + 1 + 1 + (AV.cnts (c3.map Ex.av) : Int) + 1 + 1 + 1 + (AV.cnts (d3.map Ex.av) : Int) + 1), .str (markT (ki + 1 + 1 + 1 + 1 + 1 + (AV.cnts (c3.map Ex.av) : Int) + 1 + 1 + 1 + (AV.cnts (d3.map Ex.av) : Int) + 1 + 1)), .lst false 4 (l13.map Ex.av), .int .i64 (ki + 1 + 1 + 1 + 1 + 1 + (AV.cnts (c3.map Ex.av) : Int) + 1 + 1 + 1 + (AV.cnts (d3.map Ex.av) : Int) + 1 + 1 + 1 + (AV.cnts (p3.map Ex.av) : Int)), .int .i64 (ki + 1 + 1 + 1 + 1 + 1 + (AV.cnts (c3.map Ex.av) : Int) + 1 + 1 + 1 + (AV.cnts (d3.map Ex.av) : Int) + 1 + 1 + 1 + (AV.cnts (p3.map Ex.av) : Int) + 1), .str (markT (ki + 1 + 1 + 1 + 1 + 1 + (AV.cnts (c3.map Ex.av) : Int) + 1 + 1 + 1 + (AV.cnts (d3.map Ex.av) : Int) + 1 + 1 + 1 + (AV.cnts (p3.map Ex.av) : Int) + 1 + 1)), .lst false 4 (q3.map Ex.av), .lst false 19 (b6.map Sm.av)]) ?_ ?_
 ·refine rgA (by kernel_rfl) ?_
  simp [s0, s1, s5, hx, hst]
  refine aop_call' (c_markText (ki + 1 + 1 + 1 + 1 + 1 + (AV.cnts (c3.map Ex.av) : Int) + 1 + 1 + 1 + (AV.cnts (d3.map Ex.av) : Int) + 1 + 1 + 1 + (AV.cnts (p3.map Ex.av) : Int) + 1 + 1) (by omega) (by omega)) ?_
  simp [s0, s1, s5, hx, hst]
  exact I2
 clear hg hx hst I2 I
 rintro u16 ⟨s0, s1, s5, I⟩
 have hw : IntKind.wrap .i64 (ki + 1 + 1 + 1 + 1 + 1 + (AV.cnts (c3.map Ex.av) : Int) + 1 + 1 + 1 + (AV.cnts (d3.map Ex.av) : Int) + 1 + 1 + 1 + (AV.cnts (p3.map Ex.av) : Int) + 1 + 1 + 1) = ki + 1 + 1 + 1 + 1 + 1 + (AV.cnts (c3.map Ex.av) : Int) + 1 + 1 + 1 + (AV.cnts (d3.map Ex.av) : Int) + 1 + 1 + 1 + (AV.cnts (p3.map Ex.av) : Int) + 1 + 1 + 1 := wrap64 (by omega) (by omega)
 (repeat refine sqA ?_); refine rgA (by kernel_rfl) ?_
 simp [s1, hw]
 clear hw
 have hg := I.row
 have hx : idxA Tryz.prog u16.mem 30 (.own g n c) (.int .i64 i) = some (.elt g 19 i 0) := idx_own es_30 hg (by simp [hy]) hlt
 obtain ⟨A, x, hxo, hown, hupd⟩ := I.call (o := 17) (by simp)
 obtain rfl : .lst false 4 (q3.map Ex.av) = x := Option.some.inj hxo
 simp only [List.getElem_cons_succ, List.getElem_cons_zero] at hown hupd
 (repeat refine sqA ?_); refine AWp.cutA (fun u => ∃ l17 : List Ex, u.slots 0 = .own g n c ∧ u.slots 1 = .int .i64 (ki + 1 + 1 + 1 + 1 + 1 + (AV.cnts (c3.map Ex.av) : Int) + 1 + 1 + 1 + (AV.cnts (d3.map Ex.av) : Int) + 1 + 1 + 1 + (AV.cnts (p3.map Ex.av) : Int) + 1 + 1 + 1 + (AV.cnts (q3.map Ex.av) : Int)) ∧ u.slots 5 = .int .i64 i ∧ Held (l17.map Ex.av) (ki + 1 + 1 + 1 + 1 + 1 + (AV.cnts (c3.map Ex.av) : Int) + 1 + 1 + 1 + (AV.cnts (d3.map Ex.av) : Int) + 1 + 1 + 1 + (AV.cnts (p3.map Ex.av) : Int) + 1 + 1 + 1) (ki + 1 + 1 + 1 + 1 + 1 + (AV.cnts (c3.map Ex.av) : Int) + 1 + 1 + 1 + (AV.cnts (d3.map Ex.av) : Int) + 1 + 1 + 1 + (AV.cnts (p3.map Ex.av) : Int) + 1 + 1 + 1 + (AV.cnts (q3.map Ex.av) : Int)) ∧ InRow u.mem st.mem g T 19 c i ys B [.int .i64 (ki), .str (markT (ki + 1)), .int .i64 (ki + 1 + 1), .int .i64 (ki + 1 + 1 + 1), .str (markT (ki + 1 + 1 + 1 + 1)), a5, .int .i64 (ki + 1 + 1 + 1 + 1 + 1 + (AV.cnts (c3.map Ex.av) : Int)), .int .i64 (ki + 1 + 1 + 1 + 1 + 1 + (AV.cnts (c3.map Ex.av) : Int) + 1), .str (markT (ki + 1 + 1 + 1 + 1 + 1 + (AV.cnts (c3.map Ex.av) : Int) + 1 + 1)), a9, .int .i64 (ki + 1 + 1 + 1 + 1 + 1 + (AV.cnts (c3.map Ex.av) : Int) + 1 + 1 + 1 + (AV.cnts (d3.map Ex.av) : Int)), .int .i64 (ki + 1 + 1 + 1 + 1 + 1 + (AV.cnts (c3.map Ex.av) : Int) + 1 + 1 + 1 + (AV.cnts (d3.map Ex.av) : Int) + 1), .str (markT (ki + 1 + 1 + 1 + 1 + 1 + (AV.cnts (c3.map Ex.av) : Int) + 1 + 1 + 1 + (AV.cnts (d3.map Ex.av) : Int) + 1 + 1)), a13, .int .i64 (ki + 1 + 1 + 1 + 1 + 1 + (AV.cnts (c3.map Ex.av) : Int) + 1 + 1 + 1 + (AV.cnts (d3.map Ex.av) : Int) + 1 + 1 + 1 + (AV.cnts (p3.map Ex.av) : Int)), .int .i64 (ki + 1 + 1 + 1 + 1 + 1 + (AV.cnts (c3.map Ex.av) : Int) + 1 + 1 + 1 + (AV.cnts (d3.map Ex.av) : Int) + 1 + 1 + 1 + (AV.cnts (p3.map Ex.av) : Int) + 1), .str (markT (ki + 1 + 1 + 1 + 1 + 1 + (AV.cnts (c3.map Ex.av) : Int) + 1 + 1 + 1 + (AV.cnts (d3.map Ex.av) : Int) + 1 + 1 + 1 + (AV.cnts (p3.map Ex.av) : Int) + 1 + 1)), a17, a18] [.int .i64 (ki), .str (markT (ki + 1)), .int .i64 (ki + 1 + 1), .int .i64 (ki + 1 + 1 + 1), .str (markT (ki + 1 + 1 + 1 + 1)), .lst false 4 (l5.map Ex.av), .int .i64 (ki + 1 + 1 + 1 + 1 + 1 + (AV.cnts (c3.map Ex.av) : Int)), .int .i64 (ki + 1 + 1 + 1 + 1 + 1 + (AV.cnts (c3.map Ex.av) : Int) + 1), .str (markT (ki + 1 + 1 + 1 + 1 + 1 + (AV.cnts (c3.map Ex.av) : Int) + 1 + 1)), .lst false 4 (l9.map Ex.av), .int .i64 (ki + 1 + 1 + 1 + 1 + 1 + (AV.cnts (c3.map Ex.av) : Int) + 1 + 1 + 1 + (AV.cnts (d3.map Ex.av) : Int)), .int .i64 (ki + 1 + 1 + 1 + 1 + 1 + (AV.cnts (c3.map Ex.av) : Int) + 1 + 1 + 1 + (AV.cnts (d3.map Ex.av) : Int) + 1), .str (markT (ki + 1 + 1 + 1 + 1 + 1 + (AV.cnts (c3.map Ex.av) : Int) + 1 + 1 + 1 + (AV.cnts (d3.map Ex.av) : Int) + 1 + 1)), .lst false 4 (l13.map Ex.av), .int .i64 (ki + 1 + 1 + 1 + 1 + 1 + (AV.cnts (c3.map Ex.av) : Int) + 1 + 1 + 1 + (AV.cnts (d3.map Ex.av) : Int) + 1 + 1 + 1 + (AV.cnts (p3.map Ex.av) : Int)), .int .i64 (ki + 1 + 1 + 1 + 1 + 1 + (AV.cnts (c3.map Ex.av) : Int) + 1 + 1 + 1 + (AV.cnts (d3.map Ex.av) : Int) + 1 + 1 + 1 + (AV.cnts (p3.map Ex.av) : Int) + 1), .str (markT (ki + 1 + 1 + 1 + 1 + 1 + (AV.cnts (c3.map Ex.av) : Int) + 1 + 1 + 1 + (AV.cnts (d3.map Ex.av) : Int) + 1 + 1 + 1 + (AV.cnts (p3.map Ex.av) : Int) + 1 + 1)), .lst false 4 (l17.map Ex.av), .lst false 19 (b6.map Sm.av)]) ?_ ?_
 ·refine rgA (by kernel_rfl) ?_
  simp [s0, s1, s5, hx, hg, hy, hlt]
  refine aop_wcall _ _ _ _ _ _ _ _ rfl (eval_func _ _) ?_
  refine c_markExpS _ _ _ _ _ hown (ki + 1 + 1 + 1 + 1 + 1 + (AV.cnts (c3.map Ex.av) : Int) + 1 + 1 + 1 + (AV.cnts (d3.map Ex.av) : Int) + 1 + 1 + 1 + (AV.cnts (p3.map Ex.av) : Int) + 1 + 1 + 1) (by omega) (by omega) _ fun m' l' hout ho hh => ?_
  simp [s0, s1, s5]
  have I2 := hupd m' _ hout ho
  simp only [List.set_cons_zero, List.set_cons_succ] at I2
  exact ⟨l', hh, I2⟩
 clear hg hx I hupd hown hxo
 rintro u17 ⟨l17, s0, s1, s5, hh17, I⟩
 have hg := I.row
 have hx : idxA Tryz.prog u17.mem 30 (.own g n c) (.int .i64 i) = some (.elt g 19 i 0) := idx_own es_30 hg (by simp [hy]) hlt
 obtain ⟨A, x, hxo, hown, hupd⟩ := I.call (o := 18) (by simp)
 obtain rfl : .lst false 19 (b6.map Sm.av) = x := Option.some.inj hxo
 simp only [List.getElem_cons_succ, List.getElem_cons_zero] at hown hupd
 (repeat refine sqA ?_); refine rgA (by kernel_rfl) ?_
 simp [s0, s1, s5, hx, hg, hy, hlt]
 refine aop_wcall _ _ _ _ _ _ _ _ rfl (eval_func _ _) ?_
 refine (show MkStmt b6 from hr _ hmem) _ _ _ _ hown (ki + 1 + 1 + 1 + 1 + 1 + (AV.cnts (c3.map Ex.av) : Int) + 1 + 1 + 1 + (AV.cnts (d3.map Ex.av) : Int) + 1 + 1 + 1 + (AV.cnts (p3.map Ex.av) : Int) + 1 + 1 + 1 + (AV.cnts (q3.map Ex.av) : Int)) (by omega) (by omega) _ fun m' l18 hout ho hh18 => ?_
 simp [s0, s1, s5]
 have I2 := hupd m' _ hout ho
 simp only [List.set_cons_zero, List.set_cons_succ] at I2
 clear hg hx I hupd hown hxo
 have I := I2
 have hnew : Sm.av (Sm.mk (ki) (markT (ki + 1)) (Ex.mk (ki + 1 + 1) (ki + 1 + 1 + 1) (markT (ki + 1 + 1 + 1 + 1)) l5) (Ex.mk (ki + 1 + 1 + 1 + 1 + 1 + (AV.cnts (c3.map Ex.av) : Int)) (ki + 1 + 1 + 1 + 1 + 1 + (AV.cnts (c3.map Ex.av) : Int) + 1) (markT (ki + 1 + 1 + 1 + 1 + 1 + (AV.cnts (c3.map Ex.av) : Int) + 1 + 1)) l9) (Ex.mk (ki + 1 + 1 + 1 + 1 + 1 + (AV.cnts (c3.map Ex.av) : Int) + 1 + 1 + 1 + (AV.cnts (d3.map Ex.av) : Int)) (ki + 1 + 1 + 1 + 1 + 1 + (AV.cnts (c3.map Ex.av) : Int) + 1 + 1 + 1 + (AV.cnts (d3.map Ex.av) : Int) + 1) (markT (ki + 1 + 1 + 1 + 1 + 1 + (AV.cnts (c3.map Ex.av) : Int) + 1 + 1 + 1 + (AV.cnts (d3.map Ex.av) : Int) + 1 + 1)) l13) (Ex.mk (ki + 1 + 1 + 1 + 1 + 1 + (AV.cnts (c3.map Ex.av) : Int) + 1 + 1 + 1 + (AV.cnts (d3.map Ex.av) : Int) + 1 + 1 + 1 + (AV.cnts (p3.map Ex.av) : Int)) (ki + 1 + 1 + 1 + 1 + 1 + (AV.cnts (c3.map Ex.av) : Int) + 1 + 1 + 1 + (AV.cnts (d3.map Ex.av) : Int) + 1 + 1 + 1 + (AV.cnts (p3.map Ex.av) : Int) + 1) (markT (ki + 1 + 1 + 1 + 1 + 1 + (AV.cnts (c3.map Ex.av) : Int) + 1 + 1 + 1 + (AV.cnts (d3.map Ex.av) : Int) + 1 + 1 + 1 + (AV.cnts (p3.map Ex.av) : Int) + 1 + 1)) l17) l18) = .agg [.int .i64 (ki), .str (markT (ki + 1)), .int .i64 (ki + 1 + 1), .int .i64 (ki + 1 + 1 + 1), .str (markT (ki + 1 + 1 + 1 + 1)), .lst false 4 (l5.map Ex.av), .int .i64 (ki + 1 + 1 + 1 + 1 + 1 + (AV.cnts (c3.map Ex.av) : Int)), .int .i64 (ki + 1 + 1 + 1 + 1 + 1 + (AV.cnts (c3.map Ex.av) : Int) + 1), .str (markT (ki + 1 + 1 + 1 + 1 + 1 + (AV.cnts (c3.map Ex.av) : Int) + 1 + 1)), .lst false 4 (l9.map Ex.av), .int .i64 (ki + 1 + 1 + 1 + 1 + 1 + (AV.cnts (c3.map Ex.av) : Int) + 1 + 1 + 1 + (AV.cnts (d3.map Ex.av) : Int)), .int .i64 (ki + 1 + 1 + 1 + 1 + 1 + (AV.cnts (c3.map Ex.av) : Int) + 1 + 1 + 1 + (AV.cnts (d3.map Ex.av) : Int) + 1), .str (markT (ki + 1 + 1 + 1 + 1 + 1 + (AV.cnts (c3.map Ex.av) : Int) + 1 + 1 + 1 + (AV.cnts (d3.map Ex.av) : Int) + 1 + 1)), .lst false 4 (l13.map Ex.av), .int .i64 (ki + 1 + 1 + 1 + 1 + 1 + (AV.cnts (c3.map Ex.av) : Int) + 1 + 1 + 1 + (AV.cnts (d3.map Ex.av) : Int) + 1 + 1 + 1 + (AV.cnts (p3.map Ex.av) : Int)), .int .i64 (ki + 1 + 1 + 1 + 1 + 1 + (AV.cnts (c3.map Ex.av) : Int) + 1 + 1 + 1 + (AV.cnts (d3.map Ex.av) : Int) + 1 + 1 + 1 + (AV.cnts (p3.map Ex.av) : Int) + 1), .str (markT (ki + 1 + 1 + 1 + 1 + 1 + (AV.cnts (c3.map Ex.av) : Int) + 1 + 1 + 1 + (AV.cnts (d3.map Ex.av) : Int) + 1 + 1 + 1 + (AV.cnts (p3.map Ex.av) : Int) + 1 + 1)), .lst false 4 (l17.map Ex.av), .lst false 19 (l18.map Sm.av)] := by simp [Sm.av, Sm.cells_mk, Ex.cells_mk]
 have hM2 := hback m' [.int .i64 (ki), .str (markT (ki + 1)), .int .i64 (ki + 1 + 1), .int .i64 (ki + 1 + 1 + 1), .str (markT (ki + 1 + 1 + 1 + 1)), a5, .int .i64 (ki + 1 + 1 + 1 + 1 + 1 + (AV.cnts (c3.map Ex.av) : Int)), .int .i64 (ki + 1 + 1 + 1 + 1 + 1 + (AV.cnts (c3.map Ex.av) : Int) + 1), .str (markT (ki + 1 + 1 + 1 + 1 + 1 + (AV.cnts (c3.map Ex.av) : Int) + 1 + 1)), a9, .int .i64 (ki + 1 + 1 + 1 + 1 + 1 + (AV.cnts (c3.map Ex.av) : Int) + 1 + 1 + 1 + (AV.cnts (d3.map Ex.av) : Int)), .int .i64 (ki + 1 + 1 + 1 + 1 + 1 + (AV.cnts (c3.map Ex.av) : Int) + 1 + 1 + 1 + (AV.cnts (d3.map Ex.av) : Int) + 1), .str (markT (ki + 1 + 1 + 1 + 1 + 1 + (AV.cnts (c3.map Ex.av) : Int) + 1 + 1 + 1 + (AV.cnts (d3.map Ex.av) : Int) + 1 + 1)), a13, .int .i64 (ki + 1 + 1 + 1 + 1 + 1 + (AV.cnts (c3.map Ex.av) : Int) + 1 + 1 + 1 + (AV.cnts (d3.map Ex.av) : Int) + 1 + 1 + 1 + (AV.cnts (p3.map Ex.av) : Int)), .int .i64 (ki + 1 + 1 + 1 + 1 + 1 + (AV.cnts (c3.map Ex.av) : Int) + 1 + 1 + 1 + (AV.cnts (d3.map Ex.av) : Int) + 1 + 1 + 1 + (AV.cnts (p3.map Ex.av) : Int) + 1), .str (markT (ki + 1 + 1 + 1 + 1 + 1 + (AV.cnts (c3.map Ex.av) : Int) + 1 + 1 + 1 + (AV.cnts (d3.map Ex.av) : Int) + 1 + 1 + 1 + (AV.cnts (p3.map Ex.av) : Int) + 1 + 1)), a17, a18] [.int .i64 (ki), .str (markT (ki + 1)), .int .i64 (ki + 1 + 1), .int .i64 (ki + 1 + 1 + 1), .str (markT (ki + 1 + 1 + 1 + 1)), .lst false 4 (l5.map Ex.av), .int .i64 (ki + 1 + 1 + 1 + 1 + 1 + (AV.cnts (c3.map Ex.av) : Int)), .int .i64 (ki + 1 + 1 + 1 + 1 + 1 + (AV.cnts (c3.map Ex.av) : Int) + 1), .str (markT (ki + 1 + 1 + 1 + 1 + 1 + (AV.cnts (c3.map Ex.av) : Int) + 1 + 1)), .lst false 4 (l9.map Ex.av), .int .i64 (ki + 1 + 1 + 1 + 1 + 1 + (AV.cnts (c3.map Ex.av) : Int) + 1 + 1 + 1 + (AV.cnts (d3.map Ex.av) : Int)), .int .i64 (ki + 1 + 1 + 1 + 1 + 1 + (AV.cnts (c3.map Ex.av) : Int) + 1 + 1 + 1 + (AV.cnts (d3.map Ex.av) : Int) + 1), .str (markT (ki + 1 + 1 + 1 + 1 + 1 + (AV.cnts (c3.map Ex.av) : Int) + 1 + 1 + 1 + (AV.cnts (d3.map Ex.av) : Int) + 1 + 1)), .lst false 4 (l13.map Ex.av), .int .i64 (ki + 1 + 1 + 1 + 1 + 1 + (AV.cnts (c3.map Ex.av) : Int) + 1 + 1 + 1 + (AV.cnts (d3.map Ex.av) : Int) + 1 + 1 + 1 + (AV.cnts (p3.map Ex.av) : Int)), .int .i64 (ki + 1 + 1 + 1 + 1 + 1 + (AV.cnts (c3.map Ex.av) : Int) + 1 + 1 + 1 + (AV.cnts (d3.map Ex.av) : Int) + 1 + 1 + 1 + (AV.cnts (p3.map Ex.av) : Int) + 1), .str (markT (ki + 1 + 1 + 1 + 1 + 1 + (AV.cnts (c3.map Ex.av) : Int) + 1 + 1 + 1 + (AV.cnts (d3.map Ex.av) : Int) + 1 + 1 + 1 + (AV.cnts (p3.map Ex.av) : Int) + 1 + 1)), .lst false 4 (l17.map Ex.av), .lst false 19 (l18.map Sm.av)] I (by simp [hok])
 rw [← hnew, set_done Sm.av done _ _ _ hdl] at hM2
 (repeat refine sqA ?_); refine rgA (by kernel_rfl) ?_
 simp [s0, s1, s5, hwi]
 refine hR _ (n - (i + 1)) (by omega) ⟨i + 1, _, ki + 1 + 1 + 1 + 1 + 1 + (AV.cnts (c3.map Ex.av) : Int) + 1 + 1 + 1 + (AV.cnts (d3.map Ex.av) : Int) + 1 + 1 + 1 + (AV.cnts (p3.map Ex.av) : Int) + 1 + 1 + 1 + (AV.cnts (q3.map Ex.av) : Int) + (AV.cnts (b6.map Sm.av) : Int), done ++ [(Sm.mk (ki) (markT (ki + 1)) (Ex.mk (ki + 1 + 1) (ki + 1 + 1 + 1) (markT (ki + 1 + 1 + 1 + 1)) l5) (Ex.mk (ki + 1 + 1 + 1 + 1 + 1 + (AV.cnts (c3.map Ex.av) : Int)) (ki + 1 + 1 + 1 + 1 + 1 + (AV.cnts (c3.map Ex.av) : Int) + 1) (markT (ki + 1 + 1 + 1 + 1 + 1 + (AV.cnts (c3.map Ex.av) : Int) + 1 + 1)) l9) (Ex.mk (ki + 1 + 1 + 1 + 1 + 1 + (AV.cnts (c3.map Ex.av) : Int) + 1 + 1 + 1 + (AV.cnts (d3.map Ex.av) : Int)) (ki + 1 + 1 + 1 + 1 + 1 + (AV.cnts (c3.map Ex.av) : Int) + 1 + 1 + 1 + (AV.cnts (d3.map Ex.av) : Int) + 1) (markT (ki + 1 + 1 + 1 + 1 + 1 + (AV.cnts (c3.map Ex.av) : Int) + 1 + 1 + 1 + (AV.cnts (d3.map Ex.av) : Int) + 1 + 1)) l13) (Ex.mk (ki + 1 + 1 + 1 + 1 + 1 + (AV.cnts (c3.map Ex.av) : Int) + 1 + 1 + 1 + (AV.cnts (d3.map Ex.av) : Int) + 1 + 1 + 1 + (AV.cnts (p3.map Ex.av) : Int)) (ki + 1 + 1 + 1 + 1 + 1 + (AV.cnts (c3.map Ex.av) : Int) + 1 + 1 + 1 + (AV.cnts (d3.map Ex.av) : Int) + 1 + 1 + 1 + (AV.cnts (p3.map Ex.av) : Int) + 1) (markT (ki + 1 + 1 + 1 + 1 + 1 + (AV.cnts (c3.map Ex.av) : Int) + 1 + 1 + 1 + (AV.cnts (d3.map Ex.av) : Int) + 1 + 1 + 1 + (AV.cnts (p3.map Ex.av) : Int) + 1 + 1)) l17) l18)], rfl, by omega, by simp [hdl], ?_, by simp [s0, s1, s5], by simp [s0, s1, s5], by simp, ?_, by omega, by omega, by simpa using hM2⟩
 ·simp [hy]
 ·rw [List.map_append, List.map_cons, hnew]
  exact hH.append (.agg (.int (.str (.int (.int (.str (.lst hh5 (.int (.int (.str (.lst hh9 (.int (.int (.str (.lst hh13 (.int (.int (.str (.lst hh17 (.lst hh18 (.nil _)))))))))))))))))))) (.nil _))
theorem mk_stmt (e : Sm) : MkStmt e.parts := by
 induction e using Sm.ind with | h k s a e lo hi b h => exact c_markStmtS0 b h
theorem c_markStmtS (l : List Sm) : MkStmt l := mk_stmt (Sm.mk 0 ⟨#[]⟩ (.mk 0 0 ⟨#[]⟩ []) (.mk 0 0 ⟨#[]⟩ []) (.mk 0 0 ⟨#[]⟩ []) (.mk 0 0 ⟨#[]⟩ []) l)
end Go.T
namespace Go.T
open Go Go.Proofs
set_option maxRecDepth 10000
set_option maxHeartbeats 1000000
end Go.T
namespace Go.T
open Go Go.Proofs
set_option maxRecDepth 10000
set_option maxHeartbeats 1000000
theorem Ex.av_mk (k n : Int) (s : ByteArray) (l : List Ex) : (Ex.mk k n s l).av = .agg [.int .i64 k, .int .i64 n, .str s, .lst false 4 (l.map Ex.av)] := by show AV.agg (Ex.mk k n s l).cells = _; rw [Ex.cells_mk]
end Go.T
namespace Go.T
open Go Go.Proofs
set_option maxRecDepth 10000
set_option maxHeartbeats 1000000
end Go.T
namespace Go.T
open Go Go.Proofs
set_option maxRecDepth 10000
set_option maxHeartbeats 1000000
open Go
def HdE (l : List Ex) : Prop := ∀ k k' : Int, 0 < k → k' ≤ 4611686018427387904 → Held (l.map Ex.av) k k' → PCall Tryz.prog 127 [.lst false 4 (l.map Ex.av), .int .i64 k] (.int .i64 k')
theorem c_heldExpS0 (l : List Ex) (hr : ∀ x ∈ l, HdE x.l) (k k' : Int) (h0 : 0 < k) (hb : k' ≤ 4611686018427387904) (h : Held (l.map Ex.av) k k') : PCall Tryz.prog 127 [.lst false 4 (l.map Ex.av), .int .i64 k] (.int .i64 k') := by
 refine pcall_of Tryz.func127 (by kernel_rfl) rfl (by simp [Tryz.f127]) ?_
 have hcl := cnts_len (f := Ex.av) (fun x => by cases x; simp [Ex.av, Ex.cells_mk, AV.cnt, AV.cnts]; try omega) l
 have hct := h.count
 (repeat refine sqA ?_); refine rgA (by kernel_rfl) ?_
 try simp
 (repeat refine sqA ?_); refine rgA (by kernel_rfl) ?_
 try simp
 (repeat refine sqA ?_); refine AWp.block (AWp.rounds (fun q st => ∃ (i : Nat) (ki : Int), q = l.length - i ∧ i ≤ l.length ∧ k ≤ ki ∧ Held ((l.drop i).map Ex.av) ki k' ∧ st.slots 0 = .lst false 4 (l.map Ex.av) ∧ st.slots 1 = .int .i64 ki ∧ st.slots 5 = .int .i64 i) l.length ⟨0, k, by simp, by simp, by omega, by simpa using h, by simp, by simp, by simp⟩ ?_)
 rintro R q st hR ⟨i, ki, rfl, hi, hki, hH, s0, s1, s5⟩
 (repeat refine sqA ?_); refine rgA (by kernel_rfl) ?_
 simp [s0, s5]
 (repeat refine sqA ?_); refine AWp.cond (b := decide (i < l.length)) (by simp) (fun hlt => ?_) (fun hlt => ?_)
 rotate_left
 ·simp at hlt
  rw [List.drop_eq_nil_of_le hlt] at hH
  have hke := Held.nil_inv hH
  subst hke
  refine AWp.exit ?_
  try simp
  (repeat refine sqA ?_); refine rgA (by kernel_rfl) ?_
  simp [s1]
  exact AWp.ret (post_ret1 rfl (by simp))
 simp at hlt
 have hdr : l.drop i = l[i] :: l.drop (i + 1) := List.drop_eq_getElem_cons hlt
 have hmem := List.getElem_mem hlt
 have hwi : IntKind.wrap .i64 ((i : Int) + 1) = (i + 1 : Nat) := wrap64 (by omega) (by omega)
 rw [hdr, List.map_cons] at hH
 have hq : (l.map Ex.av)[i]? = some (Ex.av l[i]) := by simp [hlt]
 rcases hx0 : l[i] with ⟨b0, b1, b2, b3⟩
 rw [hx0] at hH hmem hq
 have hav : Ex.av (Ex.mk b0 b1 b2 b3) = .agg [.int .i64 b0, .int .i64 b1, .str b2, .lst false 4 (b3.map Ex.av)] := by simp [Ex.av, Ex.cells_mk]
 rw [hav] at hH hq
 have hx : idxA Tryz.prog st.mem 24 (.lst false 4 (l.map Ex.av)) (.int .i64 i) = some (.ref [.int .i64 b0, .int .i64 b1, .str b2, .lst false 4 (b3.map Ex.av)]) := idx (y := .agg [.int .i64 b0, .int .i64 b1, .str b2, .lst false 4 (b3.map Ex.av)]) es_24 hq
 obtain ⟨kz, hH1, hH2⟩ := hH.agg_inv
 have hlz := hH2.le
 refine AWp.skip ?_
 try simp
 (repeat refine sqA ?_); refine AWp.block ?_
 obtain ⟨e0, hH1⟩ := hH1.int_inv
 have hle0 := hH1.le
 (repeat refine sqA ?_); refine rgA (by kernel_rfl) ?_
 simp [s0, s1, s5, hx, e0]
 (repeat refine sqA ?_); refine AWp.condF (by simp) ?_
 refine AWp.skip ?_
 try simp
 have hw0 : IntKind.wrap .i64 (ki + 1) = ki + 1 := wrap64 (by omega) (by omega)
 (repeat refine sqA ?_); refine rgA (by kernel_rfl) ?_
 simp [s0, s1, s5, hx, hw0]
 obtain ⟨e1, hH1⟩ := hH1.int_inv
 have hle1 := hH1.le
 (repeat refine sqA ?_); refine rgA (by kernel_rfl) ?_
 simp [s0, s1, s5, hx, hw0, e1]
 (repeat refine sqA ?_); refine AWp.condF (by simp) ?_
 refine AWp.skip ?_
 try simp
 have hw1 : IntKind.wrap .i64 (ki + 1 + 1) = ki + 1 + 1 := wrap64 (by omega) (by omega)
 (repeat refine sqA ?_); refine rgA (by kernel_rfl) ?_
 simp [s0, s1, s5, hx, hw0, hw1]
 obtain ⟨e2, hH1⟩ := hH1.str_inv
 have hle2 := hH1.le
 (repeat refine sqA ?_); refine AWp.regionG (fun _ => true) (fun _ => false) [0, 1, 2, 3, 4, 5, 6, 7] [0, 1, 2, 3, 4, 5, 6, 7] (by kernel_rfl) ?_
 simp [s0, s1, s5, hx, hw0, hw1, e2]
 refine aop_call' (c_markText (ki + 1 + 1) (by omega) (by omega)) ?_
 simp [s0, s1, s5, hx, hw0, hw1, e2]
 (repeat refine sqA ?_); refine AWp.condF (by simp) ?_
 refine AWp.skip ?_
 try simp
 have hw2 : IntKind.wrap .i64 (ki + 1 + 1 + 1) = ki + 1 + 1 + 1 := wrap64 (by omega) (by omega)
 (repeat refine sqA ?_); refine rgA (by kernel_rfl) ?_
 simp [s0, s1, s5, hx, hw0, hw1, hw2]
 obtain ⟨k3, hr3, hH1⟩ := hH1.lst_inv
 have hle3 := hH1.le
 have hlr3 := hr3.le
 (repeat refine sqA ?_); refine AWp.region allP (by kernel_rfl) ?_
 simp [s0, s1, s5, hx, hw0, hw1, hw2]
 refine aop_call' ((show HdE b3 from hr _ hmem) (ki + 1 + 1 + 1) k3 (by omega) (by omega) hr3) ?_
 simp [s0, s1, s5, hx, hw0, hw1, hw2]
 (repeat refine sqA ?_); refine rgA (by kernel_rfl) ?_
 simp [s0, s1, s5, hx, hw0, hw1, hw2]
 (repeat refine sqA ?_); refine AWp.condF (by simp; omega) ?_
 refine AWp.skip ?_
 try simp
 have hz := Held.nil_inv hH1
 subst hz
 (repeat refine sqA ?_); refine rgA (by kernel_rfl) ?_
 simp [s0, s1, s5, hx, hw0, hw1, hw2, hwi]
 exact hR _ (l.length - (i + 1)) (by omega) ⟨i + 1, kz, rfl, hlt, by omega, hH2, by simp [s0], by simp [s0, s1, s5, hx, hw0, hw1, hw2], by simp⟩
theorem hd_exp (e : Ex) : HdE e.l := by
 induction e using Ex.ind with | h k n s l h => exact fun k k' h0 hb hH => c_heldExpS0 l h k k' h0 hb hH
theorem c_heldExpS (l : List Ex) : HdE l := hd_exp (Ex.mk 0 0 ⟨#[]⟩ l)
end Go.T
namespace Go.T
open Go Go.Proofs
set_option maxRecDepth 10000
set_option maxHeartbeats 1000000
end Go.T
namespace Go.T
open Go Go.Proofs
set_option maxRecDepth 10000
set_option maxHeartbeats 1000000
theorem c_markProg (p : Pg) {m : Mem} {F : Nat → Prop} {v : AV} (h : OwnT m F v p.av) (k : Int) (h0 : 0 < k) (hb : k + (AV.cnts (p.arrs.map Ar.av) : Int) + (AV.cnts (p.body.map Sm.av) : Int) ≤ 4611686018427387904) {K : AV → Mem → Prop}
  (hK : ∀ m' (l0 : List Ar) (l1 : List Sm), (∀ b x, ¬ F b → m b = some x → m' b = some x) → OwnT m' F v (Pg.av (Pg.mk l0 l1)) → Held [.lst false 2 (l0.map Ar.av), .lst false 19 (l1.map Sm.av)] k (k + (AV.cnts (p.arrs.map Ar.av) : Int) + (AV.cnts (p.body.map Sm.av) : Int)) → K (.int .i64 (k + (AV.cnts (p.arrs.map Ar.av) : Int) + (AV.cnts (p.body.map Sm.av) : Int))) m') : WCall Tryz.prog 22 [v, .int .i64 k] m K := by
 obtain ⟨G, hG, hGF, hGd⟩ := h.dom
 unfold Pg.av Pg.cells at hG
 obtain ⟨cs0, rfl, hT, hok⟩ := own_agg hG
 obtain ⟨a0, a1, rfl⟩ : ∃ a0 a1, cs0 = [a0, a1] := by
  match cs0, hT.len with
  | [a0, a1], _ => exact ⟨_, _, rfl⟩
 have hok2 := hok
 simp only [List.all_cons, List.all_nil, Bool.and_eq_true, Bool.and_true] at hok2
 refine wcall_of Tryz.func22 (by kernel_rfl) rfl (by simp [Tryz.f22]) ?_
 (repeat refine sqA ?_); refine rgA (by kernel_rfl) ?_
 simp
 intro g1 h1
 have f1 : ¬ G g1 := fun hg => hGd g1 hg h1
 have b1 := set_same m g1 (.box [a0, a1])
 have o1 : ∀ b x, m b = some x → (m.set g1 (.box [a0, a1])) b = some x := fun b x hx => by rw [set_at, if_neg]; exact hx; rintro rfl; rw [h1] at hx; cases hx
 replace hT := hT.mem (m' := m.set g1 (.box [a0, a1])) fun b hb => by rw [set_at, if_neg]; rintro rfl; exact f1 hb
 generalize m.set g1 (.box [a0, a1]) = m0 at *
 obtain ⟨A0, x0, hxo0, hown0, hsub0, hupd0⟩ := hT.call (o := 0) (by simp)
 obtain rfl := (Option.some.inj hxo0)
 simp only [List.getElem_cons_succ, List.getElem_cons_zero] at hown0 hupd0
 (repeat refine sqA ?_); refine rgA (by kernel_rfl) ?_
 simp [b1]
 refine aop_wcall _ _ _ _ _ _ _ _ rfl (eval_func _ _) ?_
 refine (c_markArrS0 p.arrs) _ _ _ _ hown0 (k) (by omega) (by omega) _ fun m1 l0 hout0 ho0 hh0 => ?_
 simp
 have hT := hupd0 m1 _ hout0 ho0
 simp only [List.set_cons_zero, List.set_cons_succ] at hT
 have b1 := (hout0 g1 (fun hg => f1 (hsub0 _ hg))).trans b1
 obtain ⟨A1, x1, hxo1, hown1, hsub1, hupd1⟩ := hT.call (o := 1) (by simp)
 obtain rfl := (Option.some.inj hxo1)
 simp only [List.getElem_cons_succ, List.getElem_cons_zero] at hown1 hupd1
 (repeat refine sqA ?_); refine rgA (by kernel_rfl) ?_
 simp [b1]
 refine aop_wcall _ _ _ _ _ _ _ _ rfl (eval_func _ _) ?_
 refine (c_markStmtS p.body) _ _ _ _ hown1 (k + (AV.cnts (p.arrs.map Ar.av) : Int)) (by omega) (by omega) _ fun m2 l1 hout1 ho1 hh1 => ?_
 simp
 have hT := hupd1 m2 _ hout1 ho1
 simp only [List.set_cons_zero, List.set_cons_succ] at hT
 have b1 := (hout1 g1 (fun hg => f1 (hsub1 _ hg))).trans b1
 (repeat refine sqA ?_); refine rgA (by kernel_rfl) ?_
 simp
 refine AWp.ret (post_retW rfl ⟨_, _, View.refl _ _, ?_⟩)
 simp
 refine hK _ l0 l1 (fun b x hF hx => ?_) ((OwnT.agg hT hok).up hGF) (.lst hh0 (.lst hh1 (.nil _)))
 have := o1 b x hx
 simp only [hout1 b (fun hg => hF (hGF b (hsub1 b hg))), hout0 b (fun hg => hF (hGF b (hsub0 b hg))), this]
end Go.T
