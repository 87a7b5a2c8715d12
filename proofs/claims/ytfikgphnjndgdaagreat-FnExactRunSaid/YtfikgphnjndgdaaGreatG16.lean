/- Copies that are one's own, of statements and programs: what the laws' copying functions compute. Statements and expressions marked. What holds the marks of machines; programs and machines marked. Rows of names: compared, marked, held. Programs and machines marked; what holds a machine's marks. New machines: what the program and the reference compute. Great machines compared; how many marks programs and machines take. Rows of names measured and copied; instructions compared, marked, held; programs marked. Rows of rows, and what a run leaves: compared, marked, held. The law's function of Run. -/
import Derived.Test.YtfikgphnjndgdaaGreatG15
import Derived.Test.YtfikgphnjndgdaaGreatG3
import Derived.Test.YtfikgphnjndgdaaGreatG4
import Derived.Test.YtfikgphnjndgdaaGreatG5
import Derived.Test.YtfikgphnjndgdaaGreatG14
namespace Go.T
open Go Go.Proofs
set_option maxRecDepth 10000
set_option maxHeartbeats 1000000
set_option linter.unusedSimpArgs false
set_option linter.unusedVariables false
theorem Ex.av_mk (k n : Int) (s : ByteArray) (l : List Ex) : (Ex.mk k n s l).av = .agg [.int .i64 k, .int .i64 n, .str s, .lst false 4 (l.map Ex.av)] := by show AV.agg (Ex.mk k n s l).cells = _; rw [Ex.cells_mk]
theorem o_toExp (e : Ex) : e.tot ≤ 1048576 → OCall Tryz.prog 18 [e.av] e.av := by
  induction e using Ex.ind with | h k m s l h =>
  intro ht
  rw [Ex.tot_mk] at ht
  have hl := totL_len Ex.tot l
  exact o_toExp0 k m s l (by omega) (fun x hx => h x hx (by have := totL_mem Ex.tot hx; omega))
set_option maxHeartbeats 2000000 in
theorem o_toStmt0 (k : Int) (s : ByteArray) (c0 c1 : Int) (c2 : ByteArray) (c3 : List Ex) (d0 d1 : Int) (d2 : ByteArray) (d3 : List Ex) (p0 p1 : Int) (p2 : ByteArray) (p3 : List Ex) (q0 q1 : Int) (q2 : ByteArray) (q3 : List Ex) (b : List Sm) (hc : (Ex.mk c0 c1 c2 c3).tot ≤ 1048576) (hd : (Ex.mk d0 d1 d2 d3).tot ≤ 1048576) (hp : (Ex.mk p0 p1 p2 p3).tot ≤ 1048576) (hq : (Ex.mk q0 q1 q2 q3).tot ≤ 1048576) (hl : b.length ≤ 1048576) (h : ∀ x ∈ b, OCall Tryz.prog 208 [x.av] x.av) : OCall Tryz.prog 208 [(Sm.mk k s (Ex.mk c0 c1 c2 c3) (Ex.mk d0 d1 d2 d3) (Ex.mk p0 p1 p2 p3) (Ex.mk q0 q1 q2 q3) b).av] (Sm.mk k s (Ex.mk c0 c1 c2 c3) (Ex.mk d0 d1 d2 d3) (Ex.mk p0 p1 p2 p3) (Ex.mk q0 q1 q2 q3) b).av := by
  have ec := o_toExp _ hc
  rw [Ex.av_mk] at ec
  have ed := o_toExp _ hd
  rw [Ex.av_mk] at ed
  have ep := o_toExp _ hp
  rw [Ex.av_mk] at ep
  have eq := o_toExp _ hq
  rw [Ex.av_mk] at eq
  have hav : (Sm.mk k s (Ex.mk c0 c1 c2 c3) (Ex.mk d0 d1 d2 d3) (Ex.mk p0 p1 p2 p3) (Ex.mk q0 q1 q2 q3) b).av = .agg [.int .i64 k, .str s, .int .i64 c0, .int .i64 c1, .str c2, .lst false 4 (c3.map Ex.av), .int .i64 d0, .int .i64 d1, .str d2, .lst false 4 (d3.map Ex.av), .int .i64 p0, .int .i64 p1, .str p2, .lst false 4 (p3.map Ex.av), .int .i64 q0, .int .i64 q1, .str q2, .lst false 4 (q3.map Ex.av), .lst false 19 (b.map Sm.av)] := by show AV.agg (Sm.mk k s (Ex.mk c0 c1 c2 c3) (Ex.mk d0 d1 d2 d3) (Ex.mk p0 p1 p2 p3) (Ex.mk q0 q1 q2 q3) b).cells = _; simp [Sm.cells_mk, Ex.cells_mk]
  rw [hav]
  refine wcall_of Tryz.func208 (by kernel_rfl) rfl (by simp [Tryz.f208]) ?_
  (repeat refine AWp.seq ?_); refine AWp.region noP (by kernel_rfl) ?_
  simp [set_at]
  intro g1 g2 h2
  have n21 : g2 ≠ g1 := fun e => by simp [e] at h2
  have m12 := n21.symm
  (repeat refine AWp.seq ?_); refine AWp.cutA (fun u => ∃ g3, g3 ≠ g1 ∧ g3 ≠ g2 ∧ u.slots 1 = .ptr g1 0 ∧ u.slots 2 = .ptr g2 0 ∧ u.slots 3 = .ptr g3 0 ∧ Cpy u.mem g1 g2 g3 [.int .i64 k, .str s, .int .i64 c0, .int .i64 c1, .str c2, .lst false 4 (c3.map Ex.av), .int .i64 d0, .int .i64 d1, .str d2, .lst false 4 (d3.map Ex.av), .int .i64 p0, .int .i64 p1, .str p2, .lst false 4 (p3.map Ex.av), .int .i64 q0, .int .i64 q1, .str q2, .lst false 4 (q3.map Ex.av), .lst false 19 (b.map Sm.av)] 19 [.int .i64 0, .str ByteArray.empty, .int .i64 0, .int .i64 0, .str ByteArray.empty, .lst true 0 [], .int .i64 0, .int .i64 0, .str ByteArray.empty, .lst true 0 [], .int .i64 0, .int .i64 0, .str ByteArray.empty, .lst true 0 [], .int .i64 0, .int .i64 0, .str ByteArray.empty, .lst true 0 [], .lst true 0 []] (fun _ => False) [] []) ?_ ?_
  · refine AWp.region noP (by kernel_rfl) ?_
    simp [set_at]
    intro g3 h3
    have n32 : g3 ≠ g2 := fun e => by simp [e] at h3
    have n31 : g3 ≠ g1 := fun e => by simp [e, m12] at h3
    have m23 := n32.symm
    have m13 := n31.symm
    exact ⟨g3, n31, n32, rfl, Cpy.start (c2 := [.int .i64 0, .str ByteArray.empty, .int .i64 0, .int .i64 0, .str ByteArray.empty, .lst true 0 [], .int .i64 0, .int .i64 0, .str ByteArray.empty, .lst true 0 [], .int .i64 0, .int .i64 0, .str ByteArray.empty, .lst true 0 [], .int .i64 0, .int .i64 0, .str ByteArray.empty, .lst true 0 [], .lst true 0 []]) (by simp [set_at, n21, n32, n31, m12, m23, m13]) (by simp [set_at, n21, n32, n31, m12, m23, m13]) rfl (by simp [set_at, n21, n32, n31, m12, m23, m13])⟩
  rintro u ⟨g3, n31, n32, s1, s2, s3, C⟩
  (repeat refine AWp.seq ?_); refine AWp.cutA (fun u => u.slots 1 = .ptr g1 0 ∧ u.slots 2 = .ptr g2 0 ∧ u.slots 3 = .ptr g3 0 ∧ Cpy u.mem g1 g2 g3 [.int .i64 k, .str s, .int .i64 c0, .int .i64 c1, .str c2, .lst false 4 (c3.map Ex.av), .int .i64 d0, .int .i64 d1, .str d2, .lst false 4 (d3.map Ex.av), .int .i64 p0, .int .i64 p1, .str p2, .lst false 4 (p3.map Ex.av), .int .i64 q0, .int .i64 q1, .str q2, .lst false 4 (q3.map Ex.av), .lst false 19 (b.map Sm.av)] 19 [.int .i64 k, .str ByteArray.empty, .int .i64 0, .int .i64 0, .str ByteArray.empty, .lst true 0 [], .int .i64 0, .int .i64 0, .str ByteArray.empty, .lst true 0 [], .int .i64 0, .int .i64 0, .str ByteArray.empty, .lst true 0 [], .int .i64 0, .int .i64 0, .str ByteArray.empty, .lst true 0 [], .lst true 0 []] (fun _ => False) [.int .i64 k] [.int .i64 k]) ?_ ?_
  · refine AWp.region noP (by kernel_rfl) ?_
    simp [s1, s2, s3, C.b1, C.b3]
    simpa using C.leaf n31 n32 (own_int _ _) rfl
  clear C s1 s2 s3
  rintro u ⟨s1, s2, s3, C⟩
  (repeat refine AWp.seq ?_); refine AWp.cutA (fun u => u.slots 1 = .ptr g1 0 ∧ u.slots 2 = .ptr g2 0 ∧ u.slots 3 = .ptr g3 0 ∧ Cpy u.mem g1 g2 g3 [.int .i64 k, .str s, .int .i64 c0, .int .i64 c1, .str c2, .lst false 4 (c3.map Ex.av), .int .i64 d0, .int .i64 d1, .str d2, .lst false 4 (d3.map Ex.av), .int .i64 p0, .int .i64 p1, .str p2, .lst false 4 (p3.map Ex.av), .int .i64 q0, .int .i64 q1, .str q2, .lst false 4 (q3.map Ex.av), .lst false 19 (b.map Sm.av)] 19 [.int .i64 k, .str s, .int .i64 0, .int .i64 0, .str ByteArray.empty, .lst true 0 [], .int .i64 0, .int .i64 0, .str ByteArray.empty, .lst true 0 [], .int .i64 0, .int .i64 0, .str ByteArray.empty, .lst true 0 [], .int .i64 0, .int .i64 0, .str ByteArray.empty, .lst true 0 [], .lst true 0 []] (fun _ => False) [.int .i64 k, .str s] [.int .i64 k, .str s]) ?_ ?_
  · refine AWp.region noP (by kernel_rfl) ?_
    simp [s1, s2, s3, C.b1, C.b3]
    simpa using C.leaf n31 n32 (own_str _) rfl
  clear C s1 s2 s3
  rintro u ⟨s1, s2, s3, C⟩
  (repeat refine AWp.seq ?_); refine AWp.cutA (fun u => ∃ (F : Nat → Prop) (v2_0 v2_1 v2_2 v2_3 : AV), u.slots 1 = .ptr g1 0 ∧ u.slots 2 = .ptr g2 0 ∧ u.slots 3 = .ptr g3 0 ∧ Cpy u.mem g1 g2 g3 [.int .i64 k, .str s, .int .i64 c0, .int .i64 c1, .str c2, .lst false 4 (c3.map Ex.av), .int .i64 d0, .int .i64 d1, .str d2, .lst false 4 (d3.map Ex.av), .int .i64 p0, .int .i64 p1, .str p2, .lst false 4 (p3.map Ex.av), .int .i64 q0, .int .i64 q1, .str q2, .lst false 4 (q3.map Ex.av), .lst false 19 (b.map Sm.av)] 19 [.int .i64 k, .str s, v2_0, v2_1, v2_2, v2_3, .int .i64 0, .int .i64 0, .str ByteArray.empty, .lst true 0 [], .int .i64 0, .int .i64 0, .str ByteArray.empty, .lst true 0 [], .int .i64 0, .int .i64 0, .str ByteArray.empty, .lst true 0 [], .lst true 0 []] F [.int .i64 k, .str s, v2_0, v2_1, v2_2, v2_3] [.int .i64 k, .str s, .int .i64 c0, .int .i64 c1, .str c2, .lst false 4 (c3.map Ex.av)]) ?_ ?_
  · refine AWp.region noP (by kernel_rfl) ?_
    simp [s1, s2, s3, C.b1, C.b3]
    refine aop_wcall _ _ _ _ _ _ _ _ rfl (eval_func _ _) ?_
    refine OCall.w (ec) fun r m' G hE hO hG hGd => ?_
    simp at hE hG
    have b3 := hE _ _ C.b3
    obtain ⟨rs, rfl, hOs, hok⟩ := own_agg hO
    have hlen := hOs.len
    obtain ⟨v2_0, v2_1, v2_2, v2_3, rfl⟩ : ∃ v2_0 v2_1 v2_2 v2_3, rs = [v2_0, v2_1, v2_2, v2_3] := by
      match rs, hlen with
      | [v2_0, v2_1, v2_2, v2_3], _ => exact ⟨_, _, _, _, rfl⟩
    have hok2 := hok
    simp only [List.all_cons, List.all_nil, Bool.and_eq_true, Bool.and_true] at hok2
    simp [s1, s2, s3, b3, hok2]
    exact ⟨_, v2_0, v2_1, v2_2, v2_3, by simpa using C.call n31 n32 hE hOs hok (by simpa using hG) hGd⟩
  clear C s1 s2 s3
  rintro u ⟨F2, v2_0, v2_1, v2_2, v2_3, s1, s2, s3, C⟩
  (repeat refine AWp.seq ?_); refine AWp.cutA (fun u => ∃ (F : Nat → Prop) (v3_0 v3_1 v3_2 v3_3 : AV), u.slots 1 = .ptr g1 0 ∧ u.slots 2 = .ptr g2 0 ∧ u.slots 3 = .ptr g3 0 ∧ Cpy u.mem g1 g2 g3 [.int .i64 k, .str s, .int .i64 c0, .int .i64 c1, .str c2, .lst false 4 (c3.map Ex.av), .int .i64 d0, .int .i64 d1, .str d2, .lst false 4 (d3.map Ex.av), .int .i64 p0, .int .i64 p1, .str p2, .lst false 4 (p3.map Ex.av), .int .i64 q0, .int .i64 q1, .str q2, .lst false 4 (q3.map Ex.av), .lst false 19 (b.map Sm.av)] 19 [.int .i64 k, .str s, v2_0, v2_1, v2_2, v2_3, v3_0, v3_1, v3_2, v3_3, .int .i64 0, .int .i64 0, .str ByteArray.empty, .lst true 0 [], .int .i64 0, .int .i64 0, .str ByteArray.empty, .lst true 0 [], .lst true 0 []] F [.int .i64 k, .str s, v2_0, v2_1, v2_2, v2_3, v3_0, v3_1, v3_2, v3_3] [.int .i64 k, .str s, .int .i64 c0, .int .i64 c1, .str c2, .lst false 4 (c3.map Ex.av), .int .i64 d0, .int .i64 d1, .str d2, .lst false 4 (d3.map Ex.av)]) ?_ ?_
  · refine AWp.region noP (by kernel_rfl) ?_
    simp [s1, s2, s3, C.b1, C.b3]
    refine aop_wcall _ _ _ _ _ _ _ _ rfl (eval_func _ _) ?_
    refine OCall.w (ed) fun r m' G hE hO hG hGd => ?_
    simp at hE hG
    have b3 := hE _ _ C.b3
    obtain ⟨rs, rfl, hOs, hok⟩ := own_agg hO
    have hlen := hOs.len
    obtain ⟨v3_0, v3_1, v3_2, v3_3, rfl⟩ : ∃ v3_0 v3_1 v3_2 v3_3, rs = [v3_0, v3_1, v3_2, v3_3] := by
      match rs, hlen with
      | [v3_0, v3_1, v3_2, v3_3], _ => exact ⟨_, _, _, _, rfl⟩
    have hok2 := hok
    simp only [List.all_cons, List.all_nil, Bool.and_eq_true, Bool.and_true] at hok2
    simp [s1, s2, s3, b3, hok2]
    exact ⟨_, v3_0, v3_1, v3_2, v3_3, by simpa using C.call n31 n32 hE hOs hok (by simpa using hG) hGd⟩
  clear C s1 s2 s3
  rintro u ⟨F3, v3_0, v3_1, v3_2, v3_3, s1, s2, s3, C⟩
  (repeat refine AWp.seq ?_); refine AWp.cutA (fun u => ∃ (F : Nat → Prop) (v4_0 v4_1 v4_2 v4_3 : AV), u.slots 1 = .ptr g1 0 ∧ u.slots 2 = .ptr g2 0 ∧ u.slots 3 = .ptr g3 0 ∧ Cpy u.mem g1 g2 g3 [.int .i64 k, .str s, .int .i64 c0, .int .i64 c1, .str c2, .lst false 4 (c3.map Ex.av), .int .i64 d0, .int .i64 d1, .str d2, .lst false 4 (d3.map Ex.av), .int .i64 p0, .int .i64 p1, .str p2, .lst false 4 (p3.map Ex.av), .int .i64 q0, .int .i64 q1, .str q2, .lst false 4 (q3.map Ex.av), .lst false 19 (b.map Sm.av)] 19 [.int .i64 k, .str s, v2_0, v2_1, v2_2, v2_3, v3_0, v3_1, v3_2, v3_3, v4_0, v4_1, v4_2, v4_3, .int .i64 0, .int .i64 0, .str ByteArray.empty, .lst true 0 [], .lst true 0 []] F [.int .i64 k, .str s, v2_0, v2_1, v2_2, v2_3, v3_0, v3_1, v3_2, v3_3, v4_0, v4_1, v4_2, v4_3] [.int .i64 k, .str s, .int .i64 c0, .int .i64 c1, .str c2, .lst false 4 (c3.map Ex.av), .int .i64 d0, .int .i64 d1, .str d2, .lst false 4 (d3.map Ex.av), .int .i64 p0, .int .i64 p1, .str p2, .lst false 4 (p3.map Ex.av)]) ?_ ?_
  · refine AWp.region noP (by kernel_rfl) ?_
    simp [s1, s2, s3, C.b1, C.b3]
    refine aop_wcall _ _ _ _ _ _ _ _ rfl (eval_func _ _) ?_
    refine OCall.w (ep) fun r m' G hE hO hG hGd => ?_
    simp at hE hG
    have b3 := hE _ _ C.b3
    obtain ⟨rs, rfl, hOs, hok⟩ := own_agg hO
    have hlen := hOs.len
    obtain ⟨v4_0, v4_1, v4_2, v4_3, rfl⟩ : ∃ v4_0 v4_1 v4_2 v4_3, rs = [v4_0, v4_1, v4_2, v4_3] := by
      match rs, hlen with
      | [v4_0, v4_1, v4_2, v4_3], _ => exact ⟨_, _, _, _, rfl⟩
    have hok2 := hok
    simp only [List.all_cons, List.all_nil, Bool.and_eq_true, Bool.and_true] at hok2
    simp [s1, s2, s3, b3, hok2]
    exact ⟨_, v4_0, v4_1, v4_2, v4_3, by simpa using C.call n31 n32 hE hOs hok (by simpa using hG) hGd⟩
  clear C s1 s2 s3
  rintro u ⟨F4, v4_0, v4_1, v4_2, v4_3, s1, s2, s3, C⟩
  (repeat refine AWp.seq ?_); refine AWp.cutA (fun u => ∃ (F : Nat → Prop) (v5_0 v5_1 v5_2 v5_3 : AV), u.slots 1 = .ptr g1 0 ∧ u.slots 2 = .ptr g2 0 ∧ u.slots 3 = .ptr g3 0 ∧ Cpy u.mem g1 g2 g3 [.int .i64 k, .str s, .int .i64 c0, .int .i64 c1, .str c2, .lst false 4 (c3.map Ex.av), .int .i64 d0, .int .i64 d1, .str d2, .lst false 4 (d3.map Ex.av), .int .i64 p0, .int .i64 p1, .str p2, .lst false 4 (p3.map Ex.av), .int .i64 q0, .int .i64 q1, .str q2, .lst false 4 (q3.map Ex.av), .lst false 19 (b.map Sm.av)] 19 [.int .i64 k, .str s, v2_0, v2_1, v2_2, v2_3, v3_0, v3_1, v3_2, v3_3, v4_0, v4_1, v4_2, v4_3, v5_0, v5_1, v5_2, v5_3, .lst true 0 []] F [.int .i64 k, .str s, v2_0, v2_1, v2_2, v2_3, v3_0, v3_1, v3_2, v3_3, v4_0, v4_1, v4_2, v4_3, v5_0, v5_1, v5_2, v5_3] [.int .i64 k, .str s, .int .i64 c0, .int .i64 c1, .str c2, .lst false 4 (c3.map Ex.av), .int .i64 d0, .int .i64 d1, .str d2, .lst false 4 (d3.map Ex.av), .int .i64 p0, .int .i64 p1, .str p2, .lst false 4 (p3.map Ex.av), .int .i64 q0, .int .i64 q1, .str q2, .lst false 4 (q3.map Ex.av)]) ?_ ?_
  · refine AWp.region noP (by kernel_rfl) ?_
    simp [s1, s2, s3, C.b1, C.b3]
    refine aop_wcall _ _ _ _ _ _ _ _ rfl (eval_func _ _) ?_
    refine OCall.w (eq) fun r m' G hE hO hG hGd => ?_
    simp at hE hG
    have b3 := hE _ _ C.b3
    obtain ⟨rs, rfl, hOs, hok⟩ := own_agg hO
    have hlen := hOs.len
    obtain ⟨v5_0, v5_1, v5_2, v5_3, rfl⟩ : ∃ v5_0 v5_1 v5_2 v5_3, rs = [v5_0, v5_1, v5_2, v5_3] := by
      match rs, hlen with
      | [v5_0, v5_1, v5_2, v5_3], _ => exact ⟨_, _, _, _, rfl⟩
    have hok2 := hok
    simp only [List.all_cons, List.all_nil, Bool.and_eq_true, Bool.and_true] at hok2
    simp [s1, s2, s3, b3, hok2]
    exact ⟨_, v5_0, v5_1, v5_2, v5_3, by simpa using C.call n31 n32 hE hOs hok (by simpa using hG) hGd⟩
  clear C s1 s2 s3
  rintro u ⟨F5, v5_0, v5_1, v5_2, v5_3, s1, s2, s3, C⟩
  (repeat refine AWp.seq ?_); refine AWp.cutA (fun u => ∃ (F : Nat → Prop) (v6_0 : AV), u.slots 1 = .ptr g1 0 ∧ u.slots 2 = .ptr g2 0 ∧ u.slots 3 = .ptr g3 0 ∧ Cpy u.mem g1 g2 g3 [.int .i64 k, .str s, .int .i64 c0, .int .i64 c1, .str c2, .lst false 4 (c3.map Ex.av), .int .i64 d0, .int .i64 d1, .str d2, .lst false 4 (d3.map Ex.av), .int .i64 p0, .int .i64 p1, .str p2, .lst false 4 (p3.map Ex.av), .int .i64 q0, .int .i64 q1, .str q2, .lst false 4 (q3.map Ex.av), .lst false 19 (b.map Sm.av)] 19 [.int .i64 k, .str s, v2_0, v2_1, v2_2, v2_3, v3_0, v3_1, v3_2, v3_3, v4_0, v4_1, v4_2, v4_3, v5_0, v5_1, v5_2, v5_3, v6_0] F [.int .i64 k, .str s, v2_0, v2_1, v2_2, v2_3, v3_0, v3_1, v3_2, v3_3, v4_0, v4_1, v4_2, v4_3, v5_0, v5_1, v5_2, v5_3, v6_0] [.int .i64 k, .str s, .int .i64 c0, .int .i64 c1, .str c2, .lst false 4 (c3.map Ex.av), .int .i64 d0, .int .i64 d1, .str d2, .lst false 4 (d3.map Ex.av), .int .i64 p0, .int .i64 p1, .str p2, .lst false 4 (p3.map Ex.av), .int .i64 q0, .int .i64 q1, .str q2, .lst false 4 (q3.map Ex.av), .lst false 19 (b.map Sm.av)]) ?_ ?_
  · refine AWp.region noP (by kernel_rfl) ?_
    simp [s1, s2, s3, C.b1, C.b3]
    refine aop_wcall _ _ _ _ _ _ _ _ rfl (eval_func _ _) ?_
    refine OCall.w (o_toStmtS b hl h) fun r m' G hE hO hG hGd => ?_
    simp at hE hG
    have b3 := hE _ _ C.b3
    have hok := hO.okc
    rcases own_row hO with ⟨f', e', rfl, hnil⟩ | ⟨g, n, c, rfl, hn, _⟩
    all_goals
      simp [s1, s2, s3, b3]
      exact ⟨_, _, by simpa using C.call n31 n32 hE (OwnTs.one hO) (by simp) (by simpa using hG) hGd⟩
  clear C s1 s2 s3
  rintro u ⟨F6, v6_0, s1, s2, s3, C⟩
  obtain ⟨c2, b2, hc2⟩ := C.b2
  have hok := C.ok
  simp only [List.all_cons, List.all_nil, Bool.and_eq_true, Bool.and_true] at hok
  (repeat refine AWp.seq ?_); refine AWp.region noP (by kernel_rfl) ?_
  simp [s1, s2, s3, C.b3, b2, hc2, hok]
  refine AWp.ret (post_cellO (F := F6) (q := .agg [.int .i64 k, .str s, v2_0, v2_1, v2_2, v2_3, v3_0, v3_1, v3_2, v3_3, v4_0, v4_1, v4_2, v4_3, v5_0, v5_1, v5_2, v5_3, v6_0]) (.inl rfl) rfl (by simp [s2, set_at]) ?_)
  simpa [s2] using C.done _
theorem o_toStmt (e : Sm) : e.tot ≤ 1048576 → OCall Tryz.prog 208 [e.av] e.av := by
  induction e using Sm.ind with | h k s a e lo hi b h =>
  intro ht
  rw [Sm.tot_mk] at ht
  have hl := totL_len Sm.tot b
  obtain ⟨c0, c1, c2, c3⟩ := a
  obtain ⟨d0, d1, d2, d3⟩ := e
  obtain ⟨p0, p1, p2, p3⟩ := lo
  obtain ⟨q0, q1, q2, q3⟩ := hi
  exact o_toStmt0 k s _ _ _ _ _ _ _ _ _ _ _ _ _ _ _ _ b (by omega) (by omega) (by omega) (by omega) (by omega) (fun x hx => h x hx (by have := totL_mem Sm.tot hx; omega))
theorem o_toProg0 (p : Pg) (ht : p.tot ≤ 1048576) : OCall Tryz.prog 16 [p.av] p.av := by
  have h1 := totL_len Ar.tot p.arrs
  have h2 := totL_len Sm.tot p.body
  have h3 : p.tot = totL Ar.tot p.arrs + totL Sm.tot p.body := rfl
  unfold Pg.av Pg.cells
  refine wcall_of Tryz.func16 (by kernel_rfl) rfl (by simp [Tryz.f16]) ?_
  (repeat refine AWp.seq ?_); refine AWp.region noP (by kernel_rfl) ?_
  simp [set_at]
  intro g1 g2 h2
  have n21 : g2 ≠ g1 := fun e => by simp [e] at h2
  have m12 := n21.symm
  (repeat refine AWp.seq ?_); refine AWp.cutA (fun u => ∃ g3, g3 ≠ g1 ∧ g3 ≠ g2 ∧ u.slots 1 = .ptr g1 0 ∧ u.slots 2 = .ptr g2 0 ∧ u.slots 3 = .ptr g3 0 ∧ Cpy u.mem g1 g2 g3 [.lst false 2 (p.arrs.map Ar.av), .lst false 19 (p.body.map Sm.av)] 2 [.lst true 0 [], .lst true 0 []] (fun _ => False) [] []) ?_ ?_
  · refine AWp.region noP (by kernel_rfl) ?_
    simp [set_at]
    intro g3 h3
    have n32 : g3 ≠ g2 := fun e => by simp [e] at h3
    have n31 : g3 ≠ g1 := fun e => by simp [e, m12] at h3
    have m23 := n32.symm
    have m13 := n31.symm
    exact ⟨g3, n31, n32, rfl, Cpy.start (c2 := [.lst true 0 [], .lst true 0 []]) (by simp [set_at, n21, n32, n31, m12, m23, m13]) (by simp [set_at, n21, n32, n31, m12, m23, m13]) rfl (by simp [set_at, n21, n32, n31, m12, m23, m13])⟩
  rintro u ⟨g3, n31, n32, s1, s2, s3, C⟩
  (repeat refine AWp.seq ?_); refine AWp.cutA (fun u => ∃ (F : Nat → Prop) (v0_0 : AV), u.slots 1 = .ptr g1 0 ∧ u.slots 2 = .ptr g2 0 ∧ u.slots 3 = .ptr g3 0 ∧ Cpy u.mem g1 g2 g3 [.lst false 2 (p.arrs.map Ar.av), .lst false 19 (p.body.map Sm.av)] 2 [v0_0, .lst true 0 []] F [v0_0] [.lst false 2 (p.arrs.map Ar.av)]) ?_ ?_
  · refine AWp.region noP (by kernel_rfl) ?_
    simp [s1, s2, s3, C.b1, C.b3]
    refine aop_wcall _ _ _ _ _ _ _ _ rfl (eval_func _ _) ?_
    refine OCall.w (o_toArrS p.arrs (by omega) (fun x _ => o_toArr0 x)) fun r m' G hE hO hG hGd => ?_
    simp at hE hG
    have b3 := hE _ _ C.b3
    have hok := hO.okc
    rcases own_row hO with ⟨f', e', rfl, hnil⟩ | ⟨g, n, c, rfl, hn, _⟩
    all_goals
      simp [s1, s2, s3, b3]
      exact ⟨_, _, by simpa using C.call n31 n32 hE (OwnTs.one hO) (by simp) (by simpa using hG) hGd⟩
  clear C s1 s2 s3
  rintro u ⟨F0, v0_0, s1, s2, s3, C⟩
  (repeat refine AWp.seq ?_); refine AWp.cutA (fun u => ∃ (F : Nat → Prop) (v1_0 : AV), u.slots 1 = .ptr g1 0 ∧ u.slots 2 = .ptr g2 0 ∧ u.slots 3 = .ptr g3 0 ∧ Cpy u.mem g1 g2 g3 [.lst false 2 (p.arrs.map Ar.av), .lst false 19 (p.body.map Sm.av)] 2 [v0_0, v1_0] F [v0_0, v1_0] [.lst false 2 (p.arrs.map Ar.av), .lst false 19 (p.body.map Sm.av)]) ?_ ?_
  · refine AWp.region noP (by kernel_rfl) ?_
    simp [s1, s2, s3, C.b1, C.b3]
    refine aop_wcall _ _ _ _ _ _ _ _ rfl (eval_func _ _) ?_
    refine OCall.w (o_toStmtS p.body (by omega) (fun x hx => o_toStmt x (by have := totL_mem Sm.tot hx; omega))) fun r m' G hE hO hG hGd => ?_
    simp at hE hG
    have b3 := hE _ _ C.b3
    have hok := hO.okc
    rcases own_row hO with ⟨f', e', rfl, hnil⟩ | ⟨g, n, c, rfl, hn, _⟩
    all_goals
      simp [s1, s2, s3, b3]
      exact ⟨_, _, by simpa using C.call n31 n32 hE (OwnTs.one hO) (by simp) (by simpa using hG) hGd⟩
  clear C s1 s2 s3
  rintro u ⟨F1, v1_0, s1, s2, s3, C⟩
  obtain ⟨c2, b2, hc2⟩ := C.b2
  have hok := C.ok
  simp only [List.all_cons, List.all_nil, Bool.and_eq_true, Bool.and_true] at hok
  (repeat refine AWp.seq ?_); refine AWp.region noP (by kernel_rfl) ?_
  simp [s1, s2, s3, C.b3, b2, hc2, hok]
  refine AWp.ret (post_cellO (F := F1) (q := .agg [v0_0, v1_0]) (.inl rfl) rfl (by simp [s2, set_at]) ?_)
  simpa [s2] using C.done _
end Go.T
namespace Go.T
open Go Go.Proofs
set_option maxRecDepth 10000
set_option maxHeartbeats 1000000
set_option linter.unusedSimpArgs false
set_option linter.unusedVariables false
def Sm.HeldP (x : Sm) (k k' : Int) : Prop := ∃ k1 k2 k3 k4, Held (x.a.l.map Ex.av) k k1 ∧ Held (x.e.l.map Ex.av) k1 k2 ∧ Held (x.lo.l.map Ex.av) k2 k3 ∧ Held (x.hi.l.map Ex.av) k3 k4 ∧ Held (x.body.map Sm.av) k4 k'
def Sm.cntP (x : Sm) : Nat := AV.cnts (x.a.l.map Ex.av) + (AV.cnts (x.e.l.map Ex.av) + (AV.cnts (x.lo.l.map Ex.av) + (AV.cnts (x.hi.l.map Ex.av) + AV.cnts (x.body.map Sm.av))))
end Go.T
namespace Go.T
open Go Go.Proofs
set_option maxRecDepth 10000
set_option maxHeartbeats 1000000
set_option linter.unusedSimpArgs false
set_option linter.unusedVariables false
theorem c_heldIntS (l : List Int) (k k' : Int) (h0 : 0 < k) (hb : k' ≤ 4611686018427387904) (h : Held (l.map (AV.int .i64)) k k') : PCall Tryz.prog 46 [.lst false 1 (l.map (AV.int .i64)), .int .i64 k] (.int .i64 k') := by
  refine pcall_of Tryz.func46 (by kernel_rfl) rfl (by simp [Tryz.f46]) ?_
  have hcl := cnts_len (f := (AV.int .i64)) (fun x => by simp [AV.cnt]) l
  have hct := h.count
  (repeat refine AWp.seq ?_); refine AWp.region noP (by kernel_rfl) ?_
  try simp
  (repeat refine AWp.seq ?_); refine AWp.region noP (by kernel_rfl) ?_
  try simp
  (repeat refine AWp.seq ?_); refine AWp.block (AWp.rounds (fun q st => ∃ (i : Nat) (ki : Int), q = l.length - i ∧ i ≤ l.length ∧ k ≤ ki ∧ Held ((l.drop i).map (AV.int .i64)) ki k' ∧ st.slots 0 = .lst false 1 (l.map (AV.int .i64)) ∧ st.slots 1 = .int .i64 ki ∧ st.slots 5 = .int .i64 i) l.length ⟨0, k, by simp, by simp, by omega, by simpa using h, by simp, by simp, by simp⟩ ?_)
  rintro R q st hR ⟨i, ki, rfl, hi, hki, hH, s0, s1, s5⟩
  (repeat refine AWp.seq ?_); refine AWp.region noP (by kernel_rfl) ?_
  simp [s0, s5]
  (repeat refine AWp.seq ?_); refine AWp.cond (b := decide (i < l.length)) (by simp) (fun hlt => ?_) (fun hlt => ?_)
  rotate_left
  · simp at hlt
    rw [List.drop_eq_nil_of_le hlt] at hH
    have hke := Held.nil_inv hH
    subst hke
    refine AWp.exit ?_
    try simp
    (repeat refine AWp.seq ?_); refine AWp.region noP (by kernel_rfl) ?_
    simp [s1]
    exact AWp.ret (post_ret1 rfl (by simp))
  simp at hlt
  have hdr : l.drop i = l[i] :: l.drop (i + 1) := List.drop_eq_getElem_cons hlt
  have hmem := List.getElem_mem hlt
  have hwi : IntKind.wrap .i64 ((i : Int) + 1) = (i + 1 : Nat) := wrap64 (by omega) (by omega)
  rw [hdr, List.map_cons] at hH
  have hx : idxA Tryz.prog st.mem 54 (.lst false 1 (l.map (AV.int .i64))) (.int .i64 i) = some (.ref [(AV.int .i64) l[i]]) := idx (y := (AV.int .i64) l[i]) es_54 (by simp [hlt])
  have hH1 := hH
  refine AWp.skip ?_
  try simp
  (repeat refine AWp.seq ?_); refine AWp.block ?_
  obtain ⟨e0, hH1⟩ := hH1.int_inv
  have hle0 := hH1.le
  have hz2 := hH1
  (repeat refine AWp.seq ?_); refine AWp.region noP (by kernel_rfl) ?_
  simp [s0, s1, s5, hx, e0]
  (repeat refine AWp.seq ?_); refine AWp.condF (by simp) ?_
  refine AWp.skip ?_
  try simp
  have hw0 : IntKind.wrap .i64 (ki + 1) = ki + 1 := wrap64 (by omega) (by omega)
  (repeat refine AWp.seq ?_); refine AWp.region noP (by kernel_rfl) ?_
  simp [s0, s1, s5, hx, hw0]
  (repeat refine AWp.seq ?_); refine AWp.region noP (by kernel_rfl) ?_
  simp [s0, s1, s5, hx, hw0, hwi]
  exact hR _ (l.length - (i + 1)) (by omega) ⟨i + 1, ki + 1, rfl, hlt, by omega, hH1, by simp [s0], by simp [s0, s1, s5, hx, hw0], by simp⟩
end Go.T
namespace Go.T
open Go Go.Proofs
set_option maxRecDepth 10000
set_option maxHeartbeats 1000000
set_option linter.unusedSimpArgs false
set_option linter.unusedVariables false
theorem c_eqIntS_ (l : List Int) (hl : l.length ≤ 1099511627776) : PCall Tryz.prog 44 [.lst false 1 (l.map (AV.int .i64)), .lst false 1 (l.map (AV.int .i64))] (.bool true) := by
  refine pcall_of Tryz.func44 (by kernel_rfl) rfl (by simp [Tryz.f44]) ?_
  (repeat refine AWp.seq ?_); refine AWp.region noP (by kernel_rfl) ?_
  simp
  (repeat refine AWp.seq ?_); refine AWp.region noP (by kernel_rfl) ?_
  simp
  refine AWp.cond (b := false) (by simp) (fun h => by cases h) (fun _ => ?_)
  refine AWp.skip ?_
  simp
  (repeat refine AWp.seq ?_); refine AWp.region noP (by kernel_rfl) ?_
  simp
  (repeat refine AWp.seq ?_); refine AWp.block (AWp.rounds (fun m st => ∃ (i : Nat), m = l.length - i ∧ i ≤ l.length ∧ st.slots 0 = .lst false 1 (l.map (AV.int .i64)) ∧ st.slots 1 = .lst false 1 (l.map (AV.int .i64)) ∧ st.slots 5 = .int .i64 i) l.length ⟨0, by simp, by simp, by simp, by simp, by simp⟩ ?_)
  rintro R m st hR ⟨i, rfl, hi, s0, s1, s5⟩
  (repeat refine AWp.seq ?_); refine AWp.region noP (by kernel_rfl) ?_
  simp [s0, s5]
  refine AWp.cond (b := decide (i < l.length)) (by simp) (fun hb => ?_) (fun hb => ?_)
  · simp at hb
    have hq : l[i]? = some l[i] := List.getElem?_eq_getElem hb
    refine AWp.skip ?_
    simp
    (repeat refine AWp.seq ?_); refine AWp.block ?_; (repeat refine AWp.seq ?_); refine AWp.regionG (fun _ => true) (fun _ => false) [0, 1, 2, 3, 4, 5, 6, 7, 8] [0, 1, 2, 3, 4, 5, 6, 7, 8] (by kernel_rfl) ?_
    have hx1 : idxA Tryz.prog st.mem 54 (.lst false 1 (l.map (AV.int .i64))) (.int .i64 i) = some (.ref [(AV.int .i64) l[i]]) := idx (y := (AV.int .i64) l[i]) es_54 (by simp [hq])
    simp [s0, s1, s5, hx1]
    refine AWp.cond (b := false) (by simp) (fun h => by cases h) (fun _ => ?_)
    refine AWp.skip ?_
    simp
    (repeat refine AWp.seq ?_); refine AWp.region noP (by kernel_rfl) ?_
    have hw : IntKind.wrap .i64 ((i : Int) + 1) = (i + 1 : Nat) := wrap64 (by omega) (by omega)
    simp [s5, hw]
    exact hR _ (l.length - (i + 1)) (by omega) ⟨i + 1, rfl, hb, by simp [s0], by simp [s1], by simp⟩
  · simp at hb
    refine AWp.exit ?_
    simp
    (repeat refine AWp.seq ?_); refine AWp.region noP (by kernel_rfl) ?_
    simp
    exact AWp.ret (post_ret1 rfl (by simp))
end Go.T
namespace Go.T
open Go Go.Proofs
set_option maxRecDepth 10000
set_option maxHeartbeats 1000000
set_option linter.unusedSimpArgs false
set_option linter.unusedVariables false
theorem c_markProg (p : Pg) {m : Mem} {F : Nat → Prop} {v : AV} (h : OwnT m F v p.av) (k : Int) (h0 : 0 < k) (hb : k + (AV.cnts (p.arrs.map Ar.av) : Int) + (AV.cnts (p.body.map Sm.av) : Int) ≤ 4611686018427387904) {K : AV → Mem → Prop}
    (hK : ∀ m' (l0 : List Ar) (l1 : List Sm), (∀ b x, ¬ F b → m b = some x → m' b = some x) → OwnT m' F v (Pg.av (Pg.mk l0 l1)) → Held [.lst false 2 (l0.map Ar.av), .lst false 19 (l1.map Sm.av)] k (k + (AV.cnts (p.arrs.map Ar.av) : Int) + (AV.cnts (p.body.map Sm.av) : Int)) → K (.int .i64 (k + (AV.cnts (p.arrs.map Ar.av) : Int) + (AV.cnts (p.body.map Sm.av) : Int))) m') : WCall Tryz.prog 24 [v, .int .i64 k] m K := by
  obtain ⟨G, hG, hGF, hGd⟩ := h.dom
  unfold Pg.av Pg.cells at hG
  obtain ⟨cs0, rfl, hT, hok⟩ := own_agg hG
  obtain ⟨a0, a1, rfl⟩ : ∃ a0 a1, cs0 = [a0, a1] := by
    match cs0, hT.len with
    | [a0, a1], _ => exact ⟨_, _, rfl⟩
  have hok2 := hok
  simp only [List.all_cons, List.all_nil, Bool.and_eq_true, Bool.and_true] at hok2
  refine wcall_of Tryz.func24 (by kernel_rfl) rfl (by simp [Tryz.f24]) ?_
  (repeat refine AWp.seq ?_); refine AWp.region noP (by kernel_rfl) ?_
  simp
  intro g1 h1
  have f1 : ¬ G g1 := fun hg => hGd g1 hg h1
  have b1 := set_same m g1 (.box [a0, a1])
  have o1 : ∀ b x, m b = some x → (m.set g1 (.box [a0, a1])) b = some x := fun b x hx => by rw [set_at, if_neg]; exact hx; rintro rfl; rw [h1] at hx; cases hx
  replace hT := hT.mem (m' := m.set g1 (.box [a0, a1])) fun b hb => by rw [set_at, if_neg]; rintro rfl; exact f1 hb
  generalize m.set g1 (.box [a0, a1]) = m0 at *
  obtain ⟨A0, x0, hxo0, hown0, hsub0, hupd0⟩ := hT.call (o := 0) (by simp)
  obtain rfl := (Option.some.inj hxo0)
  simp only [List.getElem_cons_succ, List.getElem_cons_zero] at hown0 hupd0
  (repeat refine AWp.seq ?_); refine AWp.region noP (by kernel_rfl) ?_
  simp [b1]
  refine aop_wcall _ _ _ _ _ _ _ _ rfl (eval_func _ _) ?_
  refine (c_markArrS0 p.arrs) _ _ _ _ hown0 (k) (by omega) (by omega) _ fun m1 l0 hout0 ho0 hh0 => ?_
  simp
  have hT := hupd0 m1 _ hout0 ho0
  simp only [List.set_cons_zero, List.set_cons_succ] at hT
  have b1 := (hout0 g1 (fun hg => f1 (hsub0 _ hg))).trans b1
  obtain ⟨A1, x1, hxo1, hown1, hsub1, hupd1⟩ := hT.call (o := 1) (by simp)
  obtain rfl := (Option.some.inj hxo1)
  simp only [List.getElem_cons_succ, List.getElem_cons_zero] at hown1 hupd1
  (repeat refine AWp.seq ?_); refine AWp.region noP (by kernel_rfl) ?_
  simp [b1]
  refine aop_wcall _ _ _ _ _ _ _ _ rfl (eval_func _ _) ?_
  refine (c_markStmtS p.body) _ _ _ _ hown1 (k + (AV.cnts (p.arrs.map Ar.av) : Int)) (by omega) (by omega) _ fun m2 l1 hout1 ho1 hh1 => ?_
  simp
  have hT := hupd1 m2 _ hout1 ho1
  simp only [List.set_cons_zero, List.set_cons_succ] at hT
  have b1 := (hout1 g1 (fun hg => f1 (hsub1 _ hg))).trans b1
  (repeat refine AWp.seq ?_); refine AWp.region noP (by kernel_rfl) ?_
  simp
  refine AWp.ret (post_retW rfl ⟨_, _, View.refl _ _, ?_⟩)
  simp
  refine hK _ l0 l1 (fun b x hF hx => ?_) ((OwnT.agg hT hok).up hGF) (.lst hh0 (.lst hh1 (.nil _)))
  have := o1 b x hx
  simp only [hout1 b (fun hg => hF (hGF b (hsub1 b hg))), hout0 b (fun hg => hF (hGF b (hsub0 b hg))), this]
end Go.T
namespace Go.T
open Go Go.Proofs
set_option maxRecDepth 10000
set_option maxHeartbeats 1000000
set_option linter.unusedSimpArgs false
set_option linter.unusedVariables false
theorem OwnT.zeros {m : Mem} {F : Nat → Prop} {g c n : Nat} {T : TypeId} (hg : m g = some (.arr T 1 c (List.replicate n (.int .i64 0)))) (hF : F g) : OwnT m F (.own g n c) (.lst false 1 ((List.replicate n (0 : Int)).map (AV.int .i64))) := by
  rw [List.map_replicate]
  refine .own (G := fun _ => False) hg List.length_replicate (.same fun a ha F => ?_) id (fun _ h => h.elim) hF
  rw [List.eq_of_mem_replicate ha]
  exact .int _ _
end Go.T
namespace Go.T
open Go Go.Proofs
set_option maxRecDepth 10000
set_option maxHeartbeats 1000000
set_option linter.unusedSimpArgs false
set_option linter.unusedVariables false
theorem cnts_tot {α : Type} {f : α → AV} {t : α → Nat} {C : Nat} (l : List α) (h : ∀ x ∈ l, (f x).cnt ≤ C + C * t x) : AV.cnts (l.map f) ≤ C * totL t l := by
  induction l with
  | nil => simp [AV.cnts]
  | cons x l ih =>
    have h1 := h x (List.mem_cons_self ..)
    have h2 := ih fun y hy => h y (List.mem_cons_of_mem _ hy)
    simp only [List.map_cons, AV.cnts, totL, Nat.mul_add, Nat.mul_one]
    omega
theorem Ex.mcnt_le (e : Ex) : e.av.cnt ≤ 3 + 3 * e.tot := by
  induction e using Ex.ind with | h k n s l h =>
  have := cnts_tot l h
  rw [Ex.tot_mk, Ex.av_mk]
  simp only [AV.cnt, AV.cnts]
  omega
theorem Sm.mcnt_le (e : Sm) : e.av.cnt ≤ 14 + 14 * e.tot := by
  induction e using Sm.ind with | h k s a e lo hi b h =>
  have hb := cnts_tot b h
  have ha := a.mcnt_le
  have he := e.mcnt_le
  have hl := lo.mcnt_le
  have hh := hi.mcnt_le
  have ca : AV.cnts a.cells = a.av.cnt := rfl
  have ce : AV.cnts e.cells = e.av.cnt := rfl
  have cl : AV.cnts lo.cells = lo.av.cnt := rfl
  have ch : AV.cnts hi.cells = hi.av.cnt := rfl
  rw [Sm.tot_mk]
  have hcs : (Sm.mk k s a e lo hi b).av.cnt = AV.cnts (Sm.mk k s a e lo hi b).cells := rfl
  rw [hcs, Sm.cells_mk]
  simp only [AV.cnts, AV.cnt, cnts_append]
  omega
theorem Pg.cnts_le (p : Pg) (ht : p.tot ≤ 1048576) : AV.cnts (p.arrs.map Ar.av) ≤ 2097152 ∧ AV.cnts (p.body.map Sm.av) ≤ 14680064 := by
  have h3 : p.tot = totL Ar.tot p.arrs + totL Sm.tot p.body := rfl
  have h1 := cnts_tot (C := 2) (f := Ar.av) (t := Ar.tot) p.arrs (fun x _ => by obtain ⟨s, n⟩ := x; simp [Ar.av, Ar.cells, AV.cnt, AV.cnts]; try omega)
  have h2 := cnts_tot (C := 14) (f := Sm.av) (t := Sm.tot) p.body (fun x _ => x.mcnt_le)
  omega
end Go.T
namespace Go.T
open Go Go.Proofs
set_option maxRecDepth 10000
set_option maxHeartbeats 1000000
set_option linter.unusedSimpArgs false
set_option linter.unusedVariables false
def Pg.cntP (p : Pg) : Nat := AV.cnts (p.arrs.map Ar.av) + AV.cnts (p.body.map Sm.av)
def Pg.HeldP (p : Pg) (k k' : Int) : Prop := Held [.lst false 2 (p.arrs.map Ar.av), .lst false 19 (p.body.map Sm.av)] k k'
theorem mk_Prog (p : Pg) : MarkC Tryz.prog 24 Pg.av Pg.HeldP p p.cntP := fun m F v h k h0 hb K hK => by
  unfold BIG Pg.cntP at hb
  unfold Pg.cntP at hK
  refine c_markProg p h k h0 (by omega) fun m' l0 l1 ho hO hH => ?_
  have e : k + (AV.cnts (p.arrs.map Ar.av) : Int) + (AV.cnts (p.body.map Sm.av) : Int) = k + ((AV.cnts (p.arrs.map Ar.av) + AV.cnts (p.body.map Sm.av) : Nat) : Int) := by omega
  rw [e] at hH ⊢
  exact hK m' ⟨l0, l1⟩ ho hO hH
theorem Pg.cntP_le (p : Pg) (ht : p.tot ≤ 1048576) : p.cntP ≤ 16777216 := by
  have := p.cnts_le ht
  unfold Pg.cntP
  omega
theorem cnts_ints (l : List Int) : AV.cnts (l.map (AV.int .i64)) = l.length := by
  induction l with
  | nil => rfl
  | cons x l ih => simp only [List.map_cons, AV.cnts, AV.cnt, ih, List.length_cons]; omega
end Go.T
namespace Go.T
open Go Go.Proofs
set_option maxRecDepth 10000
set_option maxHeartbeats 1000000
set_option linter.unusedSimpArgs false
set_option linter.unusedVariables false
open Go
theorem c_eqIntSS (l : List (List Int)) (hl : l.length ≤ 1048576) (hr : ∀ r ∈ l, r.length ≤ 1048576) : PCall Tryz.prog 114 [.lst false 1 (rowsL l), .lst false 1 (rowsL l)] (.bool true) := by
  refine pcall_of Tryz.func114 (by kernel_rfl) rfl (by simp [Tryz.f114]) ?_
  have hrl : (rowsL l).length = l.length := by simp [rowsL]
  (repeat refine AWp.seq ?_); refine AWp.region noP (by kernel_rfl) ?_
  simp
  (repeat refine AWp.seq ?_); refine AWp.region noP (by kernel_rfl) ?_
  simp [hrl]
  (repeat refine AWp.seq ?_); refine AWp.condF (by simp) ?_
  refine AWp.skip ?_
  simp
  (repeat refine AWp.seq ?_); refine AWp.region noP (by kernel_rfl) ?_
  simp
  (repeat refine AWp.seq ?_); refine AWp.block (AWp.rounds (fun m st => ∃ (i : Nat), m = l.length - i ∧ i ≤ l.length ∧ st.slots 0 = .lst false 1 (rowsL l) ∧ st.slots 1 = .lst false 1 (rowsL l) ∧ st.slots 5 = .int .i64 i) l.length ⟨0, by simp, by simp, by simp, by simp, by simp⟩ ?_)
  rintro R m st hR ⟨i, rfl, hi, s0, s1, s5⟩
  (repeat refine AWp.seq ?_); refine AWp.region noP (by kernel_rfl) ?_
  simp [s0, s5, hrl]
  refine AWp.cond (b := decide (i < l.length)) (by simp) (fun hb => ?_) (fun hb => ?_)
  · simp at hb
    have hq : (rowsL l)[i]? = some (.lst false 1 (intsL l[i])) := by simp [rowsL, List.getElem?_eq_getElem hb]
    have ceq := c_eqIntS_ l[i] (by have := hr _ (List.getElem_mem hb); omega)
    refine AWp.skip ?_
    simp
    (repeat refine AWp.seq ?_); refine AWp.block ?_; (repeat refine AWp.seq ?_); refine AWp.region allP (by kernel_rfl) ?_
    have hx1 : idxA Tryz.prog st.mem 53 (.lst false 1 (rowsL l)) (.int .i64 i) = some (.ref [.lst false 1 (intsL l[i])]) := idx (y := .lst false 1 (intsL l[i])) es_53 hq
    simp [s0, s1, s5, hx1]
    refine aop_call' (by simpa [intsL] using ceq) ?_
    simp
    (repeat refine AWp.seq ?_); refine AWp.condF (by simp) ?_
    refine AWp.skip ?_
    simp
    (repeat refine AWp.seq ?_); refine AWp.region noP (by kernel_rfl) ?_
    have hw : IntKind.wrap .i64 ((i : Int) + 1) = (i + 1 : Nat) := wrap64 (by omega) (by omega)
    simp [s5, hw]
    exact hR _ (l.length - (i + 1)) (by omega) ⟨i + 1, rfl, hb, by simp [s0], by simp [s1], by simp⟩
  · simp at hb
    refine AWp.exit ?_
    simp
    (repeat refine AWp.seq ?_); refine AWp.region noP (by kernel_rfl) ?_
    simp
    exact AWp.ret (post_ret1 rfl (by simp))
theorem c_eqSto (σ : RS) (hA : σ.A.length ≤ 1048576) (hr : ∀ r ∈ σ.A, r.length ≤ 1048576) (hV : σ.V.length ≤ 1048576) (hO : σ.O.length ≤ 1048576) : PCall Tryz.prog 31 [σ.look, σ.look] (.bool true) := by
  unfold RS.look
  have cA := c_eqIntSS σ.A hA hr
  have cV := c_eqIntS_ σ.V (by omega)
  have cO := c_eqIntS_ σ.O (by omega)
  have eI : ∀ l : List Int, intsL l = l.map (AV.int .i64) := fun _ => rfl
  simp only [← eI] at cV cO
  refine pcall_of Tryz.func31 (by kernel_rfl) rfl (by simp [Tryz.f31]) ?_
  (repeat refine AWp.seq ?_); refine AWp.region noP (by kernel_rfl) ?_
  try simp
  intro g1 g2 h2
  have hne : g2 ≠ g1 := by rintro rfl; simp [set_at] at h2
  generalize hC : ([.lst false 1 (rowsL σ.A), .lst false 1 (intsL σ.V), .lst false 1 (intsL σ.O), .int .i64 σ.nd] : List AV) = C at *
  have e1 : ((Mem.set (fun _ => none) g1 (.box C)).set g2 (.box C)) g1 = some (.box C) := by simp [set_at, hne.symm]
  have e2 : ((Mem.set (fun _ => none) g1 (.box C)).set g2 (.box C)) g2 = some (.box C) := set_same _ _ _
  generalize (Mem.set (fun _ => none) g1 (.box C)).set g2 (.box C) = m1 at *
  subst hC
  repeat' (first
    | refine AWp.seq ?_
    | (refine AWp.region allP (by kernel_rfl) ?_; simp [e1, e2])
    | (refine AWp.condG ?_; simp [e1, e2])
    | (refine AWp.skip ?_; try simp)
    | (refine AWp.exit ?_; try simp)
    | refine AWp.block ?_
    | (refine aop_call' (cA) ?_; simp [e1, e2])
    | (refine aop_call' (cV) ?_; simp [e1, e2])
    | (refine aop_call' (cO) ?_; simp [e1, e2])
    | (refine AWp.ret (post_ret1 rfl ?_); (simp; done))
    | (refine guardI (fun hq => ?_) (fun hq => ?_) <;> (try simp at hq) <;> (try simp [e1, e2]))
    | (refine condRunI (fun hq => ?_) (fun hq => ?_) <;> (try simp at hq) <;> (try simp [e1, e2]))
    | (refine iteI (fun hq => ?_) (fun hq => ?_) <;> (try simp [e1, e2])))
/-- What marking rows of rows comes to. -/
def MkIntSS (l : List (List Int)) : Prop := ∀ (m : Mem) (F : Nat → Prop) (v : AV) (f : Bool) (h : OwnT m F v (.lst f 1 (rowsL l))) (k : Int) (h0 : 0 < k) (hb : k + (AV.cnts (rowsL l) : Int) ≤ 4611686018427387904) (K : AV → Mem → Prop)
    (hK : ∀ m' (l' : List (List Int)), l'.length = l.length → (∀ b, ¬ F b → m' b = m b) → OwnT m' F v (.lst false 1 (rowsL l')) → Held (rowsL l') k (k + (AV.cnts (rowsL l) : Int)) → K (.int .i64 (k + (AV.cnts (rowsL l) : Int))) m'), WCall Tryz.prog 115 [v, .int .i64 k] m K
theorem c_markIntSS (l : List (List Int)) (hll : l.length ≤ 1048576) : MkIntSS l := by
  intro m F v f h k h0 hb K hK
  refine wcall_of Tryz.func115 (by kernel_rfl) rfl (by simp [Tryz.f115]) ?_
  rcases own_row h with ⟨f', e', rfl, hnil⟩ | ⟨g, n, c, rfl, hn, rfl⟩
  · have hl : l = [] := by simpa [rowsL] using hnil
    subst hl
    (repeat refine AWp.seq ?_); refine AWp.region noP (by kernel_rfl) ?_
    try simp
    (repeat refine AWp.seq ?_); refine AWp.region noP (by kernel_rfl) ?_
    try simp
    (repeat refine AWp.seq ?_); refine AWp.block (AWp.rounds (fun q st => q = 0 ∧ st.slots 0 = .lst f' e' [] ∧ st.slots 1 = .int .i64 k ∧ st.slots 5 = .int .i64 0 ∧ st.mem = m) 0 ⟨rfl, by simp, by simp, by simp, by simp⟩ ?_)
    rintro R q st hR ⟨rfl, s0, s1, s5, sm⟩
    (repeat refine AWp.seq ?_); refine AWp.region noP (by kernel_rfl) ?_
    simp [s0, s5]
    (repeat refine AWp.seq ?_); refine AWp.condF (by simp) ?_
    refine AWp.exit ?_
    try simp
    (repeat refine AWp.seq ?_); refine AWp.region noP (by kernel_rfl) ?_
    simp [s1]
    refine AWp.ret (post_retW rfl ⟨_, _, View.refl _ _, ?_⟩)
    have := hK m [] rfl (fun _ _ => rfl) (.nil _ _ _) (by simpa [rowsL, AV.cnts] using Held.nil k)
    simpa [rowsL, AV.cnts, sm] using this
  obtain ⟨T, G, ys, hM, hy, hx⟩ := Marking.start h
  have hlen : l.length = n := by simpa [rowsL] using hx
  (repeat refine AWp.seq ?_); refine AWp.region noP (by kernel_rfl) ?_
  try simp
  (repeat refine AWp.seq ?_); refine AWp.region noP (by kernel_rfl) ?_
  try simp
  (repeat refine AWp.seq ?_); refine AWp.block (AWp.rounds (fun q st => ∃ (i : Nat) (ys : List AV) (ki : Int) (done : List (List Int)), q = n - i ∧ i ≤ n ∧ done.length = i ∧ ys.length = n ∧ st.slots 0 = .own g n c ∧ st.slots 1 = .int .i64 ki ∧ st.slots 5 = .int .i64 i ∧ Held (rowsL done) k ki ∧ k ≤ ki ∧ ki + (AV.cnts (rowsL (l.drop i)) : Int) = k + (AV.cnts (rowsL l) : Int) ∧ Marking st.mem m F g T 1 c G ys (rowsL (done ++ l.drop i))) n ⟨0, ys, k, [], by simp, by simp, by simp, hy, by simp, by simp, by simp, by simpa [rowsL] using Held.nil k, by omega, by simp, by simpa using hM⟩ ?_)
  clear hM hy ys
  rintro R q st hR ⟨i, ys, ki, done, rfl, hi, hdl, hy, s0, s1, s5, hH, hki, hcnt, hM⟩
  (repeat refine AWp.seq ?_); refine AWp.region noP (by kernel_rfl) ?_
  simp [s0, s5]
  (repeat refine AWp.seq ?_); refine AWp.cond (b := decide (i < n)) (by simp) (fun hlt => ?_) (fun hlt => ?_)
  rotate_left
  · simp at hlt
    have hin : i = n := by omega
    subst hin
    refine AWp.exit ?_
    try simp
    (repeat refine AWp.seq ?_); refine AWp.region noP (by kernel_rfl) ?_
    simp [s1]
    rw [List.drop_eq_nil_of_le (by omega)] at hcnt hM
    rw [List.append_nil] at hM
    have hke : ki = k + (AV.cnts (rowsL l) : Int) := by simpa [rowsL, AV.cnts] using hcnt
    subst hke
    refine AWp.ret (post_retW rfl ⟨_, _, View.refl _ _, ?_⟩)
    simp
    exact hK _ done (by omega) hM.out (hM.done hy) hH
  simp at hlt
  have hil : i < l.length := by omega
  have hdr : l.drop i = l[i] :: l.drop (i + 1) := List.drop_eq_getElem_cons hil
  have hwi : IntKind.wrap .i64 ((i : Int) + 1) = (i + 1 : Nat) := wrap64 (by omega) (by omega)
  rw [hdr] at hcnt hM
  generalize hx0 : l[i] = r at *
  obtain ⟨A, B, C, x, e1, e2, e3, e4, e5, e6⟩ := hM.tree.at (i := i) (by omega)
  have hxr : x = .lst false 1 (intsL r) := by
    simp [rowsL, ← hdl] at e1
    exact e1.symm
  subst hxr
  have hcr : AV.cnts (rowsL (r :: l.drop (i + 1))) = AV.cnts (intsL r) + AV.cnts (rowsL (l.drop (i + 1))) := by simp [rowsL, AV.cnts, AV.cnt]
  rw [hcr] at hcnt
  refine AWp.skip ?_
  try simp
  (repeat refine AWp.seq ?_); refine AWp.block ?_
  have hg := hM.row
  have hx : idxA Tryz.prog st.mem 53 (.own g n c) (.int .i64 i) = some (.elt g 1 i 0) := idx_own es_53 hg (by simp [hy]) hlt
  have hyi : ys[i]? = some (ys[i]'(by omega)) := List.getElem?_eq_getElem (by omega)
  have hyc := e2.okc
  (repeat refine AWp.seq ?_); refine AWp.region noP (by kernel_rfl) ?_
  simp [s0, s1, s5, hx, hg, hyi, hyc.2.1]
  refine aop_wcall _ _ _ _ _ _ _ _ rfl (eval_func _ _) ?_
  have e2' : OwnT st.mem B (ys[i]'(by omega)) (.lst false 1 (r.map (AV.int .i64))) := e2
  refine c_markIntS r st.mem B _ false e2' ki (by omega) (by show ki + (AV.cnts (intsL r) : Int) ≤ _; omega) _ fun m1 r' hout hown hheld => ?_
  try simp
  have hT := e6 m1 ys[i] (.lst false 1 (intsL r')) B (fun b hb => hout b (fun hB => e3 b hb hB)) hown (fun _ h => h)
  rw [List.set_getElem_self] at hT
  have hset : (rowsL (done ++ r :: l.drop (i + 1))).set i (.lst false 1 (intsL r')) = rowsL ((done ++ [r']) ++ l.drop (i + 1)) := by
    subst hdl
    simp [rowsL]
  rw [hset] at hT
  have hM2 : Marking m1 m F g T 1 c G ys (rowsL ((done ++ [r']) ++ l.drop (i + 1))) := ⟨(hout g (fun hB => hM.free (e5 g hB))).trans hM.row, hT, hM.free, hM.sub, hM.mine, fun b hb => (hout b (fun hB => hb (hM.sub b (e5 b hB)))).trans (hM.out b hb)⟩
  (repeat refine AWp.seq ?_); refine AWp.region noP (by kernel_rfl) ?_
  simp [s0, s1, s5, hwi]
  have ecn : AV.cnts (intsL r) = AV.cnts (r.map (AV.int .i64)) := rfl
  have hle := hheld.le
  refine hR _ (n - (i + 1)) (by omega) ⟨i + 1, ys, ki + (AV.cnts (r.map (AV.int .i64)) : Int), done ++ [r'], rfl, by omega, by simp [hdl], hy, by simp [s0], by simp, by simp, ?_, by omega, by rw [← ecn]; omega, by simpa using hM2⟩
  rw [show rowsL (done ++ [r']) = rowsL done ++ [.lst false 1 (intsL r')] by simp [rowsL]]
  exact hH.append (.lst hheld (.nil _))
theorem c_heldIntSS (l : List (List Int)) (hll : l.length ≤ 1048576) (k k' : Int) (h0 : 0 < k) (hb : k' ≤ 4611686018427387904) (h : Held (rowsL l) k k') : PCall Tryz.prog 116 [.lst false 1 (rowsL l), .int .i64 k] (.int .i64 k') := by
  refine pcall_of Tryz.func116 (by kernel_rfl) rfl (by simp [Tryz.f116]) ?_
  have hrl : (rowsL l).length = l.length := by simp [rowsL]
  (repeat refine AWp.seq ?_); refine AWp.region noP (by kernel_rfl) ?_
  try simp
  (repeat refine AWp.seq ?_); refine AWp.region noP (by kernel_rfl) ?_
  try simp
  (repeat refine AWp.seq ?_); refine AWp.block (AWp.rounds (fun q st => ∃ (i : Nat) (ki : Int), q = l.length - i ∧ i ≤ l.length ∧ k ≤ ki ∧ Held (rowsL (l.drop i)) ki k' ∧ st.slots 0 = .lst false 1 (rowsL l) ∧ st.slots 1 = .int .i64 ki ∧ st.slots 5 = .int .i64 i) l.length ⟨0, k, by simp, by simp, by omega, by simpa using h, by simp, by simp, by simp⟩ ?_)
  rintro R q st hR ⟨i, ki, rfl, hi, hki, hH, s0, s1, s5⟩
  (repeat refine AWp.seq ?_); refine AWp.region noP (by kernel_rfl) ?_
  simp [s0, s5, hrl]
  (repeat refine AWp.seq ?_); refine AWp.cond (b := decide (i < l.length)) (by simp) (fun hlt => ?_) (fun hlt => ?_)
  rotate_left
  · simp at hlt
    rw [List.drop_eq_nil_of_le hlt] at hH
    have hke := Held.nil_inv hH
    subst hke
    refine AWp.exit ?_
    try simp
    (repeat refine AWp.seq ?_); refine AWp.region noP (by kernel_rfl) ?_
    simp [s1]
    exact AWp.ret (post_ret1 rfl (by simp))
  simp at hlt
  have hdr : l.drop i = l[i] :: l.drop (i + 1) := List.drop_eq_getElem_cons hlt
  have hwi : IntKind.wrap .i64 ((i : Int) + 1) = (i + 1 : Nat) := wrap64 (by omega) (by omega)
  have hq : (rowsL l)[i]? = some (.lst false 1 (intsL l[i])) := by simp [rowsL, List.getElem?_eq_getElem hlt]
  have hx : idxA Tryz.prog st.mem 53 (.lst false 1 (rowsL l)) (.int .i64 i) = some (.ref [.lst false 1 (intsL l[i])]) := idx (y := .lst false 1 (intsL l[i])) es_53 hq
  rw [hdr, show rowsL (l[i] :: l.drop (i + 1)) = .lst false 1 (intsL l[i]) :: rowsL (l.drop (i + 1)) from rfl] at hH
  obtain ⟨kz, hH1, hH2⟩ := hH.lst_inv
  have hlz := hH2.le
  have hl1 := hH1.le
  have ch := c_heldIntS l[i] ki kz (by omega) (by omega) hH1
  refine AWp.skip ?_
  try simp
  (repeat refine AWp.seq ?_); refine AWp.block ?_
  (repeat refine AWp.seq ?_); refine AWp.region noP (by kernel_rfl) ?_
  simp [s0, s1, s5, hx]
  refine aop_call _ _ _ _ _ _ _ _ (by simpa [intsL] using ch) ?_
  try simp
  (repeat refine AWp.seq ?_); refine AWp.region noP (by kernel_rfl) ?_
  simp
  (repeat refine AWp.seq ?_); refine AWp.condF (by simp; omega) ?_
  refine AWp.skip ?_
  try simp
  (repeat refine AWp.seq ?_); refine AWp.region noP (by kernel_rfl) ?_
  simp [s0, s5, hwi]
  exact hR _ (l.length - (i + 1)) (by omega) ⟨i + 1, kz, rfl, hlt, by omega, hH2, by simp [s0], by simp, by simp⟩
def RS.HeldP (σ : RS) (k k' : Int) : Prop := σ.A.length ≤ 1048576 ∧ Held [.lst false 1 (rowsL σ.A), .lst false 1 (intsL σ.V), .lst false 1 (intsL σ.O)] k k'
def RS.cntP (σ : RS) : Nat := AV.cnts (rowsL σ.A) + (AV.cnts (intsL σ.V) + AV.cnts (intsL σ.O))
theorem mk_Sto (σ : RS) (hA : σ.A.length ≤ 1048576) : MarkC Tryz.prog 32 RS.look RS.HeldP σ σ.cntP := fun m F v h k h0 hb K hK => by
  unfold BIG RS.cntP at hb
  unfold RS.cntP at hK
  have ek : k + (AV.cnts (rowsL σ.A) : Int) + (AV.cnts (intsL σ.V) : Int) + (AV.cnts (intsL σ.O) : Int) = k + ((AV.cnts (rowsL σ.A) + (AV.cnts (intsL σ.V) + AV.cnts (intsL σ.O)) : Nat) : Int) := by omega
  rw [← ek] at hK
  clear ek
  obtain ⟨G, hG, hGF, hGd⟩ := h.dom
  unfold RS.look at hG
  obtain ⟨cs0, rfl, hT, hok⟩ := own_agg hG
  obtain ⟨a0, a1, a2, a3, rfl⟩ : ∃ a0 a1 a2 a3, cs0 = [a0, a1, a2, a3] := by
    match cs0, hT.len with
    | [a0, a1, a2, a3], _ => exact ⟨_, _, _, _, rfl⟩
  have hok2 := hok
  simp only [List.all_cons, List.all_nil, Bool.and_eq_true, Bool.and_true] at hok2
  refine wcall_of Tryz.func32 (by kernel_rfl) rfl (by simp [Tryz.f32]) ?_
  (repeat refine AWp.seq ?_); refine AWp.region noP (by kernel_rfl) ?_
  simp
  intro g1 h1
  have f1 : ¬ G g1 := fun hg => hGd g1 hg h1
  have b1 := set_same m g1 (.box [a0, a1, a2, a3])
  have o1 : ∀ b x, m b = some x → (m.set g1 (.box [a0, a1, a2, a3])) b = some x := fun b x hx => by rw [set_at, if_neg]; exact hx; rintro rfl; rw [h1] at hx; cases hx
  replace hT := hT.mem (m' := m.set g1 (.box [a0, a1, a2, a3])) fun b hb => by rw [set_at, if_neg]; rintro rfl; exact f1 hb
  generalize m.set g1 (.box [a0, a1, a2, a3]) = m0 at *
  obtain ⟨A0, x0, hxo0, hown0, hsub0, hupd0⟩ := hT.call (o := 0) (by simp)
  obtain rfl := (Option.some.inj hxo0)
  simp only [List.getElem_cons_succ, List.getElem_cons_zero] at hown0 hupd0
  (repeat refine AWp.seq ?_); refine AWp.region noP (by kernel_rfl) ?_
  simp [b1]
  refine aop_wcall _ _ _ _ _ _ _ _ rfl (eval_func _ _) ?_
  refine (c_markIntSS σ.A hA) _ _ _ _ hown0 (k) (by omega) (by omega) _ fun m1 l0 hl0 hout0 ho0 hh0 => ?_
  simp
  have hT := hupd0 m1 _ hout0 ho0
  simp only [List.set_cons_zero, List.set_cons_succ] at hT
  have b1 := (hout0 g1 (fun hg => f1 (hsub0 _ hg))).trans b1
  obtain ⟨A1, x1, hxo1, hown1, hsub1, hupd1⟩ := hT.call (o := 1) (by simp)
  obtain rfl := (Option.some.inj hxo1)
  simp only [List.getElem_cons_succ, List.getElem_cons_zero] at hown1 hupd1
  (repeat refine AWp.seq ?_); refine AWp.region noP (by kernel_rfl) ?_
  simp [b1]
  refine aop_wcall _ _ _ _ _ _ _ _ rfl (eval_func _ _) ?_
  have hown1 : OwnT m1 A1 a1 (.lst false 1 (σ.V.map (AV.int .i64))) := hown1
  refine (c_markIntS σ.V) _ _ _ _ hown1 (k + (AV.cnts (rowsL σ.A) : Int)) (by omega) (by show _ + (AV.cnts (intsL σ.V) : Int) ≤ _; omega) _ fun m2 l1 hout1 ho1 hh1 => ?_
  simp
  have hT := hupd1 m2 _ hout1 ho1
  simp only [List.set_cons_zero, List.set_cons_succ] at hT
  have b1 := (hout1 g1 (fun hg => f1 (hsub1 _ hg))).trans b1
  obtain ⟨A2, x2, hxo2, hown2, hsub2, hupd2⟩ := hT.call (o := 2) (by simp)
  obtain rfl := (Option.some.inj hxo2)
  simp only [List.getElem_cons_succ, List.getElem_cons_zero] at hown2 hupd2
  (repeat refine AWp.seq ?_); refine AWp.region noP (by kernel_rfl) ?_
  simp [b1]
  refine aop_wcall _ _ _ _ _ _ _ _ rfl (eval_func _ _) ?_
  have hown2 : OwnT m2 A2 a2 (.lst false 1 (σ.O.map (AV.int .i64))) := hown2
  refine (c_markIntS σ.O) _ _ _ _ hown2 (k + (AV.cnts (rowsL σ.A) : Int) + (AV.cnts (σ.V.map (AV.int .i64)) : Int)) (by omega) (by show _ + (AV.cnts (intsL σ.V) : Int) + (AV.cnts (intsL σ.O) : Int) ≤ _; omega) _ fun m3 l2 hout2 ho2 hh2 => ?_
  simp
  have hT := hupd2 m3 _ hout2 ho2
  simp only [List.set_cons_zero, List.set_cons_succ] at hT
  (repeat refine AWp.seq ?_); refine AWp.region noP (by kernel_rfl) ?_
  simp
  refine AWp.ret (post_retW rfl ⟨_, _, View.refl _ _, ?_⟩)
  simp
  refine hK _ ⟨l0, l1, l2, σ.nd, 0, []⟩ (fun b x hF hx => ?_) ((OwnT.agg hT hok).up hGF) ⟨by simp only; omega, .lst hh0 (.lst hh1 (.lst hh2 (.nil _)))⟩
  have := o1 b x hx
  simp only [hout2 b (fun hg => hF (hGF b (hsub2 b hg))), hout1 b (fun hg => hF (hGF b (hsub1 b hg))), hout0 b (fun hg => hF (hGF b (hsub0 b hg))), this]
theorem hd_Sto : HeldC Tryz.prog 33 RS.look RS.HeldP := fun σ k k' h0 hb ⟨hA, h⟩ => by
  unfold BIG at hb
  obtain ⟨k1, q1, h⟩ := h.lst_inv
  obtain ⟨k2, q2, h⟩ := h.lst_inv
  obtain ⟨k3, q3, h⟩ := h.lst_inv
  have := Held.nil_inv h
  subst this
  have r1 := q1.le
  have r2 := q2.le
  have r3 := q3.le
  have c1 := c_heldIntSS σ.A hA k k1 h0 (by omega) q1
  have c2 := c_heldIntS σ.V k1 k2 (by omega) (by omega) q2
  have c3 := c_heldIntS σ.O k2 k' (by omega) (by omega) q3
  have eI : ∀ l : List Int, intsL l = l.map (AV.int .i64) := fun _ => rfl
  simp only [← eI] at c2 c3
  have n1 : ¬ k1 < 0 := by omega
  have n2 : ¬ k2 < 0 := by omega
  have n3 : ¬ k' < 0 := by omega
  refine pcall_of Tryz.func33 (by kernel_rfl) rfl (by simp [Tryz.f33]) ?_
  unfold RS.look
  (repeat refine AWp.seq ?_); refine AWp.region noP (by kernel_rfl) ?_
  simp
  intro g
  repeat' (first
    | refine AWp.seq ?_
    | (refine AWp.region allP (by kernel_rfl) ?_; simp [n1, n2, n3])
    | (refine AWp.condG ?_; simp [n1, n2, n3])
    | (refine AWp.skip ?_; try simp)
    | (refine AWp.exit ?_; try simp)
    | refine AWp.block ?_
    | (refine aop_call' (c1) ?_; simp [n1, n2, n3])
    | (refine aop_call' (c2) ?_; simp [n1, n2, n3])
    | (refine aop_call' (c3) ?_; simp [n1, n2, n3])
    | (refine AWp.ret (post_ret1 rfl ?_); (simp; done))
    | (refine guardI (fun hq => ?_) (fun hq => ?_) <;> (try simp at hq) <;> (try simp [n1, n2, n3]))
    | (refine condRunI (fun hq => ?_) (fun hq => ?_) <;> (try simp at hq) <;> (try simp [n1, n2, n3]))
    | (refine iteI (fun hq => ?_) (fun hq => ?_) <;> (try simp [n1, n2, n3])))
end Go.T
namespace Go.T
open Go Go.Proofs
set_option maxRecDepth 10000
set_option maxHeartbeats 1000000
set_option linter.unusedSimpArgs false
set_option linter.unusedVariables false
theorem cnts_rows (A : List (List Int)) (h : ∀ r ∈ A, r.length ≤ 16) : AV.cnts (rowsL A) ≤ 16 * A.length := by
  induction A with
  | nil => simp [rowsL, AV.cnts]
  | cons r A ih =>
    have h1 := ih fun x hx => h x (List.mem_cons_of_mem _ hx)
    have h2 := h r (List.mem_cons_self ..)
    have h3 := cnts_ints r
    have e : AV.cnts (rowsL (r :: A)) = AV.cnts (r.map (AV.int .i64)) + AV.cnts (rowsL A) := rfl
    rw [e, List.length_cons]
    omega
theorem runR_small (p : Pg) (f : Int) : (runR p f).A.length ≤ 1048576 ∧ (∀ r ∈ (runR p f).A, r.length ≤ 1048576) ∧ (runR p f).V.length ≤ 1048576 ∧ (runR p f).O.length ≤ 1048576 ∧ (runR p f).cntP ≤ 1048576 := by
  unfold runR
  split
  · rename_i hok
    have hf := Pg.fine hok
    have hal := hf.arrs
    have hvl := hf.vars
    have h := allR_stay (an := p.arrNames) (ns := p.vars) 1048577 p.body (runS p f)
    generalize allR p.arrNames p.vars 1048577 p.body (runS p f) = τ at *
    have hfl : runFu f ≤ 4000 := by unfold runFu; split <;> omega
    have hA : τ.A.length = p.arrs.length := by
      have := congrArg List.length h.A
      simpa [runS, newA] using this
    have hV : τ.V.length = p.vars.length := by have := h.V; simpa [runS, zeros] using this
    have hO : τ.O.length ≤ 4000 := by have := h.O; simp [runS] at this; omega
    have hR : ∀ r ∈ τ.A, r.length ≤ 16 := by
      intro r hr
      have hm : r.length ∈ τ.A.map List.length := List.mem_map_of_mem hr
      rw [h.A] at hm
      obtain ⟨q, hq, e⟩ := List.mem_map.1 hm
      simp only [runS, newA, List.mem_map] at hq
      obtain ⟨a, ha, rfl⟩ := hq
      have := hf.sizes a ha
      simp [inR] at this
      simp [zeros] at e
      omega
    have hc1 := cnts_rows τ.A hR
    have hc2 := cnts_ints τ.V
    have hc3 := cnts_ints τ.O
    have e : τ.cntP = AV.cnts (rowsL τ.A) + (AV.cnts (τ.V.map (AV.int .i64)) + AV.cnts (τ.O.map (AV.int .i64))) := rfl
    refine ⟨by omega, fun r hr => by have := hR r hr; omega, by omega, by omega, by omega⟩
  · exact ⟨by simp, fun r hr => (by cases hr), by simp, by simp, by simp [RS.cntP, rowsL, intsL, AV.cnts]⟩
def RS.cs (σ : RS) : List AV := [.lst false 1 (rowsL σ.A), .lst false 1 (intsL σ.V), .lst false 1 (intsL σ.O), .int .i64 σ.nd]
theorem c_FnExactRun (p : Pg) (hf : p.fit) (f : Int) : PCall Tryz.prog 4 [p.av, .int .i64 f] (.bool true) := by
  refine pcall_of Tryz.func4 (by kernel_rfl) rfl (by simp [Tryz.f4]) ?_
  have czP := c_szProg p hf
  unfold Pg.av at czP
  unfold Pg.av
  (repeat refine AWp.seq ?_); refine AWp.region noP (by kernel_rfl) ?_
  try simp
  intro g_aP
  have H := ((Hold.nil (fun _ => none)).addBox (g := g_aP) rfl p.cells)
  generalize (Mem.set (fun _ => none) g_aP (.box p.cells)) = m1 at *
  have b_g_aP := H.box (g_aP, p.cells) (by simp)
  (repeat refine AWp.seq ?_); refine AWp.region noP (by kernel_rfl) ?_
  try simp [b_g_aP]
  try clear b_g_aP
  have b_g_aP := H.box (g_aP, p.cells) (by simp)
  (repeat refine AWp.seq ?_); refine AWp.region noP (by kernel_rfl) ?_
  try simp [b_g_aP]
  refine aop_call' (czP (1048576) (by omega) (by omega)) ?_
  generalize hL2 : szr p.tot (1048576) = L2
  try simp [b_g_aP]
  try clear b_g_aP
  have b_g_aP := H.box (g_aP, p.cells) (by simp)
  (repeat refine AWp.seq ?_); refine AWp.region noP (by kernel_rfl) ?_
  try simp [b_g_aP]
  try clear b_g_aP
  (repeat refine AWp.seq ?_); refine AWp.cond (b := decide (L2 < 0)) (by simp) (fun hb => ?_) (fun hb => ?_)
  · (repeat refine AWp.seq ?_); refine AWp.region noP (by kernel_rfl) ?_
    try simp
    exact AWp.ret (post_ret1 rfl (by simp))
  simp only [decide_eq_false_iff_not] at hb
  have hsL2 : (p.tot : Int) ≤ 1048576 ∧ L2 = 1048576 - (p.tot : Int) := by unfold szr at hL2; split at hL2 <;> omega
  clear hb hL2
  refine AWp.skip ?_
  try simp
  have hp : p.tot ≤ 1048576 := by omega
  have ctP := c_toProg0 p hp
  have oTP := o_toProg0 p hp
  have cS := (o_spec_Run p hp f).p
  have oI := o_impl_Run p hp f
  have cEP := c_eqProg0 p hp
  have y1 := p.cntP_le hp
  obtain ⟨yA, yR, yV, yO, yC⟩ := runR_small p f
  have cQ := c_eqSto (runR p f) yA yR yV yO
  generalize runR p f = X at *
  unfold RS.look at cS oI cQ
  unfold Pg.av at ctP oTP cS oI cEP
  have b_g_aP := H.box (g_aP, p.cells) (by simp)
  (repeat refine AWp.seq ?_); refine AWp.region noP (by kernel_rfl) ?_
  try simp [b_g_aP]
  refine aop_call' (ctP) ?_
  try simp [b_g_aP]
  refine aop_call' (cS) ?_
  try simp [b_g_aP]
  try simp
  intro g_x6 h_g_x6
  try simp [set_at, set_set]
  have H := H.addBox h_g_x6 [.lst false 1 (rowsL X.A), .lst false 1 (intsL X.V), .lst false 1 (intsL X.O), .int .i64 X.nd]
  generalize m1.set g_x6 (.box [.lst false 1 (rowsL X.A), .lst false 1 (intsL X.V), .lst false 1 (intsL X.O), .int .i64 X.nd]) = m3 at *
  try clear b_g_aP
  try clear b_g_x6
  have b_g_aP := H.box (g_aP, p.cells) (by simp)
  have b_g_x6 := H.box (g_x6, [.lst false 1 (rowsL X.A), .lst false 1 (intsL X.V), .lst false 1 (intsL X.O), .int .i64 X.nd]) (by simp)
  (repeat refine AWp.seq ?_); refine AWp.region noP (by kernel_rfl) ?_
  try simp [b_g_aP, b_g_x6]
  refine aop_wcall _ _ _ _ _ _ _ _ rfl (eval_func _ _) ?_
  refine OCall.w (oTP) fun r6 m7 F5 hE hO hG hGd => ?_
  obtain ⟨c8, rfl, hT_c8, hok_c8⟩ := own_agg hO
  have l_c8 : c8.length = 2 := hT_c8.len.trans (Pg.cells_len p)
  have t_c8 : List.take 2 c8 = c8 := List.take_of_length_le (by omega)
  have ok_c8 : ∀ x ∈ c8, okCell x = true := by simpa using hok_c8
  have H := H.addTree (by simpa using hE) hO (by simpa using hG) hGd
  clear hE hO hG hGd
  try clear b_g_aP
  try clear b_g_x6
  have b_g_aP := H.box (g_aP, p.cells) (by simp)
  have b_g_x6 := H.box (g_x6, [.lst false 1 (rowsL X.A), .lst false 1 (intsL X.V), .lst false 1 (intsL X.O), .int .i64 X.nd]) (by simp)
  try simp [b_g_aP, b_g_x6]
  try simp
  intro g_x7 h_g_x7
  have hdr_g_x7 : List.drop 2 c8 = [] := List.drop_eq_nil_of_le (by omega)
  simp [l_c8, set_at]
  refine ⟨ok_c8, ?_⟩
  try simp [set_set, hdr_g_x7]
  have H := H.addBox h_g_x7 c8
  generalize m7.set g_x7 (.box c8) = m9 at *
  try clear b_g_aP
  try clear b_g_x6
  try clear b_g_x7
  have b_g_aP := H.box (g_aP, p.cells) (by simp)
  have b_g_x6 := H.box (g_x6, [.lst false 1 (rowsL X.A), .lst false 1 (intsL X.V), .lst false 1 (intsL X.O), .int .i64 X.nd]) (by simp)
  have b_g_x7 := H.box (g_x7, c8) (by simp)
  (repeat refine AWp.seq ?_); refine AWp.region noP (by kernel_rfl) ?_
  try simp [b_g_aP, b_g_x6, b_g_x7, l_c8, t_c8]
  obtain ⟨_, hL⟩ : ∃ F : Nat → Prop, Lent m9 F [.agg c8, .int .i64 (f)] [.agg p.cells, .int .i64 (f)] := by
    have hL := Lent.nil m9
    have hL := hL.same (.int .i64 (f))
    obtain ⟨_, hL⟩ := hL.own (H.tree (F5, .agg c8, .agg p.cells) (by simp))
    exact ⟨_, hL⟩
  refine aop_wcall _ _ _ _ _ _ _ _ rfl (eval_func _ _) ?_
  refine OCall.lends (oI) hL fun r12 m13 F11 hE hO hG hGd => ?_
  obtain ⟨c14, rfl, hT_c14, hok_c14⟩ := own_agg hO
  have l_c14 : c14.length = 4 := hT_c14.len.trans (rfl)
  have t_c14 : List.take 4 c14 = c14 := List.take_of_length_le (by omega)
  have ok_c14 : ∀ x ∈ c14, okCell x = true := by simpa using hok_c14
  have H := H.addTree (by simpa using hE) hO (by simpa using hG) hGd
  clear hE hO hG hGd
  try clear b_g_aP
  try clear b_g_x6
  try clear b_g_x7
  have b_g_aP := H.box (g_aP, p.cells) (by simp)
  have b_g_x6 := H.box (g_x6, [.lst false 1 (rowsL X.A), .lst false 1 (intsL X.V), .lst false 1 (intsL X.O), .int .i64 X.nd]) (by simp)
  have b_g_x7 := H.box (g_x7, c8) (by simp)
  try simp [b_g_aP, b_g_x6, b_g_x7, l_c8, t_c8]
  try simp
  intro g_x8 h_g_x8
  have hdr_g_x8 : List.drop 4 c14 = [] := List.drop_eq_nil_of_le (by omega)
  simp [l_c14, set_at]
  refine ⟨ok_c14, ?_⟩
  try simp [set_set, hdr_g_x8]
  have H := H.addBox h_g_x8 c14
  generalize m13.set g_x8 (.box c14) = m15 at *
  try clear b_g_aP
  try clear b_g_x6
  try clear b_g_x7
  try clear b_g_x8
  have b_g_aP := H.box (g_aP, p.cells) (by simp)
  have b_g_x6 := H.box (g_x6, [.lst false 1 (rowsL X.A), .lst false 1 (intsL X.V), .lst false 1 (intsL X.O), .int .i64 X.nd]) (by simp)
  have b_g_x7 := H.box (g_x7, c8) (by simp)
  have b_g_x8 := H.box (g_x8, c14) (by simp)
  (repeat refine AWp.seq ?_); refine AWp.region noP (by kernel_rfl) ?_
  try simp [b_g_aP, b_g_x6, b_g_x7, l_c8, t_c8, b_g_x8, l_c14, t_c14]
  obtain ⟨_, hL⟩ : ∃ F : Nat → Prop, Lent m15 F [.agg c14, .agg [.lst false 1 (rowsL X.A), .lst false 1 (intsL X.V), .lst false 1 (intsL X.O), .int .i64 X.nd]] [.agg [.lst false 1 (rowsL X.A), .lst false 1 (intsL X.V), .lst false 1 (intsL X.O), .int .i64 X.nd], .agg [.lst false 1 (rowsL X.A), .lst false 1 (intsL X.V), .lst false 1 (intsL X.O), .int .i64 X.nd]] := by
    have hL := Lent.nil m15
    have hL := hL.same (.agg [.lst false 1 (rowsL X.A), .lst false 1 (intsL X.V), .lst false 1 (intsL X.O), .int .i64 X.nd])
    obtain ⟨_, hL⟩ := hL.own (H.tree (F11, .agg c14, .agg [.lst false 1 (rowsL X.A), .lst false 1 (intsL X.V), .lst false 1 (intsL X.O), .int .i64 X.nd]) (by simp))
    exact ⟨_, hL⟩
  refine aop_wcall _ _ _ _ _ _ _ _ rfl (eval_func _ _) ?_
  refine PCall.lend (cQ) hL rfl ?_
  clear hL
  try simp [b_g_aP, b_g_x6, b_g_x7, l_c8, t_c8, b_g_x8, l_c14, t_c14]
  try clear b_g_aP
  try clear b_g_x6
  try clear b_g_x7
  try clear b_g_x8
  (repeat refine AWp.seq ?_); refine AWp.condF (by first | (simp; done) | (simp; omega)) ?_
  refine AWp.skip ?_
  try simp
  have b_g_aP := H.box (g_aP, p.cells) (by simp)
  have b_g_x6 := H.box (g_x6, [.lst false 1 (rowsL X.A), .lst false 1 (intsL X.V), .lst false 1 (intsL X.O), .int .i64 X.nd]) (by simp)
  have b_g_x7 := H.box (g_x7, c8) (by simp)
  have b_g_x8 := H.box (g_x8, c14) (by simp)
  (repeat refine AWp.seq ?_); refine AWp.regionG (fun i => i == 2) (fun _ => false) [0, 1, 2, 3, 4] [0, 1, 2, 3, 4] (by kernel_rfl) ?_
  try simp [b_g_aP, b_g_x6, b_g_x7, l_c8, t_c8, b_g_x8, l_c14, t_c14]
  refine aop_call' (ctP) ?_
  try simp [b_g_aP, b_g_x6, b_g_x7, l_c8, t_c8, b_g_x8, l_c14, t_c14]
  obtain ⟨_, hL⟩ : ∃ F : Nat → Prop, Lent m15 F [.agg c8, .agg p.cells] [.agg p.cells, .agg p.cells] := by
    have hL := Lent.nil m15
    have hL := hL.same (.agg p.cells)
    obtain ⟨_, hL⟩ := hL.own (H.tree (F5, .agg c8, .agg p.cells) (by simp))
    exact ⟨_, hL⟩
  refine aop_wcall _ _ _ _ _ _ _ _ rfl (eval_func _ _) ?_
  refine PCall.lend (cEP) hL rfl ?_
  clear hL
  try simp [b_g_aP, b_g_x6, b_g_x7, l_c8, t_c8, b_g_x8, l_c14, t_c14]
  try clear b_g_aP
  try clear b_g_x6
  try clear b_g_x7
  try clear b_g_x8
  (repeat refine AWp.seq ?_); refine AWp.condF (by first | (simp; done) | (simp; omega)) ?_
  refine AWp.skip ?_
  try simp
  have b_g_aP := H.box (g_aP, p.cells) (by simp)
  have b_g_x6 := H.box (g_x6, [.lst false 1 (rowsL X.A), .lst false 1 (intsL X.V), .lst false 1 (intsL X.O), .int .i64 X.nd]) (by simp)
  have b_g_x7 := H.box (g_x7, c8) (by simp)
  have b_g_x8 := H.box (g_x8, c14) (by simp)
  (repeat refine AWp.seq ?_); refine AWp.region noP (by kernel_rfl) ?_
  try simp [b_g_aP, b_g_x6, b_g_x7, l_c8, t_c8, b_g_x8, l_c14, t_c14]
  try clear b_g_aP
  try clear b_g_x6
  try clear b_g_x7
  try clear b_g_x8
  have b_g_aP := H.box (g_aP, p.cells) (by simp)
  have b_g_x6 := H.box (g_x6, [.lst false 1 (rowsL X.A), .lst false 1 (intsL X.V), .lst false 1 (intsL X.O), .int .i64 X.nd]) (by simp)
  have b_g_x7 := H.box (g_x7, c8) (by simp)
  have b_g_x8 := H.box (g_x8, c14) (by simp)
  (repeat refine AWp.seq ?_); refine AWp.region noP (by kernel_rfl) ?_
  try simp [b_g_aP, b_g_x6, b_g_x7, l_c8, t_c8, b_g_x8, l_c14, t_c14]
  refine aop_wcall _ _ _ _ _ _ _ _ rfl (eval_func _ _) ?_
  refine mk_Prog p _ _ _ (H.tree (F5, .agg c8, .agg p.cells) (by simp)) (1) (by omega) (by unfold BIG; omega) _ fun m16 x17 hout hO hH19 => ?_
  have hp_k18 : 0 < (1) + (p.cntP : Int) ∧ (1) + (p.cntP : Int) ≤ 4611686018427387904 := by omega
  generalize hq_k18 : (1) + (p.cntP : Int) = k18 at *
  have hn_k18 : ¬ (k18 < 0) := by omega
  obtain ⟨F20, H⟩ := Hold.turn (l1 := [(F11, .agg c14, .agg [.lst false 1 (rowsL X.A), .lst false 1 (intsL X.V), .lst false 1 (intsL X.O), .int .i64 X.nd])]) (l2 := []) (x' := (Pg.av x17)) H hout hO
  clear hout hO
  simp only [List.cons_append, List.nil_append] at H
  try simp
  try clear b_g_aP
  try clear b_g_x6
  try clear b_g_x7
  try clear b_g_x8
  have b_g_aP := H.box (g_aP, p.cells) (by simp)
  have b_g_x6 := H.box (g_x6, [.lst false 1 (rowsL X.A), .lst false 1 (intsL X.V), .lst false 1 (intsL X.O), .int .i64 X.nd]) (by simp)
  have b_g_x7 := H.box (g_x7, c8) (by simp)
  have b_g_x8 := H.box (g_x8, c14) (by simp)
  (repeat refine AWp.seq ?_); refine AWp.region noP (by kernel_rfl) ?_
  try simp [b_g_aP, b_g_x6, b_g_x7, l_c8, t_c8, b_g_x8, l_c14, t_c14, hn_k18]
  obtain ⟨_, hL⟩ : ∃ F : Nat → Prop, Lent m16 F [.agg c14, .agg [.lst false 1 (rowsL X.A), .lst false 1 (intsL X.V), .lst false 1 (intsL X.O), .int .i64 X.nd]] [.agg [.lst false 1 (rowsL X.A), .lst false 1 (intsL X.V), .lst false 1 (intsL X.O), .int .i64 X.nd], .agg [.lst false 1 (rowsL X.A), .lst false 1 (intsL X.V), .lst false 1 (intsL X.O), .int .i64 X.nd]] := by
    have hL := Lent.nil m16
    have hL := hL.same (.agg [.lst false 1 (rowsL X.A), .lst false 1 (intsL X.V), .lst false 1 (intsL X.O), .int .i64 X.nd])
    obtain ⟨_, hL⟩ := hL.own (H.tree (F11, .agg c14, .agg [.lst false 1 (rowsL X.A), .lst false 1 (intsL X.V), .lst false 1 (intsL X.O), .int .i64 X.nd]) (by simp))
    exact ⟨_, hL⟩
  refine aop_wcall _ _ _ _ _ _ _ _ rfl (eval_func _ _) ?_
  refine PCall.lend (cQ) hL rfl ?_
  clear hL
  try simp [b_g_aP, b_g_x6, b_g_x7, l_c8, t_c8, b_g_x8, l_c14, t_c14, hn_k18]
  try clear b_g_aP
  try clear b_g_x6
  try clear b_g_x7
  try clear b_g_x8
  (repeat refine AWp.seq ?_); refine AWp.condF (by first | (simp; done) | (simp; omega)) ?_
  refine AWp.skip ?_
  try simp
  have b_g_aP := H.box (g_aP, p.cells) (by simp)
  have b_g_x6 := H.box (g_x6, [.lst false 1 (rowsL X.A), .lst false 1 (intsL X.V), .lst false 1 (intsL X.O), .int .i64 X.nd]) (by simp)
  have b_g_x7 := H.box (g_x7, c8) (by simp)
  have b_g_x8 := H.box (g_x8, c14) (by simp)
  (repeat refine AWp.seq ?_); refine AWp.region noP (by kernel_rfl) ?_
  try simp [b_g_aP, b_g_x6, b_g_x7, l_c8, t_c8, b_g_x8, l_c14, t_c14, hn_k18]
  try clear b_g_aP
  try clear b_g_x6
  try clear b_g_x7
  try clear b_g_x8
  have b_g_aP := H.box (g_aP, p.cells) (by simp)
  have b_g_x6 := H.box (g_x6, [.lst false 1 (rowsL X.A), .lst false 1 (intsL X.V), .lst false 1 (intsL X.O), .int .i64 X.nd]) (by simp)
  have b_g_x7 := H.box (g_x7, c8) (by simp)
  have b_g_x8 := H.box (g_x8, c14) (by simp)
  (repeat refine AWp.seq ?_); refine AWp.region noP (by kernel_rfl) ?_
  try simp [b_g_aP, b_g_x6, b_g_x7, l_c8, t_c8, b_g_x8, l_c14, t_c14, hn_k18]
  refine aop_wcall _ _ _ _ _ _ _ _ rfl (eval_func _ _) ?_
  refine mk_Sto X yA _ _ _ (H.tree (F11, .agg c14, .agg [.lst false 1 (rowsL X.A), .lst false 1 (intsL X.V), .lst false 1 (intsL X.O), .int .i64 X.nd]) (by simp)) (1) (by omega) (by unfold BIG; omega) _ fun m21 x22 hout hO hH24 => ?_
  have hp_k23 : 0 < (1) + (X.cntP : Int) ∧ (1) + (X.cntP : Int) ≤ 4611686018427387904 := by omega
  generalize hq_k23 : (1) + (X.cntP : Int) = k23 at *
  have hn_k23 : ¬ (k23 < 0) := by omega
  obtain ⟨F25, H⟩ := Hold.turn (l1 := []) (l2 := [(F20, .agg c8, (Pg.av x17))]) (x' := (RS.look x22)) H hout hO
  clear hout hO
  simp only [List.cons_append, List.nil_append] at H
  try simp
  try clear b_g_aP
  try clear b_g_x6
  try clear b_g_x7
  try clear b_g_x8
  have b_g_aP := H.box (g_aP, p.cells) (by simp)
  have b_g_x6 := H.box (g_x6, [.lst false 1 (rowsL X.A), .lst false 1 (intsL X.V), .lst false 1 (intsL X.O), .int .i64 X.nd]) (by simp)
  have b_g_x7 := H.box (g_x7, c8) (by simp)
  have b_g_x8 := H.box (g_x8, c14) (by simp)
  (repeat refine AWp.seq ?_); refine AWp.region noP (by kernel_rfl) ?_
  try simp [b_g_aP, b_g_x6, b_g_x7, l_c8, t_c8, b_g_x8, l_c14, t_c14, hn_k18, hn_k23]
  try clear b_g_aP
  try clear b_g_x6
  try clear b_g_x7
  try clear b_g_x8
  have b_g_aP := H.box (g_aP, p.cells) (by simp)
  have b_g_x6 := H.box (g_x6, [.lst false 1 (rowsL X.A), .lst false 1 (intsL X.V), .lst false 1 (intsL X.O), .int .i64 X.nd]) (by simp)
  have b_g_x7 := H.box (g_x7, c8) (by simp)
  have b_g_x8 := H.box (g_x8, c14) (by simp)
  (repeat refine AWp.seq ?_); refine AWp.region noP (by kernel_rfl) ?_
  try simp [b_g_aP, b_g_x6, b_g_x7, l_c8, t_c8, b_g_x8, l_c14, t_c14, hn_k18, hn_k23]
  obtain ⟨_, hL⟩ : ∃ F : Nat → Prop, Lent m21 F [.agg c14, .int .i64 1] [(RS.look x22), .int .i64 1] := by
    have hL := Lent.nil m21
    have hL := hL.same (.int .i64 1)
    obtain ⟨_, hL⟩ := hL.own (H.tree (F25, .agg c14, (RS.look x22)) (by simp))
    exact ⟨_, hL⟩
  refine aop_wcall _ _ _ _ _ _ _ _ rfl (eval_func _ _) ?_
  refine PCall.lend (hd_Sto x22 (1) k23 (by omega) (by unfold BIG; omega) hH24) hL rfl ?_
  clear hL
  try simp [b_g_aP, b_g_x6, b_g_x7, l_c8, t_c8, b_g_x8, l_c14, t_c14, hn_k18, hn_k23]
  try clear b_g_aP
  try clear b_g_x6
  try clear b_g_x7
  try clear b_g_x8
  have b_g_aP := H.box (g_aP, p.cells) (by simp)
  have b_g_x6 := H.box (g_x6, [.lst false 1 (rowsL X.A), .lst false 1 (intsL X.V), .lst false 1 (intsL X.O), .int .i64 X.nd]) (by simp)
  have b_g_x7 := H.box (g_x7, c8) (by simp)
  have b_g_x8 := H.box (g_x8, c14) (by simp)
  (repeat refine AWp.seq ?_); refine AWp.region noP (by kernel_rfl) ?_
  try simp [b_g_aP, b_g_x6, b_g_x7, l_c8, t_c8, b_g_x8, l_c14, t_c14, hn_k18, hn_k23]
  try clear b_g_aP
  try clear b_g_x6
  try clear b_g_x7
  try clear b_g_x8
  (repeat refine AWp.seq ?_); refine AWp.condF (by first | (simp; done) | (simp; omega)) ?_
  refine AWp.skip ?_
  try simp
  have b_g_aP := H.box (g_aP, p.cells) (by simp)
  have b_g_x6 := H.box (g_x6, [.lst false 1 (rowsL X.A), .lst false 1 (intsL X.V), .lst false 1 (intsL X.O), .int .i64 X.nd]) (by simp)
  have b_g_x7 := H.box (g_x7, c8) (by simp)
  have b_g_x8 := H.box (g_x8, c14) (by simp)
  (repeat refine AWp.seq ?_); refine AWp.region noP (by kernel_rfl) ?_
  try simp [b_g_aP, b_g_x6, b_g_x7, l_c8, t_c8, b_g_x8, l_c14, t_c14, hn_k18, hn_k23]
  try clear b_g_aP
  try clear b_g_x6
  try clear b_g_x7
  try clear b_g_x8
  (repeat refine AWp.seq ?_); refine AWp.condF (by first | (simp; done) | (simp; omega)) ?_
  refine AWp.skip ?_
  try simp
  have b_g_aP := H.box (g_aP, p.cells) (by simp)
  have b_g_x6 := H.box (g_x6, [.lst false 1 (rowsL X.A), .lst false 1 (intsL X.V), .lst false 1 (intsL X.O), .int .i64 X.nd]) (by simp)
  have b_g_x7 := H.box (g_x7, c8) (by simp)
  have b_g_x8 := H.box (g_x8, c14) (by simp)
  (repeat refine AWp.seq ?_); refine AWp.region noP (by kernel_rfl) ?_
  try simp [b_g_aP, b_g_x6, b_g_x7, l_c8, t_c8, b_g_x8, l_c14, t_c14, hn_k18, hn_k23]
  refine aop_call' (ctP) ?_
  try simp [b_g_aP, b_g_x6, b_g_x7, l_c8, t_c8, b_g_x8, l_c14, t_c14, hn_k18, hn_k23]
  refine aop_wcall _ _ _ _ _ _ _ _ rfl (eval_func _ _) ?_
  refine OCall.w (oI) fun r28 m29 F27 hE hO hG hGd => ?_
  obtain ⟨c30, rfl, hT_c30, hok_c30⟩ := own_agg hO
  have l_c30 : c30.length = 4 := hT_c30.len.trans (rfl)
  have t_c30 : List.take 4 c30 = c30 := List.take_of_length_le (by omega)
  have ok_c30 : ∀ x ∈ c30, okCell x = true := by simpa using hok_c30
  have H := H.addTree (by simpa using hE) hO (by simpa using hG) hGd
  clear hE hO hG hGd
  try clear b_g_aP
  try clear b_g_x6
  try clear b_g_x7
  try clear b_g_x8
  have b_g_aP := H.box (g_aP, p.cells) (by simp)
  have b_g_x6 := H.box (g_x6, [.lst false 1 (rowsL X.A), .lst false 1 (intsL X.V), .lst false 1 (intsL X.O), .int .i64 X.nd]) (by simp)
  have b_g_x7 := H.box (g_x7, c8) (by simp)
  have b_g_x8 := H.box (g_x8, c14) (by simp)
  try simp [b_g_aP, b_g_x6, b_g_x7, l_c8, t_c8, b_g_x8, l_c14, t_c14, hn_k18, hn_k23]
  try simp
  intro g_x12 h_g_x12
  have hdr_g_x12 : List.drop 4 c30 = [] := List.drop_eq_nil_of_le (by omega)
  simp [l_c30, set_at]
  refine ⟨ok_c30, ?_⟩
  try simp [set_set, hdr_g_x12]
  have H := H.addBox h_g_x12 c30
  generalize m29.set g_x12 (.box c30) = m31 at *
  try clear b_g_aP
  try clear b_g_x6
  try clear b_g_x7
  try clear b_g_x8
  try clear b_g_x12
  have b_g_aP := H.box (g_aP, p.cells) (by simp)
  have b_g_x6 := H.box (g_x6, [.lst false 1 (rowsL X.A), .lst false 1 (intsL X.V), .lst false 1 (intsL X.O), .int .i64 X.nd]) (by simp)
  have b_g_x7 := H.box (g_x7, c8) (by simp)
  have b_g_x8 := H.box (g_x8, c14) (by simp)
  have b_g_x12 := H.box (g_x12, c30) (by simp)
  (repeat refine AWp.seq ?_); refine AWp.region noP (by kernel_rfl) ?_
  try simp [b_g_aP, b_g_x6, b_g_x7, l_c8, t_c8, b_g_x8, l_c14, t_c14, b_g_x12, l_c30, t_c30, hn_k18, hn_k23]
  obtain ⟨_, hL⟩ : ∃ F : Nat → Prop, Lent m31 F [.agg c30, .agg [.lst false 1 (rowsL X.A), .lst false 1 (intsL X.V), .lst false 1 (intsL X.O), .int .i64 X.nd]] [.agg [.lst false 1 (rowsL X.A), .lst false 1 (intsL X.V), .lst false 1 (intsL X.O), .int .i64 X.nd], .agg [.lst false 1 (rowsL X.A), .lst false 1 (intsL X.V), .lst false 1 (intsL X.O), .int .i64 X.nd]] := by
    have hL := Lent.nil m31
    have hL := hL.same (.agg [.lst false 1 (rowsL X.A), .lst false 1 (intsL X.V), .lst false 1 (intsL X.O), .int .i64 X.nd])
    obtain ⟨_, hL⟩ := hL.own (H.tree (F27, .agg c30, .agg [.lst false 1 (rowsL X.A), .lst false 1 (intsL X.V), .lst false 1 (intsL X.O), .int .i64 X.nd]) (by simp))
    exact ⟨_, hL⟩
  refine aop_wcall _ _ _ _ _ _ _ _ rfl (eval_func _ _) ?_
  refine PCall.lend (cQ) hL rfl ?_
  clear hL
  try simp [b_g_aP, b_g_x6, b_g_x7, l_c8, t_c8, b_g_x8, l_c14, t_c14, b_g_x12, l_c30, t_c30, hn_k18, hn_k23]
  try clear b_g_aP
  try clear b_g_x6
  try clear b_g_x7
  try clear b_g_x8
  try clear b_g_x12
  (repeat refine AWp.seq ?_); refine AWp.condF (by first | (simp; done) | (simp; omega)) ?_
  refine AWp.skip ?_
  try simp
  have b_g_aP := H.box (g_aP, p.cells) (by simp)
  have b_g_x6 := H.box (g_x6, [.lst false 1 (rowsL X.A), .lst false 1 (intsL X.V), .lst false 1 (intsL X.O), .int .i64 X.nd]) (by simp)
  have b_g_x7 := H.box (g_x7, c8) (by simp)
  have b_g_x8 := H.box (g_x8, c14) (by simp)
  have b_g_x12 := H.box (g_x12, c30) (by simp)
  (repeat refine AWp.seq ?_); refine AWp.region noP (by kernel_rfl) ?_
  try simp [b_g_aP, b_g_x6, b_g_x7, l_c8, t_c8, b_g_x8, l_c14, t_c14, b_g_x12, l_c30, t_c30, hn_k18, hn_k23]
  try clear b_g_aP
  try clear b_g_x6
  try clear b_g_x7
  try clear b_g_x8
  try clear b_g_x12
  have b_g_aP := H.box (g_aP, p.cells) (by simp)
  have b_g_x6 := H.box (g_x6, [.lst false 1 (rowsL X.A), .lst false 1 (intsL X.V), .lst false 1 (intsL X.O), .int .i64 X.nd]) (by simp)
  have b_g_x7 := H.box (g_x7, c8) (by simp)
  have b_g_x8 := H.box (g_x8, c14) (by simp)
  have b_g_x12 := H.box (g_x12, c30) (by simp)
  (repeat refine AWp.seq ?_); refine AWp.region noP (by kernel_rfl) ?_
  try simp [b_g_aP, b_g_x6, b_g_x7, l_c8, t_c8, b_g_x8, l_c14, t_c14, b_g_x12, l_c30, t_c30, hn_k18, hn_k23]
  obtain ⟨_, hL⟩ : ∃ F : Nat → Prop, Lent m31 F [.agg c14, .int .i64 1] [(RS.look x22), .int .i64 1] := by
    have hL := Lent.nil m31
    have hL := hL.same (.int .i64 1)
    obtain ⟨_, hL⟩ := hL.own (H.tree (F25, .agg c14, (RS.look x22)) (by simp))
    exact ⟨_, hL⟩
  refine aop_wcall _ _ _ _ _ _ _ _ rfl (eval_func _ _) ?_
  refine PCall.lend (hd_Sto x22 (1) k23 (by omega) (by unfold BIG; omega) hH24) hL rfl ?_
  clear hL
  try simp [b_g_aP, b_g_x6, b_g_x7, l_c8, t_c8, b_g_x8, l_c14, t_c14, b_g_x12, l_c30, t_c30, hn_k18, hn_k23]
  try clear b_g_aP
  try clear b_g_x6
  try clear b_g_x7
  try clear b_g_x8
  try clear b_g_x12
  have b_g_aP := H.box (g_aP, p.cells) (by simp)
  have b_g_x6 := H.box (g_x6, [.lst false 1 (rowsL X.A), .lst false 1 (intsL X.V), .lst false 1 (intsL X.O), .int .i64 X.nd]) (by simp)
  have b_g_x7 := H.box (g_x7, c8) (by simp)
  have b_g_x8 := H.box (g_x8, c14) (by simp)
  have b_g_x12 := H.box (g_x12, c30) (by simp)
  (repeat refine AWp.seq ?_); refine AWp.region noP (by kernel_rfl) ?_
  try simp [b_g_aP, b_g_x6, b_g_x7, l_c8, t_c8, b_g_x8, l_c14, t_c14, b_g_x12, l_c30, t_c30, hn_k18, hn_k23]
  try clear b_g_aP
  try clear b_g_x6
  try clear b_g_x7
  try clear b_g_x8
  try clear b_g_x12
  (repeat refine AWp.seq ?_); refine AWp.condF (by first | (simp; done) | (simp; omega)) ?_
  refine AWp.skip ?_
  try simp
  have b_g_aP := H.box (g_aP, p.cells) (by simp)
  have b_g_x6 := H.box (g_x6, [.lst false 1 (rowsL X.A), .lst false 1 (intsL X.V), .lst false 1 (intsL X.O), .int .i64 X.nd]) (by simp)
  have b_g_x7 := H.box (g_x7, c8) (by simp)
  have b_g_x8 := H.box (g_x8, c14) (by simp)
  have b_g_x12 := H.box (g_x12, c30) (by simp)
  (repeat refine AWp.seq ?_); refine AWp.region noP (by kernel_rfl) ?_
  try simp [b_g_aP, b_g_x6, b_g_x7, l_c8, t_c8, b_g_x8, l_c14, t_c14, b_g_x12, l_c30, t_c30, hn_k18, hn_k23]
  try clear b_g_aP
  try clear b_g_x6
  try clear b_g_x7
  try clear b_g_x8
  try clear b_g_x12
  (repeat refine AWp.seq ?_); refine AWp.condF (by first | (simp; done) | (simp; omega)) ?_
  refine AWp.skip ?_
  try simp
  have b_g_aP := H.box (g_aP, p.cells) (by simp)
  have b_g_x6 := H.box (g_x6, [.lst false 1 (rowsL X.A), .lst false 1 (intsL X.V), .lst false 1 (intsL X.O), .int .i64 X.nd]) (by simp)
  have b_g_x7 := H.box (g_x7, c8) (by simp)
  have b_g_x8 := H.box (g_x8, c14) (by simp)
  have b_g_x12 := H.box (g_x12, c30) (by simp)
  (repeat refine AWp.seq ?_); refine AWp.region noP (by kernel_rfl) ?_
  try simp [b_g_aP, b_g_x6, b_g_x7, l_c8, t_c8, b_g_x8, l_c14, t_c14, b_g_x12, l_c30, t_c30, hn_k18, hn_k23]
  try clear b_g_aP
  try clear b_g_x6
  try clear b_g_x7
  try clear b_g_x8
  try clear b_g_x12
  exact AWp.ret (post_ret1 rfl (by simp))
end Go.T
