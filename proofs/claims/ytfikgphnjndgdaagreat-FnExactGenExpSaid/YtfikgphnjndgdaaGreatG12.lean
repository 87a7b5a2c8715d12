/- Copies that are one's own, of statements and programs: what the laws' copying functions compute. Statements and expressions marked. What holds the marks of machines; programs and machines marked. Rows of names: compared, marked, held. Programs and machines marked; what holds a machine's marks. New machines: what the program and the reference compute. Great machines compared; how many marks programs and machines take. Rows of names measured and copied; instructions compared, marked, held; programs marked. Code of expressions: what the program computes. -/
import Derived.Test.YtfikgphnjndgdaaGreatG11
import Derived.Test.YtfikgphnjndgdaaGreatG3
import Derived.Test.YtfikgphnjndgdaaGreatG4
import Derived.Test.YtfikgphnjndgdaaGreatG10
namespace Go.T
open Go Go.Proofs
set_option maxRecDepth 10000
set_option maxHeartbeats 1000000
set_option linter.unusedSimpArgs false
set_option linter.unusedVariables false
theorem Ex.av_mk (k n : Int) (s : ByteArray) (l : List Ex) : (Ex.mk k n s l).av = .agg [.int .i64 k, .int .i64 n, .str s, .lst false 4 (l.map Ex.av)] := by show AV.agg (Ex.mk k n s l).cells = _; rw [Ex.cells_mk]
theorem o_toExp (e : Ex) : e.tot ≤ 1048576 → OCall Tryz.prog 18 [e.av] e.av := by
  induction e using Ex.ind with | h k m s l h =>
  intro ht
  rw [Ex.tot_mk] at ht
  have hl := totL_len Ex.tot l
  exact o_toExp0 k m s l (by omega) (fun x hx => h x hx (by have := totL_mem Ex.tot hx; omega))
set_option maxHeartbeats 2000000 in
theorem o_toStmt0 (k : Int) (s : ByteArray) (c0 c1 : Int) (c2 : ByteArray) (c3 : List Ex) (d0 d1 : Int) (d2 : ByteArray) (d3 : List Ex) (p0 p1 : Int) (p2 : ByteArray) (p3 : List Ex) (q0 q1 : Int) (q2 : ByteArray) (q3 : List Ex) (b : List Sm) (hc : (Ex.mk c0 c1 c2 c3).tot ≤ 1048576) (hd : (Ex.mk d0 d1 d2 d3).tot ≤ 1048576) (hp : (Ex.mk p0 p1 p2 p3).tot ≤ 1048576) (hq : (Ex.mk q0 q1 q2 q3).tot ≤ 1048576) (hl : b.length ≤ 1048576) (h : ∀ x ∈ b, OCall Tryz.prog 208 [x.av] x.av) : OCall Tryz.prog 208 [(Sm.mk k s (Ex.mk c0 c1 c2 c3) (Ex.mk d0 d1 d2 d3) (Ex.mk p0 p1 p2 p3) (Ex.mk q0 q1 q2 q3) b).av] (Sm.mk k s (Ex.mk c0 c1 c2 c3) (Ex.mk d0 d1 d2 d3) (Ex.mk p0 p1 p2 p3) (Ex.mk q0 q1 q2 q3) b).av := by
  have ec := o_toExp _ hc
  rw [Ex.av_mk] at ec
  have ed := o_toExp _ hd
  rw [Ex.av_mk] at ed
  have ep := o_toExp _ hp
  rw [Ex.av_mk] at ep
  have eq := o_toExp _ hq
  rw [Ex.av_mk] at eq
  have hav : (Sm.mk k s (Ex.mk c0 c1 c2 c3) (Ex.mk d0 d1 d2 d3) (Ex.mk p0 p1 p2 p3) (Ex.mk q0 q1 q2 q3) b).av = .agg [.int .i64 k, .str s, .int .i64 c0, .int .i64 c1, .str c2, .lst false 4 (c3.map Ex.av), .int .i64 d0, .int .i64 d1, .str d2, .lst false 4 (d3.map Ex.av), .int .i64 p0, .int .i64 p1, .str p2, .lst false 4 (p3.map Ex.av), .int .i64 q0, .int .i64 q1, .str q2, .lst false 4 (q3.map Ex.av), .lst false 19 (b.map Sm.av)] := by show AV.agg (Sm.mk k s (Ex.mk c0 c1 c2 c3) (Ex.mk d0 d1 d2 d3) (Ex.mk p0 p1 p2 p3) (Ex.mk q0 q1 q2 q3) b).cells = _; simp [Sm.cells_mk, Ex.cells_mk]
  rw [hav]
  refine wcall_of Tryz.func208 (by kernel_rfl) rfl (by simp [Tryz.f208]) ?_
  (repeat refine AWp.seq ?_); refine AWp.region noP (by kernel_rfl) ?_
  simp [set_at]
  intro g1 g2 h2
  have n21 : g2 ≠ g1 := fun e => by simp [e] at h2
  have m12 := n21.symm
  (repeat refine AWp.seq ?_); refine AWp.cutA (fun u => ∃ g3, g3 ≠ g1 ∧ g3 ≠ g2 ∧ u.slots 1 = .ptr g1 0 ∧ u.slots 2 = .ptr g2 0 ∧ u.slots 3 = .ptr g3 0 ∧ Cpy u.mem g1 g2 g3 [.int .i64 k, .str s, .int .i64 c0, .int .i64 c1, .str c2, .lst false 4 (c3.map Ex.av), .int .i64 d0, .int .i64 d1, .str d2, .lst false 4 (d3.map Ex.av), .int .i64 p0, .int .i64 p1, .str p2, .lst false 4 (p3.map Ex.av), .int .i64 q0, .int .i64 q1, .str q2, .lst false 4 (q3.map Ex.av), .lst false 19 (b.map Sm.av)] 19 [.int .i64 0, .str ByteArray.empty, .int .i64 0, .int .i64 0, .str ByteArray.empty, .lst true 0 [], .int .i64 0, .int .i64 0, .str ByteArray.empty, .lst true 0 [], .int .i64 0, .int .i64 0, .str ByteArray.empty, .lst true 0 [], .int .i64 0, .int .i64 0, .str ByteArray.empty, .lst true 0 [], .lst true 0 []] (fun _ => False) [] []) ?_ ?_
  · refine AWp.region noP (by kernel_rfl) ?_
    simp [set_at]
    intro g3 h3
    have n32 : g3 ≠ g2 := fun e => by simp [e] at h3
    have n31 : g3 ≠ g1 := fun e => by simp [e, m12] at h3
    have m23 := n32.symm
    have m13 := n31.symm
    exact ⟨g3, n31, n32, rfl, Cpy.start (c2 := [.int .i64 0, .str ByteArray.empty, .int .i64 0, .int .i64 0, .str ByteArray.empty, .lst true 0 [], .int .i64 0, .int .i64 0, .str ByteArray.empty, .lst true 0 [], .int .i64 0, .int .i64 0, .str ByteArray.empty, .lst true 0 [], .int .i64 0, .int .i64 0, .str ByteArray.empty, .lst true 0 [], .lst true 0 []]) (by simp [set_at, n21, n32, n31, m12, m23, m13]) (by simp [set_at, n21, n32, n31, m12, m23, m13]) rfl (by simp [set_at, n21, n32, n31, m12, m23, m13])⟩
  rintro u ⟨g3, n31, n32, s1, s2, s3, C⟩
  (repeat refine AWp.seq ?_); refine AWp.cutA (fun u => u.slots 1 = .ptr g1 0 ∧ u.slots 2 = .ptr g2 0 ∧ u.slots 3 = .ptr g3 0 ∧ Cpy u.mem g1 g2 g3 [.int .i64 k, .str s, .int .i64 c0, .int .i64 c1, .str c2, .lst false 4 (c3.map Ex.av), .int .i64 d0, .int .i64 d1, .str d2, .lst false 4 (d3.map Ex.av), .int .i64 p0, .int .i64 p1, .str p2, .lst false 4 (p3.map Ex.av), .int .i64 q0, .int .i64 q1, .str q2, .lst false 4 (q3.map Ex.av), .lst false 19 (b.map Sm.av)] 19 [.int .i64 k, .str ByteArray.empty, .int .i64 0, .int .i64 0, .str ByteArray.empty, .lst true 0 [], .int .i64 0, .int .i64 0, .str ByteArray.empty, .lst true 0 [], .int .i64 0, .int .i64 0, .str ByteArray.empty, .lst true 0 [], .int .i64 0, .int .i64 0, .str ByteArray.empty, .lst true 0 [], .lst true 0 []] (fun _ => False) [.int .i64 k] [.int .i64 k]) ?_ ?_
  · refine AWp.region noP (by kernel_rfl) ?_
    simp [s1, s2, s3, C.b1, C.b3]
    simpa using C.leaf n31 n32 (own_int _ _) rfl
  clear C s1 s2 s3
  rintro u ⟨s1, s2, s3, C⟩
  (repeat refine AWp.seq ?_); refine AWp.cutA (fun u => u.slots 1 = .ptr g1 0 ∧ u.slots 2 = .ptr g2 0 ∧ u.slots 3 = .ptr g3 0 ∧ Cpy u.mem g1 g2 g3 [.int .i64 k, .str s, .int .i64 c0, .int .i64 c1, .str c2, .lst false 4 (c3.map Ex.av), .int .i64 d0, .int .i64 d1, .str d2, .lst false 4 (d3.map Ex.av), .int .i64 p0, .int .i64 p1, .str p2, .lst false 4 (p3.map Ex.av), .int .i64 q0, .int .i64 q1, .str q2, .lst false 4 (q3.map Ex.av), .lst false 19 (b.map Sm.av)] 19 [.int .i64 k, .str s, .int .i64 0, .int .i64 0, .str ByteArray.empty, .lst true 0 [], .int .i64 0, .int .i64 0, .str ByteArray.empty, .lst true 0 [], .int .i64 0, .int .i64 0, .str ByteArray.empty, .lst true 0 [], .int .i64 0, .int .i64 0, .str ByteArray.empty, .lst true 0 [], .lst true 0 []] (fun _ => False) [.int .i64 k, .str s] [.int .i64 k, .str s]) ?_ ?_
  · refine AWp.region noP (by kernel_rfl) ?_
    simp [s1, s2, s3, C.b1, C.b3]
    simpa using C.leaf n31 n32 (own_str _) rfl
  clear C s1 s2 s3
  rintro u ⟨s1, s2, s3, C⟩
  (repeat refine AWp.seq ?_); refine AWp.cutA (fun u => ∃ (F : Nat → Prop) (v2_0 v2_1 v2_2 v2_3 : AV), u.slots 1 = .ptr g1 0 ∧ u.slots 2 = .ptr g2 0 ∧ u.slots 3 = .ptr g3 0 ∧ Cpy u.mem g1 g2 g3 [.int .i64 k, .str s, .int .i64 c0, .int .i64 c1, .str c2, .lst false 4 (c3.map Ex.av), .int .i64 d0, .int .i64 d1, .str d2, .lst false 4 (d3.map Ex.av), .int .i64 p0, .int .i64 p1, .str p2, .lst false 4 (p3.map Ex.av), .int .i64 q0, .int .i64 q1, .str q2, .lst false 4 (q3.map Ex.av), .lst false 19 (b.map Sm.av)] 19 [.int .i64 k, .str s, v2_0, v2_1, v2_2, v2_3, .int .i64 0, .int .i64 0, .str ByteArray.empty, .lst true 0 [], .int .i64 0, .int .i64 0, .str ByteArray.empty, .lst true 0 [], .int .i64 0, .int .i64 0, .str ByteArray.empty, .lst true 0 [], .lst true 0 []] F [.int .i64 k, .str s, v2_0, v2_1, v2_2, v2_3] [.int .i64 k, .str s, .int .i64 c0, .int .i64 c1, .str c2, .lst false 4 (c3.map Ex.av)]) ?_ ?_
  · refine AWp.region noP (by kernel_rfl) ?_
    simp [s1, s2, s3, C.b1, C.b3]
    refine aop_wcall _ _ _ _ _ _ _ _ rfl (eval_func _ _) ?_
    refine OCall.w (ec) fun r m' G hE hO hG hGd => ?_
    simp at hE hG
    have b3 := hE _ _ C.b3
    obtain ⟨rs, rfl, hOs, hok⟩ := own_agg hO
    have hlen := hOs.len
    obtain ⟨v2_0, v2_1, v2_2, v2_3, rfl⟩ : ∃ v2_0 v2_1 v2_2 v2_3, rs = [v2_0, v2_1, v2_2, v2_3] := by
      match rs, hlen with
      | [v2_0, v2_1, v2_2, v2_3], _ => exact ⟨_, _, _, _, rfl⟩
    have hok2 := hok
    simp only [List.all_cons, List.all_nil, Bool.and_eq_true, Bool.and_true] at hok2
    simp [s1, s2, s3, b3, hok2]
    exact ⟨_, v2_0, v2_1, v2_2, v2_3, by simpa using C.call n31 n32 hE hOs hok (by simpa using hG) hGd⟩
  clear C s1 s2 s3
  rintro u ⟨F2, v2_0, v2_1, v2_2, v2_3, s1, s2, s3, C⟩
  (repeat refine AWp.seq ?_); refine AWp.cutA (fun u => ∃ (F : Nat → Prop) (v3_0 v3_1 v3_2 v3_3 : AV), u.slots 1 = .ptr g1 0 ∧ u.slots 2 = .ptr g2 0 ∧ u.slots 3 = .ptr g3 0 ∧ Cpy u.mem g1 g2 g3 [.int .i64 k, .str s, .int .i64 c0, .int .i64 c1, .str c2, .lst false 4 (c3.map Ex.av), .int .i64 d0, .int .i64 d1, .str d2, .lst false 4 (d3.map Ex.av), .int .i64 p0, .int .i64 p1, .str p2, .lst false 4 (p3.map Ex.av), .int .i64 q0, .int .i64 q1, .str q2, .lst false 4 (q3.map Ex.av), .lst false 19 (b.map Sm.av)] 19 [.int .i64 k, .str s, v2_0, v2_1, v2_2, v2_3, v3_0, v3_1, v3_2, v3_3, .int .i64 0, .int .i64 0, .str ByteArray.empty, .lst true 0 [], .int .i64 0, .int .i64 0, .str ByteArray.empty, .lst true 0 [], .lst true 0 []] F [.int .i64 k, .str s, v2_0, v2_1, v2_2, v2_3, v3_0, v3_1, v3_2, v3_3] [.int .i64 k, .str s, .int .i64 c0, .int .i64 c1, .str c2, .lst false 4 (c3.map Ex.av), .int .i64 d0, .int .i64 d1, .str d2, .lst false 4 (d3.map Ex.av)]) ?_ ?_
  · refine AWp.region noP (by kernel_rfl) ?_
    simp [s1, s2, s3, C.b1, C.b3]
    refine aop_wcall _ _ _ _ _ _ _ _ rfl (eval_func _ _) ?_
    refine OCall.w (ed) fun r m' G hE hO hG hGd => ?_
    simp at hE hG
    have b3 := hE _ _ C.b3
    obtain ⟨rs, rfl, hOs, hok⟩ := own_agg hO
    have hlen := hOs.len
    obtain ⟨v3_0, v3_1, v3_2, v3_3, rfl⟩ : ∃ v3_0 v3_1 v3_2 v3_3, rs = [v3_0, v3_1, v3_2, v3_3] := by
      match rs, hlen with
      | [v3_0, v3_1, v3_2, v3_3], _ => exact ⟨_, _, _, _, rfl⟩
    have hok2 := hok
    simp only [List.all_cons, List.all_nil, Bool.and_eq_true, Bool.and_true] at hok2
    simp [s1, s2, s3, b3, hok2]
    exact ⟨_, v3_0, v3_1, v3_2, v3_3, by simpa using C.call n31 n32 hE hOs hok (by simpa using hG) hGd⟩
  clear C s1 s2 s3
  rintro u ⟨F3, v3_0, v3_1, v3_2, v3_3, s1, s2, s3, C⟩
  (repeat refine AWp.seq ?_); refine AWp.cutA (fun u => ∃ (F : Nat → Prop) (v4_0 v4_1 v4_2 v4_3 : AV), u.slots 1 = .ptr g1 0 ∧ u.slots 2 = .ptr g2 0 ∧ u.slots 3 = .ptr g3 0 ∧ Cpy u.mem g1 g2 g3 [.int .i64 k, .str s, .int .i64 c0, .int .i64 c1, .str c2, .lst false 4 (c3.map Ex.av), .int .i64 d0, .int .i64 d1, .str d2, .lst false 4 (d3.map Ex.av), .int .i64 p0, .int .i64 p1, .str p2, .lst false 4 (p3.map Ex.av), .int .i64 q0, .int .i64 q1, .str q2, .lst false 4 (q3.map Ex.av), .lst false 19 (b.map Sm.av)] 19 [.int .i64 k, .str s, v2_0, v2_1, v2_2, v2_3, v3_0, v3_1, v3_2, v3_3, v4_0, v4_1, v4_2, v4_3, .int .i64 0, .int .i64 0, .str ByteArray.empty, .lst true 0 [], .lst true 0 []] F [.int .i64 k, .str s, v2_0, v2_1, v2_2, v2_3, v3_0, v3_1, v3_2, v3_3, v4_0, v4_1, v4_2, v4_3] [.int .i64 k, .str s, .int .i64 c0, .int .i64 c1, .str c2, .lst false 4 (c3.map Ex.av), .int .i64 d0, .int .i64 d1, .str d2, .lst false 4 (d3.map Ex.av), .int .i64 p0, .int .i64 p1, .str p2, .lst false 4 (p3.map Ex.av)]) ?_ ?_
  · refine AWp.region noP (by kernel_rfl) ?_
    simp [s1, s2, s3, C.b1, C.b3]
    refine aop_wcall _ _ _ _ _ _ _ _ rfl (eval_func _ _) ?_
    refine OCall.w (ep) fun r m' G hE hO hG hGd => ?_
    simp at hE hG
    have b3 := hE _ _ C.b3
    obtain ⟨rs, rfl, hOs, hok⟩ := own_agg hO
    have hlen := hOs.len
    obtain ⟨v4_0, v4_1, v4_2, v4_3, rfl⟩ : ∃ v4_0 v4_1 v4_2 v4_3, rs = [v4_0, v4_1, v4_2, v4_3] := by
      match rs, hlen with
      | [v4_0, v4_1, v4_2, v4_3], _ => exact ⟨_, _, _, _, rfl⟩
    have hok2 := hok
    simp only [List.all_cons, List.all_nil, Bool.and_eq_true, Bool.and_true] at hok2
    simp [s1, s2, s3, b3, hok2]
    exact ⟨_, v4_0, v4_1, v4_2, v4_3, by simpa using C.call n31 n32 hE hOs hok (by simpa using hG) hGd⟩
  clear C s1 s2 s3
  rintro u ⟨F4, v4_0, v4_1, v4_2, v4_3, s1, s2, s3, C⟩
  (repeat refine AWp.seq ?_); refine AWp.cutA (fun u => ∃ (F : Nat → Prop) (v5_0 v5_1 v5_2 v5_3 : AV), u.slots 1 = .ptr g1 0 ∧ u.slots 2 = .ptr g2 0 ∧ u.slots 3 = .ptr g3 0 ∧ Cpy u.mem g1 g2 g3 [.int .i64 k, .str s, .int .i64 c0, .int .i64 c1, .str c2, .lst false 4 (c3.map Ex.av), .int .i64 d0, .int .i64 d1, .str d2, .lst false 4 (d3.map Ex.av), .int .i64 p0, .int .i64 p1, .str p2, .lst false 4 (p3.map Ex.av), .int .i64 q0, .int .i64 q1, .str q2, .lst false 4 (q3.map Ex.av), .lst false 19 (b.map Sm.av)] 19 [.int .i64 k, .str s, v2_0, v2_1, v2_2, v2_3, v3_0, v3_1, v3_2, v3_3, v4_0, v4_1, v4_2, v4_3, v5_0, v5_1, v5_2, v5_3, .lst true 0 []] F [.int .i64 k, .str s, v2_0, v2_1, v2_2, v2_3, v3_0, v3_1, v3_2, v3_3, v4_0, v4_1, v4_2, v4_3, v5_0, v5_1, v5_2, v5_3] [.int .i64 k, .str s, .int .i64 c0, .int .i64 c1, .str c2, .lst false 4 (c3.map Ex.av), .int .i64 d0, .int .i64 d1, .str d2, .lst false 4 (d3.map Ex.av), .int .i64 p0, .int .i64 p1, .str p2, .lst false 4 (p3.map Ex.av), .int .i64 q0, .int .i64 q1, .str q2, .lst false 4 (q3.map Ex.av)]) ?_ ?_
  · refine AWp.region noP (by kernel_rfl) ?_
    simp [s1, s2, s3, C.b1, C.b3]
    refine aop_wcall _ _ _ _ _ _ _ _ rfl (eval_func _ _) ?_
    refine OCall.w (eq) fun r m' G hE hO hG hGd => ?_
    simp at hE hG
    have b3 := hE _ _ C.b3
    obtain ⟨rs, rfl, hOs, hok⟩ := own_agg hO
    have hlen := hOs.len
    obtain ⟨v5_0, v5_1, v5_2, v5_3, rfl⟩ : ∃ v5_0 v5_1 v5_2 v5_3, rs = [v5_0, v5_1, v5_2, v5_3] := by
      match rs, hlen with
      | [v5_0, v5_1, v5_2, v5_3], _ => exact ⟨_, _, _, _, rfl⟩
    have hok2 := hok
    simp only [List.all_cons, List.all_nil, Bool.and_eq_true, Bool.and_true] at hok2
    simp [s1, s2, s3, b3, hok2]
    exact ⟨_, v5_0, v5_1, v5_2, v5_3, by simpa using C.call n31 n32 hE hOs hok (by simpa using hG) hGd⟩
  clear C s1 s2 s3
  rintro u ⟨F5, v5_0, v5_1, v5_2, v5_3, s1, s2, s3, C⟩
  (repeat refine AWp.seq ?_); refine AWp.cutA (fun u => ∃ (F : Nat → Prop) (v6_0 : AV), u.slots 1 = .ptr g1 0 ∧ u.slots 2 = .ptr g2 0 ∧ u.slots 3 = .ptr g3 0 ∧ Cpy u.mem g1 g2 g3 [.int .i64 k, .str s, .int .i64 c0, .int .i64 c1, .str c2, .lst false 4 (c3.map Ex.av), .int .i64 d0, .int .i64 d1, .str d2, .lst false 4 (d3.map Ex.av), .int .i64 p0, .int .i64 p1, .str p2, .lst false 4 (p3.map Ex.av), .int .i64 q0, .int .i64 q1, .str q2, .lst false 4 (q3.map Ex.av), .lst false 19 (b.map Sm.av)] 19 [.int .i64 k, .str s, v2_0, v2_1, v2_2, v2_3, v3_0, v3_1, v3_2, v3_3, v4_0, v4_1, v4_2, v4_3, v5_0, v5_1, v5_2, v5_3, v6_0] F [.int .i64 k, .str s, v2_0, v2_1, v2_2, v2_3, v3_0, v3_1, v3_2, v3_3, v4_0, v4_1, v4_2, v4_3, v5_0, v5_1, v5_2, v5_3, v6_0] [.int .i64 k, .str s, .int .i64 c0, .int .i64 c1, .str c2, .lst false 4 (c3.map Ex.av), .int .i64 d0, .int .i64 d1, .str d2, .lst false 4 (d3.map Ex.av), .int .i64 p0, .int .i64 p1, .str p2, .lst false 4 (p3.map Ex.av), .int .i64 q0, .int .i64 q1, .str q2, .lst false 4 (q3.map Ex.av), .lst false 19 (b.map Sm.av)]) ?_ ?_
  · refine AWp.region noP (by kernel_rfl) ?_
    simp [s1, s2, s3, C.b1, C.b3]
    refine aop_wcall _ _ _ _ _ _ _ _ rfl (eval_func _ _) ?_
    refine OCall.w (o_toStmtS b hl h) fun r m' G hE hO hG hGd => ?_
    simp at hE hG
    have b3 := hE _ _ C.b3
    have hok := hO.okc
    rcases own_row hO with ⟨f', e', rfl, hnil⟩ | ⟨g, n, c, rfl, hn, _⟩
    all_goals
      simp [s1, s2, s3, b3]
      exact ⟨_, _, by simpa using C.call n31 n32 hE (OwnTs.one hO) (by simp) (by simpa using hG) hGd⟩
  clear C s1 s2 s3
  rintro u ⟨F6, v6_0, s1, s2, s3, C⟩
  obtain ⟨c2, b2, hc2⟩ := C.b2
  have hok := C.ok
  simp only [List.all_cons, List.all_nil, Bool.and_eq_true, Bool.and_true] at hok
  (repeat refine AWp.seq ?_); refine AWp.region noP (by kernel_rfl) ?_
  simp [s1, s2, s3, C.b3, b2, hc2, hok]
  refine AWp.ret (post_cellO (F := F6) (q := .agg [.int .i64 k, .str s, v2_0, v2_1, v2_2, v2_3, v3_0, v3_1, v3_2, v3_3, v4_0, v4_1, v4_2, v4_3, v5_0, v5_1, v5_2, v5_3, v6_0]) (.inl rfl) rfl (by simp [s2, set_at]) ?_)
  simpa [s2] using C.done _
theorem o_toStmt (e : Sm) : e.tot ≤ 1048576 → OCall Tryz.prog 208 [e.av] e.av := by
  induction e using Sm.ind with | h k s a e lo hi b h =>
  intro ht
  rw [Sm.tot_mk] at ht
  have hl := totL_len Sm.tot b
  obtain ⟨c0, c1, c2, c3⟩ := a
  obtain ⟨d0, d1, d2, d3⟩ := e
  obtain ⟨p0, p1, p2, p3⟩ := lo
  obtain ⟨q0, q1, q2, q3⟩ := hi
  exact o_toStmt0 k s _ _ _ _ _ _ _ _ _ _ _ _ _ _ _ _ b (by omega) (by omega) (by omega) (by omega) (by omega) (fun x hx => h x hx (by have := totL_mem Sm.tot hx; omega))
theorem o_toProg0 (p : Pg) (ht : p.tot ≤ 1048576) : OCall Tryz.prog 16 [p.av] p.av := by
  have h1 := totL_len Ar.tot p.arrs
  have h2 := totL_len Sm.tot p.body
  have h3 : p.tot = totL Ar.tot p.arrs + totL Sm.tot p.body := rfl
  unfold Pg.av Pg.cells
  refine wcall_of Tryz.func16 (by kernel_rfl) rfl (by simp [Tryz.f16]) ?_
  (repeat refine AWp.seq ?_); refine AWp.region noP (by kernel_rfl) ?_
  simp [set_at]
  intro g1 g2 h2
  have n21 : g2 ≠ g1 := fun e => by simp [e] at h2
  have m12 := n21.symm
  (repeat refine AWp.seq ?_); refine AWp.cutA (fun u => ∃ g3, g3 ≠ g1 ∧ g3 ≠ g2 ∧ u.slots 1 = .ptr g1 0 ∧ u.slots 2 = .ptr g2 0 ∧ u.slots 3 = .ptr g3 0 ∧ Cpy u.mem g1 g2 g3 [.lst false 2 (p.arrs.map Ar.av), .lst false 19 (p.body.map Sm.av)] 2 [.lst true 0 [], .lst true 0 []] (fun _ => False) [] []) ?_ ?_
  · refine AWp.region noP (by kernel_rfl) ?_
    simp [set_at]
    intro g3 h3
    have n32 : g3 ≠ g2 := fun e => by simp [e] at h3
    have n31 : g3 ≠ g1 := fun e => by simp [e, m12] at h3
    have m23 := n32.symm
    have m13 := n31.symm
    exact ⟨g3, n31, n32, rfl, Cpy.start (c2 := [.lst true 0 [], .lst true 0 []]) (by simp [set_at, n21, n32, n31, m12, m23, m13]) (by simp [set_at, n21, n32, n31, m12, m23, m13]) rfl (by simp [set_at, n21, n32, n31, m12, m23, m13])⟩
  rintro u ⟨g3, n31, n32, s1, s2, s3, C⟩
  (repeat refine AWp.seq ?_); refine AWp.cutA (fun u => ∃ (F : Nat → Prop) (v0_0 : AV), u.slots 1 = .ptr g1 0 ∧ u.slots 2 = .ptr g2 0 ∧ u.slots 3 = .ptr g3 0 ∧ Cpy u.mem g1 g2 g3 [.lst false 2 (p.arrs.map Ar.av), .lst false 19 (p.body.map Sm.av)] 2 [v0_0, .lst true 0 []] F [v0_0] [.lst false 2 (p.arrs.map Ar.av)]) ?_ ?_
  · refine AWp.region noP (by kernel_rfl) ?_
    simp [s1, s2, s3, C.b1, C.b3]
    refine aop_wcall _ _ _ _ _ _ _ _ rfl (eval_func _ _) ?_
    refine OCall.w (o_toArrS p.arrs (by omega) (fun x _ => o_toArr0 x)) fun r m' G hE hO hG hGd => ?_
    simp at hE hG
    have b3 := hE _ _ C.b3
    have hok := hO.okc
    rcases own_row hO with ⟨f', e', rfl, hnil⟩ | ⟨g, n, c, rfl, hn, _⟩
    all_goals
      simp [s1, s2, s3, b3]
      exact ⟨_, _, by simpa using C.call n31 n32 hE (OwnTs.one hO) (by simp) (by simpa using hG) hGd⟩
  clear C s1 s2 s3
  rintro u ⟨F0, v0_0, s1, s2, s3, C⟩
  (repeat refine AWp.seq ?_); refine AWp.cutA (fun u => ∃ (F : Nat → Prop) (v1_0 : AV), u.slots 1 = .ptr g1 0 ∧ u.slots 2 = .ptr g2 0 ∧ u.slots 3 = .ptr g3 0 ∧ Cpy u.mem g1 g2 g3 [.lst false 2 (p.arrs.map Ar.av), .lst false 19 (p.body.map Sm.av)] 2 [v0_0, v1_0] F [v0_0, v1_0] [.lst false 2 (p.arrs.map Ar.av), .lst false 19 (p.body.map Sm.av)]) ?_ ?_
  · refine AWp.region noP (by kernel_rfl) ?_
    simp [s1, s2, s3, C.b1, C.b3]
    refine aop_wcall _ _ _ _ _ _ _ _ rfl (eval_func _ _) ?_
    refine OCall.w (o_toStmtS p.body (by omega) (fun x hx => o_toStmt x (by have := totL_mem Sm.tot hx; omega))) fun r m' G hE hO hG hGd => ?_
    simp at hE hG
    have b3 := hE _ _ C.b3
    have hok := hO.okc
    rcases own_row hO with ⟨f', e', rfl, hnil⟩ | ⟨g, n, c, rfl, hn, _⟩
    all_goals
      simp [s1, s2, s3, b3]
      exact ⟨_, _, by simpa using C.call n31 n32 hE (OwnTs.one hO) (by simp) (by simpa using hG) hGd⟩
  clear C s1 s2 s3
  rintro u ⟨F1, v1_0, s1, s2, s3, C⟩
  obtain ⟨c2, b2, hc2⟩ := C.b2
  have hok := C.ok
  simp only [List.all_cons, List.all_nil, Bool.and_eq_true, Bool.and_true] at hok
  (repeat refine AWp.seq ?_); refine AWp.region noP (by kernel_rfl) ?_
  simp [s1, s2, s3, C.b3, b2, hc2, hok]
  refine AWp.ret (post_cellO (F := F1) (q := .agg [v0_0, v1_0]) (.inl rfl) rfl (by simp [s2, set_at]) ?_)
  simpa [s2] using C.done _
end Go.T
namespace Go.T
open Go Go.Proofs
set_option maxRecDepth 10000
set_option maxHeartbeats 1000000
set_option linter.unusedSimpArgs false
set_option linter.unusedVariables false
theorem mk_Exp (e : Ex) : MarkC Tryz.prog 26 Ex.av (fun x k k' => Held (x.l.map Ex.av) k k') e (AV.cnts (e.l.map Ex.av)) := by
  intro m F v h k h0 hb K hK
  unfold BIG at hb
  obtain ⟨G, hG, hGF, hGd⟩ := h.dom
  rcases e with ⟨ek, en, es, el⟩
  simp only [Ex.l] at hb hK
  rw [Ex.av_mk] at hG
  obtain ⟨cs, rfl, hT, hok⟩ := own_agg hG
  obtain ⟨a0, a1, a2, a3, rfl⟩ : ∃ a0 a1 a2 a3, cs = [a0, a1, a2, a3] := by
    match cs, hT.len with
    | [a0, a1, a2, a3], _ => exact ⟨_, _, _, _, rfl⟩
  have hok2 := hok
  simp only [List.all_cons, List.all_nil, Bool.and_eq_true, Bool.and_true] at hok2
  refine wcall_of Tryz.func26 (by kernel_rfl) rfl (by simp [Tryz.f26]) ?_
  (repeat refine AWp.seq ?_); refine AWp.region noP (by kernel_rfl) ?_
  simp
  intro g1 h1
  have f1 : ¬ G g1 := fun hg => hGd g1 hg h1
  have b1 := set_same m g1 (.box [a0, a1, a2, a3])
  have o1 : ∀ b x, m b = some x → (m.set g1 (.box [a0, a1, a2, a3])) b = some x := fun b x hx => ext_set h1 _ b x hx
  replace hT := hT.mem (m' := m.set g1 (.box [a0, a1, a2, a3])) fun b hb => by rw [set_at, if_neg]; rintro rfl; exact f1 hb
  generalize m.set g1 (.box [a0, a1, a2, a3]) = m0 at *
  obtain ⟨A, x, hxo, hown, hsub, hupd⟩ := hT.call (o := 3) (by simp)
  obtain rfl := (Option.some.inj hxo)
  simp only [List.getElem_cons_succ, List.getElem_cons_zero] at hown hupd
  (repeat refine AWp.seq ?_); refine AWp.region noP (by kernel_rfl) ?_
  simp [b1]
  refine aop_wcall _ _ _ _ _ _ _ _ rfl (eval_func _ _) ?_
  refine (c_markExpS el) _ _ _ _ hown k (by omega) (by omega) _ fun m1 l' hout ho hh => ?_
  simp
  have hT := hupd m1 _ hout ho
  simp only [List.set_cons_zero, List.set_cons_succ] at hT
  (repeat refine AWp.seq ?_); refine AWp.region noP (by kernel_rfl) ?_
  simp
  refine AWp.ret (post_retW rfl ⟨_, _, View.refl _ _, ?_⟩)
  simp
  refine hK _ (Ex.mk ek en es l') (fun b x hF hx => ?_) (by rw [Ex.av_mk]; exact (OwnT.agg hT hok).up hGF) hh
  rw [hout b (fun hg => hF (hGF b (hsub b hg)))]
  exact o1 b x hx
def Sm.HeldP (x : Sm) (k k' : Int) : Prop := ∃ k1 k2 k3 k4, Held (x.a.l.map Ex.av) k k1 ∧ Held (x.e.l.map Ex.av) k1 k2 ∧ Held (x.lo.l.map Ex.av) k2 k3 ∧ Held (x.hi.l.map Ex.av) k3 k4 ∧ Held (x.body.map Sm.av) k4 k'
def Sm.cntP (x : Sm) : Nat := AV.cnts (x.a.l.map Ex.av) + (AV.cnts (x.e.l.map Ex.av) + (AV.cnts (x.lo.l.map Ex.av) + (AV.cnts (x.hi.l.map Ex.av) + AV.cnts (x.body.map Sm.av))))
end Go.T
namespace Go.T
open Go Go.Proofs
set_option maxRecDepth 10000
set_option maxHeartbeats 1000000
set_option linter.unusedSimpArgs false
set_option linter.unusedVariables false
end Go.T
namespace Go.T
open Go Go.Proofs
set_option maxRecDepth 10000
set_option maxHeartbeats 1000000
set_option linter.unusedSimpArgs false
set_option linter.unusedVariables false
/-- What marking rows of these comes to. -/
def MkString (l : List ByteArray) : Prop := ∀ (m : Mem) (F : Nat → Prop) (v : AV) (f : Bool) (h : OwnT m F v (.lst f 1 (l.map AV.str))) (k : Int) (h0 : 0 < k) (hb : k + (AV.cnts (l.map AV.str) : Int) ≤ 4611686018427387904) (K : AV → Mem → Prop)
    (hK : ∀ m' (l' : List ByteArray), (∀ b, ¬ F b → m' b = m b) → OwnT m' F v (.lst false 1 (l'.map AV.str)) → Held (l'.map AV.str) k (k + (AV.cnts (l.map AV.str) : Int)) → K (.int .i64 (k + (AV.cnts (l.map AV.str) : Int))) m'), WCall Tryz.prog 25 [v, .int .i64 k] m K
theorem c_markStringS (l : List ByteArray) : MkString l := by
  intro m F v f h k h0 hb K hK
  refine wcall_of Tryz.func25 (by kernel_rfl) rfl (by simp [Tryz.f25]) ?_
  rcases own_row h with ⟨f', e', rfl, hnil⟩ | ⟨g, n, c, rfl, hn, rfl⟩
  · have hl : l = [] := by simpa using hnil
    subst hl
    (repeat refine AWp.seq ?_); refine AWp.region noP (by kernel_rfl) ?_
    try simp
    (repeat refine AWp.seq ?_); refine AWp.region noP (by kernel_rfl) ?_
    try simp
    (repeat refine AWp.seq ?_); refine AWp.block (AWp.rounds (fun q st => q = 0 ∧ st.slots 0 = .lst f' e' [] ∧ st.slots 1 = .int .i64 k ∧ st.slots 5 = .int .i64 0 ∧ st.mem = m) 0 ⟨rfl, by simp, by simp, by simp, by simp⟩ ?_)
    rintro R q st hR ⟨rfl, s0, s1, s5, sm⟩
    (repeat refine AWp.seq ?_); refine AWp.region noP (by kernel_rfl) ?_
    simp [s0, s5]
    (repeat refine AWp.seq ?_); refine AWp.condF (by simp) ?_
    refine AWp.exit ?_
    try simp
    (repeat refine AWp.seq ?_); refine AWp.region noP (by kernel_rfl) ?_
    simp [s1]
    refine AWp.ret (post_retW rfl ⟨_, _, View.refl _ _, ?_⟩)
    have := hK m [] (fun _ _ => rfl) (.nil _ _ _) (by simpa [AV.cnts] using Held.nil k)
    simpa [AV.cnts, sm] using this
  obtain ⟨T, G, ys, hM, hy, hx⟩ := Marking.start h
  have hlen : l.length = n := by simpa using hx
  have hcl := cnts_len (f := AV.str) (fun x => by simp [AV.cnt]) l
  (repeat refine AWp.seq ?_); refine AWp.region noP (by kernel_rfl) ?_
  try simp
  (repeat refine AWp.seq ?_); refine AWp.region noP (by kernel_rfl) ?_
  try simp
  (repeat refine AWp.seq ?_); refine AWp.block (AWp.rounds (fun q st => ∃ (i : Nat) (ys : List AV) (ki : Int) (done : List ByteArray), q = n - i ∧ i ≤ n ∧ done.length = i ∧ ys.length = n ∧ st.slots 0 = .own g n c ∧ st.slots 1 = .int .i64 ki ∧ st.slots 5 = .int .i64 i ∧ Held (done.map AV.str) k ki ∧ k ≤ ki ∧ ki + (AV.cnts ((l.drop i).map AV.str) : Int) = k + (AV.cnts (l.map AV.str) : Int) ∧ Marking st.mem m F g T 1 c G ys ((done ++ l.drop i).map AV.str)) n ⟨0, ys, k, [], by simp, by simp, rfl, hy, by simp, by simp, by simp, .nil k, by omega, by simp, by simpa using hM⟩ ?_)
  clear hM hy ys
  rintro R q st hR ⟨i, ys, ki, done, rfl, hi, hdl, hy, s0, s1, s5, hH, hki, hcnt, hM⟩
  (repeat refine AWp.seq ?_); refine AWp.region noP (by kernel_rfl) ?_
  simp [s0, s5]
  (repeat refine AWp.seq ?_); refine AWp.cond (b := decide (i < n)) (by simp) (fun hlt => ?_) (fun hlt => ?_)
  rotate_left
  · simp at hlt
    have hin : i = n := by omega
    subst hin
    refine AWp.exit ?_
    try simp
    (repeat refine AWp.seq ?_); refine AWp.region noP (by kernel_rfl) ?_
    simp [s1]
    rw [List.drop_eq_nil_of_le (by omega)] at hcnt hM
    rw [List.append_nil] at hM
    have hke : ki = k + (AV.cnts (l.map AV.str) : Int) := by simpa [AV.cnts] using hcnt
    subst hke
    refine AWp.ret (post_retW rfl ⟨_, _, View.refl _ _, ?_⟩)
    simp
    exact hK _ done hM.out (hM.done hy) hH
  simp at hlt
  have hil : i < l.length := by omega
  have hdr : l.drop i = l[i] :: l.drop (i + 1) := List.drop_eq_getElem_cons hil
  have hmem := List.getElem_mem hil
  have hwi : IntKind.wrap .i64 ((i : Int) + 1) = (i + 1 : Nat) := wrap64 (by omega) (by omega)
  rw [hdr] at hcnt hM
  simp only [List.map_cons, AV.cnts, AV.cnt] at hcnt
  refine AWp.skip ?_
  try simp
  (repeat refine AWp.seq ?_); refine AWp.block ?_
  have hg := hM.row
  have hx : idxA Tryz.prog st.mem 26 (.own g n c) (.int .i64 i) = some (.elt g 1 i 0) := idx_own es_26 hg hy hlt
  have hst : storeA st.mem (.elt g 1 i 0) (AV.str <| markT ki) = some _ := store_elt hg (by omega) rfl
  have hM2 := hM.leaf (i := i) (x := AV.str <| markT ki) (own_str _)
  rw [set_done AV.str done _ (markT ki) _ hdl] at hM2
  (repeat refine AWp.seq ?_); refine AWp.region noP (by kernel_rfl) ?_
  simp [s1]
  refine aop_call' (c_markText ki (by omega) (by omega)) ?_
  simp [s0, s1, s5, hx, hst]
  have hw : IntKind.wrap .i64 (ki + 1) = ki + 1 := wrap64 (by omega) (by omega)
  (repeat refine AWp.seq ?_); refine AWp.region noP (by kernel_rfl) ?_
  simp [s1, hw]
  (repeat refine AWp.seq ?_); refine AWp.region noP (by kernel_rfl) ?_
  simp [s5, hwi]
  refine hR _ (n - (i + 1)) (by omega) ⟨i + 1, _, ki + 1, done ++ [(markT ki)], rfl, by omega, by simp [hdl], ?_, by simp [s0], by simp, by simp, ?_, by omega, by omega, by simpa using hM2⟩
  · simp [hy]
  · rw [List.map_append]
    exact hH.append (.str (.nil _))
theorem c_eqStringS_ (l : List ByteArray) (hl : l.length ≤ 1099511627776) : PCall Tryz.prog 22 [.lst false 1 (l.map AV.str), .lst false 1 (l.map AV.str)] (.bool true) := by
  refine pcall_of Tryz.func22 (by kernel_rfl) rfl (by simp [Tryz.f22]) ?_
  (repeat refine AWp.seq ?_); refine AWp.region noP (by kernel_rfl) ?_
  simp
  (repeat refine AWp.seq ?_); refine AWp.region noP (by kernel_rfl) ?_
  simp
  refine AWp.cond (b := false) (by simp) (fun h => by cases h) (fun _ => ?_)
  refine AWp.skip ?_
  simp
  (repeat refine AWp.seq ?_); refine AWp.region noP (by kernel_rfl) ?_
  simp
  (repeat refine AWp.seq ?_); refine AWp.block (AWp.rounds (fun m st => ∃ (i : Nat), m = l.length - i ∧ i ≤ l.length ∧ st.slots 0 = .lst false 1 (l.map AV.str) ∧ st.slots 1 = .lst false 1 (l.map AV.str) ∧ st.slots 5 = .int .i64 i) l.length ⟨0, by simp, by simp, by simp, by simp, by simp⟩ ?_)
  rintro R m st hR ⟨i, rfl, hi, s0, s1, s5⟩
  (repeat refine AWp.seq ?_); refine AWp.region noP (by kernel_rfl) ?_
  simp [s0, s5]
  refine AWp.cond (b := decide (i < l.length)) (by simp) (fun hb => ?_) (fun hb => ?_)
  · simp at hb
    have hq : l[i]? = some l[i] := List.getElem?_eq_getElem hb
    refine AWp.skip ?_
    simp
    (repeat refine AWp.seq ?_); refine AWp.block ?_; (repeat refine AWp.seq ?_); refine AWp.regionG (fun _ => true) (fun _ => false) [0, 1, 2, 3, 4, 5, 6, 7, 8] [0, 1, 2, 3, 4, 5, 6, 7, 8] (by kernel_rfl) ?_
    have hx1 : idxA Tryz.prog st.mem 26 (.lst false 1 (l.map AV.str)) (.int .i64 i) = some (.ref [AV.str l[i]]) := idx (y := AV.str l[i]) es_26 (by simp [hq])
    simp [s0, s1, s5, hx1]
    refine AWp.cond (b := false) (by simp) (fun h => by cases h) (fun _ => ?_)
    refine AWp.skip ?_
    simp
    (repeat refine AWp.seq ?_); refine AWp.region noP (by kernel_rfl) ?_
    have hw : IntKind.wrap .i64 ((i : Int) + 1) = (i + 1 : Nat) := wrap64 (by omega) (by omega)
    simp [s5, hw]
    exact hR _ (l.length - (i + 1)) (by omega) ⟨i + 1, rfl, hb, by simp [s0], by simp [s1], by simp⟩
  · simp at hb
    refine AWp.exit ?_
    simp
    (repeat refine AWp.seq ?_); refine AWp.region noP (by kernel_rfl) ?_
    simp
    exact AWp.ret (post_ret1 rfl (by simp))
theorem mk_StringS (l : List ByteArray) : MarkC Tryz.prog 25 strs (fun x k k' => Held (x.map AV.str) k k') l (AV.cnts (l.map AV.str)) := fun m F v h k h0 hb K hK =>
  c_markStringS l m F v false h k h0 hb K fun m' l' ho hO hH => hK m' l' (fun b y hb hy => by rw [ho b hb]; exact hy) hO hH
end Go.T
namespace Go.T
open Go Go.Proofs
set_option maxRecDepth 10000
set_option maxHeartbeats 1000000
set_option linter.unusedSimpArgs false
set_option linter.unusedVariables false
theorem c_markProg (p : Pg) {m : Mem} {F : Nat → Prop} {v : AV} (h : OwnT m F v p.av) (k : Int) (h0 : 0 < k) (hb : k + (AV.cnts (p.arrs.map Ar.av) : Int) + (AV.cnts (p.body.map Sm.av) : Int) ≤ 4611686018427387904) {K : AV → Mem → Prop}
    (hK : ∀ m' (l0 : List Ar) (l1 : List Sm), (∀ b x, ¬ F b → m b = some x → m' b = some x) → OwnT m' F v (Pg.av (Pg.mk l0 l1)) → Held [.lst false 2 (l0.map Ar.av), .lst false 19 (l1.map Sm.av)] k (k + (AV.cnts (p.arrs.map Ar.av) : Int) + (AV.cnts (p.body.map Sm.av) : Int)) → K (.int .i64 (k + (AV.cnts (p.arrs.map Ar.av) : Int) + (AV.cnts (p.body.map Sm.av) : Int))) m') : WCall Tryz.prog 24 [v, .int .i64 k] m K := by
  obtain ⟨G, hG, hGF, hGd⟩ := h.dom
  unfold Pg.av Pg.cells at hG
  obtain ⟨cs0, rfl, hT, hok⟩ := own_agg hG
  obtain ⟨a0, a1, rfl⟩ : ∃ a0 a1, cs0 = [a0, a1] := by
    match cs0, hT.len with
    | [a0, a1], _ => exact ⟨_, _, rfl⟩
  have hok2 := hok
  simp only [List.all_cons, List.all_nil, Bool.and_eq_true, Bool.and_true] at hok2
  refine wcall_of Tryz.func24 (by kernel_rfl) rfl (by simp [Tryz.f24]) ?_
  (repeat refine AWp.seq ?_); refine AWp.region noP (by kernel_rfl) ?_
  simp
  intro g1 h1
  have f1 : ¬ G g1 := fun hg => hGd g1 hg h1
  have b1 := set_same m g1 (.box [a0, a1])
  have o1 : ∀ b x, m b = some x → (m.set g1 (.box [a0, a1])) b = some x := fun b x hx => by rw [set_at, if_neg]; exact hx; rintro rfl; rw [h1] at hx; cases hx
  replace hT := hT.mem (m' := m.set g1 (.box [a0, a1])) fun b hb => by rw [set_at, if_neg]; rintro rfl; exact f1 hb
  generalize m.set g1 (.box [a0, a1]) = m0 at *
  obtain ⟨A0, x0, hxo0, hown0, hsub0, hupd0⟩ := hT.call (o := 0) (by simp)
  obtain rfl := (Option.some.inj hxo0)
  simp only [List.getElem_cons_succ, List.getElem_cons_zero] at hown0 hupd0
  (repeat refine AWp.seq ?_); refine AWp.region noP (by kernel_rfl) ?_
  simp [b1]
  refine aop_wcall _ _ _ _ _ _ _ _ rfl (eval_func _ _) ?_
  refine (c_markArrS0 p.arrs) _ _ _ _ hown0 (k) (by omega) (by omega) _ fun m1 l0 hout0 ho0 hh0 => ?_
  simp
  have hT := hupd0 m1 _ hout0 ho0
  simp only [List.set_cons_zero, List.set_cons_succ] at hT
  have b1 := (hout0 g1 (fun hg => f1 (hsub0 _ hg))).trans b1
  obtain ⟨A1, x1, hxo1, hown1, hsub1, hupd1⟩ := hT.call (o := 1) (by simp)
  obtain rfl := (Option.some.inj hxo1)
  simp only [List.getElem_cons_succ, List.getElem_cons_zero] at hown1 hupd1
  (repeat refine AWp.seq ?_); refine AWp.region noP (by kernel_rfl) ?_
  simp [b1]
  refine aop_wcall _ _ _ _ _ _ _ _ rfl (eval_func _ _) ?_
  refine (c_markStmtS p.body) _ _ _ _ hown1 (k + (AV.cnts (p.arrs.map Ar.av) : Int)) (by omega) (by omega) _ fun m2 l1 hout1 ho1 hh1 => ?_
  simp
  have hT := hupd1 m2 _ hout1 ho1
  simp only [List.set_cons_zero, List.set_cons_succ] at hT
  have b1 := (hout1 g1 (fun hg => f1 (hsub1 _ hg))).trans b1
  (repeat refine AWp.seq ?_); refine AWp.region noP (by kernel_rfl) ?_
  simp
  refine AWp.ret (post_retW rfl ⟨_, _, View.refl _ _, ?_⟩)
  simp
  refine hK _ l0 l1 (fun b x hF hx => ?_) ((OwnT.agg hT hok).up hGF) (.lst hh0 (.lst hh1 (.nil _)))
  have := o1 b x hx
  simp only [hout1 b (fun hg => hF (hGF b (hsub1 b hg))), hout0 b (fun hg => hF (hGF b (hsub0 b hg))), this]
end Go.T
namespace Go.T
open Go Go.Proofs
set_option maxRecDepth 10000
set_option maxHeartbeats 1000000
set_option linter.unusedSimpArgs false
set_option linter.unusedVariables false
end Go.T
namespace Go.T
open Go Go.Proofs
set_option maxRecDepth 10000
set_option maxHeartbeats 1000000
set_option linter.unusedSimpArgs false
set_option linter.unusedVariables false
theorem cnts_tot {α : Type} {f : α → AV} {t : α → Nat} {C : Nat} (l : List α) (h : ∀ x ∈ l, (f x).cnt ≤ C + C * t x) : AV.cnts (l.map f) ≤ C * totL t l := by
  induction l with
  | nil => simp [AV.cnts]
  | cons x l ih =>
    have h1 := h x (List.mem_cons_self ..)
    have h2 := ih fun y hy => h y (List.mem_cons_of_mem _ hy)
    simp only [List.map_cons, AV.cnts, totL, Nat.mul_add, Nat.mul_one]
    omega
theorem Ex.mcnt_le (e : Ex) : e.av.cnt ≤ 3 + 3 * e.tot := by
  induction e using Ex.ind with | h k n s l h =>
  have := cnts_tot l h
  rw [Ex.tot_mk, Ex.av_mk]
  simp only [AV.cnt, AV.cnts]
  omega
theorem Sm.mcnt_le (e : Sm) : e.av.cnt ≤ 14 + 14 * e.tot := by
  induction e using Sm.ind with | h k s a e lo hi b h =>
  have hb := cnts_tot b h
  have ha := a.mcnt_le
  have he := e.mcnt_le
  have hl := lo.mcnt_le
  have hh := hi.mcnt_le
  have ca : AV.cnts a.cells = a.av.cnt := rfl
  have ce : AV.cnts e.cells = e.av.cnt := rfl
  have cl : AV.cnts lo.cells = lo.av.cnt := rfl
  have ch : AV.cnts hi.cells = hi.av.cnt := rfl
  rw [Sm.tot_mk]
  have hcs : (Sm.mk k s a e lo hi b).av.cnt = AV.cnts (Sm.mk k s a e lo hi b).cells := rfl
  rw [hcs, Sm.cells_mk]
  simp only [AV.cnts, AV.cnt, cnts_append]
  omega
theorem Pg.cnts_le (p : Pg) (ht : p.tot ≤ 1048576) : AV.cnts (p.arrs.map Ar.av) ≤ 2097152 ∧ AV.cnts (p.body.map Sm.av) ≤ 14680064 := by
  have h3 : p.tot = totL Ar.tot p.arrs + totL Sm.tot p.body := rfl
  have h1 := cnts_tot (C := 2) (f := Ar.av) (t := Ar.tot) p.arrs (fun x _ => by obtain ⟨s, n⟩ := x; simp [Ar.av, Ar.cells, AV.cnt, AV.cnts]; try omega)
  have h2 := cnts_tot (C := 14) (f := Sm.av) (t := Sm.tot) p.body (fun x _ => x.mcnt_le)
  omega
end Go.T
namespace Go.T
open Go Go.Proofs
set_option maxRecDepth 10000
set_option maxHeartbeats 1000000
set_option linter.unusedSimpArgs false
set_option linter.unusedVariables false
theorem c_szStringS (l : List ByteArray) (hf : l.length ≤ most) (hs : ∀ x ∈ l, x.size ≤ most) (n : Int) (h0 : 0 ≤ n) (h1 : n ≤ 1048576) :
    PCall Tryz.prog 13 [.lst false 1 (l.map AV.str), .int .i64 n] (.int .i64 (szr (totL ByteArray.size l) n)) := by
  refine pcall_of Tryz.func13 (by kernel_rfl) rfl (by simp [Tryz.f13]) ?_
  unfold most at hf hs
  (repeat refine AWp.seq ?_); refine AWp.region noP (by kernel_rfl) ?_
  try simp
  have hw : IntKind.wrap .i64 (n - (l.length : Int)) = n - l.length := wrap64 (by omega) (by omega)
  (repeat refine AWp.seq ?_); refine AWp.region noP (by kernel_rfl) ?_
  simp [hw]
  (repeat refine AWp.seq ?_); refine AWp.region noP (by kernel_rfl) ?_
  try simp
  have ht := totL_sum ByteArray.size l
  refine AWp.cond (b := decide (n - (l.length : Int) < 0)) (by simp) (fun hb => ?_) (fun hb => ?_)
  · (repeat refine AWp.seq ?_); refine AWp.region noP (by kernel_rfl) ?_
    simp
    simp at hb
    exact AWp.ret (post_ret1 rfl (by simp; rw [szr_neg (by omega)]))
  simp at hb
  refine AWp.skip ?_
  try simp
  (repeat refine AWp.seq ?_); refine AWp.region noP (by kernel_rfl) ?_
  try simp
  (repeat refine AWp.seq ?_); refine AWp.block (AWp.rounds (fun m st => ∃ (i : Nat) (q : Int), m = l.length - i ∧ i ≤ l.length ∧ st.slots 0 = .lst false 1 (l.map AV.str) ∧ st.slots 1 = .int .i64 q ∧ st.slots 5 = .int .i64 i ∧ 0 ≤ q ∧ q ≤ 1048576 ∧ szr (totL ByteArray.size l) n = szr (sumL ByteArray.size (l.drop i)) q) l.length ⟨0, n - l.length, by simp, by simp, by simp, by simp, by simp, by omega, by omega, by
    rw [ht, szr_add, szr_pos (show ((l.length : Nat) : Int) ≤ n by omega), if_neg (by omega)]; rfl⟩ ?_)
  rintro R m st hR ⟨i, q, rfl, hi, s0, s1, s5, hq0, hq1, hr⟩
  (repeat refine AWp.seq ?_); refine AWp.region noP (by kernel_rfl) ?_
  simp [s0, s5]
  refine AWp.cond (b := decide (i < l.length)) (by simp) (fun hb => ?_) (fun hb => ?_)
  · simp at hb
    have hg : l[i]? = some l[i] := List.getElem?_eq_getElem hb
    have hd : l.drop i = l[i] :: l.drop (i + 1) := List.drop_eq_getElem_cons hb
    have hsz := hs l[i] (List.getElem_mem _)
    refine AWp.skip ?_
    try simp
    (repeat refine AWp.seq ?_); refine AWp.block ?_; (repeat refine AWp.seq ?_); refine AWp.region noP (by kernel_rfl) ?_
    have hx : idxA Tryz.prog st.mem 26 (.lst false 1 (l.map AV.str)) (.int .i64 i) = some (.ref [.str l[i]]) := idx (y := .str l[i]) es_26 (by simp [hg])
    have hw3 : IntKind.wrap .i64 (q - (l[i].size : Int)) = q - l[i].size := wrap64 (by omega) (by omega)
    simp [s0, s1, s5, hx, hw3]
    have hz : szr (totL ByteArray.size l) n = if szr l[i].size q < 0 then -1 else szr (sumL ByteArray.size (l.drop (i + 1))) (szr l[i].size q) := by rw [hr, hd, sumL, szr_add]
    (repeat refine AWp.seq ?_); refine AWp.region noP (by kernel_rfl) ?_
    try simp
    refine AWp.cond (b := decide (q - (l[i].size : Int) < 0)) (by simp) (fun he => ?_) (fun he => ?_)
    · simp at he
      have he2 : szr l[i].size q = -1 := szr_neg (by omega)
      (repeat refine AWp.seq ?_); refine AWp.region noP (by kernel_rfl) ?_
      simp
      exact AWp.ret (post_ret1 rfl (by simp; rw [hz, he2, if_pos (by omega)]))
    · simp at he
      have he2 : szr l[i].size q = q - l[i].size := szr_pos (by omega)
      refine AWp.skip ?_
      try simp
      refine AWp.region noP (by kernel_rfl) ?_
      have hw : IntKind.wrap .i64 ((i : Int) + 1) = (i + 1 : Nat) := wrap64 (by omega) (by omega)
      simp [s0, s1, s5, hw]
      refine hR _ (l.length - (i + 1)) (by omega) ⟨i + 1, q - l[i].size, rfl, hb, by simp [s0], by simp, by simp, by omega, by omega, ?_⟩
      rw [hz, he2, if_neg (by omega)]
  · simp at hb
    refine AWp.exit ?_
    try simp
    (repeat refine AWp.seq ?_); refine AWp.region noP (by kernel_rfl) ?_
    simp [s1]
    have : i = l.length := by omega
    subst this
    refine AWp.ret (post_ret1 rfl ?_)
    simp [hr, sumL]
    rw [szr_pos (by omega)]; simp
theorem o_toStringS (l : List ByteArray) (hl : l.length ≤ 1048576) : OCall Tryz.prog 17 [.lst false 1 (l.map AV.str)] (.lst false 1 (l.map AV.str)) := by
  refine wcall_of Tryz.func17 (by kernel_rfl) rfl (by simp [Tryz.f17]) ?_
  (repeat refine AWp.seq ?_); refine AWp.region noP (by kernel_rfl) ?_
  try simp
  (repeat refine AWp.seq ?_); refine AWp.region noP (by kernel_rfl) ?_
  try simp
  refine ⟨by omega, by omega, fun g => ?_⟩
  (repeat refine AWp.seq ?_); refine AWp.region noP (by kernel_rfl) ?_
  try simp
  (repeat refine AWp.seq ?_); refine AWp.block (AWp.rounds (fun m st => ∃ (i : Nat) (ys : List AV) (F : Nat → Prop), m = l.length - i ∧ i ≤ l.length ∧ st.slots 0 = .lst false 1 (l.map AV.str) ∧ st.slots 3 = .own g l.length l.length ∧ st.slots 4 = .int .i64 i ∧ Fil st.mem g 9 1 l.length i ys F ((l.map AV.str).take i) ∧ ys.length = l.length) l.length ⟨0, _, fun _ => False, by simp, by simp, by simp, by simp, by simp, ⟨by simp [set_at]; rfl, by simpa using OwnTs.nil, fun _ h => h.elim, id⟩, by simp⟩ ?_)
  rintro R m st hR ⟨i, ys, F, rfl, hi, s0, s3, s4, hF, hy⟩
  (repeat refine AWp.seq ?_); refine AWp.region noP (by kernel_rfl) ?_
  simp [s0, s4]
  refine AWp.cond (b := decide (i < l.length)) (by simp) (fun hb => ?_) (fun hb => ?_)
  · simp at hb
    have hq : l[i]? = some l[i] := List.getElem?_eq_getElem hb
    refine AWp.skip ?_
    try simp
    (repeat refine AWp.seq ?_); refine AWp.block ?_; (repeat refine AWp.seq ?_); refine AWp.region noP (by kernel_rfl) ?_
    have hx1 : idxA Tryz.prog st.mem 26 (.lst false 1 (l.map AV.str)) (.int .i64 i) = some (.ref [.str l[i]]) := idx (y := .str l[i]) es_26 (by simp [hq])
    have hx2 : idxA Tryz.prog st.mem 26 (.own g l.length l.length) (.int .i64 i) = some (.elt g 1 i 0) := idx_own es_26 hF.row hy hb
    have hx3 : storeA st.mem (.elt g 1 i 0) (.str l[i]) = some _ := store_elt hF.row (by omega) rfl
    have hF2 := hF.step (r := .str l[i]) (x := .str l[i]) (G := fun _ => False) (by omega) (Ext.refl _) (.str _) (fun _ h => h.elim) (fun _ h => h.elim)
    simp [s0, s3, s4, hx1, hx2, hx3]
    (repeat refine AWp.seq ?_); refine AWp.region noP (by kernel_rfl) ?_
    have hw : IntKind.wrap .i64 ((i : Int) + 1) = (i + 1 : Nat) := wrap64 (by omega) (by omega)
    simp [s4, hw]
    have ht : (l.map AV.str).take (i + 1) = (l.map AV.str).take i ++ [.str l[i]] := by rw [List.take_add_one]; simp [hq]
    refine hR _ (l.length - (i + 1)) (by omega) ⟨i + 1, _, _, rfl, hb, by simp [s0], by simp [s3], by simp, by rw [ht]; simpa using hF2, ?_⟩
    simp [hy]
  · simp at hb
    refine AWp.exit ?_
    try simp
    (repeat refine AWp.seq ?_); refine AWp.region noP (by kernel_rfl) ?_
    have : i = l.length := by omega
    subst this
    simp [s3]
    have hd := hF.done hy
    rw [List.take_of_length_le (by simp)] at hd
    exact AWp.ret (post_retO rfl (by simp; rfl) (by simpa using hd))
theorem c_toStringS (l : List ByteArray) (hl : l.length ≤ 1048576) : PCall Tryz.prog 17 [.lst false 1 (l.map AV.str)] (.lst false 1 (l.map AV.str)) := (o_toStringS l hl).p
theorem c_eqIns0 (i : In) : PCall Tryz.prog 99 [i.av, i.av] (.bool true) := by
  unfold In.av In.cells
  refine pcall_of Tryz.func99 (by kernel_rfl) rfl (by simp [Tryz.f99]) ?_
  (repeat refine AWp.seq ?_); refine AWp.region noP (by kernel_rfl) ?_
  try simp
  intro g1 g2 h2
  have hne : g2 ≠ g1 := by rintro rfl; simp [set_at] at h2
  have e1 : ((Mem.set (fun _ => none) g1 (.box [.int .i64 i.op, .int .i64 i.a, .int .i64 i.b])).set g2 (.box [.int .i64 i.op, .int .i64 i.a, .int .i64 i.b])) g1 = some (.box [.int .i64 i.op, .int .i64 i.a, .int .i64 i.b]) := by simp [set_at, hne.symm]
  have e2 : ((Mem.set (fun _ => none) g1 (.box [.int .i64 i.op, .int .i64 i.a, .int .i64 i.b])).set g2 (.box [.int .i64 i.op, .int .i64 i.a, .int .i64 i.b])) g2 = some (.box [.int .i64 i.op, .int .i64 i.a, .int .i64 i.b]) := set_same _ _ _
  generalize (Mem.set (fun _ => none) g1 (.box [.int .i64 i.op, .int .i64 i.a, .int .i64 i.b])).set g2 (.box [.int .i64 i.op, .int .i64 i.a, .int .i64 i.b]) = m1 at *
  repeat' (first
    | refine AWp.seq ?_
    | (refine AWp.region allP (by kernel_rfl) ?_; simp [e1, e2])
    | (refine AWp.condG ?_; simp [e1, e2])
    | (refine AWp.skip ?_; try simp)
    | (refine AWp.exit ?_; try simp)
    | refine AWp.block ?_
    | (refine AWp.ret (post_ret1 rfl ?_); (simp; done))
    | (refine guardI (fun hq => ?_) (fun hq => ?_) <;> (try simp at hq) <;> (try simp [e1, e2]))
    | (refine condRunI (fun hq => ?_) (fun hq => ?_) <;> (try simp at hq) <;> (try simp [e1, e2]))
    | (refine iteI (fun hq => ?_) (fun hq => ?_) <;> (try simp [e1, e2])))
theorem c_eqInsS (l : List In) (hl : l.length ≤ 1099511627776) (h : ∀ x ∈ l, PCall Tryz.prog 99 [x.av, x.av] (.bool true)) :
    PCall Tryz.prog 20 [.lst false 3 (l.map In.av), .lst false 3 (l.map In.av)] (.bool true) := by
  refine pcall_of Tryz.func20 (by kernel_rfl) rfl (by simp [Tryz.f20]) ?_
  (repeat refine AWp.seq ?_); refine AWp.region noP (by kernel_rfl) ?_
  simp
  (repeat refine AWp.seq ?_); refine AWp.region noP (by kernel_rfl) ?_
  simp
  refine AWp.cond (b := false) (by simp) (fun h => by cases h) (fun _ => ?_)
  refine AWp.skip ?_
  simp
  (repeat refine AWp.seq ?_); refine AWp.region noP (by kernel_rfl) ?_
  simp
  (repeat refine AWp.seq ?_); refine AWp.block (AWp.rounds (fun m st => ∃ (i : Nat), m = l.length - i ∧ i ≤ l.length ∧ st.slots 0 = .lst false 3 (l.map In.av) ∧ st.slots 1 = .lst false 3 (l.map In.av) ∧ st.slots 5 = .int .i64 i) l.length ⟨0, by simp, by simp, by simp, by simp, by simp⟩ ?_)
  rintro R m st hR ⟨i, rfl, hi, s0, s1, s5⟩
  (repeat refine AWp.seq ?_); refine AWp.region noP (by kernel_rfl) ?_
  simp [s0, s5]
  refine AWp.cond (b := decide (i < l.length)) (by simp) (fun hb => ?_) (fun hb => ?_)
  · simp at hb
    have hq : l[i]? = some l[i] := List.getElem?_eq_getElem hb
    refine AWp.skip ?_
    simp
    (repeat refine AWp.seq ?_); refine AWp.block ?_; (repeat refine AWp.seq ?_); refine AWp.region allP (by kernel_rfl) ?_
    have hx1 : idxA Tryz.prog st.mem 33 (.lst false 3 (l.map In.av)) (.int .i64 i) = some (.ref l[i].cells) := idx (y := l[i].av) es_33 (by simp [hq])
    simp [s0, s1, s5, hx1]
    refine aop_call _ _ _ _ _ _ _ _ (h l[i] (List.getElem_mem _)) ?_
    simp
    refine AWp.cond (b := false) (by simp) (fun h => by cases h) (fun _ => ?_)
    refine AWp.skip ?_
    simp
    (repeat refine AWp.seq ?_); refine AWp.region noP (by kernel_rfl) ?_
    have hw : IntKind.wrap .i64 ((i : Int) + 1) = (i + 1 : Nat) := wrap64 (by omega) (by omega)
    simp [s5, hw]
    exact hR _ (l.length - (i + 1)) (by omega) ⟨i + 1, rfl, hb, by simp [s0], by simp [s1], by simp⟩
  · simp at hb
    refine AWp.exit ?_
    simp
    (repeat refine AWp.seq ?_); refine AWp.region noP (by kernel_rfl) ?_
    simp
    exact AWp.ret (post_ret1 rfl (by simp))
theorem c_eqInsS_ (l : List In) (hl : l.length ≤ 1099511627776) : PCall Tryz.prog 20 [.lst false 3 (l.map In.av), .lst false 3 (l.map In.av)] (.bool true) := c_eqInsS l hl fun x _ => c_eqIns0 x
/-- What marking rows of these comes to. -/
def MkIns (l : List In) : Prop := ∀ (m : Mem) (F : Nat → Prop) (v : AV) (f : Bool) (h : OwnT m F v (.lst f 3 (l.map In.av))) (k : Int) (h0 : 0 < k) (hb : k + (AV.cnts (l.map In.av) : Int) ≤ 4611686018427387904) (K : AV → Mem → Prop)
    (hK : ∀ m' (l' : List In), (∀ b, ¬ F b → m' b = m b) → OwnT m' F v (.lst false 3 (l'.map In.av)) → Held (l'.map In.av) k (k + (AV.cnts (l.map In.av) : Int)) → K (.int .i64 (k + (AV.cnts (l.map In.av) : Int))) m'), WCall Tryz.prog 27 [v, .int .i64 k] m K
theorem c_markInsS0 (l : List In) : MkIns l := by
  intro m F v f h k h0 hb K hK
  refine wcall_of Tryz.func27 (by kernel_rfl) rfl (by simp [Tryz.f27]) ?_
  rcases own_row h with ⟨f', e', rfl, hnil⟩ | ⟨g, n, c, rfl, hn, rfl⟩
  · have hl : l = [] := by simpa using hnil
    subst hl
    (repeat refine AWp.seq ?_); refine AWp.region noP (by kernel_rfl) ?_
    try simp
    (repeat refine AWp.seq ?_); refine AWp.region noP (by kernel_rfl) ?_
    try simp
    (repeat refine AWp.seq ?_); refine AWp.block (AWp.rounds (fun q st => q = 0 ∧ st.slots 0 = .lst f' e' [] ∧ st.slots 1 = .int .i64 k ∧ st.slots 5 = .int .i64 0 ∧ st.mem = m) 0 ⟨rfl, by simp, by simp, by simp, by simp⟩ ?_)
    rintro R q st hR ⟨rfl, s0, s1, s5, sm⟩
    (repeat refine AWp.seq ?_); refine AWp.region noP (by kernel_rfl) ?_
    simp [s0, s5]
    (repeat refine AWp.seq ?_); refine AWp.condF (by simp) ?_
    refine AWp.exit ?_
    try simp
    (repeat refine AWp.seq ?_); refine AWp.region noP (by kernel_rfl) ?_
    simp [s1]
    refine AWp.ret (post_retW rfl ⟨_, _, View.refl _ _, ?_⟩)
    have := hK m [] (fun _ _ => rfl) (.nil _ _ _) (by simpa [AV.cnts] using Held.nil k)
    simpa [AV.cnts, sm] using this
  obtain ⟨T, G, ys, hM, hy, hx⟩ := Marking.start h
  have hlen : l.length = n := by simpa using hx
  have hcl := cnts_len (f := In.av) (fun x => by simp [In.av, In.cells, AV.cnt, AV.cnts]) l
  (repeat refine AWp.seq ?_); refine AWp.region noP (by kernel_rfl) ?_
  try simp
  (repeat refine AWp.seq ?_); refine AWp.region noP (by kernel_rfl) ?_
  try simp
  (repeat refine AWp.seq ?_); refine AWp.block (AWp.rounds (fun q st => ∃ (i : Nat) (ys : List AV) (ki : Int) (done : List In), q = n - i ∧ i ≤ n ∧ done.length = i ∧ ys.length = n ∧ st.slots 0 = .own g n c ∧ st.slots 1 = .int .i64 ki ∧ st.slots 5 = .int .i64 i ∧ Held (done.map In.av) k ki ∧ k ≤ ki ∧ ki + (AV.cnts ((l.drop i).map In.av) : Int) = k + (AV.cnts (l.map In.av) : Int) ∧ Marking st.mem m F g T 3 c G ys ((done ++ l.drop i).map In.av)) n ⟨0, ys, k, [], by simp, by simp, rfl, hy, by simp, by simp, by simp, .nil k, by omega, by simp, by simpa using hM⟩ ?_)
  clear hM hy ys
  rintro R q st hR ⟨i, ys, ki, done, rfl, hi, hdl, hy, s0, s1, s5, hH, hki, hcnt, hM⟩
  (repeat refine AWp.seq ?_); refine AWp.region noP (by kernel_rfl) ?_
  simp [s0, s5]
  (repeat refine AWp.seq ?_); refine AWp.cond (b := decide (i < n)) (by simp) (fun hlt => ?_) (fun hlt => ?_)
  rotate_left
  · simp at hlt
    have hin : i = n := by omega
    subst hin
    refine AWp.exit ?_
    try simp
    (repeat refine AWp.seq ?_); refine AWp.region noP (by kernel_rfl) ?_
    simp [s1]
    rw [List.drop_eq_nil_of_le (by omega)] at hcnt hM
    rw [List.append_nil] at hM
    have hke : ki = k + (AV.cnts (l.map In.av) : Int) := by simpa [AV.cnts] using hcnt
    subst hke
    refine AWp.ret (post_retW rfl ⟨_, _, View.refl _ _, ?_⟩)
    simp
    exact hK _ done hM.out (hM.done hy) hH
  simp at hlt
  have hil : i < l.length := by omega
  have hdr : l.drop i = l[i] :: l.drop (i + 1) := List.drop_eq_getElem_cons hil
  have hmem := List.getElem_mem hil
  have hwi : IntKind.wrap .i64 ((i : Int) + 1) = (i + 1 : Nat) := wrap64 (by omega) (by omega)
  rw [hdr] at hcnt hM
  rcases hx0 : l[i] with ⟨b0, b1, b2⟩
  rw [hx0] at hcnt hM hmem
  have hat := at_done In.av done (In.mk b0 b1 b2) (l.drop (i + 1)) hdl
  obtain ⟨B, cs0, hok, hal, I, hback⟩ := hM.into (i := i) (by omega) (cs := [.int .i64 b0, .int .i64 b1, .int .i64 b2]) (by rw [hat]; simp [In.av, In.cells])
  obtain ⟨a0, a1, a2, rfl⟩ : ∃ a0 a1 a2, cs0 = [a0, a1, a2] := by
    match cs0, hal with
    | [a0, a1, a2], _ => exact ⟨_, _, _, rfl⟩
  simp only [List.map_cons, AV.cnts, In.av, In.cells, AV.cnt, List.cons_append, List.nil_append] at hcnt
  simp only [List.all_cons, List.all_nil, Bool.and_eq_true, Bool.and_true] at hok
  refine AWp.skip ?_
  try simp
  (repeat refine AWp.seq ?_); refine AWp.block ?_
  have hg := I.row
  have hx : idxA Tryz.prog st.mem 33 (.own g n c) (.int .i64 i) = some (.elt g 3 i 0) := idx_own es_33 hg (by simp [hy]) hlt
  have I2 := I.leaf 0 (x := .int .i64 (ki)) (own_int _ _)
  have hst := I.store (by omega) rfl 0 (by omega) (by omega) (x := .int .i64 (ki)) rfl
  simp only [List.set_cons_zero, List.set_cons_succ] at I2 hst
  (repeat refine AWp.seq ?_); refine AWp.cutA (fun u => u.slots 0 = .own g n c ∧ u.slots 1 = .int .i64 (ki) ∧ u.slots 5 = .int .i64 i ∧ InRow u.mem st.mem g T 3 c i ys B [.int .i64 (ki), a1, a2] [.int .i64 (ki), .int .i64 b1, .int .i64 b2]) ?_ ?_
  · refine AWp.region noP (by kernel_rfl) ?_
    simp [s0, s1, s5, hx, hst]
    exact I2
  clear hg hx hst I2 I
  rintro u0 ⟨s0, s1, s5, I⟩
  have hw : IntKind.wrap .i64 (ki + 1) = ki + 1 := wrap64 (by omega) (by omega)
  (repeat refine AWp.seq ?_); refine AWp.region noP (by kernel_rfl) ?_
  simp [s1, hw]
  clear hw
  have hg := I.row
  have hx : idxA Tryz.prog u0.mem 33 (.own g n c) (.int .i64 i) = some (.elt g 3 i 0) := idx_own es_33 hg (by simp [hy]) hlt
  have I2 := I.leaf 1 (x := .int .i64 (ki + 1)) (own_int _ _)
  have hst := I.store (by omega) rfl 1 (by omega) (by omega) (x := .int .i64 (ki + 1)) rfl
  simp only [List.set_cons_zero, List.set_cons_succ] at I2 hst
  (repeat refine AWp.seq ?_); refine AWp.cutA (fun u => u.slots 0 = .own g n c ∧ u.slots 1 = .int .i64 (ki + 1) ∧ u.slots 5 = .int .i64 i ∧ InRow u.mem st.mem g T 3 c i ys B [.int .i64 (ki), .int .i64 (ki + 1), a2] [.int .i64 (ki), .int .i64 (ki + 1), .int .i64 b2]) ?_ ?_
  · refine AWp.region noP (by kernel_rfl) ?_
    simp [s0, s1, s5, hx, hst]
    exact I2
  clear hg hx hst I2 I
  rintro u1 ⟨s0, s1, s5, I⟩
  have hw : IntKind.wrap .i64 (ki + 1 + 1) = ki + 1 + 1 := wrap64 (by omega) (by omega)
  (repeat refine AWp.seq ?_); refine AWp.region noP (by kernel_rfl) ?_
  simp [s1, hw]
  clear hw
  have hg := I.row
  have hx : idxA Tryz.prog u1.mem 33 (.own g n c) (.int .i64 i) = some (.elt g 3 i 0) := idx_own es_33 hg (by simp [hy]) hlt
  have I2 := I.leaf 2 (x := .int .i64 (ki + 1 + 1)) (own_int _ _)
  have hst := I.store (by omega) rfl 2 (by omega) (by omega) (x := .int .i64 (ki + 1 + 1)) rfl
  simp only [List.set_cons_zero, List.set_cons_succ] at I2 hst
  (repeat refine AWp.seq ?_); refine AWp.cutA (fun u => u.slots 0 = .own g n c ∧ u.slots 1 = .int .i64 (ki + 1 + 1) ∧ u.slots 5 = .int .i64 i ∧ InRow u.mem st.mem g T 3 c i ys B [.int .i64 (ki), .int .i64 (ki + 1), .int .i64 (ki + 1 + 1)] [.int .i64 (ki), .int .i64 (ki + 1), .int .i64 (ki + 1 + 1)]) ?_ ?_
  · refine AWp.region noP (by kernel_rfl) ?_
    simp [s0, s1, s5, hx, hst]
    exact I2
  clear hg hx hst I2 I
  rintro u2 ⟨s0, s1, s5, I⟩
  have hw : IntKind.wrap .i64 (ki + 1 + 1 + 1) = ki + 1 + 1 + 1 := wrap64 (by omega) (by omega)
  (repeat refine AWp.seq ?_); refine AWp.region noP (by kernel_rfl) ?_
  simp [s1, hw]
  clear hw
  have hnew : In.av (In.mk (ki) (ki + 1) (ki + 1 + 1)) = .agg [.int .i64 (ki), .int .i64 (ki + 1), .int .i64 (ki + 1 + 1)] := by simp [In.av, In.cells]
  have hM2 := hback u2.mem [.int .i64 (ki), .int .i64 (ki + 1), .int .i64 (ki + 1 + 1)] [.int .i64 (ki), .int .i64 (ki + 1), .int .i64 (ki + 1 + 1)] I (by simp [hok])
  rw [← hnew, set_done In.av done _ _ _ hdl] at hM2
  (repeat refine AWp.seq ?_); refine AWp.region noP (by kernel_rfl) ?_
  simp [s0, s1, s5, hwi]
  refine hR _ (n - (i + 1)) (by omega) ⟨i + 1, _, ki + 1 + 1 + 1, done ++ [(In.mk (ki) (ki + 1) (ki + 1 + 1))], rfl, by omega, by simp [hdl], ?_, by simp [s0, s1, s5], by simp [s0, s1, s5], by simp, ?_, by omega, by omega, by simpa using hM2⟩
  · simp [hy]
  · rw [List.map_append, List.map_cons, hnew]
    exact hH.append (.agg (.int (.int (.int (.nil _)))) (.nil _))
theorem c_heldInsS (l : List In) (k k' : Int) (h0 : 0 < k) (hb : k' ≤ 4611686018427387904) (h : Held (l.map In.av) k k') : PCall Tryz.prog 28 [.lst false 3 (l.map In.av), .int .i64 k] (.int .i64 k') := by
  refine pcall_of Tryz.func28 (by kernel_rfl) rfl (by simp [Tryz.f28]) ?_
  have hcl := cnts_len (f := In.av) (fun x => by simp [In.av, In.cells, AV.cnt, AV.cnts]) l
  have hct := h.count
  (repeat refine AWp.seq ?_); refine AWp.region noP (by kernel_rfl) ?_
  try simp
  (repeat refine AWp.seq ?_); refine AWp.region noP (by kernel_rfl) ?_
  try simp
  (repeat refine AWp.seq ?_); refine AWp.block (AWp.rounds (fun q st => ∃ (i : Nat) (ki : Int), q = l.length - i ∧ i ≤ l.length ∧ k ≤ ki ∧ Held ((l.drop i).map In.av) ki k' ∧ st.slots 0 = .lst false 3 (l.map In.av) ∧ st.slots 1 = .int .i64 ki ∧ st.slots 5 = .int .i64 i) l.length ⟨0, k, by simp, by simp, by omega, by simpa using h, by simp, by simp, by simp⟩ ?_)
  rintro R q st hR ⟨i, ki, rfl, hi, hki, hH, s0, s1, s5⟩
  (repeat refine AWp.seq ?_); refine AWp.region noP (by kernel_rfl) ?_
  simp [s0, s5]
  (repeat refine AWp.seq ?_); refine AWp.cond (b := decide (i < l.length)) (by simp) (fun hlt => ?_) (fun hlt => ?_)
  rotate_left
  · simp at hlt
    rw [List.drop_eq_nil_of_le hlt] at hH
    have hke := Held.nil_inv hH
    subst hke
    refine AWp.exit ?_
    try simp
    (repeat refine AWp.seq ?_); refine AWp.region noP (by kernel_rfl) ?_
    simp [s1]
    exact AWp.ret (post_ret1 rfl (by simp))
  simp at hlt
  have hdr : l.drop i = l[i] :: l.drop (i + 1) := List.drop_eq_getElem_cons hlt
  have hmem := List.getElem_mem hlt
  have hwi : IntKind.wrap .i64 ((i : Int) + 1) = (i + 1 : Nat) := wrap64 (by omega) (by omega)
  rw [hdr, List.map_cons] at hH
  have hq : (l.map In.av)[i]? = some (In.av l[i]) := by simp [hlt]
  rcases hx0 : l[i] with ⟨b0, b1, b2⟩
  rw [hx0] at hH hmem hq
  have hav : In.av (In.mk b0 b1 b2) = .agg [.int .i64 b0, .int .i64 b1, .int .i64 b2] := by simp [In.av, In.cells]
  rw [hav] at hH hq
  have hx : idxA Tryz.prog st.mem 33 (.lst false 3 (l.map In.av)) (.int .i64 i) = some (.ref [.int .i64 b0, .int .i64 b1, .int .i64 b2]) := idx (y := .agg [.int .i64 b0, .int .i64 b1, .int .i64 b2]) es_33 hq
  obtain ⟨kz, hH1, hH2⟩ := hH.agg_inv
  have hlz := hH2.le
  refine AWp.skip ?_
  try simp
  (repeat refine AWp.seq ?_); refine AWp.block ?_
  obtain ⟨e0, hH1⟩ := hH1.int_inv
  have hle0 := hH1.le
  (repeat refine AWp.seq ?_); refine AWp.region noP (by kernel_rfl) ?_
  simp [s0, s1, s5, hx, e0]
  (repeat refine AWp.seq ?_); refine AWp.condF (by simp) ?_
  refine AWp.skip ?_
  try simp
  have hw0 : IntKind.wrap .i64 (ki + 1) = ki + 1 := wrap64 (by omega) (by omega)
  (repeat refine AWp.seq ?_); refine AWp.region noP (by kernel_rfl) ?_
  simp [s0, s1, s5, hx, hw0]
  obtain ⟨e1, hH1⟩ := hH1.int_inv
  have hle1 := hH1.le
  (repeat refine AWp.seq ?_); refine AWp.region noP (by kernel_rfl) ?_
  simp [s0, s1, s5, hx, hw0, e1]
  (repeat refine AWp.seq ?_); refine AWp.condF (by simp) ?_
  refine AWp.skip ?_
  try simp
  have hw1 : IntKind.wrap .i64 (ki + 1 + 1) = ki + 1 + 1 := wrap64 (by omega) (by omega)
  (repeat refine AWp.seq ?_); refine AWp.region noP (by kernel_rfl) ?_
  simp [s0, s1, s5, hx, hw0, hw1]
  obtain ⟨e2, hH1⟩ := hH1.int_inv
  have hle2 := hH1.le
  (repeat refine AWp.seq ?_); refine AWp.region noP (by kernel_rfl) ?_
  simp [s0, s1, s5, hx, hw0, hw1, e2]
  (repeat refine AWp.seq ?_); refine AWp.condF (by simp) ?_
  refine AWp.skip ?_
  try simp
  have hw2 : IntKind.wrap .i64 (ki + 1 + 1 + 1) = ki + 1 + 1 + 1 := wrap64 (by omega) (by omega)
  (repeat refine AWp.seq ?_); refine AWp.region noP (by kernel_rfl) ?_
  simp [s0, s1, s5, hx, hw0, hw1, hw2]
  have hz := Held.nil_inv hH1
  subst hz
  (repeat refine AWp.seq ?_); refine AWp.region noP (by kernel_rfl) ?_
  simp [s0, s1, s5, hx, hw0, hw1, hw2, hwi]
  exact hR _ (l.length - (i + 1)) (by omega) ⟨i + 1, ki + 1 + 1 + 1, rfl, hlt, by omega, hH2, by simp [s0], by simp [s0, s1, s5, hx, hw0, hw1, hw2], by simp⟩
theorem mk_InsS (l : List In) : MarkC Tryz.prog 27 inss (fun x k k' => Held (x.map In.av) k k') l (AV.cnts (l.map In.av)) := fun m F v h k h0 hb K hK =>
  c_markInsS0 l m F v false h k h0 hb K fun m' l' ho hO hH => hK m' l' (fun b y hb hy => by rw [ho b hb]; exact hy) hO hH
theorem hd_InsS : HeldC Tryz.prog 28 inss (fun x k k' => Held (x.map In.av) k k') := fun x k k' h0 hb hH => c_heldInsS x k k' h0 hb hH
def Pg.cntP (p : Pg) : Nat := AV.cnts (p.arrs.map Ar.av) + AV.cnts (p.body.map Sm.av)
def Pg.HeldP (p : Pg) (k k' : Int) : Prop := Held [.lst false 2 (p.arrs.map Ar.av), .lst false 19 (p.body.map Sm.av)] k k'
theorem mk_Prog (p : Pg) : MarkC Tryz.prog 24 Pg.av Pg.HeldP p p.cntP := fun m F v h k h0 hb K hK => by
  unfold BIG Pg.cntP at hb
  unfold Pg.cntP at hK
  refine c_markProg p h k h0 (by omega) fun m' l0 l1 ho hO hH => ?_
  have e : k + (AV.cnts (p.arrs.map Ar.av) : Int) + (AV.cnts (p.body.map Sm.av) : Int) = k + ((AV.cnts (p.arrs.map Ar.av) + AV.cnts (p.body.map Sm.av) : Nat) : Int) := by omega
  rw [e] at hH ⊢
  exact hK m' ⟨l0, l1⟩ ho hO hH
theorem Pg.cntP_le (p : Pg) (ht : p.tot ≤ 1048576) : p.cntP ≤ 16777216 := by
  have := p.cnts_le ht
  unfold Pg.cntP
  omega
theorem Ex.cntL_le (e : Ex) : AV.cnts (e.l.map Ex.av) ≤ 3 * e.tot := by
  have k0 := cnts_tot (f := Ex.av) (t := Ex.tot) (C := 3) e.l fun x _ => x.mcnt_le
  have j0 := e.tot_l
  omega
theorem cnts_ins (l : List In) : AV.cnts (l.map In.av) = 3 * l.length := by
  induction l with
  | nil => rfl
  | cons x l ih => simp only [List.map_cons, AV.cnts, In.av, In.cells, AV.cnt, ih, List.length_cons]; omega
theorem cnts_strs_ (l : List ByteArray) : AV.cnts (l.map AV.str) = l.length := by
  induction l with
  | nil => rfl
  | cons x l ih => simp only [List.map_cons, AV.cnts, AV.cnt, ih, List.length_cons]; omega
end Go.T
namespace Go.T
open Go Go.Proofs
set_option maxRecDepth 10000
set_option maxHeartbeats 1000000
set_option linter.unusedSimpArgs false
set_option linter.unusedVariables false
/-- A maker: its lay, from where, its code, is it bad. -/
def Mk (gm : Nat) (L : List AV) (frm : Int) (a : Gs) (m : Mem) : Prop := ∃ v, m gm = some (.box [.ref L, .int .i64 frm, v, .bool a.2]) ∧ Gr 148 3 (fun _ => none) (a.1.map In.av) v m
theorem Mk.fresh {gm : Nat} {L : List AV} {frm : Int} {a : Gs} {m : Mem} (h : Mk gm L frm a m) {g : Nat} (hg : m g = none) (b : Blk) : Mk gm L frm a (m.set g b) := by
  obtain ⟨v, h1, h2⟩ := h
  exact ⟨v, ext_set hg b _ _ h1, h2.fresh hg b⟩
theorem Mk.dom {gm : Nat} {L : List AV} {frm : Int} {a : Gs} {m : Mem} (h : Mk gm L frm a m) : m gm ≠ none := by
  obtain ⟨v, h1, _⟩ := h
  rw [h1]; simp
theorem Gr.app1 {m : Mem} {xs : List In} {v : AV} (h : Gr 148 3 (fun _ => none) (xs.map In.av) v m) (i : In) (hb : xs.length ≤ 8388608) {k : AV → Mem → Prop}
    (hk : ∀ v' m', Gr 148 3 (fun _ => none) ((xs ++ [i]).map In.av) v' m' → (∀ g cs, m g = some (.box cs) → m' g = some (.box cs)) → k v' m') : appendW Tryz.prog m k #[33, 33] v (.lst true 3 [.agg [.int .i64 i.op, .int .i64 i.a, .int .i64 i.b]]) := by
  refine Gr.app et_33 h (ys := [i.av]) rfl (by intro y hy; simp at hy; subst hy; rfl) (by simp; omega) fun v' m' h1 h2 => hk v' m' (by simpa using h1) h2
theorem c_put {gm : Nat} {L : List AV} {frm : Int} {a : Gs} {m : Mem} (h : Mk gm L frm a m) (op x y : Int) (hb : a.1.length ≤ 8388608) {K : AV → Mem → Prop} (hK : ∀ m', Mk gm L frm (a.put op x y) m' → Upd (fun g => g = gm) m m' → K (.tup []) m') :
    WCall Tryz.prog 319 [.ptr gm 0, .int .i64 op, .int .i64 x, .int .i64 y] m K := by
  obtain ⟨v, h1, h2⟩ := h
  refine wcall_of Tryz.func319 (by kernel_rfl) rfl (by simp [Tryz.f319]) ?_
  (repeat refine AWp.seq ?_); refine AWp.region noP (by kernel_rfl) ?_
  simp [h1]
  refine Gr.app1 h2 ⟨op, x, y⟩ hb fun v' m' h3 h4 => ?_
  have hgm := h4 gm _ h1
  obtain ⟨o1, o2, o3⟩ := h3.ok
  simp [hgm, o1, o2]
  refine post_nrm0 rfl (hK _ ⟨v', ?_, ?_⟩ ?_)
  · simp [set_at]; rfl
  · exact h3.setBox hgm rfl
  · refine Upd.trans (b := m') (fun g cs _ hx => h4 g cs hx) (Upd.put1 _)
theorem c_reg {gm : Nat} {p : Pg} (hf : p.Fine) (hL5 : p.regs.length ≤ 2097152) {frm : Int} {a : Gs} {m : Mem} (h : Mk gm p.lay frm a m) (s : ByteArray) {K : AV → Mem → Prop} (hK : ∀ m', Mk gm p.lay frm (a.bad (decide (at_ p.regs s < 0))) m' → Upd (fun g => g = gm) m m' → K (.int .i64 (at_ p.regs s)) m') :
    WCall Tryz.prog 320 [.ptr gm 0, .str s] m K := by
  have cI := c_Index p.regs s (by omega)
  unfold strs at cI
  obtain ⟨v, h1, h2⟩ := h
  refine wcall_of Tryz.func320 (by kernel_rfl) rfl (by simp [Tryz.f320]) ?_
  (repeat refine AWp.seq ?_); refine AWp.region noP (by kernel_rfl) ?_
  try simp
  (repeat refine AWp.seq ?_); refine AWp.region noP (by kernel_rfl) ?_
  simp [h1, Pg.lay, strs]
  refine aop_call' cI ?_
  simp
  (repeat refine AWp.seq ?_); refine AWp.region noP (by kernel_rfl) ?_
  have hb : ∀ b : Bool, a.2 = b → Mk gm p.lay frm (a.bad (decide (at_ p.regs s < 0))) (m.set gm (.box [.ref p.lay, .int .i64 frm, v, .bool (b || decide (at_ p.regs s < 0))])) := fun b hb =>
    ⟨v, by rw [set_same]; simp [Gs.bad, hb], h2.setBox h1 rfl⟩
  have hU : ∀ b, Upd (fun g => g = gm) m (m.set gm b) := fun b => Upd.put1 b
  obtain ⟨o1, o2, o3⟩ := h2.ok
  cases ha : a.2
  · have hb1 := hb false ha
    simp [h1, ha, o1, o2, Pg.lay, strs] at hb1 ⊢
    (repeat refine AWp.seq ?_); refine AWp.region noP (by kernel_rfl) ?_
    simp
    exact AWp.ret (post_retW rfl ⟨_, _, View.refl _ _, by simpa using hK _ hb1 (hU _)⟩)
  · have hb1 := hb true ha
    simp [h1, ha, o1, o2, Pg.lay, strs] at hb1 ⊢
    (repeat refine AWp.seq ?_); refine AWp.region noP (by kernel_rfl) ?_
    simp
    exact AWp.ret (post_retW rfl ⟨_, _, View.refl _ _, by simpa using hK _ hb1 (hU _)⟩)
theorem c_array {gm : Nat} {p : Pg} (hf : p.Fine) {frm : Int} {a : Gs} {m : Mem} (h : Mk gm p.lay frm a m) (op : Int) (s : ByteArray) (hb : a.1.length ≤ 8388608) {K : AV → Mem → Prop} (hK : ∀ m', Mk gm p.lay frm (a.arr p op s) m' → Upd (fun g => g = gm) m m' → K (.tup []) m') :
    WCall Tryz.prog 322 [.ptr gm 0, .int .i64 op, .str s] m K := by
  have hla := hf.arrs
  have cA := c_impl_ArrAt p s (by omega)
  unfold Pg.av at cA
  have hpc : p.cells = [.lst false 2 (p.arrs.map Ar.av), .lst false 19 (p.body.map Sm.av)] := rfl
  rw [hpc] at cA
  obtain ⟨v, h1, h2⟩ := h
  have hlay : p.lay = [.lst false 2 (p.arrs.map Ar.av), .lst false 19 (p.body.map Sm.av), strs p.vars, strs p.regs, .int .i64 p.size] := rfl
  refine wcall_of Tryz.func322 (by kernel_rfl) rfl (by simp [Tryz.f322]) ?_
  (repeat refine AWp.seq ?_); refine AWp.region noP (by kernel_rfl) ?_
  simp [h1, hlay]
  refine aop_call' cA ?_
  simp
  (repeat refine AWp.seq ?_); refine AWp.region noP (by kernel_rfl) ?_
  simp
  (repeat refine AWp.seq ?_); refine AWp.cond (b := decide (at_ p.arrNames s < 0)) (by simp) (fun hk => ?_) (fun hk => ?_)
  · simp only [decide_eq_true_eq] at hk
    have he : a.arr p op s = (a.1, true) := by unfold Gs.arr; rw [if_pos hk]
    rw [he] at hK
    obtain ⟨o1, o2, o3⟩ := h2.ok
    (repeat refine AWp.seq ?_); refine AWp.region noP (by kernel_rfl) ?_
    simp [h1, o1, o2]
    refine AWp.ret (post_ret0 rfl (hK _ ⟨v, by simp, h2.setBox h1 rfl⟩ (Upd.put1 _)))
  · simp only [decide_eq_false_iff_not] at hk
    obtain ⟨k, hkk⟩ := Int.eq_ofNat_of_zero_le (show 0 ≤ at_ p.arrNames s by omega)
    have hlt := idxAt_lt s p.arrNames 0
    have hkl : k < p.arrs.length := by
      have hal : p.arrNames.length = p.arrs.length := by simp [Pg.arrNames]
      unfold at_ at hkk hk
      rcases hlt with hlt | ⟨_, hlt⟩
      · omega
      · omega
    have he : a.arr p op s = a.put op (sumN (p.arrs.take k)) (p.arrN k) := by unfold Gs.arr; rw [if_neg hk, hkk]; rfl
    rw [he] at hK
    have hn : p.arrN k = p.arrs[k].n := by unfold Pg.arrN; rw [List.getElem?_eq_getElem hkl]; rfl
    rw [hn] at hK
    have cB := c_base p hf k (by omega)
    rw [hlay] at cB
    have hx : ∀ m, idxA Tryz.prog m 35 (.lst false 2 (p.arrs.map Ar.av)) (.int .i64 k) = some (.ref p.arrs[k].cells) := fun m => idx (y := p.arrs[k].av) es_35 (by simp [hkl])
    have hac : p.arrs[k].cells = [.str p.arrs[k].s, .int .i64 p.arrs[k].n] := rfl
    refine AWp.skip ?_
    try simp
    (repeat refine AWp.seq ?_); refine AWp.regionG (fun i => i == 7) (fun _ => false) [0, 1, 2, 3, 4, 5, 6, 7, 8, 9, 10, 11, 12, 13, 14, 15, 16, 17, 18, 19, 20] [0, 1, 2, 3, 4, 5, 6, 7, 8, 9, 10, 11, 12, 13, 14, 15, 16, 17, 18, 19, 20] (by kernel_rfl) ?_
    simp [h1, hkk]
    refine aop_call' cB ?_
    simp [h1, hkk, hx, hac, hlay]
    refine aop_wcall _ _ _ _ _ _ _ _ rfl (eval_func _ _) ?_
    refine c_put (L := p.lay) ⟨v, by simpa [hlay] using h1, h2⟩ op _ _ hb fun m' h3 h4 => ?_
    try simp
    exact post_nrm0 rfl (hK m' h3 h4)
theorem c_made {gm : Nat} {L : List AV} {frm : Int} {a : Gs} {m : Mem} (h : Mk gm L frm a m) {K : AV → Mem → Prop} (hK : ∀ v (F : Nat → Prop), OwnT m F v (inss a.made) → K v m) :
    WCall Tryz.prog 98 [.ptr gm 0] m K := by
  obtain ⟨v, h1, h2⟩ := h
  refine wcall_of Tryz.func98 (by kernel_rfl) rfl (by simp [Tryz.f98]) ?_
  (repeat refine AWp.seq ?_); refine AWp.region noP (by kernel_rfl) ?_
  try simp
  (repeat refine AWp.seq ?_); refine AWp.region noP (by kernel_rfl) ?_
  simp [h1]
  cases ha : a.2
  · (repeat refine AWp.seq ?_); refine AWp.condF (by simp) ?_
    refine AWp.skip ?_
    try simp
    (repeat refine AWp.seq ?_); refine AWp.region noP (by kernel_rfl) ?_
    simp [h1]
    obtain ⟨F, hO, _, _⟩ := h2.own (by intro x hx F; simp at hx; obtain ⟨i, _, rfl⟩ := hx; exact ownT_agg (by rfl) F)
    have e : a.made = a.1 := by unfold Gs.made; simp [ha]
    refine AWp.ret (post_retW rfl ⟨_, _, View.refl _ _, ?_⟩)
    simp
    exact hK v F (by rw [e]; exact hO)
  · (repeat refine AWp.seq ?_); refine AWp.condT (by simp) ?_
    (repeat refine AWp.seq ?_); refine AWp.region noP (by kernel_rfl) ?_
    simp
    have e : a.made = [] := by unfold Gs.made; simp [ha]
    refine AWp.ret (post_retW rfl ⟨_, _, View.refl _ _, ?_⟩)
    simp
    exact hK _ (fun _ => False) (by rw [e]; exact .nil _ _ _)
theorem c_opOf (k : Int) (h0 : 1 ≤ k) (h1 : k ≤ 8) : PCall Tryz.prog 323 [.int .i64 k] (.int .i64 (k + 4)) := by
  have w1 : IntKind.wrap .i64 (8 + k) = 8 + k := wrap64 (by omega) (by omega)
  have w2 : IntKind.wrap .i64 (8 + k - 4) = k + 4 := by rw [wrap64 (by omega) (by omega)]; omega
  refine pcall_of Tryz.func323 (by kernel_rfl) rfl (by simp [Tryz.f323]) ?_
  (repeat refine AWp.seq ?_); refine AWp.region noP (by kernel_rfl) ?_
  try simp
  (repeat refine AWp.seq ?_); refine AWp.region noP (by kernel_rfl) ?_
  simp [w1, w2]
  exact AWp.ret (post_ret1 rfl (by simp))
theorem c_makerOf (p : Pg) (ht : p.tot ≤ 1048576) (hf : p.Fine) (frm : Int) {m : Mem} {K : AV → Mem → Prop} (hK : ∀ gm m', Mk gm p.lay frm ([], false) m' → Ext m m' → K (.ptr gm 0) m') : WCall Tryz.prog 96 [p.av, .int .i64 frm] m K := by
  have cL := c_layOf p ht hf
  refine wcall_of Tryz.func96 (by kernel_rfl) rfl (by simp [Tryz.f96]) ?_
  unfold Pg.av at *
  (repeat refine AWp.seq ?_); refine AWp.region noP (by kernel_rfl) ?_
  try simp
  intro g hg
  have hE := ext_set hg (.box p.cells)
  have hgg : (m.set g (.box p.cells)) g = some (.box p.cells) := set_same _ _ _
  generalize m.set g (.box p.cells) = m1 at *
  (repeat refine AWp.seq ?_); refine AWp.region noP (by kernel_rfl) ?_
  simp [hgg]
  refine aop_call' cL ?_
  simp
  intro gm hgm
  refine AWp.ret (post_retW rfl ⟨_, _, View.refl _ _, ?_⟩)
  simp
  refine hK gm _ ⟨.lst true 0 [], by simp [set_at], ?_⟩ (hE.trans (ext_set hgm _))
  exact Gr.start' _ 0
end Go.T
