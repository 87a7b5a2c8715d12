/- Copies that are one's own, of statements and programs: what the laws' copying functions compute. What holds the marks of machines; programs and machines marked. Programs and machines marked; what holds a machine's marks. New machines: what the program and the reference compute. Great machines compared; how many marks programs and machines take. -/
import Derived.Test.YtjpgifmkikmbgaaGreatG11
namespace Go.T
open Go Go.Proofs
set_option maxRecDepth 10000
set_option linter.unusedSimpArgs false
set_option linter.unusedVariables false
theorem Ex.av_mk (k n : Int) (s : ByteArray) (l : List Ex) : (Ex.mk k n s l).av = .agg [.int .i64 k, .int .i64 n, .str s, .lst false 4 (l.map Ex.av)] := by show AV.agg (Ex.mk k n s l).cells = _; rw [Ex.cells_mk]
theorem o_toExp (e : Ex) : e.tot ≤ 1048576 → OCall Tryz.prog 119 [e.av] e.av := by
  induction e using Ex.ind with | h k m s l h =>
  intro ht
  rw [Ex.tot_mk] at ht
  have hl := totL_len Ex.tot l
  exact o_toExp0 k m s l (by omega) (fun x hx => h x hx (by have := totL_mem Ex.tot hx; omega))
set_option maxHeartbeats 2000000 in
theorem o_toStmt0 (k : Int) (s : ByteArray) (c0 c1 : Int) (c2 : ByteArray) (c3 : List Ex) (d0 d1 : Int) (d2 : ByteArray) (d3 : List Ex) (p0 p1 : Int) (p2 : ByteArray) (p3 : List Ex) (q0 q1 : Int) (q2 : ByteArray) (q3 : List Ex) (b : List Sm) (hc : (Ex.mk c0 c1 c2 c3).tot ≤ 1048576) (hd : (Ex.mk d0 d1 d2 d3).tot ≤ 1048576) (hp : (Ex.mk p0 p1 p2 p3).tot ≤ 1048576) (hq : (Ex.mk q0 q1 q2 q3).tot ≤ 1048576) (hl : b.length ≤ 1048576) (h : ∀ x ∈ b, OCall Tryz.prog 93 [x.av] x.av) : OCall Tryz.prog 93 [(Sm.mk k s (Ex.mk c0 c1 c2 c3) (Ex.mk d0 d1 d2 d3) (Ex.mk p0 p1 p2 p3) (Ex.mk q0 q1 q2 q3) b).av] (Sm.mk k s (Ex.mk c0 c1 c2 c3) (Ex.mk d0 d1 d2 d3) (Ex.mk p0 p1 p2 p3) (Ex.mk q0 q1 q2 q3) b).av := by
  have ec := o_toExp _ hc
  rw [Ex.av_mk] at ec
  have ed := o_toExp _ hd
  rw [Ex.av_mk] at ed
  have ep := o_toExp _ hp
  rw [Ex.av_mk] at ep
  have eq := o_toExp _ hq
  rw [Ex.av_mk] at eq
  have hav : (Sm.mk k s (Ex.mk c0 c1 c2 c3) (Ex.mk d0 d1 d2 d3) (Ex.mk p0 p1 p2 p3) (Ex.mk q0 q1 q2 q3) b).av = .agg [.int .i64 k, .str s, .int .i64 c0, .int .i64 c1, .str c2, .lst false 4 (c3.map Ex.av), .int .i64 d0, .int .i64 d1, .str d2, .lst false 4 (d3.map Ex.av), .int .i64 p0, .int .i64 p1, .str p2, .lst false 4 (p3.map Ex.av), .int .i64 q0, .int .i64 q1, .str q2, .lst false 4 (q3.map Ex.av), .lst false 19 (b.map Sm.av)] := by show AV.agg (Sm.mk k s (Ex.mk c0 c1 c2 c3) (Ex.mk d0 d1 d2 d3) (Ex.mk p0 p1 p2 p3) (Ex.mk q0 q1 q2 q3) b).cells = _; simp [Sm.cells_mk, Ex.cells_mk]
  rw [hav]
  refine wcall_of Tryz.func93 (by kernel_rfl) rfl (by simp [Tryz.f93]) ?_
  (repeat refine AWp.seq ?_); refine AWp.region noP (by kernel_rfl) ?_
  simp [set_at]
  intro g1 g2 h2
  have n21 : g2 ≠ g1 := fun e => by simp [e] at h2
  have m12 := n21.symm
  (repeat refine AWp.seq ?_); refine AWp.cutA (fun u => ∃ g3, g3 ≠ g1 ∧ g3 ≠ g2 ∧ u.slots 1 = .ptr g1 0 ∧ u.slots 2 = .ptr g2 0 ∧ u.slots 3 = .ptr g3 0 ∧ Cpy u.mem g1 g2 g3 [.int .i64 k, .str s, .int .i64 c0, .int .i64 c1, .str c2, .lst false 4 (c3.map Ex.av), .int .i64 d0, .int .i64 d1, .str d2, .lst false 4 (d3.map Ex.av), .int .i64 p0, .int .i64 p1, .str p2, .lst false 4 (p3.map Ex.av), .int .i64 q0, .int .i64 q1, .str q2, .lst false 4 (q3.map Ex.av), .lst false 19 (b.map Sm.av)] 19 [.int .i64 0, .str ByteArray.empty, .int .i64 0, .int .i64 0, .str ByteArray.empty, .lst true 0 [], .int .i64 0, .int .i64 0, .str ByteArray.empty, .lst true 0 [], .int .i64 0, .int .i64 0, .str ByteArray.empty, .lst true 0 [], .int .i64 0, .int .i64 0, .str ByteArray.empty, .lst true 0 [], .lst true 0 []] (fun _ => False) [] []) ?_ ?_
  · refine AWp.region noP (by kernel_rfl) ?_
    simp [set_at]
    intro g3 h3
    have n32 : g3 ≠ g2 := fun e => by simp [e] at h3
    have n31 : g3 ≠ g1 := fun e => by simp [e, m12] at h3
    have m23 := n32.symm
    have m13 := n31.symm
    exact ⟨g3, n31, n32, rfl, Cpy.start (c2 := [.int .i64 0, .str ByteArray.empty, .int .i64 0, .int .i64 0, .str ByteArray.empty, .lst true 0 [], .int .i64 0, .int .i64 0, .str ByteArray.empty, .lst true 0 [], .int .i64 0, .int .i64 0, .str ByteArray.empty, .lst true 0 [], .int .i64 0, .int .i64 0, .str ByteArray.empty, .lst true 0 [], .lst true 0 []]) (by simp [set_at, n21, n32, n31, m12, m23, m13]) (by simp [set_at, n21, n32, n31, m12, m23, m13]) rfl (by simp [set_at, n21, n32, n31, m12, m23, m13])⟩
  rintro u ⟨g3, n31, n32, s1, s2, s3, C⟩
  (repeat refine AWp.seq ?_); refine AWp.cutA (fun u => u.slots 1 = .ptr g1 0 ∧ u.slots 2 = .ptr g2 0 ∧ u.slots 3 = .ptr g3 0 ∧ Cpy u.mem g1 g2 g3 [.int .i64 k, .str s, .int .i64 c0, .int .i64 c1, .str c2, .lst false 4 (c3.map Ex.av), .int .i64 d0, .int .i64 d1, .str d2, .lst false 4 (d3.map Ex.av), .int .i64 p0, .int .i64 p1, .str p2, .lst false 4 (p3.map Ex.av), .int .i64 q0, .int .i64 q1, .str q2, .lst false 4 (q3.map Ex.av), .lst false 19 (b.map Sm.av)] 19 [.int .i64 k, .str ByteArray.empty, .int .i64 0, .int .i64 0, .str ByteArray.empty, .lst true 0 [], .int .i64 0, .int .i64 0, .str ByteArray.empty, .lst true 0 [], .int .i64 0, .int .i64 0, .str ByteArray.empty, .lst true 0 [], .int .i64 0, .int .i64 0, .str ByteArray.empty, .lst true 0 [], .lst true 0 []] (fun _ => False) [.int .i64 k] [.int .i64 k]) ?_ ?_
  · refine AWp.region noP (by kernel_rfl) ?_
    simp [s1, s2, s3, C.b1, C.b3]
    simpa using C.leaf n31 n32 (own_int _ _) rfl
  clear C s1 s2 s3
  rintro u ⟨s1, s2, s3, C⟩
  (repeat refine AWp.seq ?_); refine AWp.cutA (fun u => u.slots 1 = .ptr g1 0 ∧ u.slots 2 = .ptr g2 0 ∧ u.slots 3 = .ptr g3 0 ∧ Cpy u.mem g1 g2 g3 [.int .i64 k, .str s, .int .i64 c0, .int .i64 c1, .str c2, .lst false 4 (c3.map Ex.av), .int .i64 d0, .int .i64 d1, .str d2, .lst false 4 (d3.map Ex.av), .int .i64 p0, .int .i64 p1, .str p2, .lst false 4 (p3.map Ex.av), .int .i64 q0, .int .i64 q1, .str q2, .lst false 4 (q3.map Ex.av), .lst false 19 (b.map Sm.av)] 19 [.int .i64 k, .str s, .int .i64 0, .int .i64 0, .str ByteArray.empty, .lst true 0 [], .int .i64 0, .int .i64 0, .str ByteArray.empty, .lst true 0 [], .int .i64 0, .int .i64 0, .str ByteArray.empty, .lst true 0 [], .int .i64 0, .int .i64 0, .str ByteArray.empty, .lst true 0 [], .lst true 0 []] (fun _ => False) [.int .i64 k, .str s] [.int .i64 k, .str s]) ?_ ?_
  · refine AWp.region noP (by kernel_rfl) ?_
    simp [s1, s2, s3, C.b1, C.b3]
    simpa using C.leaf n31 n32 (own_str _) rfl
  clear C s1 s2 s3
  rintro u ⟨s1, s2, s3, C⟩
  (repeat refine AWp.seq ?_); refine AWp.cutA (fun u => ∃ (F : Nat → Prop) (v2_0 v2_1 v2_2 v2_3 : AV), u.slots 1 = .ptr g1 0 ∧ u.slots 2 = .ptr g2 0 ∧ u.slots 3 = .ptr g3 0 ∧ Cpy u.mem g1 g2 g3 [.int .i64 k, .str s, .int .i64 c0, .int .i64 c1, .str c2, .lst false 4 (c3.map Ex.av), .int .i64 d0, .int .i64 d1, .str d2, .lst false 4 (d3.map Ex.av), .int .i64 p0, .int .i64 p1, .str p2, .lst false 4 (p3.map Ex.av), .int .i64 q0, .int .i64 q1, .str q2, .lst false 4 (q3.map Ex.av), .lst false 19 (b.map Sm.av)] 19 [.int .i64 k, .str s, v2_0, v2_1, v2_2, v2_3, .int .i64 0, .int .i64 0, .str ByteArray.empty, .lst true 0 [], .int .i64 0, .int .i64 0, .str ByteArray.empty, .lst true 0 [], .int .i64 0, .int .i64 0, .str ByteArray.empty, .lst true 0 [], .lst true 0 []] F [.int .i64 k, .str s, v2_0, v2_1, v2_2, v2_3] [.int .i64 k, .str s, .int .i64 c0, .int .i64 c1, .str c2, .lst false 4 (c3.map Ex.av)]) ?_ ?_
  · refine AWp.region noP (by kernel_rfl) ?_
    simp [s1, s2, s3, C.b1, C.b3]
    refine aop_wcall _ _ _ _ _ _ _ _ rfl (eval_func _ _) ?_
    refine OCall.w (ec) fun r m' G hE hO hG hGd => ?_
    simp at hE hG
    have b3 := hE _ _ C.b3
    obtain ⟨rs, rfl, hOs, hok⟩ := own_agg hO
    have hlen := hOs.len
    obtain ⟨v2_0, v2_1, v2_2, v2_3, rfl⟩ : ∃ v2_0 v2_1 v2_2 v2_3, rs = [v2_0, v2_1, v2_2, v2_3] := by
      match rs, hlen with
      | [v2_0, v2_1, v2_2, v2_3], _ => exact ⟨_, _, _, _, rfl⟩
    have hok2 := hok
    simp only [List.all_cons, List.all_nil, Bool.and_eq_true, Bool.and_true] at hok2
    simp [s1, s2, s3, b3, hok2]
    exact ⟨_, v2_0, v2_1, v2_2, v2_3, by simpa using C.call n31 n32 hE hOs hok (by simpa using hG) hGd⟩
  clear C s1 s2 s3
  rintro u ⟨F2, v2_0, v2_1, v2_2, v2_3, s1, s2, s3, C⟩
  (repeat refine AWp.seq ?_); refine AWp.cutA (fun u => ∃ (F : Nat → Prop) (v3_0 v3_1 v3_2 v3_3 : AV), u.slots 1 = .ptr g1 0 ∧ u.slots 2 = .ptr g2 0 ∧ u.slots 3 = .ptr g3 0 ∧ Cpy u.mem g1 g2 g3 [.int .i64 k, .str s, .int .i64 c0, .int .i64 c1, .str c2, .lst false 4 (c3.map Ex.av), .int .i64 d0, .int .i64 d1, .str d2, .lst false 4 (d3.map Ex.av), .int .i64 p0, .int .i64 p1, .str p2, .lst false 4 (p3.map Ex.av), .int .i64 q0, .int .i64 q1, .str q2, .lst false 4 (q3.map Ex.av), .lst false 19 (b.map Sm.av)] 19 [.int .i64 k, .str s, v2_0, v2_1, v2_2, v2_3, v3_0, v3_1, v3_2, v3_3, .int .i64 0, .int .i64 0, .str ByteArray.empty, .lst true 0 [], .int .i64 0, .int .i64 0, .str ByteArray.empty, .lst true 0 [], .lst true 0 []] F [.int .i64 k, .str s, v2_0, v2_1, v2_2, v2_3, v3_0, v3_1, v3_2, v3_3] [.int .i64 k, .str s, .int .i64 c0, .int .i64 c1, .str c2, .lst false 4 (c3.map Ex.av), .int .i64 d0, .int .i64 d1, .str d2, .lst false 4 (d3.map Ex.av)]) ?_ ?_
  · refine AWp.region noP (by kernel_rfl) ?_
    simp [s1, s2, s3, C.b1, C.b3]
    refine aop_wcall _ _ _ _ _ _ _ _ rfl (eval_func _ _) ?_
    refine OCall.w (ed) fun r m' G hE hO hG hGd => ?_
    simp at hE hG
    have b3 := hE _ _ C.b3
    obtain ⟨rs, rfl, hOs, hok⟩ := own_agg hO
    have hlen := hOs.len
    obtain ⟨v3_0, v3_1, v3_2, v3_3, rfl⟩ : ∃ v3_0 v3_1 v3_2 v3_3, rs = [v3_0, v3_1, v3_2, v3_3] := by
      match rs, hlen with
      | [v3_0, v3_1, v3_2, v3_3], _ => exact ⟨_, _, _, _, rfl⟩
    have hok2 := hok
    simp only [List.all_cons, List.all_nil, Bool.and_eq_true, Bool.and_true] at hok2
    simp [s1, s2, s3, b3, hok2]
    exact ⟨_, v3_0, v3_1, v3_2, v3_3, by simpa using C.call n31 n32 hE hOs hok (by simpa using hG) hGd⟩
  clear C s1 s2 s3
  rintro u ⟨F3, v3_0, v3_1, v3_2, v3_3, s1, s2, s3, C⟩
  (repeat refine AWp.seq ?_); refine AWp.cutA (fun u => ∃ (F : Nat → Prop) (v4_0 v4_1 v4_2 v4_3 : AV), u.slots 1 = .ptr g1 0 ∧ u.slots 2 = .ptr g2 0 ∧ u.slots 3 = .ptr g3 0 ∧ Cpy u.mem g1 g2 g3 [.int .i64 k, .str s, .int .i64 c0, .int .i64 c1, .str c2, .lst false 4 (c3.map Ex.av), .int .i64 d0, .int .i64 d1, .str d2, .lst false 4 (d3.map Ex.av), .int .i64 p0, .int .i64 p1, .str p2, .lst false 4 (p3.map Ex.av), .int .i64 q0, .int .i64 q1, .str q2, .lst false 4 (q3.map Ex.av), .lst false 19 (b.map Sm.av)] 19 [.int .i64 k, .str s, v2_0, v2_1, v2_2, v2_3, v3_0, v3_1, v3_2, v3_3, v4_0, v4_1, v4_2, v4_3, .int .i64 0, .int .i64 0, .str ByteArray.empty, .lst true 0 [], .lst true 0 []] F [.int .i64 k, .str s, v2_0, v2_1, v2_2, v2_3, v3_0, v3_1, v3_2, v3_3, v4_0, v4_1, v4_2, v4_3] [.int .i64 k, .str s, .int .i64 c0, .int .i64 c1, .str c2, .lst false 4 (c3.map Ex.av), .int .i64 d0, .int .i64 d1, .str d2, .lst false 4 (d3.map Ex.av), .int .i64 p0, .int .i64 p1, .str p2, .lst false 4 (p3.map Ex.av)]) ?_ ?_
  · refine AWp.region noP (by kernel_rfl) ?_
    simp [s1, s2, s3, C.b1, C.b3]
    refine aop_wcall _ _ _ _ _ _ _ _ rfl (eval_func _ _) ?_
    refine OCall.w (ep) fun r m' G hE hO hG hGd => ?_
    simp at hE hG
    have b3 := hE _ _ C.b3
    obtain ⟨rs, rfl, hOs, hok⟩ := own_agg hO
    have hlen := hOs.len
    obtain ⟨v4_0, v4_1, v4_2, v4_3, rfl⟩ : ∃ v4_0 v4_1 v4_2 v4_3, rs = [v4_0, v4_1, v4_2, v4_3] := by
      match rs, hlen with
      | [v4_0, v4_1, v4_2, v4_3], _ => exact ⟨_, _, _, _, rfl⟩
    have hok2 := hok
    simp only [List.all_cons, List.all_nil, Bool.and_eq_true, Bool.and_true] at hok2
    simp [s1, s2, s3, b3, hok2]
    exact ⟨_, v4_0, v4_1, v4_2, v4_3, by simpa using C.call n31 n32 hE hOs hok (by simpa using hG) hGd⟩
  clear C s1 s2 s3
  rintro u ⟨F4, v4_0, v4_1, v4_2, v4_3, s1, s2, s3, C⟩
  (repeat refine AWp.seq ?_); refine AWp.cutA (fun u => ∃ (F : Nat → Prop) (v5_0 v5_1 v5_2 v5_3 : AV), u.slots 1 = .ptr g1 0 ∧ u.slots 2 = .ptr g2 0 ∧ u.slots 3 = .ptr g3 0 ∧ Cpy u.mem g1 g2 g3 [.int .i64 k, .str s, .int .i64 c0, .int .i64 c1, .str c2, .lst false 4 (c3.map Ex.av), .int .i64 d0, .int .i64 d1, .str d2, .lst false 4 (d3.map Ex.av), .int .i64 p0, .int .i64 p1, .str p2, .lst false 4 (p3.map Ex.av), .int .i64 q0, .int .i64 q1, .str q2, .lst false 4 (q3.map Ex.av), .lst false 19 (b.map Sm.av)] 19 [.int .i64 k, .str s, v2_0, v2_1, v2_2, v2_3, v3_0, v3_1, v3_2, v3_3, v4_0, v4_1, v4_2, v4_3, v5_0, v5_1, v5_2, v5_3, .lst true 0 []] F [.int .i64 k, .str s, v2_0, v2_1, v2_2, v2_3, v3_0, v3_1, v3_2, v3_3, v4_0, v4_1, v4_2, v4_3, v5_0, v5_1, v5_2, v5_3] [.int .i64 k, .str s, .int .i64 c0, .int .i64 c1, .str c2, .lst false 4 (c3.map Ex.av), .int .i64 d0, .int .i64 d1, .str d2, .lst false 4 (d3.map Ex.av), .int .i64 p0, .int .i64 p1, .str p2, .lst false 4 (p3.map Ex.av), .int .i64 q0, .int .i64 q1, .str q2, .lst false 4 (q3.map Ex.av)]) ?_ ?_
  · refine AWp.region noP (by kernel_rfl) ?_
    simp [s1, s2, s3, C.b1, C.b3]
    refine aop_wcall _ _ _ _ _ _ _ _ rfl (eval_func _ _) ?_
    refine OCall.w (eq) fun r m' G hE hO hG hGd => ?_
    simp at hE hG
    have b3 := hE _ _ C.b3
    obtain ⟨rs, rfl, hOs, hok⟩ := own_agg hO
    have hlen := hOs.len
    obtain ⟨v5_0, v5_1, v5_2, v5_3, rfl⟩ : ∃ v5_0 v5_1 v5_2 v5_3, rs = [v5_0, v5_1, v5_2, v5_3] := by
      match rs, hlen with
      | [v5_0, v5_1, v5_2, v5_3], _ => exact ⟨_, _, _, _, rfl⟩
    have hok2 := hok
    simp only [List.all_cons, List.all_nil, Bool.and_eq_true, Bool.and_true] at hok2
    simp [s1, s2, s3, b3, hok2]
    exact ⟨_, v5_0, v5_1, v5_2, v5_3, by simpa using C.call n31 n32 hE hOs hok (by simpa using hG) hGd⟩
  clear C s1 s2 s3
  rintro u ⟨F5, v5_0, v5_1, v5_2, v5_3, s1, s2, s3, C⟩
  (repeat refine AWp.seq ?_); refine AWp.cutA (fun u => ∃ (F : Nat → Prop) (v6_0 : AV), u.slots 1 = .ptr g1 0 ∧ u.slots 2 = .ptr g2 0 ∧ u.slots 3 = .ptr g3 0 ∧ Cpy u.mem g1 g2 g3 [.int .i64 k, .str s, .int .i64 c0, .int .i64 c1, .str c2, .lst false 4 (c3.map Ex.av), .int .i64 d0, .int .i64 d1, .str d2, .lst false 4 (d3.map Ex.av), .int .i64 p0, .int .i64 p1, .str p2, .lst false 4 (p3.map Ex.av), .int .i64 q0, .int .i64 q1, .str q2, .lst false 4 (q3.map Ex.av), .lst false 19 (b.map Sm.av)] 19 [.int .i64 k, .str s, v2_0, v2_1, v2_2, v2_3, v3_0, v3_1, v3_2, v3_3, v4_0, v4_1, v4_2, v4_3, v5_0, v5_1, v5_2, v5_3, v6_0] F [.int .i64 k, .str s, v2_0, v2_1, v2_2, v2_3, v3_0, v3_1, v3_2, v3_3, v4_0, v4_1, v4_2, v4_3, v5_0, v5_1, v5_2, v5_3, v6_0] [.int .i64 k, .str s, .int .i64 c0, .int .i64 c1, .str c2, .lst false 4 (c3.map Ex.av), .int .i64 d0, .int .i64 d1, .str d2, .lst false 4 (d3.map Ex.av), .int .i64 p0, .int .i64 p1, .str p2, .lst false 4 (p3.map Ex.av), .int .i64 q0, .int .i64 q1, .str q2, .lst false 4 (q3.map Ex.av), .lst false 19 (b.map Sm.av)]) ?_ ?_
  · refine AWp.region noP (by kernel_rfl) ?_
    simp [s1, s2, s3, C.b1, C.b3]
    refine aop_wcall _ _ _ _ _ _ _ _ rfl (eval_func _ _) ?_
    refine OCall.w (o_toStmtS b hl h) fun r m' G hE hO hG hGd => ?_
    simp at hE hG
    have b3 := hE _ _ C.b3
    have hok := hO.okc
    rcases own_row hO with ⟨f', e', rfl, hnil⟩ | ⟨g, n, c, rfl, hn, _⟩
    all_goals
      simp [s1, s2, s3, b3]
      exact ⟨_, _, by simpa using C.call n31 n32 hE (OwnTs.one hO) (by simp) (by simpa using hG) hGd⟩
  clear C s1 s2 s3
  rintro u ⟨F6, v6_0, s1, s2, s3, C⟩
  obtain ⟨c2, b2, hc2⟩ := C.b2
  have hok := C.ok
  simp only [List.all_cons, List.all_nil, Bool.and_eq_true, Bool.and_true] at hok
  (repeat refine AWp.seq ?_); refine AWp.region noP (by kernel_rfl) ?_
  simp [s1, s2, s3, C.b3, b2, hc2, hok]
  refine AWp.ret (post_cellO (F := F6) (q := .agg [.int .i64 k, .str s, v2_0, v2_1, v2_2, v2_3, v3_0, v3_1, v3_2, v3_3, v4_0, v4_1, v4_2, v4_3, v5_0, v5_1, v5_2, v5_3, v6_0]) (.inl rfl) rfl (by simp [s2, set_at]) ?_)
  simpa [s2] using C.done _
theorem o_toStmt (e : Sm) : e.tot ≤ 1048576 → OCall Tryz.prog 93 [e.av] e.av := by
  induction e using Sm.ind with | h k s a e lo hi b h =>
  intro ht
  rw [Sm.tot_mk] at ht
  have hl := totL_len Sm.tot b
  obtain ⟨c0, c1, c2, c3⟩ := a
  obtain ⟨d0, d1, d2, d3⟩ := e
  obtain ⟨p0, p1, p2, p3⟩ := lo
  obtain ⟨q0, q1, q2, q3⟩ := hi
  exact o_toStmt0 k s _ _ _ _ _ _ _ _ _ _ _ _ _ _ _ _ b (by omega) (by omega) (by omega) (by omega) (by omega) (fun x hx => h x hx (by have := totL_mem Sm.tot hx; omega))
theorem o_toProg0 (p : Pg) (ht : p.tot ≤ 1048576) : OCall Tryz.prog 14 [p.av] p.av := by
  have h1 := totL_len Ar.tot p.arrs
  have h2 := totL_len Sm.tot p.body
  have h3 : p.tot = totL Ar.tot p.arrs + totL Sm.tot p.body := rfl
  unfold Pg.av Pg.cells
  refine wcall_of Tryz.func14 (by kernel_rfl) rfl (by simp [Tryz.f14]) ?_
  (repeat refine AWp.seq ?_); refine AWp.region noP (by kernel_rfl) ?_
  simp [set_at]
  intro g1 g2 h2
  have n21 : g2 ≠ g1 := fun e => by simp [e] at h2
  have m12 := n21.symm
  (repeat refine AWp.seq ?_); refine AWp.cutA (fun u => ∃ g3, g3 ≠ g1 ∧ g3 ≠ g2 ∧ u.slots 1 = .ptr g1 0 ∧ u.slots 2 = .ptr g2 0 ∧ u.slots 3 = .ptr g3 0 ∧ Cpy u.mem g1 g2 g3 [.lst false 2 (p.arrs.map Ar.av), .lst false 19 (p.body.map Sm.av)] 2 [.lst true 0 [], .lst true 0 []] (fun _ => False) [] []) ?_ ?_
  · refine AWp.region noP (by kernel_rfl) ?_
    simp [set_at]
    intro g3 h3
    have n32 : g3 ≠ g2 := fun e => by simp [e] at h3
    have n31 : g3 ≠ g1 := fun e => by simp [e, m12] at h3
    have m23 := n32.symm
    have m13 := n31.symm
    exact ⟨g3, n31, n32, rfl, Cpy.start (c2 := [.lst true 0 [], .lst true 0 []]) (by simp [set_at, n21, n32, n31, m12, m23, m13]) (by simp [set_at, n21, n32, n31, m12, m23, m13]) rfl (by simp [set_at, n21, n32, n31, m12, m23, m13])⟩
  rintro u ⟨g3, n31, n32, s1, s2, s3, C⟩
  (repeat refine AWp.seq ?_); refine AWp.cutA (fun u => ∃ (F : Nat → Prop) (v0_0 : AV), u.slots 1 = .ptr g1 0 ∧ u.slots 2 = .ptr g2 0 ∧ u.slots 3 = .ptr g3 0 ∧ Cpy u.mem g1 g2 g3 [.lst false 2 (p.arrs.map Ar.av), .lst false 19 (p.body.map Sm.av)] 2 [v0_0, .lst true 0 []] F [v0_0] [.lst false 2 (p.arrs.map Ar.av)]) ?_ ?_
  · refine AWp.region noP (by kernel_rfl) ?_
    simp [s1, s2, s3, C.b1, C.b3]
    refine aop_wcall _ _ _ _ _ _ _ _ rfl (eval_func _ _) ?_
    refine OCall.w (o_toArrS p.arrs (by omega) (fun x _ => o_toArr0 x)) fun r m' G hE hO hG hGd => ?_
    simp at hE hG
    have b3 := hE _ _ C.b3
    have hok := hO.okc
    rcases own_row hO with ⟨f', e', rfl, hnil⟩ | ⟨g, n, c, rfl, hn, _⟩
    all_goals
      simp [s1, s2, s3, b3]
      exact ⟨_, _, by simpa using C.call n31 n32 hE (OwnTs.one hO) (by simp) (by simpa using hG) hGd⟩
  clear C s1 s2 s3
  rintro u ⟨F0, v0_0, s1, s2, s3, C⟩
  (repeat refine AWp.seq ?_); refine AWp.cutA (fun u => ∃ (F : Nat → Prop) (v1_0 : AV), u.slots 1 = .ptr g1 0 ∧ u.slots 2 = .ptr g2 0 ∧ u.slots 3 = .ptr g3 0 ∧ Cpy u.mem g1 g2 g3 [.lst false 2 (p.arrs.map Ar.av), .lst false 19 (p.body.map Sm.av)] 2 [v0_0, v1_0] F [v0_0, v1_0] [.lst false 2 (p.arrs.map Ar.av), .lst false 19 (p.body.map Sm.av)]) ?_ ?_
  · refine AWp.region noP (by kernel_rfl) ?_
    simp [s1, s2, s3, C.b1, C.b3]
    refine aop_wcall _ _ _ _ _ _ _ _ rfl (eval_func _ _) ?_
    refine OCall.w (o_toStmtS p.body (by omega) (fun x hx => o_toStmt x (by have := totL_mem Sm.tot hx; omega))) fun r m' G hE hO hG hGd => ?_
    simp at hE hG
    have b3 := hE _ _ C.b3
    have hok := hO.okc
    rcases own_row hO with ⟨f', e', rfl, hnil⟩ | ⟨g, n, c, rfl, hn, _⟩
    all_goals
      simp [s1, s2, s3, b3]
      exact ⟨_, _, by simpa using C.call n31 n32 hE (OwnTs.one hO) (by simp) (by simpa using hG) hGd⟩
  clear C s1 s2 s3
  rintro u ⟨F1, v1_0, s1, s2, s3, C⟩
  obtain ⟨c2, b2, hc2⟩ := C.b2
  have hok := C.ok
  simp only [List.all_cons, List.all_nil, Bool.and_eq_true, Bool.and_true] at hok
  (repeat refine AWp.seq ?_); refine AWp.region noP (by kernel_rfl) ?_
  simp [s1, s2, s3, C.b3, b2, hc2, hok]
  refine AWp.ret (post_cellO (F := F1) (q := .agg [v0_0, v1_0]) (.inl rfl) rfl (by simp [s2, set_at]) ?_)
  simpa [s2] using C.done _
end Go.T
namespace Go.T
open Go Go.Proofs
set_option maxRecDepth 10000
set_option linter.unusedSimpArgs false
set_option linter.unusedVariables false
theorem c_heldIntS (l : List Int) (k k' : Int) (h0 : 0 < k) (hb : k' ≤ 4611686018427387904) (h : Held (l.map (AV.int .i64)) k k') : PCall Tryz.prog 79 [.lst false 1 (l.map (AV.int .i64)), .int .i64 k] (.int .i64 k') := by
  refine pcall_of Tryz.func79 (by kernel_rfl) rfl (by simp [Tryz.f79]) ?_
  have hcl := cnts_len (f := (AV.int .i64)) (fun x => by simp [AV.cnt]) l
  have hct := h.count
  (repeat refine AWp.seq ?_); refine AWp.region noP (by kernel_rfl) ?_
  try simp
  (repeat refine AWp.seq ?_); refine AWp.region noP (by kernel_rfl) ?_
  try simp
  (repeat refine AWp.seq ?_); refine AWp.block (AWp.rounds (fun q st => ∃ (i : Nat) (ki : Int), q = l.length - i ∧ i ≤ l.length ∧ k ≤ ki ∧ Held ((l.drop i).map (AV.int .i64)) ki k' ∧ st.slots 0 = .lst false 1 (l.map (AV.int .i64)) ∧ st.slots 1 = .int .i64 ki ∧ st.slots 5 = .int .i64 i) l.length ⟨0, k, by simp, by simp, by omega, by simpa using h, by simp, by simp, by simp⟩ ?_)
  rintro R q st hR ⟨i, ki, rfl, hi, hki, hH, s0, s1, s5⟩
  (repeat refine AWp.seq ?_); refine AWp.region noP (by kernel_rfl) ?_
  simp [s0, s5]
  (repeat refine AWp.seq ?_); refine AWp.cond (b := decide (i < l.length)) (by simp) (fun hlt => ?_) (fun hlt => ?_)
  rotate_left
  · simp at hlt
    rw [List.drop_eq_nil_of_le hlt] at hH
    have hke := Held.nil_inv hH
    subst hke
    refine AWp.exit ?_
    try simp
    (repeat refine AWp.seq ?_); refine AWp.region noP (by kernel_rfl) ?_
    simp [s1]
    exact AWp.ret (post_ret1 rfl (by simp))
  simp at hlt
  have hdr : l.drop i = l[i] :: l.drop (i + 1) := List.drop_eq_getElem_cons hlt
  have hmem := List.getElem_mem hlt
  have hwi : IntKind.wrap .i64 ((i : Int) + 1) = (i + 1 : Nat) := wrap64 (by omega) (by omega)
  rw [hdr, List.map_cons] at hH
  have hx : idxA Tryz.prog st.mem 41 (.lst false 1 (l.map (AV.int .i64))) (.int .i64 i) = some (.ref [(AV.int .i64) l[i]]) := idx (y := (AV.int .i64) l[i]) es_41 (by simp [hlt])
  have hH1 := hH
  refine AWp.skip ?_
  try simp
  (repeat refine AWp.seq ?_); refine AWp.block ?_
  obtain ⟨e0, hH1⟩ := hH1.int_inv
  have hle0 := hH1.le
  have hz2 := hH1
  (repeat refine AWp.seq ?_); refine AWp.region noP (by kernel_rfl) ?_
  simp [s0, s1, s5, hx, e0]
  (repeat refine AWp.seq ?_); refine AWp.condF (by simp) ?_
  refine AWp.skip ?_
  try simp
  have hw0 : IntKind.wrap .i64 (ki + 1) = ki + 1 := wrap64 (by omega) (by omega)
  (repeat refine AWp.seq ?_); refine AWp.region noP (by kernel_rfl) ?_
  simp [s0, s1, s5, hx, hw0]
  (repeat refine AWp.seq ?_); refine AWp.region noP (by kernel_rfl) ?_
  simp [s0, s1, s5, hx, hw0, hwi]
  exact hR _ (l.length - (i + 1)) (by omega) ⟨i + 1, ki + 1, rfl, hlt, by omega, hH1, by simp [s0], by simp [s0, s1, s5, hx, hw0], by simp⟩
theorem c_heldPutS (l : List Pu) (k k' : Int) (h0 : 0 < k) (hb : k' ≤ 4611686018427387904) (h : Held (l.map Pu.av) k k') : PCall Tryz.prog 111 [.lst false 2 (l.map Pu.av), .int .i64 k] (.int .i64 k') := by
  refine pcall_of Tryz.func111 (by kernel_rfl) rfl (by simp [Tryz.f111]) ?_
  have hcl := cnts_len (f := Pu.av) (fun x => by simp [Pu.av, Pu.cells, AV.cnt, AV.cnts]) l
  have hct := h.count
  (repeat refine AWp.seq ?_); refine AWp.region noP (by kernel_rfl) ?_
  try simp
  (repeat refine AWp.seq ?_); refine AWp.region noP (by kernel_rfl) ?_
  try simp
  (repeat refine AWp.seq ?_); refine AWp.block (AWp.rounds (fun q st => ∃ (i : Nat) (ki : Int), q = l.length - i ∧ i ≤ l.length ∧ k ≤ ki ∧ Held ((l.drop i).map Pu.av) ki k' ∧ st.slots 0 = .lst false 2 (l.map Pu.av) ∧ st.slots 1 = .int .i64 ki ∧ st.slots 5 = .int .i64 i) l.length ⟨0, k, by simp, by simp, by omega, by simpa using h, by simp, by simp, by simp⟩ ?_)
  rintro R q st hR ⟨i, ki, rfl, hi, hki, hH, s0, s1, s5⟩
  (repeat refine AWp.seq ?_); refine AWp.region noP (by kernel_rfl) ?_
  simp [s0, s5]
  (repeat refine AWp.seq ?_); refine AWp.cond (b := decide (i < l.length)) (by simp) (fun hlt => ?_) (fun hlt => ?_)
  rotate_left
  · simp at hlt
    rw [List.drop_eq_nil_of_le hlt] at hH
    have hke := Held.nil_inv hH
    subst hke
    refine AWp.exit ?_
    try simp
    (repeat refine AWp.seq ?_); refine AWp.region noP (by kernel_rfl) ?_
    simp [s1]
    exact AWp.ret (post_ret1 rfl (by simp))
  simp at hlt
  have hdr : l.drop i = l[i] :: l.drop (i + 1) := List.drop_eq_getElem_cons hlt
  have hmem := List.getElem_mem hlt
  have hwi : IntKind.wrap .i64 ((i : Int) + 1) = (i + 1 : Nat) := wrap64 (by omega) (by omega)
  rw [hdr, List.map_cons] at hH
  have hq : (l.map Pu.av)[i]? = some (Pu.av l[i]) := by simp [hlt]
  rcases hx0 : l[i] with ⟨b0, b1⟩
  rw [hx0] at hH hmem hq
  have hav : Pu.av (Pu.mk b0 b1) = .agg [.int .i64 b0, .int .i64 b1] := by simp [Pu.av, Pu.cells]
  rw [hav] at hH hq
  have hx : idxA Tryz.prog st.mem 81 (.lst false 2 (l.map Pu.av)) (.int .i64 i) = some (.ref [.int .i64 b0, .int .i64 b1]) := idx (y := .agg [.int .i64 b0, .int .i64 b1]) es_81 hq
  obtain ⟨kz, hH1, hH2⟩ := hH.agg_inv
  have hlz := hH2.le
  refine AWp.skip ?_
  try simp
  (repeat refine AWp.seq ?_); refine AWp.block ?_
  obtain ⟨e0, hH1⟩ := hH1.int_inv
  have hle0 := hH1.le
  (repeat refine AWp.seq ?_); refine AWp.region noP (by kernel_rfl) ?_
  simp [s0, s1, s5, hx, e0]
  (repeat refine AWp.seq ?_); refine AWp.condF (by simp) ?_
  refine AWp.skip ?_
  try simp
  have hw0 : IntKind.wrap .i64 (ki + 1) = ki + 1 := wrap64 (by omega) (by omega)
  (repeat refine AWp.seq ?_); refine AWp.region noP (by kernel_rfl) ?_
  simp [s0, s1, s5, hx, hw0]
  obtain ⟨e1, hH1⟩ := hH1.int_inv
  have hle1 := hH1.le
  (repeat refine AWp.seq ?_); refine AWp.region noP (by kernel_rfl) ?_
  simp [s0, s1, s5, hx, hw0, e1]
  (repeat refine AWp.seq ?_); refine AWp.condF (by simp) ?_
  refine AWp.skip ?_
  try simp
  have hw1 : IntKind.wrap .i64 (ki + 1 + 1) = ki + 1 + 1 := wrap64 (by omega) (by omega)
  (repeat refine AWp.seq ?_); refine AWp.region noP (by kernel_rfl) ?_
  simp [s0, s1, s5, hx, hw0, hw1]
  have hz := Held.nil_inv hH1
  subst hz
  (repeat refine AWp.seq ?_); refine AWp.region noP (by kernel_rfl) ?_
  simp [s0, s1, s5, hx, hw0, hw1, hwi]
  exact hR _ (l.length - (i + 1)) (by omega) ⟨i + 1, ki + 1 + 1, rfl, hlt, by omega, hH2, by simp [s0], by simp [s0, s1, s5, hx, hw0, hw1], by simp⟩
theorem c_heldHandS (l : List Hd) (k k' : Int) (h0 : 0 < k) (hb : k' ≤ 4611686018427387904) (h : Held (l.map Hd.av) k k') : PCall Tryz.prog 80 [.lst false 6 (l.map Hd.av), .int .i64 k] (.int .i64 k') := by
  refine pcall_of Tryz.func80 (by kernel_rfl) rfl (by simp [Tryz.f80]) ?_
  have hcl := cnts_len (f := Hd.av) (fun x => by cases x; simp [Hd.av, Hd.cells, ints, AV.cnt, AV.cnts]; try omega) l
  have hct := h.count
  (repeat refine AWp.seq ?_); refine AWp.region noP (by kernel_rfl) ?_
  try simp
  (repeat refine AWp.seq ?_); refine AWp.region noP (by kernel_rfl) ?_
  try simp
  (repeat refine AWp.seq ?_); refine AWp.block (AWp.rounds (fun q st => ∃ (i : Nat) (ki : Int), q = l.length - i ∧ i ≤ l.length ∧ k ≤ ki ∧ Held ((l.drop i).map Hd.av) ki k' ∧ st.slots 0 = .lst false 6 (l.map Hd.av) ∧ st.slots 1 = .int .i64 ki ∧ st.slots 5 = .int .i64 i) l.length ⟨0, k, by simp, by simp, by omega, by simpa using h, by simp, by simp, by simp⟩ ?_)
  rintro R q st hR ⟨i, ki, rfl, hi, hki, hH, s0, s1, s5⟩
  (repeat refine AWp.seq ?_); refine AWp.region noP (by kernel_rfl) ?_
  simp [s0, s5]
  (repeat refine AWp.seq ?_); refine AWp.cond (b := decide (i < l.length)) (by simp) (fun hlt => ?_) (fun hlt => ?_)
  rotate_left
  · simp at hlt
    rw [List.drop_eq_nil_of_le hlt] at hH
    have hke := Held.nil_inv hH
    subst hke
    refine AWp.exit ?_
    try simp
    (repeat refine AWp.seq ?_); refine AWp.region noP (by kernel_rfl) ?_
    simp [s1]
    exact AWp.ret (post_ret1 rfl (by simp))
  simp at hlt
  have hdr : l.drop i = l[i] :: l.drop (i + 1) := List.drop_eq_getElem_cons hlt
  have hmem := List.getElem_mem hlt
  have hwi : IntKind.wrap .i64 ((i : Int) + 1) = (i + 1 : Nat) := wrap64 (by omega) (by omega)
  rw [hdr, List.map_cons] at hH
  have hq : (l.map Hd.av)[i]? = some (Hd.av l[i]) := by simp [hlt]
  rcases hx0 : l[i] with ⟨b0, b1, b2, b3, b4, b5⟩
  rw [hx0] at hH hmem hq
  have hav : Hd.av (Hd.mk b0 b1 b2 b3 b4 b5) = .agg [.int .i64 b0, .lst false 1 (b1.map (AV.int .i64)), .lst false 1 (b2.map (AV.int .i64)), .lst false 2 (b3.map Pu.av), .bool b4, .bool b5] := by simp [Hd.av, Hd.cells, ints]
  rw [hav] at hH hq
  have hx : idxA Tryz.prog st.mem 47 (.lst false 6 (l.map Hd.av)) (.int .i64 i) = some (.ref [.int .i64 b0, .lst false 1 (b1.map (AV.int .i64)), .lst false 1 (b2.map (AV.int .i64)), .lst false 2 (b3.map Pu.av), .bool b4, .bool b5]) := idx (y := .agg [.int .i64 b0, .lst false 1 (b1.map (AV.int .i64)), .lst false 1 (b2.map (AV.int .i64)), .lst false 2 (b3.map Pu.av), .bool b4, .bool b5]) es_47 hq
  obtain ⟨kz, hH1, hH2⟩ := hH.agg_inv
  have hlz := hH2.le
  refine AWp.skip ?_
  try simp
  (repeat refine AWp.seq ?_); refine AWp.block ?_
  obtain ⟨e0, hH1⟩ := hH1.int_inv
  have hle0 := hH1.le
  (repeat refine AWp.seq ?_); refine AWp.region noP (by kernel_rfl) ?_
  simp [s0, s1, s5, hx, e0]
  (repeat refine AWp.seq ?_); refine AWp.condF (by simp) ?_
  refine AWp.skip ?_
  try simp
  have hw0 : IntKind.wrap .i64 (ki + 1) = ki + 1 := wrap64 (by omega) (by omega)
  (repeat refine AWp.seq ?_); refine AWp.region noP (by kernel_rfl) ?_
  simp [s0, s1, s5, hx, hw0]
  obtain ⟨k1, hr1, hH1⟩ := hH1.lst_inv
  have hle1 := hH1.le
  have hlr1 := hr1.le
  (repeat refine AWp.seq ?_); refine AWp.region allP (by kernel_rfl) ?_
  simp [s0, s1, s5, hx, hw0]
  refine aop_call' (c_heldIntS _ (ki + 1) k1 (by omega) (by omega) hr1) ?_
  simp [s0, s1, s5, hx, hw0]
  (repeat refine AWp.seq ?_); refine AWp.region noP (by kernel_rfl) ?_
  simp [s0, s1, s5, hx, hw0]
  (repeat refine AWp.seq ?_); refine AWp.condF (by simp; omega) ?_
  refine AWp.skip ?_
  try simp
  obtain ⟨k2, hr2, hH1⟩ := hH1.lst_inv
  have hle2 := hH1.le
  have hlr2 := hr2.le
  (repeat refine AWp.seq ?_); refine AWp.region allP (by kernel_rfl) ?_
  simp [s0, s1, s5, hx, hw0]
  refine aop_call' (c_heldIntS _ (k1) k2 (by omega) (by omega) hr2) ?_
  simp [s0, s1, s5, hx, hw0]
  (repeat refine AWp.seq ?_); refine AWp.region noP (by kernel_rfl) ?_
  simp [s0, s1, s5, hx, hw0]
  (repeat refine AWp.seq ?_); refine AWp.condF (by simp; omega) ?_
  refine AWp.skip ?_
  try simp
  obtain ⟨k3, hr3, hH1⟩ := hH1.lst_inv
  have hle3 := hH1.le
  have hlr3 := hr3.le
  (repeat refine AWp.seq ?_); refine AWp.region allP (by kernel_rfl) ?_
  simp [s0, s1, s5, hx, hw0]
  refine aop_call' (c_heldPutS _ (k2) k3 (by omega) (by omega) hr3) ?_
  simp [s0, s1, s5, hx, hw0]
  (repeat refine AWp.seq ?_); refine AWp.region noP (by kernel_rfl) ?_
  simp [s0, s1, s5, hx, hw0]
  (repeat refine AWp.seq ?_); refine AWp.condF (by simp; omega) ?_
  refine AWp.skip ?_
  try simp
  obtain ⟨e4, hH1⟩ := hH1.bool_inv
  have hle4 := hH1.le
  (repeat refine AWp.seq ?_); refine AWp.region noP (by kernel_rfl) ?_
  simp [s0, s1, s5, hx, hw0, e4]
  try simp [binA, eqO, eqA]
  (repeat refine AWp.seq ?_); refine AWp.condF (by simp) ?_
  refine AWp.skip ?_
  try simp
  have hw4 : IntKind.wrap .i64 (k3 + 1) = k3 + 1 := wrap64 (by omega) (by omega)
  (repeat refine AWp.seq ?_); refine AWp.region noP (by kernel_rfl) ?_
  simp [s0, s1, s5, hx, hw0, hw4]
  obtain ⟨e5, hH1⟩ := hH1.bool_inv
  have hle5 := hH1.le
  (repeat refine AWp.seq ?_); refine AWp.region noP (by kernel_rfl) ?_
  simp [s0, s1, s5, hx, hw0, hw4, e5]
  try simp [binA, eqO, eqA]
  (repeat refine AWp.seq ?_); refine AWp.condF (by simp) ?_
  refine AWp.skip ?_
  try simp
  have hw5 : IntKind.wrap .i64 (k3 + 1 + 1) = k3 + 1 + 1 := wrap64 (by omega) (by omega)
  (repeat refine AWp.seq ?_); refine AWp.region noP (by kernel_rfl) ?_
  simp [s0, s1, s5, hx, hw0, hw4, hw5]
  have hz := Held.nil_inv hH1
  subst hz
  (repeat refine AWp.seq ?_); refine AWp.region noP (by kernel_rfl) ?_
  simp [s0, s1, s5, hx, hw0, hw4, hw5, hwi]
  exact hR _ (l.length - (i + 1)) (by omega) ⟨i + 1, k3 + 1 + 1, rfl, hlt, by omega, hH2, by simp [s0], by simp [s0, s1, s5, hx, hw0, hw4, hw5], by simp⟩
end Go.T
namespace Go.T
open Go Go.Proofs
set_option maxRecDepth 10000
set_option linter.unusedSimpArgs false
set_option linter.unusedVariables false
theorem c_markProg (p : Pg) {m : Mem} {F : Nat → Prop} {v : AV} (h : OwnT m F v p.av) (k : Int) (h0 : 0 < k) (hb : k + (AV.cnts (p.arrs.map Ar.av) : Int) + (AV.cnts (p.body.map Sm.av) : Int) ≤ 4611686018427387904) {K : AV → Mem → Prop}
    (hK : ∀ m' (l0 : List Ar) (l1 : List Sm), (∀ b x, ¬ F b → m b = some x → m' b = some x) → OwnT m' F v (Pg.av (Pg.mk l0 l1)) → Held [.lst false 2 (l0.map Ar.av), .lst false 19 (l1.map Sm.av)] k (k + (AV.cnts (p.arrs.map Ar.av) : Int) + (AV.cnts (p.body.map Sm.av) : Int)) → K (.int .i64 (k + (AV.cnts (p.arrs.map Ar.av) : Int) + (AV.cnts (p.body.map Sm.av) : Int))) m') : WCall Tryz.prog 36 [v, .int .i64 k] m K := by
  obtain ⟨G, hG, hGF, hGd⟩ := h.dom
  unfold Pg.av Pg.cells at hG
  obtain ⟨cs0, rfl, hT, hok⟩ := own_agg hG
  obtain ⟨a0, a1, rfl⟩ : ∃ a0 a1, cs0 = [a0, a1] := by
    match cs0, hT.len with
    | [a0, a1], _ => exact ⟨_, _, rfl⟩
  have hok2 := hok
  simp only [List.all_cons, List.all_nil, Bool.and_eq_true, Bool.and_true] at hok2
  refine wcall_of Tryz.func36 (by kernel_rfl) rfl (by simp [Tryz.f36]) ?_
  (repeat refine AWp.seq ?_); refine AWp.region noP (by kernel_rfl) ?_
  simp
  intro g1 h1
  have f1 : ¬ G g1 := fun hg => hGd g1 hg h1
  have b1 := set_same m g1 (.box [a0, a1])
  have o1 : ∀ b x, m b = some x → (m.set g1 (.box [a0, a1])) b = some x := fun b x hx => by rw [set_at, if_neg]; exact hx; rintro rfl; rw [h1] at hx; cases hx
  replace hT := hT.mem (m' := m.set g1 (.box [a0, a1])) fun b hb => by rw [set_at, if_neg]; rintro rfl; exact f1 hb
  generalize m.set g1 (.box [a0, a1]) = m0 at *
  obtain ⟨A0, x0, hxo0, hown0, hsub0, hupd0⟩ := hT.call (o := 0) (by simp)
  obtain rfl := (Option.some.inj hxo0)
  simp only [List.getElem_cons_succ, List.getElem_cons_zero] at hown0 hupd0
  (repeat refine AWp.seq ?_); refine AWp.region noP (by kernel_rfl) ?_
  simp [b1]
  refine aop_wcall _ _ _ _ _ _ _ _ rfl (eval_func _ _) ?_
  refine (c_markArrS0 p.arrs) _ _ _ _ hown0 (k) (by omega) (by omega) _ fun m1 l0 hout0 ho0 hh0 => ?_
  simp
  have hT := hupd0 m1 _ hout0 ho0
  simp only [List.set_cons_zero, List.set_cons_succ] at hT
  have b1 := (hout0 g1 (fun hg => f1 (hsub0 _ hg))).trans b1
  obtain ⟨A1, x1, hxo1, hown1, hsub1, hupd1⟩ := hT.call (o := 1) (by simp)
  obtain rfl := (Option.some.inj hxo1)
  simp only [List.getElem_cons_succ, List.getElem_cons_zero] at hown1 hupd1
  (repeat refine AWp.seq ?_); refine AWp.region noP (by kernel_rfl) ?_
  simp [b1]
  refine aop_wcall _ _ _ _ _ _ _ _ rfl (eval_func _ _) ?_
  refine (c_markStmtS p.body) _ _ _ _ hown1 (k + (AV.cnts (p.arrs.map Ar.av) : Int)) (by omega) (by omega) _ fun m2 l1 hout1 ho1 hh1 => ?_
  simp
  have hT := hupd1 m2 _ hout1 ho1
  simp only [List.set_cons_zero, List.set_cons_succ] at hT
  have b1 := (hout1 g1 (fun hg => f1 (hsub1 _ hg))).trans b1
  (repeat refine AWp.seq ?_); refine AWp.region noP (by kernel_rfl) ?_
  simp
  refine AWp.ret (post_retW rfl ⟨_, _, View.refl _ _, ?_⟩)
  simp
  refine hK _ l0 l1 (fun b x hF hx => ?_) ((OwnT.agg hT hok).up hGF) (.lst hh0 (.lst hh1 (.nil _)))
  have := o1 b x hx
  simp only [hout1 b (fun hg => hF (hGF b (hsub1 b hg))), hout0 b (fun hg => hF (hGF b (hsub0 b hg))), this]
theorem c_markMach (c : Mc) {m : Mem} {F : Nat → Prop} {v : AV} (h : OwnT m F v c.av) (k : Int) (h0 : 0 < k) (hb : k + (AV.cnts (c.mem.map (AV.int .i64)) : Int) + (AV.cnts (c.hands.map Hd.av) : Int) + (AV.cnts (c.out.map (AV.int .i64)) : Int) ≤ 4611686018427387904) {K : AV → Mem → Prop}
    (hK : ∀ m' (l0 : List Int) (l1 : List Hd) (l2 : List Int), (∀ b x, ¬ F b → m b = some x → m' b = some x) → OwnT m' F v (Mc.av (Mc.mk l0 l1 l2 c.trap)) → Held [.lst false 1 (l0.map (AV.int .i64)), .lst false 6 (l1.map Hd.av), .lst false 1 (l2.map (AV.int .i64))] k (k + (AV.cnts (c.mem.map (AV.int .i64)) : Int) + (AV.cnts (c.hands.map Hd.av) : Int) + (AV.cnts (c.out.map (AV.int .i64)) : Int)) → K (.int .i64 (k + (AV.cnts (c.mem.map (AV.int .i64)) : Int) + (AV.cnts (c.hands.map Hd.av) : Int) + (AV.cnts (c.out.map (AV.int .i64)) : Int))) m') : WCall Tryz.prog 37 [v, .int .i64 k] m K := by
  obtain ⟨G, hG, hGF, hGd⟩ := h.dom
  unfold Mc.av Mc.cells ints at hG
  obtain ⟨cs0, rfl, hT, hok⟩ := own_agg hG
  obtain ⟨a0, a1, a2, a3, rfl⟩ : ∃ a0 a1 a2 a3, cs0 = [a0, a1, a2, a3] := by
    match cs0, hT.len with
    | [a0, a1, a2, a3], _ => exact ⟨_, _, _, _, rfl⟩
  have hok2 := hok
  simp only [List.all_cons, List.all_nil, Bool.and_eq_true, Bool.and_true] at hok2
  refine wcall_of Tryz.func37 (by kernel_rfl) rfl (by simp [Tryz.f37]) ?_
  (repeat refine AWp.seq ?_); refine AWp.region noP (by kernel_rfl) ?_
  simp
  intro g1 h1
  have f1 : ¬ G g1 := fun hg => hGd g1 hg h1
  have b1 := set_same m g1 (.box [a0, a1, a2, a3])
  have o1 : ∀ b x, m b = some x → (m.set g1 (.box [a0, a1, a2, a3])) b = some x := fun b x hx => by rw [set_at, if_neg]; exact hx; rintro rfl; rw [h1] at hx; cases hx
  replace hT := hT.mem (m' := m.set g1 (.box [a0, a1, a2, a3])) fun b hb => by rw [set_at, if_neg]; rintro rfl; exact f1 hb
  generalize m.set g1 (.box [a0, a1, a2, a3]) = m0 at *
  obtain ⟨A0, x0, hxo0, hown0, hsub0, hupd0⟩ := hT.call (o := 0) (by simp)
  obtain rfl := (Option.some.inj hxo0)
  simp only [List.getElem_cons_succ, List.getElem_cons_zero] at hown0 hupd0
  (repeat refine AWp.seq ?_); refine AWp.region noP (by kernel_rfl) ?_
  simp [b1]
  refine aop_wcall _ _ _ _ _ _ _ _ rfl (eval_func _ _) ?_
  refine (c_markIntS c.mem) _ _ _ _ hown0 (k) (by omega) (by omega) _ fun m1 l0 hout0 ho0 hh0 => ?_
  simp
  have hT := hupd0 m1 _ hout0 ho0
  simp only [List.set_cons_zero, List.set_cons_succ] at hT
  have b1 := (hout0 g1 (fun hg => f1 (hsub0 _ hg))).trans b1
  obtain ⟨A1, x1, hxo1, hown1, hsub1, hupd1⟩ := hT.call (o := 1) (by simp)
  obtain rfl := (Option.some.inj hxo1)
  simp only [List.getElem_cons_succ, List.getElem_cons_zero] at hown1 hupd1
  (repeat refine AWp.seq ?_); refine AWp.region noP (by kernel_rfl) ?_
  simp [b1]
  refine aop_wcall _ _ _ _ _ _ _ _ rfl (eval_func _ _) ?_
  refine (c_markHandS0 c.hands) _ _ _ _ hown1 (k + (AV.cnts (c.mem.map (AV.int .i64)) : Int)) (by omega) (by omega) _ fun m2 l1 hout1 ho1 hh1 => ?_
  simp
  have hT := hupd1 m2 _ hout1 ho1
  simp only [List.set_cons_zero, List.set_cons_succ] at hT
  have b1 := (hout1 g1 (fun hg => f1 (hsub1 _ hg))).trans b1
  obtain ⟨A2, x2, hxo2, hown2, hsub2, hupd2⟩ := hT.call (o := 2) (by simp)
  obtain rfl := (Option.some.inj hxo2)
  simp only [List.getElem_cons_succ, List.getElem_cons_zero] at hown2 hupd2
  (repeat refine AWp.seq ?_); refine AWp.region noP (by kernel_rfl) ?_
  simp [b1]
  refine aop_wcall _ _ _ _ _ _ _ _ rfl (eval_func _ _) ?_
  refine (c_markIntS c.out) _ _ _ _ hown2 (k + (AV.cnts (c.mem.map (AV.int .i64)) : Int) + (AV.cnts (c.hands.map Hd.av) : Int)) (by omega) (by omega) _ fun m3 l2 hout2 ho2 hh2 => ?_
  simp
  have hT := hupd2 m3 _ hout2 ho2
  simp only [List.set_cons_zero, List.set_cons_succ] at hT
  have b1 := (hout2 g1 (fun hg => f1 (hsub2 _ hg))).trans b1
  (repeat refine AWp.seq ?_); refine AWp.region noP (by kernel_rfl) ?_
  simp
  refine AWp.ret (post_retW rfl ⟨_, _, View.refl _ _, ?_⟩)
  simp
  refine hK _ l0 l1 l2 (fun b x hF hx => ?_) ((OwnT.agg hT hok).up hGF) (.lst hh0 (.lst hh1 (.lst hh2 (.nil _))))
  have := o1 b x hx
  simp only [hout2 b (fun hg => hF (hGF b (hsub2 b hg))), hout1 b (fun hg => hF (hGF b (hsub1 b hg))), hout0 b (fun hg => hF (hGF b (hsub0 b hg))), this]
theorem c_heldMach (c : Mc) (k k' : Int) (h0 : 0 < k) (hb : k' ≤ 4611686018427387904) (h : Held [.lst false 1 (c.mem.map (AV.int .i64)), .lst false 6 (c.hands.map Hd.av), .lst false 1 (c.out.map (AV.int .i64))] k k') : PCall Tryz.prog 38 [c.av, .int .i64 k] (.int .i64 k') := by
  obtain ⟨k1, q1, h⟩ := h.lst_inv
  obtain ⟨k2, q2, h⟩ := h.lst_inv
  obtain ⟨k3, q3, h⟩ := h.lst_inv
  have := Held.nil_inv h
  subst this
  have r1 := q1.le
  have r2 := q2.le
  have r3 := q3.le
  have c1 := c_heldIntS c.mem k k1 h0 (by omega) q1
  have c2 := c_heldHandS c.hands k1 k2 (by omega) (by omega) q2
  have c3 := c_heldIntS c.out k2 k' (by omega) (by omega) q3
  have n1 : ¬ k1 < 0 := by omega
  have n2 : ¬ k2 < 0 := by omega
  have n3 : ¬ k' < 0 := by omega
  refine pcall_of Tryz.func38 (by kernel_rfl) rfl (by simp [Tryz.f38]) ?_
  unfold Mc.av Mc.cells ints
  (repeat refine AWp.seq ?_); refine AWp.region noP (by kernel_rfl) ?_
  simp
  intro g
  repeat' (first
    | refine AWp.seq ?_
    | (refine AWp.region allP (by kernel_rfl) ?_; simp [n1, n2, n3])
    | (refine AWp.condG ?_; simp [n1, n2, n3])
    | (refine AWp.skip ?_; try simp)
    | (refine AWp.exit ?_; try simp)
    | refine AWp.block ?_
    | (refine aop_call' (c1) ?_; simp [n1, n2, n3])
    | (refine aop_call' (c2) ?_; simp [n1, n2, n3])
    | (refine aop_call' (c3) ?_; simp [n1, n2, n3])
    | (refine AWp.ret (post_ret1 rfl ?_); (simp; done))
    | (refine guardI (fun hq => ?_) (fun hq => ?_) <;> (try simp at hq) <;> (try simp [n1, n2, n3]))
    | (refine condRunI (fun hq => ?_) (fun hq => ?_) <;> (try simp at hq) <;> (try simp [n1, n2, n3]))
    | (refine iteI (fun hq => ?_) (fun hq => ?_) <;> (try simp [n1, n2, n3])))
end Go.T
namespace Go.T
open Go Go.Proofs
set_option maxRecDepth 10000
set_option linter.unusedSimpArgs false
set_option linter.unusedVariables false
def newHand (r : Nat) : Hd := ⟨0, [], List.replicate r 0, [], false, false⟩
def machNew (p : Pg) (h : Int) : Mc := if p.ok = true ∧ inR h 1 4 = true then ⟨List.replicate (memSize p).toNat 0, List.replicate h.toNat (newHand (regsN p).toNat), [], false⟩ else ⟨[], [], [], false⟩
theorem regsN_le (p : Pg) (ht : p.tot ≤ 1048576) : 0 ≤ regsN p ∧ regsN p ≤ 33554432 := by
  obtain ⟨L0, L1, L3, L2, L4⟩ := p.lens ht
  have hrl := p.regs_len
  unfold regsN
  split <;> omega
theorem OwnT.zeros {m : Mem} {F : Nat → Prop} {g c n : Nat} {T : TypeId} (hg : m g = some (.arr T 1 c (List.replicate n (.int .i64 0)))) (hF : F g) : OwnT m F (.own g n c) (.lst false 1 ((List.replicate n (0 : Int)).map (AV.int .i64))) := by
  rw [List.map_replicate]
  refine .own (G := fun _ => False) hg List.length_replicate (.same fun a ha F => ?_) id (fun _ h => h.elim) hF
  rw [List.eq_of_mem_replicate ha]
  exact .int _ _
theorem Mc.av_eq (c : Mc) : c.av = .agg [.lst false 1 (c.mem.map (AV.int .i64)), .lst false 6 (c.hands.map Hd.av), .lst false 1 (c.out.map (AV.int .i64)), .bool c.trap] := rfl
theorem newHand_av (r : Nat) : (newHand r).av = .agg [.int .i64 0, .lst false 1 [], .lst false 1 ((List.replicate r (0 : Int)).map (AV.int .i64)), .lst false 2 [], .bool false, .bool false] := rfl
theorem own_newHand {m : Mem} {F : Nat → Prop} {g r : Nat} {T : TypeId} (hg : m g = some (.arr T 1 r (List.replicate r (.int .i64 0)))) (hF : F g) : OwnT m F (.agg [.int .i64 0, .lst true 0 [], .own g r r, .lst true 0 [], .bool false, .bool false]) (newHand r).av := by
  rw [newHand_av]
  refine .agg ?_ rfl
  refine .cons (A := fun _ => False) (B := F) (.int _ _) ?_ (fun _ h => h.elim) (fun _ h => h.elim) (fun _ h => h)
  refine .cons (A := fun _ => False) (B := F) (.nil _ _ _) ?_ (fun _ h => h.elim) (fun _ h => h.elim) (fun _ h => h)
  refine .cons (A := F) (B := fun _ => False) (.zeros hg hF) ?_ (fun _ _ h => h) (fun _ h => h) (fun _ h => h.elim)
  refine .cons (A := fun _ => False) (B := fun _ => False) (.nil _ _ _) ?_ (fun _ h => h.elim) (fun _ h => h.elim) (fun _ h => h)
  exact .same fun a ha F => by
    simp at ha
    subst ha
    exact .bool _
theorem own_newMach {m : Mem} {F : Nat → Prop} {g n k r : Nat} {T E : TypeId} {v : AV} (hg : m g = some (.arr T 1 n (List.replicate n (.int .i64 0)))) (hv : GrowO E 6 m F v (List.replicate k (newHand r).av)) (hn : ¬ F g) :
    OwnT m (fun b => b = g ∨ F b) (.agg [.own g n n, v, .lst true 0 [], .bool false]) (Mc.av ⟨List.replicate n 0, List.replicate k (newHand r), [], false⟩) := by
  rw [Mc.av_eq]
  refine .agg ?_ ?_
  · refine .cons (A := fun b => b = g) (B := F) (.zeros hg rfl) ?_ (fun b hb => hb ▸ hn) (fun _ h => .inl h) (fun _ h => .inr h)
    refine .cons (A := F) (B := fun _ => False) (by simpa [List.map_replicate] using hv.own) ?_ (fun _ _ h => h) (fun _ h => h) (fun _ h => h.elim)
    refine .cons (A := fun _ => False) (B := fun _ => False) (.nil _ _ _) ?_ (fun _ h => h.elim) (fun _ h => h.elim) (fun _ h => h)
    exact .same fun a ha F => by
      simp at ha
      subst ha
      exact .bool _
  · rcases hv.shape with rfl | ⟨_, _, _, rfl⟩ <;> rfl
theorem own_noMach {m : Mem} : OwnT m (fun _ => False) (.agg [.lst true 0 [], .lst true 0 [], .lst true 0 [], .bool false]) (Mc.av ⟨[], [], [], false⟩) := by
  rw [Mc.av_eq]
  refine .agg ?_ rfl
  refine .cons (A := fun _ => False) (B := fun _ => False) (.nil _ _ _) ?_ (fun _ h => h.elim) (fun _ h => h.elim) (fun _ h => h)
  refine .cons (A := fun _ => False) (B := fun _ => False) (.nil _ _ _) ?_ (fun _ h => h.elim) (fun _ h => h.elim) (fun _ h => h)
  refine .cons (A := fun _ => False) (B := fun _ => False) (.nil _ _ _) ?_ (fun _ h => h.elim) (fun _ h => h.elim) (fun _ h => h)
  exact .same fun a ha F => by
    simp at ha
    subst ha
    exact .bool _
theorem o_impl_MachNew (p : Pg) (ht : p.tot ≤ 1048576) (h : Int) : OCall Tryz.prog 35 [p.av, .int .i64 h] (machNew p h).av := by
  have c1 := c_impl_ProgOk p ht
  have c2 := c_impl_MemSize p ht
  have c3 := c_impl_Regs p ht
  have hm := memSize_le p
  have hr := regsN_le p ht
  obtain ⟨n, hn⟩ := Int.eq_ofNat_of_zero_le hm.1
  obtain ⟨r, hrr⟩ := Int.eq_ofNat_of_zero_le hr.1
  rw [hn] at c2 hm
  rw [hrr] at c3 hr
  have hpc : p.cells = [.lst false 2 (p.arrs.map Ar.av), .lst false 19 (p.body.map Sm.av)] := rfl
  refine wcall_of Tryz.func35 (by kernel_rfl) rfl (by simp [Tryz.f35]) ?_
  unfold Pg.av at *
  rw [hpc] at *
  cases x2 : inR h 1 4
  · have e : machNew p h = ⟨[], [], [], false⟩ := by unfold machNew; rw [if_neg (by simp [x2])]
    rw [e]
    (repeat refine AWp.seq ?_); refine AWp.region noP (by kernel_rfl) ?_
    simp
    intro g1 g2 h2
    have n21 : g2 ≠ g1 := by rintro rfl; simp [set_at] at h2
    have m12 := n21.symm
    (repeat refine AWp.seq ?_); refine AWp.region allP (by kernel_rfl) ?_
    simp [set_at, n21, m12]
    refine aop_call' (c_inRange _ _ _) ?_
    simp [set_at, n21, m12, x2]
    (repeat refine AWp.seq ?_); refine AWp.condT (by simp) ?_
    (repeat refine AWp.seq ?_); refine AWp.region noP (by kernel_rfl) ?_
    simp [set_at, n21, m12]
    exact AWp.ret (post_cellO (F := fun _ => False) (q := .agg [.lst true 0 [], .lst true 0 [], .lst true 0 [], .bool false]) (.inl rfl) rfl (by simp [set_at]) own_noMach)
  cases x1 : p.ok
  · rw [x1] at c1
    have e : machNew p h = ⟨[], [], [], false⟩ := by unfold machNew; rw [if_neg (by simp [x1])]
    rw [e]
    (repeat refine AWp.seq ?_); refine AWp.region noP (by kernel_rfl) ?_
    simp
    intro g1 g2 h2
    have n21 : g2 ≠ g1 := by rintro rfl; simp [set_at] at h2
    have m12 := n21.symm
    (repeat refine AWp.seq ?_); refine AWp.region allP (by kernel_rfl) ?_
    simp [set_at, n21, m12]
    refine aop_call' (c_inRange _ _ _) ?_
    simp [set_at, n21, m12, x2]
    refine aop_call' c1 ?_
    simp [set_at, n21, m12]
    (repeat refine AWp.seq ?_); refine AWp.condT (by simp) ?_
    (repeat refine AWp.seq ?_); refine AWp.region noP (by kernel_rfl) ?_
    simp [set_at, n21, m12]
    exact AWp.ret (post_cellO (F := fun _ => False) (q := .agg [.lst true 0 [], .lst true 0 [], .lst true 0 [], .bool false]) (.inl rfl) rfl (by simp [set_at]) own_noMach)
  rw [x1] at c1
  have y2 := x2
  unfold inR at y2
  simp at y2
  obtain ⟨k, rfl⟩ := Int.eq_ofNat_of_zero_le (show 0 ≤ h by omega)
  have e : machNew p k = ⟨List.replicate n 0, List.replicate k (newHand r), [], false⟩ := by unfold machNew; rw [if_pos ⟨x1, x2⟩, hn, hrr]; rfl
  rw [e]
  (repeat refine AWp.seq ?_); refine AWp.region noP (by kernel_rfl) ?_
  simp
  intro g1 g2 h2
  have n21 : g2 ≠ g1 := by rintro rfl; simp [set_at] at h2
  have m12 := n21.symm
  (repeat refine AWp.seq ?_); refine AWp.region allP (by kernel_rfl) ?_
  simp [set_at, n21, m12]
  refine aop_call' (c_inRange _ _ _) ?_
  simp [set_at, n21, m12, x2]
  refine aop_call' c1 ?_
  simp [set_at, n21, m12]
  (repeat refine AWp.seq ?_); refine AWp.condF (by simp) ?_
  refine AWp.skip ?_
  try simp
  (repeat refine AWp.seq ?_); refine AWp.cutA (fun u => ∃ g4 g5, ¬ g4 = g1 ∧ ¬ g4 = g2 ∧ ¬ g5 = g1 ∧ ¬ g5 = g2 ∧ ¬ g5 = g4 ∧ u.slots 1 = .int .i64 k ∧ u.slots 2 = .ptr g1 0 ∧ u.slots 4 = .ptr g2 0 ∧ u.slots 5 = .ptr g5 0 ∧ u.mem g1 = some (.box [.lst false 2 (p.arrs.map Ar.av), .lst false 19 (p.body.map Sm.av)]) ∧ (∃ c2, u.mem g2 = some (.box c2) ∧ c2.length = 4) ∧ u.mem g4 = some (.arr 3 1 n (List.replicate n (.int .i64 0))) ∧ u.mem g5 = some (.box [.own g4 n n, .lst true 0 [], .lst true 0 [], .bool false])) ?_ ?_
  · refine AWp.region noP (by kernel_rfl) ?_
    simp [set_at, n21, m12]
    refine aop_call' c2 ?_
    simp [set_at, n21, m12]
    refine ⟨by omega, by omega, fun g4 h4 g5 h5 => ?_⟩
    have n42 : ¬ g4 = g2 := by rintro rfl; simp at h4
    have n41 : ¬ g4 = g1 := by rintro rfl; simp [m12] at h4
    have n54 : ¬ g5 = g4 := by rintro rfl; simp at h5
    have n52 : ¬ g5 = g2 := by rintro rfl; simp at h5; split at h5 <;> cases h5
    have n51 : ¬ g5 = g1 := by rintro rfl; simp [m12] at h5; split at h5 <;> cases h5
    have m14 : ¬ g1 = g4 := fun e => n41 e.symm
    have m24 : ¬ g2 = g4 := fun e => n42 e.symm
    have m45 : ¬ g4 = g5 := fun e => n54 e.symm
    have m25 : ¬ g2 = g5 := fun e => n52 e.symm
    have m15 : ¬ g1 = g5 := fun e => n51 e.symm
    exact ⟨g4, n41, n42, g5, n51, n52, n54, rfl, by simp [m14, m15, m12], ⟨_, by simp [m24, m25]; rfl, rfl⟩, by simp [m45], by simp⟩
  rintro u ⟨g4, g5, n41, n42, n51, n52, n54, s1, s2, s4, s5, b1, ⟨c2, b2, hc2⟩, b4, b5⟩
  (repeat refine AWp.seq ?_); refine AWp.region noP (by kernel_rfl) ?_
  simp [s1]
  (repeat refine AWp.seq ?_); refine AWp.block (AWp.rounds (fun q st => ∃ (i : Nat) (v : AV) (F : Nat → Prop), q = k - i ∧ i ≤ k ∧ st.slots 19 = .int .i64 k ∧ st.slots 2 = .ptr g1 0 ∧ st.slots 4 = .ptr g2 0 ∧ st.slots 5 = .ptr g5 0 ∧ st.slots 20 = .int .i64 i ∧ st.mem g1 = some (.box [.lst false 2 (p.arrs.map Ar.av), .lst false 19 (p.body.map Sm.av)]) ∧ (∃ c2, st.mem g2 = some (.box c2) ∧ c2.length = 4) ∧ st.mem g4 = some (.arr 3 1 n (List.replicate n (.int .i64 0))) ∧ st.mem g5 = some (.box [.own g4 n n, v, .lst true 0 [], .bool false]) ∧
      GrowO 83 6 st.mem F v (List.replicate i (newHand r).av) ∧ (¬ F g1 ∧ ¬ F g2 ∧ ¬ F g4 ∧ ¬ F g5) ∧ ∀ b, F b → st.mem b ≠ none) k ⟨0, .lst true 0 [], fun _ => False, by simp, by simp, by simp [s1], by simp [s2], by simp [s4], by simp [s5], by simp, by simp [b1], ⟨c2, by simp [b2], hc2⟩, by simp [b4], by simp [b5], .inl ⟨rfl, rfl⟩, ⟨id, id, id, id⟩, fun _ h => h.elim⟩ ?_)
  clear s1 s2 s4 s5 b1 b2 hc2 b4 b5
  rintro R q st hR ⟨i, v, F, rfl, hi, sk, s2, s4, s5, si, b1, ⟨c2, b2, hc2⟩, b4, b5, hG, ⟨f1, f2, f4, f5⟩, hFd⟩
  (repeat refine AWp.seq ?_); refine AWp.region noP (by kernel_rfl) ?_
  simp [sk, si]
  (repeat refine AWp.seq ?_); refine AWp.cond (b := decide (i < k)) (by simp) (fun hlt => ?_) (fun hlt => ?_)
  rotate_left
  · simp at hlt
    have hin : i = k := by omega
    subst hin
    refine AWp.exit ?_
    try simp
    (repeat refine AWp.seq ?_); refine AWp.region noP (by kernel_rfl) ?_
    obtain ⟨x1, x2, x3, x4, rfl⟩ : ∃ x1 x2 x3 x4, c2 = [x1, x2, x3, x4] := by
      match c2, hc2 with
      | [x1, x2, x3, x4], _ => exact ⟨_, _, _, _, rfl⟩
    have hO := own_newMach (m := st.mem.set g2 (.box [.own g4 n n, v, .lst true 0 [], .bool false])) (by rw [set_at, if_neg n42]; exact b4) (hG.mem fun b hb => by rw [set_at, if_neg]; rintro rfl; exact f2 hb) f4
    rcases hG.shape with rfl | ⟨gx, lx, cx, rfl⟩
    all_goals
      simp [s4, s5, b5, b2]
      exact AWp.ret (post_cellO (.inl rfl) rfl (by simp [s4, set_at]; rfl) (by simpa using hO))
  simp at hlt
  have hw : IntKind.wrap .i64 ((i : Int) + 1) = (i + 1 : Nat) := wrap64 (by omega) (by omega)
  refine AWp.skip ?_
  try simp
  (repeat refine AWp.seq ?_); refine AWp.block ?_; (repeat refine AWp.seq ?_)
  refine AWp.regionF (fun i => i == 3) (fun _ => false) [0, 1, 2, 3, 4, 5, 6, 7, 8, 9] (by kernel_rfl) ?_
  simp [s2, s5, b1, b5]
  refine aop_call' c3 ?_
  simp
  refine ⟨by omega, by omega, fun gr hgr => ?_⟩
  have hE : ∀ b, st.mem b ≠ none → (st.mem.set gr (.arr 3 1 r (List.replicate r (.int .i64 0)))) b = st.mem b := fun b hb => by rw [set_at, if_neg]; rintro rfl; exact hb hgr
  have bgr := set_same st.mem gr (.arr 3 1 r (List.replicate r (.int .i64 0)))
  have hG1 := hG.mem (m' := st.mem.set gr (.arr 3 1 r (List.replicate r (.int .i64 0)))) fun b hb => hE b (hFd b hb)
  have p1 := (hE g1 (by simp [b1])).trans b1
  have p2 := (hE g2 (by simp [b2])).trans b2
  have p4 := (hE g4 (by simp [b4])).trans b4
  have p5 := (hE g5 (by simp [b5])).trans b5
  have q1 : ¬ g1 = gr := by rintro rfl; rw [b1] at hgr; cases hgr
  have q2 : ¬ g2 = gr := by rintro rfl; rw [b2] at hgr; cases hgr
  have q4 : ¬ g4 = gr := by rintro rfl; rw [b4] at hgr; cases hgr
  have q5 : ¬ g5 = gr := by rintro rfl; rw [b5] at hgr; cases hgr
  have hFr : ∀ b, F b → ¬ b = gr := by rintro b hb rfl; exact hFd b hb hgr
  have hFd1 : ∀ b, F b → (st.mem.set gr (.arr 3 1 r (List.replicate r (.int .i64 0)))) b ≠ none := fun b hb => by rw [hE b (hFd b hb)]; exact hFd b hb
  have hAd : ∀ b, b = gr → (st.mem.set gr (.arr 3 1 r (List.replicate r (.int .i64 0)))) b ≠ none := by rintro b rfl; rw [bgr]; simp
  generalize st.mem.set gr (.arr 3 1 r (List.replicate r (.int .i64 0))) = m1 at *
  refine GrowO.app et_47 hG1 hFd1 (own_newHand (F := fun b => b = gr) bgr rfl) hAd hFr rfl rfl (by simp; omega) fun v' m' F' h1 h2 h3 h4 => ?_
  have r1 := (h2 g1 (by simp [p1]) f1).trans p1
  have r2 := (h2 g2 (by simp [p2]) f2).trans p2
  have r4 := (h2 g4 (by simp [p4]) f4).trans p4
  have r5 := (h2 g5 (by simp [p5]) f5).trans p5
  have e1 : ¬ F' g1 := fun hb => (h3 g1 hb).elim f1 fun h => h.elim q1 fun h => by simp [p1] at h
  have e2 : ¬ F' g2 := fun hb => (h3 g2 hb).elim f2 fun h => h.elim q2 fun h => by simp [p2] at h
  have e4 : ¬ F' g4 := fun hb => (h3 g4 hb).elim f4 fun h => h.elim q4 fun h => by simp [p4] at h
  have e5 : ¬ F' g5 := fun hb => (h3 g5 hb).elim f5 fun h => h.elim q5 fun h => by simp [p5] at h
  have hG3 := h1.mem (m' := m'.set g5 (.box [.own g4 n n, v', .lst true 0 [], .bool false])) fun b hb => by rw [set_at, if_neg]; rintro rfl; exact e5 hb
  have hrep : List.replicate (i + 1) (newHand r).av = List.replicate i (newHand r).av ++ [(newHand r).av] := List.replicate_succ'
  have hdd : ∀ b, F' b → (m'.set g5 (.box [.own g4 n n, v', .lst true 0 [], .bool false])) b ≠ none := fun b hb => by
    rw [set_at]; split
    · simp
    · exact h4 b hb
  rw [← hrep] at hG3
  have m51 : ¬ g1 = g5 := fun e => n51 e.symm
  have m52 : ¬ g2 = g5 := fun e => n52 e.symm
  have m54 : ¬ g4 = g5 := fun e => n54 e.symm
  rcases h1.shape with rfl | ⟨gx, lx, cx, rfl⟩
  all_goals
    simp [s5, r5]
    (repeat refine AWp.seq ?_); refine AWp.region noP (by kernel_rfl) ?_
    simp [si, hw]
    exact hR _ (k - (i + 1)) (by omega) ⟨i + 1, _, F', rfl, by omega, by simp [sk], by simp [s2], by simp [s4], by simp [s5], by simp, by simp [set_at, m51, r1], ⟨c2, by simp [set_at, m52, r2], hc2⟩, by simp [set_at, m54, r4], by simp [set_at]; rfl, by simpa using hG3, ⟨e1, e2, e4, e5⟩, by simpa using hdd⟩
theorem o_spec_MachNew (p : Pg) (ht : p.tot ≤ 1048576) (h : Int) : OCall Tryz.prog 34 [p.av, .int .i64 h] (machNew p h).av := by
  have c1 := c_spec_ProgOk p ht
  have c2 := c_spec_MemSize p ht
  have c3 := c_spec_Regs p ht
  have hm := memSize_le p
  have hr := regsN_le p ht
  obtain ⟨n, hn⟩ := Int.eq_ofNat_of_zero_le hm.1
  obtain ⟨r, hrr⟩ := Int.eq_ofNat_of_zero_le hr.1
  rw [hn] at c2 hm
  rw [hrr] at c3 hr
  have hpc : p.cells = [.lst false 2 (p.arrs.map Ar.av), .lst false 19 (p.body.map Sm.av)] := rfl
  refine wcall_of Tryz.func34 (by kernel_rfl) rfl (by simp [Tryz.f34]) ?_
  unfold Pg.av at *
  rw [hpc] at *
  cases x1 : p.ok
  · rw [x1] at c1
    have e : machNew p h = ⟨[], [], [], false⟩ := by unfold machNew; rw [if_neg (by simp [x1])]
    rw [e]
    (repeat refine AWp.seq ?_); refine AWp.region noP (by kernel_rfl) ?_
    simp
    intro g1 g2 h2
    have n21 : g2 ≠ g1 := by rintro rfl; simp [set_at] at h2
    have m12 := n21.symm
    (repeat refine AWp.seq ?_); refine AWp.region allP (by kernel_rfl) ?_
    simp [set_at, n21, m12]
    refine aop_call' c1 ?_
    simp [set_at, n21, m12]
    (repeat refine AWp.seq ?_); refine AWp.condT (by simp) ?_
    (repeat refine AWp.seq ?_); refine AWp.region noP (by kernel_rfl) ?_
    simp [set_at, n21, m12]
    exact AWp.ret (post_cellO (F := fun _ => False) (q := .agg [.lst true 0 [], .lst true 0 [], .lst true 0 [], .bool false]) (.inl rfl) rfl (by simp [set_at]) own_noMach)
  cases x2 : inR h 1 4
  · rw [x1] at c1
    have e : machNew p h = ⟨[], [], [], false⟩ := by unfold machNew; rw [if_neg (by simp [x2])]
    rw [e]
    (repeat refine AWp.seq ?_); refine AWp.region noP (by kernel_rfl) ?_
    simp
    intro g1 g2 h2
    have n21 : g2 ≠ g1 := by rintro rfl; simp [set_at] at h2
    have m12 := n21.symm
    (repeat refine AWp.seq ?_); refine AWp.region allP (by kernel_rfl) ?_
    simp [set_at, n21, m12]
    refine aop_call' c1 ?_
    simp [set_at, n21, m12]
    refine aop_call' (c_l1In _ _ _) ?_
    simp [set_at, n21, m12, x2]
    (repeat refine AWp.seq ?_); refine AWp.condT (by simp) ?_
    (repeat refine AWp.seq ?_); refine AWp.region noP (by kernel_rfl) ?_
    simp [set_at, n21, m12]
    exact AWp.ret (post_cellO (F := fun _ => False) (q := .agg [.lst true 0 [], .lst true 0 [], .lst true 0 [], .bool false]) (.inl rfl) rfl (by simp [set_at]) own_noMach)
  rw [x1] at c1
  have y2 := x2
  unfold inR at y2
  simp at y2
  obtain ⟨k, rfl⟩ := Int.eq_ofNat_of_zero_le (show 0 ≤ h by omega)
  have e : machNew p k = ⟨List.replicate n 0, List.replicate k (newHand r), [], false⟩ := by unfold machNew; rw [if_pos ⟨x1, x2⟩, hn, hrr]; rfl
  rw [e]
  (repeat refine AWp.seq ?_); refine AWp.region noP (by kernel_rfl) ?_
  simp
  intro g1 g2 h2
  have n21 : g2 ≠ g1 := by rintro rfl; simp [set_at] at h2
  have m12 := n21.symm
  (repeat refine AWp.seq ?_); refine AWp.region allP (by kernel_rfl) ?_
  simp [set_at, n21, m12]
  refine aop_call' c1 ?_
  simp [set_at, n21, m12]
  refine aop_call' (c_l1In _ _ _) ?_
  simp [set_at, n21, m12, x2]
  (repeat refine AWp.seq ?_); refine AWp.condF (by simp) ?_
  refine AWp.skip ?_
  try simp
  (repeat refine AWp.seq ?_); refine AWp.cutA (fun u => ∃ g4 g5, ¬ g4 = g1 ∧ ¬ g4 = g2 ∧ ¬ g5 = g1 ∧ ¬ g5 = g2 ∧ ¬ g5 = g4 ∧ u.slots 1 = .int .i64 k ∧ u.slots 2 = .ptr g1 0 ∧ u.slots 4 = .ptr g2 0 ∧ u.slots 5 = .ptr g5 0 ∧ u.mem g1 = some (.box [.lst false 2 (p.arrs.map Ar.av), .lst false 19 (p.body.map Sm.av)]) ∧ (∃ c2, u.mem g2 = some (.box c2) ∧ c2.length = 4) ∧ u.mem g4 = some (.arr 3 1 n (List.replicate n (.int .i64 0))) ∧ u.mem g5 = some (.box [.own g4 n n, .lst true 0 [], .lst true 0 [], .bool false])) ?_ ?_
  · refine AWp.region noP (by kernel_rfl) ?_
    simp [set_at, n21, m12]
    refine aop_call' c2 ?_
    simp [set_at, n21, m12]
    refine ⟨by omega, by omega, fun g4 h4 g5 h5 => ?_⟩
    have n42 : ¬ g4 = g2 := by rintro rfl; simp at h4
    have n41 : ¬ g4 = g1 := by rintro rfl; simp [m12] at h4
    have n54 : ¬ g5 = g4 := by rintro rfl; simp at h5
    have n52 : ¬ g5 = g2 := by rintro rfl; simp at h5; split at h5 <;> cases h5
    have n51 : ¬ g5 = g1 := by rintro rfl; simp [m12] at h5; split at h5 <;> cases h5
    have m14 : ¬ g1 = g4 := fun e => n41 e.symm
    have m24 : ¬ g2 = g4 := fun e => n42 e.symm
    have m45 : ¬ g4 = g5 := fun e => n54 e.symm
    have m25 : ¬ g2 = g5 := fun e => n52 e.symm
    have m15 : ¬ g1 = g5 := fun e => n51 e.symm
    exact ⟨g4, n41, n42, g5, n51, n52, n54, rfl, by simp [m14, m15, m12], ⟨_, by simp [m24, m25]; rfl, rfl⟩, by simp [m45], by simp⟩
  rintro u ⟨g4, g5, n41, n42, n51, n52, n54, s1, s2, s4, s5, b1, ⟨c2, b2, hc2⟩, b4, b5⟩
  (repeat refine AWp.seq ?_); refine AWp.region noP (by kernel_rfl) ?_
  simp [s1]
  (repeat refine AWp.seq ?_); refine AWp.block (AWp.rounds (fun q st => ∃ (i : Nat) (v : AV) (F : Nat → Prop), q = k - i ∧ i ≤ k ∧ st.slots 1 = .int .i64 k ∧ st.slots 2 = .ptr g1 0 ∧ st.slots 4 = .ptr g2 0 ∧ st.slots 5 = .ptr g5 0 ∧ st.slots 6 = .int .i64 i ∧ st.mem g1 = some (.box [.lst false 2 (p.arrs.map Ar.av), .lst false 19 (p.body.map Sm.av)]) ∧ (∃ c2, st.mem g2 = some (.box c2) ∧ c2.length = 4) ∧ st.mem g4 = some (.arr 3 1 n (List.replicate n (.int .i64 0))) ∧ st.mem g5 = some (.box [.own g4 n n, v, .lst true 0 [], .bool false]) ∧
      GrowO 83 6 st.mem F v (List.replicate i (newHand r).av) ∧ (¬ F g1 ∧ ¬ F g2 ∧ ¬ F g4 ∧ ¬ F g5) ∧ ∀ b, F b → st.mem b ≠ none) k ⟨0, .lst true 0 [], fun _ => False, by simp, by simp, by simp [s1], by simp [s2], by simp [s4], by simp [s5], by simp, by simp [b1], ⟨c2, by simp [b2], hc2⟩, by simp [b4], by simp [b5], .inl ⟨rfl, rfl⟩, ⟨id, id, id, id⟩, fun _ h => h.elim⟩ ?_)
  clear s1 s2 s4 s5 b1 b2 hc2 b4 b5
  rintro R q st hR ⟨i, v, F, rfl, hi, sk, s2, s4, s5, si, b1, ⟨c2, b2, hc2⟩, b4, b5, hG, ⟨f1, f2, f4, f5⟩, hFd⟩
  (repeat refine AWp.seq ?_); refine AWp.region noP (by kernel_rfl) ?_
  simp [sk, si]
  (repeat refine AWp.seq ?_); refine AWp.cond (b := decide (i < k)) (by simp) (fun hlt => ?_) (fun hlt => ?_)
  rotate_left
  · simp at hlt
    have hin : i = k := by omega
    subst hin
    refine AWp.exit ?_
    try simp
    (repeat refine AWp.seq ?_); refine AWp.region noP (by kernel_rfl) ?_
    obtain ⟨x1, x2, x3, x4, rfl⟩ : ∃ x1 x2 x3 x4, c2 = [x1, x2, x3, x4] := by
      match c2, hc2 with
      | [x1, x2, x3, x4], _ => exact ⟨_, _, _, _, rfl⟩
    have hO := own_newMach (m := st.mem.set g2 (.box [.own g4 n n, v, .lst true 0 [], .bool false])) (by rw [set_at, if_neg n42]; exact b4) (hG.mem fun b hb => by rw [set_at, if_neg]; rintro rfl; exact f2 hb) f4
    rcases hG.shape with rfl | ⟨gx, lx, cx, rfl⟩
    all_goals
      simp [s4, s5, b5, b2]
      exact AWp.ret (post_cellO (.inl rfl) rfl (by simp [s4, set_at]; rfl) (by simpa using hO))
  simp at hlt
  have hw : IntKind.wrap .i64 ((i : Int) + 1) = (i + 1 : Nat) := wrap64 (by omega) (by omega)
  refine AWp.skip ?_
  try simp
  (repeat refine AWp.seq ?_); refine AWp.block ?_; (repeat refine AWp.seq ?_)
  refine AWp.regionF (fun i => i == 3) (fun _ => false) [0, 1, 2, 3, 4, 5, 6, 7, 8, 9] (by kernel_rfl) ?_
  simp [s2, s5, b1, b5]
  refine aop_call' c3 ?_
  simp
  refine ⟨by omega, by omega, fun gr hgr => ?_⟩
  have hE : ∀ b, st.mem b ≠ none → (st.mem.set gr (.arr 3 1 r (List.replicate r (.int .i64 0)))) b = st.mem b := fun b hb => by rw [set_at, if_neg]; rintro rfl; exact hb hgr
  have bgr := set_same st.mem gr (.arr 3 1 r (List.replicate r (.int .i64 0)))
  have hG1 := hG.mem (m' := st.mem.set gr (.arr 3 1 r (List.replicate r (.int .i64 0)))) fun b hb => hE b (hFd b hb)
  have p1 := (hE g1 (by simp [b1])).trans b1
  have p2 := (hE g2 (by simp [b2])).trans b2
  have p4 := (hE g4 (by simp [b4])).trans b4
  have p5 := (hE g5 (by simp [b5])).trans b5
  have q1 : ¬ g1 = gr := by rintro rfl; rw [b1] at hgr; cases hgr
  have q2 : ¬ g2 = gr := by rintro rfl; rw [b2] at hgr; cases hgr
  have q4 : ¬ g4 = gr := by rintro rfl; rw [b4] at hgr; cases hgr
  have q5 : ¬ g5 = gr := by rintro rfl; rw [b5] at hgr; cases hgr
  have hFr : ∀ b, F b → ¬ b = gr := by rintro b hb rfl; exact hFd b hb hgr
  have hFd1 : ∀ b, F b → (st.mem.set gr (.arr 3 1 r (List.replicate r (.int .i64 0)))) b ≠ none := fun b hb => by rw [hE b (hFd b hb)]; exact hFd b hb
  have hAd : ∀ b, b = gr → (st.mem.set gr (.arr 3 1 r (List.replicate r (.int .i64 0)))) b ≠ none := by rintro b rfl; rw [bgr]; simp
  generalize st.mem.set gr (.arr 3 1 r (List.replicate r (.int .i64 0))) = m1 at *
  refine GrowO.app et_47 hG1 hFd1 (own_newHand (F := fun b => b = gr) bgr rfl) hAd hFr rfl rfl (by simp; omega) fun v' m' F' h1 h2 h3 h4 => ?_
  have r1 := (h2 g1 (by simp [p1]) f1).trans p1
  have r2 := (h2 g2 (by simp [p2]) f2).trans p2
  have r4 := (h2 g4 (by simp [p4]) f4).trans p4
  have r5 := (h2 g5 (by simp [p5]) f5).trans p5
  have e1 : ¬ F' g1 := fun hb => (h3 g1 hb).elim f1 fun h => h.elim q1 fun h => by simp [p1] at h
  have e2 : ¬ F' g2 := fun hb => (h3 g2 hb).elim f2 fun h => h.elim q2 fun h => by simp [p2] at h
  have e4 : ¬ F' g4 := fun hb => (h3 g4 hb).elim f4 fun h => h.elim q4 fun h => by simp [p4] at h
  have e5 : ¬ F' g5 := fun hb => (h3 g5 hb).elim f5 fun h => h.elim q5 fun h => by simp [p5] at h
  have hG3 := h1.mem (m' := m'.set g5 (.box [.own g4 n n, v', .lst true 0 [], .bool false])) fun b hb => by rw [set_at, if_neg]; rintro rfl; exact e5 hb
  have hrep : List.replicate (i + 1) (newHand r).av = List.replicate i (newHand r).av ++ [(newHand r).av] := List.replicate_succ'
  have hdd : ∀ b, F' b → (m'.set g5 (.box [.own g4 n n, v', .lst true 0 [], .bool false])) b ≠ none := fun b hb => by
    rw [set_at]; split
    · simp
    · exact h4 b hb
  rw [← hrep] at hG3
  have m51 : ¬ g1 = g5 := fun e => n51 e.symm
  have m52 : ¬ g2 = g5 := fun e => n52 e.symm
  have m54 : ¬ g4 = g5 := fun e => n54 e.symm
  rcases h1.shape with rfl | ⟨gx, lx, cx, rfl⟩
  all_goals
    simp [s5, r5]
    (repeat refine AWp.seq ?_); refine AWp.region noP (by kernel_rfl) ?_
    simp [si, hw]
    exact hR _ (k - (i + 1)) (by omega) ⟨i + 1, _, F', rfl, by omega, by simp [sk], by simp [s2], by simp [s4], by simp [s5], by simp, by simp [set_at, m51, r1], ⟨c2, by simp [set_at, m52, r2], hc2⟩, by simp [set_at, m54, r4], by simp [set_at]; rfl, by simpa using hG3, ⟨e1, e2, e4, e5⟩, by simpa using hdd⟩
end Go.T
namespace Go.T
open Go Go.Proofs
set_option maxRecDepth 10000
set_option linter.unusedSimpArgs false
set_option linter.unusedVariables false
theorem c_eqIntSB (l : List Int) (hl : l.length ≤ 1099511627776) : PCall Tryz.prog 73 [ints l, ints l] (.bool true) := by
  refine pcall_of Tryz.func73 (by kernel_rfl) rfl (by simp [Tryz.f73]) ?_
  unfold ints
  (repeat refine AWp.seq ?_); refine AWp.region noP (by kernel_rfl) ?_
  simp
  (repeat refine AWp.seq ?_); refine AWp.region noP (by kernel_rfl) ?_
  simp
  refine AWp.cond (b := false) (by simp) (fun h => by cases h) (fun _ => ?_)
  refine AWp.skip ?_
  simp
  (repeat refine AWp.seq ?_); refine AWp.region noP (by kernel_rfl) ?_
  simp
  (repeat refine AWp.seq ?_); refine AWp.block (AWp.rounds (fun m st => ∃ (i : Nat), m = l.length - i ∧ i ≤ l.length ∧ st.slots 0 = .lst false 1 (l.map (AV.int .i64)) ∧ st.slots 1 = .lst false 1 (l.map (AV.int .i64)) ∧ st.slots 5 = .int .i64 i) l.length ⟨0, by simp, by simp, by simp, by simp, by simp⟩ ?_)
  rintro R m st hR ⟨i, rfl, hi, s0, s1, s5⟩
  (repeat refine AWp.seq ?_); refine AWp.region noP (by kernel_rfl) ?_
  simp [s0, s5]
  refine AWp.cond (b := decide (i < l.length)) (by simp) (fun hb => ?_) (fun hb => ?_)
  · simp at hb
    have hq : l[i]? = some l[i] := List.getElem?_eq_getElem hb
    refine AWp.skip ?_
    simp
    (repeat refine AWp.seq ?_); refine AWp.block ?_; (repeat refine AWp.seq ?_); refine AWp.region noP (by kernel_rfl) ?_
    have hx1 : idxA Tryz.prog st.mem 41 (.lst false 1 (l.map (AV.int .i64))) (.int .i64 i) = some (.ref [.int .i64 l[i]]) := idx (y := .int .i64 l[i]) es_41 (by simp [hq])
    simp [s0, s1, s5, hx1]
    refine AWp.cond (b := false) (by simp) (fun h => by cases h) (fun _ => ?_)
    refine AWp.skip ?_
    simp
    (repeat refine AWp.seq ?_); refine AWp.region noP (by kernel_rfl) ?_
    have hw : IntKind.wrap .i64 ((i : Int) + 1) = (i + 1 : Nat) := wrap64 (by omega) (by omega)
    simp [s5, hw]
    exact hR _ (l.length - (i + 1)) (by omega) ⟨i + 1, rfl, hb, by simp [s0], by simp [s1], by simp⟩
  · simp at hb
    refine AWp.exit ?_
    simp
    (repeat refine AWp.seq ?_); refine AWp.region noP (by kernel_rfl) ?_
    simp
    exact AWp.ret (post_ret1 rfl (by simp))
theorem c_eqPut0B (p : Pu) : PCall Tryz.prog 156 [p.av, p.av] (.bool true) := by
  unfold Pu.av Pu.cells
  refine pcall_of Tryz.func156 (by kernel_rfl) rfl (by simp [Tryz.f156]) ?_
  (repeat refine AWp.seq ?_); refine AWp.region noP (by kernel_rfl) ?_
  simp [set_at]
  intro g1 g2 h2
  have n21 : g2 ≠ g1 := fun e => by simp [e] at h2
  have m12 := n21.symm
  (repeat refine AWp.seq ?_); refine AWp.region noP (by kernel_rfl) ?_
  simp [set_at, n21, m12]
  refine AWp.cond (b := false) (by simp) (fun h => by cases h) (fun _ => ?_)
  refine AWp.skip ?_
  simp
  (repeat refine AWp.seq ?_); refine AWp.region noP (by kernel_rfl) ?_
  simp [set_at, n21, m12]
  refine AWp.cond (b := false) (by simp) (fun h => by cases h) (fun _ => ?_)
  refine AWp.skip ?_
  simp
  (repeat refine AWp.seq ?_); refine AWp.region noP (by kernel_rfl) ?_
  simp
  exact AWp.ret (post_ret1 rfl (by simp))
theorem c_eqPutSB (l : List Pu) (hl : l.length ≤ 1099511627776) (h : ∀ x ∈ l, PCall Tryz.prog 156 [x.av, x.av] (.bool true)) :
    PCall Tryz.prog 135 [.lst false 2 (l.map Pu.av), .lst false 2 (l.map Pu.av)] (.bool true) := by
  refine pcall_of Tryz.func135 (by kernel_rfl) rfl (by simp [Tryz.f135]) ?_
  (repeat refine AWp.seq ?_); refine AWp.region noP (by kernel_rfl) ?_
  simp
  (repeat refine AWp.seq ?_); refine AWp.region noP (by kernel_rfl) ?_
  simp
  refine AWp.cond (b := false) (by simp) (fun h => by cases h) (fun _ => ?_)
  refine AWp.skip ?_
  simp
  (repeat refine AWp.seq ?_); refine AWp.region noP (by kernel_rfl) ?_
  simp
  (repeat refine AWp.seq ?_); refine AWp.block (AWp.rounds (fun m st => ∃ (i : Nat), m = l.length - i ∧ i ≤ l.length ∧ st.slots 0 = .lst false 2 (l.map Pu.av) ∧ st.slots 1 = .lst false 2 (l.map Pu.av) ∧ st.slots 5 = .int .i64 i) l.length ⟨0, by simp, by simp, by simp, by simp, by simp⟩ ?_)
  rintro R m st hR ⟨i, rfl, hi, s0, s1, s5⟩
  (repeat refine AWp.seq ?_); refine AWp.region noP (by kernel_rfl) ?_
  simp [s0, s5]
  refine AWp.cond (b := decide (i < l.length)) (by simp) (fun hb => ?_) (fun hb => ?_)
  · simp at hb
    have hq : l[i]? = some l[i] := List.getElem?_eq_getElem hb
    refine AWp.skip ?_
    simp
    (repeat refine AWp.seq ?_); refine AWp.block ?_; (repeat refine AWp.seq ?_); refine AWp.region allP (by kernel_rfl) ?_
    have hx1 : idxA Tryz.prog st.mem 81 (.lst false 2 (l.map Pu.av)) (.int .i64 i) = some (.ref l[i].cells) := idx (y := l[i].av) es_81 (by simp [hq])
    simp [s0, s1, s5, hx1]
    refine aop_call _ _ _ _ _ _ _ _ (h l[i] (List.getElem_mem _)) ?_
    simp
    refine AWp.cond (b := false) (by simp) (fun h => by cases h) (fun _ => ?_)
    refine AWp.skip ?_
    simp
    (repeat refine AWp.seq ?_); refine AWp.region noP (by kernel_rfl) ?_
    have hw : IntKind.wrap .i64 ((i : Int) + 1) = (i + 1 : Nat) := wrap64 (by omega) (by omega)
    simp [s5, hw]
    exact hR _ (l.length - (i + 1)) (by omega) ⟨i + 1, rfl, hb, by simp [s0], by simp [s1], by simp⟩
  · simp at hb
    refine AWp.exit ?_
    simp
    (repeat refine AWp.seq ?_); refine AWp.region noP (by kernel_rfl) ?_
    simp
    exact AWp.ret (post_ret1 rfl (by simp))
theorem c_eqHand0B (h : Hd) (ht : h.tot ≤ 1099511627776) : PCall Tryz.prog 107 [h.av, h.av] (.bool true) := by
  have h3 : h.tot = h.stack.length + (h.regs.length + h.shelf.length) := rfl
  unfold Hd.av Hd.cells
  refine pcall_of Tryz.func107 (by kernel_rfl) rfl (by simp [Tryz.f107]) ?_
  (repeat refine AWp.seq ?_); refine AWp.region noP (by kernel_rfl) ?_
  simp [set_at]
  intro g1 g2 h2
  have n21 : g2 ≠ g1 := fun e => by simp [e] at h2
  have m12 := n21.symm
  (repeat refine AWp.seq ?_); refine AWp.region noP (by kernel_rfl) ?_
  simp [set_at, n21, m12]
  refine AWp.cond (b := false) (by simp) (fun h => by cases h) (fun _ => ?_)
  refine AWp.skip ?_
  simp
  (repeat refine AWp.seq ?_); refine AWp.region allP (by kernel_rfl) ?_
  simp [set_at, n21, m12]
  refine aop_call _ _ _ _ _ _ _ _ (c_eqIntSB h.stack (by omega)) ?_
  simp [set_at, n21, m12]
  refine AWp.cond (b := false) (by simp) (fun h => by cases h) (fun _ => ?_)
  refine AWp.skip ?_
  simp
  (repeat refine AWp.seq ?_); refine AWp.region allP (by kernel_rfl) ?_
  simp [set_at, n21, m12]
  refine aop_call _ _ _ _ _ _ _ _ (c_eqIntSB h.regs (by omega)) ?_
  simp [set_at, n21, m12]
  refine AWp.cond (b := false) (by simp) (fun h => by cases h) (fun _ => ?_)
  refine AWp.skip ?_
  simp
  (repeat refine AWp.seq ?_); refine AWp.region allP (by kernel_rfl) ?_
  simp [set_at, n21, m12]
  refine aop_call _ _ _ _ _ _ _ _ (c_eqPutSB h.shelf (by omega) (fun x _ => c_eqPut0B x)) ?_
  simp [set_at, n21, m12]
  refine AWp.cond (b := false) (by simp) (fun h => by cases h) (fun _ => ?_)
  refine AWp.skip ?_
  simp
  (repeat refine AWp.seq ?_); refine AWp.region noP (by kernel_rfl) ?_
  simp [set_at, n21, m12]
  refine AWp.cond (b := false) (by simp) (fun h => by cases h) (fun _ => ?_)
  refine AWp.skip ?_
  simp
  (repeat refine AWp.seq ?_); refine AWp.region noP (by kernel_rfl) ?_
  simp [set_at, n21, m12]
  refine AWp.cond (b := false) (by simp) (fun h => by cases h) (fun _ => ?_)
  refine AWp.skip ?_
  simp
  (repeat refine AWp.seq ?_); refine AWp.region noP (by kernel_rfl) ?_
  simp
  exact AWp.ret (post_ret1 rfl (by simp))
theorem c_eqHandSB (l : List Hd) (hl : l.length ≤ 1099511627776) (h : ∀ x ∈ l, PCall Tryz.prog 107 [x.av, x.av] (.bool true)) :
    PCall Tryz.prog 74 [.lst false 6 (l.map Hd.av), .lst false 6 (l.map Hd.av)] (.bool true) := by
  refine pcall_of Tryz.func74 (by kernel_rfl) rfl (by simp [Tryz.f74]) ?_
  (repeat refine AWp.seq ?_); refine AWp.region noP (by kernel_rfl) ?_
  simp
  (repeat refine AWp.seq ?_); refine AWp.region noP (by kernel_rfl) ?_
  simp
  refine AWp.cond (b := false) (by simp) (fun h => by cases h) (fun _ => ?_)
  refine AWp.skip ?_
  simp
  (repeat refine AWp.seq ?_); refine AWp.region noP (by kernel_rfl) ?_
  simp
  (repeat refine AWp.seq ?_); refine AWp.block (AWp.rounds (fun m st => ∃ (i : Nat), m = l.length - i ∧ i ≤ l.length ∧ st.slots 0 = .lst false 6 (l.map Hd.av) ∧ st.slots 1 = .lst false 6 (l.map Hd.av) ∧ st.slots 5 = .int .i64 i) l.length ⟨0, by simp, by simp, by simp, by simp, by simp⟩ ?_)
  rintro R m st hR ⟨i, rfl, hi, s0, s1, s5⟩
  (repeat refine AWp.seq ?_); refine AWp.region noP (by kernel_rfl) ?_
  simp [s0, s5]
  refine AWp.cond (b := decide (i < l.length)) (by simp) (fun hb => ?_) (fun hb => ?_)
  · simp at hb
    have hq : l[i]? = some l[i] := List.getElem?_eq_getElem hb
    refine AWp.skip ?_
    simp
    (repeat refine AWp.seq ?_); refine AWp.block ?_; (repeat refine AWp.seq ?_); refine AWp.region allP (by kernel_rfl) ?_
    have hx1 : idxA Tryz.prog st.mem 47 (.lst false 6 (l.map Hd.av)) (.int .i64 i) = some (.ref l[i].cells) := idx (y := l[i].av) es_47 (by simp [hq])
    simp [s0, s1, s5, hx1]
    refine aop_call _ _ _ _ _ _ _ _ (h l[i] (List.getElem_mem _)) ?_
    simp
    refine AWp.cond (b := false) (by simp) (fun h => by cases h) (fun _ => ?_)
    refine AWp.skip ?_
    simp
    (repeat refine AWp.seq ?_); refine AWp.region noP (by kernel_rfl) ?_
    have hw : IntKind.wrap .i64 ((i : Int) + 1) = (i + 1 : Nat) := wrap64 (by omega) (by omega)
    simp [s5, hw]
    exact hR _ (l.length - (i + 1)) (by omega) ⟨i + 1, rfl, hb, by simp [s0], by simp [s1], by simp⟩
  · simp at hb
    refine AWp.exit ?_
    simp
    (repeat refine AWp.seq ?_); refine AWp.region noP (by kernel_rfl) ?_
    simp
    exact AWp.ret (post_ret1 rfl (by simp))
theorem c_eqMach0B (m : Mc) (ht : m.tot ≤ 1099511627776) : PCall Tryz.prog 33 [m.av, m.av] (.bool true) := by
  have h1 := totL_len Hd.tot m.hands
  have h3 : m.tot = m.mem.length + (totL Hd.tot m.hands + m.out.length) := rfl
  unfold Mc.av Mc.cells
  refine pcall_of Tryz.func33 (by kernel_rfl) rfl (by simp [Tryz.f33]) ?_
  (repeat refine AWp.seq ?_); refine AWp.region noP (by kernel_rfl) ?_
  simp [set_at]
  intro g1 g2 h2
  have n21 : g2 ≠ g1 := fun e => by simp [e] at h2
  have m12 := n21.symm
  (repeat refine AWp.seq ?_); refine AWp.region allP (by kernel_rfl) ?_
  simp [set_at, n21, m12]
  refine aop_call _ _ _ _ _ _ _ _ (c_eqIntSB m.mem (by omega)) ?_
  simp [set_at, n21, m12]
  refine AWp.cond (b := false) (by simp) (fun h => by cases h) (fun _ => ?_)
  refine AWp.skip ?_
  simp
  (repeat refine AWp.seq ?_); refine AWp.region allP (by kernel_rfl) ?_
  simp [set_at, n21, m12]
  refine aop_call _ _ _ _ _ _ _ _ (c_eqHandSB m.hands (by omega) (fun x hx => c_eqHand0B x (by have := totL_mem Hd.tot hx; omega))) ?_
  simp [set_at, n21, m12]
  refine AWp.cond (b := false) (by simp) (fun h => by cases h) (fun _ => ?_)
  refine AWp.skip ?_
  simp
  (repeat refine AWp.seq ?_); refine AWp.region allP (by kernel_rfl) ?_
  simp [set_at, n21, m12]
  refine aop_call _ _ _ _ _ _ _ _ (c_eqIntSB m.out (by omega)) ?_
  simp [set_at, n21, m12]
  refine AWp.cond (b := false) (by simp) (fun h => by cases h) (fun _ => ?_)
  refine AWp.skip ?_
  simp
  (repeat refine AWp.seq ?_); refine AWp.region noP (by kernel_rfl) ?_
  simp [set_at, n21, m12]
  refine AWp.cond (b := false) (by simp) (fun h => by cases h) (fun _ => ?_)
  refine AWp.skip ?_
  simp
  (repeat refine AWp.seq ?_); refine AWp.region noP (by kernel_rfl) ?_
  simp
  exact AWp.ret (post_ret1 rfl (by simp))
theorem cnts_tot {α : Type} {f : α → AV} {t : α → Nat} {C : Nat} (l : List α) (h : ∀ x ∈ l, (f x).cnt ≤ C + C * t x) : AV.cnts (l.map f) ≤ C * totL t l := by
  induction l with
  | nil => simp [AV.cnts]
  | cons x l ih =>
    have h1 := h x (List.mem_cons_self ..)
    have h2 := ih fun y hy => h y (List.mem_cons_of_mem _ hy)
    simp only [List.map_cons, AV.cnts, totL, Nat.mul_add, Nat.mul_one]
    omega
theorem Ex.mcnt_le (e : Ex) : e.av.cnt ≤ 3 + 3 * e.tot := by
  induction e using Ex.ind with | h k n s l h =>
  have := cnts_tot l h
  rw [Ex.tot_mk, Ex.av_mk]
  simp only [AV.cnt, AV.cnts]
  omega
theorem Sm.mcnt_le (e : Sm) : e.av.cnt ≤ 14 + 14 * e.tot := by
  induction e using Sm.ind with | h k s a e lo hi b h =>
  have hb := cnts_tot b h
  have ha := a.mcnt_le
  have he := e.mcnt_le
  have hl := lo.mcnt_le
  have hh := hi.mcnt_le
  have ca : AV.cnts a.cells = a.av.cnt := rfl
  have ce : AV.cnts e.cells = e.av.cnt := rfl
  have cl : AV.cnts lo.cells = lo.av.cnt := rfl
  have ch : AV.cnts hi.cells = hi.av.cnt := rfl
  rw [Sm.tot_mk]
  have hcs : (Sm.mk k s a e lo hi b).av.cnt = AV.cnts (Sm.mk k s a e lo hi b).cells := rfl
  rw [hcs, Sm.cells_mk]
  simp only [AV.cnts, AV.cnt, cnts_append]
  omega
theorem cnts_rep (n : Nat) (x : AV) : AV.cnts (List.replicate n x) = n * x.cnt := by
  induction n with
  | zero => simp [AV.cnts]
  | succ n ih => rw [List.replicate_succ]; simp only [AV.cnts, ih, Nat.succ_mul]; omega
theorem Pg.cnts_le (p : Pg) (ht : p.tot ≤ 1048576) : AV.cnts (p.arrs.map Ar.av) ≤ 2097152 ∧ AV.cnts (p.body.map Sm.av) ≤ 14680064 := by
  have h3 : p.tot = totL Ar.tot p.arrs + totL Sm.tot p.body := rfl
  have h1 := cnts_tot (C := 2) (f := Ar.av) (t := Ar.tot) p.arrs (fun x _ => by obtain ⟨s, n⟩ := x; simp [Ar.av, Ar.cells, AV.cnt, AV.cnts]; try omega)
  have h2 := cnts_tot (C := 14) (f := Sm.av) (t := Sm.tot) p.body (fun x _ => x.mcnt_le)
  omega
theorem machNew_small (p : Pg) (ht : p.tot ≤ 1048576) (h : Int) : (machNew p h).tot ≤ 1099511627776 ∧ AV.cnts ((machNew p h).mem.map (AV.int .i64)) ≤ 1048576 ∧ AV.cnts ((machNew p h).hands.map Hd.av) ≤ 1099511627776 ∧ AV.cnts ((machNew p h).out.map (AV.int .i64)) = 0 := by
  have hm := memSize_le p
  have hr := regsN_le p ht
  unfold machNew
  split
  · rename_i hh
    have y2 := hh.2
    unfold inR at y2
    simp at y2
    simp only [List.map_replicate, cnts_rep, List.map_nil, AV.cnts]
    have e1 : (newHand (regsN p).toNat).av.cnt = 3 + (regsN p).toNat := by rw [newHand_av]; simp only [AV.cnt, AV.cnts, List.map_replicate, cnts_rep]; omega
    have e2 : (newHand (regsN p).toNat).tot = (regsN p).toNat := by simp [Hd.tot, newHand]
    have e3 : totL Hd.tot (List.replicate h.toNat (newHand (regsN p).toNat)) = h.toNat * (1 + (regsN p).toNat) := by
      generalize h.toNat = k
      induction k with
      | zero => simp [totL]
      | succ k ih => rw [List.replicate_succ, totL, ih, e2, Nat.succ_mul]; omega
    have e4 : h.toNat * (1 + (regsN p).toNat) ≤ 4 * 33554433 := Nat.mul_le_mul (by omega) (by omega)
    have e5 : h.toNat * (3 + (regsN p).toNat) ≤ 4 * 33554435 := Nat.mul_le_mul (by omega) (by omega)
    refine ⟨?_, ?_, ?_, by simp⟩
    · simp only [Mc.tot, List.length_replicate, List.length_nil, e3]
      omega
    · simp only [AV.cnt]; omega
    · rw [e1]; omega
  · simp [Mc.tot, totL, AV.cnts]
end Go.T
