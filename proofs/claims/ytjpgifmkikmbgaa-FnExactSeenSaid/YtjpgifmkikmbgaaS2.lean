/- What a hand sees: what the program and the reference compute; the law's function. -/
import Derived.Test.YtjpgifmkikmbgaaS1
namespace Go.T
open Go Go.Proofs
set_option maxRecDepth 10000
set_option linter.unusedSimpArgs false
set_option linter.unusedVariables false
theorem c_l1In (a b c : Int) : PCall Try.prog 30 [.int .i64 a, .int .i64 b, .int .i64 c] (.bool (inR a b c)) := by
  refine pcall_of Try.func30 (by kernel_rfl) rfl (by simp [Try.f30]) ?_
  (repeat refine AWp.seq ?_); refine AWp.region noP (by kernel_rfl) ?_
  simp
  (repeat refine AWp.seq ?_); refine AWp.region noP (by kernel_rfl) ?_
  by_cases h : b ≤ a
  · simp [h]
    exact AWp.ret (post_ret1 rfl (by simp [inR, h]))
  · simp [h]
    exact AWp.ret (post_ret1 rfl (by simp [inR, h]))
theorem c_inRange (a b c : Int) : PCall Try.prog 34 [.int .i64 a, .int .i64 b, .int .i64 c] (.bool (inR a b c)) := by
  refine pcall_of Try.func34 (by kernel_rfl) rfl (by simp [Try.f34]) ?_
  (repeat refine AWp.seq ?_); refine AWp.region noP (by kernel_rfl) ?_
  simp
  (repeat refine AWp.seq ?_); refine AWp.region noP (by kernel_rfl) ?_
  by_cases h : b ≤ a
  · simp [h]
    exact AWp.ret (post_ret1 rfl (by simp [inR, h]))
  · simp [h]
    exact AWp.ret (post_ret1 rfl (by simp [inR, h]))
theorem c_seen (mc : Mc) (hand at_ : Nat) (h : Hd) (d : Int) (hh : mc.hands[hand]? = some h) (ha : mc.mem[at_]? = some d) (hl : h.shelf.length ≤ 1048576) (hl2 : mc.mem.length ≤ 1048576) {g : Nat} {m : Mem} {k : AV → Mem → Prop}
    (hm : m g = some (.box mc.cells)) (hk : k (.int .i64 (seenUp h.shelf at_ d h.shelf.length)) m) : WCall Try.prog 35 [.ptr g 0, .int .i64 hand, .int .i64 at_] m k := by
  refine wcall_of Try.func35 (by kernel_rfl) rfl (by simp [Try.f35]) ?_
  have hlt : at_ < mc.mem.length := (List.getElem?_eq_some_iff.1 ha).1
  unfold Mc.cells ints at hm
  (repeat refine AWp.seq ?_); refine AWp.region noP (by kernel_rfl) ?_
  simp
  (repeat refine AWp.seq ?_); refine AWp.region noP (by kernel_rfl) ?_
  have hx1 : idxA Try.prog m 28 (.lst false 6 (mc.hands.map Hd.av)) (.int .i64 hand) = some (.ref h.cells) := idx (y := h.av) es_28 (by simp [hh])
  have hx2 : idxA Try.prog m 22 (.lst false 1 (mc.mem.map (AV.int .i64))) (.int .i64 at_) = some (.ref [.int .i64 d]) := idx (y := .int .i64 d) es_22 (by simp [ha])
  simp [hm, hx1, Hd.cells]
  (repeat refine AWp.seq ?_); refine AWp.region noP (by kernel_rfl) ?_
  have hw : IntKind.wrap .i64 ((h.shelf.length : Int) - 1) = (h.shelf.length : Int) - 1 := wrap64 (by omega) (by omega)
  simp [hw]
  (repeat refine AWp.seq ?_); refine AWp.block (AWp.rounds (fun n st => n ≤ h.shelf.length ∧ st.slots 0 = .ptr g 0 ∧ st.slots 2 = .int .i64 at_ ∧ st.slots 7 = .lst false 2 (h.shelf.map Pu.av) ∧ st.slots 8 = .int .i64 ((n : Int) - 1) ∧ st.mem = m ∧ seenUp h.shelf at_ d h.shelf.length = seenUp h.shelf at_ d n) h.shelf.length (by simp) ?_)
  rintro R n st hR ⟨hn, s0, s2, s7, s8, sm, hr⟩
  cases n with
  | zero =>
    (repeat refine AWp.seq ?_); refine AWp.region noP (by kernel_rfl) ?_
    simp [s8]
    refine AWp.condF (by simp) ?_
    refine AWp.exit ?_
    simp
    rw [hr, seenUp] at hk
    (repeat refine AWp.seq ?_); refine AWp.region noP (by kernel_rfl) ?_
    simp [s0, s2, sm, hm, hx2]
    exact AWp.ret (post_retW rfl ⟨_, _, View.refl _ _, by simpa [sm] using hk⟩)
  | succ n =>
    have e1 : ((n + 1 : Nat) : Int) - 1 = n := by omega
    rw [e1] at s8
    have hlt2 : n < h.shelf.length := by omega
    have hq : h.shelf[n]? = some h.shelf[n] := List.getElem?_eq_getElem hlt2
    have hx3 : idxA Try.prog st.mem 115 (.lst false 2 (h.shelf.map Pu.av)) (.int .i64 n) = some (.ref [.int .i64 h.shelf[n].at_, .int .i64 h.shelf[n].n]) := idx (y := h.shelf[n].av) es_115 (by simp [hq])
    rw [sm] at hx3
    (repeat refine AWp.seq ?_); refine AWp.region noP (by kernel_rfl) ?_
    simp [s8]
    refine AWp.condT (by simp) ?_
    refine AWp.skip ?_
    simp
    (repeat refine AWp.seq ?_); refine AWp.block ?_; (repeat refine AWp.seq ?_); refine AWp.region noP (by kernel_rfl) ?_
    simp [s7, s8, s2, sm, hx3]
    have hz : seenUp h.shelf at_ d (n + 1) = if h.shelf[n].at_ = at_ then h.shelf[n].n else seenUp h.shelf at_ d n := by rw [seenUp, hq]
    refine AWp.cond (b := decide (h.shelf[n].at_ = at_)) (by simp) (fun hb => ?_) (fun hb => ?_)
    · simp at hb
      rw [hr, hz, if_pos hb] at hk
      (repeat refine AWp.seq ?_); refine AWp.region noP (by kernel_rfl) ?_
      simp [s7, s8, s2, sm, hx3]
      exact AWp.ret (post_retW rfl ⟨_, _, View.refl _ _, by simpa [sm] using hk⟩)
    · simp at hb
      refine AWp.skip ?_
      simp
      (repeat refine AWp.seq ?_); refine AWp.region noP (by kernel_rfl) ?_
      have hw2 : IntKind.wrap .i64 ((n : Int) - 1) = (n : Int) - 1 := wrap64 (by omega) (by omega)
      simp [s8, hw2]
      exact hR _ n (by omega) ⟨by omega, by simp [s0], by simp [s2], by simp [s7], by simp, by simp [sm], by rw [hr, hz, if_neg hb]⟩
theorem c_l19Seen (mc : Mc) (hand at_ : Nat) (h : Hd) (d : Int) (hh : mc.hands[hand]? = some h) (ha : mc.mem[at_]? = some d) (hl : h.shelf.length ≤ 1048576) (hl2 : mc.mem.length ≤ 1048576) {g : Nat} {m : Mem} {k : AV → Mem → Prop}
    (hm : m g = some (.box mc.cells)) (hk : k (.int .i64 (seenUp h.shelf at_ d h.shelf.length)) m) : WCall Try.prog 31 [.ptr g 0, .int .i64 hand, .int .i64 at_] m k := by
  refine wcall_of Try.func31 (by kernel_rfl) rfl (by simp [Try.f31]) ?_
  have hlt : at_ < mc.mem.length := (List.getElem?_eq_some_iff.1 ha).1
  unfold Mc.cells ints at hm
  (repeat refine AWp.seq ?_); refine AWp.region noP (by kernel_rfl) ?_
  simp
  (repeat refine AWp.seq ?_); refine AWp.region noP (by kernel_rfl) ?_
  have hx1 : idxA Try.prog m 28 (.lst false 6 (mc.hands.map Hd.av)) (.int .i64 hand) = some (.ref h.cells) := idx (y := h.av) es_28 (by simp [hh])
  have hx2 : idxA Try.prog m 22 (.lst false 1 (mc.mem.map (AV.int .i64))) (.int .i64 at_) = some (.ref [.int .i64 d]) := idx (y := .int .i64 d) es_22 (by simp [ha])
  simp [hm, hx1, Hd.cells]
  (repeat refine AWp.seq ?_); refine AWp.region noP (by kernel_rfl) ?_
  have hw : IntKind.wrap .i64 ((h.shelf.length : Int) - 1) = (h.shelf.length : Int) - 1 := wrap64 (by omega) (by omega)
  simp [hw]
  (repeat refine AWp.seq ?_); refine AWp.block (AWp.rounds (fun n st => n ≤ h.shelf.length ∧ st.slots 0 = .ptr g 0 ∧ st.slots 2 = .int .i64 at_ ∧ st.slots 7 = .lst false 2 (h.shelf.map Pu.av) ∧ st.slots 8 = .int .i64 ((n : Int) - 1) ∧ st.mem = m ∧ seenUp h.shelf at_ d h.shelf.length = seenUp h.shelf at_ d n) h.shelf.length (by simp) ?_)
  rintro R n st hR ⟨hn, s0, s2, s7, s8, sm, hr⟩
  cases n with
  | zero =>
    (repeat refine AWp.seq ?_); refine AWp.region noP (by kernel_rfl) ?_
    simp [s8]
    refine AWp.condF (by simp) ?_
    refine AWp.exit ?_
    simp
    rw [hr, seenUp] at hk
    (repeat refine AWp.seq ?_); refine AWp.region noP (by kernel_rfl) ?_
    have hw3 : IntKind.wrap .i64 ((mc.mem.length : Int) - 1) = (mc.mem.length : Int) - 1 := wrap64 (by omega) (by omega)
    simp [s0, s2, sm, hm, hw3]
    refine aop_call' (c_l1In _ _ _) ?_
    have hin : inR at_ 0 ((mc.mem.length : Int) - 1) = true := by unfold inR; simp; omega
    simp [hin]
    refine AWp.condF (by simp) ?_
    refine AWp.skip ?_
    simp
    (repeat refine AWp.seq ?_); refine AWp.region noP (by kernel_rfl) ?_
    simp [s0, s2, sm, hm, hx2]
    exact AWp.ret (post_retW rfl ⟨_, _, View.refl _ _, by simpa [sm] using hk⟩)
  | succ n =>
    have e1 : ((n + 1 : Nat) : Int) - 1 = n := by omega
    rw [e1] at s8
    have hlt2 : n < h.shelf.length := by omega
    have hq : h.shelf[n]? = some h.shelf[n] := List.getElem?_eq_getElem hlt2
    have hx3 : idxA Try.prog st.mem 115 (.lst false 2 (h.shelf.map Pu.av)) (.int .i64 n) = some (.ref [.int .i64 h.shelf[n].at_, .int .i64 h.shelf[n].n]) := idx (y := h.shelf[n].av) es_115 (by simp [hq])
    rw [sm] at hx3
    (repeat refine AWp.seq ?_); refine AWp.region noP (by kernel_rfl) ?_
    simp [s8]
    refine AWp.condT (by simp) ?_
    refine AWp.skip ?_
    simp
    (repeat refine AWp.seq ?_); refine AWp.block ?_; (repeat refine AWp.seq ?_); refine AWp.region noP (by kernel_rfl) ?_
    simp [s7, s8, s2, sm, hx3]
    have hz : seenUp h.shelf at_ d (n + 1) = if h.shelf[n].at_ = at_ then h.shelf[n].n else seenUp h.shelf at_ d n := by rw [seenUp, hq]
    refine AWp.cond (b := decide (h.shelf[n].at_ = at_)) (by simp) (fun hb => ?_) (fun hb => ?_)
    · simp at hb
      rw [hr, hz, if_pos hb] at hk
      (repeat refine AWp.seq ?_); refine AWp.region noP (by kernel_rfl) ?_
      simp [s7, s8, s2, sm, hx3]
      exact AWp.ret (post_retW rfl ⟨_, _, View.refl _ _, by simpa [sm] using hk⟩)
    · simp at hb
      refine AWp.skip ?_
      simp
      (repeat refine AWp.seq ?_); refine AWp.region noP (by kernel_rfl) ?_
      have hw2 : IntKind.wrap .i64 ((n : Int) - 1) = (n : Int) - 1 := wrap64 (by omega) (by omega)
      simp [s8, hw2]
      exact hR _ n (by omega) ⟨by omega, by simp [s0], by simp [s2], by simp [s7], by simp, by simp [sm], by rw [hr, hz, if_neg hb]⟩
/-- What Seen answers. -/
def Mc.seen (m : Mc) (hand at_ : Int) : Int :=
  if inR hand 0 ((m.hands.length : Int) - 1) = true ∧ inR at_ 0 ((m.mem.length : Int) - 1) = true then
    match m.hands[hand.toNat]?, m.mem[at_.toNat]? with
    | some h, some d => seenUp h.shelf at_ d h.shelf.length
    | _, _ => 0
  else 0
theorem c_impl_Seen (mc : Mc) (hand at_ : Int) (ht : mc.tot ≤ 1048576) : PCall Try.prog 9 [mc.av, .int .i64 hand, .int .i64 at_] (.int .i64 (mc.seen hand at_)) := by
  have h1 := totL_len Hd.tot mc.hands
  have h3 : mc.tot = mc.mem.length + (totL Hd.tot mc.hands + mc.out.length) := rfl
  have hw1 : IntKind.wrap .i64 ((mc.hands.length : Int) - 1) = (mc.hands.length : Int) - 1 := wrap64 (by omega) (by omega)
  have hw2 : IntKind.wrap .i64 ((mc.mem.length : Int) - 1) = (mc.mem.length : Int) - 1 := wrap64 (by omega) (by omega)
  have hb0 : mc.cells = [ints mc.mem, .lst false 6 (mc.hands.map Hd.av), ints mc.out, .bool mc.trap] := rfl
  refine pcall_of Try.func9 (by kernel_rfl) rfl (by simp [Try.f9]) ?_
  unfold Mc.av
  rw [hb0]
  (repeat refine AWp.seq ?_); refine AWp.region noP (by kernel_rfl) ?_
  simp
  intro g
  cases x1 : inR hand 0 ((mc.hands.length : Int) - 1)
  · have hz : mc.seen hand at_ = 0 := by unfold Mc.seen; rw [if_neg (by simp [x1])]
    rw [hz]
    repeat' (first
    | refine AWp.seq ?_
    | (refine AWp.region allP (by kernel_rfl) ?_; simp [ints, hw1, hw2, x1])
    | (refine AWp.condG ?_; simp [ints, hw1, hw2, x1])
    | (refine AWp.skip ?_; try simp)
    | (refine AWp.exit ?_; try simp)
    | refine AWp.block ?_
    | (refine aop_call' (c_inRange _ _ _) ?_; simp [ints, hw1, hw2, x1])
    | (refine AWp.ret (post_ret1 rfl ?_); (simp; done))
    | (refine guardI (fun hq => ?_) (fun hq => ?_) <;> (try simp at hq) <;> (try simp [ints, hw1, hw2, x1]))
    | (refine condRunI (fun hq => ?_) (fun hq => ?_) <;> (try simp at hq) <;> (try simp [ints, hw1, hw2, x1]))
    | (refine iteI (fun hq => ?_) (fun hq => ?_) <;> (try simp [ints, hw1, hw2, x1])))
  cases x2 : inR at_ 0 ((mc.mem.length : Int) - 1)
  · have hz : mc.seen hand at_ = 0 := by unfold Mc.seen; rw [if_neg (by simp [x2])]
    rw [hz]
    repeat' (first
    | refine AWp.seq ?_
    | (refine AWp.region allP (by kernel_rfl) ?_; simp [ints, hw1, hw2, x1, x2])
    | (refine AWp.condG ?_; simp [ints, hw1, hw2, x1, x2])
    | (refine AWp.skip ?_; try simp)
    | (refine AWp.exit ?_; try simp)
    | refine AWp.block ?_
    | (refine aop_call' (c_inRange _ _ _) ?_; simp [ints, hw1, hw2, x1, x2])
    | (refine AWp.ret (post_ret1 rfl ?_); (simp; done))
    | (refine guardI (fun hq => ?_) (fun hq => ?_) <;> (try simp at hq) <;> (try simp [ints, hw1, hw2, x1, x2]))
    | (refine condRunI (fun hq => ?_) (fun hq => ?_) <;> (try simp at hq) <;> (try simp [ints, hw1, hw2, x1, x2]))
    | (refine iteI (fun hq => ?_) (fun hq => ?_) <;> (try simp [ints, hw1, hw2, x1, x2])))
  have y1 := x1
  have y2 := x2
  unfold inR at y1 y2
  simp at y1 y2
  obtain ⟨hand, rfl⟩ := Int.eq_ofNat_of_zero_le y1.1
  obtain ⟨at_, rfl⟩ := Int.eq_ofNat_of_zero_le y2.1
  have l1 : hand < mc.hands.length := by omega
  have l2 : at_ < mc.mem.length := by omega
  have e1 : mc.hands[hand]? = some mc.hands[hand] := List.getElem?_eq_getElem l1
  have e2 : mc.mem[at_]? = some mc.mem[at_] := List.getElem?_eq_getElem l2
  have hz : mc.seen hand at_ = seenUp mc.hands[hand].shelf at_ mc.mem[at_] mc.hands[hand].shelf.length := by
    unfold Mc.seen
    rw [if_pos ⟨x1, x2⟩]
    simp [e1, e2]
  have hsh : mc.hands[hand].shelf.length ≤ 1048576 := by
    have := totL_mem Hd.tot (List.getElem_mem l1)
    unfold Hd.tot at this
    unfold Hd.tot at h3
    omega
  (repeat refine AWp.seq ?_); refine AWp.region allP (by kernel_rfl) ?_
  simp [ints, hw1, hw2]
  refine aop_call' (c_inRange _ _ _) ?_
  simp [x1, ints, hw2]
  refine aop_call' (c_inRange _ _ _) ?_
  simp [x2]
  (repeat refine AWp.seq ?_); refine AWp.condF (by simp) ?_
  refine AWp.skip ?_
  simp
  (repeat refine AWp.seq ?_); refine AWp.region noP (by kernel_rfl) ?_
  simp
  refine aop_wcall _ _ _ _ _ _ _ _ rfl (eval_func _ _) ?_
  refine c_seen mc hand at_ _ _ e1 e2 hsh (by omega) (by simp [hb0, ints]) ?_
  (try simp)
  exact AWp.ret (post_retW rfl ⟨_, _, View.refl _ _, by simp [hz]⟩)
theorem c_spec_Seen (mc : Mc) (hand at_ : Int) (ht : mc.tot ≤ 1048576) : PCall Try.prog 7 [mc.av, .int .i64 hand, .int .i64 at_] (.int .i64 (mc.seen hand at_)) := by
  have h1 := totL_len Hd.tot mc.hands
  have h3 : mc.tot = mc.mem.length + (totL Hd.tot mc.hands + mc.out.length) := rfl
  have hw1 : IntKind.wrap .i64 ((mc.hands.length : Int) - 1) = (mc.hands.length : Int) - 1 := wrap64 (by omega) (by omega)
  have hw2 : IntKind.wrap .i64 ((mc.mem.length : Int) - 1) = (mc.mem.length : Int) - 1 := wrap64 (by omega) (by omega)
  have hb0 : mc.cells = [ints mc.mem, .lst false 6 (mc.hands.map Hd.av), ints mc.out, .bool mc.trap] := rfl
  refine pcall_of Try.func7 (by kernel_rfl) rfl (by simp [Try.f7]) ?_
  unfold Mc.av
  rw [hb0]
  (repeat refine AWp.seq ?_); refine AWp.region noP (by kernel_rfl) ?_
  simp
  intro g
  cases x1 : inR hand 0 ((mc.hands.length : Int) - 1)
  · have hz : mc.seen hand at_ = 0 := by unfold Mc.seen; rw [if_neg (by simp [x1])]
    rw [hz]
    repeat' (first
    | refine AWp.seq ?_
    | (refine AWp.region allP (by kernel_rfl) ?_; simp [ints, hw1, hw2, x1])
    | (refine AWp.condG ?_; simp [ints, hw1, hw2, x1])
    | (refine AWp.skip ?_; try simp)
    | (refine AWp.exit ?_; try simp)
    | refine AWp.block ?_
    | (refine aop_call' (c_l1In _ _ _) ?_; simp [ints, hw1, hw2, x1])
    | (refine AWp.ret (post_ret1 rfl ?_); (simp; done))
    | (refine guardI (fun hq => ?_) (fun hq => ?_) <;> (try simp at hq) <;> (try simp [ints, hw1, hw2, x1]))
    | (refine condRunI (fun hq => ?_) (fun hq => ?_) <;> (try simp at hq) <;> (try simp [ints, hw1, hw2, x1]))
    | (refine iteI (fun hq => ?_) (fun hq => ?_) <;> (try simp [ints, hw1, hw2, x1])))
  cases x2 : inR at_ 0 ((mc.mem.length : Int) - 1)
  · have hz : mc.seen hand at_ = 0 := by unfold Mc.seen; rw [if_neg (by simp [x2])]
    rw [hz]
    repeat' (first
    | refine AWp.seq ?_
    | (refine AWp.region allP (by kernel_rfl) ?_; simp [ints, hw1, hw2, x1, x2])
    | (refine AWp.condG ?_; simp [ints, hw1, hw2, x1, x2])
    | (refine AWp.skip ?_; try simp)
    | (refine AWp.exit ?_; try simp)
    | refine AWp.block ?_
    | (refine aop_call' (c_l1In _ _ _) ?_; simp [ints, hw1, hw2, x1, x2])
    | (refine AWp.ret (post_ret1 rfl ?_); (simp; done))
    | (refine guardI (fun hq => ?_) (fun hq => ?_) <;> (try simp at hq) <;> (try simp [ints, hw1, hw2, x1, x2]))
    | (refine condRunI (fun hq => ?_) (fun hq => ?_) <;> (try simp at hq) <;> (try simp [ints, hw1, hw2, x1, x2]))
    | (refine iteI (fun hq => ?_) (fun hq => ?_) <;> (try simp [ints, hw1, hw2, x1, x2])))
  have y1 := x1
  have y2 := x2
  unfold inR at y1 y2
  simp at y1 y2
  obtain ⟨hand, rfl⟩ := Int.eq_ofNat_of_zero_le y1.1
  obtain ⟨at_, rfl⟩ := Int.eq_ofNat_of_zero_le y2.1
  have l1 : hand < mc.hands.length := by omega
  have l2 : at_ < mc.mem.length := by omega
  have e1 : mc.hands[hand]? = some mc.hands[hand] := List.getElem?_eq_getElem l1
  have e2 : mc.mem[at_]? = some mc.mem[at_] := List.getElem?_eq_getElem l2
  have hz : mc.seen hand at_ = seenUp mc.hands[hand].shelf at_ mc.mem[at_] mc.hands[hand].shelf.length := by
    unfold Mc.seen
    rw [if_pos ⟨x1, x2⟩]
    simp [e1, e2]
  have hsh : mc.hands[hand].shelf.length ≤ 1048576 := by
    have := totL_mem Hd.tot (List.getElem_mem l1)
    unfold Hd.tot at this
    unfold Hd.tot at h3
    omega
  (repeat refine AWp.seq ?_); refine AWp.region allP (by kernel_rfl) ?_
  simp [ints, hw1, hw2]
  refine aop_call' (c_l1In _ _ _) ?_
  simp [x1, ints, hw2]
  refine aop_call' (c_l1In _ _ _) ?_
  simp [x2]
  (repeat refine AWp.seq ?_); refine AWp.condF (by simp) ?_
  refine AWp.skip ?_
  simp
  (repeat refine AWp.seq ?_); refine AWp.region noP (by kernel_rfl) ?_
  simp
  refine aop_wcall _ _ _ _ _ _ _ _ rfl (eval_func _ _) ?_
  refine c_l19Seen mc hand at_ _ _ e1 e2 hsh (by omega) (by simp [hb0, ints]) ?_
  (try simp)
  exact AWp.ret (post_retW rfl ⟨_, _, View.refl _ _, by simp [hz]⟩)
theorem c_szMach (m : Mc) (hf : m.fit) (n : Int) (h0 : 0 ≤ n) (h1 : n ≤ 1048576) : PCall Try.prog 6 [m.av, .int .i64 n] (.int .i64 (szr m.tot n)) := c_szMach0 m hf n h0 h1
theorem c_FnExactSeen (m : Mc) (hf : m.fit) (hand at_ : Int) : PCall Try.prog 3 [m.av, .int .i64 hand, .int .i64 at_] (.bool true) := by
  refine pcall_of Try.func3 (by kernel_rfl) rfl (by simp [Try.f3]) ?_
  have cs := c_szMach m hf 1048576 (by omega) (by omega)
  by_cases hb : m.tot ≤ 1048576
  · have hs : szr m.tot 1048576 = 1048576 - m.tot := szr_pos (by omega)
    have hs2 : ¬ (1048576 - (m.tot : Int) < 0) := by omega
    rw [hs] at cs
    have ct := c_toMach0 m hb
    have ce := c_eqMach0 m hb
    have c1 := c_spec_Seen m hand at_ hb
    have c2 := c_impl_Seen m hand at_ hb
    unfold Mc.av at cs ct ce c1 c2 ⊢
    (repeat refine AWp.seq ?_); refine AWp.region noP (by kernel_rfl) ?_
    simp
    intro g
    repeat' (first
    | refine AWp.seq ?_
    | (refine AWp.region allP (by kernel_rfl) ?_; simp [hs2])
    | (refine AWp.condG ?_; simp [hs2])
    | (refine AWp.skip ?_; try simp)
    | (refine AWp.exit ?_; try simp)
    | refine AWp.block ?_
    | (refine aop_call' (cs) ?_; simp [hs2])
    | (refine aop_call' (ct) ?_; simp [hs2])
    | (refine aop_call' (ce) ?_; simp [hs2])
    | (refine aop_call' (c1) ?_; simp [hs2])
    | (refine aop_call' (c2) ?_; simp [hs2])
    | (refine AWp.ret (post_ret1 rfl ?_); (simp; done))
    | (refine guardI (fun hq => ?_) (fun hq => ?_) <;> (try simp at hq) <;> (try simp [hs2]))
    | (refine condRunI (fun hq => ?_) (fun hq => ?_) <;> (try simp at hq) <;> (try simp [hs2]))
    | (refine iteI (fun hq => ?_) (fun hq => ?_) <;> (try simp [hs2])))
    intro g2 h2
    have n21 : g2 ≠ g := fun e => by simp [e, set_at] at h2
    have m12 := n21.symm
    repeat' (first
    | refine AWp.seq ?_
    | (refine AWp.region allP (by kernel_rfl) ?_; simp [set_at, n21, m12])
    | (refine AWp.condG ?_; simp [set_at, n21, m12])
    | (refine AWp.skip ?_; try simp)
    | (refine AWp.exit ?_; try simp)
    | refine AWp.block ?_
    | (refine aop_call' (cs) ?_; simp [set_at, n21, m12])
    | (refine aop_call' (ct) ?_; simp [set_at, n21, m12])
    | (refine aop_call' (ce) ?_; simp [set_at, n21, m12])
    | (refine aop_call' (c1) ?_; simp [set_at, n21, m12])
    | (refine aop_call' (c2) ?_; simp [set_at, n21, m12])
    | (refine AWp.ret (post_ret1 rfl ?_); (simp; done))
    | (refine guardI (fun hq => ?_) (fun hq => ?_) <;> (try simp at hq) <;> (try simp [set_at, n21, m12]))
    | (refine condRunI (fun hq => ?_) (fun hq => ?_) <;> (try simp at hq) <;> (try simp [set_at, n21, m12]))
    | (refine iteI (fun hq => ?_) (fun hq => ?_) <;> (try simp [set_at, n21, m12])))
  · have hs : szr m.tot 1048576 = -1 := szr_neg (by omega)
    rw [hs] at cs
    unfold Mc.av at cs ⊢
    (repeat refine AWp.seq ?_); refine AWp.region noP (by kernel_rfl) ?_
    simp
    intro g
    repeat' (first
    | refine AWp.seq ?_
    | (refine AWp.region allP (by kernel_rfl) ?_; simp)
    | (refine AWp.condG ?_; simp)
    | (refine AWp.skip ?_; try simp)
    | (refine AWp.exit ?_; try simp)
    | refine AWp.block ?_
    | (refine aop_call' (cs) ?_; simp)
    | (refine AWp.ret (post_ret1 rfl ?_); (simp; done))
    | (refine guardI (fun hq => ?_) (fun hq => ?_) <;> (try simp at hq) <;> (try simp))
    | (refine condRunI (fun hq => ?_) (fun hq => ?_) <;> (try simp at hq) <;> (try simp))
    | (refine iteI (fun hq => ?_) (fun hq => ?_) <;> (try simp)))
section
variable {H : Type} {enc : TypeId × Value → H} {W : World}
theorem o_Put (fuel : Nat) : Opens enc Try.prog W 158 Pu.cells (fun _ => True) fuel := by
  cases fuel with
  | zero => exact opens_zero
  | succ k =>
    exact Opens.map (opens_struct Try.underlying158 (N := 2) (by kernel_rfl) (fields_cons (n := 1) rfl (by kernel_rfl) (opens_int Try.underlying3 _) (fields_cons (n := 1) rfl (by kernel_rfl) (opens_int Try.underlying3 _) (fields_nil rfl))))
      (fun x => Pu.mk x.1 x.2.1) fun x hx => ⟨trivial, Les.refl _⟩
theorem o_IntS (fuel : Nat) : Opens enc Try.prog W 22 (fun l : List Int => [ints l]) (fun l => l.length ≤ most) fuel := by
  cases fuel with
  | zero => exact opens_zero
  | succ k => exact Opens.map (opens_slice Try.underlying22 (n := 1) (elt := AV.int .i64) (by kernel_rfl) (by omega) (fun _ => rfl) (fun _ => rfl) (opens_int Try.underlying3 k)) id fun x hx => ⟨hx.1, Les.refl _⟩
theorem o_PutS (fuel : Nat) : Opens enc Try.prog W 112 (fun l : List Pu => [.lst false 2 (l.map Pu.av)]) (fun l => l.length ≤ most) fuel := by
  cases fuel with
  | zero => exact opens_zero
  | succ k => exact Opens.map (opens_slice Try.underlying112 (n := 2) (elt := Pu.av) (by kernel_rfl) (by omega) (fun _ => rfl) (fun _ => rfl) (o_Put k)) id fun x hx => ⟨hx.1, Les.refl _⟩
theorem o_Hand (fuel : Nat) : Opens enc Try.prog W 114 Hd.cells Hd.fit fuel := by
  cases fuel with
  | zero => exact opens_zero
  | succ k =>
    exact Opens.map (opens_struct Try.underlying114 (N := 6) (by kernel_rfl) (fields_cons (n := 1) rfl (by kernel_rfl) (opens_int Try.underlying3 _) (fields_cons (n := 1) rfl (by kernel_rfl) (o_IntS _) (fields_cons (n := 1) rfl (by kernel_rfl) (o_IntS _) (fields_cons (n := 1) rfl (by kernel_rfl) (o_PutS _)
      (fields_cons (n := 1) rfl (by kernel_rfl) (opens_bool Try.underlying4 _) (fields_cons (n := 1) rfl (by kernel_rfl) (opens_bool Try.underlying4 _) (fields_nil rfl))))))))
      (fun x => Hd.mk x.1 x.2.1 x.2.2.1 x.2.2.2.1 x.2.2.2.2.1 x.2.2.2.2.2.1) fun x hx => ⟨⟨hx.2.1, hx.2.2.1, hx.2.2.2.1⟩, Les.refl _⟩
theorem o_HandS (fuel : Nat) : Opens enc Try.prog W 23 (fun l : List Hd => [.lst false 6 (l.map Hd.av)]) (fun l => l.length ≤ most ∧ ∀ x ∈ l, x.fit) fuel := by
  cases fuel with
  | zero => exact opens_zero
  | succ k => exact Opens.map (opens_slice Try.underlying23 (n := 6) (elt := Hd.av) (by kernel_rfl) (by omega) (fun _ => rfl) (fun _ => rfl) (o_Hand k)) id fun x hx => ⟨hx, Les.refl _⟩
theorem o_Mach (fuel : Nat) : Opens enc Try.prog W 25 Mc.cells Mc.fit fuel := by
  cases fuel with
  | zero => exact opens_zero
  | succ k =>
    exact Opens.map (opens_struct Try.underlying25 (N := 4) (by kernel_rfl) (fields_cons (n := 1) rfl (by kernel_rfl) (o_IntS _) (fields_cons (n := 1) rfl (by kernel_rfl) (o_HandS _) (fields_cons (n := 1) rfl (by kernel_rfl) (o_IntS _)
      (fields_cons (n := 1) rfl (by kernel_rfl) (opens_bool Try.underlying4 _) (fields_nil rfl))))))
      (fun x => Mc.mk x.1 x.2.1 x.2.2.1 x.2.2.2.1) fun x hx => ⟨⟨hx.1, hx.2.1.1, hx.2.1.2, hx.2.2.1⟩, Les.refl _⟩
end
end Go.T
