/- Names: what the program and the reference compute. What the laws' measuring, copying and comparing functions compute. What the laws' copying and comparing functions compute. What is right: what the program and the reference compute. What is right: what the program and the reference compute. -/
import Derived.Test.YtfikgphnjndgdaaGreatG2
import Derived.Test.YtfikgphnjndgdaaGreatG6
namespace Go.T
open Go Go.Proofs
set_option maxRecDepth 10000
set_option maxHeartbeats 1000000
set_option linter.unusedSimpArgs false
theorem c_l1In (a b c : Int) : PCall Tryz.prog 107 [.int .i64 a, .int .i64 b, .int .i64 c] (.bool (inR a b c)) := by
  refine pcall_of Tryz.func107 (by kernel_rfl) rfl (by simp [Tryz.f107]) ?_
  (repeat refine AWp.seq ?_); refine AWp.region noP (by kernel_rfl) ?_
  simp
  (repeat refine AWp.seq ?_); refine AWp.region noP (by kernel_rfl) ?_
  by_cases h : b ≤ a
  · simp [h]
    exact AWp.ret (post_ret1 rfl (by simp [inR, h]))
  · simp [h]
    exact AWp.ret (post_ret1 rfl (by simp [inR, h]))
theorem c_inRange (a b c : Int) : PCall Tryz.prog 111 [.int .i64 a, .int .i64 b, .int .i64 c] (.bool (inR a b c)) := by
  refine pcall_of Tryz.func111 (by kernel_rfl) rfl (by simp [Tryz.f111]) ?_
  (repeat refine AWp.seq ?_); refine AWp.region noP (by kernel_rfl) ?_
  simp
  (repeat refine AWp.seq ?_); refine AWp.region noP (by kernel_rfl) ?_
  by_cases h : b ≤ a
  · simp [h]
    exact AWp.ret (post_ret1 rfl (by simp [inR, h]))
  · simp [h]
    exact AWp.ret (post_ret1 rfl (by simp [inR, h]))
theorem c_l2Small (c : UInt8) : PCall Tryz.prog 409 [.int .u8 c.toNat] (.bool (small c)) := by
  refine pcall_of Tryz.func409 (by kernel_rfl) rfl (by simp [Tryz.f409]) ?_
  (repeat refine AWp.seq ?_); refine AWp.region noP (by kernel_rfl) ?_
  simp
  (repeat refine AWp.seq ?_); refine AWp.region allP (by kernel_rfl) ?_
  have hw : IntKind.wrap .i64 (c.toNat : Int) = c.toNat := wrap64 (by omega) (by have := c.toNat_lt; omega)
  simp [hw]
  refine aop_call _ _ _ _ _ _ _ _ (c_l1In _ _ _) ?_
  simp
  exact AWp.ret (post_ret1 rfl (by simp [small]))
theorem c_isLetter (c : UInt8) : PCall Tryz.prog 413 [.int .u8 c.toNat] (.bool (small c)) := by
  refine pcall_of Tryz.func413 (by kernel_rfl) rfl (by simp [Tryz.f413]) ?_
  (repeat refine AWp.seq ?_); refine AWp.region noP (by kernel_rfl) ?_
  simp
  (repeat refine AWp.seq ?_); refine AWp.region noP (by kernel_rfl) ?_
  by_cases h : (97 : Int) ≤ c.toNat
  · simp [h]
    exact AWp.ret (post_ret1 rfl (by simp [inR, small, h]))
  · simp [h]
    exact AWp.ret (post_ret1 rfl (by simp [inR, small, h]))
theorem c_l2Has (l : List ByteArray) (s : ByteArray) (hl : l.length ≤ 9223372036854775806) : PCall Tryz.prog 305 [strs l, .str s] (.bool (has l s)) := by
  refine pcall_of Tryz.func305 (by kernel_rfl) rfl (by simp [Tryz.f305]) ?_
  (repeat refine AWp.seq ?_); refine AWp.region noP (by kernel_rfl) ?_
  simp
  (repeat refine AWp.seq ?_); refine AWp.region noP (by kernel_rfl) ?_
  simp
  (repeat refine AWp.seq ?_); refine AWp.block (AWp.rounds (fun n st => ∃ i : Nat, n = l.length - i ∧ i ≤ l.length ∧ st.slots 0 = strs l ∧ st.slots 1 = .str s ∧ st.slots 5 = .int .i64 i ∧ has l s = has (l.drop i) s) l.length ⟨0, by simp⟩ ?_)
  rintro R n st hR ⟨i, rfl, hi, h0, h1, h5, hr⟩
  (repeat refine AWp.seq ?_); refine AWp.region noP (by kernel_rfl) ?_
  simp [h0, h5, strs]
  refine AWp.cond (b := decide (i < l.length)) (by simp) (fun hb => ?_) (fun hb => ?_)
  · simp at hb
    have hg : l[i]? = some l[i] := List.getElem?_eq_getElem hb
    have hd : l.drop i = l[i] :: l.drop (i + 1) := List.drop_eq_getElem_cons hb
    refine AWp.skip ?_
    simp
    (repeat refine AWp.seq ?_); refine AWp.block ?_; (repeat refine AWp.seq ?_); refine AWp.region noP (by kernel_rfl) ?_
    have hx : idxA Tryz.prog st.mem 26 (.lst false 1 (List.map AV.str l)) (.int .i64 i) = some (.ref [.str l[i]]) := idx (y := .str l[i]) es_26 (by simp [hg])
    simp [h0, h1, h5, strs, hx]
    refine AWp.cond (b := decide (l[i] = s)) (by simp) (fun he => ?_) (fun he => ?_)
    · (repeat refine AWp.seq ?_); refine AWp.region noP (by kernel_rfl) ?_
      simp
      refine AWp.ret (post_ret1 rfl ?_)
      simp at he
      rw [hr, hd, has, List.any_cons]
      simp [he, has]
    · simp at he
      refine AWp.skip ?_
      simp
      refine AWp.region noP (by kernel_rfl) ?_
      have hw : IntKind.wrap .i64 ((i : Int) + 1) = (i + 1 : Nat) := wrap64 (by omega) (by omega)
      simp [h0, h1, h5, hw]
      refine hR _ (l.length - (i + 1)) (by omega) ⟨i + 1, rfl, hb, by simp [h0, strs], by simp [h1], by simp, ?_⟩
      rw [hr, hd, has, List.any_cons]
      simp [he, has]
  · simp at hb
    refine AWp.exit ?_
    simp
    (repeat refine AWp.seq ?_); refine AWp.region noP (by kernel_rfl) ?_
    simp
    refine AWp.ret (post_ret1 rfl ?_)
    have : i = l.length := by omega
    subst this
    simpa [has] using hr
theorem c_l2Kept (s : ByteArray) : PCall Tryz.prog 410 [.str s] (.bool (kept s)) := by
  refine pcall_of Tryz.func410 (by kernel_rfl) rfl (by simp [Tryz.f410]) ?_
  (repeat refine AWp.seq ?_); refine AWp.region noP (by kernel_rfl) ?_
  simp
  (repeat refine AWp.seq ?_); refine AWp.region allP (by kernel_rfl) ?_
  simp
  refine aop_call _ _ _ _ _ _ _ _ ((c_l2Has keptL s (by decide)).arg (.cons (Le.lst _ _ _) (.cons (Le.refl _) .nil))) ?_
  simp
  exact AWp.ret (post_ret1 rfl (by simp [kept]))
theorem c_isKept (s : ByteArray) : PCall Tryz.prog 414 [.str s] (.bool (kept s)) := by
  refine pcall_of Tryz.func414 (by kernel_rfl) rfl (by simp [Tryz.f414]) ?_
  (repeat refine AWp.seq ?_); refine AWp.region noP (by kernel_rfl) ?_
  simp
  (repeat refine AWp.seq ?_); refine AWp.region noP (by kernel_rfl) ?_
  simp
  (repeat refine AWp.seq ?_); refine AWp.block ?_
  (repeat refine AWp.seq ?_); refine AWp.region noP (by kernel_rfl) ?_
  simp
  refine AWp.cond (b := decide (s = ⟨#[97, 114, 114, 97, 121]⟩)) (by simp) (fun h => ?_) (fun h0 => ?_)
  · simp at h
    refine AWp.skip ?_
    simp
    refine AWp.cond (b := true) (by simp [h]) (fun _ => ?_) (fun h => by cases h)
    (repeat refine AWp.seq ?_); refine AWp.region noP (by kernel_rfl) ?_
    simp
    exact AWp.ret (post_ret1 rfl (by simp [kept, has, keptL, h]))
  simp at h0
  (repeat refine AWp.seq ?_); refine AWp.region noP (by kernel_rfl) ?_
  simp
  refine AWp.cond (b := decide (s = ⟨#[102, 111, 114]⟩)) (by simp) (fun h => ?_) (fun h1 => ?_)
  · simp at h
    refine AWp.skip ?_
    simp
    refine AWp.cond (b := true) (by simp [h]) (fun _ => ?_) (fun h => by cases h)
    (repeat refine AWp.seq ?_); refine AWp.region noP (by kernel_rfl) ?_
    simp
    exact AWp.ret (post_ret1 rfl (by simp [kept, has, keptL, h]))
  simp at h1
  (repeat refine AWp.seq ?_); refine AWp.region noP (by kernel_rfl) ?_
  simp
  refine AWp.cond (b := decide (s = ⟨#[116, 111]⟩)) (by simp) (fun h => ?_) (fun h2 => ?_)
  · simp at h
    refine AWp.skip ?_
    simp
    refine AWp.cond (b := true) (by simp [h]) (fun _ => ?_) (fun h => by cases h)
    (repeat refine AWp.seq ?_); refine AWp.region noP (by kernel_rfl) ?_
    simp
    exact AWp.ret (post_ret1 rfl (by simp [kept, has, keptL, h]))
  simp at h2
  (repeat refine AWp.seq ?_); refine AWp.region noP (by kernel_rfl) ?_
  simp
  refine AWp.cond (b := decide (s = ⟨#[112, 114, 105, 110, 116]⟩)) (by simp) (fun h => ?_) (fun h3 => ?_)
  · simp at h
    refine AWp.skip ?_
    simp
    refine AWp.cond (b := true) (by simp [h]) (fun _ => ?_) (fun h => by cases h)
    (repeat refine AWp.seq ?_); refine AWp.region noP (by kernel_rfl) ?_
    simp
    exact AWp.ret (post_ret1 rfl (by simp [kept, has, keptL, h]))
  simp at h3
  (repeat refine AWp.seq ?_); refine AWp.region noP (by kernel_rfl) ?_
  simp
  refine AWp.cond (b := decide (s = ⟨#[109, 105, 110]⟩)) (by simp) (fun h => ?_) (fun h4 => ?_)
  · simp at h
    refine AWp.skip ?_
    simp
    refine AWp.cond (b := true) (by simp [h]) (fun _ => ?_) (fun h => by cases h)
    (repeat refine AWp.seq ?_); refine AWp.region noP (by kernel_rfl) ?_
    simp
    exact AWp.ret (post_ret1 rfl (by simp [kept, has, keptL, h]))
  simp at h4
  (repeat refine AWp.seq ?_); refine AWp.region noP (by kernel_rfl) ?_
  simp
  refine AWp.cond (b := decide (s = ⟨#[109, 97, 120]⟩)) (by simp) (fun h => ?_) (fun h5 => ?_)
  · simp at h
    (repeat refine AWp.seq ?_); refine AWp.region noP (by kernel_rfl) ?_
    simp
    exact AWp.ret (post_ret1 rfl (by simp [kept, has, keptL, h]))
  · simp at h5
    refine AWp.skip ?_
    simp
    (repeat refine AWp.seq ?_); refine AWp.region noP (by kernel_rfl) ?_
    simp
    refine AWp.ret (post_ret1 rfl ?_)
    simp [kept, has, keptL]
    refine ⟨Ne.symm h0, Ne.symm h1, Ne.symm h2, Ne.symm h3, Ne.symm h4, Ne.symm h5⟩
theorem c_spec_NameOk (s : ByteArray) (hs : s.size ≤ 9223372036854775806) : PCall Tryz.prog 300 [.str s] (.bool (nameOk s)) := by
  refine pcall_of Tryz.func300 (by kernel_rfl) rfl (by simp [Tryz.f300]) ?_
  (repeat refine AWp.seq ?_); refine AWp.region noP (by kernel_rfl) ?_
  simp
  (repeat refine AWp.seq ?_); refine AWp.region noP (by kernel_rfl) ?_
  simp
  (repeat refine AWp.seq ?_); refine AWp.block (AWp.rounds (fun n st => ∃ i : Nat, n = s.size - i ∧ i ≤ s.size ∧ st.slots 0 = .str s ∧ st.slots 3 = .int .i64 i ∧ s.data.toList.all small = (s.data.toList.drop i).all small) s.size ⟨0, by simp⟩ ?_)
  rintro R n st hR ⟨i, rfl, hi, h0, h3, hr⟩
  (repeat refine AWp.seq ?_); refine AWp.region noP (by kernel_rfl) ?_
  simp [h0, h3]
  refine AWp.cond (b := decide (i < s.size)) (by simp) (fun hb => ?_) (fun hb => ?_)
  · simp at hb
    obtain ⟨b, hg, hd⟩ := all_drop hb small
    refine AWp.skip ?_
    simp
    (repeat refine AWp.seq ?_); refine AWp.block ?_; (repeat refine AWp.seq ?_); refine AWp.region allP (by kernel_rfl) ?_
    have hx : sidxA Tryz.prog 9 (.str s) (.int .i64 i) = some (.int .u8 b.toNat) := sidx un_9 hg
    simp [h0, h3, hx]
    refine aop_call _ _ _ _ _ _ _ _ (c_l2Small _) ?_
    simp
    refine AWp.cond (b := !small b) (by simp) (fun he => ?_) (fun he => ?_)
    · (repeat refine AWp.seq ?_); refine AWp.region noP (by kernel_rfl) ?_
      simp
      refine AWp.ret (post_ret1 rfl ?_)
      simp at he
      simp [nameOk, hr, hd, he]
    · simp at he
      refine AWp.skip ?_
      simp
      refine AWp.region noP (by kernel_rfl) ?_
      have hw : IntKind.wrap .i64 ((i : Int) + 1) = (i + 1 : Nat) := wrap64 (by omega) (by omega)
      simp [h0, h3, hw]
      refine hR _ (s.size - (i + 1)) (by omega) ⟨i + 1, rfl, hb, by simp [h0], by simp, ?_⟩
      rw [hr, hd, he, Bool.true_and]
  · simp at hb
    have : i = s.size := by omega
    subst this
    rw [drop_size] at hr
    refine AWp.exit ?_
    simp
    (repeat refine AWp.seq ?_); refine AWp.region allP (by kernel_rfl) ?_
    simp [h0]
    refine aop_call _ _ _ _ _ _ _ _ (c_l1In _ _ _) ?_
    cases h1 : inR (s.size : Int) 1 6
    · simp
      exact AWp.ret (post_ret1 rfl (by simp [nameOk, h1]))
    · simp [h0]
      refine aop_call _ _ _ _ _ _ _ _ (c_l2Kept _) ?_
      simp
      exact AWp.ret (post_ret1 rfl (by simp [nameOk, hr, h1]))
theorem c_impl_NameOk (s : ByteArray) (hs : s.size ≤ 9223372036854775806) : PCall Tryz.prog 309 [.str s] (.bool (nameOk s)) := by
  refine pcall_of Tryz.func309 (by kernel_rfl) rfl (by simp [Tryz.f309]) ?_
  (repeat refine AWp.seq ?_); refine AWp.region noP (by kernel_rfl) ?_
  simp
  (repeat refine AWp.seq ?_); refine AWp.region noP (by kernel_rfl) ?_
  simp
  (repeat refine AWp.seq ?_); refine AWp.block (AWp.rounds (fun n st => ∃ i : Nat, n = s.size - i ∧ i ≤ s.size ∧ st.slots 0 = .str s ∧ st.slots 3 = .int .i64 i ∧ s.data.toList.all small = (s.data.toList.drop i).all small) s.size ⟨0, by simp⟩ ?_)
  rintro R n st hR ⟨i, rfl, hi, h0, h3, hr⟩
  (repeat refine AWp.seq ?_); refine AWp.region noP (by kernel_rfl) ?_
  simp [h0, h3]
  refine AWp.cond (b := decide (i < s.size)) (by simp) (fun hb => ?_) (fun hb => ?_)
  · simp at hb
    obtain ⟨b, hg, hd⟩ := all_drop hb small
    refine AWp.skip ?_
    simp
    (repeat refine AWp.seq ?_); refine AWp.block ?_; (repeat refine AWp.seq ?_); refine AWp.region allP (by kernel_rfl) ?_
    have hx : sidxA Tryz.prog 9 (.str s) (.int .i64 i) = some (.int .u8 b.toNat) := sidx un_9 hg
    simp [h0, h3, hx]
    refine aop_call _ _ _ _ _ _ _ _ (c_isLetter _) ?_
    simp
    refine AWp.cond (b := !small b) (by simp) (fun he => ?_) (fun he => ?_)
    · (repeat refine AWp.seq ?_); refine AWp.region noP (by kernel_rfl) ?_
      simp
      refine AWp.ret (post_ret1 rfl ?_)
      simp at he
      simp [nameOk, hr, hd, he]
    · simp at he
      refine AWp.skip ?_
      simp
      refine AWp.region noP (by kernel_rfl) ?_
      have hw : IntKind.wrap .i64 ((i : Int) + 1) = (i + 1 : Nat) := wrap64 (by omega) (by omega)
      simp [h0, h3, hw]
      refine hR _ (s.size - (i + 1)) (by omega) ⟨i + 1, rfl, hb, by simp [h0], by simp, ?_⟩
      rw [hr, hd, he, Bool.true_and]
  · simp at hb
    have : i = s.size := by omega
    subst this
    rw [drop_size] at hr
    refine AWp.exit ?_
    simp
    (repeat refine AWp.seq ?_); refine AWp.region allP (by kernel_rfl) ?_
    simp [h0]
    refine aop_call _ _ _ _ _ _ _ _ (c_inRange _ _ _) ?_
    cases h1 : inR (s.size : Int) 1 6
    · simp
      exact AWp.ret (post_ret1 rfl (by simp [nameOk, h1]))
    · simp [h0]
      refine aop_call _ _ _ _ _ _ _ _ (c_isKept _) ?_
      simp
      exact AWp.ret (post_ret1 rfl (by simp [nameOk, hr, h1]))
end Go.T
namespace Go.T
open Go Go.Proofs
set_option maxRecDepth 10000
set_option maxHeartbeats 1000000
set_option linter.unusedSimpArgs false
set_option linter.unusedVariables false
theorem c_szExpS (l : List Ex) (hf : l.length ≤ most) (h : ∀ x ∈ l, ∀ n : Int, 0 ≤ n → n ≤ 1048576 → PCall Tryz.prog 14 [x.av, .int .i64 n] (.int .i64 (szr x.tot n))) (n : Int) (h0 : 0 ≤ n) (h1 : n ≤ 1048576) :
    PCall Tryz.prog 87 [.lst false 4 (l.map Ex.av), .int .i64 n] (.int .i64 (szr (totL Ex.tot l) n)) := by
  refine pcall_of Tryz.func87 (by kernel_rfl) rfl (by simp [Tryz.f87]) ?_
  unfold most at hf
  (repeat refine AWp.seq ?_); refine AWp.region noP (by kernel_rfl) ?_
  simp
  have hw : IntKind.wrap .i64 (n - (l.length : Int)) = n - l.length := wrap64 (by omega) (by omega)
  (repeat refine AWp.seq ?_); refine AWp.region noP (by kernel_rfl) ?_
  simp [hw]
  (repeat refine AWp.seq ?_); refine AWp.region noP (by kernel_rfl) ?_
  simp
  have ht := totL_sum Ex.tot l
  refine AWp.cond (b := decide (n - (l.length : Int) < 0)) (by simp) (fun hb => ?_) (fun hb => ?_)
  · (repeat refine AWp.seq ?_); refine AWp.region noP (by kernel_rfl) ?_
    simp
    simp at hb
    exact AWp.ret (post_ret1 rfl (by simp; rw [szr_neg (by omega)]))
  simp at hb
  refine AWp.skip ?_
  simp
  (repeat refine AWp.seq ?_); refine AWp.region noP (by kernel_rfl) ?_
  simp
  (repeat refine AWp.seq ?_); refine AWp.block (AWp.rounds (fun m st => ∃ (i : Nat) (q : Int), m = l.length - i ∧ i ≤ l.length ∧ st.slots 0 = .lst false 4 (l.map Ex.av) ∧ st.slots 1 = .int .i64 q ∧ st.slots 5 = .int .i64 i ∧ 0 ≤ q ∧ q ≤ 1048576 ∧ szr (totL Ex.tot l) n = szr (sumL Ex.tot (l.drop i)) q) l.length ⟨0, n - l.length, by simp, by simp, by simp, by simp, by simp, by omega, by omega, by
    rw [ht, szr_add, szr_pos (show ((l.length : Nat) : Int) ≤ n by omega), if_neg (by omega)]; rfl⟩ ?_)
  rintro R m st hR ⟨i, q, rfl, hi, s0, s1, s5, hq0, hq1, hr⟩
  (repeat refine AWp.seq ?_); refine AWp.region noP (by kernel_rfl) ?_
  simp [s0, s5]
  refine AWp.cond (b := decide (i < l.length)) (by simp) (fun hb => ?_) (fun hb => ?_)
  · simp at hb
    have hg : l[i]? = some l[i] := List.getElem?_eq_getElem hb
    have hd : l.drop i = l[i] :: l.drop (i + 1) := List.drop_eq_getElem_cons hb
    refine AWp.skip ?_
    simp
    (repeat refine AWp.seq ?_); refine AWp.block ?_; (repeat refine AWp.seq ?_); refine AWp.region allP (by kernel_rfl) ?_
    have hx : idxA Tryz.prog st.mem 27 (.lst false 4 (l.map Ex.av)) (.int .i64 i) = some (.ref l[i].cells) := idx (y := l[i].av) es_27 (by simp [hg])
    have hc : List.take 4 l[i].cells = l[i].cells := List.take_of_length_le (by rw [Ex.cells_len]; exact Nat.le_refl _)
    simp [s0, s1, s5, hx, Ex.cells_len, hc]
    refine aop_call _ _ _ _ _ _ _ _ (h l[i] (List.getElem_mem _) q hq0 hq1) ?_
    simp
    have hz : szr (totL Ex.tot l) n = if szr l[i].tot q < 0 then -1 else szr (sumL Ex.tot (l.drop (i + 1))) (szr l[i].tot q) := by rw [hr, hd, sumL, szr_add]
    (repeat refine AWp.seq ?_); refine AWp.region noP (by kernel_rfl) ?_
    simp
    refine AWp.cond (b := decide (szr l[i].tot q < 0)) (by simp) (fun he => ?_) (fun he => ?_)
    · simp at he
      (repeat refine AWp.seq ?_); refine AWp.region noP (by kernel_rfl) ?_
      simp
      exact AWp.ret (post_ret1 rfl (by simp; rw [hz, if_pos he]))
    · simp at he
      refine AWp.skip ?_
      simp
      refine AWp.region noP (by kernel_rfl) ?_
      have hw : IntKind.wrap .i64 ((i : Int) + 1) = (i + 1 : Nat) := wrap64 (by omega) (by omega)
      simp [s0, s1, s5, hw]
      have hle : szr l[i].tot q ≤ 1048576 := by unfold szr; split <;> omega
      refine hR _ (l.length - (i + 1)) (by omega) ⟨i + 1, szr l[i].tot q, rfl, hb, by simp [s0], by simp, by simp, he, hle, ?_⟩
      rw [hz, if_neg (by omega)]
  · simp at hb
    refine AWp.exit ?_
    simp
    (repeat refine AWp.seq ?_); refine AWp.region noP (by kernel_rfl) ?_
    simp [s1]
    have : i = l.length := by omega
    subst this
    refine AWp.ret (post_ret1 rfl ?_)
    simp [hr, sumL]
    rw [szr_pos (by omega)]; simp
theorem c_szStmtS (l : List Sm) (hf : l.length ≤ most) (h : ∀ x ∈ l, ∀ n : Int, 0 ≤ n → n ≤ 1048576 → PCall Tryz.prog 192 [x.av, .int .i64 n] (.int .i64 (szr x.tot n))) (n : Int) (h0 : 0 ≤ n) (h1 : n ≤ 1048576) :
    PCall Tryz.prog 86 [.lst false 19 (l.map Sm.av), .int .i64 n] (.int .i64 (szr (totL Sm.tot l) n)) := by
  refine pcall_of Tryz.func86 (by kernel_rfl) rfl (by simp [Tryz.f86]) ?_
  unfold most at hf
  (repeat refine AWp.seq ?_); refine AWp.region noP (by kernel_rfl) ?_
  simp
  have hw : IntKind.wrap .i64 (n - (l.length : Int)) = n - l.length := wrap64 (by omega) (by omega)
  (repeat refine AWp.seq ?_); refine AWp.region noP (by kernel_rfl) ?_
  simp [hw]
  (repeat refine AWp.seq ?_); refine AWp.region noP (by kernel_rfl) ?_
  simp
  have ht := totL_sum Sm.tot l
  refine AWp.cond (b := decide (n - (l.length : Int) < 0)) (by simp) (fun hb => ?_) (fun hb => ?_)
  · (repeat refine AWp.seq ?_); refine AWp.region noP (by kernel_rfl) ?_
    simp
    simp at hb
    exact AWp.ret (post_ret1 rfl (by simp; rw [szr_neg (by omega)]))
  simp at hb
  refine AWp.skip ?_
  simp
  (repeat refine AWp.seq ?_); refine AWp.region noP (by kernel_rfl) ?_
  simp
  (repeat refine AWp.seq ?_); refine AWp.block (AWp.rounds (fun m st => ∃ (i : Nat) (q : Int), m = l.length - i ∧ i ≤ l.length ∧ st.slots 0 = .lst false 19 (l.map Sm.av) ∧ st.slots 1 = .int .i64 q ∧ st.slots 5 = .int .i64 i ∧ 0 ≤ q ∧ q ≤ 1048576 ∧ szr (totL Sm.tot l) n = szr (sumL Sm.tot (l.drop i)) q) l.length ⟨0, n - l.length, by simp, by simp, by simp, by simp, by simp, by omega, by omega, by
    rw [ht, szr_add, szr_pos (show ((l.length : Nat) : Int) ≤ n by omega), if_neg (by omega)]; rfl⟩ ?_)
  rintro R m st hR ⟨i, q, rfl, hi, s0, s1, s5, hq0, hq1, hr⟩
  (repeat refine AWp.seq ?_); refine AWp.region noP (by kernel_rfl) ?_
  simp [s0, s5]
  refine AWp.cond (b := decide (i < l.length)) (by simp) (fun hb => ?_) (fun hb => ?_)
  · simp at hb
    have hg : l[i]? = some l[i] := List.getElem?_eq_getElem hb
    have hd : l.drop i = l[i] :: l.drop (i + 1) := List.drop_eq_getElem_cons hb
    refine AWp.skip ?_
    simp
    (repeat refine AWp.seq ?_); refine AWp.block ?_; (repeat refine AWp.seq ?_); refine AWp.region allP (by kernel_rfl) ?_
    have hx : idxA Tryz.prog st.mem 23 (.lst false 19 (l.map Sm.av)) (.int .i64 i) = some (.ref l[i].cells) := idx (y := l[i].av) es_23 (by simp [hg])
    have hc : List.take 19 l[i].cells = l[i].cells := List.take_of_length_le (by rw [Sm.cells_len]; exact Nat.le_refl _)
    simp [s0, s1, s5, hx, Sm.cells_len, hc]
    refine aop_call _ _ _ _ _ _ _ _ (h l[i] (List.getElem_mem _) q hq0 hq1) ?_
    simp
    have hz : szr (totL Sm.tot l) n = if szr l[i].tot q < 0 then -1 else szr (sumL Sm.tot (l.drop (i + 1))) (szr l[i].tot q) := by rw [hr, hd, sumL, szr_add]
    (repeat refine AWp.seq ?_); refine AWp.region noP (by kernel_rfl) ?_
    simp
    refine AWp.cond (b := decide (szr l[i].tot q < 0)) (by simp) (fun he => ?_) (fun he => ?_)
    · simp at he
      (repeat refine AWp.seq ?_); refine AWp.region noP (by kernel_rfl) ?_
      simp
      exact AWp.ret (post_ret1 rfl (by simp; rw [hz, if_pos he]))
    · simp at he
      refine AWp.skip ?_
      simp
      refine AWp.region noP (by kernel_rfl) ?_
      have hw : IntKind.wrap .i64 ((i : Int) + 1) = (i + 1 : Nat) := wrap64 (by omega) (by omega)
      simp [s0, s1, s5, hw]
      have hle : szr l[i].tot q ≤ 1048576 := by unfold szr; split <;> omega
      refine hR _ (l.length - (i + 1)) (by omega) ⟨i + 1, szr l[i].tot q, rfl, hb, by simp [s0], by simp, by simp, he, hle, ?_⟩
      rw [hz, if_neg (by omega)]
  · simp at hb
    refine AWp.exit ?_
    simp
    (repeat refine AWp.seq ?_); refine AWp.region noP (by kernel_rfl) ?_
    simp [s1]
    have : i = l.length := by omega
    subst this
    refine AWp.ret (post_ret1 rfl ?_)
    simp [hr, sumL]
    rw [szr_pos (by omega)]; simp
theorem c_szArrS (l : List Ar) (hf : l.length ≤ most) (h : ∀ x ∈ l, ∀ n : Int, 0 ≤ n → n ≤ 1048576 → PCall Tryz.prog 191 [x.av, .int .i64 n] (.int .i64 (szr x.tot n))) (n : Int) (h0 : 0 ≤ n) (h1 : n ≤ 1048576) :
    PCall Tryz.prog 85 [.lst false 2 (l.map Ar.av), .int .i64 n] (.int .i64 (szr (totL Ar.tot l) n)) := by
  refine pcall_of Tryz.func85 (by kernel_rfl) rfl (by simp [Tryz.f85]) ?_
  unfold most at hf
  (repeat refine AWp.seq ?_); refine AWp.region noP (by kernel_rfl) ?_
  simp
  have hw : IntKind.wrap .i64 (n - (l.length : Int)) = n - l.length := wrap64 (by omega) (by omega)
  (repeat refine AWp.seq ?_); refine AWp.region noP (by kernel_rfl) ?_
  simp [hw]
  (repeat refine AWp.seq ?_); refine AWp.region noP (by kernel_rfl) ?_
  simp
  have ht := totL_sum Ar.tot l
  refine AWp.cond (b := decide (n - (l.length : Int) < 0)) (by simp) (fun hb => ?_) (fun hb => ?_)
  · (repeat refine AWp.seq ?_); refine AWp.region noP (by kernel_rfl) ?_
    simp
    simp at hb
    exact AWp.ret (post_ret1 rfl (by simp; rw [szr_neg (by omega)]))
  simp at hb
  refine AWp.skip ?_
  simp
  (repeat refine AWp.seq ?_); refine AWp.region noP (by kernel_rfl) ?_
  simp
  (repeat refine AWp.seq ?_); refine AWp.block (AWp.rounds (fun m st => ∃ (i : Nat) (q : Int), m = l.length - i ∧ i ≤ l.length ∧ st.slots 0 = .lst false 2 (l.map Ar.av) ∧ st.slots 1 = .int .i64 q ∧ st.slots 5 = .int .i64 i ∧ 0 ≤ q ∧ q ≤ 1048576 ∧ szr (totL Ar.tot l) n = szr (sumL Ar.tot (l.drop i)) q) l.length ⟨0, n - l.length, by simp, by simp, by simp, by simp, by simp, by omega, by omega, by
    rw [ht, szr_add, szr_pos (show ((l.length : Nat) : Int) ≤ n by omega), if_neg (by omega)]; rfl⟩ ?_)
  rintro R m st hR ⟨i, q, rfl, hi, s0, s1, s5, hq0, hq1, hr⟩
  (repeat refine AWp.seq ?_); refine AWp.region noP (by kernel_rfl) ?_
  simp [s0, s5]
  refine AWp.cond (b := decide (i < l.length)) (by simp) (fun hb => ?_) (fun hb => ?_)
  · simp at hb
    have hg : l[i]? = some l[i] := List.getElem?_eq_getElem hb
    have hd : l.drop i = l[i] :: l.drop (i + 1) := List.drop_eq_getElem_cons hb
    refine AWp.skip ?_
    simp
    (repeat refine AWp.seq ?_); refine AWp.block ?_; (repeat refine AWp.seq ?_); refine AWp.region allP (by kernel_rfl) ?_
    have hx : idxA Tryz.prog st.mem 22 (.lst false 2 (l.map Ar.av)) (.int .i64 i) = some (.ref l[i].cells) := idx (y := l[i].av) es_22 (by simp [hg])
    have hc : List.take 2 l[i].cells = l[i].cells := List.take_of_length_le (by rw [Ar.cells_len]; exact Nat.le_refl _)
    simp [s0, s1, s5, hx, Ar.cells_len, hc]
    refine aop_call _ _ _ _ _ _ _ _ (h l[i] (List.getElem_mem _) q hq0 hq1) ?_
    simp
    have hz : szr (totL Ar.tot l) n = if szr l[i].tot q < 0 then -1 else szr (sumL Ar.tot (l.drop (i + 1))) (szr l[i].tot q) := by rw [hr, hd, sumL, szr_add]
    (repeat refine AWp.seq ?_); refine AWp.region noP (by kernel_rfl) ?_
    simp
    refine AWp.cond (b := decide (szr l[i].tot q < 0)) (by simp) (fun he => ?_) (fun he => ?_)
    · simp at he
      (repeat refine AWp.seq ?_); refine AWp.region noP (by kernel_rfl) ?_
      simp
      exact AWp.ret (post_ret1 rfl (by simp; rw [hz, if_pos he]))
    · simp at he
      refine AWp.skip ?_
      simp
      refine AWp.region noP (by kernel_rfl) ?_
      have hw : IntKind.wrap .i64 ((i : Int) + 1) = (i + 1 : Nat) := wrap64 (by omega) (by omega)
      simp [s0, s1, s5, hw]
      have hle : szr l[i].tot q ≤ 1048576 := by unfold szr; split <;> omega
      refine hR _ (l.length - (i + 1)) (by omega) ⟨i + 1, szr l[i].tot q, rfl, hb, by simp [s0], by simp, by simp, he, hle, ?_⟩
      rw [hz, if_neg (by omega)]
  · simp at hb
    refine AWp.exit ?_
    simp
    (repeat refine AWp.seq ?_); refine AWp.region noP (by kernel_rfl) ?_
    simp [s1]
    have : i = l.length := by omega
    subst this
    refine AWp.ret (post_ret1 rfl ?_)
    simp [hr, sumL]
    rw [szr_pos (by omega)]; simp
theorem c_szExp0 (k m : Int) (s : ByteArray) (l : List Ex) (hs : s.size ≤ most) (hl : l.length ≤ most) (h : ∀ x ∈ l, ∀ n : Int, 0 ≤ n → n ≤ 1048576 → PCall Tryz.prog 14 [x.av, .int .i64 n] (.int .i64 (szr x.tot n))) (n : Int) (h0 : 0 ≤ n) (h1 : n ≤ 1048576) :
    PCall Tryz.prog 14 [(Ex.mk k m s l).av, .int .i64 n] (.int .i64 (szr (s.size + (totL Ex.tot l)) n)) := by
  unfold most at hs
  unfold Ex.av
  rw [Ex.cells_mk]
  refine pcall_of Tryz.func14 (by kernel_rfl) rfl (by simp [Tryz.f14]) ?_
  (repeat refine AWp.seq ?_); refine AWp.region noP (by kernel_rfl) ?_
  simp
  intro g
  have w0 : IntKind.wrap .i64 (n - (s.size : Int)) = n - (s.size : Int) := wrap64 (by omega) (by omega)
  (repeat refine AWp.seq ?_); refine AWp.region noP (by kernel_rfl) ?_
  simp [w0]
  (repeat refine AWp.seq ?_); refine AWp.region noP (by kernel_rfl) ?_
  simp
  have z0 : szr (s.size + (totL Ex.tot l)) n = if szr (s.size) n < 0 then -1 else szr (totL Ex.tot l) (szr (s.size) n) := szr_add _ _ _
  refine AWp.cond (b := decide ((n - (s.size : Int)) < 0)) (by simp) (fun hb => ?_) (fun hb0 => ?_)
  · simp at hb
    (repeat refine AWp.seq ?_); refine AWp.region noP (by kernel_rfl) ?_
    simp
    have e : szr (s.size) n = -1 := szr_neg (by omega)
    refine AWp.ret (post_ret1 rfl ?_)
    simp only [put_slot, reduceIte]
    congr 1
    rw [z0, e]; rfl
  simp at hb0
  refine AWp.skip ?_
  simp
  have e0 : szr (s.size) n = (n - (s.size : Int)) := szr_pos (by omega)
  have y0 := z0
  rw [e0, if_neg (by omega)] at y0
  (repeat refine AWp.seq ?_); refine AWp.region noP (by kernel_rfl) ?_
  simp
  refine aop_call _ _ _ _ _ _ _ _ (c_szExpS l hl h _ (by omega) (by omega)) ?_
  simp
  (repeat refine AWp.seq ?_); refine AWp.region noP (by kernel_rfl) ?_
  simp
  have z1 : szr (totL Ex.tot l) (n - (s.size : Int)) = szr (totL Ex.tot l) (n - (s.size : Int)) := rfl
  refine AWp.cond (b := decide ((szr (totL Ex.tot l) (n - (s.size : Int))) < 0)) (by simp) (fun hb => ?_) (fun hb1 => ?_)
  · simp at hb
    (repeat refine AWp.seq ?_); refine AWp.region noP (by kernel_rfl) ?_
    simp
    have e : szr (totL Ex.tot l) (n - (s.size : Int)) = -1 := by unfold szr at hb ⊢; split at hb <;> rename_i hq <;> first | omega | rw [if_neg hq]
    refine AWp.ret (post_ret1 rfl ?_)
    simp only [put_slot, reduceIte]
    congr 1
    rw [y0, z1, e]
  simp at hb1
  refine AWp.skip ?_
  simp
  have e1 : szr (totL Ex.tot l) (n - (s.size : Int)) = (szr (totL Ex.tot l) (n - (s.size : Int))) := rfl
  have l1 : szr (totL Ex.tot l) (n - (s.size : Int)) ≤ 1048576 := by unfold szr; split <;> omega
  have y1 := e1
  (repeat refine AWp.seq ?_); refine AWp.region noP (by kernel_rfl) ?_
  simp
  refine AWp.ret (post_ret1 rfl ?_)
  simp only [put_slot, reduceIte]
  congr 1
  rw [y0, y1]
theorem c_szExp (e : Ex) : e.fit → ∀ n : Int, 0 ≤ n → n ≤ 1048576 → PCall Tryz.prog 14 [e.av, .int .i64 n] (.int .i64 (szr e.tot n)) := by
  induction e using Ex.ind with | h k m s l h =>
  intro hf n h0 h1
  rw [Ex.fit_mk] at hf
  rw [Ex.tot_mk]
  exact c_szExp0 k m s l hf.1 hf.2.1 (fun x hx => h x hx (hf.2.2 x hx)) n h0 h1
theorem c_szStmt0 (k : Int) (s : ByteArray) (a e lo hi : Ex) (b : List Sm) (hs : s.size ≤ most) (ha : a.fit) (he : e.fit) (hlo : lo.fit) (hhi : hi.fit) (hl : b.length ≤ most) (h : ∀ x ∈ b, ∀ n : Int, 0 ≤ n → n ≤ 1048576 → PCall Tryz.prog 192 [x.av, .int .i64 n] (.int .i64 (szr x.tot n))) (n : Int) (h0 : 0 ≤ n) (h1 : n ≤ 1048576) :
    PCall Tryz.prog 192 [(Sm.mk k s a e lo hi b).av, .int .i64 n] (.int .i64 (szr (s.size + (a.tot + (e.tot + (lo.tot + (hi.tot + (totL Sm.tot b)))))) n)) := by
  unfold most at hs
  unfold Sm.av
  rw [Sm.cells_mk]
  refine pcall_of Tryz.func192 (by kernel_rfl) rfl (by simp [Tryz.f192]) ?_
  (repeat refine AWp.seq ?_); refine AWp.region noP (by kernel_rfl) ?_
  simp
  intro g
  have w0 : IntKind.wrap .i64 (n - (s.size : Int)) = n - (s.size : Int) := wrap64 (by omega) (by omega)
  (repeat refine AWp.seq ?_); refine AWp.region noP (by kernel_rfl) ?_
  simp [w0]
  (repeat refine AWp.seq ?_); refine AWp.region noP (by kernel_rfl) ?_
  simp
  have z0 : szr (s.size + (a.tot + (e.tot + (lo.tot + (hi.tot + (totL Sm.tot b)))))) n = if szr (s.size) n < 0 then -1 else szr (a.tot + (e.tot + (lo.tot + (hi.tot + (totL Sm.tot b))))) (szr (s.size) n) := szr_add _ _ _
  refine AWp.cond (b := decide ((n - (s.size : Int)) < 0)) (by simp) (fun hb => ?_) (fun hb0 => ?_)
  · simp at hb
    (repeat refine AWp.seq ?_); refine AWp.region noP (by kernel_rfl) ?_
    simp
    have e : szr (s.size) n = -1 := szr_neg (by omega)
    refine AWp.ret (post_ret1 rfl ?_)
    simp only [put_slot, reduceIte]
    congr 1
    rw [z0, e]; rfl
  simp at hb0
  refine AWp.skip ?_
  simp
  have e0 : szr (s.size) n = (n - (s.size : Int)) := szr_pos (by omega)
  have y0 := z0
  rw [e0, if_neg (by omega)] at y0
  (repeat refine AWp.seq ?_); refine AWp.region noP (by kernel_rfl) ?_
  simp
  refine aop_call _ _ _ _ _ _ _ _ (c_szExp a ha _ (by omega) (by omega)) ?_
  simp
  (repeat refine AWp.seq ?_); refine AWp.region noP (by kernel_rfl) ?_
  simp
  have z1 : szr (a.tot + (e.tot + (lo.tot + (hi.tot + (totL Sm.tot b))))) (n - (s.size : Int)) = if szr (a.tot) (n - (s.size : Int)) < 0 then -1 else szr (e.tot + (lo.tot + (hi.tot + (totL Sm.tot b)))) (szr (a.tot) (n - (s.size : Int))) := szr_add _ _ _
  refine AWp.cond (b := decide ((szr (a.tot) (n - (s.size : Int))) < 0)) (by simp) (fun hb => ?_) (fun hb1 => ?_)
  · simp at hb
    (repeat refine AWp.seq ?_); refine AWp.region noP (by kernel_rfl) ?_
    simp
    have e : szr (a.tot) (n - (s.size : Int)) = -1 := by unfold szr at hb ⊢; split at hb <;> rename_i hq <;> first | omega | rw [if_neg hq]
    refine AWp.ret (post_ret1 rfl ?_)
    simp only [put_slot, reduceIte]
    congr 1
    rw [y0, z1, e]; rfl
  simp at hb1
  refine AWp.skip ?_
  simp
  have e1 : szr (a.tot) (n - (s.size : Int)) = (szr (a.tot) (n - (s.size : Int))) := rfl
  have l1 : szr (a.tot) (n - (s.size : Int)) ≤ 1048576 := by unfold szr; split <;> omega
  have y1 := z1
  rw [e1, if_neg (by omega)] at y1
  (repeat refine AWp.seq ?_); refine AWp.region noP (by kernel_rfl) ?_
  simp
  refine aop_call _ _ _ _ _ _ _ _ (c_szExp e he _ (by omega) (by omega)) ?_
  simp
  (repeat refine AWp.seq ?_); refine AWp.region noP (by kernel_rfl) ?_
  simp
  have z2 : szr (e.tot + (lo.tot + (hi.tot + (totL Sm.tot b)))) (szr (a.tot) (n - (s.size : Int))) = if szr (e.tot) (szr (a.tot) (n - (s.size : Int))) < 0 then -1 else szr (lo.tot + (hi.tot + (totL Sm.tot b))) (szr (e.tot) (szr (a.tot) (n - (s.size : Int)))) := szr_add _ _ _
  refine AWp.cond (b := decide ((szr (e.tot) (szr (a.tot) (n - (s.size : Int)))) < 0)) (by simp) (fun hb => ?_) (fun hb2 => ?_)
  · simp at hb
    (repeat refine AWp.seq ?_); refine AWp.region noP (by kernel_rfl) ?_
    simp
    have e : szr (e.tot) (szr (a.tot) (n - (s.size : Int))) = -1 := by unfold szr at hb ⊢; split at hb <;> rename_i hq <;> first | omega | rw [if_neg hq]
    refine AWp.ret (post_ret1 rfl ?_)
    simp only [put_slot, reduceIte]
    congr 1
    rw [y0, y1, z2, e]; rfl
  simp at hb2
  refine AWp.skip ?_
  simp
  have e2 : szr (e.tot) (szr (a.tot) (n - (s.size : Int))) = (szr (e.tot) (szr (a.tot) (n - (s.size : Int)))) := rfl
  have l2 : szr (e.tot) (szr (a.tot) (n - (s.size : Int))) ≤ 1048576 := by unfold szr; split <;> omega
  have y2 := z2
  rw [e2, if_neg (by omega)] at y2
  (repeat refine AWp.seq ?_); refine AWp.region noP (by kernel_rfl) ?_
  simp
  refine aop_call _ _ _ _ _ _ _ _ (c_szExp lo hlo _ (by omega) (by omega)) ?_
  simp
  (repeat refine AWp.seq ?_); refine AWp.region noP (by kernel_rfl) ?_
  simp
  have z3 : szr (lo.tot + (hi.tot + (totL Sm.tot b))) (szr (e.tot) (szr (a.tot) (n - (s.size : Int)))) = if szr (lo.tot) (szr (e.tot) (szr (a.tot) (n - (s.size : Int)))) < 0 then -1 else szr (hi.tot + (totL Sm.tot b)) (szr (lo.tot) (szr (e.tot) (szr (a.tot) (n - (s.size : Int))))) := szr_add _ _ _
  refine AWp.cond (b := decide ((szr (lo.tot) (szr (e.tot) (szr (a.tot) (n - (s.size : Int))))) < 0)) (by simp) (fun hb => ?_) (fun hb3 => ?_)
  · simp at hb
    (repeat refine AWp.seq ?_); refine AWp.region noP (by kernel_rfl) ?_
    simp
    have e : szr (lo.tot) (szr (e.tot) (szr (a.tot) (n - (s.size : Int)))) = -1 := by unfold szr at hb ⊢; split at hb <;> rename_i hq <;> first | omega | rw [if_neg hq]
    refine AWp.ret (post_ret1 rfl ?_)
    simp only [put_slot, reduceIte]
    congr 1
    rw [y0, y1, y2, z3, e]; rfl
  simp at hb3
  refine AWp.skip ?_
  simp
  have e3 : szr (lo.tot) (szr (e.tot) (szr (a.tot) (n - (s.size : Int)))) = (szr (lo.tot) (szr (e.tot) (szr (a.tot) (n - (s.size : Int))))) := rfl
  have l3 : szr (lo.tot) (szr (e.tot) (szr (a.tot) (n - (s.size : Int)))) ≤ 1048576 := by unfold szr; split <;> omega
  have y3 := z3
  rw [e3, if_neg (by omega)] at y3
  (repeat refine AWp.seq ?_); refine AWp.region noP (by kernel_rfl) ?_
  simp
  refine aop_call _ _ _ _ _ _ _ _ (c_szExp hi hhi _ (by omega) (by omega)) ?_
  simp
  (repeat refine AWp.seq ?_); refine AWp.region noP (by kernel_rfl) ?_
  simp
  have z4 : szr (hi.tot + (totL Sm.tot b)) (szr (lo.tot) (szr (e.tot) (szr (a.tot) (n - (s.size : Int))))) = if szr (hi.tot) (szr (lo.tot) (szr (e.tot) (szr (a.tot) (n - (s.size : Int))))) < 0 then -1 else szr (totL Sm.tot b) (szr (hi.tot) (szr (lo.tot) (szr (e.tot) (szr (a.tot) (n - (s.size : Int)))))) := szr_add _ _ _
  refine AWp.cond (b := decide ((szr (hi.tot) (szr (lo.tot) (szr (e.tot) (szr (a.tot) (n - (s.size : Int)))))) < 0)) (by simp) (fun hb => ?_) (fun hb4 => ?_)
  · simp at hb
    (repeat refine AWp.seq ?_); refine AWp.region noP (by kernel_rfl) ?_
    simp
    have e : szr (hi.tot) (szr (lo.tot) (szr (e.tot) (szr (a.tot) (n - (s.size : Int))))) = -1 := by unfold szr at hb ⊢; split at hb <;> rename_i hq <;> first | omega | rw [if_neg hq]
    refine AWp.ret (post_ret1 rfl ?_)
    simp only [put_slot, reduceIte]
    congr 1
    rw [y0, y1, y2, y3, z4, e]; rfl
  simp at hb4
  refine AWp.skip ?_
  simp
  have e4 : szr (hi.tot) (szr (lo.tot) (szr (e.tot) (szr (a.tot) (n - (s.size : Int))))) = (szr (hi.tot) (szr (lo.tot) (szr (e.tot) (szr (a.tot) (n - (s.size : Int)))))) := rfl
  have l4 : szr (hi.tot) (szr (lo.tot) (szr (e.tot) (szr (a.tot) (n - (s.size : Int))))) ≤ 1048576 := by unfold szr; split <;> omega
  have y4 := z4
  rw [e4, if_neg (by omega)] at y4
  (repeat refine AWp.seq ?_); refine AWp.region noP (by kernel_rfl) ?_
  simp
  refine aop_call _ _ _ _ _ _ _ _ (c_szStmtS b hl h _ (by omega) (by omega)) ?_
  simp
  (repeat refine AWp.seq ?_); refine AWp.region noP (by kernel_rfl) ?_
  simp
  have z5 : szr (totL Sm.tot b) (szr (hi.tot) (szr (lo.tot) (szr (e.tot) (szr (a.tot) (n - (s.size : Int)))))) = szr (totL Sm.tot b) (szr (hi.tot) (szr (lo.tot) (szr (e.tot) (szr (a.tot) (n - (s.size : Int)))))) := rfl
  refine AWp.cond (b := decide ((szr (totL Sm.tot b) (szr (hi.tot) (szr (lo.tot) (szr (e.tot) (szr (a.tot) (n - (s.size : Int))))))) < 0)) (by simp) (fun hb => ?_) (fun hb5 => ?_)
  · simp at hb
    (repeat refine AWp.seq ?_); refine AWp.region noP (by kernel_rfl) ?_
    simp
    have e : szr (totL Sm.tot b) (szr (hi.tot) (szr (lo.tot) (szr (e.tot) (szr (a.tot) (n - (s.size : Int)))))) = -1 := by unfold szr at hb ⊢; split at hb <;> rename_i hq <;> first | omega | rw [if_neg hq]
    refine AWp.ret (post_ret1 rfl ?_)
    simp only [put_slot, reduceIte]
    congr 1
    rw [y0, y1, y2, y3, y4, z5, e]
  simp at hb5
  refine AWp.skip ?_
  simp
  have e5 : szr (totL Sm.tot b) (szr (hi.tot) (szr (lo.tot) (szr (e.tot) (szr (a.tot) (n - (s.size : Int)))))) = (szr (totL Sm.tot b) (szr (hi.tot) (szr (lo.tot) (szr (e.tot) (szr (a.tot) (n - (s.size : Int))))))) := rfl
  have l5 : szr (totL Sm.tot b) (szr (hi.tot) (szr (lo.tot) (szr (e.tot) (szr (a.tot) (n - (s.size : Int)))))) ≤ 1048576 := by unfold szr; split <;> omega
  have y5 := e5
  (repeat refine AWp.seq ?_); refine AWp.region noP (by kernel_rfl) ?_
  simp
  refine AWp.ret (post_ret1 rfl ?_)
  simp only [put_slot, reduceIte]
  congr 1
  rw [y0, y1, y2, y3, y4, y5]
theorem c_szStmt (e : Sm) : e.fit → ∀ n : Int, 0 ≤ n → n ≤ 1048576 → PCall Tryz.prog 192 [e.av, .int .i64 n] (.int .i64 (szr e.tot n)) := by
  induction e using Sm.ind with | h k s a e lo hi b h =>
  intro hf n h0 h1
  rw [Sm.fit_mk] at hf
  rw [Sm.tot_mk]
  obtain ⟨f1, f2, f3, f4, f5, f6, f7⟩ := hf
  exact c_szStmt0 k s a e lo hi b f1 f2 f3 f4 f5 f6 (fun x hx => h x hx (f7 x hx)) n h0 h1
theorem c_szArr0 (s : ByteArray) (m : Int) (hs : s.size ≤ most) (n : Int) (h0 : 0 ≤ n) (h1 : n ≤ 1048576) :
    PCall Tryz.prog 191 [(Ar.mk s m).av, .int .i64 n] (.int .i64 (szr (s.size) n)) := by
  unfold most at hs
  unfold Ar.av Ar.cells
  refine pcall_of Tryz.func191 (by kernel_rfl) rfl (by simp [Tryz.f191]) ?_
  (repeat refine AWp.seq ?_); refine AWp.region noP (by kernel_rfl) ?_
  simp
  intro g
  have w0 : IntKind.wrap .i64 (n - (s.size : Int)) = n - (s.size : Int) := wrap64 (by omega) (by omega)
  (repeat refine AWp.seq ?_); refine AWp.region noP (by kernel_rfl) ?_
  simp [w0]
  (repeat refine AWp.seq ?_); refine AWp.region noP (by kernel_rfl) ?_
  simp
  have z0 : szr (s.size) n = szr (s.size) n := rfl
  refine AWp.cond (b := decide ((n - (s.size : Int)) < 0)) (by simp) (fun hb => ?_) (fun hb0 => ?_)
  · simp at hb
    (repeat refine AWp.seq ?_); refine AWp.region noP (by kernel_rfl) ?_
    simp
    have e : szr (s.size) n = -1 := szr_neg (by omega)
    refine AWp.ret (post_ret1 rfl ?_)
    simp only [put_slot, reduceIte]
    congr 1
    rw [z0, e]
  simp at hb0
  refine AWp.skip ?_
  simp
  have e0 : szr (s.size) n = (n - (s.size : Int)) := szr_pos (by omega)
  have y0 := e0
  (repeat refine AWp.seq ?_); refine AWp.region noP (by kernel_rfl) ?_
  simp
  refine AWp.ret (post_ret1 rfl ?_)
  simp only [put_slot, reduceIte]
  congr 1
  rw [y0]
theorem c_szProg0 (A : List Ar) (B : List Sm) (hA : A.length ≤ most) (hA2 : ∀ x ∈ A, x.fit) (hB : B.length ≤ most) (hB2 : ∀ x ∈ B, x.fit) (n : Int) (h0 : 0 ≤ n) (h1 : n ≤ 1048576) :
    PCall Tryz.prog 12 [(Pg.mk A B).av, .int .i64 n] (.int .i64 (szr (totL Ar.tot A + (totL Sm.tot B)) n)) := by
  unfold Pg.av Pg.cells
  refine pcall_of Tryz.func12 (by kernel_rfl) rfl (by simp [Tryz.f12]) ?_
  (repeat refine AWp.seq ?_); refine AWp.region noP (by kernel_rfl) ?_
  simp
  intro g
  (repeat refine AWp.seq ?_); refine AWp.region noP (by kernel_rfl) ?_
  simp
  refine aop_call _ _ _ _ _ _ _ _ (c_szArrS A hA (fun x hx => c_szArr0 x.s x.n (hA2 x hx)) _ (by omega) (by omega)) ?_
  simp
  (repeat refine AWp.seq ?_); refine AWp.region noP (by kernel_rfl) ?_
  simp
  have z0 : szr (totL Ar.tot A + (totL Sm.tot B)) n = if szr (totL Ar.tot A) n < 0 then -1 else szr (totL Sm.tot B) (szr (totL Ar.tot A) n) := szr_add _ _ _
  refine AWp.cond (b := decide ((szr (totL Ar.tot A) n) < 0)) (by simp) (fun hb => ?_) (fun hb0 => ?_)
  · simp at hb
    (repeat refine AWp.seq ?_); refine AWp.region noP (by kernel_rfl) ?_
    simp
    have e : szr (totL Ar.tot A) n = -1 := by unfold szr at hb ⊢; split at hb <;> rename_i hq <;> first | omega | rw [if_neg hq]
    refine AWp.ret (post_ret1 rfl ?_)
    simp only [put_slot, reduceIte]
    congr 1
    rw [z0, e]; rfl
  simp at hb0
  refine AWp.skip ?_
  simp
  have e0 : szr (totL Ar.tot A) n = (szr (totL Ar.tot A) n) := rfl
  have l0 : szr (totL Ar.tot A) n ≤ 1048576 := by unfold szr; split <;> omega
  have y0 := z0
  rw [e0, if_neg (by omega)] at y0
  (repeat refine AWp.seq ?_); refine AWp.region noP (by kernel_rfl) ?_
  simp
  refine aop_call _ _ _ _ _ _ _ _ (c_szStmtS B hB (fun x hx => c_szStmt x (hB2 x hx)) _ (by omega) (by omega)) ?_
  simp
  (repeat refine AWp.seq ?_); refine AWp.region noP (by kernel_rfl) ?_
  simp
  have z1 : szr (totL Sm.tot B) (szr (totL Ar.tot A) n) = szr (totL Sm.tot B) (szr (totL Ar.tot A) n) := rfl
  refine AWp.cond (b := decide ((szr (totL Sm.tot B) (szr (totL Ar.tot A) n)) < 0)) (by simp) (fun hb => ?_) (fun hb1 => ?_)
  · simp at hb
    (repeat refine AWp.seq ?_); refine AWp.region noP (by kernel_rfl) ?_
    simp
    have e : szr (totL Sm.tot B) (szr (totL Ar.tot A) n) = -1 := by unfold szr at hb ⊢; split at hb <;> rename_i hq <;> first | omega | rw [if_neg hq]
    refine AWp.ret (post_ret1 rfl ?_)
    simp only [put_slot, reduceIte]
    congr 1
    rw [y0, z1, e]
  simp at hb1
  refine AWp.skip ?_
  simp
  have e1 : szr (totL Sm.tot B) (szr (totL Ar.tot A) n) = (szr (totL Sm.tot B) (szr (totL Ar.tot A) n)) := rfl
  have l1 : szr (totL Sm.tot B) (szr (totL Ar.tot A) n) ≤ 1048576 := by unfold szr; split <;> omega
  have y1 := e1
  (repeat refine AWp.seq ?_); refine AWp.region noP (by kernel_rfl) ?_
  simp
  refine AWp.ret (post_ret1 rfl ?_)
  simp only [put_slot, reduceIte]
  congr 1
  rw [y0, y1]
theorem c_szProg (p : Pg) (hf : p.fit) (n : Int) (h0 : 0 ≤ n) (h1 : n ≤ 1048576) : PCall Tryz.prog 12 [p.av, .int .i64 n] (.int .i64 (szr p.tot n)) :=
  c_szProg0 p.arrs p.body hf.1 hf.2.1 hf.2.2.1 hf.2.2.2 n h0 h1
theorem c_toExpS (l : List Ex) (hl : l.length ≤ 1048576) (h : ∀ x ∈ l, PCall Tryz.prog 18 [x.av] x.av) :
    PCall Tryz.prog 94 [.lst false 4 (l.map Ex.av)] (.lst false 4 (l.map Ex.av)) := by
  refine pcall_of Tryz.func94 (by kernel_rfl) rfl (by simp [Tryz.f94]) ?_
  (repeat refine AWp.seq ?_); refine AWp.region noP (by kernel_rfl) ?_
  simp
  (repeat refine AWp.seq ?_); refine AWp.region noP (by kernel_rfl) ?_
  simp
  refine ⟨by omega, by omega, fun g => ?_⟩
  (repeat refine AWp.seq ?_); refine AWp.region noP (by kernel_rfl) ?_
  simp
  (repeat refine AWp.seq ?_); refine AWp.block (AWp.rounds (fun m st => ∃ (i : Nat) (xs : List AV), m = l.length - i ∧ i ≤ l.length ∧ st.slots 0 = .lst false 4 (l.map Ex.av) ∧ st.slots 3 = .own g l.length l.length ∧ st.slots 4 = .int .i64 i ∧ st.mem g = some (.arr 43 4 l.length xs) ∧ xs.length = l.length ∧ xs.take i = (l.map Ex.av).take i) l.length ⟨0, _, by simp, by simp, by simp, by simp, by simp, by simp; rfl, by simp, by simp⟩ ?_)
  rintro R m st hR ⟨i, xs, rfl, hi, s0, s3, s4, hg, hn, hx⟩
  (repeat refine AWp.seq ?_); refine AWp.region noP (by kernel_rfl) ?_
  simp [s0, s4]
  refine AWp.cond (b := decide (i < l.length)) (by simp) (fun hb => ?_) (fun hb => ?_)
  · simp at hb
    have hq : l[i]? = some l[i] := List.getElem?_eq_getElem hb
    refine AWp.skip ?_
    simp
    (repeat refine AWp.seq ?_); refine AWp.block ?_; (repeat refine AWp.seq ?_); refine AWp.region noP (by kernel_rfl) ?_
    have hx1 : idxA Tryz.prog st.mem 27 (.lst false 4 (l.map Ex.av)) (.int .i64 i) = some (.ref l[i].cells) := idx (y := l[i].av) es_27 (by simp [hq])
    simp [s0, s3, s4, hx1]
    refine aop_call _ _ _ _ _ _ _ _ (h l[i] (List.getElem_mem _)) ?_
    have hx2 : idxA Tryz.prog st.mem 41 (.own g l.length l.length) (.int .i64 i) = some (.elt g 4 i 0) := idx_own es_41 hg hn hb
    have hx3 : storeA st.mem (.elt g 4 i 0) (.agg l[i].cells) = some _ := store_elt hg (by omega) (by simp [Ex.cells_len])
    simp [s0, s3, s4, hx2, Ex.av, hx3]
    (repeat refine AWp.seq ?_); refine AWp.region noP (by kernel_rfl) ?_
    have hw : IntKind.wrap .i64 ((i : Int) + 1) = (i + 1 : Nat) := wrap64 (by omega) (by omega)
    simp [s4, hw]
    refine hR _ (l.length - (i + 1)) (by omega) ⟨i + 1, _, rfl, hb, by simp [s0], by simp [s3], by simp, by simp; rfl, by simp [hn], ?_⟩
    exact take_set hx (by simp [hn]) (by simp [hq, Ex.av])
  · simp at hb
    refine AWp.exit ?_
    simp
    (repeat refine AWp.seq ?_); refine AWp.region noP (by kernel_rfl) ?_
    simp [s3]
    have : i = l.length := by omega
    subst this
    have e : xs = l.map Ex.av := by rw [List.take_of_length_le (by omega), List.take_of_length_le (by simp)] at hx; exact hx
    subst e
    exact AWp.ret (post_own rfl (by simp; rfl) hg (by simp) rfl)
theorem c_toStmtS (l : List Sm) (hl : l.length ≤ 1048576) (h : ∀ x ∈ l, PCall Tryz.prog 208 [x.av] x.av) :
    PCall Tryz.prog 93 [.lst false 19 (l.map Sm.av)] (.lst false 19 (l.map Sm.av)) := by
  refine pcall_of Tryz.func93 (by kernel_rfl) rfl (by simp [Tryz.f93]) ?_
  (repeat refine AWp.seq ?_); refine AWp.region noP (by kernel_rfl) ?_
  simp
  (repeat refine AWp.seq ?_); refine AWp.region noP (by kernel_rfl) ?_
  simp
  refine ⟨by omega, by omega, fun g => ?_⟩
  (repeat refine AWp.seq ?_); refine AWp.region noP (by kernel_rfl) ?_
  simp
  (repeat refine AWp.seq ?_); refine AWp.block (AWp.rounds (fun m st => ∃ (i : Nat) (xs : List AV), m = l.length - i ∧ i ≤ l.length ∧ st.slots 0 = .lst false 19 (l.map Sm.av) ∧ st.slots 3 = .own g l.length l.length ∧ st.slots 4 = .int .i64 i ∧ st.mem g = some (.arr 74 19 l.length xs) ∧ xs.length = l.length ∧ xs.take i = (l.map Sm.av).take i) l.length ⟨0, _, by simp, by simp, by simp, by simp, by simp, by simp; rfl, by simp, by simp⟩ ?_)
  rintro R m st hR ⟨i, xs, rfl, hi, s0, s3, s4, hg, hn, hx⟩
  (repeat refine AWp.seq ?_); refine AWp.region noP (by kernel_rfl) ?_
  simp [s0, s4]
  refine AWp.cond (b := decide (i < l.length)) (by simp) (fun hb => ?_) (fun hb => ?_)
  · simp at hb
    have hq : l[i]? = some l[i] := List.getElem?_eq_getElem hb
    refine AWp.skip ?_
    simp
    (repeat refine AWp.seq ?_); refine AWp.block ?_; (repeat refine AWp.seq ?_); refine AWp.region noP (by kernel_rfl) ?_
    have hx1 : idxA Tryz.prog st.mem 23 (.lst false 19 (l.map Sm.av)) (.int .i64 i) = some (.ref l[i].cells) := idx (y := l[i].av) es_23 (by simp [hq])
    simp [s0, s3, s4, hx1]
    refine aop_call _ _ _ _ _ _ _ _ (h l[i] (List.getElem_mem _)) ?_
    have hx2 : idxA Tryz.prog st.mem 36 (.own g l.length l.length) (.int .i64 i) = some (.elt g 19 i 0) := idx_own es_36 hg hn hb
    have hx3 : storeA st.mem (.elt g 19 i 0) (.agg l[i].cells) = some _ := store_elt hg (by omega) (by simp [Sm.cells_len])
    simp [s0, s3, s4, hx2, Sm.av, hx3]
    (repeat refine AWp.seq ?_); refine AWp.region noP (by kernel_rfl) ?_
    have hw : IntKind.wrap .i64 ((i : Int) + 1) = (i + 1 : Nat) := wrap64 (by omega) (by omega)
    simp [s4, hw]
    refine hR _ (l.length - (i + 1)) (by omega) ⟨i + 1, _, rfl, hb, by simp [s0], by simp [s3], by simp, by simp; rfl, by simp [hn], ?_⟩
    exact take_set hx (by simp [hn]) (by simp [hq, Sm.av])
  · simp at hb
    refine AWp.exit ?_
    simp
    (repeat refine AWp.seq ?_); refine AWp.region noP (by kernel_rfl) ?_
    simp [s3]
    have : i = l.length := by omega
    subst this
    have e : xs = l.map Sm.av := by rw [List.take_of_length_le (by omega), List.take_of_length_le (by simp)] at hx; exact hx
    subst e
    exact AWp.ret (post_own rfl (by simp; rfl) hg (by simp) rfl)
theorem c_toArrS (l : List Ar) (hl : l.length ≤ 1048576) (h : ∀ x ∈ l, PCall Tryz.prog 207 [x.av] x.av) :
    PCall Tryz.prog 92 [.lst false 2 (l.map Ar.av)] (.lst false 2 (l.map Ar.av)) := by
  refine pcall_of Tryz.func92 (by kernel_rfl) rfl (by simp [Tryz.f92]) ?_
  (repeat refine AWp.seq ?_); refine AWp.region noP (by kernel_rfl) ?_
  simp
  (repeat refine AWp.seq ?_); refine AWp.region noP (by kernel_rfl) ?_
  simp
  refine ⟨by omega, by omega, fun g => ?_⟩
  (repeat refine AWp.seq ?_); refine AWp.region noP (by kernel_rfl) ?_
  simp
  (repeat refine AWp.seq ?_); refine AWp.block (AWp.rounds (fun m st => ∃ (i : Nat) (xs : List AV), m = l.length - i ∧ i ≤ l.length ∧ st.slots 0 = .lst false 2 (l.map Ar.av) ∧ st.slots 3 = .own g l.length l.length ∧ st.slots 4 = .int .i64 i ∧ st.mem g = some (.arr 197 2 l.length xs) ∧ xs.length = l.length ∧ xs.take i = (l.map Ar.av).take i) l.length ⟨0, _, by simp, by simp, by simp, by simp, by simp, by simp; rfl, by simp, by simp⟩ ?_)
  rintro R m st hR ⟨i, xs, rfl, hi, s0, s3, s4, hg, hn, hx⟩
  (repeat refine AWp.seq ?_); refine AWp.region noP (by kernel_rfl) ?_
  simp [s0, s4]
  refine AWp.cond (b := decide (i < l.length)) (by simp) (fun hb => ?_) (fun hb => ?_)
  · simp at hb
    have hq : l[i]? = some l[i] := List.getElem?_eq_getElem hb
    refine AWp.skip ?_
    simp
    (repeat refine AWp.seq ?_); refine AWp.block ?_; (repeat refine AWp.seq ?_); refine AWp.region noP (by kernel_rfl) ?_
    have hx1 : idxA Tryz.prog st.mem 22 (.lst false 2 (l.map Ar.av)) (.int .i64 i) = some (.ref l[i].cells) := idx (y := l[i].av) es_22 (by simp [hq])
    simp [s0, s3, s4, hx1]
    refine aop_call _ _ _ _ _ _ _ _ (h l[i] (List.getElem_mem _)) ?_
    have hx2 : idxA Tryz.prog st.mem 35 (.own g l.length l.length) (.int .i64 i) = some (.elt g 2 i 0) := idx_own es_35 hg hn hb
    have hx3 : storeA st.mem (.elt g 2 i 0) (.agg l[i].cells) = some _ := store_elt hg (by omega) (by simp [Ar.cells_len])
    simp [s0, s3, s4, hx2, Ar.av, hx3]
    (repeat refine AWp.seq ?_); refine AWp.region noP (by kernel_rfl) ?_
    have hw : IntKind.wrap .i64 ((i : Int) + 1) = (i + 1 : Nat) := wrap64 (by omega) (by omega)
    simp [s4, hw]
    refine hR _ (l.length - (i + 1)) (by omega) ⟨i + 1, _, rfl, hb, by simp [s0], by simp [s3], by simp, by simp; rfl, by simp [hn], ?_⟩
    exact take_set hx (by simp [hn]) (by simp [hq, Ar.av])
  · simp at hb
    refine AWp.exit ?_
    simp
    (repeat refine AWp.seq ?_); refine AWp.region noP (by kernel_rfl) ?_
    simp [s3]
    have : i = l.length := by omega
    subst this
    have e : xs = l.map Ar.av := by rw [List.take_of_length_le (by omega), List.take_of_length_le (by simp)] at hx; exact hx
    subst e
    exact AWp.ret (post_own rfl (by simp; rfl) hg (by simp) rfl)
end Go.T
namespace Go.T
open Go Go.Proofs
set_option maxRecDepth 10000
set_option maxHeartbeats 1000000
set_option linter.unusedSimpArgs false
set_option linter.unusedVariables false
theorem c_toExp0 (k m : Int) (s : ByteArray) (l : List Ex) (hl : l.length ≤ 1048576) (h : ∀ x ∈ l, PCall Tryz.prog 18 [x.av] x.av) : PCall Tryz.prog 18 [(Ex.mk k m s l).av] (Ex.mk k m s l).av := by
  unfold Ex.av
  rw [Ex.cells_mk]
  refine pcall_of Tryz.func18 (by kernel_rfl) rfl (by simp [Tryz.f18]) ?_
  (repeat refine AWp.seq ?_); refine AWp.region noP (by kernel_rfl) ?_
  simp [set_at]
  intro g1 g2 h2
  (repeat refine AWp.seq ?_); refine AWp.region noP (by kernel_rfl) ?_
  simp [set_at]
  intro g3 h3
  have n21 : g2 ≠ g1 := fun e => by simp [e] at h2
  have m12 := n21.symm
  have n32 : g3 ≠ g2 := fun e => by simp [e] at h3
  have n31 : g3 ≠ g1 := fun e => by simp [e, m12] at h3
  have m23 := n32.symm
  have m13 := n31.symm
  (repeat refine AWp.seq ?_); refine AWp.region noP (by kernel_rfl) ?_
  simp [set_at, n21, n32, n31, m12, m23, m13]
  (repeat refine AWp.seq ?_); refine AWp.region noP (by kernel_rfl) ?_
  simp [set_at, n21, n32, n31, m12, m23, m13]
  (repeat refine AWp.seq ?_); refine AWp.region noP (by kernel_rfl) ?_
  simp [set_at, n21, n32, n31, m12, m23, m13]
  (repeat refine AWp.seq ?_); refine AWp.region noP (by kernel_rfl) ?_
  simp [set_at, n21, n32, n31, m12, m23, m13]
  refine aop_call _ _ _ _ _ _ _ _ (c_toExpS l hl h) ?_
  simp [set_at, n21, n32, n31, m12, m23, m13]
  (repeat refine AWp.seq ?_); refine AWp.region noP (by kernel_rfl) ?_
  simp [set_at, n21, n32, n31, m12, m23, m13]
  exact AWp.ret (post_cell (.inl rfl) rfl (by simp [set_at, n21, n32, n31, m12, m23, m13]))
theorem c_toExp (e : Ex) : e.tot ≤ 1048576 → PCall Tryz.prog 18 [e.av] e.av := by
  induction e using Ex.ind with | h k m s l h =>
  intro ht
  rw [Ex.tot_mk] at ht
  have hl := totL_len Ex.tot l
  exact c_toExp0 k m s l (by omega) (fun x hx => h x hx (by have := totL_mem Ex.tot hx; omega))
theorem c_toStmt0 (k : Int) (s : ByteArray) (a e lo hi : Ex) (b : List Sm) (ha : a.tot ≤ 1048576) (he : e.tot ≤ 1048576) (hlo : lo.tot ≤ 1048576) (hhi : hi.tot ≤ 1048576) (hl : b.length ≤ 1048576) (h : ∀ x ∈ b, PCall Tryz.prog 208 [x.av] x.av) : PCall Tryz.prog 208 [(Sm.mk k s a e lo hi b).av] (Sm.mk k s a e lo hi b).av := by
  unfold Sm.av
  rw [Sm.cells_mk]
  refine pcall_of Tryz.func208 (by kernel_rfl) rfl (by simp [Tryz.f208]) ?_
  (repeat refine AWp.seq ?_); refine AWp.region noP (by kernel_rfl) ?_
  simp [set_at]
  intro g1 g2 h2
  (repeat refine AWp.seq ?_); refine AWp.region noP (by kernel_rfl) ?_
  simp [set_at]
  intro g3 h3
  have n21 : g2 ≠ g1 := fun e => by simp [e] at h2
  have m12 := n21.symm
  have n32 : g3 ≠ g2 := fun e => by simp [e] at h3
  have n31 : g3 ≠ g1 := fun e => by simp [e, m12] at h3
  have m23 := n32.symm
  have m13 := n31.symm
  (repeat refine AWp.seq ?_); refine AWp.region noP (by kernel_rfl) ?_
  simp [set_at, n21, n32, n31, m12, m23, m13]
  (repeat refine AWp.seq ?_); refine AWp.region noP (by kernel_rfl) ?_
  simp [set_at, n21, n32, n31, m12, m23, m13]
  (repeat refine AWp.seq ?_); refine AWp.region noP (by kernel_rfl) ?_
  simp [set_at, n21, n32, n31, m12, m23, m13]
  refine aop_call _ _ _ _ _ _ _ _ (c_toExp a ha) ?_
  simp [set_at, n21, n32, n31, m12, m23, m13, Ex.av]
  (repeat refine AWp.seq ?_); refine AWp.region noP (by kernel_rfl) ?_
  simp [set_at, n21, n32, n31, m12, m23, m13]
  refine aop_call _ _ _ _ _ _ _ _ (c_toExp e he) ?_
  simp [set_at, n21, n32, n31, m12, m23, m13, Ex.av]
  (repeat refine AWp.seq ?_); refine AWp.region noP (by kernel_rfl) ?_
  simp [set_at, n21, n32, n31, m12, m23, m13]
  refine aop_call _ _ _ _ _ _ _ _ (c_toExp lo hlo) ?_
  simp [set_at, n21, n32, n31, m12, m23, m13, Ex.av]
  (repeat refine AWp.seq ?_); refine AWp.region noP (by kernel_rfl) ?_
  simp [set_at, n21, n32, n31, m12, m23, m13]
  refine aop_call _ _ _ _ _ _ _ _ (c_toExp hi hhi) ?_
  simp [set_at, n21, n32, n31, m12, m23, m13, Ex.av]
  (repeat refine AWp.seq ?_); refine AWp.region noP (by kernel_rfl) ?_
  simp [set_at, n21, n32, n31, m12, m23, m13]
  refine aop_call _ _ _ _ _ _ _ _ (c_toStmtS b hl h) ?_
  simp [set_at, n21, n32, n31, m12, m23, m13, Ex.av]
  (repeat refine AWp.seq ?_); refine AWp.region noP (by kernel_rfl) ?_
  simp [set_at, n21, n32, n31, m12, m23, m13, Ex.av]
  exact AWp.ret (post_cell (.inl rfl) rfl (by simp [set_at, n21, n32, n31, m12, m23, m13]))
theorem c_toStmt (e : Sm) : e.tot ≤ 1048576 → PCall Tryz.prog 208 [e.av] e.av := by
  induction e using Sm.ind with | h k s a e lo hi b h =>
  intro ht
  rw [Sm.tot_mk] at ht
  have hl := totL_len Sm.tot b
  exact c_toStmt0 k s a e lo hi b (by omega) (by omega) (by omega) (by omega) (by omega) (fun x hx => h x hx (by have := totL_mem Sm.tot hx; omega))
theorem c_toArr0 (a : Ar) : PCall Tryz.prog 207 [a.av] a.av := by
  unfold Ar.av Ar.cells
  refine pcall_of Tryz.func207 (by kernel_rfl) rfl (by simp [Tryz.f207]) ?_
  (repeat refine AWp.seq ?_); refine AWp.region noP (by kernel_rfl) ?_
  simp [set_at]
  intro g1 g2 h2
  (repeat refine AWp.seq ?_); refine AWp.region noP (by kernel_rfl) ?_
  simp [set_at]
  intro g3 h3
  have n21 : g2 ≠ g1 := fun e => by simp [e] at h2
  have m12 := n21.symm
  have n32 : g3 ≠ g2 := fun e => by simp [e] at h3
  have n31 : g3 ≠ g1 := fun e => by simp [e, m12] at h3
  have m23 := n32.symm
  have m13 := n31.symm
  (repeat refine AWp.seq ?_); refine AWp.region noP (by kernel_rfl) ?_
  simp [set_at, n21, n32, n31, m12, m23, m13]
  (repeat refine AWp.seq ?_); refine AWp.region noP (by kernel_rfl) ?_
  simp [set_at, n21, n32, n31, m12, m23, m13]
  (repeat refine AWp.seq ?_); refine AWp.region noP (by kernel_rfl) ?_
  simp [set_at, n21, n32, n31, m12, m23, m13]
  exact AWp.ret (post_cell (.inl rfl) rfl (by simp [set_at, n21, n32, n31, m12, m23, m13]))
theorem c_toProg0 (p : Pg) (ht : p.tot ≤ 1048576) : PCall Tryz.prog 16 [p.av] p.av := by
  have h1 := totL_len Ar.tot p.arrs
  have h2 := totL_len Sm.tot p.body
  have h3 : p.tot = totL Ar.tot p.arrs + totL Sm.tot p.body := rfl
  unfold Pg.av Pg.cells
  refine pcall_of Tryz.func16 (by kernel_rfl) rfl (by simp [Tryz.f16]) ?_
  (repeat refine AWp.seq ?_); refine AWp.region noP (by kernel_rfl) ?_
  simp [set_at]
  intro g1 g2 h2
  (repeat refine AWp.seq ?_); refine AWp.region noP (by kernel_rfl) ?_
  simp [set_at]
  intro g3 h3
  have n21 : g2 ≠ g1 := fun e => by simp [e] at h2
  have m12 := n21.symm
  have n32 : g3 ≠ g2 := fun e => by simp [e] at h3
  have n31 : g3 ≠ g1 := fun e => by simp [e, m12] at h3
  have m23 := n32.symm
  have m13 := n31.symm
  (repeat refine AWp.seq ?_); refine AWp.region noP (by kernel_rfl) ?_
  simp [set_at, n21, n32, n31, m12, m23, m13]
  refine aop_call _ _ _ _ _ _ _ _ (c_toArrS p.arrs (by omega) (fun x _ => c_toArr0 x)) ?_
  simp [set_at, n21, n32, n31, m12, m23, m13]
  (repeat refine AWp.seq ?_); refine AWp.region noP (by kernel_rfl) ?_
  simp [set_at, n21, n32, n31, m12, m23, m13]
  refine aop_call _ _ _ _ _ _ _ _ (c_toStmtS p.body (by omega) (fun x hx => c_toStmt x (by have := totL_mem Sm.tot hx; omega))) ?_
  simp [set_at, n21, n32, n31, m12, m23, m13]
  (repeat refine AWp.seq ?_); refine AWp.region noP (by kernel_rfl) ?_
  simp [set_at, n21, n32, n31, m12, m23, m13]
  exact AWp.ret (post_cell (.inl rfl) rfl (by simp [set_at, n21, n32, n31, m12, m23, m13]))
theorem c_eqExpS (l : List Ex) (hl : l.length ≤ 1048576) (h : ∀ x ∈ l, PCall Tryz.prog 23 [x.av, x.av] (.bool true)) :
    PCall Tryz.prog 102 [.lst false 4 (l.map Ex.av), .lst false 4 (l.map Ex.av)] (.bool true) := by
  refine pcall_of Tryz.func102 (by kernel_rfl) rfl (by simp [Tryz.f102]) ?_
  (repeat refine AWp.seq ?_); refine AWp.region noP (by kernel_rfl) ?_
  simp
  (repeat refine AWp.seq ?_); refine AWp.region noP (by kernel_rfl) ?_
  simp
  refine AWp.cond (b := false) (by simp) (fun h => by cases h) (fun _ => ?_)
  refine AWp.skip ?_
  simp
  (repeat refine AWp.seq ?_); refine AWp.region noP (by kernel_rfl) ?_
  simp
  (repeat refine AWp.seq ?_); refine AWp.block (AWp.rounds (fun m st => ∃ (i : Nat), m = l.length - i ∧ i ≤ l.length ∧ st.slots 0 = .lst false 4 (l.map Ex.av) ∧ st.slots 1 = .lst false 4 (l.map Ex.av) ∧ st.slots 5 = .int .i64 i) l.length ⟨0, by simp, by simp, by simp, by simp, by simp⟩ ?_)
  rintro R m st hR ⟨i, rfl, hi, s0, s1, s5⟩
  (repeat refine AWp.seq ?_); refine AWp.region noP (by kernel_rfl) ?_
  simp [s0, s5]
  refine AWp.cond (b := decide (i < l.length)) (by simp) (fun hb => ?_) (fun hb => ?_)
  · simp at hb
    have hq : l[i]? = some l[i] := List.getElem?_eq_getElem hb
    refine AWp.skip ?_
    simp
    (repeat refine AWp.seq ?_); refine AWp.block ?_; (repeat refine AWp.seq ?_); refine AWp.region allP (by kernel_rfl) ?_
    have hx1 : idxA Tryz.prog st.mem 41 (.lst false 4 (l.map Ex.av)) (.int .i64 i) = some (.ref l[i].cells) := idx (y := l[i].av) es_41 (by simp [hq])
    simp [s0, s1, s5, hx1]
    refine aop_call _ _ _ _ _ _ _ _ (h l[i] (List.getElem_mem _)) ?_
    simp
    refine AWp.cond (b := false) (by simp) (fun h => by cases h) (fun _ => ?_)
    refine AWp.skip ?_
    simp
    (repeat refine AWp.seq ?_); refine AWp.region noP (by kernel_rfl) ?_
    have hw : IntKind.wrap .i64 ((i : Int) + 1) = (i + 1 : Nat) := wrap64 (by omega) (by omega)
    simp [s5, hw]
    exact hR _ (l.length - (i + 1)) (by omega) ⟨i + 1, rfl, hb, by simp [s0], by simp [s1], by simp⟩
  · simp at hb
    refine AWp.exit ?_
    simp
    (repeat refine AWp.seq ?_); refine AWp.region noP (by kernel_rfl) ?_
    simp
    exact AWp.ret (post_ret1 rfl (by simp))
theorem c_eqStmtS (l : List Sm) (hl : l.length ≤ 1048576) (h : ∀ x ∈ l, PCall Tryz.prog 217 [x.av, x.av] (.bool true)) :
    PCall Tryz.prog 101 [.lst false 19 (l.map Sm.av), .lst false 19 (l.map Sm.av)] (.bool true) := by
  refine pcall_of Tryz.func101 (by kernel_rfl) rfl (by simp [Tryz.f101]) ?_
  (repeat refine AWp.seq ?_); refine AWp.region noP (by kernel_rfl) ?_
  simp
  (repeat refine AWp.seq ?_); refine AWp.region noP (by kernel_rfl) ?_
  simp
  refine AWp.cond (b := false) (by simp) (fun h => by cases h) (fun _ => ?_)
  refine AWp.skip ?_
  simp
  (repeat refine AWp.seq ?_); refine AWp.region noP (by kernel_rfl) ?_
  simp
  (repeat refine AWp.seq ?_); refine AWp.block (AWp.rounds (fun m st => ∃ (i : Nat), m = l.length - i ∧ i ≤ l.length ∧ st.slots 0 = .lst false 19 (l.map Sm.av) ∧ st.slots 1 = .lst false 19 (l.map Sm.av) ∧ st.slots 5 = .int .i64 i) l.length ⟨0, by simp, by simp, by simp, by simp, by simp⟩ ?_)
  rintro R m st hR ⟨i, rfl, hi, s0, s1, s5⟩
  (repeat refine AWp.seq ?_); refine AWp.region noP (by kernel_rfl) ?_
  simp [s0, s5]
  refine AWp.cond (b := decide (i < l.length)) (by simp) (fun hb => ?_) (fun hb => ?_)
  · simp at hb
    have hq : l[i]? = some l[i] := List.getElem?_eq_getElem hb
    refine AWp.skip ?_
    simp
    (repeat refine AWp.seq ?_); refine AWp.block ?_; (repeat refine AWp.seq ?_); refine AWp.region allP (by kernel_rfl) ?_
    have hx1 : idxA Tryz.prog st.mem 36 (.lst false 19 (l.map Sm.av)) (.int .i64 i) = some (.ref l[i].cells) := idx (y := l[i].av) es_36 (by simp [hq])
    simp [s0, s1, s5, hx1]
    refine aop_call _ _ _ _ _ _ _ _ (h l[i] (List.getElem_mem _)) ?_
    simp
    refine AWp.cond (b := false) (by simp) (fun h => by cases h) (fun _ => ?_)
    refine AWp.skip ?_
    simp
    (repeat refine AWp.seq ?_); refine AWp.region noP (by kernel_rfl) ?_
    have hw : IntKind.wrap .i64 ((i : Int) + 1) = (i + 1 : Nat) := wrap64 (by omega) (by omega)
    simp [s5, hw]
    exact hR _ (l.length - (i + 1)) (by omega) ⟨i + 1, rfl, hb, by simp [s0], by simp [s1], by simp⟩
  · simp at hb
    refine AWp.exit ?_
    simp
    (repeat refine AWp.seq ?_); refine AWp.region noP (by kernel_rfl) ?_
    simp
    exact AWp.ret (post_ret1 rfl (by simp))
theorem c_eqArrS (l : List Ar) (hl : l.length ≤ 1048576) (h : ∀ x ∈ l, PCall Tryz.prog 216 [x.av, x.av] (.bool true)) :
    PCall Tryz.prog 100 [.lst false 2 (l.map Ar.av), .lst false 2 (l.map Ar.av)] (.bool true) := by
  refine pcall_of Tryz.func100 (by kernel_rfl) rfl (by simp [Tryz.f100]) ?_
  (repeat refine AWp.seq ?_); refine AWp.region noP (by kernel_rfl) ?_
  simp
  (repeat refine AWp.seq ?_); refine AWp.region noP (by kernel_rfl) ?_
  simp
  refine AWp.cond (b := false) (by simp) (fun h => by cases h) (fun _ => ?_)
  refine AWp.skip ?_
  simp
  (repeat refine AWp.seq ?_); refine AWp.region noP (by kernel_rfl) ?_
  simp
  (repeat refine AWp.seq ?_); refine AWp.block (AWp.rounds (fun m st => ∃ (i : Nat), m = l.length - i ∧ i ≤ l.length ∧ st.slots 0 = .lst false 2 (l.map Ar.av) ∧ st.slots 1 = .lst false 2 (l.map Ar.av) ∧ st.slots 5 = .int .i64 i) l.length ⟨0, by simp, by simp, by simp, by simp, by simp⟩ ?_)
  rintro R m st hR ⟨i, rfl, hi, s0, s1, s5⟩
  (repeat refine AWp.seq ?_); refine AWp.region noP (by kernel_rfl) ?_
  simp [s0, s5]
  refine AWp.cond (b := decide (i < l.length)) (by simp) (fun hb => ?_) (fun hb => ?_)
  · simp at hb
    have hq : l[i]? = some l[i] := List.getElem?_eq_getElem hb
    refine AWp.skip ?_
    simp
    (repeat refine AWp.seq ?_); refine AWp.block ?_; (repeat refine AWp.seq ?_); refine AWp.region allP (by kernel_rfl) ?_
    have hx1 : idxA Tryz.prog st.mem 35 (.lst false 2 (l.map Ar.av)) (.int .i64 i) = some (.ref l[i].cells) := idx (y := l[i].av) es_35 (by simp [hq])
    simp [s0, s1, s5, hx1]
    refine aop_call _ _ _ _ _ _ _ _ (h l[i] (List.getElem_mem _)) ?_
    simp
    refine AWp.cond (b := false) (by simp) (fun h => by cases h) (fun _ => ?_)
    refine AWp.skip ?_
    simp
    (repeat refine AWp.seq ?_); refine AWp.region noP (by kernel_rfl) ?_
    have hw : IntKind.wrap .i64 ((i : Int) + 1) = (i + 1 : Nat) := wrap64 (by omega) (by omega)
    simp [s5, hw]
    exact hR _ (l.length - (i + 1)) (by omega) ⟨i + 1, rfl, hb, by simp [s0], by simp [s1], by simp⟩
  · simp at hb
    refine AWp.exit ?_
    simp
    (repeat refine AWp.seq ?_); refine AWp.region noP (by kernel_rfl) ?_
    simp
    exact AWp.ret (post_ret1 rfl (by simp))
theorem c_eqExp0 (k m : Int) (s : ByteArray) (l : List Ex) (hl : l.length ≤ 1048576) (h : ∀ x ∈ l, PCall Tryz.prog 23 [x.av, x.av] (.bool true)) : PCall Tryz.prog 23 [(Ex.mk k m s l).av, (Ex.mk k m s l).av] (.bool true) := by
  unfold Ex.av
  rw [Ex.cells_mk]
  refine pcall_of Tryz.func23 (by kernel_rfl) rfl (by simp [Tryz.f23]) ?_
  (repeat refine AWp.seq ?_); refine AWp.region noP (by kernel_rfl) ?_
  simp [set_at]
  intro g1 g2 h2
  have n21 : g2 ≠ g1 := fun e => by simp [e] at h2
  have m12 := n21.symm
  (repeat refine AWp.seq ?_); refine AWp.region noP (by kernel_rfl) ?_
  simp [set_at, n21, m12]
  refine AWp.cond (b := false) (by simp) (fun h => by cases h) (fun _ => ?_)
  refine AWp.skip ?_
  simp
  (repeat refine AWp.seq ?_); refine AWp.region noP (by kernel_rfl) ?_
  simp [set_at, n21, m12]
  refine AWp.cond (b := false) (by simp) (fun h => by cases h) (fun _ => ?_)
  refine AWp.skip ?_
  simp
  (repeat refine AWp.seq ?_); refine AWp.region noP (by kernel_rfl) ?_
  simp [set_at, n21, m12]
  refine AWp.cond (b := false) (by simp) (fun h => by cases h) (fun _ => ?_)
  refine AWp.skip ?_
  simp
  (repeat refine AWp.seq ?_); refine AWp.region allP (by kernel_rfl) ?_
  simp [set_at, n21, m12]
  refine aop_call _ _ _ _ _ _ _ _ (c_eqExpS l hl h) ?_
  simp [set_at, n21, m12]
  refine AWp.cond (b := false) (by simp) (fun h => by cases h) (fun _ => ?_)
  refine AWp.skip ?_
  simp
  (repeat refine AWp.seq ?_); refine AWp.region noP (by kernel_rfl) ?_
  simp
  exact AWp.ret (post_ret1 rfl (by simp))
theorem c_eqExp (e : Ex) : e.tot ≤ 1048576 → PCall Tryz.prog 23 [e.av, e.av] (.bool true) := by
  induction e using Ex.ind with | h k m s l h =>
  intro ht
  rw [Ex.tot_mk] at ht
  have hl := totL_len Ex.tot l
  exact c_eqExp0 k m s l (by omega) (fun x hx => h x hx (by have := totL_mem Ex.tot hx; omega))
theorem c_eqStmt0 (k : Int) (s : ByteArray) (a e lo hi : Ex) (b : List Sm) (ha : a.tot ≤ 1048576) (he : e.tot ≤ 1048576) (hlo : lo.tot ≤ 1048576) (hhi : hi.tot ≤ 1048576) (hl : b.length ≤ 1048576) (h : ∀ x ∈ b, PCall Tryz.prog 217 [x.av, x.av] (.bool true)) : PCall Tryz.prog 217 [(Sm.mk k s a e lo hi b).av, (Sm.mk k s a e lo hi b).av] (.bool true) := by
  unfold Sm.av
  rw [Sm.cells_mk]
  refine pcall_of Tryz.func217 (by kernel_rfl) rfl (by simp [Tryz.f217]) ?_
  (repeat refine AWp.seq ?_); refine AWp.region noP (by kernel_rfl) ?_
  simp [set_at]
  intro g1 g2 h2
  have n21 : g2 ≠ g1 := fun e => by simp [e] at h2
  have m12 := n21.symm
  (repeat refine AWp.seq ?_); refine AWp.region noP (by kernel_rfl) ?_
  simp [set_at, n21, m12]
  refine AWp.cond (b := false) (by simp) (fun h => by cases h) (fun _ => ?_)
  refine AWp.skip ?_
  simp
  (repeat refine AWp.seq ?_); refine AWp.region noP (by kernel_rfl) ?_
  simp [set_at, n21, m12]
  refine AWp.cond (b := false) (by simp) (fun h => by cases h) (fun _ => ?_)
  refine AWp.skip ?_
  simp
  (repeat refine AWp.seq ?_); refine AWp.region allP (by kernel_rfl) ?_
  simp [set_at, n21, m12]
  refine aop_call _ _ _ _ _ _ _ _ (c_eqExp a ha) ?_
  simp [set_at, n21, m12]
  refine AWp.cond (b := false) (by simp) (fun h => by cases h) (fun _ => ?_)
  refine AWp.skip ?_
  simp
  (repeat refine AWp.seq ?_); refine AWp.region allP (by kernel_rfl) ?_
  simp [set_at, n21, m12]
  refine aop_call _ _ _ _ _ _ _ _ (c_eqExp e he) ?_
  simp [set_at, n21, m12]
  refine AWp.cond (b := false) (by simp) (fun h => by cases h) (fun _ => ?_)
  refine AWp.skip ?_
  simp
  (repeat refine AWp.seq ?_); refine AWp.region allP (by kernel_rfl) ?_
  simp [set_at, n21, m12]
  refine aop_call _ _ _ _ _ _ _ _ (c_eqExp lo hlo) ?_
  simp [set_at, n21, m12]
  refine AWp.cond (b := false) (by simp) (fun h => by cases h) (fun _ => ?_)
  refine AWp.skip ?_
  simp
  (repeat refine AWp.seq ?_); refine AWp.region allP (by kernel_rfl) ?_
  simp [set_at, n21, m12]
  refine aop_call _ _ _ _ _ _ _ _ (c_eqExp hi hhi) ?_
  simp [set_at, n21, m12]
  refine AWp.cond (b := false) (by simp) (fun h => by cases h) (fun _ => ?_)
  refine AWp.skip ?_
  simp
  (repeat refine AWp.seq ?_); refine AWp.region allP (by kernel_rfl) ?_
  simp [set_at, n21, m12]
  refine aop_call _ _ _ _ _ _ _ _ (c_eqStmtS b hl h) ?_
  simp [set_at, n21, m12]
  refine AWp.cond (b := false) (by simp) (fun h => by cases h) (fun _ => ?_)
  refine AWp.skip ?_
  simp
  (repeat refine AWp.seq ?_); refine AWp.region noP (by kernel_rfl) ?_
  simp
  exact AWp.ret (post_ret1 rfl (by simp))
theorem c_eqStmt (e : Sm) : e.tot ≤ 1048576 → PCall Tryz.prog 217 [e.av, e.av] (.bool true) := by
  induction e using Sm.ind with | h k s a e lo hi b h =>
  intro ht
  rw [Sm.tot_mk] at ht
  have hl := totL_len Sm.tot b
  exact c_eqStmt0 k s a e lo hi b (by omega) (by omega) (by omega) (by omega) (by omega) (fun x hx => h x hx (by have := totL_mem Sm.tot hx; omega))
theorem c_eqArr0 (a : Ar) : PCall Tryz.prog 216 [a.av, a.av] (.bool true) := by
  unfold Ar.av Ar.cells
  refine pcall_of Tryz.func216 (by kernel_rfl) rfl (by simp [Tryz.f216]) ?_
  (repeat refine AWp.seq ?_); refine AWp.region noP (by kernel_rfl) ?_
  simp [set_at]
  intro g1 g2 h2
  have n21 : g2 ≠ g1 := fun e => by simp [e] at h2
  have m12 := n21.symm
  (repeat refine AWp.seq ?_); refine AWp.region noP (by kernel_rfl) ?_
  simp [set_at, n21, m12]
  refine AWp.cond (b := false) (by simp) (fun h => by cases h) (fun _ => ?_)
  refine AWp.skip ?_
  simp
  (repeat refine AWp.seq ?_); refine AWp.region noP (by kernel_rfl) ?_
  simp [set_at, n21, m12]
  refine AWp.cond (b := false) (by simp) (fun h => by cases h) (fun _ => ?_)
  refine AWp.skip ?_
  simp
  (repeat refine AWp.seq ?_); refine AWp.region noP (by kernel_rfl) ?_
  simp
  exact AWp.ret (post_ret1 rfl (by simp))
theorem c_eqProg0 (p : Pg) (ht : p.tot ≤ 1048576) : PCall Tryz.prog 21 [p.av, p.av] (.bool true) := by
  have h1 := totL_len Ar.tot p.arrs
  have h2 := totL_len Sm.tot p.body
  have h3 : p.tot = totL Ar.tot p.arrs + totL Sm.tot p.body := rfl
  unfold Pg.av Pg.cells
  refine pcall_of Tryz.func21 (by kernel_rfl) rfl (by simp [Tryz.f21]) ?_
  (repeat refine AWp.seq ?_); refine AWp.region noP (by kernel_rfl) ?_
  simp [set_at]
  intro g1 g2 h2
  have n21 : g2 ≠ g1 := fun e => by simp [e] at h2
  have m12 := n21.symm
  (repeat refine AWp.seq ?_); refine AWp.region allP (by kernel_rfl) ?_
  simp [set_at, n21, m12]
  refine aop_call _ _ _ _ _ _ _ _ (c_eqArrS p.arrs (by omega) (fun x _ => c_eqArr0 x)) ?_
  simp [set_at, n21, m12]
  refine AWp.cond (b := false) (by simp) (fun h => by cases h) (fun _ => ?_)
  refine AWp.skip ?_
  simp
  (repeat refine AWp.seq ?_); refine AWp.region allP (by kernel_rfl) ?_
  simp [set_at, n21, m12]
  refine aop_call _ _ _ _ _ _ _ _ (c_eqStmtS p.body (by omega) (fun x hx => c_eqStmt x (by have := totL_mem Sm.tot hx; omega))) ?_
  simp [set_at, n21, m12]
  refine AWp.cond (b := false) (by simp) (fun h => by cases h) (fun _ => ?_)
  refine AWp.skip ?_
  simp
  (repeat refine AWp.seq ?_); refine AWp.region noP (by kernel_rfl) ?_
  simp
  exact AWp.ret (post_ret1 rfl (by simp))
end Go.T
namespace Go.T
open Go Go.Proofs
set_option maxRecDepth 10000
set_option maxHeartbeats 1000000
set_option linter.unusedSimpArgs false
set_option linter.unusedVariables false
theorem c_isTwo (k : Int) : PCall Tryz.prog 436 [.int .i64 k] (.bool (inR k 4 8)) := by
  refine pcall_of Tryz.func436 (by kernel_rfl) rfl (by simp [Tryz.f436]) ?_
  repeat' (first
    | refine AWp.seq ?_
    | (refine AWp.region allP (by kernel_rfl) ?_; simp)
    | (refine AWp.condG ?_; simp)
    | (refine AWp.skip ?_; try simp)
    | (refine AWp.exit ?_; try simp)
    | refine AWp.block ?_
    | (refine aop_call' (c_inRange _ _ _) ?_; simp)
    | (refine AWp.ret (post_ret1 rfl ?_); (simp; done))
    | (refine guardI (fun hq => ?_) (fun hq => ?_) <;> (try simp at hq) <;> (try simp))
    | (refine condRunI (fun hq => ?_) (fun hq => ?_) <;> (try simp at hq) <;> (try simp))
    | (refine iteI (fun hq => ?_) (fun hq => ?_) <;> (try simp)))
theorem c_partsOk (k n : Int) (s : ByteArray) (l : List Ex) (hs : s.size ≤ 9223372036854775806) : PCall Tryz.prog 422 [(Ex.mk k n s l).av] (.bool (partsOk k n s l.length)) := by
  refine pcall_of Tryz.func422 (by kernel_rfl) rfl (by simp [Tryz.f422]) ?_
  unfold Ex.av
  rw [Ex.cells_mk]
  (repeat refine AWp.seq ?_); refine AWp.region noP (by kernel_rfl) ?_
  simp
  intro g
  by_cases k1 : k = 1
  · repeat' (first
    | refine AWp.seq ?_
    | (refine AWp.region allP (by kernel_rfl) ?_; simp [*])
    | (refine AWp.condG ?_; simp [*])
    | (refine AWp.skip ?_; try simp)
    | (refine AWp.exit ?_; try simp)
    | refine AWp.block ?_
    | (refine aop_call' (c_inRange _ _ _) ?_; simp [*])
    | (refine aop_call' (c_impl_NameOk _ hs) ?_; simp [*])
    | (refine aop_call' (c_isTwo _) ?_; simp [*])
    | (refine AWp.ret (post_ret1 rfl ?_); (simp_all [partsOk, noS]; done))
    | (refine guardI (fun hq => ?_) (fun hq => ?_) <;> (try simp at hq) <;> (try simp [*]))
    | (refine condRunI (fun hq => ?_) (fun hq => ?_) <;> (try simp at hq) <;> (try simp [*]))
    | (refine iteI (fun hq => ?_) (fun hq => ?_) <;> (try simp [*])))
  by_cases k2 : k = 2
  · repeat' (first
    | refine AWp.seq ?_
    | (refine AWp.region allP (by kernel_rfl) ?_; simp [*])
    | (refine AWp.condG ?_; simp [*])
    | (refine AWp.skip ?_; try simp)
    | (refine AWp.exit ?_; try simp)
    | refine AWp.block ?_
    | (refine aop_call' (c_inRange _ _ _) ?_; simp [*])
    | (refine aop_call' (c_impl_NameOk _ hs) ?_; simp [*])
    | (refine aop_call' (c_isTwo _) ?_; simp [*])
    | (refine AWp.ret (post_ret1 rfl ?_); (simp_all [partsOk, noS]; done))
    | (refine guardI (fun hq => ?_) (fun hq => ?_) <;> (try simp at hq) <;> (try simp [*]))
    | (refine condRunI (fun hq => ?_) (fun hq => ?_) <;> (try simp at hq) <;> (try simp [*]))
    | (refine iteI (fun hq => ?_) (fun hq => ?_) <;> (try simp [*])))
  by_cases k3 : k = 3
  · repeat' (first
    | refine AWp.seq ?_
    | (refine AWp.region allP (by kernel_rfl) ?_; simp [*])
    | (refine AWp.condG ?_; simp [*])
    | (refine AWp.skip ?_; try simp)
    | (refine AWp.exit ?_; try simp)
    | refine AWp.block ?_
    | (refine aop_call' (c_inRange _ _ _) ?_; simp [*])
    | (refine aop_call' (c_impl_NameOk _ hs) ?_; simp [*])
    | (refine aop_call' (c_isTwo _) ?_; simp [*])
    | (refine AWp.ret (post_ret1 rfl ?_); (simp_all [partsOk, noS]; done))
    | (refine guardI (fun hq => ?_) (fun hq => ?_) <;> (try simp at hq) <;> (try simp [*]))
    | (refine condRunI (fun hq => ?_) (fun hq => ?_) <;> (try simp at hq) <;> (try simp [*]))
    | (refine iteI (fun hq => ?_) (fun hq => ?_) <;> (try simp [*])))
  repeat' (first
    | refine AWp.seq ?_
    | (refine AWp.region allP (by kernel_rfl) ?_; simp [*])
    | (refine AWp.condG ?_; simp [*])
    | (refine AWp.skip ?_; try simp)
    | (refine AWp.exit ?_; try simp)
    | refine AWp.block ?_
    | (refine aop_call' (c_inRange _ _ _) ?_; simp [*])
    | (refine aop_call' (c_impl_NameOk _ hs) ?_; simp [*])
    | (refine aop_call' (c_isTwo _) ?_; simp [*])
    | (refine AWp.ret (post_ret1 rfl ?_); (simp_all [partsOk, noS]; done))
    | (refine guardI (fun hq => ?_) (fun hq => ?_) <;> (try simp at hq) <;> (try simp [*]))
    | (refine condRunI (fun hq => ?_) (fun hq => ?_) <;> (try simp at hq) <;> (try simp [*]))
    | (refine iteI (fun hq => ?_) (fun hq => ?_) <;> (try simp [*])))
end Go.T
namespace Go.T
open Go Go.Proofs
set_option maxRecDepth 10000
set_option maxHeartbeats 1000000
set_option linter.unusedSimpArgs false
set_option linter.unusedVariables false
theorem c_l3Parts (k : Int) : PCall Tryz.prog 412 [.int .i64 k] (.int .i64 (partsN k)) := by
  refine pcall_of Tryz.func412 (by kernel_rfl) rfl (by simp [Tryz.f412]) ?_
  by_cases k1 : k = 1
  · subst k1
    repeat' (first
    | refine AWp.seq ?_
    | (refine AWp.region allP (by kernel_rfl) ?_; simp [*])
    | (refine AWp.condG ?_; simp [*])
    | (refine AWp.skip ?_; try simp)
    | (refine AWp.exit ?_; try simp)
    | refine AWp.block ?_
    | (refine AWp.ret (post_ret1 rfl ?_); (simp_all [partsN, inR]; done))
    | (refine guardI (fun hq => ?_) (fun hq => ?_) <;> (try simp at hq) <;> (try simp [*]))
    | (refine condRunI (fun hq => ?_) (fun hq => ?_) <;> (try simp at hq) <;> (try simp [*]))
    | (refine iteI (fun hq => ?_) (fun hq => ?_) <;> (try simp [*])))
  by_cases k2 : k = 2
  · subst k2
    repeat' (first
    | refine AWp.seq ?_
    | (refine AWp.region allP (by kernel_rfl) ?_; simp [*])
    | (refine AWp.condG ?_; simp [*])
    | (refine AWp.skip ?_; try simp)
    | (refine AWp.exit ?_; try simp)
    | refine AWp.block ?_
    | (refine AWp.ret (post_ret1 rfl ?_); (simp_all [partsN, inR]; done))
    | (refine guardI (fun hq => ?_) (fun hq => ?_) <;> (try simp at hq) <;> (try simp [*]))
    | (refine condRunI (fun hq => ?_) (fun hq => ?_) <;> (try simp at hq) <;> (try simp [*]))
    | (refine iteI (fun hq => ?_) (fun hq => ?_) <;> (try simp [*])))
  by_cases k3 : k = 3
  · subst k3
    repeat' (first
    | refine AWp.seq ?_
    | (refine AWp.region allP (by kernel_rfl) ?_; simp [*])
    | (refine AWp.condG ?_; simp [*])
    | (refine AWp.skip ?_; try simp)
    | (refine AWp.exit ?_; try simp)
    | refine AWp.block ?_
    | (refine AWp.ret (post_ret1 rfl ?_); (simp_all [partsN, inR]; done))
    | (refine guardI (fun hq => ?_) (fun hq => ?_) <;> (try simp at hq) <;> (try simp [*]))
    | (refine condRunI (fun hq => ?_) (fun hq => ?_) <;> (try simp at hq) <;> (try simp [*]))
    | (refine iteI (fun hq => ?_) (fun hq => ?_) <;> (try simp [*])))
  by_cases k4 : k = 4
  · subst k4
    repeat' (first
    | refine AWp.seq ?_
    | (refine AWp.region allP (by kernel_rfl) ?_; simp [*])
    | (refine AWp.condG ?_; simp [*])
    | (refine AWp.skip ?_; try simp)
    | (refine AWp.exit ?_; try simp)
    | refine AWp.block ?_
    | (refine AWp.ret (post_ret1 rfl ?_); (simp_all [partsN, inR]; done))
    | (refine guardI (fun hq => ?_) (fun hq => ?_) <;> (try simp at hq) <;> (try simp [*]))
    | (refine condRunI (fun hq => ?_) (fun hq => ?_) <;> (try simp at hq) <;> (try simp [*]))
    | (refine iteI (fun hq => ?_) (fun hq => ?_) <;> (try simp [*])))
  by_cases k5 : k = 5
  · subst k5
    repeat' (first
    | refine AWp.seq ?_
    | (refine AWp.region allP (by kernel_rfl) ?_; simp [*])
    | (refine AWp.condG ?_; simp [*])
    | (refine AWp.skip ?_; try simp)
    | (refine AWp.exit ?_; try simp)
    | refine AWp.block ?_
    | (refine AWp.ret (post_ret1 rfl ?_); (simp_all [partsN, inR]; done))
    | (refine guardI (fun hq => ?_) (fun hq => ?_) <;> (try simp at hq) <;> (try simp [*]))
    | (refine condRunI (fun hq => ?_) (fun hq => ?_) <;> (try simp at hq) <;> (try simp [*]))
    | (refine iteI (fun hq => ?_) (fun hq => ?_) <;> (try simp [*])))
  by_cases k6 : k = 6
  · subst k6
    repeat' (first
    | refine AWp.seq ?_
    | (refine AWp.region allP (by kernel_rfl) ?_; simp [*])
    | (refine AWp.condG ?_; simp [*])
    | (refine AWp.skip ?_; try simp)
    | (refine AWp.exit ?_; try simp)
    | refine AWp.block ?_
    | (refine AWp.ret (post_ret1 rfl ?_); (simp_all [partsN, inR]; done))
    | (refine guardI (fun hq => ?_) (fun hq => ?_) <;> (try simp at hq) <;> (try simp [*]))
    | (refine condRunI (fun hq => ?_) (fun hq => ?_) <;> (try simp at hq) <;> (try simp [*]))
    | (refine iteI (fun hq => ?_) (fun hq => ?_) <;> (try simp [*])))
  by_cases k7 : k = 7
  · subst k7
    repeat' (first
    | refine AWp.seq ?_
    | (refine AWp.region allP (by kernel_rfl) ?_; simp [*])
    | (refine AWp.condG ?_; simp [*])
    | (refine AWp.skip ?_; try simp)
    | (refine AWp.exit ?_; try simp)
    | refine AWp.block ?_
    | (refine AWp.ret (post_ret1 rfl ?_); (simp_all [partsN, inR]; done))
    | (refine guardI (fun hq => ?_) (fun hq => ?_) <;> (try simp at hq) <;> (try simp [*]))
    | (refine condRunI (fun hq => ?_) (fun hq => ?_) <;> (try simp at hq) <;> (try simp [*]))
    | (refine iteI (fun hq => ?_) (fun hq => ?_) <;> (try simp [*])))
  by_cases k8 : k = 8
  · subst k8
    repeat' (first
    | refine AWp.seq ?_
    | (refine AWp.region allP (by kernel_rfl) ?_; simp [*])
    | (refine AWp.condG ?_; simp [*])
    | (refine AWp.skip ?_; try simp)
    | (refine AWp.exit ?_; try simp)
    | refine AWp.block ?_
    | (refine AWp.ret (post_ret1 rfl ?_); (simp_all [partsN, inR]; done))
    | (refine guardI (fun hq => ?_) (fun hq => ?_) <;> (try simp at hq) <;> (try simp [*]))
    | (refine condRunI (fun hq => ?_) (fun hq => ?_) <;> (try simp at hq) <;> (try simp [*]))
    | (refine iteI (fun hq => ?_) (fun hq => ?_) <;> (try simp [*])))
  have hk : ¬ (4 ≤ k ∧ k ≤ 8) := by omega
  repeat' (first
    | refine AWp.seq ?_
    | (refine AWp.region allP (by kernel_rfl) ?_; simp [*])
    | (refine AWp.condG ?_; simp [*])
    | (refine AWp.skip ?_; try simp)
    | (refine AWp.exit ?_; try simp)
    | refine AWp.block ?_
    | (refine AWp.ret (post_ret1 rfl ?_); (simp_all [partsN, inR]; done))
    | (refine guardI (fun hq => ?_) (fun hq => ?_) <;> (try simp at hq) <;> (try simp [*]))
    | (refine condRunI (fun hq => ?_) (fun hq => ?_) <;> (try simp at hq) <;> (try simp [*]))
    | (refine iteI (fun hq => ?_) (fun hq => ?_) <;> (try simp [*])))
theorem c_l3Here (k n : Int) (s : ByteArray) (l : List Ex) (hs : s.size ≤ 9223372036854775806) : PCall Tryz.prog 306 [(Ex.mk k n s l).av] (.bool (partsOk k n s l.length)) := by
  refine pcall_of Tryz.func306 (by kernel_rfl) rfl (by simp [Tryz.f306]) ?_
  unfold Ex.av
  rw [Ex.cells_mk]
  (repeat refine AWp.seq ?_); refine AWp.region noP (by kernel_rfl) ?_
  simp
  intro g
  by_cases k1 : k = 1
  · subst k1
    repeat' (first
    | refine AWp.seq ?_
    | (refine AWp.region allP (by kernel_rfl) ?_; simp [*])
    | (refine AWp.condG ?_; simp [*])
    | (refine AWp.skip ?_; try simp)
    | (refine AWp.exit ?_; try simp)
    | refine AWp.block ?_
    | (refine aop_call' (c_l3Parts _) ?_; simp [*])
    | (refine aop_call' (c_l1In _ _ _) ?_; simp [*])
    | (refine aop_call' (c_spec_NameOk _ hs) ?_; simp [*])
    | (refine AWp.ret (post_ret1 rfl ?_); (simp_all [partsOk, partsN, noS, @eq_comm Int]; done))
    | (refine guardI (fun hq => ?_) (fun hq => ?_) <;> (try simp at hq) <;> (try simp [*]))
    | (refine condRunI (fun hq => ?_) (fun hq => ?_) <;> (try simp at hq) <;> (try simp [*]))
    | (refine iteI (fun hq => ?_) (fun hq => ?_) <;> (try simp [*])))
  by_cases n0 : n = 0
  · subst n0
    by_cases k2 : k = 2
    · subst k2
      repeat' (first
    | refine AWp.seq ?_
    | (refine AWp.region allP (by kernel_rfl) ?_; simp [*])
    | (refine AWp.condG ?_; simp [*])
    | (refine AWp.skip ?_; try simp)
    | (refine AWp.exit ?_; try simp)
    | refine AWp.block ?_
    | (refine aop_call' (c_l3Parts _) ?_; simp [*])
    | (refine aop_call' (c_l1In _ _ _) ?_; simp [*])
    | (refine aop_call' (c_spec_NameOk _ hs) ?_; simp [*])
    | (refine AWp.ret (post_ret1 rfl ?_); (simp_all [partsOk, partsN, noS, @eq_comm Int]; done))
    | (refine guardI (fun hq => ?_) (fun hq => ?_) <;> (try simp at hq) <;> (try simp [*]))
    | (refine condRunI (fun hq => ?_) (fun hq => ?_) <;> (try simp at hq) <;> (try simp [*]))
    | (refine iteI (fun hq => ?_) (fun hq => ?_) <;> (try simp [*])))
    by_cases k3 : k = 3
    · subst k3
      repeat' (first
    | refine AWp.seq ?_
    | (refine AWp.region allP (by kernel_rfl) ?_; simp [*])
    | (refine AWp.condG ?_; simp [*])
    | (refine AWp.skip ?_; try simp)
    | (refine AWp.exit ?_; try simp)
    | refine AWp.block ?_
    | (refine aop_call' (c_l3Parts _) ?_; simp [*])
    | (refine aop_call' (c_l1In _ _ _) ?_; simp [*])
    | (refine aop_call' (c_spec_NameOk _ hs) ?_; simp [*])
    | (refine AWp.ret (post_ret1 rfl ?_); (simp_all [partsOk, partsN, noS, @eq_comm Int]; done))
    | (refine guardI (fun hq => ?_) (fun hq => ?_) <;> (try simp at hq) <;> (try simp [*]))
    | (refine condRunI (fun hq => ?_) (fun hq => ?_) <;> (try simp at hq) <;> (try simp [*]))
    | (refine iteI (fun hq => ?_) (fun hq => ?_) <;> (try simp [*])))
    by_cases k4 : inR k 4 8 = true
    · repeat' (first
    | refine AWp.seq ?_
    | (refine AWp.region allP (by kernel_rfl) ?_; simp [*])
    | (refine AWp.condG ?_; simp [*])
    | (refine AWp.skip ?_; try simp)
    | (refine AWp.exit ?_; try simp)
    | refine AWp.block ?_
    | (refine aop_call' (c_l3Parts _) ?_; simp [*])
    | (refine aop_call' (c_l1In _ _ _) ?_; simp [*])
    | (refine aop_call' (c_spec_NameOk _ hs) ?_; simp [*])
    | (refine AWp.ret (post_ret1 rfl ?_); (simp_all [partsOk, partsN, noS, @eq_comm Int]; done))
    | (refine guardI (fun hq => ?_) (fun hq => ?_) <;> (try simp at hq) <;> (try simp [*]))
    | (refine condRunI (fun hq => ?_) (fun hq => ?_) <;> (try simp at hq) <;> (try simp [*]))
    | (refine iteI (fun hq => ?_) (fun hq => ?_) <;> (try simp [*])))
    · repeat' (first
    | refine AWp.seq ?_
    | (refine AWp.region allP (by kernel_rfl) ?_; simp [*])
    | (refine AWp.condG ?_; simp [*])
    | (refine AWp.skip ?_; try simp)
    | (refine AWp.exit ?_; try simp)
    | refine AWp.block ?_
    | (refine aop_call' (c_l3Parts _) ?_; simp [*])
    | (refine aop_call' (c_l1In _ _ _) ?_; simp [*])
    | (refine aop_call' (c_spec_NameOk _ hs) ?_; simp [*])
    | (refine AWp.ret (post_ret1 rfl ?_); (simp_all [partsOk, partsN, noS, @eq_comm Int]; done))
    | (refine guardI (fun hq => ?_) (fun hq => ?_) <;> (try simp at hq) <;> (try simp [*]))
    | (refine condRunI (fun hq => ?_) (fun hq => ?_) <;> (try simp at hq) <;> (try simp [*]))
    | (refine iteI (fun hq => ?_) (fun hq => ?_) <;> (try simp [*])))
  · by_cases k2 : k = 2
    · subst k2
      repeat' (first
    | refine AWp.seq ?_
    | (refine AWp.region allP (by kernel_rfl) ?_; simp [*])
    | (refine AWp.condG ?_; simp [*])
    | (refine AWp.skip ?_; try simp)
    | (refine AWp.exit ?_; try simp)
    | refine AWp.block ?_
    | (refine aop_call' (c_l3Parts _) ?_; simp [*])
    | (refine aop_call' (c_l1In _ _ _) ?_; simp [*])
    | (refine aop_call' (c_spec_NameOk _ hs) ?_; simp [*])
    | (refine AWp.ret (post_ret1 rfl ?_); (simp_all [partsOk, partsN, noS, @eq_comm Int]; done))
    | (refine guardI (fun hq => ?_) (fun hq => ?_) <;> (try simp at hq) <;> (try simp [*]))
    | (refine condRunI (fun hq => ?_) (fun hq => ?_) <;> (try simp at hq) <;> (try simp [*]))
    | (refine iteI (fun hq => ?_) (fun hq => ?_) <;> (try simp [*])))
    by_cases k3 : k = 3
    · subst k3
      repeat' (first
    | refine AWp.seq ?_
    | (refine AWp.region allP (by kernel_rfl) ?_; simp [*])
    | (refine AWp.condG ?_; simp [*])
    | (refine AWp.skip ?_; try simp)
    | (refine AWp.exit ?_; try simp)
    | refine AWp.block ?_
    | (refine aop_call' (c_l3Parts _) ?_; simp [*])
    | (refine aop_call' (c_l1In _ _ _) ?_; simp [*])
    | (refine aop_call' (c_spec_NameOk _ hs) ?_; simp [*])
    | (refine AWp.ret (post_ret1 rfl ?_); (simp_all [partsOk, partsN, noS, @eq_comm Int]; done))
    | (refine guardI (fun hq => ?_) (fun hq => ?_) <;> (try simp at hq) <;> (try simp [*]))
    | (refine condRunI (fun hq => ?_) (fun hq => ?_) <;> (try simp at hq) <;> (try simp [*]))
    | (refine iteI (fun hq => ?_) (fun hq => ?_) <;> (try simp [*])))
    by_cases k4 : inR k 4 8 = true
    · repeat' (first
    | refine AWp.seq ?_
    | (refine AWp.region allP (by kernel_rfl) ?_; simp [*])
    | (refine AWp.condG ?_; simp [*])
    | (refine AWp.skip ?_; try simp)
    | (refine AWp.exit ?_; try simp)
    | refine AWp.block ?_
    | (refine aop_call' (c_l3Parts _) ?_; simp [*])
    | (refine aop_call' (c_l1In _ _ _) ?_; simp [*])
    | (refine aop_call' (c_spec_NameOk _ hs) ?_; simp [*])
    | (refine AWp.ret (post_ret1 rfl ?_); (simp_all [partsOk, partsN, noS, @eq_comm Int]; done))
    | (refine guardI (fun hq => ?_) (fun hq => ?_) <;> (try simp at hq) <;> (try simp [*]))
    | (refine condRunI (fun hq => ?_) (fun hq => ?_) <;> (try simp at hq) <;> (try simp [*]))
    | (refine iteI (fun hq => ?_) (fun hq => ?_) <;> (try simp [*])))
    · repeat' (first
    | refine AWp.seq ?_
    | (refine AWp.region allP (by kernel_rfl) ?_; simp [*])
    | (refine AWp.condG ?_; simp [*])
    | (refine AWp.skip ?_; try simp)
    | (refine AWp.exit ?_; try simp)
    | refine AWp.block ?_
    | (refine aop_call' (c_l3Parts _) ?_; simp [*])
    | (refine aop_call' (c_l1In _ _ _) ?_; simp [*])
    | (refine aop_call' (c_spec_NameOk _ hs) ?_; simp [*])
    | (refine AWp.ret (post_ret1 rfl ?_); (simp_all [partsOk, partsN, noS, @eq_comm Int]; done))
    | (refine guardI (fun hq => ?_) (fun hq => ?_) <;> (try simp at hq) <;> (try simp [*]))
    | (refine condRunI (fun hq => ?_) (fun hq => ?_) <;> (try simp at hq) <;> (try simp [*]))
    | (refine iteI (fun hq => ?_) (fun hq => ?_) <;> (try simp [*])))
end Go.T
