/- Names: what the program and the reference compute. -/
import Derived.Test.YtjpgifmkikmbgaaD1
import Derived.Test.YtjpgifmkikmbgaaY0
namespace Go.T
open Go Go.Proofs
set_option maxRecDepth 10000
set_option linter.unusedSimpArgs false
theorem c_l1In (a b c : Int) : PCall Try.prog 30 [.int .i64 a, .int .i64 b, .int .i64 c] (.bool (inR a b c)) := by
  refine pcall_of Try.func30 (by kernel_rfl) rfl (by simp [Try.f30]) ?_
  (repeat refine AWp.seq ?_); refine AWp.region noP (by kernel_rfl) ?_
  simp
  (repeat refine AWp.seq ?_); refine AWp.region noP (by kernel_rfl) ?_
  by_cases h : b ≤ a
  · simp [h]
    exact AWp.ret (post_ret1 rfl (by simp [inR, h]))
  · simp [h]
    exact AWp.ret (post_ret1 rfl (by simp [inR, h]))
theorem c_inRange (a b c : Int) : PCall Try.prog 34 [.int .i64 a, .int .i64 b, .int .i64 c] (.bool (inR a b c)) := by
  refine pcall_of Try.func34 (by kernel_rfl) rfl (by simp [Try.f34]) ?_
  (repeat refine AWp.seq ?_); refine AWp.region noP (by kernel_rfl) ?_
  simp
  (repeat refine AWp.seq ?_); refine AWp.region noP (by kernel_rfl) ?_
  by_cases h : b ≤ a
  · simp [h]
    exact AWp.ret (post_ret1 rfl (by simp [inR, h]))
  · simp [h]
    exact AWp.ret (post_ret1 rfl (by simp [inR, h]))
theorem c_l2Small (c : UInt8) : PCall Try.prog 120 [.int .u8 c.toNat] (.bool (small c)) := by
  refine pcall_of Try.func120 (by kernel_rfl) rfl (by simp [Try.f120]) ?_
  (repeat refine AWp.seq ?_); refine AWp.region noP (by kernel_rfl) ?_
  simp
  (repeat refine AWp.seq ?_); refine AWp.region allP (by kernel_rfl) ?_
  have hw : IntKind.wrap .i64 (c.toNat : Int) = c.toNat := wrap64 (by omega) (by have := c.toNat_lt; omega)
  simp [hw]
  refine aop_call _ _ _ _ _ _ _ _ (c_l1In _ _ _) ?_
  simp
  exact AWp.ret (post_ret1 rfl (by simp [small]))
theorem c_isLetter (c : UInt8) : PCall Try.prog 123 [.int .u8 c.toNat] (.bool (small c)) := by
  refine pcall_of Try.func123 (by kernel_rfl) rfl (by simp [Try.f123]) ?_
  (repeat refine AWp.seq ?_); refine AWp.region noP (by kernel_rfl) ?_
  simp
  (repeat refine AWp.seq ?_); refine AWp.region noP (by kernel_rfl) ?_
  by_cases h : (97 : Int) ≤ c.toNat
  · simp [h]
    exact AWp.ret (post_ret1 rfl (by simp [inR, small, h]))
  · simp [h]
    exact AWp.ret (post_ret1 rfl (by simp [inR, small, h]))
theorem c_l2Has (l : List ByteArray) (s : ByteArray) (hl : l.length ≤ 9223372036854775806) : PCall Try.prog 131 [strs l, .str s] (.bool (has l s)) := by
  refine pcall_of Try.func131 (by kernel_rfl) rfl (by simp [Try.f131]) ?_
  (repeat refine AWp.seq ?_); refine AWp.region noP (by kernel_rfl) ?_
  simp
  (repeat refine AWp.seq ?_); refine AWp.region noP (by kernel_rfl) ?_
  simp
  (repeat refine AWp.seq ?_); refine AWp.block (AWp.rounds (fun n st => ∃ i : Nat, n = l.length - i ∧ i ≤ l.length ∧ st.slots 0 = strs l ∧ st.slots 1 = .str s ∧ st.slots 5 = .int .i64 i ∧ has l s = has (l.drop i) s) l.length ⟨0, by simp⟩ ?_)
  rintro R n st hR ⟨i, rfl, hi, h0, h1, h5, hr⟩
  (repeat refine AWp.seq ?_); refine AWp.region noP (by kernel_rfl) ?_
  simp [h0, h5, strs]
  refine AWp.cond (b := decide (i < l.length)) (by simp) (fun hb => ?_) (fun hb => ?_)
  · simp at hb
    have hg : l[i]? = some l[i] := List.getElem?_eq_getElem hb
    have hd : l.drop i = l[i] :: l.drop (i + 1) := List.drop_eq_getElem_cons hb
    refine AWp.skip ?_
    simp
    (repeat refine AWp.seq ?_); refine AWp.block ?_; (repeat refine AWp.seq ?_); refine AWp.region noP (by kernel_rfl) ?_
    have hx : idxA Try.prog st.mem 57 (.lst false 1 (List.map AV.str l)) (.int .i64 i) = some (.ref [.str l[i]]) := idx (y := .str l[i]) es_57 (by simp [hg])
    simp [h0, h1, h5, strs, hx]
    refine AWp.cond (b := decide (l[i] = s)) (by simp) (fun he => ?_) (fun he => ?_)
    · (repeat refine AWp.seq ?_); refine AWp.region noP (by kernel_rfl) ?_
      simp
      refine AWp.ret (post_ret1 rfl ?_)
      simp at he
      rw [hr, hd, has, List.any_cons]
      simp [he, has]
    · simp at he
      refine AWp.skip ?_
      simp
      refine AWp.region noP (by kernel_rfl) ?_
      have hw : IntKind.wrap .i64 ((i : Int) + 1) = (i + 1 : Nat) := wrap64 (by omega) (by omega)
      simp [h0, h1, h5, hw]
      refine hR _ (l.length - (i + 1)) (by omega) ⟨i + 1, rfl, hb, by simp [h0, strs], by simp [h1], by simp, ?_⟩
      rw [hr, hd, has, List.any_cons]
      simp [he, has]
  · simp at hb
    refine AWp.exit ?_
    simp
    (repeat refine AWp.seq ?_); refine AWp.region noP (by kernel_rfl) ?_
    simp
    refine AWp.ret (post_ret1 rfl ?_)
    have : i = l.length := by omega
    subst this
    simpa [has] using hr
theorem c_l2Kept (s : ByteArray) : PCall Try.prog 121 [.str s] (.bool (kept s)) := by
  refine pcall_of Try.func121 (by kernel_rfl) rfl (by simp [Try.f121]) ?_
  (repeat refine AWp.seq ?_); refine AWp.region noP (by kernel_rfl) ?_
  simp
  (repeat refine AWp.seq ?_); refine AWp.region allP (by kernel_rfl) ?_
  simp
  refine aop_call _ _ _ _ _ _ _ _ ((c_l2Has keptL s (by decide)).arg (.cons (Le.lst _ _ _) (.cons (Le.refl _) .nil))) ?_
  simp
  exact AWp.ret (post_ret1 rfl (by simp [kept]))
theorem c_isKept (s : ByteArray) : PCall Try.prog 124 [.str s] (.bool (kept s)) := by
  refine pcall_of Try.func124 (by kernel_rfl) rfl (by simp [Try.f124]) ?_
  (repeat refine AWp.seq ?_); refine AWp.region noP (by kernel_rfl) ?_
  simp
  (repeat refine AWp.seq ?_); refine AWp.region noP (by kernel_rfl) ?_
  simp
  (repeat refine AWp.seq ?_); refine AWp.block ?_
  (repeat refine AWp.seq ?_); refine AWp.region noP (by kernel_rfl) ?_
  simp
  refine AWp.cond (b := decide (s = ⟨#[97, 114, 114, 97, 121]⟩)) (by simp) (fun h => ?_) (fun h0 => ?_)
  · simp at h
    refine AWp.skip ?_
    simp
    refine AWp.cond (b := true) (by simp [h]) (fun _ => ?_) (fun h => by cases h)
    (repeat refine AWp.seq ?_); refine AWp.region noP (by kernel_rfl) ?_
    simp
    exact AWp.ret (post_ret1 rfl (by simp [kept, has, keptL, h]))
  simp at h0
  (repeat refine AWp.seq ?_); refine AWp.region noP (by kernel_rfl) ?_
  simp
  refine AWp.cond (b := decide (s = ⟨#[102, 111, 114]⟩)) (by simp) (fun h => ?_) (fun h1 => ?_)
  · simp at h
    refine AWp.skip ?_
    simp
    refine AWp.cond (b := true) (by simp [h]) (fun _ => ?_) (fun h => by cases h)
    (repeat refine AWp.seq ?_); refine AWp.region noP (by kernel_rfl) ?_
    simp
    exact AWp.ret (post_ret1 rfl (by simp [kept, has, keptL, h]))
  simp at h1
  (repeat refine AWp.seq ?_); refine AWp.region noP (by kernel_rfl) ?_
  simp
  refine AWp.cond (b := decide (s = ⟨#[116, 111]⟩)) (by simp) (fun h => ?_) (fun h2 => ?_)
  · simp at h
    refine AWp.skip ?_
    simp
    refine AWp.cond (b := true) (by simp [h]) (fun _ => ?_) (fun h => by cases h)
    (repeat refine AWp.seq ?_); refine AWp.region noP (by kernel_rfl) ?_
    simp
    exact AWp.ret (post_ret1 rfl (by simp [kept, has, keptL, h]))
  simp at h2
  (repeat refine AWp.seq ?_); refine AWp.region noP (by kernel_rfl) ?_
  simp
  refine AWp.cond (b := decide (s = ⟨#[112, 114, 105, 110, 116]⟩)) (by simp) (fun h => ?_) (fun h3 => ?_)
  · simp at h
    refine AWp.skip ?_
    simp
    refine AWp.cond (b := true) (by simp [h]) (fun _ => ?_) (fun h => by cases h)
    (repeat refine AWp.seq ?_); refine AWp.region noP (by kernel_rfl) ?_
    simp
    exact AWp.ret (post_ret1 rfl (by simp [kept, has, keptL, h]))
  simp at h3
  (repeat refine AWp.seq ?_); refine AWp.region noP (by kernel_rfl) ?_
  simp
  refine AWp.cond (b := decide (s = ⟨#[109, 105, 110]⟩)) (by simp) (fun h => ?_) (fun h4 => ?_)
  · simp at h
    refine AWp.skip ?_
    simp
    refine AWp.cond (b := true) (by simp [h]) (fun _ => ?_) (fun h => by cases h)
    (repeat refine AWp.seq ?_); refine AWp.region noP (by kernel_rfl) ?_
    simp
    exact AWp.ret (post_ret1 rfl (by simp [kept, has, keptL, h]))
  simp at h4
  (repeat refine AWp.seq ?_); refine AWp.region noP (by kernel_rfl) ?_
  simp
  refine AWp.cond (b := decide (s = ⟨#[109, 97, 120]⟩)) (by simp) (fun h => ?_) (fun h5 => ?_)
  · simp at h
    (repeat refine AWp.seq ?_); refine AWp.region noP (by kernel_rfl) ?_
    simp
    exact AWp.ret (post_ret1 rfl (by simp [kept, has, keptL, h]))
  · simp at h5
    refine AWp.skip ?_
    simp
    (repeat refine AWp.seq ?_); refine AWp.region noP (by kernel_rfl) ?_
    simp
    refine AWp.ret (post_ret1 rfl ?_)
    simp [kept, has, keptL]
    refine ⟨Ne.symm h0, Ne.symm h1, Ne.symm h2, Ne.symm h3, Ne.symm h4, Ne.symm h5⟩
theorem c_spec_NameOk (s : ByteArray) (hs : s.size ≤ 9223372036854775806) : PCall Try.prog 99 [.str s] (.bool (nameOk s)) := by
  refine pcall_of Try.func99 (by kernel_rfl) rfl (by simp [Try.f99]) ?_
  (repeat refine AWp.seq ?_); refine AWp.region noP (by kernel_rfl) ?_
  simp
  (repeat refine AWp.seq ?_); refine AWp.region noP (by kernel_rfl) ?_
  simp
  (repeat refine AWp.seq ?_); refine AWp.block (AWp.rounds (fun n st => ∃ i : Nat, n = s.size - i ∧ i ≤ s.size ∧ st.slots 0 = .str s ∧ st.slots 3 = .int .i64 i ∧ s.data.toList.all small = (s.data.toList.drop i).all small) s.size ⟨0, by simp⟩ ?_)
  rintro R n st hR ⟨i, rfl, hi, h0, h3, hr⟩
  (repeat refine AWp.seq ?_); refine AWp.region noP (by kernel_rfl) ?_
  simp [h0, h3]
  refine AWp.cond (b := decide (i < s.size)) (by simp) (fun hb => ?_) (fun hb => ?_)
  · simp at hb
    obtain ⟨b, hg, hd⟩ := all_drop hb small
    refine AWp.skip ?_
    simp
    (repeat refine AWp.seq ?_); refine AWp.block ?_; (repeat refine AWp.seq ?_); refine AWp.region allP (by kernel_rfl) ?_
    have hx : sidxA Try.prog 9 (.str s) (.int .i64 i) = some (.int .u8 b.toNat) := sidx un_9 hg
    simp [h0, h3, hx]
    refine aop_call _ _ _ _ _ _ _ _ (c_l2Small _) ?_
    simp
    refine AWp.cond (b := !small b) (by simp) (fun he => ?_) (fun he => ?_)
    · (repeat refine AWp.seq ?_); refine AWp.region noP (by kernel_rfl) ?_
      simp
      refine AWp.ret (post_ret1 rfl ?_)
      simp at he
      simp [nameOk, hr, hd, he]
    · simp at he
      refine AWp.skip ?_
      simp
      refine AWp.region noP (by kernel_rfl) ?_
      have hw : IntKind.wrap .i64 ((i : Int) + 1) = (i + 1 : Nat) := wrap64 (by omega) (by omega)
      simp [h0, h3, hw]
      refine hR _ (s.size - (i + 1)) (by omega) ⟨i + 1, rfl, hb, by simp [h0], by simp, ?_⟩
      rw [hr, hd, he, Bool.true_and]
  · simp at hb
    have : i = s.size := by omega
    subst this
    rw [drop_size] at hr
    refine AWp.exit ?_
    simp
    (repeat refine AWp.seq ?_); refine AWp.region allP (by kernel_rfl) ?_
    simp [h0]
    refine aop_call _ _ _ _ _ _ _ _ (c_l1In _ _ _) ?_
    cases h1 : inR (s.size : Int) 1 6
    · simp
      exact AWp.ret (post_ret1 rfl (by simp [nameOk, h1]))
    · simp [h0]
      refine aop_call _ _ _ _ _ _ _ _ (c_l2Kept _) ?_
      simp
      exact AWp.ret (post_ret1 rfl (by simp [nameOk, hr, h1]))
theorem c_impl_NameOk (s : ByteArray) (hs : s.size ≤ 9223372036854775806) : PCall Try.prog 104 [.str s] (.bool (nameOk s)) := by
  refine pcall_of Try.func104 (by kernel_rfl) rfl (by simp [Try.f104]) ?_
  (repeat refine AWp.seq ?_); refine AWp.region noP (by kernel_rfl) ?_
  simp
  (repeat refine AWp.seq ?_); refine AWp.region noP (by kernel_rfl) ?_
  simp
  (repeat refine AWp.seq ?_); refine AWp.block (AWp.rounds (fun n st => ∃ i : Nat, n = s.size - i ∧ i ≤ s.size ∧ st.slots 0 = .str s ∧ st.slots 3 = .int .i64 i ∧ s.data.toList.all small = (s.data.toList.drop i).all small) s.size ⟨0, by simp⟩ ?_)
  rintro R n st hR ⟨i, rfl, hi, h0, h3, hr⟩
  (repeat refine AWp.seq ?_); refine AWp.region noP (by kernel_rfl) ?_
  simp [h0, h3]
  refine AWp.cond (b := decide (i < s.size)) (by simp) (fun hb => ?_) (fun hb => ?_)
  · simp at hb
    obtain ⟨b, hg, hd⟩ := all_drop hb small
    refine AWp.skip ?_
    simp
    (repeat refine AWp.seq ?_); refine AWp.block ?_; (repeat refine AWp.seq ?_); refine AWp.region allP (by kernel_rfl) ?_
    have hx : sidxA Try.prog 9 (.str s) (.int .i64 i) = some (.int .u8 b.toNat) := sidx un_9 hg
    simp [h0, h3, hx]
    refine aop_call _ _ _ _ _ _ _ _ (c_isLetter _) ?_
    simp
    refine AWp.cond (b := !small b) (by simp) (fun he => ?_) (fun he => ?_)
    · (repeat refine AWp.seq ?_); refine AWp.region noP (by kernel_rfl) ?_
      simp
      refine AWp.ret (post_ret1 rfl ?_)
      simp at he
      simp [nameOk, hr, hd, he]
    · simp at he
      refine AWp.skip ?_
      simp
      refine AWp.region noP (by kernel_rfl) ?_
      have hw : IntKind.wrap .i64 ((i : Int) + 1) = (i + 1 : Nat) := wrap64 (by omega) (by omega)
      simp [h0, h3, hw]
      refine hR _ (s.size - (i + 1)) (by omega) ⟨i + 1, rfl, hb, by simp [h0], by simp, ?_⟩
      rw [hr, hd, he, Bool.true_and]
  · simp at hb
    have : i = s.size := by omega
    subst this
    rw [drop_size] at hr
    refine AWp.exit ?_
    simp
    (repeat refine AWp.seq ?_); refine AWp.region allP (by kernel_rfl) ?_
    simp [h0]
    refine aop_call _ _ _ _ _ _ _ _ (c_inRange _ _ _) ?_
    cases h1 : inR (s.size : Int) 1 6
    · simp
      exact AWp.ret (post_ret1 rfl (by simp [nameOk, h1]))
    · simp [h0]
      refine aop_call _ _ _ _ _ _ _ _ (c_isKept _) ?_
      simp
      exact AWp.ret (post_ret1 rfl (by simp [nameOk, hr, h1]))
end Go.T
