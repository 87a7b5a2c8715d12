/- Figures; numbers read. One token. One token: the reference's hand. A text cut into tokens. -/
import Derived.Test.YtdbnllfjmkmdiaaGreatDoorG4
import Derived.Test.YtdbnllfjmkmdiaaGreatDoorG10
import Derived.Shelf.Strings.Search3
import Derived.Test.YtdbnllfjmkmdiaaGreatDoorG5
set_option linter.unusedSimpArgs false
set_option linter.unusedVariables false
namespace Go.Proofs
open Go.Shelf
shelf_lay Lays.n144 Nm 144 at Tryz as Tryz.laysContains -- 113
end Go.Proofs
namespace Go.T
open Go Go.Proofs
set_option maxRecDepth 10000
set_option maxHeartbeats 1000000
open Go Go.Sort Go.Shelf
theorem c_sContains (s : ByteArray) (c : UInt8) : PCall Tryz.prog 113 [.str s, .str ⟨#[c]⟩] (.bool (s.data.toList.contains c)) :=
 ⟨⟨Tryz.f113, Tryz.func113, by kernel_rfl, by kernel_rfl⟩, fun w S cargs m hm hr => by
  cases hr with
  | cons h1 hr =>
   cases hr with
   | cons h2 hr =>
    cases hr
    cases h1
    cases h2
    refine calls_mono (Any.strings_Contains_one Tryz.laysContains s c w) fun e w' ⟨he, hw⟩ => ?_
    subst hw
    rw [← marks_has]
    exact ⟨_, S, he, fun _ h => h, fun _ h => .inl h, hm, .bool _, Keep.refl _ _⟩⟩
theorem c_isFigure (c : UInt8) : PCall Tryz.prog 111 [.int .u8 c.toNat] (.bool (figure c)) := by
 refine pcall_of Tryz.func111 (by kernel_rfl) rfl (by simp [Tryz.f111]) ?_
 (repeat refine sqA ?_); refine rgA (by kernel_rfl) ?_
 simp
 (repeat refine sqA ?_); refine rgA (by kernel_rfl) ?_
 by_cases h : (48 : Int) ≤ c.toNat
 ·simp [h]
  exact AWp.ret (post_ret1 rfl (by simp [inR, figure, h]))
 ·simp [h]
  exact AWp.ret (post_ret1 rfl (by simp [inR, figure, h]))
theorem c_l2Digit (c : UInt8) : PCall Tryz.prog 159 [.int .u8 c.toNat] (.bool (figure c)) := by
 refine pcall_of Tryz.func159 (by kernel_rfl) rfl (by simp [Tryz.f159]) ?_
 (repeat refine sqA ?_); refine rgA (by kernel_rfl) ?_
 simp
 (repeat refine sqA ?_); refine AWp.region allP (by kernel_rfl) ?_
 have hw : IntKind.wrap .i64 (c.toNat : Int) = c.toNat := wrap64 (by omega) (by have := c.toNat_lt; omega)
 simp [hw]
 refine aop_call _ _ _ _ _ _ _ _ (c_l1In _ _ _) ?_
 simp
 exact AWp.ret (post_ret1 rfl (by simp [figure]))
theorem all_take {L : List UInt8} {f : UInt8 → Bool} {i : Nat} (h : i < L.length) (ha : (L.take i).all f = true) (hf : f L[i] = true) : (L.take (i + 1)).all f = true := by
 rw [List.take_succ_eq_append_getElem h, List.all_append, ha]
 simp [hf]
theorem val_take {L : List UInt8} {i : Nat} (h : i < L.length) : valD (L.take (i + 1)) = valD (L.take i) * 10 + (L[i].toNat - 48) := by
 rw [List.take_succ_eq_append_getElem h, valD_snoc]
theorem not_all {L : List UInt8} {f : UInt8 → Bool} {i : Nat} (h : i < L.length) (hf : f L[i] = false) : L.all f = false := by
 rw [Bool.eq_false_iff]
 intro ha
 rw [List.all_eq_true] at ha
 rw [ha _ (List.getElem_mem h)] at hf
 cases hf
theorem pow10_le {k n : Nat} (h : k ≤ n) : 10 ^ k ≤ 10 ^ n := Nat.pow_le_pow_right (by omega) h
theorem c_impl_ParseNum (s : ByteArray) {T : TypeId} {m : Mem} (hm : m TB = some (tabBlk T)) {K : AV → Mem → Prop} (hK : K (.tup [.int .i64 ((numD s.data.toList).getD 0), .bool (numD s.data.toList).isSome]) m) : WCall Tryz.prog 112 [.str s] m K := by
 have hsz := size_list s
 generalize hL : s.data.toList = L at *
 refine wcall_of Tryz.func112 (by kernel_rfl) rfl (by simp [Tryz.f112]) ?_
 (repeat refine sqA ?_); refine rgA (by kernel_rfl) ?_
 try simp
 (repeat refine sqA ?_); refine rgA (by kernel_rfl) ?_
 simp
 refine aop_call' (c_inRange s.size 1 10) ?_
 simp
 have fail : ∀ st : St, numD L = none → st.slots 2 = .int .i64 0 → st.slots 3 = .bool false → st.mem = m → Post Tryz.prog Tryz.f112 K .ret st := fun st hn s2 s3 sm => by
  rw [hn] at hK
  exact ⟨[.int .i64 0, .bool false], _, m, by simp [Tryz.f112, resA, s2, s3], by rw [sm]; exact View.refl _ _, hK⟩
 by_cases hin : 1 ≤ L.length ∧ L.length ≤ 10
 rotate_left
 ·have hi2 : inR s.size 1 10 = false := by simp [inR]; omega
  (repeat refine sqA ?_); refine AWp.condT (by simp [hi2]) ?_
  (repeat refine sqA ?_); refine rgA (by kernel_rfl) ?_
  simp
  refine AWp.ret (fail _ ?_ (by simp) (by simp) (by simp))
  unfold numD
  rw [if_neg]
  intro h
  apply hin
  refine ⟨?_, h.1⟩
  have := h.2.1
  cases L with
  | nil => exact absurd rfl this
  | cons c l => simp
 have hi2 : inR s.size 1 10 = true := by simp [inR]; omega
 have hne : L ≠ [] := by rintro rfl; simp at hin
 (repeat refine sqA ?_); refine AWp.condF (by simp [hi2]) ?_
 refine AWp.skip ?_
 try simp
 (repeat refine sqA ?_); refine rgA (by kernel_rfl) ?_
 simp
 (repeat refine sqA ?_); refine rgA (by kernel_rfl) ?_
 simp
 obtain ⟨M, hM⟩ : ∃ M : St → Prop, M = (fun st => L.all figure = true ∧ st.slots 0 = .str s ∧ st.slots 4 = .int .i64 (valD L : Nat) ∧ st.mem = m) := ⟨_, rfl⟩
 refine AWp.cutA M ?_ ?_
 ·refine AWp.block (AWp.rounds (fun q st => ∃ i : Nat, q = L.length - i ∧ i ≤ L.length ∧ (L.take i).all figure = true ∧ st.slots 0 = .str s ∧ st.slots 4 = .int .i64 (valD (L.take i) : Nat) ∧ st.slots 5 = .int .i64 i ∧ st.mem = m) L.length ⟨0, by simp, by simp, by simp, by simp, by simp [valD], by simp, by simp⟩ ?_)
  rintro RR q st hRR ⟨i, rfl, hi, ha, s0, s4, s5, sm⟩
  by_cases hb : i < L.length
  ·have hget : s.data.toList[i]? = some L[i] := by rw [hL]; exact List.getElem?_eq_getElem hb
   have hx : sidxA Tryz.prog 9 (.str s) (.int .i64 i) = some (.int .u8 L[i].toNat) := sidx Tryz.underlying9 hget
   have hlt : (i : Int) < s.size := by omega
   have hw : IntKind.wrap .i64 ((i : Int) + 1) = (i + 1 : Nat) := wrap64 (by omega) (by omega)
   (repeat refine sqA ?_); refine rgA (by kernel_rfl) ?_
   simp [s0, s5, hlt]
   (repeat refine sqA ?_); refine AWp.condT (by simp) ?_
   refine AWp.skip ?_
   try simp
   (repeat refine sqA ?_); refine AWp.block ?_
   (repeat refine sqA ?_); refine rgA (by kernel_rfl) ?_
   simp [s0, s5, hx]
   by_cases hf : figure L[i] = true
   ·have hf2 := figure_le hf
    have h1 : ¬ ((L[i].toNat : Int) < 48) := by omega
    have h2 : ¬ ((57 : Int) < L[i].toNat) := by omega
    have hv := valD_lt _ ha
    have hp := pow10_le (show (L.take i).length ≤ 9 by simp; omega)
    have hw8 : IntKind.wrap .u8 ((L[i].toNat : Int) - 48) = ((L[i].toNat - 48 : Nat) : Int) := by rw [IntKind.wrap_u8]; omega
    have hwc : IntKind.wrap .i64 ((L[i].toNat - 48 : Nat) : Int) = ((L[i].toNat - 48 : Nat) : Int) := wrap64 (by omega) (by omega)
    have hw1 : IntKind.wrap .i64 ((valD (L.take i) : Int) * 10) = (valD (L.take i) : Int) * 10 := wrap64 (by omega) (by omega)
    have hw2 : IntKind.wrap .i64 ((valD (L.take i) : Int) * 10 + ((L[i].toNat - 48 : Nat) : Int)) = (valD (L.take (i + 1)) : Nat) := by rw [val_take hb, wrap64 (by omega) (by omega)]; push_cast; omega
    simp [h1, h2]
    (repeat refine sqA ?_); refine AWp.condF (by simp) ?_
    refine AWp.skip ?_
    try simp
    (repeat refine sqA ?_); refine rgA (by kernel_rfl) ?_
    simp [s0, s4, s5, hx, hw8, hwc, hw1, hw2]
    (repeat refine sqA ?_); refine rgA (by kernel_rfl) ?_
    simp [s5, hw]
    exact hRR _ (L.length - (i + 1)) (by omega) ⟨i + 1, rfl, by omega, all_take hb ha hf, by simp [s0], by simp, by simp, by simp [sm]⟩
   ·have hf : figure L[i] = false := by simpa using hf
    have hn : numD L = none := by
     unfold numD
     rw [if_neg]
     intro h
     rw [not_all hb hf] at h
     exact absurd h.2.2.1 (by simp)
    have h3 : (L[i].toNat : Int) < 48 ∨ (57 : Int) < L[i].toNat := by
     unfold figure inR at hf
     simp at hf
     omega
    by_cases h1 : (L[i].toNat : Int) < 48
    ·simp [h1]
     (repeat refine sqA ?_); refine AWp.condT (by simp) ?_
     (repeat refine sqA ?_); refine rgA (by kernel_rfl) ?_
     simp
     exact AWp.ret (fail _ hn (by simp) (by simp) (by simp [sm]))
    ·have h2 := h3.resolve_left h1
     simp [h1, h2]
     (repeat refine sqA ?_); refine AWp.condT (by simp) ?_
     (repeat refine sqA ?_); refine rgA (by kernel_rfl) ?_
     simp
     exact AWp.ret (fail _ hn (by simp) (by simp) (by simp [sm]))
  ·have : i = L.length := by omega
   subst this
   have hlt : ¬ ((L.length : Int) < s.size) := by omega
   (repeat refine sqA ?_); refine rgA (by kernel_rfl) ?_
   simp [s0, s5, hlt]
   (repeat refine sqA ?_); refine AWp.condF (by simp) ?_
   refine AWp.exit ?_
   rw [List.take_length] at ha s4
   subst hM
   exact ⟨ha, by simp [s0], by simp [s4], by simp [sm]⟩
 intro st hst
 subst hM
 obtain ⟨ha, s0, s4, sm⟩ := hst
 have hv := valD_lt _ ha
 have hp := pow10_le hin.2
 have hnb := numB_iff hne ha
 have hs2 : s = ⟨L.toArray⟩ := by rw [← hL]
 (repeat refine sqA ?_); refine rgA (by kernel_rfl) ?_
 simp [s0, s4]
 refine aop_wcall _ _ _ _ _ _ _ _ rfl (eval_func _ _) ?_
 simp [sm]
 refine c_impl_NumText (valD L : Nat) (by omega) (by omega) hm ?_
 try simp
 by_cases hh : L.length = 1 ∨ L.head? ≠ some 48
 ·have e1 : numB (valD L : Nat) = s := by rw [hs2]; exact hnb.2 hh
  simp [e1, s4, s0]
  refine aop_call' (c_isWord (valD L : Nat)) ?_
  simp
  by_cases hmx : valD L ≤ 2147483647
  ·have hwd : isWd (valD L : Nat) = true := by unfold isWd inR; simp; omega
   simp [hwd]
   (repeat refine sqA ?_); refine AWp.condF (by simp) ?_
   refine AWp.skip ?_
   try simp
   (repeat refine sqA ?_); refine rgA (by kernel_rfl) ?_
   simp [s4]
   refine AWp.ret ?_
   have hn : numD L = some ((valD L : Nat) : Int) := by unfold numD; rw [if_pos ⟨hin.2, hne, ha, hh, hmx⟩]
   rw [hn] at hK
   exact ⟨[.int .i64 (valD L : Nat), .bool true], _, m, by simp [Tryz.f112, resA, s4], by simp [sm]; exact View.refl _ _, hK⟩
  ·have hwd : isWd (valD L : Nat) = false := by unfold isWd inR; simp; omega
   simp [hwd]
   (repeat refine sqA ?_); refine AWp.condT (by simp) ?_
   (repeat refine sqA ?_); refine rgA (by kernel_rfl) ?_
   simp
   exact AWp.ret (fail _ (by unfold numD; rw [if_neg (fun h => hmx h.2.2.2.2)]) (by simp) (by simp) (by simp [sm]))
 ·have e1 : ¬ numB (valD L : Nat) = s := by rw [hs2]; exact fun e => hh (hnb.1 e)
  simp [e1, s0]
  (repeat refine sqA ?_); refine AWp.condT (by simp) ?_
  (repeat refine sqA ?_); refine rgA (by kernel_rfl) ?_
  simp
  exact AWp.ret (fail _ (by unfold numD; rw [if_neg (fun h => hh h.2.2.2.1)]) (by simp) (by simp) (by simp [sm]))
theorem c_spec_ParseNum (s : ByteArray) (hz : s.size ≤ 1048576) : PCall Tryz.prog 160 [.str s] (.tup [.int .i64 ((numD s.data.toList).getD 0), .bool (numD s.data.toList).isSome]) := by
 have hsz := size_list s
 generalize hL : s.data.toList = L at *
 refine pcall_of Tryz.func160 (by kernel_rfl) rfl (by simp [Tryz.f160]) ?_
 (repeat refine sqA ?_); refine rgA (by kernel_rfl) ?_
 try simp
 (repeat refine sqA ?_); refine rgA (by kernel_rfl) ?_
 try simp
 (repeat refine sqA ?_); refine rgA (by kernel_rfl) ?_
 simp
 have fail : ∀ st : St, numD L = none → st.slots 2 = .int .i64 0 → st.slots 3 = .bool false → Post Tryz.prog Tryz.f160 (fun r _ => r = .tup [.int .i64 ((numD L).getD 0), .bool (numD L).isSome]) .ret st := fun st hn s2 s3 => by
  rw [hn]
  exact post_ret2 rfl s2 s3
 obtain ⟨M, hM⟩ : ∃ M : St → Prop, M = (fun st => ∃ i : Nat, (i = L.length ∨ i = 11) ∧ i ≤ L.length ∧ i ≤ 11 ∧ (L.take i).all figure = true ∧ st.slots 0 = .str s ∧ st.slots 4 = .int .i64 (valD (L.take i) : Nat)) := ⟨_, rfl⟩
 refine AWp.cutA M ?_ ?_
 ·refine AWp.block (AWp.rounds (fun q st => ∃ i : Nat, q = L.length - i ∧ i ≤ L.length ∧ i ≤ 11 ∧ (L.take i).all figure = true ∧ st.slots 0 = .str s ∧ st.slots 4 = .int .i64 (valD (L.take i) : Nat) ∧ st.slots 5 = .int .i64 i) L.length ⟨0, by simp, by simp, by simp, by simp, by simp, by simp [valD], by simp⟩ ?_)
  rintro RR q st hRR ⟨i, rfl, hi, h11, ha, s0, s4, s5⟩
  by_cases hb : i < L.length
  ·have hget : s.data.toList[i]? = some L[i] := by rw [hL]; exact List.getElem?_eq_getElem hb
   have hx : sidxA Tryz.prog 9 (.str s) (.int .i64 i) = some (.int .u8 L[i].toNat) := sidx Tryz.underlying9 hget
   have hlt : (i : Int) < s.size := by omega
   have hw : IntKind.wrap .i64 ((i : Int) + 1) = (i + 1 : Nat) := wrap64 (by omega) (by omega)
   by_cases hl11 : i < 11
   ·have hl : (i : Int) < 11 := by omega
    (repeat refine sqA ?_); refine rgA (by kernel_rfl) ?_
    simp [s0, s5, hlt, hl]
    (repeat refine sqA ?_); refine AWp.condT (by simp) ?_
    refine AWp.skip ?_
    try simp
    (repeat refine sqA ?_); refine AWp.block ?_
    have hwx : IntKind.wrap .i64 (L[i].toNat : Int) = (L[i].toNat : Int) := wrap64 (by omega) (by have := L[i].toNat_lt; omega)
    (repeat refine sqA ?_); refine rgA (by kernel_rfl) ?_
    simp [s0, s5, hx, hwx]
    refine aop_call' (c_l1In L[i].toNat 48 57) ?_
    have hfe : inR L[i].toNat 48 57 = figure L[i] := rfl
    simp [hfe]
    by_cases hf : figure L[i] = true
    ·have hf2 := figure_le hf
     have hv := valD_lt _ ha
     have hp := pow10_le (show (L.take i).length ≤ 10 by simp; omega)
     have hw8 : IntKind.wrap .u8 ((L[i].toNat : Int) - 48) = ((L[i].toNat - 48 : Nat) : Int) := by rw [IntKind.wrap_u8]; omega
     have hwc : IntKind.wrap .i64 ((L[i].toNat - 48 : Nat) : Int) = ((L[i].toNat - 48 : Nat) : Int) := wrap64 (by omega) (by omega)
     have hw1 : IntKind.wrap .i64 ((valD (L.take i) : Int) * 10) = (valD (L.take i) : Int) * 10 := wrap64 (by omega) (by omega)
     have hw2 : IntKind.wrap .i64 ((valD (L.take i) : Int) * 10 + ((L[i].toNat - 48 : Nat) : Int)) = (valD (L.take (i + 1)) : Nat) := by rw [val_take hb, wrap64 (by omega) (by omega)]; push_cast; omega
     (repeat refine sqA ?_); refine AWp.condF (by simp [hf]) ?_
     refine AWp.skip ?_
     try simp
     (repeat refine sqA ?_); refine rgA (by kernel_rfl) ?_
     simp [s0, s4, s5, hx, hw8, hwc, hw1, hw2]
     (repeat refine sqA ?_); refine rgA (by kernel_rfl) ?_
     simp [s5, hw]
     exact hRR _ (L.length - (i + 1)) (by omega) ⟨i + 1, rfl, by omega, by omega, all_take hb ha hf, by simp [s0], by simp, by simp⟩
    ·have hf : figure L[i] = false := by simpa using hf
     have hn : numD L = none := by
      unfold numD
      rw [if_neg]
      intro h
      rw [not_all hb hf] at h
      exact absurd h.2.2.1 (by simp)
     (repeat refine sqA ?_); refine AWp.condT (by simp [hf]) ?_
     (repeat refine sqA ?_); refine rgA (by kernel_rfl) ?_
     simp
     exact AWp.ret (fail _ hn (by simp) (by simp))
   ·have hl : ¬ ((i : Int) < 11) := by omega
    (repeat refine sqA ?_); refine rgA (by kernel_rfl) ?_
    simp [s0, s5, hlt, hl]
    (repeat refine sqA ?_); refine AWp.condF (by simp) ?_
    refine AWp.exit ?_
    subst hM
    exact ⟨i, .inr (by omega), hi, h11, ha, by simp [s0], by simp [s4]⟩
  ·have : i = L.length := by omega
   have hlt : ¬ ((i : Int) < s.size) := by omega
   (repeat refine sqA ?_); refine rgA (by kernel_rfl) ?_
   simp [s0, s5, hlt]
   (repeat refine sqA ?_); refine AWp.condF (by simp) ?_
   refine AWp.exit ?_
   subst hM
   exact ⟨i, .inl this, hi, h11, ha, by simp [s0], by simp [s4]⟩
 intro st hst
 subst hM
 obtain ⟨i, hie, hi, h11, ha, s0, s4⟩ := hst
 (repeat refine sqA ?_); refine rgA (by kernel_rfl) ?_
 simp [s0]
 refine aop_call' (c_l1In s.size 1 10) ?_
 simp
 by_cases hin : 1 ≤ L.length ∧ L.length ≤ 10
 rotate_left
 ·have hi2 : inR s.size 1 10 = false := by simp [inR]; omega
  simp [hi2]
  (repeat refine sqA ?_); refine AWp.condT (by simp) ?_
  (repeat refine sqA ?_); refine rgA (by kernel_rfl) ?_
  simp
  refine AWp.ret (fail _ ?_ (by simp) (by simp))
  unfold numD
  rw [if_neg]
  intro h
  apply hin
  refine ⟨?_, h.1⟩
  have := h.2.1
  cases L with
  | nil => exact absurd rfl this
  | cons c l => simp
 have hi2 : inR s.size 1 10 = true := by simp [inR]; omega
 have hne : L ≠ [] := by rintro rfl; simp at hin
 have hil : i = L.length := by omega
 subst hil
 rw [List.take_length] at ha s4
 simp [hi2, s0]
 have hx0 : sidxA Tryz.prog 9 (.str s) (.int .i64 ((0 : Nat) : Int)) = some (.int .u8 (L[0]'(by omega)).toNat) := sidx Tryz.underlying9 (by rw [hL]; exact List.getElem?_eq_getElem (by omega))
 simp only [Int.natCast_zero] at hx0
 have hh0 : L.head? = some (L[0]'(by omega)) := by rw [List.head?_eq_getElem?]; exact List.getElem?_eq_getElem (by omega)
 have ok : ∀ st : St, (L.length = 1 ∨ L.head? ≠ some 48) → valD L ≤ 2147483647 → st.slots 2 = .int .i64 (valD L : Nat) → st.slots 3 = .bool true → Post Tryz.prog Tryz.f160 (fun r _ => r = .tup [.int .i64 ((numD L).getD 0), .bool (numD L).isSome]) .ret st := fun st h1 h2 s2 s3 => by
  have hn : numD L = some ((valD L : Nat) : Int) := by unfold numD; rw [if_pos ⟨hin.2, hne, ha, h1, h2⟩]
  rw [hn]
  exact post_ret2 rfl s2 s3
 have tail : ∀ st : St, (L.length = 1 ∨ L.head? ≠ some 48) → (valD L ≤ 2147483647 → Post Tryz.prog Tryz.f160 (fun r _ => r = .tup [.int .i64 ((numD L).getD 0), .bool (numD L).isSome]) .ret st) → True := fun _ _ _ => trivial
 by_cases h1 : L.length = 1
 ·have hs1 : ¬ ((1 : Int) < s.size) := by omega
  simp [hs1, s4]
  by_cases hmx : valD L ≤ 2147483647
  ·have hm2 : ¬ ((2147483647 : Int) < (valD L : Nat)) := by omega
   simp [hm2]
   (repeat refine sqA ?_); refine AWp.condF (by simp) ?_
   refine AWp.skip ?_
   try simp
   (repeat refine sqA ?_); refine rgA (by kernel_rfl) ?_
   simp [s4]
   exact AWp.ret (ok _ (.inl h1) hmx (by simp) (by simp))
  ·have hm2 : (2147483647 : Int) < (valD L : Nat) := by omega
   simp [hm2]
   (repeat refine sqA ?_); refine AWp.condT (by simp) ?_
   (repeat refine sqA ?_); refine rgA (by kernel_rfl) ?_
   simp
   exact AWp.ret (fail _ (by unfold numD; rw [if_neg (fun h => hmx h.2.2.2.2)]) (by simp) (by simp))
 ·have hs1 : (1 : Int) < s.size := by omega
  simp [hs1, s0, hx0]
  by_cases h48 : L[0]'(by omega) = 48
  ·have e48 : ((L[0]'(by omega)).toNat : Int) = 48 := by rw [h48]; rfl
   simp [e48]
   (repeat refine sqA ?_); refine AWp.condT (by simp) ?_
   (repeat refine sqA ?_); refine rgA (by kernel_rfl) ?_
   simp
   refine AWp.ret (fail _ ?_ (by simp) (by simp))
   unfold numD
   rw [if_neg]
   intro h
   rcases h.2.2.2.1 with h | h
   ·exact h1 h
   ·rw [hh0, h48] at h; exact h rfl
  ·have e48 : ¬ ((L[0]'(by omega)).toNat : Int) = 48 := by
    intro e
    apply h48
    apply UInt8.toNat_inj.1
    have : (48 : UInt8).toNat = 48 := rfl
    omega
   simp [e48, s4]
   have hhd : L.head? ≠ some 48 := by rw [hh0]; intro e; exact h48 (Option.some.inj e)
   by_cases hmx : valD L ≤ 2147483647
   ·have hm2 : ¬ ((2147483647 : Int) < (valD L : Nat)) := by omega
    simp [hm2]
    (repeat refine sqA ?_); refine AWp.condF (by simp) ?_
    refine AWp.skip ?_
    try simp
    (repeat refine sqA ?_); refine rgA (by kernel_rfl) ?_
    simp [s4]
    exact AWp.ret (ok _ (.inr hhd) hmx (by simp) (by simp))
   ·have hm2 : (2147483647 : Int) < (valD L : Nat) := by omega
    simp [hm2]
    (repeat refine sqA ?_); refine AWp.condT (by simp) ?_
    (repeat refine sqA ?_); refine rgA (by kernel_rfl) ?_
    simp
    exact AWp.ret (fail _ (by unfold numD; rw [if_neg (fun h => hmx h.2.2.2.2)]) (by simp) (by simp))
end Go.T
namespace Go.T
open Go Go.Proofs
set_option maxRecDepth 10000
set_option maxHeartbeats 1000000
open Go
theorem c_runOf (want : UInt8 → Bool) (fn : FuncId) (hw : ∀ c : UInt8, PCall Tryz.prog fn [.int .u8 c.toNat] (.bool (want c))) (s : ByteArray) (hz : s.size ≤ 1048576) : PCall Tryz.prog 107 [.str s, .func (.func fn) []] (.str ⟨(s.data.toList.takeWhile want).toArray⟩) := by
 have hsz := size_list s
 generalize hL : s.data.toList = L at *
 refine pcall_of Tryz.func107 (by kernel_rfl) rfl (by simp [Tryz.f107]) ?_
 (repeat refine sqA ?_); refine rgA (by kernel_rfl) ?_
 try simp
 (repeat refine sqA ?_); refine rgA (by kernel_rfl) ?_
 simp
 obtain ⟨M, hM⟩ : ∃ M : St → Prop, M = (fun st => ∃ i : Nat, i ≤ L.length ∧ L.take i = L.takeWhile want ∧ st.slots 0 = .str s ∧ st.slots 5 = .int .i64 i) := ⟨_, rfl⟩
 (repeat refine sqA ?_); refine AWp.cutA M ?_ ?_
 ·refine AWp.block (AWp.rounds (fun q st => ∃ i : Nat, q = L.length - i ∧ i ≤ L.length ∧ (∀ x ∈ L.take i, want x = true) ∧ st.slots 0 = .str s ∧ st.slots 1 = .func (.func fn) [] ∧ st.slots 5 = .int .i64 i) L.length ⟨0, by simp, by simp, by simp, by simp, by simp, by simp⟩ ?_)
  rintro RR q st hRR ⟨i, rfl, hi, ha, s0, s1, s5⟩
  have htk := takeW_append want L i ha
  by_cases hb : i < L.length
  ·have hget : s.data.toList[i]? = some L[i] := by rw [hL]; exact List.getElem?_eq_getElem hb
   have hx : sidxA Tryz.prog 9 (.str s) (.int .i64 i) = some (.int .u8 L[i].toNat) := sidx Tryz.underlying9 hget
   have hlt : (i : Int) < s.size := by omega
   have hwr : IntKind.wrap .i64 ((i : Int) + 1) = (i + 1 : Nat) := wrap64 (by omega) (by omega)
   have hdr : L.drop i = L[i] :: L.drop (i + 1) := List.drop_eq_getElem_cons hb
   (repeat refine sqA ?_); refine rgA (by kernel_rfl) ?_
   simp [s0, s1, s5, hlt, hx]
   refine aop_wcall _ _ _ _ _ _ _ _ rfl (show _ = AV.func (.func fn) [] by simp) ?_
   try simp
   refine (hw L[i]).w ?_
   try simp
   by_cases hf : want L[i] = true
   ·(repeat refine sqA ?_); refine AWp.condT (by simp [hf]) ?_
    refine AWp.skip ?_
    try simp
    (repeat refine sqA ?_); refine AWp.block ?_
    (repeat refine sqA ?_); refine rgA (by kernel_rfl) ?_
    simp [s5, hwr]
    refine hRR _ (L.length - (i + 1)) (by omega) ⟨i + 1, rfl, by omega, ?_, by simp [s0], by simp [s1], by simp⟩
    intro x hx
    rw [List.take_succ_eq_append_getElem hb] at hx
    rcases List.mem_append.1 hx with hx | hx
    ·exact ha x hx
    ·simp at hx; rw [hx]; exact hf
   ·have hf : want L[i] = false := by simpa using hf
    (repeat refine sqA ?_); refine AWp.condF (by simp [hf]) ?_
    refine AWp.exit ?_
    subst hM
    refine ⟨i, hi, ?_, by simp [s0], by simp [s5]⟩
    rw [htk, hdr, List.takeWhile_cons]
    simp [hf]
  ·have : i = L.length := by omega
   subst this
   have hlt : ¬ ((L.length : Int) < s.size) := by omega
   (repeat refine sqA ?_); refine rgA (by kernel_rfl) ?_
   simp [s0, s5, hlt]
   (repeat refine sqA ?_); refine AWp.condF (by simp) ?_
   refine AWp.exit ?_
   subst hM
   refine ⟨L.length, hi, ?_, by simp [s0], by simp [s5]⟩
   rw [htk, List.drop_length]
   simp
 intro st hst
 subst hM
 obtain ⟨i, hi, ht, s0, s5⟩ := hst
 have hsl : sliceA Tryz.prog 9 (.str s) none (some (.int .i64 i)) = some (.str (s.extract 0 i)) := by
  have h1 : ¬ ((i : Int) < 0) := by omega
  have h2 : i ≤ s.size := by omega
  unfold sliceA
  simp only [Tryz.underlying9, boundA, h1, if_false, Int.toNat_natCast, h2, if_true]
 (repeat refine sqA ?_); refine rgA (by kernel_rfl) ?_
 simp [s0, s5, hsl]
 refine AWp.ret (post_ret1 rfl ?_)
 simp [extract_list, hL, ht]
theorem Mem.ext_box {m : Mem} {g : Nat} (hg : m g = none) (cs : List AV) : ∀ k b, m k = some b → (m.set g (.box cs)) k = some b := fun k b hk => by
 rw [Mem.set_other]
 ·exact hk
 ·rintro rfl; rw [hg] at hk; cases hk
theorem takeW_nil {c : UInt8} {l : List UInt8} {p : UInt8 → Bool} (h : p c = false) : (c :: l).takeWhile p = [] := by simp [List.takeWhile_cons, h]
theorem takeW_cons {c : UInt8} {l : List UInt8} {p : UInt8 → Bool} (h : p c = true) : (c :: l).takeWhile p ≠ [] := by simp [List.takeWhile_cons, h]
theorem drop_len (p : UInt8 → Bool) (L : List UInt8) : (L.length : Int) - ((L.dropWhile p).length : Int) = ((L.takeWhile p).length : Int) := by
 have h1 := congrArg List.length (List.takeWhile_append_dropWhile (p := p) (l := L))
 rw [List.length_append] at h1
 omega
theorem takeW_le (p : UInt8 → Bool) (L : List UInt8) : (L.takeWhile p).length ≤ L.length := by
 have h1 := congrArg List.length (List.takeWhile_append_dropWhile (p := p) (l := L))
 rw [List.length_append] at h1
 omega
theorem mk_ne {l : List UInt8} (h : l ≠ []) : (⟨l.toArray⟩ : ByteArray) ≠ ByteArray.empty := fun e => h (by
 have := congrArg (fun x : ByteArray => x.data.toList) e
 simpa using this)
theorem c_tokOf (c : UInt8) (l : List UInt8) (hz : (c :: l).length ≤ 1048576) {T : TypeId} {m : Mem} (hm : m TB = some (tabBlk T)) {K : AV → Mem → Prop}
  (hK : ∀ (k : Int) (s : ByteArray) (n z : Int), (∀ t r, tokD (c :: l) = some (t, r) → t = ⟨k, s, n⟩ ∧ z = ((c :: l).length : Int) - (r.length : Int)) → K (.tup [.agg [.int .i64 k, .str s, .int .i64 n], .int .i64 z, .bool (tokD (c :: l)).isSome]) m) : WCall Tryz.prog 51 [.str ⟨(c :: l).toArray⟩] m K := by
 generalize hL : c :: l = L at *
 have crL := c_runOf small 108 c_isLetter ⟨L.toArray⟩ (by rw [size_mk]; exact hz)
 have crF := c_runOf figure 111 c_isFigure ⟨L.toArray⟩ (by rw [size_mk]; exact hz)
 rw [list_mk] at crL crF
 have eE : ByteArray.empty = (⟨#[]⟩ : ByteArray) := rfl
 have htw := takeW_le small L
 have htf := takeW_le figure L
 refine wcall_of Tryz.func51 (by kernel_rfl) rfl (by simp [Tryz.f51]) ?_
 (repeat refine sqA ?_); refine rgA (by kernel_rfl) ?_
 simp
 intro g hg
 have hE := Mem.ext_box hg
 have hmg : ∀ cs, (m.set g (.box cs)) TB = some (tabBlk T) := fun cs => hE cs _ _ hm
 (repeat refine sqA ?_); refine rgA (by kernel_rfl) ?_
 simp
 refine aop_call' crL ?_
 simp
 (repeat refine sqA ?_); refine rgA (by kernel_rfl) ?_
 simp
 by_cases hs : small c = true
 ·have hw : L.takeWhile small ≠ [] := by rw [← hL]; exact takeW_cons hs
  have hdl := drop_len small L
  have hne := mk_ne hw
  have ht : tokD L = if kept ⟨(L.takeWhile small).toArray⟩ then some (⟨3, ⟨(L.takeWhile small).toArray⟩, 0⟩, L.dropWhile small) else if nameOk ⟨(L.takeWhile small).toArray⟩ then some (⟨1, ⟨(L.takeWhile small).toArray⟩, 0⟩, L.dropWhile small) else none := by
   rw [← hL]; simp only [tokD, hs, if_true]
  generalize L.takeWhile small = w at *
  (repeat refine sqA ?_); refine AWp.condT (by simp [hne, hw]) ?_
  (repeat refine sqA ?_); refine rgA (by kernel_rfl) ?_
  simp
  refine aop_call' (c_isKept ⟨w.toArray⟩) ?_
  simp
  by_cases hk : kept ⟨w.toArray⟩ = true
  ·(repeat refine sqA ?_); refine AWp.condT (by simp [hk]) ?_
   rw [if_pos hk] at ht
   (repeat refine sqA ?_); refine rgA (by kernel_rfl) ?_
   simp [size_mk]
   refine AWp.ret ⟨[.agg [.int .i64 3, .str ⟨w.toArray⟩, .int .i64 0], .int .i64 w.length, .bool true], _, m, by simp [Tryz.f51, resA, size_mk, eE, marksL], by (first | exact View.forget (hE _) _ | (simp; exact View.forget (hE _) _)), ?_⟩
   have := hK 3 ⟨w.toArray⟩ 0 w.length (fun t r h => by rw [ht] at h; cases h; exact ⟨rfl, hdl.symm⟩)
   rw [ht] at this
   simpa [oneOf] using this
  ·(repeat refine sqA ?_); refine AWp.condF (by simp [hk]) ?_
   refine AWp.skip ?_
   try simp
   rw [if_neg hk] at ht
   (repeat refine sqA ?_); refine rgA (by kernel_rfl) ?_
   simp [size_mk]
   refine aop_call' (c_impl_NameOk ⟨w.toArray⟩ (by rw [size_mk]; omega)) ?_
   simp
   refine AWp.ret ⟨[.agg [.int .i64 1, .str ⟨w.toArray⟩, .int .i64 0], .int .i64 w.length, .bool (nameOk ⟨w.toArray⟩)], _, m, by simp [Tryz.f51, resA, size_mk, eE, marksL], by (first | exact View.forget (hE _) _ | (simp; exact View.forget (hE _) _)), ?_⟩
   have e : (tokD L).isSome = nameOk ⟨w.toArray⟩ := by
    rw [ht]
    split
    ·rename_i h; rw [h]; rfl
    ·rename_i h; simp at h; rw [h]; rfl
   have := hK 1 ⟨w.toArray⟩ 0 w.length (fun t r h => by
    rw [ht] at h
    split at h
    ·cases h; exact ⟨rfl, hdl.symm⟩
    ·cases h)
   rw [e] at this
   simpa [oneOf] using this
 have hs : small c = false := by simpa using hs
 have hw : L.takeWhile small = [] := by rw [← hL]; exact takeW_nil hs
 rw [hw]
 (repeat refine sqA ?_); refine AWp.condF (by simp; try rfl) ?_
 refine AWp.skip ?_
 try simp
 (repeat refine sqA ?_); refine rgA (by kernel_rfl) ?_
 simp
 refine aop_call' crF ?_
 simp
 (repeat refine sqA ?_); refine rgA (by kernel_rfl) ?_
 simp
 by_cases hf : figure c = true
 ·have hw2 : L.takeWhile figure ≠ [] := by rw [← hL]; exact takeW_cons hf
  have hdl := drop_len figure L
  have hne := mk_ne hw2
  have ht : tokD L = match numD (L.takeWhile figure) with | some n => if n ≤ 999999 then some (⟨2, ⟨#[]⟩, n⟩, L.dropWhile figure) else none | none => none := by
   rw [← hL]; simp only [tokD, hs, hf, Bool.false_eq_true, if_true, if_false]; rfl
  generalize L.takeWhile figure = x at *
  (repeat refine sqA ?_); refine AWp.condT (by simp [hne, hw2]) ?_
  (repeat refine sqA ?_); refine rgA (by kernel_rfl) ?_
  simp
  refine aop_wcall _ _ _ _ _ _ _ _ rfl (eval_func _ _) ?_
  simp
  refine c_impl_ParseNum ⟨x.toArray⟩ (by simpa using hmg _) ?_
  rw [list_mk]
  simp
  generalize hq : numD x = q at *
  cases q with
  | none =>
   (repeat refine sqA ?_); refine rgA (by kernel_rfl) ?_
   simp [size_mk]
   refine AWp.ret ⟨[.agg [.int .i64 2, .str ⟨#[]⟩, .int .i64 0], .int .i64 x.length, .bool false], _, m, by simp [Tryz.f51, resA, size_mk, eE, marksL], by (first | exact View.forget (hE _) _ | (simp; exact View.forget (hE _) _)), ?_⟩
   have := hK 2 ⟨#[]⟩ 0 x.length (fun t r h => by rw [ht] at h; cases h)
   rw [ht] at this
   simpa [oneOf] using this
  | some n =>
   simp only at ht
   by_cases h9 : n ≤ 999999
   ·rw [if_pos h9] at ht
    (repeat refine sqA ?_); refine rgA (by kernel_rfl) ?_
    simp [size_mk, h9]
    refine AWp.ret ⟨[.agg [.int .i64 2, .str ⟨#[]⟩, .int .i64 n], .int .i64 x.length, .bool true], _, m, by simp [Tryz.f51, resA, size_mk, eE, marksL], by (first | exact View.forget (hE _) _ | (simp; exact View.forget (hE _) _)), ?_⟩
    have := hK 2 ⟨#[]⟩ n x.length (fun t r h => by rw [ht] at h; cases h; exact ⟨rfl, hdl.symm⟩)
    rw [ht] at this
    simpa [oneOf] using this
   ·rw [if_neg h9] at ht
    (repeat refine sqA ?_); refine rgA (by kernel_rfl) ?_
    simp [size_mk, h9]
    refine AWp.ret ⟨[.agg [.int .i64 2, .str ⟨#[]⟩, .int .i64 n], .int .i64 x.length, .bool false], _, m, by simp [Tryz.f51, resA, size_mk, eE, marksL], by (first | exact View.forget (hE _) _ | (simp; exact View.forget (hE _) _)), ?_⟩
    have := hK 2 ⟨#[]⟩ n x.length (fun t r h => by rw [ht] at h; cases h)
    rw [ht] at this
    simpa [oneOf] using this
 have hf : figure c = false := by simpa using hf
 have hw2 : L.takeWhile figure = [] := by rw [← hL]; exact takeW_nil hf
 rw [hw2]
 (repeat refine sqA ?_); refine AWp.condF (by simp; try rfl) ?_
 refine AWp.skip ?_
 try simp
 have ht : tokD L = if marksL.contains c then some (⟨4, ⟨#[c]⟩, 0⟩, l) else none := by
  rw [← hL]; simp only [tokD, hs, hf, Bool.false_eq_true, if_false]
 have hlen : (L.length : Int) - (l.length : Int) = 1 := by rw [← hL, List.length_cons]; omega
 have hL1 : 1 ≤ L.length := by rw [← hL, List.length_cons]; omega
 have hsl : sliceA Tryz.prog 9 (.str ⟨L.toArray⟩) none (some (.int .i64 1)) = some (.str ⟨#[c]⟩) := by
  have h2 : 1 ≤ (⟨L.toArray⟩ : ByteArray).size := by rw [size_mk]; omega
  have e1 : (⟨L.toArray⟩ : ByteArray).extract 0 1 = ⟨#[c]⟩ := by rw [extract_list, list_mk, ← hL]; rfl
  unfold sliceA
  simp only [Tryz.underlying9, boundA]
  simp [h2, e1]
 have cc := c_sContains ⟨#[59, 61, 91, 93, 40, 41, 123, 125, 43, 45, 42, 44]⟩ c
 (repeat refine sqA ?_); refine AWp.regionG (fun i => i == 5) (fun _ => false) [0, 1, 2, 3, 4, 5, 6, 7, 8] [0, 1, 2, 3, 4, 5, 6, 7, 8] (by kernel_rfl) ?_
 simp [hsl]
 refine aop_call' cc ?_
 simp
 refine AWp.ret ⟨[.agg [.int .i64 4, .str ⟨#[c]⟩, .int .i64 0], .int .i64 1, .bool (marksL.contains c)], _, m, by simp [Tryz.f51, resA, size_mk, eE, marksL], by (first | exact View.forget (hE _) _ | (simp; exact View.forget (hE _) _)), ?_⟩
 have e : (tokD L).isSome = marksL.contains c := by
  rw [ht]
  split
  ·rename_i h; rw [h]; rfl
  ·rename_i h; simp only [Bool.not_eq_true] at h; rw [h]; rfl
 have := hK 4 ⟨#[c]⟩ 0 1 (fun t r h => by
  rw [ht] at h
  split at h
  ·cases h; exact ⟨rfl, hlen.symm⟩
  ·cases h)
 rw [e] at this
 simpa [oneOf, marksL] using this
end Go.T
namespace Go.T
open Go Go.Proofs
set_option maxRecDepth 10000
set_option maxHeartbeats 1000000
open Go
theorem c_l2Next (s : ByteArray) (hz : s.size ≤ 1048576) (a : Nat) (ha : a < s.size) {m : Mem} {K : AV → Mem → Prop}
  (hK : ∀ (k : Int) (w : ByteArray) (n z : Int), (match tokD (s.data.toList.drop a) with | some (t, r) => t = ⟨k, w, n⟩ ∧ z = s.size - (r.length : Int) | none => k = 0) → K (.tup [.agg [.int .i64 k, .str w, .int .i64 n], .int .i64 z]) m) : WCall Tryz.prog 120 [.str s, .int .i64 a] m K := by
 have hsz := size_list s
 generalize hL : s.data.toList.drop a = L at *
 have hLl : L.length = s.size - a := by rw [← hL, List.length_drop]; omega
 obtain ⟨c, l, hcl⟩ : ∃ c l, L = c :: l := by
  cases L with
  | nil => simp at hLl; omega
  | cons c l => exact ⟨c, l, rfl⟩
 have hget0 : s.data.toList[a]? = some c := by
  have := List.getElem?_drop (xs := s.data.toList) (i := a) (j := 0)
  rw [hL, hcl] at this
  simpa using this.symm
 have hx0 : sidxA Tryz.prog 9 (.str s) (.int .i64 a) = some (.int .u8 c.toNat) := sidx Tryz.underlying9 hget0
 have hex : ∀ n : Nat, s.extract a (a + n) = ⟨(L.take n).toArray⟩ := fun n => by
  rw [extract_list, ← hL, List.drop_take]
  simp
 have hsl : ∀ n : Nat, n ≤ L.length → sliceA Tryz.prog 9 (.str s) (some (.int .i64 a)) (some (.int .i64 ((a : Int) + (n : Int)))) = some (.str ⟨(L.take n).toArray⟩) := fun n hn => by
  rw [show (a : Int) + (n : Int) = ((a + n : Nat) : Int) by omega]
  have h1 : ¬ (((a + n : Nat) : Int) < 0) := by omega
  have h2 : a + n ≤ s.size := by omega
  have h3 : ¬ ((a : Int) < 0) := by omega
  have h4 : a ≤ a + n := by omega
  unfold sliceA
  simp only [Tryz.underlying9, boundA, h1, h3, h4, if_false, Int.toNat_natCast, h2, if_true, hex]
 have eE : ByteArray.empty = (⟨#[]⟩ : ByteArray) := rfl
 have htw := takeW_le small L
 have htf := takeW_le figure L
 refine wcall_of Tryz.func120 (by kernel_rfl) rfl (by simp [Tryz.f120]) ?_
 (repeat refine sqA ?_); refine rgA (by kernel_rfl) ?_
 simp
 intro g hg
 have hE := Mem.ext_box hg
 (repeat refine sqA ?_); refine rgA (by kernel_rfl) ?_
 simp
 refine AWp.gen (fun st => st.slots 0 = .str s ∧ st.slots 1 = .int .i64 a ∧ st.slots 4 = .ptr g 0 ∧ st.slots 6 = .int .i64 a ∧ st.mem = m.set g (.box [.int .i64 0, .str ⟨#[]⟩, .int .i64 0])) ⟨by simp, by simp, by simp, by simp, by simp; try rfl⟩ ?_
 rintro st ⟨s0, s1, s4, s6, sm⟩
 (repeat refine sqA ?_); refine AWp.cutA (fun st => small c = false ∧ figure c = false ∧ st.slots 0 = .str s ∧ st.slots 1 = .int .i64 a ∧ st.slots 4 = .ptr g 0 ∧ st.mem = m.set g (.box [.int .i64 0, .str ⟨#[]⟩, .int .i64 0])) ?_ ?_
 ·(repeat refine sqA ?_); refine AWp.block ?_
  (repeat refine sqA ?_); refine rgA (by kernel_rfl) ?_
  simp [s0, s1, hx0]
  refine aop_call _ _ _ _ _ _ _ _ (c_l2Small c) ?_
  try simp
  by_cases hs : small c = true
  ·have hdl := drop_len small L
   have ht : tokD L = if kept ⟨(L.takeWhile small).toArray⟩ then some (⟨3, ⟨(L.takeWhile small).toArray⟩, 0⟩, L.dropWhile small) else if nameOk ⟨(L.takeWhile small).toArray⟩ then some (⟨1, ⟨(L.takeWhile small).toArray⟩, 0⟩, L.dropWhile small) else none := by
    rw [hcl]; simp only [tokD, hs, if_true]
   have htt := takeW_take small L
   have hslw := hsl _ htw
   rw [htt] at hslw
   (repeat refine sqA ?_); refine AWp.condT (by simp [hs]) ?_
   refine AWp.gen (fun st => st.slots 0 = .str s ∧ st.slots 1 = .int .i64 a ∧ st.slots 4 = .ptr g 0 ∧ st.slots 6 = .int .i64 (a : Int) ∧ st.mem = m.set g (.box [.int .i64 0, .str ⟨#[]⟩, .int .i64 0])) ⟨by simp [s0], by simp [s1], by simp [s4], by simp [s6], by simp [sm]⟩ ?_
   clear s0 s1 s4 s6 sm
   rintro st ⟨s0, s1, s4, s6, sm⟩
   (repeat refine sqA ?_); refine AWp.cutA (fun st => st.slots 0 = .str s ∧ st.slots 1 = .int .i64 a ∧ st.slots 4 = .ptr g 0 ∧ st.slots 6 = .int .i64 ((a : Int) + ((L.takeWhile small).length : Int)) ∧ st.mem = m.set g (.box [.int .i64 0, .str ⟨#[]⟩, .int .i64 0])) ?_ ?_
   ·refine AWp.block (AWp.rounds (fun q st => ∃ i : Nat, q = L.length - i ∧ i ≤ L.length ∧ (∀ x ∈ L.take i, small x = true) ∧ st.slots 0 = .str s ∧ st.slots 1 = .int .i64 a ∧ st.slots 4 = .ptr g 0 ∧ st.slots 6 = .int .i64 ((a : Int) + (i : Int)) ∧ st.mem = m.set g (.box [.int .i64 0, .str ⟨#[]⟩, .int .i64 0])) L.length ⟨0, by simp, by simp, by simp, by simp [s0], by simp [s1], by simp [s4], by simp [s6], by simp [sm]⟩ ?_)
    clear s0 s1 s4 s6 sm
    rintro RR q st hRR ⟨i, rfl, hi, ha, s0, s1, s4, s6, sm⟩
    have htk := takeW_append small L i ha
    by_cases hb : i < L.length
    ·have hget : s.data.toList[a + i]? = some L[i] := by rw [← List.getElem?_drop, hL]; exact List.getElem?_eq_getElem hb
     have hx : sidxA Tryz.prog 9 (.str s) (.int .i64 ((a : Int) + (i : Int))) = some (.int .u8 L[i].toNat) := by
      rw [show (a : Int) + (i : Int) = ((a + i : Nat) : Int) by omega]
      exact sidx Tryz.underlying9 hget
     have hlt : (a : Int) + (i : Int) < s.size := by omega
     have hwr : IntKind.wrap .i64 ((a : Int) + (i : Int) + 1) = (a : Int) + ((i : Int) + 1) := by rw [wrap64 (by omega) (by omega)]; omega
     have hdr : L.drop i = L[i] :: L.drop (i + 1) := List.drop_eq_getElem_cons hb
     (repeat refine sqA ?_); refine rgA (by kernel_rfl) ?_
     simp [s0, s6, hlt, hx]
     refine aop_call _ _ _ _ _ _ _ _ (c_l2Small L[i]) ?_
     try simp
     by_cases hf : small L[i] = true
     ·(repeat refine sqA ?_); refine AWp.condT (by simp [hf]) ?_
      refine AWp.skip ?_
      try simp
      (repeat refine sqA ?_); refine AWp.block ?_
      (repeat refine sqA ?_); refine rgA (by kernel_rfl) ?_
      simp [s6, hwr]
      refine hRR _ (L.length - (i + 1)) (by omega) ⟨i + 1, rfl, by omega, ?_, by simp [s0], by simp [s1], by simp [s4], by simp, by simp [sm]⟩
      intro x hx
      rw [List.take_succ_eq_append_getElem hb] at hx
      rcases List.mem_append.1 hx with hx | hx
      ·exact ha x hx
      ·simp at hx; rw [hx]; exact hf
     ·have hf : small L[i] = false := by simpa using hf
      (repeat refine sqA ?_); refine AWp.condF (by simp [hf]) ?_
      refine AWp.exit ?_
      have e : (L.takeWhile small).length = i := by
       rw [htk, hdr, List.takeWhile_cons]
       simp [hf]
       omega
      exact ⟨by simp [s0], by simp [s1], by simp [s4], by simp [s6, e], by simp [sm]⟩
    ·have : i = L.length := by omega
     subst this
     have hlt : ¬ ((a : Int) + (L.length : Int) < s.size) := by omega
     (repeat refine sqA ?_); refine rgA (by kernel_rfl) ?_
     simp [s0, s6, hlt]
     (repeat refine sqA ?_); refine AWp.condF (by simp) ?_
     refine AWp.exit ?_
     have e : (L.takeWhile small).length = L.length := by
      rw [htk, List.drop_length]
      simp
     exact ⟨by simp [s0], by simp [s1], by simp [s4], by simp [s6, e], by simp [sm]⟩
   clear s0 s1 s4 s6 sm
   rintro st ⟨s0, s1, s4, s6, sm⟩
   generalize hk1 : (a : Int) + ((L.takeWhile small).length : Int) = k1 at *
   have hk2 : k1 = s.size - ((L.dropWhile small).length : Int) := by omega
   generalize L.takeWhile small = w at *
   (repeat refine sqA ?_); refine rgA (by kernel_rfl) ?_
   simp [s0, s1, s6, hslw]
   refine aop_call _ _ _ _ _ _ _ _ (c_l2Kept ⟨w.toArray⟩) ?_
   try simp
   by_cases hk : kept ⟨w.toArray⟩ = true
   ·(repeat refine sqA ?_); refine AWp.condT (by simp [hk]) ?_
    rw [if_pos hk] at ht
    rw [ht] at hK
    (repeat refine sqA ?_); refine rgA (by kernel_rfl) ?_
    simp [s0, s1, s4, s6, sm, hslw]
    refine AWp.ret ⟨[.agg [.int .i64 3, .str ⟨w.toArray⟩, .int .i64 0], .int .i64 k1], _, m, by simp [Tryz.f120, resA, s4, eE], by (first | exact View.forget (hE _) _ | (simp; exact View.forget (hE _) _)), ?_⟩
    exact hK 3 ⟨w.toArray⟩ 0 k1 ⟨rfl, hk2⟩
   ·(repeat refine sqA ?_); refine AWp.condF (by simp [hk]) ?_
    refine AWp.skip ?_
    try simp
    rw [if_neg hk] at ht
    rw [ht] at hK
    (repeat refine sqA ?_); refine rgA (by kernel_rfl) ?_
    simp [s0, s1, s6, hslw]
    refine aop_call _ _ _ _ _ _ _ _ (c_spec_NameOk ⟨w.toArray⟩ (by rw [size_mk]; omega)) ?_
    try simp
    by_cases hn : nameOk ⟨w.toArray⟩ = true
    ·(repeat refine sqA ?_); refine AWp.condT (by simp [hn]) ?_
     rw [if_pos hn] at hK
     (repeat refine sqA ?_); refine rgA (by kernel_rfl) ?_
     simp [s0, s1, s4, s6, sm, hslw]
     refine AWp.ret ⟨[.agg [.int .i64 1, .str ⟨w.toArray⟩, .int .i64 0], .int .i64 k1], _, m, by simp [Tryz.f120, resA, s4, eE], by (first | exact View.forget (hE _) _ | (simp; exact View.forget (hE _) _)), ?_⟩
     exact hK 1 ⟨w.toArray⟩ 0 k1 ⟨rfl, hk2⟩
    ·(repeat refine sqA ?_); refine AWp.condF (by simp [hn]) ?_
     refine AWp.skip ?_
     try simp
     rw [if_neg hn] at hK
     (repeat refine sqA ?_); refine rgA (by kernel_rfl) ?_
     simp [s0, s1, s4, s6, sm]
     refine AWp.ret ⟨[.agg [.int .i64 0, .str ⟨#[]⟩, .int .i64 0], .int .i64 k1], _, m, by simp [Tryz.f120, resA, s4, eE], by (first | exact View.forget (hE _) _ | (simp; exact View.forget (hE _) _)), ?_⟩
     exact hK 0 ⟨#[]⟩ 0 k1 rfl
  have hs : small c = false := by simpa using hs
  (repeat refine sqA ?_); refine AWp.condF (by simp [hs]) ?_
  (repeat refine sqA ?_); refine rgA (by kernel_rfl) ?_
  simp [s0, s1, hx0]
  refine aop_call _ _ _ _ _ _ _ _ (c_l2Digit c) ?_
  try simp
  by_cases hf : figure c = true
  ·have hdl := drop_len figure L
   have ht : tokD L = match numD (L.takeWhile figure) with | some n => if n ≤ 999999 then some (⟨2, ⟨#[]⟩, n⟩, L.dropWhile figure) else none | none => none := by
    rw [hcl]; simp only [tokD, hs, hf, Bool.false_eq_true, if_true, if_false]; rfl
   have htt := takeW_take figure L
   have hslw := hsl _ htf
   rw [htt] at hslw
   (repeat refine sqA ?_); refine AWp.condT (by simp [hf]) ?_
   refine AWp.gen (fun st => st.slots 0 = .str s ∧ st.slots 1 = .int .i64 a ∧ st.slots 4 = .ptr g 0 ∧ st.slots 6 = .int .i64 (a : Int) ∧ st.mem = m.set g (.box [.int .i64 0, .str ⟨#[]⟩, .int .i64 0])) ⟨by simp [s0], by simp [s1], by simp [s4], by simp [s6], by simp [sm]⟩ ?_
   clear s0 s1 s4 s6 sm
   rintro st ⟨s0, s1, s4, s6, sm⟩
   (repeat refine sqA ?_); refine AWp.cutA (fun st => st.slots 0 = .str s ∧ st.slots 1 = .int .i64 a ∧ st.slots 4 = .ptr g 0 ∧ st.slots 6 = .int .i64 ((a : Int) + ((L.takeWhile figure).length : Int)) ∧ st.mem = m.set g (.box [.int .i64 0, .str ⟨#[]⟩, .int .i64 0])) ?_ ?_
   ·refine AWp.block (AWp.rounds (fun q st => ∃ i : Nat, q = L.length - i ∧ i ≤ L.length ∧ (∀ x ∈ L.take i, figure x = true) ∧ st.slots 0 = .str s ∧ st.slots 1 = .int .i64 a ∧ st.slots 4 = .ptr g 0 ∧ st.slots 6 = .int .i64 ((a : Int) + (i : Int)) ∧ st.mem = m.set g (.box [.int .i64 0, .str ⟨#[]⟩, .int .i64 0])) L.length ⟨0, by simp, by simp, by simp, by simp [s0], by simp [s1], by simp [s4], by simp [s6], by simp [sm]⟩ ?_)
    clear s0 s1 s4 s6 sm
    rintro RR q st hRR ⟨i, rfl, hi, ha, s0, s1, s4, s6, sm⟩
    have htk := takeW_append figure L i ha
    by_cases hb : i < L.length
    ·have hget : s.data.toList[a + i]? = some L[i] := by rw [← List.getElem?_drop, hL]; exact List.getElem?_eq_getElem hb
     have hx : sidxA Tryz.prog 9 (.str s) (.int .i64 ((a : Int) + (i : Int))) = some (.int .u8 L[i].toNat) := by
      rw [show (a : Int) + (i : Int) = ((a + i : Nat) : Int) by omega]
      exact sidx Tryz.underlying9 hget
     have hlt : (a : Int) + (i : Int) < s.size := by omega
     have hwr : IntKind.wrap .i64 ((a : Int) + (i : Int) + 1) = (a : Int) + ((i : Int) + 1) := by rw [wrap64 (by omega) (by omega)]; omega
     have hdr : L.drop i = L[i] :: L.drop (i + 1) := List.drop_eq_getElem_cons hb
     (repeat refine sqA ?_); refine rgA (by kernel_rfl) ?_
     simp [s0, s6, hlt, hx]
     refine aop_call _ _ _ _ _ _ _ _ (c_l2Digit L[i]) ?_
     try simp
     by_cases hf : figure L[i] = true
     ·(repeat refine sqA ?_); refine AWp.condT (by simp [hf]) ?_
      refine AWp.skip ?_
      try simp
      (repeat refine sqA ?_); refine AWp.block ?_
      (repeat refine sqA ?_); refine rgA (by kernel_rfl) ?_
      simp [s6, hwr]
      refine hRR _ (L.length - (i + 1)) (by omega) ⟨i + 1, rfl, by omega, ?_, by simp [s0], by simp [s1], by simp [s4], by simp, by simp [sm]⟩
      intro x hx
      rw [List.take_succ_eq_append_getElem hb] at hx
      rcases List.mem_append.1 hx with hx | hx
      ·exact ha x hx
      ·simp at hx; rw [hx]; exact hf
     ·have hf : figure L[i] = false := by simpa using hf
      (repeat refine sqA ?_); refine AWp.condF (by simp [hf]) ?_
      refine AWp.exit ?_
      have e : (L.takeWhile figure).length = i := by
       rw [htk, hdr, List.takeWhile_cons]
       simp [hf]
       omega
      exact ⟨by simp [s0], by simp [s1], by simp [s4], by simp [s6, e], by simp [sm]⟩
    ·have : i = L.length := by omega
     subst this
     have hlt : ¬ ((a : Int) + (L.length : Int) < s.size) := by omega
     (repeat refine sqA ?_); refine rgA (by kernel_rfl) ?_
     simp [s0, s6, hlt]
     (repeat refine sqA ?_); refine AWp.condF (by simp) ?_
     refine AWp.exit ?_
     have e : (L.takeWhile figure).length = L.length := by
      rw [htk, List.drop_length]
      simp
     exact ⟨by simp [s0], by simp [s1], by simp [s4], by simp [s6, e], by simp [sm]⟩
   clear s0 s1 s4 s6 sm
   rintro st ⟨s0, s1, s4, s6, sm⟩
   generalize hk1 : (a : Int) + ((L.takeWhile figure).length : Int) = k1 at *
   have hk2 : k1 = s.size - ((L.dropWhile figure).length : Int) := by omega
   have cp := c_spec_ParseNum ⟨(L.takeWhile figure).toArray⟩ (by rw [size_mk]; omega)
   rw [list_mk] at cp
   generalize L.takeWhile figure = w at *
   (repeat refine sqA ?_); refine rgA (by kernel_rfl) ?_
   simp [s0, s1, s6, hslw]
   refine aop_call _ _ _ _ _ _ _ _ cp ?_
   try simp
   generalize hq : numD w = q at *
   cases q with
   | none =>
    simp only at ht
    rw [ht] at hK
    (repeat refine sqA ?_); refine rgA (by kernel_rfl) ?_
    simp
    (repeat refine sqA ?_); refine AWp.condT (by simp) ?_
    (repeat refine sqA ?_); refine rgA (by kernel_rfl) ?_
    simp [s0, s1, s4, s6, sm]
    refine AWp.ret ⟨[.agg [.int .i64 0, .str ⟨#[]⟩, .int .i64 0], .int .i64 k1], _, m, by simp [Tryz.f120, resA, s4, eE], by (first | exact View.forget (hE _) _ | (simp; exact View.forget (hE _) _)), ?_⟩
    exact hK 0 ⟨#[]⟩ 0 k1 rfl
   | some n =>
    simp only at ht
    by_cases h9 : n ≤ 999999
    ·rw [if_pos h9] at ht
     rw [ht] at hK
     have h9' : ¬ 999999 < n := by omega
     (repeat refine sqA ?_); refine rgA (by kernel_rfl) ?_
     simp [h9']
     (repeat refine sqA ?_); refine AWp.condF (by simp) ?_
     refine AWp.skip ?_
     try simp
     (repeat refine sqA ?_); refine rgA (by kernel_rfl) ?_
     simp [s0, s1, s4, s6, sm]
     refine AWp.ret ⟨[.agg [.int .i64 2, .str ⟨#[]⟩, .int .i64 n], .int .i64 k1], _, m, by simp [Tryz.f120, resA, s4, eE], by (first | exact View.forget (hE _) _ | (simp; exact View.forget (hE _) _)), ?_⟩
     exact hK 2 ⟨#[]⟩ n k1 ⟨rfl, hk2⟩
    ·rw [if_neg h9] at ht
     rw [ht] at hK
     have h9' : 999999 < n := by omega
     (repeat refine sqA ?_); refine rgA (by kernel_rfl) ?_
     simp [h9']
     (repeat refine sqA ?_); refine AWp.condT (by simp) ?_
     (repeat refine sqA ?_); refine rgA (by kernel_rfl) ?_
     simp [s0, s1, s4, s6, sm]
     refine AWp.ret ⟨[.agg [.int .i64 0, .str ⟨#[]⟩, .int .i64 0], .int .i64 k1], _, m, by simp [Tryz.f120, resA, s4, eE], by (first | exact View.forget (hE _) _ | (simp; exact View.forget (hE _) _)), ?_⟩
     exact hK 0 ⟨#[]⟩ 0 k1 rfl
  have hf : figure c = false := by simpa using hf
  (repeat refine sqA ?_); refine AWp.condF (by simp [hf]) ?_
  refine AWp.skip ?_
  exact ⟨hs, hf, by simp [s0], by simp [s1], by simp [s4], by simp [sm]⟩
 clear s0 s1 s4 s6 sm
 rintro st ⟨hs, hf, s0, s1, s4, sm⟩
 have ht : tokD L = if marksL.contains c then some (⟨4, ⟨#[c]⟩, 0⟩, l) else none := by
  rw [hcl]; simp only [tokD, hs, hf, Bool.false_eq_true, if_false]
 have hL1 : 1 ≤ L.length := by rw [hcl, List.length_cons]; omega
 have hsl1 := hsl 1 hL1
 rw [show L.take 1 = [c] by rw [hcl]; rfl] at hsl1
 have hk2 : (a : Int) + ((1 : Nat) : Int) = s.size - (l.length : Int) := by rw [hcl, List.length_cons] at hLl; omega
 obtain ⟨k1, hk1⟩ : ∃ k1 : Int, k1 = (a : Int) + ((1 : Nat) : Int) := ⟨_, rfl⟩
 rw [← hk1] at hsl1 hk2
 have hwr : IntKind.wrap .i64 ((a : Int) + 1) = k1 := by rw [hk1, wrap64 (by omega) (by omega)]; omega
 have hhas : has (marksL.map ch) ⟨#[c]⟩ = marksL.contains c := by
  unfold has
  rw [List.any_map]
  have : ∀ l : List UInt8, (l.any ((fun x => decide (x = (⟨#[c]⟩ : ByteArray))) ∘ ch)) = l.contains c := by
   intro l
   induction l with
   | nil => rfl
   | cons x l ih =>
    rw [List.any_cons, List.contains_cons, ih]
    congr 1
    by_cases h : c = x
    ·subst h; simp [ch]
    ·have h2 : ¬ (ch x = (⟨#[c]⟩ : ByteArray)) := fun e => h (by
      have := congrArg (fun y : ByteArray => y.data.toList) e
      simp [ch] at this
      exact this.symm)
     simp [h, h2]
  exact this _
 have ch' := c_l2Has (marksL.map ch) ⟨#[c]⟩ (by simp [marksL])
 rw [hhas] at ch'
 have hrg : ([0, 1, 2, 3, 4, 5, 6, 7, 8, 9, 10, 11] = List.range 12) = True := eq_true rfl
 (repeat refine sqA ?_); refine AWp.region allP (by kernel_rfl) ?_
 simp [s0, s1, hwr, hsl1, literalA, hrg]
 refine aop_call' (ch'.arg ?_) ?_
 ·simp [strs, marksL, ch]
  exact .cons (Le.lst _ _ _) (Les.refl _)
 simp
 rw [ht] at hK
 by_cases hm : marksL.contains c = true
 ·rw [if_pos hm] at hK
  have hm' : c ∈ marksL := by simpa using hm
  (repeat refine sqA ?_); refine AWp.condT (by simp [hm']) ?_
  (repeat refine sqA ?_); refine rgA (by kernel_rfl) ?_
  simp [s0, s1, s4, sm, hwr, hsl1]
  refine AWp.ret ⟨[.agg [.int .i64 4, .str ⟨#[c]⟩, .int .i64 0], .int .i64 k1], _, m, by simp [Tryz.f120, resA, s4, eE], by (first | exact View.forget (hE _) _ | (simp; exact View.forget (hE _) _)), ?_⟩
  exact hK 4 ⟨#[c]⟩ 0 k1 ⟨rfl, hk2⟩
 ·rw [if_neg hm] at hK
  have hm' : ¬ c ∈ marksL := by simpa using hm
  (repeat refine sqA ?_); refine AWp.condF (by simp [hm']) ?_
  refine AWp.skip ?_
  try simp
  (repeat refine sqA ?_); refine rgA (by kernel_rfl) ?_
  simp [s0, s1, s4, sm, hwr]
  refine AWp.ret ⟨[.agg [.int .i64 0, .str ⟨#[]⟩, .int .i64 0], .int .i64 k1], _, m, by simp [Tryz.f120, resA, s4, eE], by (first | exact View.forget (hE _) _ | (simp; exact View.forget (hE _) _)), ?_⟩
  exact hK 0 ⟨#[]⟩ 0 k1 rfl
end Go.T
namespace Go.T
open Go Go.Proofs
set_option maxRecDepth 10000
set_option maxHeartbeats 1000000
open Go
theorem View.le {r r' : AV} (h : Le r r') (m : Mem) : View m r m r' := fun w S v h1 h2 => ⟨S, fun _ h => h, fun _ h => .inl h, h1, h w S v h2, fun g b h => by rw [h]; simp⟩
theorem View.tup {m m' : Mem} {r r' : AV} (h : View m r m' r') (b : Bool) : View m (.tup [r, .bool b]) m' (.tup [r', .bool b]) := fun w S v h1 h2 => by
 cases h2 with
 | tup hr =>
  cases hr with
  | cons hr h2 =>
   cases h2 with
   | cons hb h2 =>
    cases h2
    cases hb
    obtain ⟨S', a1, a2, a3, a4, a5⟩ := h w S _ h1 hr
    exact ⟨S', a1, a2, a3, .tup (.cons a4 (.cons (.bool b) .nil)), a5⟩
/-- A token is of a kind; what is behind it is behind it. -/
theorem tokD_drop {L : List UInt8} {t : Tk} {r : List UInt8} (h : tokD L = some (t, r)) : r.length < L.length ∧ r = L.drop (L.length - r.length) ∧ t.k ≠ 0 := by
 cases L with
 | nil => cases h
 | cons c l =>
  have hd : ∀ p : UInt8 → Bool, p c = true → ((c :: l).dropWhile p).length < (c :: l).length ∧ (c :: l).dropWhile p = (c :: l).drop ((c :: l).length - ((c :: l).dropWhile p).length) := by
   intro p hp
   have h1 := congrArg List.length (List.takeWhile_append_dropWhile (p := p) (l := c :: l))
   rw [List.length_append] at h1
   have h2 : 0 < ((c :: l).takeWhile p).length := by rw [List.takeWhile_cons, if_pos hp]; simp
   have h3 := dropW_drop p (c :: l)
   exact ⟨by omega, by rw [show (c :: l).length - ((c :: l).dropWhile p).length = ((c :: l).takeWhile p).length by omega]; exact h3⟩
  simp only [tokD] at h
  split at h
  ·rename_i hs
   have := hd small hs
   split at h
   ·cases h; exact ⟨this.1, this.2, by simp⟩
   ·split at h
    ·cases h; exact ⟨this.1, this.2, by simp⟩
    ·cases h
  ·split at h
   ·rename_i hf
    have := hd figure hf
    split at h
    ·split at h
     ·cases h; exact ⟨this.1, this.2, by simp⟩
     ·cases h
    ·cases h
   ·split at h
    ·cases h
     refine ⟨by simp, ?_, by simp⟩
     rw [List.length_cons, show r.length + 1 - r.length = 1 by omega]
     rfl
    ·cases h
theorem lexD_blank {k n : Nat} {c : UInt8} {l : List UInt8} (h : blank c = true) : lexD (k + 1) n (c :: l) = lexD k n l := by
 unfold lexD
 rw [if_pos h]
 cases k <;> cases l <;> rfl
theorem lexD_tok {k n : Nat} {c : UInt8} {l : List UInt8} (h : blank c = false) : lexD (k + 1) n (c :: l) = match tokD (c :: l) with | none => none | some (t, r) => if 600 ≤ n then none else (lexD k (n + 1) r).map (t :: ·) := by
 conv => lhs; unfold lexD
 rw [if_neg (by simp [h])]
 rfl
theorem map_app (o : Option (List Tk)) (ts : List Tk) (t : Tk) : (o.map (t :: ·)).map (ts ++ ·) = o.map ((ts ++ [t]) ++ ·) := by
 cases o <;> simp
theorem gr_len {m0 m : Mem} {ts : List Tk} {v : AV} (h : Gr 77 3 m0 (ts.map Tk.av) v m) : lenA Tryz.prog (some 40) v = some (.int .i64 ts.length) := by
 obtain ⟨_, ⟨h0, f, rfl⟩ | ⟨g, c, rfl, _, _⟩⟩ := h
 ·have : ts = [] := by simpa using h0
  subst this
  simp [lenA, Tryz.underlying40]
 ·simp [lenA, Tryz.underlying40]
theorem c_impl_Lex (s : ByteArray) (hz : s.size ≤ 9223372036854775807) {T : TypeId} {m : Mem} (hm : m TB = some (tabBlk T)) {K : AV → Mem → Prop} (hK : K (.tup [.lst false 3 (((lex s).getD []).map Tk.av), .bool (lex s).isSome]) m) : WCall Tryz.prog 17 [.str s] m K := by
 have hsz := size_list s
 refine wcall_of Tryz.func17 (by kernel_rfl) rfl (by simp [Tryz.f17]) ?_
 (repeat refine sqA ?_); refine rgA (by kernel_rfl) ?_
 try simp
 skip
 have failP : ∀ (v : AV) (st : St), Le v (.lst false 3 []) → lex s = none → st.slots 2 = v → st.slots 3 = .bool false → Ext m st.mem → Post Tryz.prog Tryz.f17 K .ret st := fun v st hv hn s2 s3 hE => by
  rw [hn] at hK
  exact ⟨[v, .bool false], _, m, by simp [Tryz.f17, resA, s2, s3], ((View.le hv _).trans (View.forget hE _)).tup false, hK⟩
 (repeat refine sqA ?_); refine rgA (by kernel_rfl) ?_
 simp
 by_cases h3 : 3000 < s.size
 ·have h3' : (3000 : Int) < s.size := by omega
  (repeat refine sqA ?_); refine AWp.condT (by simp [h3']) ?_
  (repeat refine sqA ?_); refine rgA (by kernel_rfl) ?_
  simp
  refine AWp.ret ?_
  refine failP (.lst true 0 []) _ (Le.nil _ _ _) (by unfold lex; rw [if_pos h3]) ?_ ?_ ?_
  ·simp
  ·simp
  ·first | exact Ext.refl _ | (simp; exact Ext.refl _)
 have h3' : ¬ (3000 : Int) < s.size := by omega
 (repeat refine sqA ?_); refine AWp.condF (by simp [h3']) ?_
 refine AWp.skip ?_
 try simp
 (repeat refine sqA ?_); refine rgA (by kernel_rfl) ?_
 simp
 (repeat refine sqA ?_); refine rgA (by kernel_rfl) ?_
 simp
 have hlx : lex s = lexD s.size 0 s.data.toList := by unfold lex; rw [if_neg h3]
 generalize hL0 : s.data.toList = L0 at *
 obtain ⟨M, hM⟩ : ∃ M : St → Prop, M = (fun st => ∃ (ts : List Tk) (v : AV), lex s = some ts ∧ st.slots 4 = v ∧ Gr 77 3 m (ts.map Tk.av) v st.mem) := ⟨_, rfl⟩
 (repeat refine sqA ?_); refine AWp.cutA M ?_ ?_
 ·refine AWp.block (AWp.rounds (fun q st => ∃ (k i : Nat) (ts : List Tk) (v : AV), q = L0.length - i ∧ i ≤ L0.length ∧ L0.length - i ≤ k ∧ ts.length ≤ 600 ∧ lex s = (lexD k ts.length (L0.drop i)).map (ts ++ ·) ∧ st.slots 0 = .str s ∧ st.slots 4 = v ∧ st.slots 5 = .int .i64 i ∧ Gr 77 3 m (ts.map Tk.av) v st.mem) L0.length ⟨s.size, 0, [], (.lst true 0 []), by simp, by simp, by omega, by simp, by simpa using hlx, by simp, by simp, by simp, by simpa using Gr.start m 0⟩ ?_)
  rintro RR q st hRR ⟨k, i, ts, v, rfl, hi, hk, h600, hr, s0, s4, s5, hG⟩
  have hE := hG.1
  by_cases hb : i < L0.length
  ·have hlt : (i : Int) < s.size := by omega
   have hwr : IntKind.wrap .i64 ((i : Int) + 1) = (i + 1 : Nat) := wrap64 (by omega) (by omega)
   have hget : s.data.toList[i]? = some L0[i] := by rw [hL0]; exact List.getElem?_eq_getElem hb
   have hx : sidxA Tryz.prog 9 (.str s) (.int .i64 i) = some (.int .u8 L0[i].toNat) := sidx Tryz.underlying9 hget
   have hdr : L0.drop i = L0[i] :: L0.drop (i + 1) := List.drop_eq_getElem_cons hb
   have e32 : ((L0[i].toNat : Int) = 32) = (L0[i] = 32) := propext ⟨fun h => UInt8.toNat_inj.1 (by have : (32 : UInt8).toNat = 32 := rfl; omega), fun h => by rw [h]; rfl⟩
   have e10 : ((L0[i].toNat : Int) = 10) = (L0[i] = 10) := propext ⟨fun h => UInt8.toNat_inj.1 (by have : (10 : UInt8).toNat = 10 := rfl; omega), fun h => by rw [h]; rfl⟩
   obtain ⟨k, rfl⟩ : ∃ k', k = k' + 1 := ⟨k - 1, by omega⟩
   rw [hdr] at hr
   generalize hc : L0[i] = c at *
   generalize hl : L0.drop (i + 1) = l at *
   have hll : l.length = L0.length - (i + 1) := by rw [← hl, List.length_drop]
   (repeat refine sqA ?_); refine rgA (by kernel_rfl) ?_
   simp [s0, s5, hlt]
   (repeat refine sqA ?_); refine AWp.condT (by simp) ?_
   refine AWp.skip ?_
   try simp
   (repeat refine sqA ?_); refine AWp.block ?_
   (repeat refine sqA ?_); refine rgA (by kernel_rfl) ?_
   simp [s0, s5, hx]
   by_cases hbl : blank c = true
   ·rw [lexD_blank hbl] at hr
    have go : ∀ st' : St, st'.slots 0 = .str s → st'.slots 4 = v → st'.slots 5 = .int .i64 ((i + 1 : Nat) : Int) → st'.mem = st.mem → RR st' := fun st' e0 e4 e5 em =>
     hRR _ (L0.length - (i + 1)) (by omega) ⟨k, i + 1, ts, v, rfl, by omega, by omega, h600, by rw [hl]; exact hr, e0, e4, e5, by rw [em]; exact hG⟩
    have hwr2 : IntKind.wrap .i64 ((i : Int) + 1) = ((i + 1 : Nat) : Int) := hwr
    by_cases h32 : c = 32
    ·simp [e32, h32]
     (repeat refine sqA ?_); refine AWp.condT (by simp) ?_
     (repeat refine sqA ?_); refine rgA (by kernel_rfl) ?_
     simp [s5, hwr2]
     refine AWp.exit ?_
     simp
     exact go _ (by simp [s0]) (by simp [s4]) (by simp) (by simp)
    ·have h10 : c = 10 := by
      unfold blank at hbl
      simp [h32] at hbl
      exact hbl
     simp [e32, h32, e10, h10, s0, s5, hx]
     (repeat refine sqA ?_); refine AWp.condT (by simp) ?_
     (repeat refine sqA ?_); refine rgA (by kernel_rfl) ?_
     simp [s5, hwr2]
     refine AWp.exit ?_
     simp
     exact go _ (by simp [s0]) (by simp [s4]) (by simp) (by simp)
   ·have hbl : blank c = false := by simpa using hbl
    have h32 : ¬ c = 32 := by rintro rfl; simp [blank] at hbl
    have h10 : ¬ c = 10 := by rintro rfl; simp [blank] at hbl
    rw [lexD_tok hbl] at hr
    simp [e32, h32, e10, h10, s0, s5, hx]
    (repeat refine sqA ?_); refine AWp.condF (by simp) ?_
    refine AWp.skip ?_
    try simp
    have hsl : sliceA Tryz.prog 9 (.str s) (some (.int .i64 i)) none = some (.str ⟨(c :: l).toArray⟩) := by
     have h1 : ¬ ((i : Int) < 0) := by omega
     have h2 : i ≤ s.size := by omega
     unfold sliceA
     simp only [Tryz.underlying9, boundA, h1, if_false, Int.toNat_natCast, h2, if_true]
     rw [extract_list, hL0, List.take_of_length_le (by omega), hdr]
    (repeat refine sqA ?_); refine rgA (by kernel_rfl) ?_
    simp [s0, s5, hsl]
    refine aop_wcall _ _ _ _ _ _ _ _ rfl (eval_func _ _) ?_
    simp
    have hll2 : (c :: l).length = L0.length - i := by rw [List.length_cons]; omega
    refine c_tokOf c l (by omega) (hE _ _ hm) fun kk w n z hz2 => ?_
    simp
    intro g6 hg6
    have hE6 := ext_set hg6 (.box [.int .i64 kk, .str w, .int .i64 n])
    cases ht : tokD (c :: l) with
    | none =>
     rw [ht] at hr
     (repeat refine sqA ?_); refine rgA (by kernel_rfl) ?_
     simp
     (repeat refine sqA ?_); refine AWp.condT (by simp) ?_
     (repeat refine sqA ?_); refine rgA (by kernel_rfl) ?_
     simp
     refine AWp.ret ?_; (try simp); refine failP (.lst true 0 []) _ (Le.nil _ _ _) (by simpa using hr) ?_ ?_ ?_ <;> first | (simp; done) | (simpa using hE.trans hE6)
    | some tr =>
     obtain ⟨t, r⟩ := tr
     rw [ht] at hr
     obtain ⟨rfl, rfl⟩ := hz2 t r ht
     obtain ⟨d1, d2, d3⟩ := tokD_drop ht
     simp only at hr d3
     have hlen := gr_len hG
     obtain ⟨i', hi'⟩ : ∃ i' : Nat, i' = L0.length - r.length := ⟨_, rfl⟩
     have hrd : r = L0.drop i' := by
      have e1 := d2
      rw [← hdr, List.drop_drop] at e1
      rw [e1]
      congr 1
      rw [List.length_drop]
      omega
     have hG6 := hG.fresh hg6 (.box [.int .i64 kk, .str w, .int .i64 n])
     have b6 := set_same st.mem g6 (.box [.int .i64 kk, .str w, .int .i64 n])
     generalize st.mem.set g6 (.box [.int .i64 kk, .str w, .int .i64 n]) = m6 at *
     have next : ∀ (v' : AV) (st' : St), ts.length < 600 → Gr 77 3 m ((ts ++ [Tk.mk kk w n]).map Tk.av) v' st'.mem → st'.slots 0 = .str s → st'.slots 4 = v' → st'.slots 5 = .int .i64 (i' : Int) → RR st' := fun v' st' hn h1 h2 h3 h4 =>
      hRR _ (L0.length - i') (by omega) ⟨k, i', ts ++ [Tk.mk kk w n], v', rfl, by omega, by omega, by simp; omega, by
       rw [if_neg (by omega)] at hr
       rw [map_app] at hr
       rw [hr, ← hrd]
       simp, h2, h3, h4, h1⟩
     have hlc : (c :: l).length = l.length + 1 := List.length_cons
     have hwz : IntKind.wrap .i64 ((i : Int) + ((l.length : Int) + 1 - (r.length : Int))) = (i' : Int) := by rw [wrap64 (by omega) (by omega)]; omega
     (repeat refine sqA ?_); refine rgA (by kernel_rfl) ?_
     simp [s4, hlen]
     by_cases h6 : ts.length = 600
     ·try simp [h6]
      (repeat refine sqA ?_); refine AWp.condT (by simp) ?_
      (repeat refine sqA ?_); refine rgA (by kernel_rfl) ?_
      simp
      rw [if_pos (by omega)] at hr
      refine AWp.ret ?_; (try simp); refine failP (.lst true 0 []) _ (Le.nil _ _ _) (by simpa using hr) ?_ ?_ ?_ <;> first | (simp; done) | (simpa using hE.trans hE6)
     ·have h6' : ¬ (ts.length : Int) = 600 := by omega
      try simp [h6']
      (repeat refine sqA ?_); refine AWp.condF (by simp) ?_
      refine AWp.skip ?_
      try simp
      (repeat refine sqA ?_); refine rgA (by kernel_rfl) ?_
      simp [s4, b6, literalA]
      refine Gr.app et_40 hG6 (x := .lst true 3 [.agg [.int .i64 kk, .str w, .int .i64 n]]) (ys := [.agg [.int .i64 kk, .str w, .int .i64 n]]) (by simp [srcA]) (by intro y hy; simp at hy; subst hy; rfl) (by simp; omega) fun v' m' hG2 hk2 => ?_
      try simp
      have hG3 : Gr 77 3 m ((ts ++ [Tk.mk kk w n]).map Tk.av) v' m' := by simpa [Tk.av, Tk.cells] using hG2
      (repeat refine sqA ?_); refine rgA (by kernel_rfl) ?_
      simp [s5, hwz]
      exact next v' _ (by omega) (by simpa using hG3) (by simp [s0]) (by simp) (by simp)
  ·have : i = L0.length := by omega
   subst this
   have hlt : ¬ ((L0.length : Int) < s.size) := by omega
   (repeat refine sqA ?_); refine rgA (by kernel_rfl) ?_
   simp [s0, s5, hlt]
   (repeat refine sqA ?_); refine AWp.condF (by simp) ?_
   refine AWp.exit ?_
   subst hM
   rw [List.drop_length] at hr
   have e : lexD k ts.length [] = some [] := by unfold lexD; cases k <;> rfl
   rw [e] at hr
   exact ⟨ts, v, by simpa using hr, by simp [s4], by simpa using hG⟩
 intro st hst
 subst hM
 obtain ⟨ts, v, hr, s4, hG⟩ := hst
 rw [hr] at hK
 (repeat refine sqA ?_); refine rgA (by kernel_rfl) ?_
 simp [s4]
 exact AWp.ret ⟨[v, .bool true], _, m, by simp [Tryz.f17, resA], by simpa [oneOf] using hG.view.tup true, by simpa using hK⟩
theorem c_spec_Lex (s : ByteArray) (hz : s.size ≤ 9223372036854775807) {m : Mem} {K : AV → Mem → Prop} (hK : K (.tup [.lst false 3 (((lex s).getD []).map Tk.av), .bool (lex s).isSome]) m) : WCall Tryz.prog 60 [.str s] m K := by
 have hsz := size_list s
 refine wcall_of Tryz.func60 (by kernel_rfl) rfl (by simp [Tryz.f60]) ?_
 (repeat refine sqA ?_); refine rgA (by kernel_rfl) ?_
 try simp
 (repeat refine sqA ?_); refine rgA (by kernel_rfl) ?_
 simp [literalA]
 have failP : ∀ (v : AV) (st : St), Le v (.lst false 3 []) → lex s = none → st.slots 2 = v → st.slots 3 = .bool false → Ext m st.mem → Post Tryz.prog Tryz.f60 K .ret st := fun v st hv hn s2 s3 hE => by
  rw [hn] at hK
  exact ⟨[v, .bool false], _, m, by simp [Tryz.f60, resA, s2, s3], ((View.le hv _).trans (View.forget hE _)).tup false, hK⟩
 (repeat refine sqA ?_); refine rgA (by kernel_rfl) ?_
 simp
 by_cases h3 : 3000 < s.size
 ·have h3' : (3000 : Int) < s.size := by omega
  (repeat refine sqA ?_); refine AWp.condT (by simp [h3']) ?_
  (repeat refine sqA ?_); refine rgA (by kernel_rfl) ?_
  simp
  refine AWp.ret ?_
  refine failP (.lst true 3 []) _ (Le.lst _ _ _) (by unfold lex; rw [if_pos h3]) ?_ ?_ ?_
  ·simp
  ·simp
  ·first | exact Ext.refl _ | (simp; exact Ext.refl _)
 have h3' : ¬ (3000 : Int) < s.size := by omega
 (repeat refine sqA ?_); refine AWp.condF (by simp [h3']) ?_
 refine AWp.skip ?_
 try simp
 skip
 (repeat refine sqA ?_); refine rgA (by kernel_rfl) ?_
 simp
 have hlx : lex s = lexD s.size 0 s.data.toList := by unfold lex; rw [if_neg h3]
 generalize hL0 : s.data.toList = L0 at *
 obtain ⟨M, hM⟩ : ∃ M : St → Prop, M = (fun st => ∃ (ts : List Tk) (v : AV), lex s = some ts ∧ st.slots 4 = v ∧ Gr 77 3 m (ts.map Tk.av) v st.mem) := ⟨_, rfl⟩
 (repeat refine sqA ?_); refine AWp.cutA M ?_ ?_
 ·refine AWp.block (AWp.rounds (fun q st => ∃ (k i : Nat) (ts : List Tk) (v : AV), q = L0.length - i ∧ i ≤ L0.length ∧ L0.length - i ≤ k ∧ ts.length ≤ 600 ∧ lex s = (lexD k ts.length (L0.drop i)).map (ts ++ ·) ∧ st.slots 0 = .str s ∧ st.slots 4 = v ∧ st.slots 5 = .int .i64 i ∧ Gr 77 3 m (ts.map Tk.av) v st.mem) L0.length ⟨s.size, 0, [], (.lst true 3 []), by simp, by simp, by omega, by simp, by simpa using hlx, by simp, by simp, by simp, by simpa using Gr.start m 3⟩ ?_)
  rintro RR q st hRR ⟨k, i, ts, v, rfl, hi, hk, h600, hr, s0, s4, s5, hG⟩
  have hE := hG.1
  by_cases hb : i < L0.length
  ·have hlt : (i : Int) < s.size := by omega
   have hwr : IntKind.wrap .i64 ((i : Int) + 1) = (i + 1 : Nat) := wrap64 (by omega) (by omega)
   have hget : s.data.toList[i]? = some L0[i] := by rw [hL0]; exact List.getElem?_eq_getElem hb
   have hx : sidxA Tryz.prog 9 (.str s) (.int .i64 i) = some (.int .u8 L0[i].toNat) := sidx Tryz.underlying9 hget
   have hdr : L0.drop i = L0[i] :: L0.drop (i + 1) := List.drop_eq_getElem_cons hb
   have e32 : ((L0[i].toNat : Int) = 32) = (L0[i] = 32) := propext ⟨fun h => UInt8.toNat_inj.1 (by have : (32 : UInt8).toNat = 32 := rfl; omega), fun h => by rw [h]; rfl⟩
   have e10 : ((L0[i].toNat : Int) = 10) = (L0[i] = 10) := propext ⟨fun h => UInt8.toNat_inj.1 (by have : (10 : UInt8).toNat = 10 := rfl; omega), fun h => by rw [h]; rfl⟩
   obtain ⟨k, rfl⟩ : ∃ k', k = k' + 1 := ⟨k - 1, by omega⟩
   rw [hdr] at hr
   generalize hc : L0[i] = c at *
   generalize hl : L0.drop (i + 1) = l at *
   have hll : l.length = L0.length - (i + 1) := by rw [← hl, List.length_drop]
   (repeat refine sqA ?_); refine rgA (by kernel_rfl) ?_
   simp [s0, s5, hlt]
   (repeat refine sqA ?_); refine AWp.condT (by simp) ?_
   refine AWp.skip ?_
   try simp
   (repeat refine sqA ?_); refine AWp.block ?_
   (repeat refine sqA ?_); refine rgA (by kernel_rfl) ?_
   simp [s0, s5, hx]
   by_cases hbl : blank c = true
   ·rw [lexD_blank hbl] at hr
    have go : ∀ st' : St, st'.slots 0 = .str s → st'.slots 4 = v → st'.slots 5 = .int .i64 ((i + 1 : Nat) : Int) → st'.mem = st.mem → RR st' := fun st' e0 e4 e5 em =>
     hRR _ (L0.length - (i + 1)) (by omega) ⟨k, i + 1, ts, v, rfl, by omega, by omega, h600, by rw [hl]; exact hr, e0, e4, e5, by rw [em]; exact hG⟩
    have hwr2 : IntKind.wrap .i64 ((i : Int) + 1) = ((i + 1 : Nat) : Int) := hwr
    by_cases h32 : c = 32
    ·simp [e32, h32]
     (repeat refine sqA ?_); refine AWp.condT (by simp) ?_
     (repeat refine sqA ?_); refine rgA (by kernel_rfl) ?_
     simp [s5, hwr2]
     refine AWp.exit ?_
     simp
     exact go _ (by simp [s0]) (by simp [s4]) (by simp) (by simp)
    ·have h10 : c = 10 := by
      unfold blank at hbl
      simp [h32] at hbl
      exact hbl
     simp [e32, h32, e10, h10, s0, s5, hx]
     (repeat refine sqA ?_); refine AWp.condT (by simp) ?_
     (repeat refine sqA ?_); refine rgA (by kernel_rfl) ?_
     simp [s5, hwr2]
     refine AWp.exit ?_
     simp
     exact go _ (by simp [s0]) (by simp [s4]) (by simp) (by simp)
   ·have hbl : blank c = false := by simpa using hbl
    have h32 : ¬ c = 32 := by rintro rfl; simp [blank] at hbl
    have h10 : ¬ c = 10 := by rintro rfl; simp [blank] at hbl
    rw [lexD_tok hbl] at hr
    simp [e32, h32, e10, h10, s0, s5, hx]
    (repeat refine sqA ?_); refine AWp.condF (by simp) ?_
    refine AWp.skip ?_
    try simp
    (repeat refine sqA ?_); refine rgA (by kernel_rfl) ?_
    simp [s0, s5]
    refine aop_wcall _ _ _ _ _ _ _ _ rfl (eval_func _ _) ?_
    simp
    have hll2 : (c :: l).length = L0.length - i := by rw [List.length_cons]; omega
    refine c_l2Next s (by omega) i (by omega) fun kk w n z hz2 => ?_
    rw [hL0, hdr] at hz2
    simp
    intro g6 hg6
    have hE6 := ext_set hg6 (.box [.int .i64 kk, .str w, .int .i64 n])
    cases ht : tokD (c :: l) with
    | none =>
     rw [ht] at hr hz2
     simp only at hz2
     subst hz2
     (repeat refine sqA ?_); refine rgA (by kernel_rfl) ?_
     simp
     (repeat refine sqA ?_); refine AWp.condT (by simp) ?_
     (repeat refine sqA ?_); refine rgA (by kernel_rfl) ?_
     simp [literalA]
     refine AWp.ret ?_; (try simp); refine failP (.lst true 3 []) _ (Le.lst _ _ _) (by simpa using hr) ?_ ?_ ?_ <;> first | (simp; done) | (simpa using hE.trans hE6)
    | some tr =>
     obtain ⟨t, r⟩ := tr
     rw [ht] at hr hz2
     simp only at hz2
     obtain ⟨rfl, rfl⟩ := hz2
     obtain ⟨d1, d2, d3⟩ := tokD_drop ht
     simp only at hr d3
     have hlen := gr_len hG
     obtain ⟨i', hi'⟩ : ∃ i' : Nat, i' = L0.length - r.length := ⟨_, rfl⟩
     have hrd : r = L0.drop i' := by
      have e1 := d2
      rw [← hdr, List.drop_drop] at e1
      rw [e1]
      congr 1
      rw [List.length_drop]
      omega
     have hG6 := hG.fresh hg6 (.box [.int .i64 kk, .str w, .int .i64 n])
     have b6 := set_same st.mem g6 (.box [.int .i64 kk, .str w, .int .i64 n])
     generalize st.mem.set g6 (.box [.int .i64 kk, .str w, .int .i64 n]) = m6 at *
     have next : ∀ (v' : AV) (st' : St), ts.length < 600 → Gr 77 3 m ((ts ++ [Tk.mk kk w n]).map Tk.av) v' st'.mem → st'.slots 0 = .str s → st'.slots 4 = v' → st'.slots 5 = .int .i64 (i' : Int) → RR st' := fun v' st' hn h1 h2 h3 h4 =>
      hRR _ (L0.length - i') (by omega) ⟨k, i', ts ++ [Tk.mk kk w n], v', rfl, by omega, by omega, by simp; omega, by
       rw [if_neg (by omega)] at hr
       rw [map_app] at hr
       rw [hr, ← hrd]
       simp, h2, h3, h4, h1⟩
     have hwz : (s.size : Int) - (r.length : Int) = (i' : Int) := by omega
     (repeat refine sqA ?_); refine rgA (by kernel_rfl) ?_
     simp [s4, hlen, b6, d3]
     by_cases h6 : 600 ≤ ts.length
     ·have h6' : (600 : Int) ≤ ts.length := by omega
      simp [h6']
      (repeat refine sqA ?_); refine AWp.condT (by simp) ?_
      (repeat refine sqA ?_); refine rgA (by kernel_rfl) ?_
      simp [literalA]
      rw [if_pos (by omega)] at hr
      refine AWp.ret ?_; (try simp); refine failP (.lst true 3 []) _ (Le.lst _ _ _) (by simpa using hr) ?_ ?_ ?_ <;> first | (simp; done) | (simpa using hE.trans hE6)
     ·have h6' : ¬ (600 : Int) ≤ ts.length := by omega
      simp [h6']
      (repeat refine sqA ?_); refine AWp.condF (by simp) ?_
      refine AWp.skip ?_
      try simp
      (repeat refine sqA ?_); refine rgA (by kernel_rfl) ?_
      simp [s4, b6, literalA]
      refine Gr.app et_40 hG6 (x := .lst true 3 [.agg [.int .i64 kk, .str w, .int .i64 n]]) (ys := [.agg [.int .i64 kk, .str w, .int .i64 n]]) (by simp [srcA]) (by intro y hy; simp at hy; subst hy; rfl) (by simp; omega) fun v' m' hG2 hk2 => ?_
      try simp
      have hG3 : Gr 77 3 m ((ts ++ [Tk.mk kk w n]).map Tk.av) v' m' := by simpa [Tk.av, Tk.cells] using hG2
      (repeat refine sqA ?_); refine rgA (by kernel_rfl) ?_
      simp [hwz]
      exact next v' _ (by omega) (by simpa using hG3) (by simp [s0]) (by simp) (by simp)
  ·have : i = L0.length := by omega
   subst this
   have hlt : ¬ ((L0.length : Int) < s.size) := by omega
   (repeat refine sqA ?_); refine rgA (by kernel_rfl) ?_
   simp [s0, s5, hlt]
   (repeat refine sqA ?_); refine AWp.condF (by simp) ?_
   refine AWp.exit ?_
   subst hM
   rw [List.drop_length] at hr
   have e : lexD k ts.length [] = some [] := by unfold lexD; cases k <;> rfl
   rw [e] at hr
   exact ⟨ts, v, by simpa using hr, by simp [s4], by simpa using hG⟩
 intro st hst
 subst hM
 obtain ⟨ts, v, hr, s4, hG⟩ := hst
 rw [hr] at hK
 (repeat refine sqA ?_); refine rgA (by kernel_rfl) ?_
 simp [s4]
 exact AWp.ret ⟨[v, .bool true], _, m, by simp [Tryz.f60, resA], by simpa [oneOf] using hG.view.tup true, by simpa using hK⟩
end Go.T
