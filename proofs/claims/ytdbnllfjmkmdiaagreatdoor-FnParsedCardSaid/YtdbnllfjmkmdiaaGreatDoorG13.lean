/- Parts of the proof of FnParsed: Figures. -/
import Derived.Test.YtdbnllfjmkmdiaaGreatDoorG5
import Derived.Test.YtdbnllfjmkmdiaaGreatDoorG12
import Derived.Shelf.Strings.Search3
set_option linter.unusedSimpArgs false
set_option linter.unusedVariables false
namespace Go.Proofs
open Go.Shelf
shelf_lay Lays.n144 Nm 144 at Tryz as Tryz.laysContains -- 113
end Go.Proofs
namespace Go.T
open Go Go.Proofs
set_option maxRecDepth 10000
set_option maxHeartbeats 1000000
open Go Go.Sort Go.Shelf
theorem xmc (s : ByteArray) (c : UInt8) : zca Tryz.prog 113 [.str s, .str ⟨#[c]⟩] (.bool (s.data.toList.contains c)) :=
 ⟨⟨Tryz.f113, Tryz.func113, by kernel_rfl, by kernel_rfl⟩, fun w S cargs m hm hr => by
  cases hr with
  | cons h1 hr =>
   cases hr with
   | cons h2 hr =>
    cases hr;cases h1;cases h2;refine zma (Any.strings_Contains_one Tryz.laysContains s c w) fun e w' ⟨he, hw⟩ => ?_;subst hw;rw [<- zQc];exact ⟨_, S, he, fun _ h => h, fun _ h => .inl h, hm, .bool _, Keep.refl _ _⟩⟩
theorem zed (c : UInt8) : zca Tryz.prog 111 [.int .u8 c.toNat] (.bool (figure c)) := by
 refine pO Tryz.func111 ?_;refine rA ?_;simp;refine rA ?_;by_cases h : (48 : Int) <= c.toNat
 ·simp [h];exact AWp.ret (pR1 rfl (by simp [inR, figure, h]))
 simp [h];exact AWp.ret (pR1 rfl (by simp [inR, figure, h]))
theorem yyc (c : UInt8) : zca Tryz.prog 159 [.int .u8 c.toNat] (.bool (figure c)) := by
 refine pO Tryz.func159 ?_;refine rA ?_;simp;refine raA ?_;have hw : IntKind.wrap .i64 (c.toNat : Int) = c.toNat := zga (by omega) (by have := c.toNat_lt; omega);simp [hw];refine z3a _ _ _ _ _ _ _ _ (zwa _ _ _) ?_;simp;exact AWp.ret (pR1 rfl (by simp [figure]))
theorem x9c {L : List UInt8} {f : UInt8 -> Bool} {i : Nat} (h : i < L.length) (ha : (L.take i).all f = true) (hf : f L[i] = true) : (L.take (i + 1)).all f = true := by
 rw [List.take_succ_eq_append_getElem h, List.all_append, ha];simp [hf]
theorem wac {L : List UInt8} {i : Nat} (h : i < L.length) : yVa (L.take (i + 1)) = yVa (L.take i) * 10 + (L[i].toNat - 48) := by
 rw [List.take_succ_eq_append_getElem h, zib]
theorem yRd {L : List UInt8} {f : UInt8 -> Bool} {i : Nat} (h : i < L.length) (hf : f L[i] = false) : L.all f = false := by
 rw [Bool.eq_false_iff];intro ha;rw [List.all_eq_true] at ha;rw [ha _ (List.getElem_mem h)] at hf;cases hf
theorem zhc {k n : Nat} (h : k <= n) : 10 ^ k <= 10 ^ n := Nat.pow_le_pow_right (by omega) h
theorem xqb (s : ByteArray) {T : TypeId} {m : Mem} (hm : m TB = some (yba T)) {K : AV -> Mem -> Prop} (hK : K (.tup [.int .i64 ((woa s.data.toList).getD 0), .bool (woa s.data.toList).isSome]) m) : zka Tryz.prog 112 [.str s] m K := by
 have hsz := z2a s;generalize hL : s.data.toList = L at *;refine wO Tryz.func112 ?_;refine rA ?_;try simp
 refine rA ?_;simp;refine oC' (zza s.size 1 10) ?_;simp;have fail : ∀ st : St, woa L = none -> st.sl 2 = .int .i64 0 -> st.sl 3 = .bool false -> st.mem = m -> Post Tryz.prog Tryz.f112 K .ret st := fun st hn s2 s3 sm => by
  rw [hn] at hK;exact ⟨[.int .i64 0, .bool false], _, m, by simp [Tryz.f112, zQa, s2, s3], by rw [sm]; exact View.refl _ _, hK⟩
 by_cases hin : 1 <= L.length /\ L.length <= 10;rotate_left
 ·have hi2 : inR s.size 1 10 = false := by simp [inR]; omega
  (repeat refine qA ?_);refine AWp.condT (by simp [hi2]) ?_;refine rA ?_;simp;refine AWp.ret (fail _ ?_ (by simp) (by simp) (by simp));unfold woa;rw [if_neg];intro h;apply hin;refine ⟨?_, h.1⟩;have := h.2.1;cases L with
  | nil => exact absurd rfl this
  | cons c l => simp
 have hi2 : inR s.size 1 10 = true := by simp [inR]; omega
 have hne : L ≠ [] := by rintro rfl; simp at hin
 (repeat refine qA ?_);refine AWp.condF (by simp [hi2]) ?_;refine kA ?_;try simp
 refine rA ?_;simp;refine rA ?_;simp;obtain ⟨M, hM⟩ : ∃ M : St -> Prop, M = (fun st => L.all figure = true /\ st.sl 0 = .str s /\ st.sl 4 = .int .i64 (yVa L : Nat) /\ st.mem = m) := ⟨_, rfl⟩;refine AWp.cA M ?_ ?_
 ·refine AWp.block (AWp.ro (fun q st => ∃ i : Nat, q = L.length - i /\ i <= L.length /\ (L.take i).all figure = true /\ st.sl 0 = .str s /\ st.sl 4 = .int .i64 (yVa (L.take i) : Nat) /\ st.sl 5 = .int .i64 i /\ st.mem = m) L.length ⟨0, by simp, by simp, by simp, by simp, by simp [yVa], by simp, by simp⟩ ?_);rintro RR q st hRR ⟨i, rfl, hi, ha, s0, s4, s5, sm⟩;by_cases hb : i < L.length
  ·have hget : s.data.toList[i]? = some L[i] := by rw [hL]; exact gE hb
   have hx : xXa Tryz.prog 9 (.str s) (.int .i64 i) = some (.int .u8 L[i].toNat) := sidx Tryz.underlying9 hget;have hlt : (i : Int) < s.size := by omega
   have hw := iA i (by omega);refine rA ?_;simp [s0, s5, hlt];refine tA ?_;refine kA ?_;try simp
   (repeat refine qA ?_);refine bA ?_;refine rA ?_;simp [s0, s5, hx];by_cases hf : figure L[i] = true
   ·have hf2 := xRa hf;have h1 : ¬ ((L[i].toNat : Int) < 48) := by omega
    have h2 : ¬ ((57 : Int) < L[i].toNat) := by omega
    have hv := y0c _ ha;have hp := zhc (show (L.take i).length <= 9 by simp; omega);have hw8 : IntKind.wrap .u8 ((L[i].toNat : Int) - 48) = ((L[i].toNat - 48 : Nat) : Int) := by rw [IntKind.wrap_u8]; omega
    have hwc : IntKind.wrap .i64 ((L[i].toNat - 48 : Nat) : Int) = ((L[i].toNat - 48 : Nat) : Int) := zga (by omega) (by omega);have hw1 : IntKind.wrap .i64 ((yVa (L.take i) : Int) * 10) = (yVa (L.take i) : Int) * 10 := zga (by omega) (by omega);have hw2 : IntKind.wrap .i64 ((yVa (L.take i) : Int) * 10 + ((L[i].toNat - 48 : Nat) : Int)) = (yVa (L.take (i + 1)) : Nat) := by rw [wac hb, zga (by omega) (by omega)]; push_cast; omega
    simp [h1, h2];refine fA ?_;refine kA ?_;try simp
    refine rA ?_;simp [s0, s4, s5, hx, hw8, hwc, hw1, hw2];refine rA ?_;simp [s5, hw];exact hRR _ (L.length - (i + 1)) (by omega) ⟨i + 1, rfl, by omega, x9c hb ha hf, by simp [s0], by simp, by simp, by simp [sm]⟩
   have hf : figure L[i] = false := by simpa using hf
   have hn : woa L = none := by
    unfold woa;rw [if_neg];intro h;rw [yRd hb hf] at h;exact absurd h.2.2.1 (by simp)
   have h3 : (L[i].toNat : Int) < 48 ∨ (57 : Int) < L[i].toNat := by
    unfold figure inR at hf;simp at hf;omega
   by_cases h1 : (L[i].toNat : Int) < 48
   ·simp [h1];refine tA ?_;refine rA ?_;simp;exact AWp.ret (fail _ hn (by simp) (by simp) (by simp [sm]))
   have h2 := h3.resolve_left h1;simp [h1, h2];refine tA ?_;refine rA ?_;simp;exact AWp.ret (fail _ hn (by simp) (by simp) (by simp [sm]))
  have : i = L.length := by omega
  subst this;have hlt : ¬ ((L.length : Int) < s.size) := by omega
  refine rA ?_;simp [s0, s5, hlt];refine fA ?_;refine eA ?_;rw [List.take_length] at ha s4;subst hM;exact ⟨ha, by simp [s0], by simp [s4], by simp [sm]⟩
 intro st hst;subst hM;obtain ⟨ha, s0, s4, sm⟩ := hst;have hv := y0c _ ha;have hp := zhc hin.2;have hnb := xOd hne ha;have hs2 : s = ⟨L.toArray⟩ := by rw [<- hL]
 refine rA ?_;simp [s0, s4];refine wA ?_;simp [sm];refine xGa (yVa L : Nat) (by omega) (by omega) hm ?_;try simp
 by_cases hh : L.length = 1 ∨ L.head? ≠ some 48
 ·have e1 : xNc (yVa L : Nat) = s := by rw [hs2]; exact hnb.2 hh
  simp [e1, s4, s0];refine oC' (wad (yVa L : Nat)) ?_;simp;by_cases hmx : yVa L <= 2147483647
  ·have hwd : z5e (yVa L : Nat) = true := by unfold z5e inR; simp; omega
   simp [hwd];refine fA ?_;refine kA ?_;try simp
   refine rA ?_;simp [s4];refine AWp.ret ?_;have hn : woa L = some ((yVa L : Nat) : Int) := by unfold woa; rw [if_pos ⟨hin.2, hne, ha, hh, hmx⟩]
   rw [hn] at hK;exact ⟨[.int .i64 (yVa L : Nat), .bool true], _, m, by simp [Tryz.f112, zQa, s4], by simp [sm]; exact View.refl _ _, hK⟩
  have hwd : z5e (yVa L : Nat) = false := by unfold z5e inR; simp; omega
  simp [hwd];refine tA ?_;refine rA ?_;simp;exact AWp.ret (fail _ (by unfold woa; rw [if_neg (fun h => hmx h.2.2.2.2)]) (by simp) (by simp) (by simp [sm]))
 have e1 : ¬ xNc (yVa L : Nat) = s := by rw [hs2]; exact fun e => hh (hnb.1 e)
 simp [e1, s0];refine tA ?_;refine rA ?_;simp;exact AWp.ret (fail _ (by unfold woa; rw [if_neg (fun h => hh h.2.2.2.1)]) (by simp) (by simp) (by simp [sm]))
theorem xrb (s : ByteArray) (hz : s.size <= 1048576) : zca Tryz.prog 160 [.str s] (.tup [.int .i64 ((woa s.data.toList).getD 0), .bool (woa s.data.toList).isSome]) := by
 have hsz := z2a s;generalize hL : s.data.toList = L at *;refine pO Tryz.func160 ?_;refine rA ?_;try simp
 refine rA ?_;try simp
 refine rA ?_;simp;have fail : ∀ st : St, woa L = none -> st.sl 2 = .int .i64 0 -> st.sl 3 = .bool false -> Post Tryz.prog Tryz.f160 (fun r _ => r = .tup [.int .i64 ((woa L).getD 0), .bool (woa L).isSome]) .ret st := fun st hn s2 s3 => by
  rw [hn];exact yWb rfl s2 s3
 obtain ⟨M, hM⟩ : ∃ M : St -> Prop, M = (fun st => ∃ i : Nat, (i = L.length ∨ i = 11) /\ i <= L.length /\ i <= 11 /\ (L.take i).all figure = true /\ st.sl 0 = .str s /\ st.sl 4 = .int .i64 (yVa (L.take i) : Nat)) := ⟨_, rfl⟩;refine AWp.cA M ?_ ?_
 ·refine AWp.block (AWp.ro (fun q st => ∃ i : Nat, q = L.length - i /\ i <= L.length /\ i <= 11 /\ (L.take i).all figure = true /\ st.sl 0 = .str s /\ st.sl 4 = .int .i64 (yVa (L.take i) : Nat) /\ st.sl 5 = .int .i64 i) L.length ⟨0, by simp, by simp, by simp, by simp, by simp, by simp [yVa], by simp⟩ ?_);rintro RR q st hRR ⟨i, rfl, hi, h11, ha, s0, s4, s5⟩;by_cases hb : i < L.length
  ·have hget : s.data.toList[i]? = some L[i] := by rw [hL]; exact gE hb
   have hx : xXa Tryz.prog 9 (.str s) (.int .i64 i) = some (.int .u8 L[i].toNat) := sidx Tryz.underlying9 hget;have hlt : (i : Int) < s.size := by omega
   have hw := iA i (by omega);by_cases hl11 : i < 11
   ·have hl : (i : Int) < 11 := by omega
    refine rA ?_;simp [s0, s5, hlt, hl];refine tA ?_;refine kA ?_;try simp
    (repeat refine qA ?_);refine bA ?_;have hwx : IntKind.wrap .i64 (L[i].toNat : Int) = (L[i].toNat : Int) := zga (by omega) (by have := L[i].toNat_lt; omega);refine rA ?_;simp [s0, s5, hx, hwx];refine oC' (zwa L[i].toNat 48 57) ?_;have hfe : inR L[i].toNat 48 57 = figure L[i] := rfl;simp [hfe];by_cases hf : figure L[i] = true
    ·have hf2 := xRa hf;have hv := y0c _ ha;have hp := zhc (show (L.take i).length <= 10 by simp; omega);have hw8 : IntKind.wrap .u8 ((L[i].toNat : Int) - 48) = ((L[i].toNat - 48 : Nat) : Int) := by rw [IntKind.wrap_u8]; omega
     have hwc : IntKind.wrap .i64 ((L[i].toNat - 48 : Nat) : Int) = ((L[i].toNat - 48 : Nat) : Int) := zga (by omega) (by omega);have hw1 : IntKind.wrap .i64 ((yVa (L.take i) : Int) * 10) = (yVa (L.take i) : Int) * 10 := zga (by omega) (by omega);have hw2 : IntKind.wrap .i64 ((yVa (L.take i) : Int) * 10 + ((L[i].toNat - 48 : Nat) : Int)) = (yVa (L.take (i + 1)) : Nat) := by rw [wac hb, zga (by omega) (by omega)]; push_cast; omega
     (repeat refine qA ?_);refine AWp.condF (by simp [hf]) ?_;refine kA ?_;try simp
     refine rA ?_;simp [s0, s4, s5, hx, hw8, hwc, hw1, hw2];refine rA ?_;simp [s5, hw];exact hRR _ (L.length - (i + 1)) (by omega) ⟨i + 1, rfl, by omega, by omega, x9c hb ha hf, by simp [s0], by simp, by simp⟩
    have hf : figure L[i] = false := by simpa using hf
    have hn : woa L = none := by
     unfold woa;rw [if_neg];intro h;rw [yRd hb hf] at h;exact absurd h.2.2.1 (by simp)
    (repeat refine qA ?_);refine AWp.condT (by simp [hf]) ?_;refine rA ?_;simp;exact AWp.ret (fail _ hn (by simp) (by simp))
   have hl : ¬ ((i : Int) < 11) := by omega
   refine rA ?_;simp [s0, s5, hlt, hl];refine fA ?_;refine eA ?_;subst hM;exact ⟨i, .inr (by omega), hi, h11, ha, by simp [s0], by simp [s4]⟩
  have : i = L.length := by omega
  have hlt : ¬ ((i : Int) < s.size) := by omega
  refine rA ?_;simp [s0, s5, hlt];refine fA ?_;refine eA ?_;subst hM;exact ⟨i, .inl this, hi, h11, ha, by simp [s0], by simp [s4]⟩
 intro st hst;subst hM;obtain ⟨i, hie, hi, h11, ha, s0, s4⟩ := hst;refine rA ?_;simp [s0];refine oC' (zwa s.size 1 10) ?_;simp;by_cases hin : 1 <= L.length /\ L.length <= 10;rotate_left
 ·have hi2 : inR s.size 1 10 = false := by simp [inR]; omega
  simp [hi2];refine tA ?_;refine rA ?_;simp;refine AWp.ret (fail _ ?_ (by simp) (by simp));unfold woa;rw [if_neg];intro h;apply hin;refine ⟨?_, h.1⟩;have := h.2.1;cases L with
  | nil => exact absurd rfl this
  | cons c l => simp
 have hi2 : inR s.size 1 10 = true := by simp [inR]; omega
 have hne : L ≠ [] := by rintro rfl; simp at hin
 have hil : i = L.length := by omega
 subst hil;rw [List.take_length] at ha s4;simp [hi2, s0];have hx0 : xXa Tryz.prog 9 (.str s) (.int .i64 ((0 : Nat) : Int)) = some (.int .u8 (L[0]'(by omega)).toNat) := sidx Tryz.underlying9 (by rw [hL]; exact gE (by omega));simp only [Int.natCast_zero] at hx0;have hh0 : L.head? = some (L[0]'(by omega)) := by rw [List.head?_eq_getElem?]; exact gE (by omega)
 have ok : ∀ st : St, (L.length = 1 ∨ L.head? ≠ some 48) -> yVa L <= 2147483647 -> st.sl 2 = .int .i64 (yVa L : Nat) -> st.sl 3 = .bool true -> Post Tryz.prog Tryz.f160 (fun r _ => r = .tup [.int .i64 ((woa L).getD 0), .bool (woa L).isSome]) .ret st := fun st h1 h2 s2 s3 => by
  have hn : woa L = some ((yVa L : Nat) : Int) := by unfold woa; rw [if_pos ⟨hin.2, hne, ha, h1, h2⟩]
  rw [hn];exact yWb rfl s2 s3
 have tail : ∀ st : St, (L.length = 1 ∨ L.head? ≠ some 48) -> (yVa L <= 2147483647 -> Post Tryz.prog Tryz.f160 (fun r _ => r = .tup [.int .i64 ((woa L).getD 0), .bool (woa L).isSome]) .ret st) -> True := fun _ _ _ => trivial;by_cases h1 : L.length = 1
 ·have hs1 : ¬ ((1 : Int) < s.size) := by omega
  simp [hs1, s4];by_cases hmx : yVa L <= 2147483647
  ·have hm2 : ¬ ((2147483647 : Int) < (yVa L : Nat)) := by omega
   simp [hm2];refine fA ?_;refine kA ?_;try simp
   refine rA ?_;simp [s4];exact AWp.ret (ok _ (.inl h1) hmx (by simp) (by simp))
  have hm2 : (2147483647 : Int) < (yVa L : Nat) := by omega
  simp [hm2];refine tA ?_;refine rA ?_;simp;exact AWp.ret (fail _ (by unfold woa; rw [if_neg (fun h => hmx h.2.2.2.2)]) (by simp) (by simp))
 have hs1 : (1 : Int) < s.size := by omega
 simp [hs1, s0, hx0];by_cases h48 : L[0]'(by omega) = 48
 ·have e48 : ((L[0]'(by omega)).toNat : Int) = 48 := by rw [h48]; rfl
  simp [e48];refine tA ?_;refine rA ?_;simp;refine AWp.ret (fail _ ?_ (by simp) (by simp));unfold woa;rw [if_neg];intro h;rcases h.2.2.2.1 with h | h
  ·exact h1 h
  rw [hh0, h48] at h; exact h rfl
 have e48 : ¬ ((L[0]'(by omega)).toNat : Int) = 48 := by
  intro e;apply h48;apply UInt8.toNat_inj.1;have : (48 : UInt8).toNat = 48 := rfl;omega
 simp [e48, s4];have hhd : L.head? ≠ some 48 := by rw [hh0]; intro e; exact h48 (Option.some.inj e)
 by_cases hmx : yVa L <= 2147483647
 ·have hm2 : ¬ ((2147483647 : Int) < (yVa L : Nat)) := by omega
  simp [hm2];refine fA ?_;refine kA ?_;try simp
  refine rA ?_;simp [s4];exact AWp.ret (ok _ (.inr hhd) hmx (by simp) (by simp))
 have hm2 : (2147483647 : Int) < (yVa L : Nat) := by omega
 simp [hm2];refine tA ?_;refine rA ?_;simp;exact AWp.ret (fail _ (by unfold woa; rw [if_neg (fun h => hmx h.2.2.2.2)]) (by simp) (by simp))
end Go.T
namespace Go.T
open Go Go.Proofs
set_option maxRecDepth 10000
set_option maxHeartbeats 1000000
open Go
theorem ySd (want : UInt8 -> Bool) (fn : FuncId) (hw : ∀ c : UInt8, zca Tryz.prog fn [.int .u8 c.toNat] (.bool (want c))) (s : ByteArray) (hz : s.size <= 1048576) : zca Tryz.prog 107 [.str s, .func (.func fn) []] (.str ⟨(s.data.toList.takeWhile want).toArray⟩) := by
 have hsz := z2a s;generalize hL : s.data.toList = L at *;refine pO Tryz.func107 ?_;refine rA ?_;try simp
 refine rA ?_;simp;obtain ⟨M, hM⟩ : ∃ M : St -> Prop, M = (fun st => ∃ i : Nat, i <= L.length /\ L.take i = L.takeWhile want /\ st.sl 0 = .str s /\ st.sl 5 = .int .i64 i) := ⟨_, rfl⟩;(repeat refine qA ?_);refine AWp.cA M ?_ ?_
 ·refine AWp.block (AWp.ro (fun q st => ∃ i : Nat, q = L.length - i /\ i <= L.length /\ (∀ x ∈ L.take i, want x = true) /\ st.sl 0 = .str s /\ st.sl 1 = .func (.func fn) [] /\ st.sl 5 = .int .i64 i) L.length ⟨0, by simp, by simp, by simp, by simp, by simp, by simp⟩ ?_);rintro RR q st hRR ⟨i, rfl, hi, ha, s0, s1, s5⟩;have htk := xya want L i ha;by_cases hb : i < L.length
  ·have hget : s.data.toList[i]? = some L[i] := by rw [hL]; exact gE hb
   have hx : xXa Tryz.prog 9 (.str s) (.int .i64 i) = some (.int .u8 L[i].toNat) := sidx Tryz.underlying9 hget;have hlt : (i : Int) < s.size := by omega
   have hwr := iA i (by omega);have hdr : L.drop i = L[i] :: L.drop (i + 1) := List.drop_eq_getElem_cons hb;refine rA ?_;simp [s0, s1, s5, hlt, hx];refine xna _ _ _ _ _ _ _ _ rfl (show _ = AV.func (.func fn) [] by simp) ?_;try simp
   refine (hw L[i]).w ?_;try simp
   by_cases hf : want L[i] = true
   ·(repeat refine qA ?_);refine AWp.condT (by simp [hf]) ?_;refine kA ?_;try simp
    (repeat refine qA ?_);refine bA ?_;refine rA ?_;simp [s5, hwr];refine hRR _ (L.length - (i + 1)) (by omega) ⟨i + 1, rfl, by omega, ?_, by simp [s0], by simp [s1], by simp⟩;intro x hx;rw [List.take_succ_eq_append_getElem hb] at hx;rcases List.mem_append.1 hx with hx | hx
    ·exact ha x hx
    simp at hx; rw [hx]; exact hf
   have hf : want L[i] = false := by simpa using hf
   (repeat refine qA ?_);refine AWp.condF (by simp [hf]) ?_;refine eA ?_;subst hM;refine ⟨i, hi, ?_, by simp [s0], by simp [s5]⟩;rw [htk, hdr, List.takeWhile_cons];simp [hf]
  have : i = L.length := by omega
  subst this;have hlt : ¬ ((L.length : Int) < s.size) := by omega
  refine rA ?_;simp [s0, s5, hlt];refine fA ?_;refine eA ?_;subst hM;refine ⟨L.length, hi, ?_, by simp [s0], by simp [s5]⟩;rw [htk, List.drop_length];simp
 intro st hst;subst hM;obtain ⟨i, hi, ht, s0, s5⟩ := hst;have hsl : yQa Tryz.prog 9 (.str s) none (some (.int .i64 i)) = some (.str (s.extract 0 i)) := by
  have h1 : ¬ ((i : Int) < 0) := by omega
  have h2 : i <= s.size := by omega
  unfold yQa;simp only [Tryz.underlying9, z5a, h1, if_false, Int.toNat_natCast, h2, if_true]
 refine rA ?_;simp [s0, s5, hsl];refine AWp.ret (pR1 rfl ?_);simp [xxa, hL, ht]
theorem Mem.ext_box {m : Mem} {g : Nat} (hg : m g = none) (cs : List AV) : ∀ k b, m k = some b -> (m.set g (.box cs)) k = some b := fun k b hk => by
 rw [Mem.so]
 ·exact hk
 rintro rfl; rw [hg] at hk; cases hk
theorem yzc {c : UInt8} {l : List UInt8} {p : UInt8 -> Bool} (h : p c = false) : (c :: l).takeWhile p = [] := by simp [List.takeWhile_cons, h]
theorem wAb {c : UInt8} {l : List UInt8} {p : UInt8 -> Bool} (h : p c = true) : (c :: l).takeWhile p ≠ [] := by simp [List.takeWhile_cons, h]
theorem yAb (p : UInt8 -> Bool) (L : List UInt8) : (L.length : Int) - ((L.dropWhile p).length : Int) = ((L.takeWhile p).length : Int) := by
 have h1 := congrArg List.length (List.takeWhile_append_dropWhile (p := p) (l := L));rw [List.length_append] at h1;omega
theorem yBb (p : UInt8 -> Bool) (L : List UInt8) : (L.takeWhile p).length <= L.length := by
 have h1 := congrArg List.length (List.takeWhile_append_dropWhile (p := p) (l := L));rw [List.length_append] at h1;omega
theorem yPe {l : List UInt8} (h : l ≠ []) : (⟨l.toArray⟩ : ByteArray) ≠ ByteArray.empty := fun e => h (by
 have := congrArg (fun x : ByteArray => x.data.toList) e;simpa using this)
theorem zHe (c : UInt8) (l : List UInt8) (hz : (c :: l).length <= 1048576) {T : TypeId} {m : Mem} (hm : m TB = some (yba T)) {K : AV -> Mem -> Prop}
  (hK : ∀ (k : Int) (s : ByteArray) (n z : Int), (∀ t r, zhb (c :: l) = some (t, r) -> t = ⟨k, s, n⟩ /\ z = ((c :: l).length : Int) - (r.length : Int)) -> K (.tup [.agg [.int .i64 k, .str s, .int .i64 n], .int .i64 z, .bool (zhb (c :: l)).isSome]) m) : zka Tryz.prog 51 [.str ⟨(c :: l).toArray⟩] m K := by
 generalize hL : c :: l = L at *;have crL := ySd small 108 wtb ⟨L.toArray⟩ (by rw [zUa]; exact hz);have crF := ySd figure 111 zed ⟨L.toArray⟩ (by rw [zUa]; exact hz);rw [yDa] at crL crF;have eE : ByteArray.empty = (⟨#[]⟩ : ByteArray) := rfl;have htw := yBb small L;have htf := yBb figure L;refine wO Tryz.func51 ?_;refine rA ?_;simp;intro g hg;have hE := Mem.ext_box hg;have hmg : ∀ cs, (m.set g (.box cs)) TB = some (yba T) := fun cs => hE cs _ _ hm;refine rA ?_;simp;refine oC' crL ?_;simp;refine rA ?_;simp;by_cases hs : small c = true
 ·have hw : L.takeWhile small ≠ [] := by rw [<- hL]; exact wAb hs
  have hdl := yAb small L;have hne := yPe hw;have ht : zhb L = if kept ⟨(L.takeWhile small).toArray⟩ then some (⟨3, ⟨(L.takeWhile small).toArray⟩, 0⟩, L.dropWhile small) else if zxa ⟨(L.takeWhile small).toArray⟩ then some (⟨1, ⟨(L.takeWhile small).toArray⟩, 0⟩, L.dropWhile small) else none := by
   rw [<- hL]; simp only [zhb, hs, if_true]
  generalize L.takeWhile small = w at *;(repeat refine qA ?_);refine AWp.condT (by simp [hne, hw]) ?_;refine rA ?_;simp;refine oC' (x5c ⟨w.toArray⟩) ?_;simp;by_cases hk : kept ⟨w.toArray⟩ = true
  ·(repeat refine qA ?_);refine AWp.condT (by simp [hk]) ?_;rw [if_pos hk] at ht;refine rA ?_;simp [zUa];refine AWp.ret ⟨[.agg [.int .i64 3, .str ⟨w.toArray⟩, .int .i64 0], .int .i64 w.length, .bool true], _, m, by simp [Tryz.f51, zQa, zUa, eE, yqa], by (first | exact View.fo (hE _) _ | (simp; exact View.fo (hE _) _)), ?_⟩
   have := hK 3 ⟨w.toArray⟩ 0 w.length (fun t r h => by rw [ht] at h; cases h; exact ⟨rfl, hdl.symm⟩);rw [ht] at this;simpa [yhb] using this
  (repeat refine qA ?_);refine AWp.condF (by simp [hk]) ?_;refine kA ?_;try simp
  rw [if_neg hk] at ht;refine rA ?_;simp [zUa];refine oC' (zpa ⟨w.toArray⟩ (by rw [zUa]; omega)) ?_;simp;refine AWp.ret ⟨[.agg [.int .i64 1, .str ⟨w.toArray⟩, .int .i64 0], .int .i64 w.length, .bool (zxa ⟨w.toArray⟩)], _, m, by simp [Tryz.f51, zQa, zUa, eE, yqa], by (first | exact View.fo (hE _) _ | (simp; exact View.fo (hE _) _)), ?_⟩
  have e : (zhb L).isSome = zxa ⟨w.toArray⟩ := by
   rw [ht];split
   ·rename_i h; rw [h]; rfl
   rename_i h; simp at h; rw [h]; rfl
  have := hK 1 ⟨w.toArray⟩ 0 w.length (fun t r h => by
   rw [ht] at h;split at h
   ·cases h; exact ⟨rfl, hdl.symm⟩
   cases h)
  rw [e] at this;simpa [yhb] using this
 have hs : small c = false := by simpa using hs
 have hw : L.takeWhile small = [] := by rw [<- hL]; exact yzc hs
 rw [hw];(repeat refine qA ?_);refine AWp.condF (by simp; try rfl) ?_;refine kA ?_;try simp
 refine rA ?_;simp;refine oC' crF ?_;simp;refine rA ?_;simp;by_cases hf : figure c = true
 ·have hw2 : L.takeWhile figure ≠ [] := by rw [<- hL]; exact wAb hf
  have hdl := yAb figure L;have hne := yPe hw2;have ht : zhb L = match woa (L.takeWhile figure) with | some n => if n <= 999999 then some (⟨2, ⟨#[]⟩, n⟩, L.dropWhile figure) else none | none => none := by
   rw [<- hL]; simp only [zhb, hs, hf, Bool.false_eq_true, if_true, if_false]; rfl
  generalize L.takeWhile figure = x at *;(repeat refine qA ?_);refine AWp.condT (by simp [hne, hw2]) ?_;refine rA ?_;simp;refine wA ?_;simp;refine xqb ⟨x.toArray⟩ (by simpa using hmg _) ?_;rw [yDa];simp;generalize hq : woa x = q at *;cases q with
  | none =>
   refine rA ?_;simp [zUa];refine AWp.ret ⟨[.agg [.int .i64 2, .str ⟨#[]⟩, .int .i64 0], .int .i64 x.length, .bool false], _, m, by simp [Tryz.f51, zQa, zUa, eE, yqa], by (first | exact View.fo (hE _) _ | (simp; exact View.fo (hE _) _)), ?_⟩
   have := hK 2 ⟨#[]⟩ 0 x.length (fun t r h => by rw [ht] at h; cases h);rw [ht] at this;simpa [yhb] using this
  | some n =>
   simp only at ht;by_cases h9 : n <= 999999
   ·rw [if_pos h9] at ht;refine rA ?_;simp [zUa, h9];refine AWp.ret ⟨[.agg [.int .i64 2, .str ⟨#[]⟩, .int .i64 n], .int .i64 x.length, .bool true], _, m, by simp [Tryz.f51, zQa, zUa, eE, yqa], by (first | exact View.fo (hE _) _ | (simp; exact View.fo (hE _) _)), ?_⟩
    have := hK 2 ⟨#[]⟩ n x.length (fun t r h => by rw [ht] at h; cases h; exact ⟨rfl, hdl.symm⟩);rw [ht] at this;simpa [yhb] using this
   rw [if_neg h9] at ht;refine rA ?_;simp [zUa, h9];refine AWp.ret ⟨[.agg [.int .i64 2, .str ⟨#[]⟩, .int .i64 n], .int .i64 x.length, .bool false], _, m, by simp [Tryz.f51, zQa, zUa, eE, yqa], by (first | exact View.fo (hE _) _ | (simp; exact View.fo (hE _) _)), ?_⟩
   have := hK 2 ⟨#[]⟩ n x.length (fun t r h => by rw [ht] at h; cases h);rw [ht] at this;simpa [yhb] using this
 have hf : figure c = false := by simpa using hf
 have hw2 : L.takeWhile figure = [] := by rw [<- hL]; exact yzc hf
 rw [hw2];(repeat refine qA ?_);refine AWp.condF (by simp; try rfl) ?_;refine kA ?_;try simp
 have ht : zhb L = if yqa.contains c then some (⟨4, ⟨#[c]⟩, 0⟩, l) else none := by
  rw [<- hL]; simp only [zhb, hs, hf, Bool.false_eq_true, if_false]
 have hlen : (L.length : Int) - (l.length : Int) = 1 := by rw [<- hL, List.length_cons]; omega
 have hL1 : 1 <= L.length := by rw [<- hL, List.length_cons]; omega
 have hsl : yQa Tryz.prog 9 (.str ⟨L.toArray⟩) none (some (.int .i64 1)) = some (.str ⟨#[c]⟩) := by
  have h2 : 1 <= (⟨L.toArray⟩ : ByteArray).size := by rw [zUa]; omega
  have e1 : (⟨L.toArray⟩ : ByteArray).extract 0 1 = ⟨#[c]⟩ := by rw [xxa, yDa, <- hL]; rfl
  unfold yQa;simp only [Tryz.underlying9, z5a];simp [h2, e1]
 have cc := xmc ⟨#[59, 61, 91, 93, 40, 41, 123, 125, 43, 45, 42, 44]⟩ c;(repeat refine qA ?_);refine AWp.rG (fun i => i == 5) (fun _ => false) [0, 1, 2, 3, 4, 5, 6, 7, 8] [0, 1, 2, 3, 4, 5, 6, 7, 8] (by kernel_rfl) ?_;simp [hsl];refine oC' cc ?_;simp;refine AWp.ret ⟨[.agg [.int .i64 4, .str ⟨#[c]⟩, .int .i64 0], .int .i64 1, .bool (yqa.contains c)], _, m, by simp [Tryz.f51, zQa, zUa, eE, yqa], by (first | exact View.fo (hE _) _ | (simp; exact View.fo (hE _) _)), ?_⟩
 have e : (zhb L).isSome = yqa.contains c := by
  rw [ht];split
  ·rename_i h; rw [h]; rfl
  rename_i h; simp only [Bool.not_eq_true] at h; rw [h]; rfl
 have := hK 4 ⟨#[c]⟩ 0 1 (fun t r h => by
  rw [ht] at h;split at h
  ·cases h; exact ⟨rfl, hlen.symm⟩
  cases h)
 rw [e] at this;simpa [yhb, yqa] using this
theorem wbd (s : ByteArray) (hz : s.size <= 1048576) (a : Nat) (ha : a < s.size) {m : Mem} {K : AV -> Mem -> Prop}
  (hK : ∀ (k : Int) (w : ByteArray) (n z : Int), (match zhb (s.data.toList.drop a) with | some (t, r) => t = ⟨k, w, n⟩ /\ z = s.size - (r.length : Int) | none => k = 0) -> K (.tup [.agg [.int .i64 k, .str w, .int .i64 n], .int .i64 z]) m) : zka Tryz.prog 120 [.str s, .int .i64 a] m K := by
 have hsz := z2a s;generalize hL : s.data.toList.drop a = L at *;have hLl : L.length = s.size - a := by rw [<- hL, List.length_drop]; omega
 obtain ⟨c, l, hcl⟩ : ∃ c l, L = c :: l := by
  cases L with
  | nil => simp at hLl; omega
  | cons c l => exact ⟨c, l, rfl⟩
 have hget0 : s.data.toList[a]? = some c := by
  have := List.getElem?_drop (xs := s.data.toList) (i := a) (j := 0);rw [hL, hcl] at this;simpa using this.symm
 have hx0 : xXa Tryz.prog 9 (.str s) (.int .i64 a) = some (.int .u8 c.toNat) := sidx Tryz.underlying9 hget0;have hex : ∀ n : Nat, s.extract a (a + n) = ⟨(L.take n).toArray⟩ := fun n => by
  rw [xxa, <- hL, List.drop_take];simp
 have hsl : ∀ n : Nat, n <= L.length -> yQa Tryz.prog 9 (.str s) (some (.int .i64 a)) (some (.int .i64 ((a : Int) + (n : Int)))) = some (.str ⟨(L.take n).toArray⟩) := fun n hn => by
  rw [show (a : Int) + (n : Int) = ((a + n : Nat) : Int) by omega];have h1 : ¬ (((a + n : Nat) : Int) < 0) := by omega
  have h2 : a + n <= s.size := by omega
  have h3 : ¬ ((a : Int) < 0) := by omega
  have h4 : a <= a + n := by omega
  unfold yQa;simp only [Tryz.underlying9, z5a, h1, h3, h4, if_false, Int.toNat_natCast, h2, if_true, hex]
 have eE : ByteArray.empty = (⟨#[]⟩ : ByteArray) := rfl;have htw := yBb small L;have htf := yBb figure L;refine wO Tryz.func120 ?_;refine rA ?_;simp;intro g hg;have hE := Mem.ext_box hg;refine rA ?_;simp;refine AWp.gen (fun st => st.sl 0 = .str s /\ st.sl 1 = .int .i64 a /\ st.sl 4 = .ptr g 0 /\ st.sl 6 = .int .i64 a /\ st.mem = m.set g (.box [.int .i64 0, .str ⟨#[]⟩, .int .i64 0])) ⟨by simp, by simp, by simp, by simp, by simp; try rfl⟩ ?_;rintro st ⟨s0, s1, s4, s6, sm⟩;(repeat refine qA ?_);refine AWp.cA (fun st => small c = false /\ figure c = false /\ st.sl 0 = .str s /\ st.sl 1 = .int .i64 a /\ st.sl 4 = .ptr g 0 /\ st.mem = m.set g (.box [.int .i64 0, .str ⟨#[]⟩, .int .i64 0])) ?_ ?_
 ·(repeat refine qA ?_);refine bA ?_;refine rA ?_;simp [s0, s1, hx0];refine z3a _ _ _ _ _ _ _ _ (xhb c) ?_;try simp
  by_cases hs : small c = true
  ·have hdl := yAb small L;have ht : zhb L = if kept ⟨(L.takeWhile small).toArray⟩ then some (⟨3, ⟨(L.takeWhile small).toArray⟩, 0⟩, L.dropWhile small) else if zxa ⟨(L.takeWhile small).toArray⟩ then some (⟨1, ⟨(L.takeWhile small).toArray⟩, 0⟩, L.dropWhile small) else none := by
    rw [hcl]; simp only [zhb, hs, if_true]
   have htt := zOb small L;have hslw := hsl _ htw;rw [htt] at hslw;(repeat refine qA ?_);refine AWp.condT (by simp [hs]) ?_;refine AWp.gen (fun st => st.sl 0 = .str s /\ st.sl 1 = .int .i64 a /\ st.sl 4 = .ptr g 0 /\ st.sl 6 = .int .i64 (a : Int) /\ st.mem = m.set g (.box [.int .i64 0, .str ⟨#[]⟩, .int .i64 0])) ⟨by simp [s0], by simp [s1], by simp [s4], by simp [s6], by simp [sm]⟩ ?_;clear s0 s1 s4 s6 sm;rintro st ⟨s0, s1, s4, s6, sm⟩;(repeat refine qA ?_);refine AWp.cA (fun st => st.sl 0 = .str s /\ st.sl 1 = .int .i64 a /\ st.sl 4 = .ptr g 0 /\ st.sl 6 = .int .i64 ((a : Int) + ((L.takeWhile small).length : Int)) /\ st.mem = m.set g (.box [.int .i64 0, .str ⟨#[]⟩, .int .i64 0])) ?_ ?_
   ·refine AWp.block (AWp.ro (fun q st => ∃ i : Nat, q = L.length - i /\ i <= L.length /\ (∀ x ∈ L.take i, small x = true) /\ st.sl 0 = .str s /\ st.sl 1 = .int .i64 a /\ st.sl 4 = .ptr g 0 /\ st.sl 6 = .int .i64 ((a : Int) + (i : Int)) /\ st.mem = m.set g (.box [.int .i64 0, .str ⟨#[]⟩, .int .i64 0])) L.length ⟨0, by simp, by simp, by simp, by simp [s0], by simp [s1], by simp [s4], by simp [s6], by simp [sm]⟩ ?_);clear s0 s1 s4 s6 sm;rintro RR q st hRR ⟨i, rfl, hi, ha, s0, s1, s4, s6, sm⟩;have htk := xya small L i ha;by_cases hb : i < L.length
    ·have hget : s.data.toList[a + i]? = some L[i] := by rw [<- List.getElem?_drop, hL]; exact gE hb
     have hx : xXa Tryz.prog 9 (.str s) (.int .i64 ((a : Int) + (i : Int))) = some (.int .u8 L[i].toNat) := by
      rw [show (a : Int) + (i : Int) = ((a + i : Nat) : Int) by omega];exact sidx Tryz.underlying9 hget
     have hlt : (a : Int) + (i : Int) < s.size := by omega
     have hwr : IntKind.wrap .i64 ((a : Int) + (i : Int) + 1) = (a : Int) + ((i : Int) + 1) := by rw [zga (by omega) (by omega)]; omega
     have hdr : L.drop i = L[i] :: L.drop (i + 1) := List.drop_eq_getElem_cons hb;refine rA ?_;simp [s0, s6, hlt, hx];refine z3a _ _ _ _ _ _ _ _ (xhb L[i]) ?_;try simp
     by_cases hf : small L[i] = true
     ·(repeat refine qA ?_);refine AWp.condT (by simp [hf]) ?_;refine kA ?_;try simp
      (repeat refine qA ?_);refine bA ?_;refine rA ?_;simp [s6, hwr];refine hRR _ (L.length - (i + 1)) (by omega) ⟨i + 1, rfl, by omega, ?_, by simp [s0], by simp [s1], by simp [s4], by simp, by simp [sm]⟩;intro x hx;rw [List.take_succ_eq_append_getElem hb] at hx;rcases List.mem_append.1 hx with hx | hx
      ·exact ha x hx
      simp at hx; rw [hx]; exact hf
     have hf : small L[i] = false := by simpa using hf
     (repeat refine qA ?_);refine AWp.condF (by simp [hf]) ?_;refine eA ?_;have e : (L.takeWhile small).length = i := by
      rw [htk, hdr, List.takeWhile_cons];simp [hf];omega
     exact ⟨by simp [s0], by simp [s1], by simp [s4], by simp [s6, e], by simp [sm]⟩
    have : i = L.length := by omega
    subst this;have hlt : ¬ ((a : Int) + (L.length : Int) < s.size) := by omega
    refine rA ?_;simp [s0, s6, hlt];refine fA ?_;refine eA ?_;have e : (L.takeWhile small).length = L.length := by
     rw [htk, List.drop_length];simp
    exact ⟨by simp [s0], by simp [s1], by simp [s4], by simp [s6, e], by simp [sm]⟩
   clear s0 s1 s4 s6 sm;rintro st ⟨s0, s1, s4, s6, sm⟩;generalize hk1 : (a : Int) + ((L.takeWhile small).length : Int) = k1 at *;have hk2 : k1 = s.size - ((L.dropWhile small).length : Int) := by omega
   generalize L.takeWhile small = w at *;refine rA ?_;simp [s0, s1, s6, hslw];refine z3a _ _ _ _ _ _ _ _ (x4c ⟨w.toArray⟩) ?_;try simp
   by_cases hk : kept ⟨w.toArray⟩ = true
   ·(repeat refine qA ?_);refine AWp.condT (by simp [hk]) ?_;rw [if_pos hk] at ht;rw [ht] at hK;refine rA ?_;simp [s0, s1, s4, s6, sm, hslw];refine AWp.ret ⟨[.agg [.int .i64 3, .str ⟨w.toArray⟩, .int .i64 0], .int .i64 k1], _, m, by simp [Tryz.f120, zQa, s4, eE], by (first | exact View.fo (hE _) _ | (simp; exact View.fo (hE _) _)), ?_⟩
    exact hK 3 ⟨w.toArray⟩ 0 k1 ⟨rfl, hk2⟩
   (repeat refine qA ?_);refine AWp.condF (by simp [hk]) ?_;refine kA ?_;try simp
   rw [if_neg hk] at ht;rw [ht] at hK;refine rA ?_;simp [s0, s1, s6, hslw];refine z3a _ _ _ _ _ _ _ _ (xNO ⟨w.toArray⟩ (by rw [zUa]; omega)) ?_;try simp
   by_cases hn : zxa ⟨w.toArray⟩ = true
   ·(repeat refine qA ?_);refine AWp.condT (by simp [hn]) ?_;rw [if_pos hn] at hK;refine rA ?_;simp [s0, s1, s4, s6, sm, hslw];refine AWp.ret ⟨[.agg [.int .i64 1, .str ⟨w.toArray⟩, .int .i64 0], .int .i64 k1], _, m, by simp [Tryz.f120, zQa, s4, eE], by (first | exact View.fo (hE _) _ | (simp; exact View.fo (hE _) _)), ?_⟩
    exact hK 1 ⟨w.toArray⟩ 0 k1 ⟨rfl, hk2⟩
   (repeat refine qA ?_);refine AWp.condF (by simp [hn]) ?_;refine kA ?_;try simp
   rw [if_neg hn] at hK;refine rA ?_;simp [s0, s1, s4, s6, sm];refine AWp.ret ⟨[.agg [.int .i64 0, .str ⟨#[]⟩, .int .i64 0], .int .i64 k1], _, m, by simp [Tryz.f120, zQa, s4, eE], by (first | exact View.fo (hE _) _ | (simp; exact View.fo (hE _) _)), ?_⟩
   exact hK 0 ⟨#[]⟩ 0 k1 rfl
  have hs : small c = false := by simpa using hs
  (repeat refine qA ?_);refine AWp.condF (by simp [hs]) ?_;refine rA ?_;simp [s0, s1, hx0];refine z3a _ _ _ _ _ _ _ _ (yyc c) ?_;try simp
  by_cases hf : figure c = true
  ·have hdl := yAb figure L;have ht : zhb L = match woa (L.takeWhile figure) with | some n => if n <= 999999 then some (⟨2, ⟨#[]⟩, n⟩, L.dropWhile figure) else none | none => none := by
    rw [hcl]; simp only [zhb, hs, hf, Bool.false_eq_true, if_true, if_false]; rfl
   have htt := zOb figure L;have hslw := hsl _ htf;rw [htt] at hslw;(repeat refine qA ?_);refine AWp.condT (by simp [hf]) ?_;refine AWp.gen (fun st => st.sl 0 = .str s /\ st.sl 1 = .int .i64 a /\ st.sl 4 = .ptr g 0 /\ st.sl 6 = .int .i64 (a : Int) /\ st.mem = m.set g (.box [.int .i64 0, .str ⟨#[]⟩, .int .i64 0])) ⟨by simp [s0], by simp [s1], by simp [s4], by simp [s6], by simp [sm]⟩ ?_;clear s0 s1 s4 s6 sm;rintro st ⟨s0, s1, s4, s6, sm⟩;(repeat refine qA ?_);refine AWp.cA (fun st => st.sl 0 = .str s /\ st.sl 1 = .int .i64 a /\ st.sl 4 = .ptr g 0 /\ st.sl 6 = .int .i64 ((a : Int) + ((L.takeWhile figure).length : Int)) /\ st.mem = m.set g (.box [.int .i64 0, .str ⟨#[]⟩, .int .i64 0])) ?_ ?_
   ·refine AWp.block (AWp.ro (fun q st => ∃ i : Nat, q = L.length - i /\ i <= L.length /\ (∀ x ∈ L.take i, figure x = true) /\ st.sl 0 = .str s /\ st.sl 1 = .int .i64 a /\ st.sl 4 = .ptr g 0 /\ st.sl 6 = .int .i64 ((a : Int) + (i : Int)) /\ st.mem = m.set g (.box [.int .i64 0, .str ⟨#[]⟩, .int .i64 0])) L.length ⟨0, by simp, by simp, by simp, by simp [s0], by simp [s1], by simp [s4], by simp [s6], by simp [sm]⟩ ?_);clear s0 s1 s4 s6 sm;rintro RR q st hRR ⟨i, rfl, hi, ha, s0, s1, s4, s6, sm⟩;have htk := xya figure L i ha;by_cases hb : i < L.length
    ·have hget : s.data.toList[a + i]? = some L[i] := by rw [<- List.getElem?_drop, hL]; exact gE hb
     have hx : xXa Tryz.prog 9 (.str s) (.int .i64 ((a : Int) + (i : Int))) = some (.int .u8 L[i].toNat) := by
      rw [show (a : Int) + (i : Int) = ((a + i : Nat) : Int) by omega];exact sidx Tryz.underlying9 hget
     have hlt : (a : Int) + (i : Int) < s.size := by omega
     have hwr : IntKind.wrap .i64 ((a : Int) + (i : Int) + 1) = (a : Int) + ((i : Int) + 1) := by rw [zga (by omega) (by omega)]; omega
     have hdr : L.drop i = L[i] :: L.drop (i + 1) := List.drop_eq_getElem_cons hb;refine rA ?_;simp [s0, s6, hlt, hx];refine z3a _ _ _ _ _ _ _ _ (yyc L[i]) ?_;try simp
     by_cases hf : figure L[i] = true
     ·(repeat refine qA ?_);refine AWp.condT (by simp [hf]) ?_;refine kA ?_;try simp
      (repeat refine qA ?_);refine bA ?_;refine rA ?_;simp [s6, hwr];refine hRR _ (L.length - (i + 1)) (by omega) ⟨i + 1, rfl, by omega, ?_, by simp [s0], by simp [s1], by simp [s4], by simp, by simp [sm]⟩;intro x hx;rw [List.take_succ_eq_append_getElem hb] at hx;rcases List.mem_append.1 hx with hx | hx
      ·exact ha x hx
      simp at hx; rw [hx]; exact hf
     have hf : figure L[i] = false := by simpa using hf
     (repeat refine qA ?_);refine AWp.condF (by simp [hf]) ?_;refine eA ?_;have e : (L.takeWhile figure).length = i := by
      rw [htk, hdr, List.takeWhile_cons];simp [hf];omega
     exact ⟨by simp [s0], by simp [s1], by simp [s4], by simp [s6, e], by simp [sm]⟩
    have : i = L.length := by omega
    subst this;have hlt : ¬ ((a : Int) + (L.length : Int) < s.size) := by omega
    refine rA ?_;simp [s0, s6, hlt];refine fA ?_;refine eA ?_;have e : (L.takeWhile figure).length = L.length := by
     rw [htk, List.drop_length];simp
    exact ⟨by simp [s0], by simp [s1], by simp [s4], by simp [s6, e], by simp [sm]⟩
   clear s0 s1 s4 s6 sm;rintro st ⟨s0, s1, s4, s6, sm⟩;generalize hk1 : (a : Int) + ((L.takeWhile figure).length : Int) = k1 at *;have hk2 : k1 = s.size - ((L.dropWhile figure).length : Int) := by omega
   have cp := xrb ⟨(L.takeWhile figure).toArray⟩ (by rw [zUa]; omega);rw [yDa] at cp;generalize L.takeWhile figure = w at *;refine rA ?_;simp [s0, s1, s6, hslw];refine z3a _ _ _ _ _ _ _ _ cp ?_;try simp
   generalize hq : woa w = q at *;cases q with
   | none =>
    simp only at ht;rw [ht] at hK;refine rA ?_;simp;refine tA ?_;refine rA ?_;simp [s0, s1, s4, s6, sm];refine AWp.ret ⟨[.agg [.int .i64 0, .str ⟨#[]⟩, .int .i64 0], .int .i64 k1], _, m, by simp [Tryz.f120, zQa, s4, eE], by (first | exact View.fo (hE _) _ | (simp; exact View.fo (hE _) _)), ?_⟩
    exact hK 0 ⟨#[]⟩ 0 k1 rfl
   | some n =>
    simp only at ht;by_cases h9 : n <= 999999
    ·rw [if_pos h9] at ht;rw [ht] at hK;have h9' : ¬ 999999 < n := by omega
     refine rA ?_;simp [h9'];refine fA ?_;refine kA ?_;try simp
     refine rA ?_;simp [s0, s1, s4, s6, sm];refine AWp.ret ⟨[.agg [.int .i64 2, .str ⟨#[]⟩, .int .i64 n], .int .i64 k1], _, m, by simp [Tryz.f120, zQa, s4, eE], by (first | exact View.fo (hE _) _ | (simp; exact View.fo (hE _) _)), ?_⟩
     exact hK 2 ⟨#[]⟩ n k1 ⟨rfl, hk2⟩
    rw [if_neg h9] at ht;rw [ht] at hK;have h9' : 999999 < n := by omega
    refine rA ?_;simp [h9'];refine tA ?_;refine rA ?_;simp [s0, s1, s4, s6, sm];refine AWp.ret ⟨[.agg [.int .i64 0, .str ⟨#[]⟩, .int .i64 0], .int .i64 k1], _, m, by simp [Tryz.f120, zQa, s4, eE], by (first | exact View.fo (hE _) _ | (simp; exact View.fo (hE _) _)), ?_⟩
    exact hK 0 ⟨#[]⟩ 0 k1 rfl
  have hf : figure c = false := by simpa using hf
  (repeat refine qA ?_);refine AWp.condF (by simp [hf]) ?_;refine kA ?_;exact ⟨hs, hf, by simp [s0], by simp [s1], by simp [s4], by simp [sm]⟩
 clear s0 s1 s4 s6 sm;rintro st ⟨hs, hf, s0, s1, s4, sm⟩;have ht : zhb L = if yqa.contains c then some (⟨4, ⟨#[c]⟩, 0⟩, l) else none := by
  rw [hcl]; simp only [zhb, hs, hf, Bool.false_eq_true, if_false]
 have hL1 : 1 <= L.length := by rw [hcl, List.length_cons]; omega
 have hsl1 := hsl 1 hL1;rw [show L.take 1 = [c] by rw [hcl]; rfl] at hsl1;have hk2 : (a : Int) + ((1 : Nat) : Int) = s.size - (l.length : Int) := by rw [hcl, List.length_cons] at hLl; omega
 obtain ⟨k1, hk1⟩ : ∃ k1 : Int, k1 = (a : Int) + ((1 : Nat) : Int) := ⟨_, rfl⟩;rw [<- hk1] at hsl1 hk2;have hwr : IntKind.wrap .i64 ((a : Int) + 1) = k1 := by rw [hk1, zga (by omega) (by omega)]; omega
 have hhas : has (yqa.map ch) ⟨#[c]⟩ = yqa.contains c := by
  unfold has;rw [List.any_map];have : ∀ l : List UInt8, (l.any ((fun x => decide (x = (⟨#[c]⟩ : ByteArray))) ∘ ch)) = l.contains c := by
   intro l
   induction l with
   | nil => rfl
   | cons x l ih =>
    rw [List.any_cons, List.contains_cons, ih];congr 1;by_cases h : c = x
    ·subst h; simp [ch]
    have h2 : ¬ (ch x = (⟨#[c]⟩ : ByteArray)) := fun e => h (by
     have := congrArg (fun y : ByteArray => y.data.toList) e;simp [ch] at this;exact this.symm)
    simp [h, h2]
  exact this _
 have ch' := w9b (yqa.map ch) ⟨#[c]⟩ (by simp [yqa]);rw [hhas] at ch';have hrg : ([0, 1, 2, 3, 4, 5, 6, 7, 8, 9, 10, 11] = List.range 12) = True := eq_true rfl;refine raA ?_;simp [s0, s1, hwr, hsl1, zda, hrg];refine oC' (ch'.arg ?_) ?_
 ·simp [strs, yqa, ch];exact .cons (Le.lst _ _ _) (Les.refl _)
 simp;rw [ht] at hK;by_cases hm : yqa.contains c = true
 ·rw [if_pos hm] at hK;have hm' : c ∈ yqa := by simpa using hm
  (repeat refine qA ?_);refine AWp.condT (by simp [hm']) ?_;refine rA ?_;simp [s0, s1, s4, sm, hwr, hsl1];refine AWp.ret ⟨[.agg [.int .i64 4, .str ⟨#[c]⟩, .int .i64 0], .int .i64 k1], _, m, by simp [Tryz.f120, zQa, s4, eE], by (first | exact View.fo (hE _) _ | (simp; exact View.fo (hE _) _)), ?_⟩
  exact hK 4 ⟨#[c]⟩ 0 k1 ⟨rfl, hk2⟩
 rw [if_neg hm] at hK;have hm' : ¬ c ∈ yqa := by simpa using hm
 (repeat refine qA ?_);refine AWp.condF (by simp [hm']) ?_;refine kA ?_;try simp
 refine rA ?_;simp [s0, s1, s4, sm, hwr];refine AWp.ret ⟨[.agg [.int .i64 0, .str ⟨#[]⟩, .int .i64 0], .int .i64 k1], _, m, by simp [Tryz.f120, zQa, s4, eE], by (first | exact View.fo (hE _) _ | (simp; exact View.fo (hE _) _)), ?_⟩
 exact hK 0 ⟨#[]⟩ 0 k1 rfl
theorem View.le {r r' : AV} (h : Le r r') (m : Mem) : View m r m r' := fun w S v h1 h2 => ⟨S, fun _ h => h, fun _ h => .inl h, h1, h w S v h2, fun g b h => by rw [h]; simp⟩
theorem View.tup {m m' : Mem} {r r' : AV} (h : View m r m' r') (b : Bool) : View m (.tup [r, .bool b]) m' (.tup [r', .bool b]) := fun w S v h1 h2 => by
 cases h2 with
 | tup hr =>
  cases hr with
  | cons hr h2 =>
   cases h2 with
   | cons hb h2 =>
    cases h2;cases hb;obtain ⟨S', a1, a2, a3, a4, a5⟩ := h w S _ h1 hr;exact ⟨S', a1, a2, a3, .tup (.cons a4 (.cons (.bool b) .nil)), a5⟩
theorem yAc {L : List UInt8} {t : Tk} {r : List UInt8} (h : zhb L = some (t, r)) : r.length < L.length /\ r = L.drop (L.length - r.length) /\ t.k ≠ 0 := by
 cases L with
 | nil => cases h
 | cons c l =>
  have hd : ∀ p : UInt8 -> Bool, p c = true -> ((c :: l).dropWhile p).length < (c :: l).length /\ (c :: l).dropWhile p = (c :: l).drop ((c :: l).length - ((c :: l).dropWhile p).length) := by
   intro p hp;have h1 := congrArg List.length (List.takeWhile_append_dropWhile (p := p) (l := c :: l));rw [List.length_append] at h1;have h2 : 0 < ((c :: l).takeWhile p).length := by rw [List.takeWhile_cons, if_pos hp]; simp
   have h3 := wib p (c :: l);exact ⟨by omega, by rw [show (c :: l).length - ((c :: l).dropWhile p).length = ((c :: l).takeWhile p).length by omega]; exact h3⟩
  simp only [zhb] at h;split at h
  ·rename_i hs
   have := hd small hs;split at h
   ·cases h; exact ⟨this.1, this.2, by simp⟩
   split at h
   ·cases h; exact ⟨this.1, this.2, by simp⟩
   cases h
  split at h
  ·rename_i hf
   have := hd figure hf;split at h
   ·split at h
    ·cases h; exact ⟨this.1, this.2, by simp⟩
    cases h
   cases h
  split at h
  ·cases h;refine ⟨by simp, ?_, by simp⟩;rw [List.length_cons, show r.length + 1 - r.length = 1 by omega];rfl
  cases h
theorem wBb {k n : Nat} {c : UInt8} {l : List UInt8} (h : blank c = true) : ytb (k + 1) n (c :: l) = ytb k n l := by
 unfold ytb;rw [if_pos h];cases k <;> cases l <;> rfl
theorem wbc {k n : Nat} {c : UInt8} {l : List UInt8} (h : blank c = false) : ytb (k + 1) n (c :: l) = match zhb (c :: l) with | none => none | some (t, r) => if 600 <= n then none else (ytb k (n + 1) r).map (t :: ·) := by
 conv => lhs; unfold ytb
 rw [if_neg (by simp [h])];rfl
theorem yTd (o : Option (List Tk)) (ts : List Tk) (t : Tk) : (o.map (t :: ·)).map (ts ++ ·) = o.map ((ts ++ [t]) ++ ·) := by
 cases o <;> simp
theorem wLd {m0 m : Mem} {ts : List Tk} {v : AV} (h : Gr 77 3 m0 (ts.map Tk.av) v m) : xld Tryz.prog (some 40) v = some (.int .i64 ts.length) := by
 obtain ⟨_, ⟨h0, f, rfl⟩ | ⟨g, c, rfl, _, _⟩⟩ := h
 ·have : ts = [] := by simpa using h0
  subst this;simp [xld, Tryz.underlying40]
 simp [xld, Tryz.underlying40]
theorem zZb (s : ByteArray) (hz : s.size <= 9223372036854775807) {T : TypeId} {m : Mem} (hm : m TB = some (yba T)) {K : AV -> Mem -> Prop} (hK : K (.tup [.lst false 3 (((lex s).getD []).map Tk.av), .bool (lex s).isSome]) m) : zka Tryz.prog 17 [.str s] m K := by
 have hsz := z2a s;refine wO Tryz.func17 ?_;refine rA ?_;try simp
 skip
 have failP : ∀ (v : AV) (st : St), Le v (.lst false 3 []) -> lex s = none -> st.sl 2 = v -> st.sl 3 = .bool false -> Ext m st.mem -> Post Tryz.prog Tryz.f17 K .ret st := fun v st hv hn s2 s3 hE => by
  rw [hn] at hK;exact ⟨[v, .bool false], _, m, by simp [Tryz.f17, zQa, s2, s3], ((View.le hv _).trans (View.fo hE _)).tup false, hK⟩
 refine rA ?_;simp;by_cases h3 : 3000 < s.size
 ·have h3' : (3000 : Int) < s.size := by omega
  (repeat refine qA ?_);refine AWp.condT (by simp [h3']) ?_;refine rA ?_;simp;refine AWp.ret ?_;refine failP (.lst true 0 []) _ (Le.nil _ _ _) (by unfold lex; rw [if_pos h3]) ?_ ?_ ?_
  ·simp
  ·simp
  first | exact Ext.refl _ | (simp; exact Ext.refl _)
 have h3' : ¬ (3000 : Int) < s.size := by omega
 (repeat refine qA ?_);refine AWp.condF (by simp [h3']) ?_;refine kA ?_;try simp
 refine rA ?_;simp;refine rA ?_;simp;have hlx : lex s = ytb s.size 0 s.data.toList := by unfold lex; rw [if_neg h3]
 generalize hL0 : s.data.toList = L0 at *;obtain ⟨M, hM⟩ : ∃ M : St -> Prop, M = (fun st => ∃ (ts : List Tk) (v : AV), lex s = some ts /\ st.sl 4 = v /\ Gr 77 3 m (ts.map Tk.av) v st.mem) := ⟨_, rfl⟩;(repeat refine qA ?_);refine AWp.cA M ?_ ?_
 ·refine AWp.block (AWp.ro (fun q st => ∃ (k i : Nat) (ts : List Tk) (v : AV), q = L0.length - i /\ i <= L0.length /\ L0.length - i <= k /\ ts.length <= 600 /\ lex s = (ytb k ts.length (L0.drop i)).map (ts ++ ·) /\ st.sl 0 = .str s /\ st.sl 4 = v /\ st.sl 5 = .int .i64 i /\ Gr 77 3 m (ts.map Tk.av) v st.mem) L0.length ⟨s.size, 0, [], (.lst true 0 []), by simp, by simp, by omega, by simp, by simpa using hlx, by simp, by simp, by simp, by simpa using Gr.start m 0⟩ ?_);rintro RR q st hRR ⟨k, i, ts, v, rfl, hi, hk, h600, hr, s0, s4, s5, hG⟩;have hE := hG.1;by_cases hb : i < L0.length
  ·have hlt : (i : Int) < s.size := by omega
   have hwr := iA i (by omega);have hget : s.data.toList[i]? = some L0[i] := by rw [hL0]; exact gE hb
   have hx : xXa Tryz.prog 9 (.str s) (.int .i64 i) = some (.int .u8 L0[i].toNat) := sidx Tryz.underlying9 hget;have hdr : L0.drop i = L0[i] :: L0.drop (i + 1) := List.drop_eq_getElem_cons hb;have e32 : ((L0[i].toNat : Int) = 32) = (L0[i] = 32) := propext ⟨fun h => UInt8.toNat_inj.1 (by have : (32 : UInt8).toNat = 32 := rfl; omega), fun h => by rw [h]; rfl⟩;have e10 : ((L0[i].toNat : Int) = 10) = (L0[i] = 10) := propext ⟨fun h => UInt8.toNat_inj.1 (by have : (10 : UInt8).toNat = 10 := rfl; omega), fun h => by rw [h]; rfl⟩;obtain ⟨k, rfl⟩ : ∃ k', k = k' + 1 := ⟨k - 1, by omega⟩;rw [hdr] at hr;generalize hc : L0[i] = c at *;generalize hl : L0.drop (i + 1) = l at *;have hll : l.length = L0.length - (i + 1) := by rw [<- hl, List.length_drop]
   refine rA ?_;simp [s0, s5, hlt];refine tA ?_;refine kA ?_;try simp
   (repeat refine qA ?_);refine bA ?_;refine rA ?_;simp [s0, s5, hx];by_cases hbl : blank c = true
   ·rw [wBb hbl] at hr;have go : ∀ st' : St, st'.sl 0 = .str s -> st'.sl 4 = v -> st'.sl 5 = .int .i64 ((i + 1 : Nat) : Int) -> st'.mem = st.mem -> RR st' := fun st' e0 e4 e5 em =>
     hRR _ (L0.length - (i + 1)) (by omega) ⟨k, i + 1, ts, v, rfl, by omega, by omega, h600, by rw [hl]; exact hr, e0, e4, e5, by rw [em]; exact hG⟩
    have hwr2 : IntKind.wrap .i64 ((i : Int) + 1) = ((i + 1 : Nat) : Int) := hwr;by_cases h32 : c = 32
    ·simp [e32, h32];refine tA ?_;refine rA ?_;simp [s5, hwr2];refine eA ?_;simp;exact go _ (by simp [s0]) (by simp [s4]) (by simp) (by simp)
    have h10 : c = 10 := by
     unfold blank at hbl;simp [h32] at hbl;exact hbl
    simp [e32, h32, e10, h10, s0, s5, hx];refine tA ?_;refine rA ?_;simp [s5, hwr2];refine eA ?_;simp;exact go _ (by simp [s0]) (by simp [s4]) (by simp) (by simp)
   have hbl : blank c = false := by simpa using hbl
   have h32 : ¬ c = 32 := by rintro rfl; simp [blank] at hbl
   have h10 : ¬ c = 10 := by rintro rfl; simp [blank] at hbl
   rw [wbc hbl] at hr;simp [e32, h32, e10, h10, s0, s5, hx];refine fA ?_;refine kA ?_;try simp
   have hsl : yQa Tryz.prog 9 (.str s) (some (.int .i64 i)) none = some (.str ⟨(c :: l).toArray⟩) := by
    have h1 : ¬ ((i : Int) < 0) := by omega
    have h2 : i <= s.size := by omega
    unfold yQa;simp only [Tryz.underlying9, z5a, h1, if_false, Int.toNat_natCast, h2, if_true];rw [xxa, hL0, List.take_of_length_le (by omega), hdr]
   refine rA ?_;simp [s0, s5, hsl];refine wA ?_;simp;have hll2 : (c :: l).length = L0.length - i := by rw [List.length_cons]; omega
   refine zHe c l (by omega) (hE _ _ hm) fun kk w n z hz2 => ?_;simp;intro g6 hg6;have hE6 := zFa hg6 (.box [.int .i64 kk, .str w, .int .i64 n]);cases ht : zhb (c :: l) with
   | none =>
    rw [ht] at hr;refine rA ?_;simp;refine tA ?_;refine rA ?_;simp;refine AWp.ret ?_; (try simp); refine failP (.lst true 0 []) _ (Le.nil _ _ _) (by simpa using hr) ?_ ?_ ?_ <;> first | (simp; done) | (simpa using hE.trans hE6)
   | some tr =>
    obtain ⟨t, r⟩ := tr;rw [ht] at hr;obtain ⟨rfl, rfl⟩ := hz2 t r ht;obtain ⟨d1, d2, d3⟩ := yAc ht;simp only at hr d3;have hlen := wLd hG;obtain ⟨i', hi'⟩ : ∃ i' : Nat, i' = L0.length - r.length := ⟨_, rfl⟩;have hrd : r = L0.drop i' := by
     have e1 := d2;rw [<- hdr, List.drop_drop] at e1;rw [e1];congr 1;rw [List.length_drop];omega
    have hG6 := hG.fresh hg6 (.box [.int .i64 kk, .str w, .int .i64 n]);have b6 := zaa st.mem g6 (.box [.int .i64 kk, .str w, .int .i64 n]);generalize st.mem.set g6 (.box [.int .i64 kk, .str w, .int .i64 n]) = m6 at *;have next : ∀ (v' : AV) (st' : St), ts.length < 600 -> Gr 77 3 m ((ts ++ [Tk.mk kk w n]).map Tk.av) v' st'.mem -> st'.sl 0 = .str s -> st'.sl 4 = v' -> st'.sl 5 = .int .i64 (i' : Int) -> RR st' := fun v' st' hn h1 h2 h3 h4 =>
     hRR _ (L0.length - i') (by omega) ⟨k, i', ts ++ [Tk.mk kk w n], v', rfl, by omega, by omega, by simp; omega, by
      rw [if_neg (by omega)] at hr;rw [yTd] at hr;rw [hr, <- hrd];simp, h2, h3, h4, h1⟩
    have hlc : (c :: l).length = l.length + 1 := List.length_cons;have hwz : IntKind.wrap .i64 ((i : Int) + ((l.length : Int) + 1 - (r.length : Int))) = (i' : Int) := by rw [zga (by omega) (by omega)]; omega
    refine rA ?_;simp [s4, hlen];by_cases h6 : ts.length = 600
    ·try simp [h6]
     refine tA ?_;refine rA ?_;simp;rw [if_pos (by omega)] at hr;refine AWp.ret ?_; (try simp); refine failP (.lst true 0 []) _ (Le.nil _ _ _) (by simpa using hr) ?_ ?_ ?_ <;> first | (simp; done) | (simpa using hE.trans hE6)
    have h6' : ¬ (ts.length : Int) = 600 := by omega
    try simp [h6']
    refine fA ?_;refine kA ?_;try simp
    refine rA ?_;simp [s4, b6, zda];refine Gr.app et_40 hG6 (x := .lst true 3 [.agg [.int .i64 kk, .str w, .int .i64 n]]) (ys := [.agg [.int .i64 kk, .str w, .int .i64 n]]) (by simp [wwa]) (by intro y hy; simp at hy; subst hy; rfl) (by simp; omega) fun v' m' hG2 hk2 => ?_;try simp
    have hG3 : Gr 77 3 m ((ts ++ [Tk.mk kk w n]).map Tk.av) v' m' := by simpa [Tk.av, Tk.cells] using hG2
    refine rA ?_;simp [s5, hwz];exact next v' _ (by omega) (by simpa using hG3) (by simp [s0]) (by simp) (by simp)
  have : i = L0.length := by omega
  subst this;have hlt : ¬ ((L0.length : Int) < s.size) := by omega
  refine rA ?_;simp [s0, s5, hlt];refine fA ?_;refine eA ?_;subst hM;rw [List.drop_length] at hr;have e : ytb k ts.length [] = some [] := by unfold ytb; cases k <;> rfl
  rw [e] at hr;exact ⟨ts, v, by simpa using hr, by simp [s4], by simpa using hG⟩
 intro st hst;subst hM;obtain ⟨ts, v, hr, s4, hG⟩ := hst;rw [hr] at hK;refine rA ?_;simp [s4];exact AWp.ret ⟨[v, .bool true], _, m, by simp [Tryz.f17, zQa], by simpa [yhb] using hG.view.tup true, by simpa using hK⟩
theorem wCb (s : ByteArray) (hz : s.size <= 9223372036854775807) {m : Mem} {K : AV -> Mem -> Prop} (hK : K (.tup [.lst false 3 (((lex s).getD []).map Tk.av), .bool (lex s).isSome]) m) : zka Tryz.prog 60 [.str s] m K := by
 have hsz := z2a s;refine wO Tryz.func60 ?_;refine rA ?_;try simp
 refine rA ?_;simp [zda];have failP : ∀ (v : AV) (st : St), Le v (.lst false 3 []) -> lex s = none -> st.sl 2 = v -> st.sl 3 = .bool false -> Ext m st.mem -> Post Tryz.prog Tryz.f60 K .ret st := fun v st hv hn s2 s3 hE => by
  rw [hn] at hK;exact ⟨[v, .bool false], _, m, by simp [Tryz.f60, zQa, s2, s3], ((View.le hv _).trans (View.fo hE _)).tup false, hK⟩
 refine rA ?_;simp;by_cases h3 : 3000 < s.size
 ·have h3' : (3000 : Int) < s.size := by omega
  (repeat refine qA ?_);refine AWp.condT (by simp [h3']) ?_;refine rA ?_;simp;refine AWp.ret ?_;refine failP (.lst true 3 []) _ (Le.lst _ _ _) (by unfold lex; rw [if_pos h3]) ?_ ?_ ?_
  ·simp
  ·simp
  first | exact Ext.refl _ | (simp; exact Ext.refl _)
 have h3' : ¬ (3000 : Int) < s.size := by omega
 (repeat refine qA ?_);refine AWp.condF (by simp [h3']) ?_;refine kA ?_;try simp
 skip
 refine rA ?_;simp;have hlx : lex s = ytb s.size 0 s.data.toList := by unfold lex; rw [if_neg h3]
 generalize hL0 : s.data.toList = L0 at *;obtain ⟨M, hM⟩ : ∃ M : St -> Prop, M = (fun st => ∃ (ts : List Tk) (v : AV), lex s = some ts /\ st.sl 4 = v /\ Gr 77 3 m (ts.map Tk.av) v st.mem) := ⟨_, rfl⟩;(repeat refine qA ?_);refine AWp.cA M ?_ ?_
 ·refine AWp.block (AWp.ro (fun q st => ∃ (k i : Nat) (ts : List Tk) (v : AV), q = L0.length - i /\ i <= L0.length /\ L0.length - i <= k /\ ts.length <= 600 /\ lex s = (ytb k ts.length (L0.drop i)).map (ts ++ ·) /\ st.sl 0 = .str s /\ st.sl 4 = v /\ st.sl 5 = .int .i64 i /\ Gr 77 3 m (ts.map Tk.av) v st.mem) L0.length ⟨s.size, 0, [], (.lst true 3 []), by simp, by simp, by omega, by simp, by simpa using hlx, by simp, by simp, by simp, by simpa using Gr.start m 3⟩ ?_);rintro RR q st hRR ⟨k, i, ts, v, rfl, hi, hk, h600, hr, s0, s4, s5, hG⟩;have hE := hG.1;by_cases hb : i < L0.length
  ·have hlt : (i : Int) < s.size := by omega
   have hwr := iA i (by omega);have hget : s.data.toList[i]? = some L0[i] := by rw [hL0]; exact gE hb
   have hx : xXa Tryz.prog 9 (.str s) (.int .i64 i) = some (.int .u8 L0[i].toNat) := sidx Tryz.underlying9 hget;have hdr : L0.drop i = L0[i] :: L0.drop (i + 1) := List.drop_eq_getElem_cons hb;have e32 : ((L0[i].toNat : Int) = 32) = (L0[i] = 32) := propext ⟨fun h => UInt8.toNat_inj.1 (by have : (32 : UInt8).toNat = 32 := rfl; omega), fun h => by rw [h]; rfl⟩;have e10 : ((L0[i].toNat : Int) = 10) = (L0[i] = 10) := propext ⟨fun h => UInt8.toNat_inj.1 (by have : (10 : UInt8).toNat = 10 := rfl; omega), fun h => by rw [h]; rfl⟩;obtain ⟨k, rfl⟩ : ∃ k', k = k' + 1 := ⟨k - 1, by omega⟩;rw [hdr] at hr;generalize hc : L0[i] = c at *;generalize hl : L0.drop (i + 1) = l at *;have hll : l.length = L0.length - (i + 1) := by rw [<- hl, List.length_drop]
   refine rA ?_;simp [s0, s5, hlt];refine tA ?_;refine kA ?_;try simp
   (repeat refine qA ?_);refine bA ?_;refine rA ?_;simp [s0, s5, hx];by_cases hbl : blank c = true
   ·rw [wBb hbl] at hr;have go : ∀ st' : St, st'.sl 0 = .str s -> st'.sl 4 = v -> st'.sl 5 = .int .i64 ((i + 1 : Nat) : Int) -> st'.mem = st.mem -> RR st' := fun st' e0 e4 e5 em =>
     hRR _ (L0.length - (i + 1)) (by omega) ⟨k, i + 1, ts, v, rfl, by omega, by omega, h600, by rw [hl]; exact hr, e0, e4, e5, by rw [em]; exact hG⟩
    have hwr2 : IntKind.wrap .i64 ((i : Int) + 1) = ((i + 1 : Nat) : Int) := hwr;by_cases h32 : c = 32
    ·simp [e32, h32];refine tA ?_;refine rA ?_;simp [s5, hwr2];refine eA ?_;simp;exact go _ (by simp [s0]) (by simp [s4]) (by simp) (by simp)
    have h10 : c = 10 := by
     unfold blank at hbl;simp [h32] at hbl;exact hbl
    simp [e32, h32, e10, h10, s0, s5, hx];refine tA ?_;refine rA ?_;simp [s5, hwr2];refine eA ?_;simp;exact go _ (by simp [s0]) (by simp [s4]) (by simp) (by simp)
   have hbl : blank c = false := by simpa using hbl
   have h32 : ¬ c = 32 := by rintro rfl; simp [blank] at hbl
   have h10 : ¬ c = 10 := by rintro rfl; simp [blank] at hbl
   rw [wbc hbl] at hr;simp [e32, h32, e10, h10, s0, s5, hx];refine fA ?_;refine kA ?_;try simp
   refine rA ?_;simp [s0, s5];refine wA ?_;simp;have hll2 : (c :: l).length = L0.length - i := by rw [List.length_cons]; omega
   refine wbd s (by omega) i (by omega) fun kk w n z hz2 => ?_;rw [hL0, hdr] at hz2;simp;intro g6 hg6;have hE6 := zFa hg6 (.box [.int .i64 kk, .str w, .int .i64 n]);cases ht : zhb (c :: l) with
   | none =>
    rw [ht] at hr hz2;simp only at hz2;subst hz2;refine rA ?_;simp;refine tA ?_;refine rA ?_;simp [zda];refine AWp.ret ?_; (try simp); refine failP (.lst true 3 []) _ (Le.lst _ _ _) (by simpa using hr) ?_ ?_ ?_ <;> first | (simp; done) | (simpa using hE.trans hE6)
   | some tr =>
    obtain ⟨t, r⟩ := tr;rw [ht] at hr hz2;simp only at hz2;obtain ⟨rfl, rfl⟩ := hz2;obtain ⟨d1, d2, d3⟩ := yAc ht;simp only at hr d3;have hlen := wLd hG;obtain ⟨i', hi'⟩ : ∃ i' : Nat, i' = L0.length - r.length := ⟨_, rfl⟩;have hrd : r = L0.drop i' := by
     have e1 := d2;rw [<- hdr, List.drop_drop] at e1;rw [e1];congr 1;rw [List.length_drop];omega
    have hG6 := hG.fresh hg6 (.box [.int .i64 kk, .str w, .int .i64 n]);have b6 := zaa st.mem g6 (.box [.int .i64 kk, .str w, .int .i64 n]);generalize st.mem.set g6 (.box [.int .i64 kk, .str w, .int .i64 n]) = m6 at *;have next : ∀ (v' : AV) (st' : St), ts.length < 600 -> Gr 77 3 m ((ts ++ [Tk.mk kk w n]).map Tk.av) v' st'.mem -> st'.sl 0 = .str s -> st'.sl 4 = v' -> st'.sl 5 = .int .i64 (i' : Int) -> RR st' := fun v' st' hn h1 h2 h3 h4 =>
     hRR _ (L0.length - i') (by omega) ⟨k, i', ts ++ [Tk.mk kk w n], v', rfl, by omega, by omega, by simp; omega, by
      rw [if_neg (by omega)] at hr;rw [yTd] at hr;rw [hr, <- hrd];simp, h2, h3, h4, h1⟩
    have hwz : (s.size : Int) - (r.length : Int) = (i' : Int) := by omega
    refine rA ?_;simp [s4, hlen, b6, d3];by_cases h6 : 600 <= ts.length
    ·have h6' : (600 : Int) <= ts.length := by omega
     simp [h6'];refine tA ?_;refine rA ?_;simp [zda];rw [if_pos (by omega)] at hr;refine AWp.ret ?_; (try simp); refine failP (.lst true 3 []) _ (Le.lst _ _ _) (by simpa using hr) ?_ ?_ ?_ <;> first | (simp; done) | (simpa using hE.trans hE6)
    have h6' : ¬ (600 : Int) <= ts.length := by omega
    simp [h6'];refine fA ?_;refine kA ?_;try simp
    refine rA ?_;simp [s4, b6, zda];refine Gr.app et_40 hG6 (x := .lst true 3 [.agg [.int .i64 kk, .str w, .int .i64 n]]) (ys := [.agg [.int .i64 kk, .str w, .int .i64 n]]) (by simp [wwa]) (by intro y hy; simp at hy; subst hy; rfl) (by simp; omega) fun v' m' hG2 hk2 => ?_;try simp
    have hG3 : Gr 77 3 m ((ts ++ [Tk.mk kk w n]).map Tk.av) v' m' := by simpa [Tk.av, Tk.cells] using hG2
    refine rA ?_;simp [hwz];exact next v' _ (by omega) (by simpa using hG3) (by simp [s0]) (by simp) (by simp)
  have : i = L0.length := by omega
  subst this;have hlt : ¬ ((L0.length : Int) < s.size) := by omega
  refine rA ?_;simp [s0, s5, hlt];refine fA ?_;refine eA ?_;subst hM;rw [List.drop_length] at hr;have e : ytb k ts.length [] = some [] := by unfold ytb; cases k <;> rfl
  rw [e] at hr;exact ⟨ts, v, by simpa using hr, by simp [s4], by simpa using hG⟩
 intro st hst;subst hM;obtain ⟨ts, v, hr, s4, hG⟩ := hst;rw [hr] at hK;refine rA ?_;simp [s4];exact AWp.ret ⟨[v, .bool true], _, m, by simp [Tryz.f60, zQa], by simpa [yhb] using hG.view.tup true, by simpa using hK⟩
end Go.T
