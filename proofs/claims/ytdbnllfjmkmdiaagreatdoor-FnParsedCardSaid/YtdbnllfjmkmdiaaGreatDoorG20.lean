/- Parts of the proof of FnParsed: Arrays put in order by the library: merges. -/
import Derived.Test.YtdbnllfjmkmdiaaGreatDoorG19
import Derived.Test.YtdbnllfjmkmdiaaGreatDoorG12
import Derived.Test.YtdbnllfjmkmdiaaGreatDoorG17
set_option linter.unusedSimpArgs false
set_option linter.unusedVariables false
namespace Go.T
open Go Go.Proofs
set_option maxRecDepth 10000
set_option maxHeartbeats 1000000
open Go
theorem wrc {x y : Nat} (hx : x <= 4611686018427387903) (hy : y <= 4611686018427387903) : IntKind.wrap .i64 ((IntKind.wrap .u64 ((x : Int) + y)).fdiv (2 ^ min 1 IntKind.u64.bits)) = (((x + y) / 2 : Nat) : Int) := by
 have h2 : (2 : Int) ^ min 1 IntKind.u64.bits = 2 := rfl;rw [h2];have h1 : IntKind.wrap .u64 ((x : Int) + y) = (x : Int) + y := by
  unfold IntKind.wrap;simp [IntKind.bits, IntKind.signed];omega
 rw [h1, Int.fdiv_eq_ediv_of_nonneg _ (by omega), zga (by omega) (by omega)];omega
def xdd (P : Program) (n : FuncId) (F : AV) (N : Nat) : Prop := ∀ (m : Mem) (g c ln : Nat) (L : List Ar), m g = some (arB c L) -> L.length = ln -> L.length <= 600 -> ∀ (za zk zb : Int) (a k b : Nat), za = a -> zk = k -> zb = b -> a < k -> k < b -> b <= L.length -> b - a <= N ->
 ∀ K : AV -> Mem -> Prop, (∀ L' : List Ar, Sh L' L -> K (.tup []) (m.set g (arB c L'))) -> zka P n [.own g ln c, .int .i64 za, .int .i64 zk, .int .i64 zb, F] m K
theorem xtc (N : Nat) (ih : ∀ N', N' < N -> xdd Tryz.prog 156 (.func (.func 57) []) N') : xdd Tryz.prog 156 (.func (.func 57) []) N := by
 intro m g c ln L hm hln hl za zk zb a k b ea ek eb h1 h2 h3 hN K hK;subst hln;subst ea;subst ek;subst eb;refine wO Tryz.func156 ?_;have w0 : IntKind.wrap .i64 ((k : Int) - a) = (k : Int) - a := zga (by omega) (by omega);have w1 : IntKind.wrap .i64 ((b : Int) - k) = (b : Int) - k := zga (by omega) (by omega);refine rA ?_;simp [w0];have fin : ∀ (st : St) (L' : List Ar), Sh L' L -> st.mem = m.set g (arB c L') -> Post Tryz.prog Tryz.f156 K .ret st := fun st L' hL sm => ⟨[], .tup [], _, by simp [Tryz.f156, zQa], by rw [sm]; exact View.refl _ _, hK L' hL⟩;have hma := zaa m g (arB c L);by_cases hk1 : k = a + 1
 ·(repeat refine qA ?_);refine AWp.condT (by simp; omega) ?_;refine rA ?_;simp;refine rA ?_;simp
  -- where the one belongs
  obtain ⟨M, hM⟩ : ∃ M : St -> Prop, M = (fun st => ∃ (i : Nat), a < i /\ i <= b /\ st.sl 0 = .own g L.length c /\ st.sl 1 = .int .i64 a /\ st.sl 10 = .int .i64 i /\ st.mem = m) := ⟨_, rfl⟩;(repeat refine qA ?_);refine AWp.cA M ?_ ?_
  ·refine AWp.block (AWp.ro (fun q st => ∃ (i j : Nat), q = j - i /\ a < i /\ i <= j /\ j <= b /\ st.sl 0 = .own g L.length c /\ st.sl 1 = .int .i64 a /\ st.sl 4 = .func (.func 57) [] /\ st.sl 10 = .int .i64 i /\ st.sl 11 = .int .i64 j /\ st.mem = m) (b - k) ⟨k, b, rfl, by omega, by omega, by omega, by simp, by simp, by simp, by simp, by simp, by simp⟩ ?_);rintro RR q st hRR ⟨i, j, rfl, hai, hij, hjb, s0, s1, s4, s10, s11, sm⟩;refine rA ?_;simp [s10, s11];by_cases hlt : i < j
   ·(repeat refine qA ?_);refine AWp.condT (by simp [hlt]) ?_;refine kA ?_;try simp
    (repeat refine qA ?_);refine bA ?_;have wm : IntKind.wrap .i64 ((i : Int) + j) = (i : Int) + j := zga (by omega) (by omega);have wmm := wrc (x := i) (y := j) (by omega) (by omega);generalize hh : (i + j) / 2 = h at wmm;refine rA ?_;simp [s10, s11, wm, wmm, xFb];have wh : IntKind.wrap .i64 ((h : Int) + 1) = (h : Int) + 1 := zga (by omega) (by omega);have i1 := yxa hm (n := L.length) rfl (i := h) (by omega) (z := (h : Int)) rfl;have i2 := yxa hm (n := L.length) rfl (i := a) (by omega) (z := (a : Int)) rfl;have l1 := yFa hm (i := h) (by omega);have l2 := yFa hm (i := a) (by omega);(repeat refine qA ?_);refine AWp.rG (fun i => i == 9) (fun _ => false) [0, 1, 2, 3, 4, 5, 6, 7, 8, 9, 10] [0, 1, 2, 3, 4, 5, 6, 7, 8, 9, 10] (by kernel_rfl) ?_;simp [s0, s1, s4, sm, i1, i2, l1, l2];refine yCb rfl (n := 57) (caps := []) (by simp [s4]) (by simpa using yEb L[h] L[a]) ?_;simp;have hcmp := yDb L[h].s L[a].s;cases hb : blt L[h].s L[a].s with
    | true =>
     rw [hb] at hcmp;(repeat refine qA ?_);refine AWp.condT (by simpa using hcmp) ?_;refine rA ?_;simp [wh];exact hRR _ (j - (h + 1)) (by omega) ⟨h + 1, j, rfl, by omega, by omega, hjb, by simp [s0], by simp [s1], by simp [s4], by simp, by simp [s11], by simp [sm]⟩
    | false =>
     rw [hb] at hcmp;(repeat refine qA ?_);refine AWp.condF (by simpa using hcmp) ?_;refine rA ?_;simp;exact hRR _ (h - i) (by omega) ⟨i, h, rfl, hai, by omega, by omega, by simp [s0], by simp [s1], by simp [s4], by simp [s10], by simp, by simp [sm]⟩
   (repeat refine qA ?_);refine AWp.condF (by simp; omega) ?_;refine eA ?_;subst hM;exact ⟨i, hai, by omega, by simp [s0], by simp [s1], by simp [s10], by simpa using sm⟩
  intro st hst;subst hM;obtain ⟨i, hai, hib, s0, s1, s10, sm⟩ := hst;refine rA ?_;simp [s1];have wi : IntKind.wrap .i64 ((i : Int) - 1) = ((i - 1 : Nat) : Int) := by rw [zga (by omega) (by omega)]; omega
  obtain ⟨M2, hM2⟩ : ∃ M2 : St -> Prop, M2 = (fun st => ∃ (L' : List Ar), Sh L' L /\ st.mem = m.set g (arB c L')) := ⟨_, rfl⟩;(repeat refine qA ?_);refine AWp.cA M2 ?_ ?_
  ·refine AWp.block (AWp.ro (fun q st => ∃ (x : Nat) (L' : List Ar), q = i - x /\ x < i /\ st.sl 0 = .own g L.length c /\ st.sl 10 = .int .i64 i /\ st.sl 13 = .int .i64 x /\ Sh L' L /\ st.mem = m.set g (arB c L')) (i - a) ⟨a, L, rfl, by omega, by simp [s0], by simp [s10], by simp, Sh.refl L, by simp [sm, wea hm]⟩ ?_);rintro RR q st hRR ⟨x, L', rfl, hxi, s0, s10, s13, ⟨hL, hs⟩, sm⟩;refine rA ?_;simp [s10, s13, wi];by_cases hlt : x < i - 1
   ·(repeat refine qA ?_);refine AWp.condT (by simp [hlt]) ?_;refine kA ?_;try simp
    (repeat refine qA ?_);refine bA ?_;have wx : IntKind.wrap .i64 ((x : Int) + 1) = (x : Int) + 1 := zga (by omega) (by omega);have hma := zaa m g (arB c L');have i1 := yxa hma hL (i := x) (by omega) (z := (x : Int)) rfl;have i2 := yxa hma hL (i := x + 1) (by omega) (z := (x : Int) + 1) (by omega);have l1 := yFa hma (i := x) (by omega);have l2 := yFa hma (i := x + 1) (by omega);have t1 := y1a hma (i := x) (by omega) L'[x + 1];have hmb := zaa m g (arB c (L'.set x L'[x + 1]));have i3 := yxa hmb (n := L.length) (by simp [hL]) (i := x + 1) (by omega) (z := (x : Int) + 1) (by omega);have t2 := y1a hmb (i := x + 1) (by simp; omega) L'[x];simp only [xFa] at t1 t2;(repeat refine qA ?_);refine AWp.rG (fun _ => false) (fun _ => false) [0, 1, 2, 3, 4, 5, 6, 7, 8, 9, 10, 11, 12, 13, 14, 15, 16, 17] [0, 1, 5, 6, 7, 8, 9, 10, 11, 12, 13, 14, 15, 2, 3, 4, 16, 17] (by kernel_rfl) ?_;simp [s0, s13, sm, wx, i1, i2, l1, l2, t1, t2, i3];refine rA ?_;simp [s13, wx];exact hRR _ (i - (x + 1)) (by omega) ⟨x + 1, (L'.set x L'[x + 1]).set (x + 1) L'[x], rfl, by omega, by simp [s0], by simp [s10], by simp, ⟨by simp [hL], wqc hs (List.getElem_mem _) (List.getElem_mem _)⟩, by first | rfl | simp⟩
   (repeat refine qA ?_);refine AWp.condF (by simp; omega) ?_;refine eA ?_;subst hM2;exact ⟨L', ⟨hL, hs⟩, by simpa using sm⟩
  intro st hst;subst hM2;obtain ⟨L', ⟨hL, hs⟩, sm⟩ := hst;exact AWp.ret (fin _ L' ⟨hL, hs⟩ sm)
 (repeat refine qA ?_);refine AWp.condF (by simp; omega) ?_;refine kA ?_;try simp
 refine rA ?_;simp [w1];by_cases hb1 : b = k + 1
 ·(repeat refine qA ?_);refine AWp.condT (by simp; omega) ?_;refine rA ?_;simp;refine rA ?_;simp;obtain ⟨M, hM⟩ : ∃ M : St -> Prop, M = (fun st => ∃ (i : Nat), a <= i /\ i <= k /\ st.sl 0 = .own g L.length c /\ st.sl 2 = .int .i64 k /\ st.sl 14 = .int .i64 i /\ st.mem = m) := ⟨_, rfl⟩;(repeat refine qA ?_);refine AWp.cA M ?_ ?_
  ·refine AWp.block (AWp.ro (fun q st => ∃ (i j : Nat), q = j - i /\ a <= i /\ i <= j /\ j <= k /\ st.sl 0 = .own g L.length c /\ st.sl 2 = .int .i64 k /\ st.sl 4 = .func (.func 57) [] /\ st.sl 14 = .int .i64 i /\ st.sl 15 = .int .i64 j /\ st.mem = m) (k - a) ⟨a, k, rfl, by omega, by omega, by omega, by simp, by simp, by simp, by simp, by simp, by simp⟩ ?_);rintro RR q st hRR ⟨i, j, rfl, hai, hij, hjb, s0, s2, s4, s10, s11, sm⟩;refine rA ?_;simp [s10, s11];by_cases hlt : i < j
   ·(repeat refine qA ?_);refine AWp.condT (by simp [hlt]) ?_;refine kA ?_;try simp
    (repeat refine qA ?_);refine bA ?_;have wm : IntKind.wrap .i64 ((i : Int) + j) = (i : Int) + j := zga (by omega) (by omega);have wmm := wrc (x := i) (y := j) (by omega) (by omega);generalize hh : (i + j) / 2 = h at wmm;refine rA ?_;simp [s10, s11, wm, wmm, xFb];have wh : IntKind.wrap .i64 ((h : Int) + 1) = (h : Int) + 1 := zga (by omega) (by omega);have i1 := yxa hm (n := L.length) rfl (i := k) (by omega) (z := (k : Int)) rfl;have i2 := yxa hm (n := L.length) rfl (i := h) (by omega) (z := (h : Int)) rfl;have l1 := yFa hm (i := k) (by omega);have l2 := yFa hm (i := h) (by omega);(repeat refine qA ?_);refine AWp.rG (fun i => i == 9) (fun _ => false) [0, 1, 2, 3, 4, 5, 6, 7, 8, 9, 10, 11] [0, 1, 2, 3, 4, 5, 6, 7, 8, 9, 10, 11] (by kernel_rfl) ?_;simp [s0, s2, s4, sm, i1, i2, l1, l2];refine yCb rfl (n := 57) (caps := []) (by simp [s4]) (by simpa using yEb L[k] L[h]) ?_;simp;have hcmp := yDb L[k].s L[h].s;cases hb : blt L[k].s L[h].s with
    | false =>
     rw [hb] at hcmp;(repeat refine qA ?_);refine AWp.condT (by simpa using hcmp) ?_;refine rA ?_;simp [wh];exact hRR _ (j - (h + 1)) (by omega) ⟨h + 1, j, rfl, by omega, by omega, hjb, by simp [s0], by simp [s2], by simp [s4], by simp, by simp [s11], by simp [sm]⟩
    | true =>
     rw [hb] at hcmp;(repeat refine qA ?_);refine AWp.condF (by simpa using hcmp) ?_;refine rA ?_;simp;exact hRR _ (h - i) (by omega) ⟨i, h, rfl, hai, by omega, by omega, by simp [s0], by simp [s2], by simp [s4], by simp [s10], by simp, by simp [sm]⟩
   (repeat refine qA ?_);refine AWp.condF (by simp; omega) ?_;refine eA ?_;subst hM;exact ⟨i, hai, by omega, by simp [s0], by simp [s2], by simp [s10], by simpa using sm⟩
  intro st hst;subst hM;obtain ⟨i, hai, hib, s0, s2, s14, sm⟩ := hst;refine rA ?_;simp [s2];obtain ⟨M2, hM2⟩ : ∃ M2 : St -> Prop, M2 = (fun st => ∃ (L' : List Ar), Sh L' L /\ st.mem = m.set g (arB c L')) := ⟨_, rfl⟩;(repeat refine qA ?_);refine AWp.cA M2 ?_ ?_
  ·refine AWp.block (AWp.ro (fun q st => ∃ (x : Nat) (L' : List Ar), q = x /\ i <= x /\ x <= k /\ st.sl 0 = .own g L.length c /\ st.sl 14 = .int .i64 i /\ st.sl 17 = .int .i64 x /\ Sh L' L /\ st.mem = m.set g (arB c L')) k ⟨k, L, rfl, by omega, by omega, by simp [s0], by simp [s14], by simp, Sh.refl L, by simp [sm, wea hm]⟩ ?_);rintro RR x st hRR ⟨_, L', rfl, hxi, hxk, s0, s10, s13, ⟨hL, hs⟩, sm⟩;refine rA ?_;simp [s10, s13];by_cases hlt : i < x
   ·(repeat refine qA ?_);refine AWp.condT (by simp [hlt]) ?_;refine kA ?_;try simp
    (repeat refine qA ?_);refine bA ?_;have wx : IntKind.wrap .i64 ((x : Int) - 1) = ((x - 1 : Nat) : Int) := by rw [zga (by omega) (by omega)]; omega
    have hma := zaa m g (arB c L');have i1 := yxa hma hL (i := x) (by omega) (z := (x : Int)) rfl;have i2 := yxa hma hL (i := x - 1) (by omega) (z := ((x - 1 : Nat) : Int)) (by omega);have l1 := yFa hma (i := x) (by omega);have l2 := yFa hma (i := x - 1) (by omega);have t1 := y1a hma (i := x) (by omega) L'[x - 1];have hmb := zaa m g (arB c (L'.set x L'[x - 1]));have i3 := yxa hmb (n := L.length) (by simp [hL]) (i := x - 1) (by omega) (z := ((x - 1 : Nat) : Int)) (by omega);have t2 := y1a hmb (i := x - 1) (by simp; omega) L'[x];simp only [xFa] at t1 t2;(repeat refine qA ?_);refine AWp.rG (fun _ => false) (fun _ => false) [0, 1, 2, 3, 4, 5, 6, 7, 8, 9, 10, 11, 12, 13, 14, 15, 16, 17] [0, 1, 5, 6, 7, 8, 9, 10, 11, 12, 13, 14, 15, 2, 3, 4, 16, 17] (by kernel_rfl) ?_;simp [s0, s13, sm, wx, i1, i2, l1, l2, t1, t2, i3];refine rA ?_;simp [s13, wx];exact hRR _ (x - 1) (by omega) ⟨x - 1, (L'.set x L'[x - 1]).set (x - 1) L'[x], rfl, by omega, by omega, by simp [s0], by simp [s10], by simp, ⟨by simp [hL], wqc hs (List.getElem_mem _) (List.getElem_mem _)⟩, by first | rfl | simp⟩
   (repeat refine qA ?_);refine AWp.condF (by simp; omega) ?_;refine eA ?_;subst hM2;exact ⟨L', ⟨hL, hs⟩, by simpa using sm⟩
  intro st hst;subst hM2;obtain ⟨L', ⟨hL, hs⟩, sm⟩ := hst;exact AWp.ret (fin _ L' ⟨hL, hs⟩ sm)
 (repeat refine qA ?_);refine AWp.condF (by simp; omega) ?_;refine kA ?_;try simp
 have wab : IntKind.wrap .i64 ((a : Int) + b) = (a : Int) + b := zga (by omega) (by omega);have wabm := wrc (x := a) (y := b) (by omega) (by omega);generalize hmd : (a + b) / 2 = md at wabm;refine rA ?_;simp [xFb, wab, wabm];have wn : IntKind.wrap .i64 ((md : Int) + k) = (md : Int) + k := zga (by omega) (by omega);refine rA ?_;simp [wn];refine rA ?_;simp;refine rA ?_;simp
 -- from where to where is looked
 obtain ⟨M, hM⟩ : ∃ M : St -> Prop, M = (fun st => ∃ (lo hi : Nat), lo <= hi /\ a <= lo /\ md + k <= lo + b /\ hi <= md /\ hi <= k /\ st.sl 0 = .own g L.length c /\ st.sl 1 = .int .i64 a /\ st.sl 2 = .int .i64 k /\ st.sl 3 = .int .i64 b /\ st.sl 4 = .func (.func 57) [] /\ st.sl 18 = .int .i64 md /\ st.sl 19 = .int .i64 ((md : Int) + k) /\ st.sl 20 = .int .i64 lo /\ st.sl 21 = .int .i64 hi /\ st.mem = m) := ⟨_, rfl⟩;(repeat refine qA ?_);refine AWp.cA M ?_ ?_
 ·by_cases hmk : md < k
  ·refine AWp.condT (by simp [hmk]) ?_;have wlo : IntKind.wrap .i64 ((md : Int) + k - b) = ((md + k - b : Nat) : Int) := by rw [zga (by omega) (by omega)]; omega
   refine rA ?_;simp [wlo];refine rA ?_;simp;subst hM;exact ⟨md + k - b, md, by omega, by omega, by omega, by omega, by omega, by simp, by simp, by simp, by simp, by simp, by simp, by simp, by simp, by simp, by simp⟩
  refine AWp.condF (by simp; omega) ?_;refine rA ?_;simp;refine rA ?_;simp;subst hM;exact ⟨a, k, by omega, by omega, by omega, by omega, by omega, by simp, by simp, by simp, by simp, by simp, by simp, by simp, by simp, by simp, by simp⟩
 intro st hst;subst hM;obtain ⟨lo, hi, hlh, hal, hlb, hhm, hhk, s0, s1, s2, s3, s4, s18, s19, s20, s21, sm⟩ := hst;have wp : IntKind.wrap .i64 ((md : Int) + k - 1) = ((md + k - 1 : Nat) : Int) := by rw [zga (by omega) (by omega)]; omega
 refine rA ?_;simp [s19, wp];obtain ⟨M, hM⟩ : ∃ M : St -> Prop, M = (fun st => ∃ (s : Nat), lo <= s /\ s <= hi /\ st.sl 0 = .own g L.length c /\ st.sl 1 = .int .i64 a /\ st.sl 2 = .int .i64 k /\ st.sl 3 = .int .i64 b /\ st.sl 4 = .func (.func 57) [] /\ st.sl 18 = .int .i64 md /\ st.sl 19 = .int .i64 ((md : Int) + k) /\ st.sl 20 = .int .i64 s /\ st.mem = m) := ⟨_, rfl⟩;(repeat refine qA ?_);refine AWp.cA M ?_ ?_
 ·refine AWp.block (AWp.ro (fun q st => ∃ (i j : Nat), q = j - i /\ lo <= i /\ i <= j /\ j <= hi /\ st.sl 0 = .own g L.length c /\ st.sl 1 = .int .i64 a /\ st.sl 2 = .int .i64 k /\ st.sl 3 = .int .i64 b /\ st.sl 4 = .func (.func 57) [] /\ st.sl 18 = .int .i64 md /\ st.sl 19 = .int .i64 ((md : Int) + k) /\ st.sl 22 = .int .i64 ((md + k - 1 : Nat) : Int) /\ st.sl 20 = .int .i64 i /\ st.sl 21 = .int .i64 j /\ st.mem = m) (hi - lo) ⟨lo, hi, rfl, by omega, by omega, by omega, by simp [s0], by simp [s1], by simp [s2], by simp [s3], by simp [s4], by simp [s18], by simp [s19], by simp, by simp [s20], by simp [s21], by simp [sm]⟩ ?_);clear s0 s1 s2 s3 s4 s18 s19 s20 s21 sm;rintro RR q st hRR ⟨i, j, rfl, hai, hij, hjb, s0, s1, s2, s3, s4, s18, s19, s22, s20, s21, sm⟩;refine rA ?_;simp [s20, s21];by_cases hlt : i < j
  ·(repeat refine qA ?_);refine AWp.condT (by simp [hlt]) ?_;refine kA ?_;try simp
   (repeat refine qA ?_);refine bA ?_;have wm : IntKind.wrap .i64 ((i : Int) + j) = (i : Int) + j := zga (by omega) (by omega);have wmm := wrc (x := i) (y := j) (by omega) (by omega);generalize hh : (i + j) / 2 = h at wmm;refine rA ?_;simp [s20, s21, wm, wmm, xFb];have wh : IntKind.wrap .i64 ((h : Int) + 1) = (h : Int) + 1 := zga (by omega) (by omega);have wq : IntKind.wrap .i64 (((md + k - 1 : Nat) : Int) - h) = ((md + k - 1 - h : Nat) : Int) := by rw [zga (by omega) (by omega)]; omega
   have i1 := yxa hm (n := L.length) rfl (i := md + k - 1 - h) (by omega) (z := ((md + k - 1 - h : Nat) : Int)) rfl;have i2 := yxa hm (n := L.length) rfl (i := h) (by omega) (z := (h : Int)) rfl;have l1 := yFa hm (i := md + k - 1 - h) (by omega);have l2 := yFa hm (i := h) (by omega);(repeat refine qA ?_);refine AWp.rG (fun i => i == 11) (fun _ => false) [0, 1, 2, 3, 4, 5, 6, 7, 8, 9, 10, 11, 12, 13] [0, 1, 2, 3, 4, 5, 6, 7, 8, 9, 10, 11, 12, 13] (by kernel_rfl) ?_;simp [s0, s4, s22, sm, wq, i1, i2, l1, l2];refine yCb rfl (n := 57) (caps := []) (by simp [s4]) (by simpa using yEb L[md + k - 1 - h] L[h]) ?_;simp;have hcmp := yDb L[md + k - 1 - h].s L[h].s;cases hb : blt L[md + k - 1 - h].s L[h].s with
   | false =>
    rw [hb] at hcmp;(repeat refine qA ?_);refine AWp.condT (by simpa using hcmp) ?_;refine rA ?_;simp [wh];exact hRR _ (j - (h + 1)) (by omega) ⟨h + 1, j, rfl, by omega, by omega, hjb, by simp [s0], by simp [s1], by simp [s2], by simp [s3], by simp [s4], by simp [s18], by simp [s19], by simp [s22], by simp, by simp [s21], by simp [sm]⟩
   | true =>
    rw [hb] at hcmp;(repeat refine qA ?_);refine AWp.condF (by simpa using hcmp) ?_;refine rA ?_;simp;exact hRR _ (h - i) (by omega) ⟨i, h, rfl, hai, by omega, by omega, by simp [s0], by simp [s1], by simp [s2], by simp [s3], by simp [s4], by simp [s18], by simp [s19], by simp [s22], by simp [s20], by simp, by simp [sm]⟩
  (repeat refine qA ?_);refine AWp.condF (by simp; omega) ?_;refine eA ?_;subst hM;exact ⟨i, hai, by omega, by simp [s0], by simp [s1], by simp [s2], by simp [s3], by simp [s4], by simp [s18], by simp [s19], by simp [s20], by simpa using sm⟩
 clear s0 s1 s2 s3 s4 s18 s19 s20 s21 sm;intro st hst;subst hM;obtain ⟨s, hls, hsh, s0, s1, s2, s3, s4, s18, s19, s20, sm⟩ := hst;have we : IntKind.wrap .i64 ((md : Int) + k - s) = ((md + k - s : Nat) : Int) := by rw [zga (by omega) (by omega)]; omega
 refine rA ?_;simp [s19, s20, we];generalize he : md + k - s = e at *;obtain ⟨M, hM⟩ : ∃ M : St -> Prop, M = (fun st => ∃ (L' : List Ar), st.sl 0 = .own g L.length c /\ st.sl 1 = .int .i64 a /\ st.sl 3 = .int .i64 b /\ st.sl 4 = .func (.func 57) [] /\ st.sl 18 = .int .i64 md /\ st.sl 20 = .int .i64 s /\ st.sl 24 = .int .i64 e /\ Sh L' L /\ st.mem = m.set g (arB c L')) := ⟨_, rfl⟩;refine AWp.gen (fun st => st.sl 0 = .own g L.length c /\ st.sl 1 = .int .i64 a /\ st.sl 2 = .int .i64 k /\ st.sl 3 = .int .i64 b /\ st.sl 4 = .func (.func 57) [] /\ st.sl 18 = .int .i64 md /\ st.sl 20 = .int .i64 s /\ st.sl 24 = .int .i64 e /\ st.mem = m) ⟨by simp [s0], by simp [s1], by simp [s2], by simp [s3], by simp [s4], by simp [s18], by simp [s20], by simp, by simp [sm]⟩ ?_;clear s0 s1 s2 s3 s4 s18 s19 s20 sm;rintro st ⟨s0, s1, s2, s3, s4, s18, s20, s24, sm⟩;obtain ⟨MG, hMG⟩ : ∃ MG : St -> Prop, MG = (fun st => st.sl 0 = .own g L.length c /\ st.sl 1 = .int .i64 a /\ st.sl 2 = .int .i64 k /\ st.sl 3 = .int .i64 b /\ st.sl 4 = .func (.func 57) [] /\ st.sl 18 = .int .i64 md /\ st.sl 20 = .int .i64 s /\ st.sl 24 = .int .i64 e /\ st.sl 185 = .bool (decide (s < k /\ k < e)) /\ st.mem = m) := ⟨_, rfl⟩;(repeat refine qA ?_);refine AWp.cA MG ?_ ?_
 ·refine rA ?_;subst hMG;by_cases q1 : s < k
  ·by_cases q2 : k < e
   ·simp [s0, s1, s2, s3, s4, s18, s20, s24, sm, q1, q2]
   simp [s0, s1, s2, s3, s4, s18, s20, s24, sm, q1, q2]
  simp [s0, s1, s2, s3, s4, s18, s20, s24, sm, q1]
 clear s0 s1 s2 s3 s4 s18 s20 s24 sm;intro st hst;subst hMG;obtain ⟨s0, s1, s2, s3, s4, s18, s20, s24, sc, sm⟩ := hst;(repeat refine qA ?_);refine AWp.cA M ?_ ?_
 ·by_cases hc : s < k /\ k < e
  ·(repeat refine qA ?_);refine AWp.condT (by simp [sc, hc]) ?_;refine rA ?_;simp [s0, s2, s4, s20, s24];refine wA ?_;simp [sm];refine wid hm rfl hl s k e rfl rfl rfl hc.1 hc.2 (by omega) fun L2 hL2 => ?_;try simp
   subst hM;exact ⟨L2, by simp [s0], by simp [s1], by simp [s3], by simp [s4], by simp [s18], by simp [s20], by simp [s24], hL2, by simp⟩
  (repeat refine qA ?_);refine AWp.condF (by simp [sc]; omega) ?_;refine kA ?_;subst hM;exact ⟨L, by simp [s0], by simp [s1], by simp [s3], by simp [s4], by simp [s18], by simp [s20], by simp [s24], Sh.refl L, by simp [sm, wea hm]⟩
 clear s0 s1 s2 s3 s4 s18 s20 s24 sc sm;intro st hst;subst hM;obtain ⟨L1, s0, s1, s3, s4, s18, s20, s24, ⟨hL1, hs1⟩, sm⟩ := hst;have hm1 := zaa m g (arB c L1);obtain ⟨M, hM⟩ : ∃ M : St -> Prop, M = (fun st => ∃ (L' : List Ar), st.sl 0 = .own g L.length c /\ st.sl 3 = .int .i64 b /\ st.sl 4 = .func (.func 57) [] /\ st.sl 18 = .int .i64 md /\ st.sl 24 = .int .i64 e /\ Sh L' L /\ st.mem = m.set g (arB c L')) := ⟨_, rfl⟩;obtain ⟨MG, hMG⟩ : ∃ MG : St -> Prop, MG = (fun st => st.sl 0 = .own g L.length c /\ st.sl 1 = .int .i64 a /\ st.sl 3 = .int .i64 b /\ st.sl 4 = .func (.func 57) [] /\ st.sl 18 = .int .i64 md /\ st.sl 20 = .int .i64 s /\ st.sl 24 = .int .i64 e /\ st.sl 199 = .bool (decide (a < s /\ s < md)) /\ st.mem = m.set g (arB c L1)) := ⟨_, rfl⟩;(repeat refine qA ?_);refine AWp.cA MG ?_ ?_
 ·refine rA ?_;subst hMG;by_cases q1 : a < s
  ·by_cases q2 : s < md
   ·simp [s0, s1, s3, s4, s18, s20, s24, sm, q1, q2]
   simp [s0, s1, s3, s4, s18, s20, s24, sm, q1, q2]
  simp [s0, s1, s3, s4, s18, s20, s24, sm, q1]
 clear s0 s1 s3 s4 s18 s20 s24 sm;intro st hst;subst hMG;obtain ⟨s0, s1, s3, s4, s18, s20, s24, sc, sm⟩ := hst;(repeat refine qA ?_);refine AWp.cA M ?_ ?_
 ·by_cases hc : a < s /\ s < md
  ·(repeat refine qA ?_);refine AWp.condT (by simp [sc, hc]) ?_;refine rA ?_;simp [s0, s1, s4, s18, s20];refine wA ?_;simp [sm];refine ih (md - a) (by omega) _ _ _ _ _ hm1 hL1 (by omega) _ _ _ a s md rfl rfl rfl hc.1 hc.2 (by omega) (by omega) _ fun L2 hL2 => ?_;try simp
   subst hM;exact ⟨L2, by simp [s0], by simp [s3], by simp [s4], by simp [s18], by simp [s24], xfa hL2 ⟨hL1, hs1⟩, by simp⟩
  (repeat refine qA ?_);refine AWp.condF (by simp [sc]; omega) ?_;refine kA ?_;subst hM;exact ⟨L1, by simp [s0], by simp [s3], by simp [s4], by simp [s18], by simp [s24], ⟨hL1, hs1⟩, by simp [sm]⟩
 clear s0 s1 s3 s4 s18 s20 s24 sc sm hm1;intro st hst;subst hM;obtain ⟨L1, s0, s3, s4, s18, s24, ⟨hL1, hs1⟩, sm⟩ := hst;have hm1 := zaa m g (arB c L1);have finN : ∀ (st : St) (L' : List Ar), Sh L' L -> st.mem = m.set g (arB c L') -> Post Tryz.prog Tryz.f156 K .normal st := fun st L' hL sm => ⟨[], .tup [], _, by simp [Tryz.f156, zQa], by rw [sm]; exact View.refl _ _, hK L' hL⟩;obtain ⟨MG, hMG⟩ : ∃ MG : St -> Prop, MG = (fun st => st.sl 0 = .own g L.length c /\ st.sl 3 = .int .i64 b /\ st.sl 4 = .func (.func 57) [] /\ st.sl 18 = .int .i64 md /\ st.sl 24 = .int .i64 e /\ st.sl 213 = .bool (decide (md < e /\ e < b)) /\ st.mem = m.set g (arB c L1)) := ⟨_, rfl⟩;(repeat refine qA ?_);refine AWp.cA MG ?_ ?_
 ·refine rA ?_;subst hMG;by_cases q1 : md < e
  ·by_cases q2 : e < b
   ·simp [s0, s3, s4, s18, s24, sm, q1, q2]
   simp [s0, s3, s4, s18, s24, sm, q1, q2]
  simp [s0, s3, s4, s18, s24, sm, q1]
 clear s0 s3 s4 s18 s24 sm;intro st hst;subst hMG;obtain ⟨s0, s3, s4, s18, s24, sc, sm⟩ := hst;by_cases hc : md < e /\ e < b
 ·(repeat refine qA ?_);refine AWp.condT (by simp [sc, hc]) ?_;refine rA ?_;simp [s0, s3, s4, s18, s24];refine wA ?_;simp [sm];refine ih (b - md) (by omega) _ _ _ _ _ hm1 hL1 (by omega) _ _ _ md e b rfl rfl rfl hc.1 hc.2 (by omega) (by omega) _ fun L2 hL2 => ?_;try simp
  exact finN _ L2 (xfa hL2 ⟨hL1, hs1⟩) (by simp)
 (repeat refine qA ?_);refine AWp.condF (by simp [sc]; omega) ?_;refine kA ?_;exact finN _ L1 ⟨hL1, hs1⟩ (by simp [sm])
theorem wFb (N : Nat) : xdd Tryz.prog 156 (.func (.func 57) []) N := by
 induction N using Nat.strongRecOn with
 | _ N ih => exact xtc N ih
theorem zkc (v : AV) (hv : v ≠ .undef) {m : Mem} {K : AV -> Mem -> Prop} (hK : K (.tup []) m) : zka Tryz.prog 155 [v, .int .i64 0, .int .i64 0, .func (.func 57) []] m K := by
 refine wO Tryz.func155 ?_;refine rA ?_;simp;obtain ⟨M0, hM0⟩ : ∃ M0 : St -> Prop, M0 = (fun st => st.mem = m) := ⟨_, rfl⟩;(repeat refine qA ?_);refine AWp.lastQ M0 ?_ ?_
 ·refine AWp.block (AWp.ro (fun q st => q = 0 /\ st.sl 2 = .int .i64 0 /\ st.sl 8 = .int .i64 1 /\ st.mem = m) 0 ⟨rfl, by simp, by simp [show IntKind.wrap .i64 1 = 1 from rfl], by simp⟩ ?_)
  rintro RR q st hRR ⟨rfl, s2, s8, sm⟩;refine rA ?_;simp [s2, s8];refine fA ?_;refine eA ?_;subst hM0;simpa using sm
 intro st hst;subst hM0;exact ⟨[], .tup [], _, by simp [Tryz.f155, zQa], by rw [hst]; exact View.refl _ _, hK⟩
theorem wjd {m : Mem} {g c ln : Nat} {L : List Ar} (hm : m g = some (arB c L)) (hln : L.length = ln) (hl : L.length <= 600) {zn : Int} (ez : zn = ln) {K : AV -> Mem -> Prop} (hK : ∀ L' : List Ar, Sh L' L -> (L.length < 20 -> L' = zsa L) -> K (.tup []) (m.set g (arB c L'))) :
  zka Tryz.prog 116 [.own g ln c, .int .i64 zn, .func (.func 57) []] m K := by
 subst hln;subst ez;refine wO Tryz.func116 ?_;refine rA ?_;simp;refine rA ?_;simp;obtain ⟨M, hM⟩ : ∃ M : St -> Prop, M = (fun st => ∃ (a : Nat) (L' : List Ar), a <= L.length /\ st.sl 0 = .own g L.length c /\ st.sl 1 = .int .i64 L.length /\ st.sl 2 = .func (.func 57) [] /\ st.sl 6 = .int .i64 20 /\ st.sl 7 = .int .i64 a /\ Sh L' L /\ st.mem = m.set g (arB c L') /\ (L.length < 20 -> a = 0 /\ L' = L)) := ⟨_, rfl⟩;(repeat refine qA ?_);refine AWp.cA M ?_ ?_
 ·refine AWp.block (AWp.ro (fun q st => ∃ (a : Nat) (L' : List Ar), q = L.length + 20 - a /\ a <= L.length /\ st.sl 0 = .own g L.length c /\ st.sl 1 = .int .i64 L.length /\ st.sl 2 = .func (.func 57) [] /\ st.sl 6 = .int .i64 20 /\ st.sl 7 = .int .i64 a /\ st.sl 8 = .int .i64 ((a : Int) + 20) /\ Sh L' L /\ st.mem = m.set g (arB c L') /\ (L.length < 20 -> a = 0 /\ L' = L)) (L.length + 20) ⟨0, L, rfl, by omega, by simp, by simp, by simp, by simp, by simp, by simp, Sh.refl L, by simp [wea hm], fun _ => ⟨rfl, rfl⟩⟩ ?_);rintro RR q st hRR ⟨a, L', rfl, ha, s0, s1, s2, s6, s7, s8, ⟨hL, hsh⟩, sm, hsm⟩;have hma := zaa m g (arB c L');refine rA ?_;simp [s1, s8];by_cases hlt : (a : Int) + 20 <= L.length
  ·(repeat refine qA ?_);refine AWp.condT (by simp [hlt]) ?_;refine kA ?_;try simp
   (repeat refine qA ?_);refine bA ?_;refine rA ?_;simp [s0, s2, s7, s8];refine wA ?_;simp [sm];refine xBb hma hL (by omega) a (a + 20) rfl (by omega) (by omega) (by omega) fun L2 hL2 _ => ?_;try simp
   refine rA ?_;simp [s8];have w : IntKind.wrap .i64 ((a : Int) + 20 + 20) = (a : Int) + 20 + 20 := zga (by omega) (by omega);refine rA ?_;simp [s8, s6, w];exact hRR _ (L.length + 20 - (a + 20)) (by omega) ⟨a + 20, L2, rfl, by omega, by simp [s0], by simp [s1], by simp [s2], by simp [s6], by simp, by simp, xfa hL2 ⟨hL, hsh⟩, by simp, fun e => by omega⟩
  (repeat refine qA ?_);refine AWp.condF (by simp; omega) ?_;refine eA ?_;subst hM;exact ⟨a, L', ha, by simp [s0], by simp [s1], by simp [s2], by simp [s6], by simp [s7], ⟨hL, hsh⟩, by simpa using sm, hsm⟩
 intro st hst;subst hM;obtain ⟨a, L1, ha, s0, s1, s2, s6, s7, ⟨hL1, hsh1⟩, sm, hsm⟩ := hst;have hma := zaa m g (arB c L1);refine rA ?_;simp [s0, s1, s2, s7];refine wA ?_;simp [sm];refine xBb hma hL1 (by omega) a L.length rfl rfl ha (by omega) fun L2 hL2 hs2 => ?_;try simp
 have hsm2 : L.length < 20 -> L2 = zsa L := fun e => by
  obtain ⟨rfl, rfl⟩ := hsm e;exact hs2 rfl rfl
 obtain ⟨hL2, hsh2⟩ := xfa hL2 ⟨hL1, hsh1⟩;refine AWp.gen (fun st => st.sl 0 = .own g L.length c /\ st.sl 1 = .int .i64 L.length /\ st.sl 2 = .func (.func 57) [] /\ st.sl 6 = .int .i64 20 /\ st.mem = m.set g (arB c L2)) ⟨by simp [s0], by simp [s1], by simp [s2], by simp [s6], by simp⟩ ?_;clear s0 s1 s2 s6 s7 sm hma hs2 hsm hL1 ha;rintro st ⟨s0, s1, s2, s6, sm⟩;obtain ⟨M0, hM0⟩ : ∃ M0 : St -> Prop, M0 = (fun st => ∃ (L' : List Ar), Sh L' L /\ st.mem = m.set g (arB c L') /\ (L.length < 20 -> L' = zsa L)) := ⟨_, rfl⟩;(repeat refine qA ?_);refine AWp.lastQ M0 ?_ ?_
 ·refine AWp.block (AWp.ro (fun q st => ∃ (bs : Nat) (L' : List Ar), q = L.length - bs /\ 20 <= bs /\ bs <= 1200 /\ st.sl 0 = .own g L.length c /\ st.sl 1 = .int .i64 L.length /\ st.sl 2 = .func (.func 57) [] /\ st.sl 6 = .int .i64 bs /\ Sh L' L /\ st.mem = m.set g (arB c L') /\ (L.length < 20 -> L' = zsa L)) (L.length - 20) ⟨20, L2, rfl, by omega, by omega, by simp [s0], by simp [s1], by simp [s2], by simp [s6], ⟨hL2, hsh2⟩, by simp [sm], hsm2⟩ ?_);clear s0 s1 s2 s6 sm hL2 hsm2;rintro RR q st hRR ⟨bs, L2, rfl, hb20, hbs, s0, s1, s2, s6, ⟨hL2, hsh2⟩, sm, hsm2⟩;refine rA ?_;simp [s1, s6];by_cases hlt : bs < L.length
  ·(repeat refine qA ?_);refine AWp.condT (by simp [hlt]) ?_;refine kA ?_;try simp
   (repeat refine qA ?_);refine bA ?_;have w2 : IntKind.wrap .i64 (2 * (bs : Int)) = 2 * (bs : Int) := zga (by omega) (by omega);refine rA ?_;simp [s6, w2];obtain ⟨M, hM⟩ : ∃ M : St -> Prop, M = (fun st => ∃ (a : Nat) (L' : List Ar), a <= L.length /\ st.sl 0 = .own g L.length c /\ st.sl 1 = .int .i64 L.length /\ st.sl 2 = .func (.func 57) [] /\ st.sl 6 = .int .i64 bs /\ st.sl 7 = .int .i64 a /\ Sh L' L /\ st.mem = m.set g (arB c L')) := ⟨_, rfl⟩;(repeat refine qA ?_);refine AWp.cA M ?_ ?_
   ·refine AWp.block (AWp.ro (fun q st => ∃ (a : Nat) (L' : List Ar), q = L.length + 1 - a /\ a <= L.length /\ st.sl 0 = .own g L.length c /\ st.sl 1 = .int .i64 L.length /\ st.sl 2 = .func (.func 57) [] /\ st.sl 6 = .int .i64 bs /\ st.sl 7 = .int .i64 a /\ st.sl 8 = .int .i64 ((a : Int) + 2 * bs) /\ Sh L' L /\ st.mem = m.set g (arB c L')) (L.length + 1) ⟨0, L2, rfl, by omega, by simp [s0], by simp [s1], by simp [s2], by simp [s6], by simp, by simp, ⟨hL2, hsh2⟩, by simp [sm]⟩ ?_);clear s0 s1 s2 s6 sm hL2 hsm2;rintro RR2 q st hRR2 ⟨a, L2, rfl, ha, s0, s1, s2, s6, s7, s8, ⟨hL2, hsh2⟩, sm⟩;have hma := zaa m g (arB c L2);refine rA ?_;simp [s1, s8];by_cases hle : (a : Int) + 2 * bs <= L.length
    ·(repeat refine qA ?_);refine AWp.condT (by simp [hle]) ?_;refine kA ?_;try simp
     (repeat refine qA ?_);refine bA ?_;have w3 : IntKind.wrap .i64 ((a : Int) + bs) = (a : Int) + bs := zga (by omega) (by omega);have w4 : IntKind.wrap .i64 ((a : Int) + 2 * bs + 2 * bs) = (a : Int) + 2 * bs + 2 * bs := zga (by omega) (by omega);refine rA ?_;simp [s0, s2, s6, s7, s8, w3];refine wA ?_;simp [sm];refine wFb (2 * bs) _ _ _ _ _ hma hL2 (by omega) _ _ _ a (a + bs) (a + 2 * bs) rfl (by omega) (by omega) (by omega) (by omega) (by omega) (by omega) _ fun L3 hL3 => ?_;try simp
     refine rA ?_;simp [s8];refine rA ?_;simp [s6, s8, w2, w4];exact hRR2 _ (L.length + 1 - (a + 2 * bs)) (by omega) ⟨a + 2 * bs, L3, rfl, by omega, by simp [s0], by simp [s1], by simp [s2], by simp [s6], by simp, by simp, xfa hL3 ⟨hL2, hsh2⟩, by simp⟩
    (repeat refine qA ?_);refine AWp.condF (by simp; omega) ?_;refine eA ?_;subst hM;exact ⟨a, L2, ha, by simp [s0], by simp [s1], by simp [s2], by simp [s6], by simp [s7], ⟨hL2, hsh2⟩, by simpa using sm⟩
   clear s0 s1 s2 s6 sm hL2 hsm2;intro st hst;subst hM;obtain ⟨a, L2, ha, s0, s1, s2, s6, s7, ⟨hL2, hsh2⟩, sm⟩ := hst;have hma := zaa m g (arB c L2);have w3 : IntKind.wrap .i64 ((a : Int) + bs) = (a : Int) + bs := zga (by omega) (by omega);refine rA ?_;simp [s6, s7, w3];refine rA ?_;simp [s1];obtain ⟨M, hM⟩ : ∃ M : St -> Prop, M = (fun st => ∃ (L' : List Ar), st.sl 0 = .own g L.length c /\ st.sl 1 = .int .i64 L.length /\ st.sl 2 = .func (.func 57) [] /\ st.sl 6 = .int .i64 bs /\ Sh L' L /\ st.mem = m.set g (arB c L')) := ⟨_, rfl⟩;(repeat refine qA ?_);refine AWp.cA M ?_ ?_
   ·by_cases hc : (a : Int) + bs < L.length
    ·refine AWp.condT (by simp [hc]) ?_;refine rA ?_;simp [s0, s1, s2, s7];refine wA ?_;simp [sm];refine wFb L.length _ _ _ _ _ hma hL2 (by omega) _ _ _ a (a + bs) L.length rfl (by omega) rfl (by omega) (by omega) (by omega) (by omega) _ fun L3 hL3 => ?_;try simp
     subst hM;exact ⟨L3, by simp [s0], by simp [s1], by simp [s2], by simp [s6], xfa hL3 ⟨hL2, hsh2⟩, by simp⟩
    refine AWp.condF (by simp; omega) ?_;refine kA ?_;subst hM;exact ⟨L2, by simp [s0], by simp [s1], by simp [s2], by simp [s6], ⟨hL2, hsh2⟩, by simp [sm]⟩
   clear s0 s1 s2 s6 s7 sm hL2 hma;intro st hst;subst hM;obtain ⟨L2, s0, s1, s2, s6, ⟨hL2, hsh2⟩, sm⟩ := hst;have w5 : IntKind.wrap .i64 ((bs : Int) * 2) = (bs : Int) * 2 := zga (by omega) (by omega);refine rA ?_;simp [s6, w5];exact hRR _ (L.length - bs * 2) (by omega) ⟨bs * 2, L2, rfl, by omega, by omega, by simp [s0], by simp [s1], by simp [s2], by simp, ⟨hL2, hsh2⟩, by simp [sm], fun e => by omega⟩
  (repeat refine qA ?_);refine AWp.condF (by simp; omega) ?_;refine eA ?_;subst hM0;exact ⟨L2, ⟨hL2, hsh2⟩, by simpa using sm, hsm2⟩
 intro st hst;subst hM0;obtain ⟨L', hL, sm, hs⟩ := hst;exact ⟨[], .tup [], _, by simp [Tryz.f116, zQa], by rw [sm]; exact View.refl _ _, hK L' hL hs⟩
theorem zqd (v : AV) (hv : v ≠ .undef) {m : Mem} {K : AV -> Mem -> Prop} (hK : K (.tup []) m) : zka Tryz.prog 116 [v, .int .i64 0, .func (.func 57) []] m K := by
 refine wO Tryz.func116 ?_;refine rA ?_;simp;refine rA ?_;simp;obtain ⟨M, hM⟩ : ∃ M : St -> Prop, M = (fun st => st.sl 0 = v /\ st.sl 1 = .int .i64 0 /\ st.sl 2 = .func (.func 57) [] /\ st.sl 6 = .int .i64 20 /\ st.sl 7 = .int .i64 0 /\ st.mem = m) := ⟨_, rfl⟩;(repeat refine qA ?_);refine AWp.cA M ?_ ?_
 ·refine AWp.block (AWp.ro (fun q st => q = 0 /\ st.sl 0 = v /\ st.sl 1 = .int .i64 0 /\ st.sl 2 = .func (.func 57) [] /\ st.sl 6 = .int .i64 20 /\ st.sl 7 = .int .i64 0 /\ st.sl 8 = .int .i64 20 /\ st.mem = m) 0 ⟨rfl, by simp, by simp, by simp, by simp, by simp, by simp, by simp⟩ ?_);rintro RR q st hRR ⟨rfl, s0, s1, s2, s6, s7, s8, sm⟩;refine rA ?_;simp [s1, s8];refine fA ?_;refine eA ?_;subst hM;exact ⟨by simp [s0], by simp [s1], by simp [s2], by simp [s6], by simp [s7], by simpa using sm⟩
 intro st hst;subst hM;obtain ⟨s0, s1, s2, s6, s7, sm⟩ := hst;refine rA ?_;simp [s0, s1, s2, s7];refine wA ?_;simp [sm];refine zkc v hv ?_;try simp
 obtain ⟨M0, hM0⟩ : ∃ M0 : St -> Prop, M0 = (fun st => st.mem = m) := ⟨_, rfl⟩;(repeat refine qA ?_);refine AWp.lastQ M0 ?_ ?_
 ·refine AWp.block (AWp.ro (fun q st => q = 0 /\ st.sl 1 = .int .i64 0 /\ st.sl 6 = .int .i64 20 /\ st.mem = m) 0 ⟨rfl, by simp [s1], by simp [s6], by simp⟩ ?_);rintro RR q st hRR ⟨rfl, s1, s6, sm⟩;refine rA ?_;simp [s1, s6];refine fA ?_;refine eA ?_;subst hM0;simpa using sm
 intro st hst;subst hM0;exact ⟨[], .tup [], _, by simp [Tryz.f116, zQa], by rw [hst]; exact View.refl _ _, hK⟩
theorem yFc {m : Mem} {g c : Nat} {L : List Ar} (hm : m g = some (arB c L)) (hl : L.length <= 600) {K : AV -> Mem -> Prop} (hK : ∀ L' : List Ar, Sh L' L -> (L.length < 20 -> L' = zsa L) -> K (.tup []) (m.set g (arB c L'))) :
  zka Tryz.prog 56 [.own g L.length c, .func (.func 57) []] m K := by
 refine wO Tryz.func56 ?_;refine rA ?_;simp;refine wA ?_;simp;refine wjd hm rfl hl rfl fun L' h1 h2 => ?_;try simp
 exact ⟨[], .tup [], _, by simp [Tryz.f56, zQa], by simp; exact View.refl _ _, hK L' h1 h2⟩
theorem xXb {m : Mem} {K : AV -> Mem -> Prop} (hK : K (.tup []) m) : zka Tryz.prog 56 [.lst true 0 [], .func (.func 57) []] m K := by
 refine wO Tryz.func56 ?_;refine rA ?_;simp;refine wA ?_;simp;refine zqd _ (by simp) ?_;try simp
 exact ⟨[], .tup [], _, by simp [Tryz.f56, zQa], by simp; exact View.refl _ _, hK⟩
theorem wGb {sub : PA Sm} {s : ByteArray} {T : List Tk} {us : List Ar} {bs : List Sm} {a1 a2 : Nat} {b1 b2 : Bool} (hT : T = (lex s).getD []) (rA : zfa (xaa []) T 0 (!(lex s).isSome) us a1 b1) (rB : zfa (y7a sub []) T a1 b1 bs a2 b2) :
  (b2 = true -> wqa sub s = none) /\ (b2 = false -> (wqa sub s = if (Pg.mk (zsa us) bs).ok = true then some (Pg.mk (zsa us) bs) else none) /\ ∃ r1 r2, xaa [] T = some (us, r1) /\ y7a sub [] r1 = some (bs, r2)) := by
 cases hl : lex s with
 | none =>
  rw [hl] at rA;have hb1 := rA.ill (.inl rfl);have hb2 := rB.ill (.inl hb1);refine ⟨fun _ => by unfold wqa; rw [hl], fun e => ?_⟩;rw [hb2] at e; cases e
 | some ts =>
  rw [hl] at rA hT;simp only [Option.getD_some] at hT;subst hT;simp only [Option.isSome_some, Bool.not_true] at rA;have e0 : T.drop 0 = T := List.drop_zero;refine ⟨fun e => ?_, fun e => ?_⟩
  ·subst e;unfold wqa;rw [hl];simp only;cases hA : xaa [] T with
   | none => simp only [zXa, hA, Option.bind_none]
   | some p =>
    obtain ⟨us', r1⟩ := p;obtain ⟨rfl, hb1, hd⟩ := rA.good us' r1 rfl (by rw [e0]; exact hA);cases hB : y7a sub [] r1 with
    | none => simp only [zXa, hA, hB, Option.bind_some, Option.bind_none]
    | some q =>
     obtain ⟨bs', r2⟩ := q;obtain ⟨_, hb2, _⟩ := rB.good bs' r2 hb1 (by rw [hd]; exact hB);cases hb2
  subst e;obtain ⟨hb1, r2, hB, _⟩ := rB.not_bad;subst hb1;obtain ⟨_, r1, hA, hd⟩ := rA.not_bad;rw [e0] at hA;rw [hd] at hB;refine ⟨?_, r1, r2, hA, hB⟩;unfold wqa;rw [hl];simp only [zXa, hA, hB, Option.bind_some, xca]
theorem wfa {sub : PA Sm} (hs : ysa 1 Sm.w sub) {T r1 r2 : List Tk} {us : List Ar} {bs : List Sm} (hT : ∀ t ∈ T, t.fine) (h6 : T.length <= 600) (hA : xaa [] T = some (us, r1)) (hB : y7a sub [] r1 = some (bs, r2)) : zAa Ar.tot us <= 4800 /\ zAa Sm.tot bs <= 4800 /\ us.length <= 4800 := by
 have h1 := (x0c _ _ _ _ _ hA).2;have h2 := (xZc hs _ _ _ _ _ hB).2;have h3 := xoe T hT;simp only [zAa] at h1 h2;have := zua Ar.tot us;refine ⟨by omega, by omega, by omega⟩
theorem xra {B : Nat} : ∀ {vs : List Ar}, (∀ x ∈ vs, x.tot <= B) -> zAa Ar.tot vs <= vs.length * (B + 1)
 | [], _ => by simp [zAa]
 | x :: vs, h => by
  have h1 := h x (by simp);have h2 := xra (vs := vs) fun y hy => h y (by simp [hy]);simp only [zAa, List.length_cons, Nat.add_mul, Nat.one_mul];simp only [Nat.mul_add, Nat.mul_one] at h2 ⊢;omega
theorem wHb : ∀ (k : Nat) (l : List Ar) (ts : List Tk) (b : List Ar) (r : List Tk), (∀ t ∈ ts, t.fine) -> (∀ x ∈ l, x.tot <= 6) -> zob k l ts = some (b, r) -> ∀ x ∈ b, x.tot <= 6
 | 0, l, ts, b, r, _, hl, h => by cases h; exact hl
 | k + 1, l, ts, b, r, hT, hl, h => by
  simp only [zob] at h;split at h
  ·cases h; exact hl
  rename_i r1 h1
  obtain ⟨⟨x, r2⟩, h2, h3⟩ := Option.bind_eq_some_iff.1 h;obtain ⟨a1, a2, a3⟩ := yHa wBa h1 h2;obtain ⟨t, rfl, _⟩ := z4a h1;refine wHb k _ _ _ _ (fun t ht => hT t (a1.subset ht)) (fun y hy => ?_) h3;rcases List.mem_append.1 hy with hy | hy
  ·exact hl y hy
  rw [List.mem_singleton] at hy;subst hy;unfold xqd at h2;obtain ⟨nm, q1, e1, e2⟩ := zla.1 h2;obtain ⟨num, q2, e3, e4⟩ := zla.1 e2;obtain ⟨u, q3, e5, e6⟩ := zla.1 e4;have hx : y = Ar.mk nm num := by cases e6; rfl
  subst hx;cases r1 with
  | nil => cases e1
  | cons t' l' =>
   simp only [nmP] at e1;split at e1
   ·cases e1;exact (hT t' (by simp)).len
   cases e1
theorem zBb {T r1 : List Tk} {us : List Ar} (hT : ∀ t ∈ T, t.fine) (hA : xaa [] T = some (us, r1)) : ∀ x ∈ us, x.tot <= 6 := wHb _ _ _ _ _ hT (by simp) hA
theorem wXd {m : Mem} (a : Ar) : z6a m (fun _ => False) (.agg [.str a.s, .int .i64 a.n]) a.av := .agg (zBa.c0 (.str _) (zBa.c0 (.int _ _) .nil)) rfl
theorem zPe {m : Mem} {F : Nat -> Prop} {r : AV} {a : Ar} (h : z6a m F r a.av) : r = a.av := by
 cases h with
 | agg h _ =>
  cases h with | cons h1 h2 _ _ _ =>
  cases h2 with | cons h2 h3 _ _ _ =>
  cases h1;cases h2;cases h3;rfl
theorem wsc {m : Mem} {F : Nat -> Prop} : ∀ {L : List Ar} {ys : List AV}, zBa m F ys (L.map Ar.av) -> ys = L.map Ar.av
 | [], ys, h => by cases h; rfl
 | a :: L, ys, h => by
  cases h with | cons h1 h2 _ _ _ =>
  rw [zPe h1, wsc h2];rfl
theorem xed {m : Mem} : ∀ L : List Ar, zBa m (fun _ => False) (L.map Ar.av) (L.map Ar.av)
 | [] => .nil
 | a :: L => zBa.c0 (wXd a) (xed L)
theorem QH.write {m1 m : Mem} {gr : Nat} {T : List Tk} {a : Nat} {d : Int} {bad : Bool} {bs : List (Nat × List AV)} {ts : List ((Nat -> Prop) × AV × AV)} {F : Nat -> Prop} {v x x' : AV} (h : QH m1 gr T a d bad bs ((F, v, x) :: ts) m) (h1 : m1 gr ≠ none) {g : Nat} {b : Blk} (hF : F g) (hO : z6a (m.set g b) F v x') : QH m1 gr T a d bad bs ((F, v, x') :: ts) (m.set g b) := by
 have hT := h.tr (F, v, x) (by simp);have d1 := List.pairwise_cons.1 h.td;have hm1 := (hT.1.new g hF).1;have hne : g ≠ gr := by rintro rfl; exact h1 hm1
 refine ⟨h.ps.off hne _, fun k y hk hy => ?_, fun q hq => ?_, h.bd, fun t ht => ?_, List.pairwise_cons.2 ⟨fun t ht => d1.1 t ht, d1.2⟩⟩
 ·have hkg : k ≠ g := by rintro rfl; rw [hm1] at hy; cases hy
  rw [Mem.so hkg];exact h.off k y hk hy
 ·have hqg : q.1 ≠ g := fun e => hT.2 q hq (by rw [e]; exact hF);rw [Mem.so hqg];exact h.bx q hq
 rcases List.mem_cons.1 ht with rfl | ht
 ·refine ⟨⟨hO, fun k hk => ⟨(hT.1.new k hk).1, ?_⟩⟩, hT.2⟩;by_cases e : k = g
  ·subst e; rw [zaa]; simp
  rw [Mem.so e]; exact (hT.1.new k hk).2
 have := h.tr t (by simp [ht]);exact ⟨this.1.set (fun hq => d1.1 t ht g hF hq) _, this.2⟩
theorem wYd {m : Mem} {FA FB : Nat -> Prop} {va vb : AV} {L : List Ar} {bs : List Sm} (hA : z6a m FA va (.lst false 2 (L.map Ar.av))) (hB : z6a m FB vb (.lst false 19 (bs.map Sm.av))) (hd : ∀ g, FA g -> ¬ FB g) : z6a m (fun g => FA g ∨ FB g) (.agg [va, vb]) (Pg.mk L bs).av :=
 .agg (.cons (A := FA) (B := FB) hA (.cons (A := FB) (B := fun _ => False) hB .nil (fun _ _ h => h) (fun _ h => h) fun _ h => h.elim) hd (fun _ h => .inl h) fun _ h => .inr h) (by simp [hA.okc.1, hB.okc.1])
theorem yGc (s : ByteArray) (hz : s.size <= 9223372036854775807) {Tb : TypeId} {m : Mem} (hm : m TB = some (yba Tb)) {K : AV -> Mem -> Prop}
  (hK : ∀ m' F r, Ext m m' -> Tv m m' F r ((parse s).getD (Pg.mk [] [])).av -> K (.tup [r, .bool (parse s).isSome]) m') : zka Tryz.prog 18 [.str s] m K := by
 have eE : ByteArray.empty = (⟨#[]⟩ : ByteArray) := rfl;obtain ⟨T, hTd⟩ : ∃ T, T = (lex s).getD [] := ⟨_, rfl⟩;have hT : (∀ t ∈ T, t.fine) /\ T.length <= 600 := by
  cases hl : lex s with
  | none => rw [hTd, hl]; simp
  | some T' =>
   rw [hTd, hl];exact x3a hl
 obtain ⟨hT, h6⟩ := hT;refine wO Tryz.func18 ?_;refine rA ?_;simp;intro g2 hg2;have hE2 := zFa hg2 (.box [.lst true 0 [], .lst true 0 []]);have w2 := zaa m g2 (.box [.lst true 0 [], .lst true 0 []]);refine AWp.gen (fun st => st.sl 0 = .str s /\ st.sl 2 = .ptr g2 0 /\ st.sl 3 = .bool false /\ st.mem = m.set g2 (.box [.lst true 0 [], .lst true 0 []])) ⟨by simp, by simp, by simp, by simp⟩ ?_;generalize m.set g2 (.box [.lst true 0 [], .lst true 0 []]) = m1 at *;rintro st ⟨s0, s2, s3, sm⟩;refine rA ?_;simp [s0];refine wA ?_;simp [sm];refine zZb s hz (hE2 _ _ hm) ?_;rw [<- hTd];try simp
 refine AWp.gen (fun st => st.sl 2 = .ptr g2 0 /\ st.sl 3 = .bool false /\ st.sl 4 = .lst false 3 (T.map Tk.av) /\ st.sl 5 = .bool (lex s).isSome /\ st.mem = m1) ⟨by simp [s2], by simp [s3], by simp, by simp, by simp⟩ ?_;clear s0 s2 s3 sm;rintro st ⟨s2, s3, s4, s5, sm⟩;refine rA ?_;simp [s4, s5, sm];intro g6 hg6;have n26 : g2 ≠ g6 := by rintro rfl; rw [w2] at hg6; cases hg6
 have hE6 := zFa hg6 (.box (pc T 0 0 (!(lex s).isSome)));have w2 := hE6 _ _ w2;have hE := hE2.trans hE6;have hm6 : m g6 = none := by
  cases hq : m g6 with
  | none => rfl
  | some b => rw [hE2 _ _ hq] at hg6; cases hg6
 have hP : PS g6 T 0 0 (!(lex s).isSome) (m1.set g6 (.box (pc T 0 0 (!(lex s).isSome)))) := ⟨zaa _ _ _, by simp, h6⟩;refine AWp.gen (fun st => st.sl 2 = .ptr g2 0 /\ st.sl 3 = .bool false /\ st.sl 4 = .lst false 3 (T.map Tk.av) /\ st.sl 6 = .ptr g6 0 /\ st.mem = m1.set g6 (.box (pc T 0 0 (!(lex s).isSome)))) ⟨by simp [s2], by simp [s3], by simp [s4], by simp, by simp [pc]⟩ ?_;generalize m1.set g6 (.box (pc T 0 0 (!(lex s).isSome))) = m2 at *;clear s2 s3 s4 s5 sm hg6 hE2 hE6;rintro st ⟨s2, s3, s4, s6, sm⟩;have hgr := hP.at
 refine rA ?_;simp [sm];intro g7 hg7;have n27 : g2 ≠ g7 := by rintro rfl; rw [w2] at hg7; cases hg7
 have h := ((QH.start hP).box hgr hg7 [.lst true 0 [], .lst true 0 []]).plain (r := .lst true 0 []) (x := .lst false 2 (([] : List Ar).map Ar.av)) (.nil _ _ _);refine AWp.gen (fun st => st.sl 2 = .ptr g2 0 /\ st.sl 3 = .bool false /\ st.sl 4 = .lst false 3 (T.map Tk.av) /\ st.sl 6 = .ptr g6 0 /\ st.sl 7 = .ptr g7 0 /\ st.mem = m2.set g7 (.box [.lst true 0 [], .lst true 0 []])) ⟨by simp [s2], by simp [s3], by simp [s4], by simp [s6], by simp, by simp⟩ ?_;generalize m2.set g7 (.box [.lst true 0 [], .lst true 0 []]) = m3 at *;clear s2 s3 s4 s6 sm hg7;rintro st ⟨s2, s3, s4, s6, s7, sm⟩;obtain ⟨bad0, hbad0⟩ : ∃ b, b = !(lex s).isSome := ⟨_, rfl⟩;rw [<- hbad0] at h hP
 -- the arrays
 obtain ⟨M, hM⟩ : ∃ M : St -> Prop, M = (fun st => ∃ FA va us a1 b1, st.sl 2 = .ptr g2 0 /\ st.sl 3 = .bool false /\ st.sl 4 = .lst false 3 (T.map Tk.av) /\ st.sl 6 = .ptr g6 0 /\ st.sl 7 = .ptr g7 0 /\ QH m2 g6 T a1 0 b1 [(g7, [va, .lst true 0 []])] [(FA, va, .lst false 2 (us.map Ar.av))] st.mem /\ xoc 57 2 FA va (us.map Ar.av).length st.mem /\ zfa (xaa []) T 0 bad0 us a1 b1 /\ us.length <= 600) := ⟨_, rfl⟩;(repeat refine qA ?_);refine AWp.cA M ?_ ?_
 ·refine AWp.block (AWp.ro (fun q st => ∃ FA va us a1 b1, q = (if b1 = true then 0 else T.length - a1 + 1) /\ st.sl 2 = .ptr g2 0 /\ st.sl 3 = .bool false /\ st.sl 4 = .lst false 3 (T.map Tk.av) /\ st.sl 6 = .ptr g6 0 /\ st.sl 7 = .ptr g7 0 /\ QH m2 g6 T a1 0 b1 [(g7, [va, .lst true 0 []])] [(FA, va, .lst false 2 (us.map Ar.av))] st.mem /\ xoc 57 2 FA va (us.map Ar.av).length st.mem /\ (us.length <= 600 /\ (b1 = false -> us.length <= a1)) /\ ∀ y a2 b2, zfa (xaa us) T a1 b1 y a2 b2 -> zfa (xaa []) T 0 bad0 y a2 b2) (if bad0 = true then 0 else T.length - 0 + 1) ⟨_, .lst true 0 [], [], 0, bad0, rfl, s2, s3, s4, s6, s7, by rw [sm]; exact h, .inl ⟨rfl, rfl⟩, by simp, fun _ _ _ h => h⟩ ?_)
  clear s2 s3 s4 s6 s7 sm h;rintro RR q st hRR ⟨FA, va, us, a1, b1, rfl, s2, s3, s4, s6, s7, h, hv, ⟨hlen6, hlen⟩, hall⟩;refine rA ?_;simp [s6];refine wA ?_;try simp [s6]
  refine zwb h.ps y6a fun n1 hPn hOn => ?_;try simp
  have hv := hv.keep (h.same hgr (List.mem_cons_self ..) hOn);have h := h.call hgr hOn hPn;clear hPn hOn;cases hi : isT (hdT T a1 b1) y6a with
  | false =>
   have hno := xqa hT (by decide) hi;rw [hi] at h;simp at h;refine fA ?_;refine eA ?_;subst hM;exact ⟨FA, va, us, a1, b1, by simp [s2], by simp [s3], by simp [s4], by simp [s6], by simp [s7], by simpa using h, by simpa using hv, hall _ _ _ (wlb us hno), hlen6⟩
  | true =>
   obtain ⟨rfl, hlt, hmk⟩ := zxb hT (by decide) hi;rw [hi] at h;simp at h;refine tA ?_;refine kA ?_;try simp
   (repeat refine qA ?_);refine bA ?_;refine AWp.gen (fun st => st.sl 2 = .ptr g2 0 /\ st.sl 3 = .bool false /\ st.sl 4 = .lst false 3 (T.map Tk.av) /\ st.sl 6 = .ptr g6 0 /\ st.sl 7 = .ptr g7 0 /\ st.mem = n1) ⟨by simp [s2], by simp [s3], by simp [s4], by simp [s6], by simp [s7], by simp⟩ ?_;clear s2 s3 s4 s6 s7;rintro st ⟨s2, s3, s4, s6, s7, sm⟩;refine rA ?_;simp [s6];refine wA ?_;simp [sm, s6];refine z1b h.ps fun n2 nm kk nn a2 b2 hPn hOn run1 => ?_;have hv := hv.keep (h.same hgr (List.mem_cons_self ..) hOn);have h := h.call hgr hOn hPn;clear hPn hOn;simp;intro g8 hg8;have hv := hv.keep (h.sameNew (List.mem_cons_self ..) hg8 (.box [.str nm, .int .i64 0]));have h := h.box hgr hg8 [.str nm, .int .i64 0];refine AWp.gen (fun st => st.sl 2 = .ptr g2 0 /\ st.sl 3 = .bool false /\ st.sl 4 = .lst false 3 (T.map Tk.av) /\ st.sl 6 = .ptr g6 0 /\ st.sl 7 = .ptr g7 0 /\ st.sl 8 = .ptr g8 0 /\ st.mem = n2.set g8 (.box [.str nm, .int .i64 0])) ⟨by simp [s2], by simp [s3], by simp [s4], by simp [s6], by simp [s7], by simp, by simp⟩ ?_;generalize n2.set g8 (.box [.str nm, .int .i64 0]) = n3 at *;clear s2 s3 s4 s6 s7 sm hg8;rintro st ⟨s2, s3, s4, s6, s7, s8, sm⟩;refine rA ?_;simp [s6];refine wA ?_;simp [sm, s6];refine yYd h.ps fun n4 ss kk2 num a3 b3 hPn hOn run2 => ?_;have hv := hv.keep (h.same hgr (List.mem_cons_self ..) hOn);have h := h.call hgr hOn hPn;clear hPn hOn;have w8 := h.box1 (g := g8) (cs := [.str nm, .int .i64 0]) (by simp);simp [s8, w8];have hv := hv.keep (h.samePut (List.mem_cons_self ..) (g := g8) (cs := [.str nm, .int .i64 0]) (by simp) (.box [.str nm, .int .i64 num]));have h := QH.put (l1 := []) (cs' := [.str nm, .int .i64 num]) h;refine AWp.gen (fun st => st.sl 2 = .ptr g2 0 /\ st.sl 3 = .bool false /\ st.sl 4 = .lst false 3 (T.map Tk.av) /\ st.sl 6 = .ptr g6 0 /\ st.sl 7 = .ptr g7 0 /\ st.sl 8 = .ptr g8 0 /\ st.mem = n4.set g8 (.box [.str nm, .int .i64 num])) ⟨by simp [s2], by simp [s3], by simp [s4], by simp [s6], by simp [s7], by simp [s8], by simp⟩ ?_;generalize n4.set g8 (.box [.str nm, .int .i64 num]) = n5 at *
   clear s2 s3 s4 s6 s7 s8 sm w8;rintro st ⟨s2, s3, s4, s6, s7, s8, sm⟩;refine rA ?_;simp [s6];refine wA ?_;simp [sm, s6];refine yEa h.ps hT 59 fun n6 a4 b4 hPn hOn run3 => ?_;have hv := hv.keep (h.same hgr (List.mem_cons_self ..) hOn);have h := h.call hgr hOn hPn;clear hPn hOn;try simp
   have runA : zfa xqd T (a1 + 1) false (Ar.mk nm num) a4 b4 := run1.then_ (run2.then_ (run3.then_ (zfa.done _ T a4 b4)));have w7 := h.box1 (g := g7) (cs := [va, .lst true 0 []]) (by simp);have w8 := h.box1 (g := g8) (cs := [.str nm, .int .i64 num]) (by simp);obtain ⟨v1, v2, v3⟩ := hv.ok;refine rA ?_;simp [s7, s8, w7, w8, v2, v3, zda];have hlm : (us.map Ar.av).length = us.length := by simp
   have hle := h.ps.le;refine (h.plain (wXd (Ar.mk nm num))).app et_29 hgr hv (by simp [wwa]) (by rw [hlm]; omega) fun FA' va' n7 h hv _ => ?_;obtain ⟨v1', v2', v3'⟩ := hv.ok;have w7 := h.box1 (g := g7) (cs := [va, .lst true 0 []]) (by simp);simp [w7, v1', v2', v3', s7];have hv := hv.keep (h.samePut (List.mem_cons_self ..) (g := g7) (cs := [va, .lst true 0 []]) (by simp) (.box [va', .lst true 0 []]));have h := (QH.put (l1 := [(g8, [.str nm, .int .i64 num])]) (cs' := [va', .lst true 0 []]) h).less (bs' := [(g7, [va', .lst true 0 []])]) (List.sublist_cons_self _ _) (List.Sublist.refl _);have hl1 := hlen rfl;have hpos : b4 = false -> a1 + 1 < a4 := fun e => by
    subst e;have := (zfa.ltN (ysa.less wBa (by omega) fun _ => Nat.le_refl _) runA hle).1;omega
   refine hRR _ (if b4 = true then 0 else T.length - a4 + 1) ?_ ⟨FA', va', us ++ [Ar.mk nm num], a4, b4, rfl, by simp [s2], by simp [s3], by simp [s4], by simp [s6], by simp [s7], by simpa using h, by simpa using hv, ⟨by simp; omega, fun e => by have := hpos e; simp; omega⟩, fun y a5 b5 hr => hall y a5 b5 (wmb hlt hmk runA hr)⟩
   cases b4 with
   | true => simp
   | false =>
    have := hpos rfl;simp;omega
 intro st hst;subst hM;obtain ⟨FA, va, us, a0, b0, s2, s3, s4, s6, s7, h, hv, runA, hlu⟩ := hst;obtain ⟨n0, sm⟩ : ∃ n0, st.mem = n0 := ⟨_, rfl⟩;rw [sm] at h hv;have h := (h.plain (r := .lst true 0 []) (x := .lst false 19 (([] : List Sm).map Sm.av)) (.nil _ _ _)).swap;have hS : znd Tryz.prog 55 1 (zZa 3) := by simpa using wWd 3 (by omega)
 -- the statements
 obtain ⟨M, hM⟩ : ∃ M : St -> Prop, M = (fun st => ∃ FB vb bs a1 d1 b1, st.sl 2 = .ptr g2 0 /\ st.sl 3 = .bool false /\ st.sl 6 = .ptr g6 0 /\ st.sl 7 = .ptr g7 0 /\ QH m2 g6 T a1 d1 b1 [(g7, [va, vb])] [(FA, va, .lst false 2 (us.map Ar.av)), (FB, vb, .lst false 19 (bs.map Sm.av))] st.mem /\ xoc 57 2 FA va (us.map Ar.av).length st.mem /\ xoc 83 19 FB vb (bs.map Sm.av).length st.mem /\ zfa (y7a (zZa 3) []) T a0 b0 bs a1 b1) := ⟨_, rfl⟩;(repeat refine qA ?_);refine AWp.cA M ?_ ?_
 ·refine AWp.block (AWp.ro (fun q st => ∃ FB vb bs a1 d1 b1, q = (if b1 = true then 0 else T.length - a1 + 1) /\ st.sl 2 = .ptr g2 0 /\ st.sl 3 = .bool false /\ st.sl 4 = .lst false 3 (T.map Tk.av) /\ st.sl 6 = .ptr g6 0 /\ st.sl 7 = .ptr g7 0 /\ QH m2 g6 T a1 d1 b1 [(g7, [va, vb])] [(FA, va, .lst false 2 (us.map Ar.av)), (FB, vb, .lst false 19 (bs.map Sm.av))] st.mem /\ xoc 57 2 FA va (us.map Ar.av).length st.mem /\ xoc 83 19 FB vb (bs.map Sm.av).length st.mem /\ (b1 = false -> d1 = 0 /\ bs.length <= a1) /\ ∀ y a2 b2, zfa (y7a (zZa 3) bs) T a1 b1 y a2 b2 -> zfa (y7a (zZa 3) []) T a0 b0 y a2 b2) (if b0 = true then 0 else T.length - a0 + 1) ⟨_, .lst true 0 [], [], a0, 0, b0, rfl, s2, s3, s4, s6, s7, by rw [sm]; exact h, by rw [sm]; exact hv, .inl ⟨rfl, rfl⟩, fun _ => ⟨rfl, by simp⟩, fun _ _ _ h => h⟩ ?_)
  clear s2 s3 s4 s6 s7 sm h hv;rintro RR q st hRR ⟨FB, vb, bs, a1, d1, b1, rfl, s2, s3, s4, s6, s7, h, hv, hw, hdl, hall⟩;have hbx := h.ps.box;unfold pc at hbx;cases b1 with
  | true =>
   refine rA ?_;simp [s6, hbx];refine fA ?_;refine eA ?_;subst hM;exact ⟨FB, vb, bs, a1, d1, true, by simp [s2], by simp [s3], by simp [s6], by simp [s7], by simpa using h, by simpa using hv, by simpa using hw, hall _ _ _ (zrb bs (.inl rfl))⟩
  | false =>
   obtain ⟨hd1, hlen⟩ := hdl rfl;subst hd1;have hle1 := h.ps.le;by_cases hlt : a1 < T.length
   ·have hlt2 : (a1 : Int) < T.length := by omega
    refine rA ?_;simp [s4, s6, hbx, hlt2];refine tA ?_;refine kA ?_;try simp
    (repeat refine qA ?_);refine bA ?_;refine AWp.gen (fun st' => st'.sl 2 = .ptr g2 0 /\ st'.sl 3 = .bool false /\ st'.sl 4 = .lst false 3 (T.map Tk.av) /\ st'.sl 6 = .ptr g6 0 /\ st'.sl 7 = .ptr g7 0 /\ st'.mem = st.mem) ⟨by simp [s2], by simp [s3], by simp [s4], by simp [s6], by simp [s7], by simp⟩ ?_;clear s2 s3 s4 s6 s7;generalize st.mem = n0 at *;rintro st ⟨s2, s3, s4, s6, s7, sm⟩;refine rA ?_;simp [s6];refine wA ?_;simp [sm, s6];refine hS g6 T a1 0 false _ h.ps hT (fun _ => rfl) _ fun n1 Fx cx x a2 d2 b2 hPn hOn hTn run hdd => ?_;have hv := hv.keep (h.same hgr (List.mem_cons_self ..) hOn);have hw := hw.keep (h.same hgr (List.mem_cons_of_mem _ (List.mem_cons_self ..)) hOn);have h := h.treeV hgr hOn hPn hTn;obtain ⟨hl, hok, htk⟩ := yEc hTn.own;clear hPn hOn hTn hbx;simp [hl];intro g9 hg9;refine ⟨hok, ?_⟩;have hv := hv.keep (h.sameNew (r := va) (List.mem_cons_of_mem _ (List.mem_cons_self ..)) hg9 (.box cx));have hw := hw.keep (h.sameNew (r := vb) (List.mem_cons_of_mem _ (List.mem_cons_of_mem _ (List.mem_cons_self ..))) hg9 (.box cx));have h := h.box hgr hg9 cx;refine AWp.gen (fun st => st.sl 2 = .ptr g2 0 /\ st.sl 3 = .bool false /\ st.sl 4 = .lst false 3 (T.map Tk.av) /\ st.sl 6 = .ptr g6 0 /\ st.sl 7 = .ptr g7 0 /\ st.sl 9 = .ptr g9 0 /\ st.mem = n1.set g9 (.box cx)) ⟨by simp [s2], by simp [s3], by simp [s4], by simp [s6], by simp [s7], by simp, by simp⟩ ?_;generalize n1.set g9 (.box cx) = n2 at *;clear s2 s3 s4 s6 s7 sm hg9;rintro st ⟨s2, s3, s4, s6, s7, s9, sm⟩;have w7 := h.box1 (g := g7) (cs := [va, vb]) (by simp);have w9 := h.box1 (g := g9) (cs := cx) (by simp);obtain ⟨v1, v2, v3⟩ := hw.ok;refine rA ?_;simp [s7, s9, sm, w7, w9, v2, v3, hl, htk, zda];have hlm : (bs.map Sm.av).length = bs.length := by simp
    have hle := h.ps.le;have h := h.rot;refine h.app et_30 hgr hw (by simp [wwa]) (by rw [hlm]; omega) fun FB' vb' n3 h hw hkeep => ?_;have hv := hv.keep (hkeep _ (List.mem_cons_self ..));obtain ⟨v1', v2', v3'⟩ := hw.ok;have w7 := h.box1 (g := g7) (cs := [va, vb]) (by simp);simp [w7, v1', v2', v3', s7];have hv := hv.keep (h.samePut (r := va) (List.mem_cons_of_mem _ (List.mem_cons_self ..)) (g := g7) (cs := [va, vb]) (by simp) (.box [va, vb']));have hw := hw.keep (h.samePut (List.mem_cons_self ..) (g := g7) (cs := [va, vb]) (by simp) (.box [va, vb']));have h := ((QH.put (l1 := [(g9, cx)]) (cs' := [va, vb']) h).less (bs' := [(g7, [va, vb'])]) (List.sublist_cons_self _ _) (List.Sublist.refl _)).swap;refine hRR _ (if b2 = true then 0 else T.length - a2 + 1) ?_ ⟨FB', vb', bs ++ [x], a2, d2, b2, rfl, by simp [s2], by simp [s3], by simp [s4], by simp [s6], by simp [s7], by simpa using h, by simpa using hv, by simpa using hw, fun e => ⟨hdd e, ?_⟩, fun y a3 b3 hr => hall y a3 b3 (xab (yua 3) hlt run hr)⟩
    ·cases b2 with
     | true => simp
     | false =>
      have := (zfa.ltN (yua 3) run hle).1;simp;omega
    subst e;have := (zfa.ltN (yua 3) run hle).1;simp;omega
   have hlt2 : ¬ (a1 : Int) < T.length := by omega
   refine rA ?_;simp [s4, s6, hbx, hlt2];refine fA ?_;refine eA ?_;subst hM;exact ⟨FB, vb, bs, a1, 0, false, by simp [s2], by simp [s3], by simp [s6], by simp [s7], by simpa using h, by simpa using hv, by simpa using hw, hall _ _ _ (zrb bs (.inr (by omega)))⟩
 clear s2 s3 s4 s6 s7 sm h hv;intro st hst;subst hM;obtain ⟨FB, vb, bs, a1, d1, b1, s2, s3, s6, s7, h, hv, hw, runB⟩ := hst;rw [hbad0] at runA;obtain ⟨o1, o2⟩ := wGb hTd runA runB;obtain ⟨n0, sm⟩ : ∃ n0, st.mem = n0 := ⟨_, rfl⟩;rw [sm] at h hv hw
 -- in order
 obtain ⟨M, hM⟩ : ∃ M : St -> Prop, M = (fun st => ∃ L', st.sl 2 = .ptr g2 0 /\ st.sl 3 = .bool false /\ st.sl 6 = .ptr g6 0 /\ st.sl 7 = .ptr g7 0 /\ QH m2 g6 T a1 d1 b1 [(g7, [va, vb])] [(FA, va, .lst false 2 (L'.map Ar.av)), (FB, vb, .lst false 19 (bs.map Sm.av))] st.mem /\ Sh L' us /\ (us.length < 20 -> L' = zsa us)) := ⟨_, rfl⟩;obtain ⟨v1, v2, v3⟩ := hv.ok;(repeat refine qA ?_);refine AWp.cA M ?_ ?_
 ·have w7 := h.box1 (g := g7) (cs := [va, vb]) (by simp);have hF := h.tr (FA, va, .lst false 2 (us.map Ar.av)) (by simp);rcases hv with ⟨rfl, h0⟩ | ⟨g, c, ys, rfl, hFg, hmg⟩
  ·have hu : us = [] := by simpa using h0
   subst hu;refine rA ?_;simp [s7, sm, w7];refine wA ?_;try simp [sm]
   refine xXb ?_;subst hM;exact ⟨[], by simp [s2], by simp [s3], by simp [s6], by simp [s7], by simpa [sm] using h, Sh.refl _, fun _ => rfl⟩
  have hys : ys = us.map Ar.av := by
   cases hF.1.own with
   | @own _ G0 _ _ _ _ T0 ys' _ k1 k2 k3 k4 k5 k6 =>
    rw [hmg] at k1;simp only [Option.some.injEq, Blk.arr.injEq] at k1;rw [k1.2.2.2];exact wsc k3
  subst hys;simp only [List.length_map] at h hF w7;refine rA ?_;simp [s7, sm, w7];refine wA ?_;try simp [sm]
  refine yFc (g := g) (c := c) (L := us) hmg hlu fun L' hL' hs => ?_;have hO : z6a (n0.set g (arB c L')) FA (.own g us.length c) (.lst false 2 (L'.map Ar.av)) := .own (G := fun _ => False) (zaa _ _ _) (by simp [hL'.1]) (xed L') id (fun _ h => h.elim) hFg;have h := h.write hgr hFg hO;subst hM;exact ⟨L', by simp [s2], by simp [s3], by simp [s6], by simp [s7], by simpa using h, hL', hs⟩
 clear s2 s3 s6 s7 sm h hv hw;intro st hst;subst hM;obtain ⟨L', s2, s3, s6, s7, h, ⟨hlen', hmem'⟩, hsort⟩ := hst;obtain ⟨n3, sm⟩ : ∃ n3, st.mem = n3 := ⟨_, rfl⟩;rw [sm] at h;have hok := zme hlen' hsort bs;have hbx := h.ps.box;unfold pc at hbx;have w7 := h.box1 (g := g7) (cs := [va, vb]) (by simp);have w2' := h.off g2 _ n26 w2;have hOA := (h.tr (FA, va, .lst false 2 (L'.map Ar.av)) (by simp)).1;have hOB := (h.tr (FB, vb, .lst false 19 (bs.map Sm.av)) (by simp)).1;obtain ⟨kA1, kA2, kA3⟩ := hOA.own.okc;obtain ⟨kB1, kB2, kB3⟩ := hOB.own.okc;have toE : ∀ m', Off g6 m m' -> Ext m m' := fun m' hO g b hg => hO g b (by rintro rfl; rw [hm6] at hg; cases hg) hg;have hO4 : Off g6 m n3 := (Off.ext hE).trans h.off;have hO5 : ∀ b, Off g6 m (n3.set g2 b) := fun b g x hk hx => by
  have hne : g ≠ g2 := by rintro rfl; rw [hg2] at hx; cases hx
  rw [Mem.so hne];exact hO4 g x hk hx
 have zero : Tv m (n3.set g2 (.box [.lst true 0 [], .lst true 0 []])) (fun _ => False) (.agg [.lst true 0 [], .lst true 0 []]) (Pg.mk [] []).av := ⟨.agg (zBa.c0 (.nil _ _ _) (zBa.c0 (.nil _ _ _) .nil)) rfl, fun _ h => h.elim⟩;have bad : ∀ st' : St, parse s = none -> st'.sl 2 = .ptr g2 0 -> st'.sl 3 = .bool false -> st'.mem = n3.set g2 (.box [.lst true 0 [], .lst true 0 []]) -> Post Tryz.prog Tryz.f18 K .ret st' := fun st' hn t2 t3 tm => by
  have hK := hK _ _ _ (toE _ (hO5 _)) (by rw [hn]; exact zero);rw [hn] at hK;exact ⟨[.agg [.lst true 0 [], .lst true 0 []], .bool false], _, _, by simp [Tryz.f18, zQa, t2, t3, tm], by rw [tm]; exact View.refl _ _, hK⟩
 cases b1 with
 | true =>
  refine rA ?_;simp [s6, s7, sm, hbx];refine tA ?_;refine rA ?_;simp [s2, w2', sm];refine AWp.ret (bad _ (o1 rfl) ?_ ?_ ?_) <;> simp [s2, sm]
 | false =>
  obtain ⟨o3, r1, r2, hA, hB⟩ := o2 rfl;obtain ⟨z1, z2, z3⟩ := wfa (yua 3) hT h6 hA hB;have ht : (Pg.mk L' bs).tot <= 1048576 := by
   have h1 : zAa Ar.tot L' <= L'.length * (600 + 1) := xra (B := 600) fun x hx => by
    have h2 := zoa Ar.tot (hmem' x hx);have h3 := zBb hT hA x (hmem' x hx);omega
   show zAa Ar.tot L' + zAa Sm.tot bs <= _;omega
  obtain ⟨_, hL⟩ : ∃ F : Nat -> Prop, Lent n3 F [.agg [va, vb]] [(Pg.mk L' bs).av] := (Lent.nil n3).own (wYd hOA.own hOB.own ((List.pairwise_cons.1 h.td).1 (FB, vb, .lst false 19 (bs.map Sm.av)) (by simp)));refine rA ?_;simp [s6, s7, sm, hbx, w7, kA1, kB1, kA3, kB3];refine wA ?_;simp [sm];refine zca.lend (x8a (Pg.mk L' bs) ht) hL rfl ?_;clear hL;rw [hok.1];cases hb : (Pg.mk (zsa us) bs).ok with
  | false =>
   rw [hb] at o3;try simp
   refine tA ?_;refine rA ?_;simp [s2, w2', sm];refine AWp.ret (bad _ (by unfold parse; rw [o3]; rfl) ?_ ?_ ?_) <;> simp [s2, sm]
  | true =>
   rw [hb] at o3;have hLs : L' = zsa us := hok.2 (by rw [hok.1]; exact hb);have hps : parse s = some (Pg.mk L' bs) := by unfold parse; rw [o3, hLs]; rfl
   try simp
   refine fA ?_;refine kA ?_;try simp
   refine rA ?_;simp [s2, s7, sm, w2', w7, kA1, kB1, kA3, kB3];have nA : ¬ FA g2 := hOA.not (by rw [w2]; simp);have nB : ¬ FB g2 := hOB.not (by rw [w2]; simp);have hfin : Tv m (n3.set g2 (.box [va, vb])) (fun g => FA g ∨ FB g) (.agg [va, vb]) (Pg.mk L' bs).av := by
    refine ⟨wYd (hOA.set nA _).own (hOB.set nB _).own ((List.pairwise_cons.1 h.td).1 (FB, vb, .lst false 19 (bs.map Sm.av)) (by simp)), fun g hg => ?_⟩;rcases hg with hg | hg
    ·have := ((hOA.set nA (.box [va, vb])).base (gr := g6) (Off.ext hE) hgr).new g hg;exact this
    have := ((hOB.set nB (.box [va, vb])).base (gr := g6) (Off.ext hE) hgr).new g hg;exact this
   have hK := hK _ _ (.agg [va, vb]) (toE _ (hO5 _)) (by rw [hps]; exact hfin);rw [hps] at hK;exact AWp.ret ⟨[.agg [va, vb], .bool true], _, _, by simp [Tryz.f18, zQa, s2], by (try simp); exact View.refl _ _, hK⟩
theorem wZd (L : List Ar) : ∀ y ∈ L.map Ar.av, y.cells.all zya = true := fun y hy => by
 obtain ⟨a, _, rfl⟩ := List.mem_map.1 hy;exact Ar.cells_ok a
theorem zQe {m : Mem} {g c : Nat} {L : List Ar} (hm : m g = some (arB c L)) {i : Nat} {z : Ar} (hz : L[i]? = some z) : y3a Tryz.prog m 9 (.elt g 2 i 0) = some (.str z.s) := by
 have hl : zRa Tryz.prog 9 = some (1, false) := zRf;unfold arB at hm;simp only [y3a, hl, hm, if_true];rw [List.getElem?_map, hz];rfl
theorem wkd {m : Mem} {g c : Nat} {L : List Ar} (hm : m g = some (arB c L)) {i : Nat} {z : Ar} (hz : L[i]? = some z) : y3a Tryz.prog m 57 (.elt g 2 i 0) = some (.agg [.str z.s, .int .i64 z.n]) := by
 have hi := (List.getElem?_eq_some_iff.1 hz);obtain ⟨hi, rfl⟩ := hi;exact yFa hm hi
theorem y3e (x y : ByteArray) : (!(Op.bytesLess x.toList y.toList || decide (x = y))) = blt y x := by
 have e1 : Op.bytesLess x.toList y.toList = blt x y := rfl;rw [e1];cases h1 : blt x y with
 | true =>
  have : blt y x = false := by
   cases h2 : blt y x with
   | false => rfl
   | true => have := wla h1 h2; rw [yka] at this; cases this
  rw [this]; rfl
 | false =>
  by_cases he : x = y
  ·subst he; simp [yka]
  rw [wPb he h1]; simp [he]
theorem zRe (L : List Ar) (a : Ar) (hl : L.length <= 100000) : zca Tryz.prog 64 [.lst false 2 (L.map Ar.av), .agg [.str a.s, .int .i64 a.n]] (.lst false 2 ((zYc L a).map Ar.av)) := by
 refine pO Tryz.func64 ?_;refine rA ?_;simp;intro g3;obtain ⟨m, hm⟩ : ∃ m : Mem, m = fun _ => none := ⟨_, rfl⟩;refine AWp.gen (fun st => st.sl 0 = .lst false 2 (L.map Ar.av) /\ st.sl 3 = .ptr g3 0 /\ st.mem = m.set g3 (.box [.str a.s, .int .i64 a.n])) ⟨by simp, by simp, by simp [hm]⟩ ?_;rintro st ⟨s1, s3, sm⟩;obtain ⟨M, hM⟩ : ∃ M : St -> Prop, M = (fun st => ∃ g c, st.sl 0 = .lst false 2 (L.map Ar.av) /\ st.sl 3 = .ptr g3 0 /\ st.sl 5 = .own g (L.length + 1) c /\ st.mem g3 = some (.box [.str a.s, .int .i64 a.n]) /\ st.mem g = some (arB c (L ++ [a])) /\ g3 ≠ g) := ⟨_, rfl⟩;(repeat refine qA ?_);refine AWp.cA M ?_ ?_
 ·refine AWp.regionX (fun _ => false) (fun _ => false) [0, 1, 3, 4, 2, 5, 6] [0, 1, 2, 3, 4, 5, 6] 3 2 [0, 1, 2, 3, 4, 5, 6] (by kernel_rfl) ?_ ?_
  ·simp [s1, s3, sm, zaa, zda];refine Gr.app et_29 (Gr.start (m.set g3 (.box [.str a.s, .int .i64 a.n])) 2) (x := .lst false 2 (L.map Ar.av)) (ys := L.map Ar.av) (by simp [wwa]) (wZd L) (by simp; omega) fun v1 m1 hg1 hk1 => ?_;have w3 := hk1 _ _ (zaa m g3 (.box [.str a.s, .int .i64 a.n]));try simp [w3, zda]
   refine Gr.app et_29 hg1 (x := .lst true 2 [.agg [.str a.s, .int .i64 a.n]]) (ys := [Ar.av a]) (by simp [wwa, Ar.av, Ar.cells]) (by intro y hy; simp at hy; subst hy; exact Ar.cells_ok a) (by simp; omega) fun v2 m2 hg2 hk2 => ?_;have w3 := hk2 _ _ w3;subst hM;obtain ⟨hE2, hv⟩ := hg2;obtain ⟨g, c, hv2, hmg, _⟩ := hv.resolve_left (by simp);exact ⟨g, c, by simp [s1], by simp [s3], by simp [hv2], by simpa using w3, by simpa [arB] using hmg, by rintro rfl; rw [w3] at hmg; cases hmg⟩
  simp [s1, s3, sm, zda];refine Gr.app et_29 (Gr.start (m.set g3 (.box [.str a.s, .int .i64 a.n])) 2) (x := .lst false 2 (L.map Ar.av)) (ys := L.map Ar.av) (by simp [wwa]) (wZd L) (by simp; omega) fun v1 m1 hg1 hk1 => ?_;have w3 := hk1 _ _ (zaa m g3 (.box [.str a.s, .int .i64 a.n]));try simp [w3, zda]
  refine Gr.app et_29 hg1 (x := .lst true 2 [.agg [.str a.s, .int .i64 a.n]]) (ys := [Ar.av a]) (by simp [wwa, Ar.av, Ar.cells]) (by intro y hy; simp at hy; subst hy; exact Ar.cells_ok a) (by simp; omega) fun v2 m2 hg2 hk2 => ?_;have w3 := hk2 _ _ w3;subst hM;obtain ⟨hE2, hv⟩ := hg2;obtain ⟨g, c, hv2, hmg, _⟩ := hv.resolve_left (by simp);exact ⟨g, c, by simp [s1], by simp [s3], by simp [hv2], by simpa using w3, by simpa [arB] using hmg, by rintro rfl; rw [w3] at hmg; cases hmg⟩
 clear s1 s3 sm;intro st hst;subst hM;obtain ⟨g, c, s0, s3, s5, w3, hmg, hne⟩ := hst;have wl : IntKind.wrap .i64 (L.length : Int) = L.length := zga (by omega) (by omega);refine rA ?_;simp [s5, wl];obtain ⟨M, hM⟩ : ∃ M : St -> Prop, M = (fun st => ∃ (k : Nat) (P Q : List Ar) (y : Ar), st.sl 3 = .ptr g3 0 /\ st.sl 5 = .own g (L.length + 1) c /\ st.sl 6 = .int .i64 k /\ st.mem g3 = some (.box [.str a.s, .int .i64 a.n]) /\ st.mem g = some (arB c (P ++ y :: Q)) /\ P.length = k /\ P ++ Q = L /\ (∀ q ∈ Q, blt a.s q.s = true) /\ ∀ x, P.getLast? = some x -> blt a.s x.s = false) := ⟨_, rfl⟩;(repeat refine qA ?_);refine AWp.cA M ?_ ?_
 ·refine AWp.block (AWp.ro (fun q st => ∃ (k : Nat) (P Q : List Ar) (y : Ar), q = k /\ st.sl 3 = .ptr g3 0 /\ st.sl 5 = .own g (L.length + 1) c /\ st.sl 6 = .int .i64 k /\ st.mem g3 = some (.box [.str a.s, .int .i64 a.n]) /\ st.mem g = some (arB c (P ++ y :: Q)) /\ P.length = k /\ P ++ Q = L /\ (∀ q ∈ Q, blt a.s q.s = true)) L.length ⟨L.length, L, [], a, rfl, by simp [s3], by simp [s5], by simp, by simpa using w3, by simpa using hmg, rfl, by simp, by simp⟩ ?_);clear s0 s3 s5 w3 hmg;rintro RR k st hRR ⟨_, P, Q, y, rfl, s3, s5, s6, w3, hmg, hP, hPQ, hQ⟩;have hlen : P.length + Q.length = L.length := by rw [<- hPQ]; simp
  by_cases hk : 0 < k
  ·have hne0 : P ≠ [] := by rintro rfl; simp at hP; omega
   obtain ⟨P', z, rfl⟩ : ∃ P' z, P = P' ++ [z] := ⟨P.dropLast, P.getLast hne0, (List.dropLast_concat_getLast hne0).symm⟩;simp only [List.length_append, List.length_singleton] at hP hlen;have hmg0 := hmg;rw [List.append_assoc] at hmg;have hk' : P'.length = k - 1 := by omega
   have hlx : (P' ++ ([z] ++ y :: Q)).length = L.length + 1 := by simp; omega
   have w1 : IntKind.wrap .i64 ((k : Int) - 1) = ((k - 1 : Nat) : Int) := by rw [zga (by omega) (by omega)]; omega
   have i1 := yxa hmg hlx (i := k - 1) (by omega) (z := ((k - 1 : Nat) : Int)) rfl;have i2 := yxa hmg hlx (i := k) (by omega) (z := (k : Int)) rfl;have hz : (P' ++ ([z] ++ y :: Q))[k - 1]? = some z := by rw [List.getElem?_append_right (by omega), hk']; simp
   have l1 : y3a Tryz.prog st.mem 9 (.elt g 2 (k - 1) 0) = some (.str z.s) := zQe hmg hz;have l2 : y3a Tryz.prog st.mem 57 (.elt g 2 (k - 1) 0) = some (.agg [.str z.s, .int .i64 z.n]) := wkd hmg hz;have hgt : (!(Op.bytesLess z.s.toList a.s.toList || decide (z.s = a.s))) = blt a.s z.s := y3e z.s a.s;(repeat refine qA ?_);refine AWp.rG (fun _ => false) (fun _ => false) [0, 1, 2, 3, 4, 5, 6, 7, 8, 9, 10, 11, 12] [0, 1, 2, 3, 4, 5, 6, 7, 8, 9, 10, 11, 12] (by kernel_rfl) ?_;simp [s3, s5, s6, hk, w1, i1, l1, w3];cases hb : blt a.s z.s with
   | false =>
    rw [hb] at hgt;(repeat refine qA ?_);refine AWp.condF (by simpa using hgt) ?_;refine eA ?_;subst hM;exact ⟨k, P' ++ [z], Q, y, by simp [s3], by simp [s5], by simp [s6], by simpa using w3, by simpa using hmg0, by simp; omega, hPQ, hQ, fun x hx => by simp at hx; subst hx; exact hb⟩
   | true =>
    rw [hb] at hgt;(repeat refine qA ?_);refine AWp.condT (by simpa using hgt) ?_;refine kA ?_;try simp
    (repeat refine qA ?_);refine bA ?_;have t1 := y1a hmg (i := k) (by rw [hlx]; omega) z;have he : (P' ++ ([z] ++ y :: Q)).set k z = P' ++ z :: z :: Q := by
     have hj : k = P'.length + 1 := by omega
     subst hj;simp [List.set_append]
    rw [he] at t1;refine rA ?_;simp [s5, s6, w1, i1, i2, l2, t1];refine rA ?_;simp [s6, w1];refine hRR _ (k - 1) (by omega) ⟨k - 1, P', z :: Q, z, rfl, by simp [s3], by simp [s5], by simp, by simp [zia, hne, w3], ?_, hk', by rw [<- hPQ]; simp, fun q hq => ?_⟩
    ·simp [zia]
    rcases List.mem_cons.1 hq with rfl | hq
    ·exact hb
    exact hQ q hq
  have hk0 : k = 0 := by omega
  subst hk0;have hPn : P = [] := List.eq_nil_of_length_eq_zero hP;(repeat refine qA ?_);refine AWp.rG (fun _ => false) (fun _ => false) [0, 1, 2, 3, 4, 5, 6, 7, 8, 9, 10, 11, 12] [0, 1, 2, 3, 4, 5, 6, 7, 8, 9, 10, 11, 12] (by kernel_rfl) ?_;simp [s3, s5, s6];refine fA ?_;refine eA ?_;subst hM;exact ⟨0, P, Q, y, by simp [s3], by simp [s5], by simp [s6], by simpa using w3, by simpa using hmg, hP, hPQ, hQ, fun x hx => by rw [hPn] at hx; cases hx⟩
 clear s0 s3 s5 w3 hmg;intro st hst;subst hM;obtain ⟨k, P, Q, y, s3, s5, s6, w3, hmg, hP, hPQ, hQ, hlast⟩ := hst;have hlen : P.length + Q.length = L.length := by rw [<- hPQ]; simp
 have hlx : (P ++ y :: Q).length = L.length + 1 := by simp; omega
 have i2 := yxa hmg hlx (i := k) (by omega) (z := (k : Int)) rfl;have t1 := y1a hmg (i := k) (by rw [hlx]; omega) a;have hins : (P ++ y :: Q).set k a = zYc L a := by
  rw [<- hPQ, wYb hQ hlast, <- hP];simp [List.set_append]
 rw [hins] at t1;refine rA ?_;simp [s3, s5, s6, w3, i2, t1];refine rA ?_;simp [s5];exact AWp.ret ⟨[.own g (L.length + 1) c], _, _, by simp [Tryz.f64, zQa], View.freeze (T := 57) (e := 2) (xs := (zYc L a).map Ar.av) (by simp [zia, arB]) (by simp [xWc]), rfl⟩
end Go.T
