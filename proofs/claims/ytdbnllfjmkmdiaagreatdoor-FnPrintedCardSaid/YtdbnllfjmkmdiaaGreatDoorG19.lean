/- Arrays put in order by the library: merges. Arrays put in order by the library: all of it. The program's Parse. The reference puts arrays in order. The reference's Parse. New machines: what the program and the reference compute. Great machines compared; how many marks programs and machines take. FnExactParse: the law. What is drawn for texts. How much a kind binds; texts in brackets. The program's brackets. -/
import Derived.Test.YtdbnllfjmkmdiaaGreatDoorG18
import Derived.Test.YtdbnllfjmkmdiaaGreatDoorG12
import Derived.Test.YtdbnllfjmkmdiaaGreatDoorG15
import Derived.Test.YtdbnllfjmkmdiaaGreatDoorG11
import Derived.Test.YtdbnllfjmkmdiaaGreatDoorG17
import Derived.Test.YtdbnllfjmkmdiaaGreatDoorG9
import Derived.Test.YtdbnllfjmkmdiaaGreatDoorG7
set_option linter.unusedSimpArgs false
set_option linter.unusedVariables false
namespace Go.T
open Go Go.Proofs
set_option maxRecDepth 10000
set_option maxHeartbeats 1000000
open Go
theorem mid_of {x y : Nat} (hx : x <= 4611686018427387903) (hy : y <= 4611686018427387903) : IntKind.wrap .i64 ((IntKind.wrap .u64 ((x : Int) + y)).fdiv (2 ^ min 1 IntKind.u64.bits)) = (((x + y) / 2 : Nat) : Int) := by
 have h2 : (2 : Int) ^ min 1 IntKind.u64.bits = 2 := rfl
 rw [h2]
 have h1 : IntKind.wrap .u64 ((x : Int) + y) = (x : Int) + y := by
  unfold IntKind.wrap
  simp [IntKind.bits, IntKind.signed]
  omega
 rw [h1, Int.fdiv_eq_ediv_of_nonneg _ (by omega), wrap64 (by omega) (by omega)]
 omega
def MergeC (P : Program) (n : FuncId) (F : AV) (N : Nat) : Prop := ∀ (m : Mem) (g c ln : Nat) (L : List Ar), m g = some (arB c L) -> L.length = ln -> L.length <= 600 -> ∀ (za zk zb : Int) (a k b : Nat), za = a -> zk = k -> zb = b -> a < k -> k < b -> b <= L.length -> b - a <= N ->
 ∀ K : AV -> Mem -> Prop, (∀ L' : List Ar, Sh L' L -> K (.tup []) (m.set g (arB c L'))) -> WCall P n [.own g ln c, .int .i64 za, .int .i64 zk, .int .i64 zb, F] m K
theorem c_symMerge0 (N : Nat) (ih : ∀ N', N' < N -> MergeC Tryz.prog 156 (.func (.func 57) []) N') : MergeC Tryz.prog 156 (.func (.func 57) []) N := by
 intro m g c ln L hm hln hl za zk zb a k b ea ek eb h1 h2 h3 hN K hK
 subst hln
 subst ea
 subst ek
 subst eb
 refine wcall_of Tryz.func156 (by kernel_rfl) rfl (by simp [Tryz.f156]) ?_
 have w0 : IntKind.wrap .i64 ((k : Int) - a) = (k : Int) - a := wrap64 (by omega) (by omega)
 have w1 : IntKind.wrap .i64 ((b : Int) - k) = (b : Int) - k := wrap64 (by omega) (by omega)
 (repeat refine qA ?_);refine rA ?_
 simp [w0]
 have fin : ∀ (st : St) (L' : List Ar), Sh L' L -> st.mem = m.set g (arB c L') -> Post Tryz.prog Tryz.f156 K .ret st := fun st L' hL sm => ⟨[], .tup [], _, by simp [Tryz.f156, resA], by rw [sm]; exact View.refl _ _, hK L' hL⟩
 have hma := set_same m g (arB c L)
 by_cases hk1 : k = a + 1
 ·(repeat refine qA ?_);refine AWp.condT (by simp; omega) ?_
  (repeat refine qA ?_);refine rA ?_
  simp
  (repeat refine qA ?_);refine rA ?_
  simp
  -- where the one belongs
  obtain ⟨M, hM⟩ : ∃ M : St -> Prop, M = (fun st => ∃ (i : Nat), a < i /\ i <= b /\ st.slots 0 = .own g L.length c /\ st.slots 1 = .int .i64 a /\ st.slots 10 = .int .i64 i /\ st.mem = m) := ⟨_, rfl⟩
  (repeat refine qA ?_);refine AWp.cutA M ?_ ?_
  ·refine AWp.block (AWp.rounds (fun q st => ∃ (i j : Nat), q = j - i /\ a < i /\ i <= j /\ j <= b /\ st.slots 0 = .own g L.length c /\ st.slots 1 = .int .i64 a /\ st.slots 4 = .func (.func 57) [] /\ st.slots 10 = .int .i64 i /\ st.slots 11 = .int .i64 j /\ st.mem = m) (b - k) ⟨k, b, rfl, by omega, by omega, by omega, by simp, by simp, by simp, by simp, by simp, by simp⟩ ?_)
   rintro RR q st hRR ⟨i, j, rfl, hai, hij, hjb, s0, s1, s4, s10, s11, sm⟩
   (repeat refine qA ?_);refine rA ?_
   simp [s10, s11]
   by_cases hlt : i < j
   ·(repeat refine qA ?_);refine AWp.condT (by simp [hlt]) ?_
    refine kA ?_
    try simp
    (repeat refine qA ?_);refine bA ?_
    have wm : IntKind.wrap .i64 ((i : Int) + j) = (i : Int) + j := wrap64 (by omega) (by omega)
    have wmm := mid_of (x := i) (y := j) (by omega) (by omega)
    generalize hh : (i + j) / 2 = h at wmm
    (repeat refine qA ?_);refine rA ?_
    simp [s10, s11, wm, wmm, intA]
    have wh : IntKind.wrap .i64 ((h : Int) + 1) = (h : Int) + 1 := wrap64 (by omega) (by omega)
    have i1 := ar_idx hm (n := L.length) rfl (i := h) (by omega) (z := (h : Int)) rfl
    have i2 := ar_idx hm (n := L.length) rfl (i := a) (by omega) (z := (a : Int)) rfl
    have l1 := ar_load hm (i := h) (by omega)
    have l2 := ar_load hm (i := a) (by omega)
    (repeat refine qA ?_);refine AWp.regionG (fun i => i == 9) (fun _ => false) [0, 1, 2, 3, 4, 5, 6, 7, 8, 9, 10] [0, 1, 2, 3, 4, 5, 6, 7, 8, 9, 10] (by kernel_rfl) ?_
    simp [s0, s1, s4, sm, i1, i2, l1, l2]
    refine aop_pval rfl (n := 57) (caps := []) (by simp [s4]) (by simpa using c_Parse1 L[h] L[a]) ?_
    simp
    have hcmp := cmpS_neg L[h].s L[a].s
    cases hb : blt L[h].s L[a].s with
    | true =>
     rw [hb] at hcmp
     (repeat refine qA ?_);refine AWp.condT (by simpa using hcmp) ?_
     (repeat refine qA ?_);refine rA ?_
     simp [wh]
     exact hRR _ (j - (h + 1)) (by omega) ⟨h + 1, j, rfl, by omega, by omega, hjb, by simp [s0], by simp [s1], by simp [s4], by simp, by simp [s11], by simp [sm]⟩
    | false =>
     rw [hb] at hcmp
     (repeat refine qA ?_);refine AWp.condF (by simpa using hcmp) ?_
     (repeat refine qA ?_);refine rA ?_
     simp
     exact hRR _ (h - i) (by omega) ⟨i, h, rfl, hai, by omega, by omega, by simp [s0], by simp [s1], by simp [s4], by simp [s10], by simp, by simp [sm]⟩
   (repeat refine qA ?_);refine AWp.condF (by simp; omega) ?_
   refine eA ?_
   subst hM
   exact ⟨i, hai, by omega, by simp [s0], by simp [s1], by simp [s10], by simpa using sm⟩
  intro st hst
  subst hM
  obtain ⟨i, hai, hib, s0, s1, s10, sm⟩ := hst
  (repeat refine qA ?_);refine rA ?_
  simp [s1]
  have wi : IntKind.wrap .i64 ((i : Int) - 1) = ((i - 1 : Nat) : Int) := by rw [wrap64 (by omega) (by omega)]; omega
  obtain ⟨M2, hM2⟩ : ∃ M2 : St -> Prop, M2 = (fun st => ∃ (L' : List Ar), Sh L' L /\ st.mem = m.set g (arB c L')) := ⟨_, rfl⟩
  (repeat refine qA ?_);refine AWp.cutA M2 ?_ ?_
  ·refine AWp.block (AWp.rounds (fun q st => ∃ (x : Nat) (L' : List Ar), q = i - x /\ x < i /\ st.slots 0 = .own g L.length c /\ st.slots 10 = .int .i64 i /\ st.slots 13 = .int .i64 x /\ Sh L' L /\ st.mem = m.set g (arB c L')) (i - a) ⟨a, L, rfl, by omega, by simp [s0], by simp [s10], by simp, Sh.refl L, by simp [sm, set_self hm]⟩ ?_)
   rintro RR q st hRR ⟨x, L', rfl, hxi, s0, s10, s13, ⟨hL, hs⟩, sm⟩
   (repeat refine qA ?_);refine rA ?_
   simp [s10, s13, wi]
   by_cases hlt : x < i - 1
   ·(repeat refine qA ?_);refine AWp.condT (by simp [hlt]) ?_
    refine kA ?_
    try simp
    (repeat refine qA ?_);refine bA ?_
    have wx : IntKind.wrap .i64 ((x : Int) + 1) = (x : Int) + 1 := wrap64 (by omega) (by omega)
    have hma := set_same m g (arB c L')
    have i1 := ar_idx hma hL (i := x) (by omega) (z := (x : Int)) rfl
    have i2 := ar_idx hma hL (i := x + 1) (by omega) (z := (x : Int) + 1) (by omega)
    have l1 := ar_load hma (i := x) (by omega)
    have l2 := ar_load hma (i := x + 1) (by omega)
    have t1 := ar_store hma (i := x) (by omega) L'[x + 1]
    have hmb := set_same m g (arB c (L'.set x L'[x + 1]))
    have i3 := ar_idx hmb (n := L.length) (by simp [hL]) (i := x + 1) (by omega) (z := (x : Int) + 1) (by omega)
    have t2 := ar_store hmb (i := x + 1) (by simp; omega) L'[x]
    simp only [set_set] at t1 t2
    (repeat refine qA ?_);refine AWp.regionG (fun _ => false) (fun _ => false) [0, 1, 2, 3, 4, 5, 6, 7, 8, 9, 10, 11, 12, 13, 14, 15, 16, 17] [0, 1, 5, 6, 7, 8, 9, 10, 11, 12, 13, 14, 15, 2, 3, 4, 16, 17] (by kernel_rfl) ?_
    simp [s0, s13, sm, wx, i1, i2, l1, l2, t1, t2, i3]
    (repeat refine qA ?_);refine rA ?_
    simp [s13, wx]
    exact hRR _ (i - (x + 1)) (by omega) ⟨x + 1, (L'.set x L'[x + 1]).set (x + 1) L'[x], rfl, by omega, by simp [s0], by simp [s10], by simp, ⟨by simp [hL], sh_two hs (List.getElem_mem _) (List.getElem_mem _)⟩, by first | rfl | simp⟩
   (repeat refine qA ?_);refine AWp.condF (by simp; omega) ?_
   refine eA ?_
   subst hM2
   exact ⟨L', ⟨hL, hs⟩, by simpa using sm⟩
  intro st hst
  subst hM2
  obtain ⟨L', ⟨hL, hs⟩, sm⟩ := hst
  exact AWp.ret (fin _ L' ⟨hL, hs⟩ sm)
 (repeat refine qA ?_);refine AWp.condF (by simp; omega) ?_
 refine kA ?_
 try simp
 (repeat refine qA ?_);refine rA ?_
 simp [w1]
 by_cases hb1 : b = k + 1
 ·(repeat refine qA ?_);refine AWp.condT (by simp; omega) ?_
  (repeat refine qA ?_);refine rA ?_
  simp
  (repeat refine qA ?_);refine rA ?_
  simp
  obtain ⟨M, hM⟩ : ∃ M : St -> Prop, M = (fun st => ∃ (i : Nat), a <= i /\ i <= k /\ st.slots 0 = .own g L.length c /\ st.slots 2 = .int .i64 k /\ st.slots 14 = .int .i64 i /\ st.mem = m) := ⟨_, rfl⟩
  (repeat refine qA ?_);refine AWp.cutA M ?_ ?_
  ·refine AWp.block (AWp.rounds (fun q st => ∃ (i j : Nat), q = j - i /\ a <= i /\ i <= j /\ j <= k /\ st.slots 0 = .own g L.length c /\ st.slots 2 = .int .i64 k /\ st.slots 4 = .func (.func 57) [] /\ st.slots 14 = .int .i64 i /\ st.slots 15 = .int .i64 j /\ st.mem = m) (k - a) ⟨a, k, rfl, by omega, by omega, by omega, by simp, by simp, by simp, by simp, by simp, by simp⟩ ?_)
   rintro RR q st hRR ⟨i, j, rfl, hai, hij, hjb, s0, s2, s4, s10, s11, sm⟩
   (repeat refine qA ?_);refine rA ?_
   simp [s10, s11]
   by_cases hlt : i < j
   ·(repeat refine qA ?_);refine AWp.condT (by simp [hlt]) ?_
    refine kA ?_
    try simp
    (repeat refine qA ?_);refine bA ?_
    have wm : IntKind.wrap .i64 ((i : Int) + j) = (i : Int) + j := wrap64 (by omega) (by omega)
    have wmm := mid_of (x := i) (y := j) (by omega) (by omega)
    generalize hh : (i + j) / 2 = h at wmm
    (repeat refine qA ?_);refine rA ?_
    simp [s10, s11, wm, wmm, intA]
    have wh : IntKind.wrap .i64 ((h : Int) + 1) = (h : Int) + 1 := wrap64 (by omega) (by omega)
    have i1 := ar_idx hm (n := L.length) rfl (i := k) (by omega) (z := (k : Int)) rfl
    have i2 := ar_idx hm (n := L.length) rfl (i := h) (by omega) (z := (h : Int)) rfl
    have l1 := ar_load hm (i := k) (by omega)
    have l2 := ar_load hm (i := h) (by omega)
    (repeat refine qA ?_);refine AWp.regionG (fun i => i == 9) (fun _ => false) [0, 1, 2, 3, 4, 5, 6, 7, 8, 9, 10, 11] [0, 1, 2, 3, 4, 5, 6, 7, 8, 9, 10, 11] (by kernel_rfl) ?_
    simp [s0, s2, s4, sm, i1, i2, l1, l2]
    refine aop_pval rfl (n := 57) (caps := []) (by simp [s4]) (by simpa using c_Parse1 L[k] L[h]) ?_
    simp
    have hcmp := cmpS_neg L[k].s L[h].s
    cases hb : blt L[k].s L[h].s with
    | false =>
     rw [hb] at hcmp
     (repeat refine qA ?_);refine AWp.condT (by simpa using hcmp) ?_
     (repeat refine qA ?_);refine rA ?_
     simp [wh]
     exact hRR _ (j - (h + 1)) (by omega) ⟨h + 1, j, rfl, by omega, by omega, hjb, by simp [s0], by simp [s2], by simp [s4], by simp, by simp [s11], by simp [sm]⟩
    | true =>
     rw [hb] at hcmp
     (repeat refine qA ?_);refine AWp.condF (by simpa using hcmp) ?_
     (repeat refine qA ?_);refine rA ?_
     simp
     exact hRR _ (h - i) (by omega) ⟨i, h, rfl, hai, by omega, by omega, by simp [s0], by simp [s2], by simp [s4], by simp [s10], by simp, by simp [sm]⟩
   (repeat refine qA ?_);refine AWp.condF (by simp; omega) ?_
   refine eA ?_
   subst hM
   exact ⟨i, hai, by omega, by simp [s0], by simp [s2], by simp [s10], by simpa using sm⟩
  intro st hst
  subst hM
  obtain ⟨i, hai, hib, s0, s2, s14, sm⟩ := hst
  (repeat refine qA ?_);refine rA ?_
  simp [s2]
  obtain ⟨M2, hM2⟩ : ∃ M2 : St -> Prop, M2 = (fun st => ∃ (L' : List Ar), Sh L' L /\ st.mem = m.set g (arB c L')) := ⟨_, rfl⟩
  (repeat refine qA ?_);refine AWp.cutA M2 ?_ ?_
  ·refine AWp.block (AWp.rounds (fun q st => ∃ (x : Nat) (L' : List Ar), q = x /\ i <= x /\ x <= k /\ st.slots 0 = .own g L.length c /\ st.slots 14 = .int .i64 i /\ st.slots 17 = .int .i64 x /\ Sh L' L /\ st.mem = m.set g (arB c L')) k ⟨k, L, rfl, by omega, by omega, by simp [s0], by simp [s14], by simp, Sh.refl L, by simp [sm, set_self hm]⟩ ?_)
   rintro RR x st hRR ⟨_, L', rfl, hxi, hxk, s0, s10, s13, ⟨hL, hs⟩, sm⟩
   (repeat refine qA ?_);refine rA ?_
   simp [s10, s13]
   by_cases hlt : i < x
   ·(repeat refine qA ?_);refine AWp.condT (by simp [hlt]) ?_
    refine kA ?_
    try simp
    (repeat refine qA ?_);refine bA ?_
    have wx : IntKind.wrap .i64 ((x : Int) - 1) = ((x - 1 : Nat) : Int) := by rw [wrap64 (by omega) (by omega)]; omega
    have hma := set_same m g (arB c L')
    have i1 := ar_idx hma hL (i := x) (by omega) (z := (x : Int)) rfl
    have i2 := ar_idx hma hL (i := x - 1) (by omega) (z := ((x - 1 : Nat) : Int)) (by omega)
    have l1 := ar_load hma (i := x) (by omega)
    have l2 := ar_load hma (i := x - 1) (by omega)
    have t1 := ar_store hma (i := x) (by omega) L'[x - 1]
    have hmb := set_same m g (arB c (L'.set x L'[x - 1]))
    have i3 := ar_idx hmb (n := L.length) (by simp [hL]) (i := x - 1) (by omega) (z := ((x - 1 : Nat) : Int)) (by omega)
    have t2 := ar_store hmb (i := x - 1) (by simp; omega) L'[x]
    simp only [set_set] at t1 t2
    (repeat refine qA ?_);refine AWp.regionG (fun _ => false) (fun _ => false) [0, 1, 2, 3, 4, 5, 6, 7, 8, 9, 10, 11, 12, 13, 14, 15, 16, 17] [0, 1, 5, 6, 7, 8, 9, 10, 11, 12, 13, 14, 15, 2, 3, 4, 16, 17] (by kernel_rfl) ?_
    simp [s0, s13, sm, wx, i1, i2, l1, l2, t1, t2, i3]
    (repeat refine qA ?_);refine rA ?_
    simp [s13, wx]
    exact hRR _ (x - 1) (by omega) ⟨x - 1, (L'.set x L'[x - 1]).set (x - 1) L'[x], rfl, by omega, by omega, by simp [s0], by simp [s10], by simp, ⟨by simp [hL], sh_two hs (List.getElem_mem _) (List.getElem_mem _)⟩, by first | rfl | simp⟩
   (repeat refine qA ?_);refine AWp.condF (by simp; omega) ?_
   refine eA ?_
   subst hM2
   exact ⟨L', ⟨hL, hs⟩, by simpa using sm⟩
  intro st hst
  subst hM2
  obtain ⟨L', ⟨hL, hs⟩, sm⟩ := hst
  exact AWp.ret (fin _ L' ⟨hL, hs⟩ sm)
 (repeat refine qA ?_);refine AWp.condF (by simp; omega) ?_
 refine kA ?_
 try simp
 have wab : IntKind.wrap .i64 ((a : Int) + b) = (a : Int) + b := wrap64 (by omega) (by omega)
 have wabm := mid_of (x := a) (y := b) (by omega) (by omega)
 generalize hmd : (a + b) / 2 = md at wabm
 (repeat refine qA ?_);refine rA ?_
 simp [intA, wab, wabm]
 have wn : IntKind.wrap .i64 ((md : Int) + k) = (md : Int) + k := wrap64 (by omega) (by omega)
 (repeat refine qA ?_);refine rA ?_
 simp [wn]
 (repeat refine qA ?_);refine rA ?_
 simp
 (repeat refine qA ?_);refine rA ?_
 simp
 -- from where to where is looked
 obtain ⟨M, hM⟩ : ∃ M : St -> Prop, M = (fun st => ∃ (lo hi : Nat), lo <= hi /\ a <= lo /\ md + k <= lo + b /\ hi <= md /\ hi <= k /\ st.slots 0 = .own g L.length c /\ st.slots 1 = .int .i64 a /\ st.slots 2 = .int .i64 k /\ st.slots 3 = .int .i64 b /\ st.slots 4 = .func (.func 57) [] /\ st.slots 18 = .int .i64 md /\ st.slots 19 = .int .i64 ((md : Int) + k) /\ st.slots 20 = .int .i64 lo /\ st.slots 21 = .int .i64 hi /\ st.mem = m) := ⟨_, rfl⟩
 (repeat refine qA ?_);refine AWp.cutA M ?_ ?_
 ·by_cases hmk : md < k
  ·refine AWp.condT (by simp [hmk]) ?_
   have wlo : IntKind.wrap .i64 ((md : Int) + k - b) = ((md + k - b : Nat) : Int) := by rw [wrap64 (by omega) (by omega)]; omega
   (repeat refine qA ?_);refine rA ?_
   simp [wlo]
   (repeat refine qA ?_);refine rA ?_
   simp
   subst hM
   exact ⟨md + k - b, md, by omega, by omega, by omega, by omega, by omega, by simp, by simp, by simp, by simp, by simp, by simp, by simp, by simp, by simp, by simp⟩
  refine AWp.condF (by simp; omega) ?_
  (repeat refine qA ?_);refine rA ?_
  simp
  (repeat refine qA ?_);refine rA ?_
  simp
  subst hM
  exact ⟨a, k, by omega, by omega, by omega, by omega, by omega, by simp, by simp, by simp, by simp, by simp, by simp, by simp, by simp, by simp, by simp⟩
 intro st hst
 subst hM
 obtain ⟨lo, hi, hlh, hal, hlb, hhm, hhk, s0, s1, s2, s3, s4, s18, s19, s20, s21, sm⟩ := hst
 have wp : IntKind.wrap .i64 ((md : Int) + k - 1) = ((md + k - 1 : Nat) : Int) := by rw [wrap64 (by omega) (by omega)]; omega
 (repeat refine qA ?_);refine rA ?_
 simp [s19, wp]
 obtain ⟨M, hM⟩ : ∃ M : St -> Prop, M = (fun st => ∃ (s : Nat), lo <= s /\ s <= hi /\ st.slots 0 = .own g L.length c /\ st.slots 1 = .int .i64 a /\ st.slots 2 = .int .i64 k /\ st.slots 3 = .int .i64 b /\ st.slots 4 = .func (.func 57) [] /\ st.slots 18 = .int .i64 md /\ st.slots 19 = .int .i64 ((md : Int) + k) /\ st.slots 20 = .int .i64 s /\ st.mem = m) := ⟨_, rfl⟩
 (repeat refine qA ?_);refine AWp.cutA M ?_ ?_
 ·refine AWp.block (AWp.rounds (fun q st => ∃ (i j : Nat), q = j - i /\ lo <= i /\ i <= j /\ j <= hi /\ st.slots 0 = .own g L.length c /\ st.slots 1 = .int .i64 a /\ st.slots 2 = .int .i64 k /\ st.slots 3 = .int .i64 b /\ st.slots 4 = .func (.func 57) [] /\ st.slots 18 = .int .i64 md /\ st.slots 19 = .int .i64 ((md : Int) + k) /\ st.slots 22 = .int .i64 ((md + k - 1 : Nat) : Int) /\ st.slots 20 = .int .i64 i /\ st.slots 21 = .int .i64 j /\ st.mem = m) (hi - lo) ⟨lo, hi, rfl, by omega, by omega, by omega, by simp [s0], by simp [s1], by simp [s2], by simp [s3], by simp [s4], by simp [s18], by simp [s19], by simp, by simp [s20], by simp [s21], by simp [sm]⟩ ?_)
  clear s0 s1 s2 s3 s4 s18 s19 s20 s21 sm
  rintro RR q st hRR ⟨i, j, rfl, hai, hij, hjb, s0, s1, s2, s3, s4, s18, s19, s22, s20, s21, sm⟩
  (repeat refine qA ?_);refine rA ?_
  simp [s20, s21]
  by_cases hlt : i < j
  ·(repeat refine qA ?_);refine AWp.condT (by simp [hlt]) ?_
   refine kA ?_
   try simp
   (repeat refine qA ?_);refine bA ?_
   have wm : IntKind.wrap .i64 ((i : Int) + j) = (i : Int) + j := wrap64 (by omega) (by omega)
   have wmm := mid_of (x := i) (y := j) (by omega) (by omega)
   generalize hh : (i + j) / 2 = h at wmm
   (repeat refine qA ?_);refine rA ?_
   simp [s20, s21, wm, wmm, intA]
   have wh : IntKind.wrap .i64 ((h : Int) + 1) = (h : Int) + 1 := wrap64 (by omega) (by omega)
   have wq : IntKind.wrap .i64 (((md + k - 1 : Nat) : Int) - h) = ((md + k - 1 - h : Nat) : Int) := by rw [wrap64 (by omega) (by omega)]; omega
   have i1 := ar_idx hm (n := L.length) rfl (i := md + k - 1 - h) (by omega) (z := ((md + k - 1 - h : Nat) : Int)) rfl
   have i2 := ar_idx hm (n := L.length) rfl (i := h) (by omega) (z := (h : Int)) rfl
   have l1 := ar_load hm (i := md + k - 1 - h) (by omega)
   have l2 := ar_load hm (i := h) (by omega)
   (repeat refine qA ?_);refine AWp.regionG (fun i => i == 11) (fun _ => false) [0, 1, 2, 3, 4, 5, 6, 7, 8, 9, 10, 11, 12, 13] [0, 1, 2, 3, 4, 5, 6, 7, 8, 9, 10, 11, 12, 13] (by kernel_rfl) ?_
   simp [s0, s4, s22, sm, wq, i1, i2, l1, l2]
   refine aop_pval rfl (n := 57) (caps := []) (by simp [s4]) (by simpa using c_Parse1 L[md + k - 1 - h] L[h]) ?_
   simp
   have hcmp := cmpS_neg L[md + k - 1 - h].s L[h].s
   cases hb : blt L[md + k - 1 - h].s L[h].s with
   | false =>
    rw [hb] at hcmp
    (repeat refine qA ?_);refine AWp.condT (by simpa using hcmp) ?_
    (repeat refine qA ?_);refine rA ?_
    simp [wh]
    exact hRR _ (j - (h + 1)) (by omega) ⟨h + 1, j, rfl, by omega, by omega, hjb, by simp [s0], by simp [s1], by simp [s2], by simp [s3], by simp [s4], by simp [s18], by simp [s19], by simp [s22], by simp, by simp [s21], by simp [sm]⟩
   | true =>
    rw [hb] at hcmp
    (repeat refine qA ?_);refine AWp.condF (by simpa using hcmp) ?_
    (repeat refine qA ?_);refine rA ?_
    simp
    exact hRR _ (h - i) (by omega) ⟨i, h, rfl, hai, by omega, by omega, by simp [s0], by simp [s1], by simp [s2], by simp [s3], by simp [s4], by simp [s18], by simp [s19], by simp [s22], by simp [s20], by simp, by simp [sm]⟩
  (repeat refine qA ?_);refine AWp.condF (by simp; omega) ?_
  refine eA ?_
  subst hM
  exact ⟨i, hai, by omega, by simp [s0], by simp [s1], by simp [s2], by simp [s3], by simp [s4], by simp [s18], by simp [s19], by simp [s20], by simpa using sm⟩
 clear s0 s1 s2 s3 s4 s18 s19 s20 s21 sm
 intro st hst
 subst hM
 obtain ⟨s, hls, hsh, s0, s1, s2, s3, s4, s18, s19, s20, sm⟩ := hst
 have we : IntKind.wrap .i64 ((md : Int) + k - s) = ((md + k - s : Nat) : Int) := by rw [wrap64 (by omega) (by omega)]; omega
 (repeat refine qA ?_);refine rA ?_
 simp [s19, s20, we]
 generalize he : md + k - s = e at *
 obtain ⟨M, hM⟩ : ∃ M : St -> Prop, M = (fun st => ∃ (L' : List Ar), st.slots 0 = .own g L.length c /\ st.slots 1 = .int .i64 a /\ st.slots 3 = .int .i64 b /\ st.slots 4 = .func (.func 57) [] /\ st.slots 18 = .int .i64 md /\ st.slots 20 = .int .i64 s /\ st.slots 24 = .int .i64 e /\ Sh L' L /\ st.mem = m.set g (arB c L')) := ⟨_, rfl⟩
 refine AWp.gen (fun st => st.slots 0 = .own g L.length c /\ st.slots 1 = .int .i64 a /\ st.slots 2 = .int .i64 k /\ st.slots 3 = .int .i64 b /\ st.slots 4 = .func (.func 57) [] /\ st.slots 18 = .int .i64 md /\ st.slots 20 = .int .i64 s /\ st.slots 24 = .int .i64 e /\ st.mem = m) ⟨by simp [s0], by simp [s1], by simp [s2], by simp [s3], by simp [s4], by simp [s18], by simp [s20], by simp, by simp [sm]⟩ ?_
 clear s0 s1 s2 s3 s4 s18 s19 s20 sm
 rintro st ⟨s0, s1, s2, s3, s4, s18, s20, s24, sm⟩
 obtain ⟨MG, hMG⟩ : ∃ MG : St -> Prop, MG = (fun st => st.slots 0 = .own g L.length c /\ st.slots 1 = .int .i64 a /\ st.slots 2 = .int .i64 k /\ st.slots 3 = .int .i64 b /\ st.slots 4 = .func (.func 57) [] /\ st.slots 18 = .int .i64 md /\ st.slots 20 = .int .i64 s /\ st.slots 24 = .int .i64 e /\ st.slots 185 = .bool (decide (s < k /\ k < e)) /\ st.mem = m) := ⟨_, rfl⟩
 (repeat refine qA ?_);refine AWp.cutA MG ?_ ?_
 ·refine rA ?_
  subst hMG
  by_cases q1 : s < k
  ·by_cases q2 : k < e
   ·simp [s0, s1, s2, s3, s4, s18, s20, s24, sm, q1, q2]
   simp [s0, s1, s2, s3, s4, s18, s20, s24, sm, q1, q2]
  simp [s0, s1, s2, s3, s4, s18, s20, s24, sm, q1]
 clear s0 s1 s2 s3 s4 s18 s20 s24 sm
 intro st hst
 subst hMG
 obtain ⟨s0, s1, s2, s3, s4, s18, s20, s24, sc, sm⟩ := hst
 (repeat refine qA ?_);refine AWp.cutA M ?_ ?_
 ·by_cases hc : s < k /\ k < e
  ·(repeat refine qA ?_);refine AWp.condT (by simp [sc, hc]) ?_
   (repeat refine qA ?_);refine rA ?_
   simp [s0, s2, s4, s20, s24]
   refine wA ?_
   simp [sm]
   refine c_rotate hm rfl hl s k e rfl rfl rfl hc.1 hc.2 (by omega) fun L2 hL2 => ?_
   try simp
   subst hM
   exact ⟨L2, by simp [s0], by simp [s1], by simp [s3], by simp [s4], by simp [s18], by simp [s20], by simp [s24], hL2, by simp⟩
  (repeat refine qA ?_);refine AWp.condF (by simp [sc]; omega) ?_
  refine kA ?_
  subst hM
  exact ⟨L, by simp [s0], by simp [s1], by simp [s3], by simp [s4], by simp [s18], by simp [s20], by simp [s24], Sh.refl L, by simp [sm, set_self hm]⟩
 clear s0 s1 s2 s3 s4 s18 s20 s24 sc sm
 intro st hst
 subst hM
 obtain ⟨L1, s0, s1, s3, s4, s18, s20, s24, ⟨hL1, hs1⟩, sm⟩ := hst
 have hm1 := set_same m g (arB c L1)
 obtain ⟨M, hM⟩ : ∃ M : St -> Prop, M = (fun st => ∃ (L' : List Ar), st.slots 0 = .own g L.length c /\ st.slots 3 = .int .i64 b /\ st.slots 4 = .func (.func 57) [] /\ st.slots 18 = .int .i64 md /\ st.slots 24 = .int .i64 e /\ Sh L' L /\ st.mem = m.set g (arB c L')) := ⟨_, rfl⟩
 obtain ⟨MG, hMG⟩ : ∃ MG : St -> Prop, MG = (fun st => st.slots 0 = .own g L.length c /\ st.slots 1 = .int .i64 a /\ st.slots 3 = .int .i64 b /\ st.slots 4 = .func (.func 57) [] /\ st.slots 18 = .int .i64 md /\ st.slots 20 = .int .i64 s /\ st.slots 24 = .int .i64 e /\ st.slots 199 = .bool (decide (a < s /\ s < md)) /\ st.mem = m.set g (arB c L1)) := ⟨_, rfl⟩
 (repeat refine qA ?_);refine AWp.cutA MG ?_ ?_
 ·refine rA ?_
  subst hMG
  by_cases q1 : a < s
  ·by_cases q2 : s < md
   ·simp [s0, s1, s3, s4, s18, s20, s24, sm, q1, q2]
   simp [s0, s1, s3, s4, s18, s20, s24, sm, q1, q2]
  simp [s0, s1, s3, s4, s18, s20, s24, sm, q1]
 clear s0 s1 s3 s4 s18 s20 s24 sm
 intro st hst
 subst hMG
 obtain ⟨s0, s1, s3, s4, s18, s20, s24, sc, sm⟩ := hst
 (repeat refine qA ?_);refine AWp.cutA M ?_ ?_
 ·by_cases hc : a < s /\ s < md
  ·(repeat refine qA ?_);refine AWp.condT (by simp [sc, hc]) ?_
   (repeat refine qA ?_);refine rA ?_
   simp [s0, s1, s4, s18, s20]
   refine wA ?_
   simp [sm]
   refine ih (md - a) (by omega) _ _ _ _ _ hm1 hL1 (by omega) _ _ _ a s md rfl rfl rfl hc.1 hc.2 (by omega) (by omega) _ fun L2 hL2 => ?_
   try simp
   subst hM
   exact ⟨L2, by simp [s0], by simp [s3], by simp [s4], by simp [s18], by simp [s24], sh_trans hL2 ⟨hL1, hs1⟩, by simp⟩
  (repeat refine qA ?_);refine AWp.condF (by simp [sc]; omega) ?_
  refine kA ?_
  subst hM
  exact ⟨L1, by simp [s0], by simp [s3], by simp [s4], by simp [s18], by simp [s24], ⟨hL1, hs1⟩, by simp [sm]⟩
 clear s0 s1 s3 s4 s18 s20 s24 sc sm hm1
 intro st hst
 subst hM
 obtain ⟨L1, s0, s3, s4, s18, s24, ⟨hL1, hs1⟩, sm⟩ := hst
 have hm1 := set_same m g (arB c L1)
 have finN : ∀ (st : St) (L' : List Ar), Sh L' L -> st.mem = m.set g (arB c L') -> Post Tryz.prog Tryz.f156 K .normal st := fun st L' hL sm => ⟨[], .tup [], _, by simp [Tryz.f156, resA], by rw [sm]; exact View.refl _ _, hK L' hL⟩
 obtain ⟨MG, hMG⟩ : ∃ MG : St -> Prop, MG = (fun st => st.slots 0 = .own g L.length c /\ st.slots 3 = .int .i64 b /\ st.slots 4 = .func (.func 57) [] /\ st.slots 18 = .int .i64 md /\ st.slots 24 = .int .i64 e /\ st.slots 213 = .bool (decide (md < e /\ e < b)) /\ st.mem = m.set g (arB c L1)) := ⟨_, rfl⟩
 (repeat refine qA ?_);refine AWp.cutA MG ?_ ?_
 ·refine rA ?_
  subst hMG
  by_cases q1 : md < e
  ·by_cases q2 : e < b
   ·simp [s0, s3, s4, s18, s24, sm, q1, q2]
   simp [s0, s3, s4, s18, s24, sm, q1, q2]
  simp [s0, s3, s4, s18, s24, sm, q1]
 clear s0 s3 s4 s18 s24 sm
 intro st hst
 subst hMG
 obtain ⟨s0, s3, s4, s18, s24, sc, sm⟩ := hst
 by_cases hc : md < e /\ e < b
 ·(repeat refine qA ?_);refine AWp.condT (by simp [sc, hc]) ?_
  (repeat refine qA ?_);refine rA ?_
  simp [s0, s3, s4, s18, s24]
  refine wA ?_
  simp [sm]
  refine ih (b - md) (by omega) _ _ _ _ _ hm1 hL1 (by omega) _ _ _ md e b rfl rfl rfl hc.1 hc.2 (by omega) (by omega) _ fun L2 hL2 => ?_
  try simp
  exact finN _ L2 (sh_trans hL2 ⟨hL1, hs1⟩) (by simp)
 (repeat refine qA ?_);refine AWp.condF (by simp [sc]; omega) ?_
 refine kA ?_
 exact finN _ L1 ⟨hL1, hs1⟩ (by simp [sm])
theorem c_symMerge (N : Nat) : MergeC Tryz.prog 156 (.func (.func 57) []) N := by
 induction N using Nat.strongRecOn with
 | _ N ih => exact c_symMerge0 N ih
theorem c_insertion_0 (v : AV) (hv : v ≠ .undef) {m : Mem} {K : AV -> Mem -> Prop} (hK : K (.tup []) m) : WCall Tryz.prog 155 [v, .int .i64 0, .int .i64 0, .func (.func 57) []] m K := by
 refine wcall_of Tryz.func155 (by kernel_rfl) rfl (by simp [Tryz.f155]) ?_
 (repeat refine qA ?_);refine rA ?_
 simp
 obtain ⟨M0, hM0⟩ : ∃ M0 : St -> Prop, M0 = (fun st => st.mem = m) := ⟨_, rfl⟩
 (repeat refine qA ?_);refine AWp.lastQ M0 ?_ ?_
 ·refine AWp.block (AWp.rounds (fun q st => q = 0 /\ st.slots 2 = .int .i64 0 /\ st.slots 8 = .int .i64 1 /\ st.mem = m) 0 ⟨rfl, by simp, by simp [show IntKind.wrap .i64 1 = 1 from rfl], by simp⟩ ?_)
  rintro RR q st hRR ⟨rfl, s2, s8, sm⟩
  (repeat refine qA ?_);refine rA ?_
  simp [s2, s8]
  (repeat refine qA ?_);refine fA ?_
  refine eA ?_
  subst hM0
  simpa using sm
 intro st hst
 subst hM0
 exact ⟨[], .tup [], _, by simp [Tryz.f155, resA], by rw [hst]; exact View.refl _ _, hK⟩
theorem c_stable {m : Mem} {g c ln : Nat} {L : List Ar} (hm : m g = some (arB c L)) (hln : L.length = ln) (hl : L.length <= 600) {zn : Int} (ez : zn = ln) {K : AV -> Mem -> Prop} (hK : ∀ L' : List Ar, Sh L' L -> (L.length < 20 -> L' = sortA L) -> K (.tup []) (m.set g (arB c L'))) :
  WCall Tryz.prog 116 [.own g ln c, .int .i64 zn, .func (.func 57) []] m K := by
 subst hln
 subst ez
 refine wcall_of Tryz.func116 (by kernel_rfl) rfl (by simp [Tryz.f116]) ?_
 (repeat refine qA ?_);refine rA ?_
 simp
 (repeat refine qA ?_);refine rA ?_
 simp
 obtain ⟨M, hM⟩ : ∃ M : St -> Prop, M = (fun st => ∃ (a : Nat) (L' : List Ar), a <= L.length /\ st.slots 0 = .own g L.length c /\ st.slots 1 = .int .i64 L.length /\ st.slots 2 = .func (.func 57) [] /\ st.slots 6 = .int .i64 20 /\ st.slots 7 = .int .i64 a /\ Sh L' L /\ st.mem = m.set g (arB c L') /\ (L.length < 20 -> a = 0 /\ L' = L)) := ⟨_, rfl⟩
 (repeat refine qA ?_);refine AWp.cutA M ?_ ?_
 ·refine AWp.block (AWp.rounds (fun q st => ∃ (a : Nat) (L' : List Ar), q = L.length + 20 - a /\ a <= L.length /\ st.slots 0 = .own g L.length c /\ st.slots 1 = .int .i64 L.length /\ st.slots 2 = .func (.func 57) [] /\ st.slots 6 = .int .i64 20 /\ st.slots 7 = .int .i64 a /\ st.slots 8 = .int .i64 ((a : Int) + 20) /\ Sh L' L /\ st.mem = m.set g (arB c L') /\ (L.length < 20 -> a = 0 /\ L' = L)) (L.length + 20) ⟨0, L, rfl, by omega, by simp, by simp, by simp, by simp, by simp, by simp, Sh.refl L, by simp [set_self hm], fun _ => ⟨rfl, rfl⟩⟩ ?_)
  rintro RR q st hRR ⟨a, L', rfl, ha, s0, s1, s2, s6, s7, s8, ⟨hL, hsh⟩, sm, hsm⟩
  have hma := set_same m g (arB c L')
  (repeat refine qA ?_);refine rA ?_
  simp [s1, s8]
  by_cases hlt : (a : Int) + 20 <= L.length
  ·(repeat refine qA ?_);refine AWp.condT (by simp [hlt]) ?_
   refine kA ?_
   try simp
   (repeat refine qA ?_);refine bA ?_
   (repeat refine qA ?_);refine rA ?_
   simp [s0, s2, s7, s8]
   refine wA ?_
   simp [sm]
   refine c_insertion hma hL (by omega) a (a + 20) rfl (by omega) (by omega) (by omega) fun L2 hL2 _ => ?_
   try simp
   (repeat refine qA ?_);refine rA ?_
   simp [s8]
   have w : IntKind.wrap .i64 ((a : Int) + 20 + 20) = (a : Int) + 20 + 20 := wrap64 (by omega) (by omega)
   (repeat refine qA ?_);refine rA ?_
   simp [s8, s6, w]
   exact hRR _ (L.length + 20 - (a + 20)) (by omega) ⟨a + 20, L2, rfl, by omega, by simp [s0], by simp [s1], by simp [s2], by simp [s6], by simp, by simp, sh_trans hL2 ⟨hL, hsh⟩, by simp, fun e => by omega⟩
  (repeat refine qA ?_);refine AWp.condF (by simp; omega) ?_
  refine eA ?_
  subst hM
  exact ⟨a, L', ha, by simp [s0], by simp [s1], by simp [s2], by simp [s6], by simp [s7], ⟨hL, hsh⟩, by simpa using sm, hsm⟩
 intro st hst
 subst hM
 obtain ⟨a, L1, ha, s0, s1, s2, s6, s7, ⟨hL1, hsh1⟩, sm, hsm⟩ := hst
 have hma := set_same m g (arB c L1)
 (repeat refine qA ?_);refine rA ?_
 simp [s0, s1, s2, s7]
 refine wA ?_
 simp [sm]
 refine c_insertion hma hL1 (by omega) a L.length rfl rfl ha (by omega) fun L2 hL2 hs2 => ?_
 try simp
 have hsm2 : L.length < 20 -> L2 = sortA L := fun e => by
  obtain ⟨rfl, rfl⟩ := hsm e
  exact hs2 rfl rfl
 obtain ⟨hL2, hsh2⟩ := sh_trans hL2 ⟨hL1, hsh1⟩
 refine AWp.gen (fun st => st.slots 0 = .own g L.length c /\ st.slots 1 = .int .i64 L.length /\ st.slots 2 = .func (.func 57) [] /\ st.slots 6 = .int .i64 20 /\ st.mem = m.set g (arB c L2)) ⟨by simp [s0], by simp [s1], by simp [s2], by simp [s6], by simp⟩ ?_
 clear s0 s1 s2 s6 s7 sm hma hs2 hsm hL1 ha
 rintro st ⟨s0, s1, s2, s6, sm⟩
 obtain ⟨M0, hM0⟩ : ∃ M0 : St -> Prop, M0 = (fun st => ∃ (L' : List Ar), Sh L' L /\ st.mem = m.set g (arB c L') /\ (L.length < 20 -> L' = sortA L)) := ⟨_, rfl⟩
 (repeat refine qA ?_);refine AWp.lastQ M0 ?_ ?_
 ·refine AWp.block (AWp.rounds (fun q st => ∃ (bs : Nat) (L' : List Ar), q = L.length - bs /\ 20 <= bs /\ bs <= 1200 /\ st.slots 0 = .own g L.length c /\ st.slots 1 = .int .i64 L.length /\ st.slots 2 = .func (.func 57) [] /\ st.slots 6 = .int .i64 bs /\ Sh L' L /\ st.mem = m.set g (arB c L') /\ (L.length < 20 -> L' = sortA L)) (L.length - 20) ⟨20, L2, rfl, by omega, by omega, by simp [s0], by simp [s1], by simp [s2], by simp [s6], ⟨hL2, hsh2⟩, by simp [sm], hsm2⟩ ?_)
  clear s0 s1 s2 s6 sm hL2 hsm2
  rintro RR q st hRR ⟨bs, L2, rfl, hb20, hbs, s0, s1, s2, s6, ⟨hL2, hsh2⟩, sm, hsm2⟩
  (repeat refine qA ?_);refine rA ?_
  simp [s1, s6]
  by_cases hlt : bs < L.length
  ·(repeat refine qA ?_);refine AWp.condT (by simp [hlt]) ?_
   refine kA ?_
   try simp
   (repeat refine qA ?_);refine bA ?_
   have w2 : IntKind.wrap .i64 (2 * (bs : Int)) = 2 * (bs : Int) := wrap64 (by omega) (by omega)
   (repeat refine qA ?_);refine rA ?_
   simp [s6, w2]
   obtain ⟨M, hM⟩ : ∃ M : St -> Prop, M = (fun st => ∃ (a : Nat) (L' : List Ar), a <= L.length /\ st.slots 0 = .own g L.length c /\ st.slots 1 = .int .i64 L.length /\ st.slots 2 = .func (.func 57) [] /\ st.slots 6 = .int .i64 bs /\ st.slots 7 = .int .i64 a /\ Sh L' L /\ st.mem = m.set g (arB c L')) := ⟨_, rfl⟩
   (repeat refine qA ?_);refine AWp.cutA M ?_ ?_
   ·refine AWp.block (AWp.rounds (fun q st => ∃ (a : Nat) (L' : List Ar), q = L.length + 1 - a /\ a <= L.length /\ st.slots 0 = .own g L.length c /\ st.slots 1 = .int .i64 L.length /\ st.slots 2 = .func (.func 57) [] /\ st.slots 6 = .int .i64 bs /\ st.slots 7 = .int .i64 a /\ st.slots 8 = .int .i64 ((a : Int) + 2 * bs) /\ Sh L' L /\ st.mem = m.set g (arB c L')) (L.length + 1) ⟨0, L2, rfl, by omega, by simp [s0], by simp [s1], by simp [s2], by simp [s6], by simp, by simp, ⟨hL2, hsh2⟩, by simp [sm]⟩ ?_)
    clear s0 s1 s2 s6 sm hL2 hsm2
    rintro RR2 q st hRR2 ⟨a, L2, rfl, ha, s0, s1, s2, s6, s7, s8, ⟨hL2, hsh2⟩, sm⟩
    have hma := set_same m g (arB c L2)
    (repeat refine qA ?_);refine rA ?_
    simp [s1, s8]
    by_cases hle : (a : Int) + 2 * bs <= L.length
    ·(repeat refine qA ?_);refine AWp.condT (by simp [hle]) ?_
     refine kA ?_
     try simp
     (repeat refine qA ?_);refine bA ?_
     have w3 : IntKind.wrap .i64 ((a : Int) + bs) = (a : Int) + bs := wrap64 (by omega) (by omega)
     have w4 : IntKind.wrap .i64 ((a : Int) + 2 * bs + 2 * bs) = (a : Int) + 2 * bs + 2 * bs := wrap64 (by omega) (by omega)
     (repeat refine qA ?_);refine rA ?_
     simp [s0, s2, s6, s7, s8, w3]
     refine wA ?_
     simp [sm]
     refine c_symMerge (2 * bs) _ _ _ _ _ hma hL2 (by omega) _ _ _ a (a + bs) (a + 2 * bs) rfl (by omega) (by omega) (by omega) (by omega) (by omega) (by omega) _ fun L3 hL3 => ?_
     try simp
     (repeat refine qA ?_);refine rA ?_
     simp [s8]
     (repeat refine qA ?_);refine rA ?_
     simp [s6, s8, w2, w4]
     exact hRR2 _ (L.length + 1 - (a + 2 * bs)) (by omega) ⟨a + 2 * bs, L3, rfl, by omega, by simp [s0], by simp [s1], by simp [s2], by simp [s6], by simp, by simp, sh_trans hL3 ⟨hL2, hsh2⟩, by simp⟩
    (repeat refine qA ?_);refine AWp.condF (by simp; omega) ?_
    refine eA ?_
    subst hM
    exact ⟨a, L2, ha, by simp [s0], by simp [s1], by simp [s2], by simp [s6], by simp [s7], ⟨hL2, hsh2⟩, by simpa using sm⟩
   clear s0 s1 s2 s6 sm hL2 hsm2
   intro st hst
   subst hM
   obtain ⟨a, L2, ha, s0, s1, s2, s6, s7, ⟨hL2, hsh2⟩, sm⟩ := hst
   have hma := set_same m g (arB c L2)
   have w3 : IntKind.wrap .i64 ((a : Int) + bs) = (a : Int) + bs := wrap64 (by omega) (by omega)
   (repeat refine qA ?_);refine rA ?_
   simp [s6, s7, w3]
   (repeat refine qA ?_);refine rA ?_
   simp [s1]
   obtain ⟨M, hM⟩ : ∃ M : St -> Prop, M = (fun st => ∃ (L' : List Ar), st.slots 0 = .own g L.length c /\ st.slots 1 = .int .i64 L.length /\ st.slots 2 = .func (.func 57) [] /\ st.slots 6 = .int .i64 bs /\ Sh L' L /\ st.mem = m.set g (arB c L')) := ⟨_, rfl⟩
   (repeat refine qA ?_);refine AWp.cutA M ?_ ?_
   ·by_cases hc : (a : Int) + bs < L.length
    ·refine AWp.condT (by simp [hc]) ?_
     (repeat refine qA ?_);refine rA ?_
     simp [s0, s1, s2, s7]
     refine wA ?_
     simp [sm]
     refine c_symMerge L.length _ _ _ _ _ hma hL2 (by omega) _ _ _ a (a + bs) L.length rfl (by omega) rfl (by omega) (by omega) (by omega) (by omega) _ fun L3 hL3 => ?_
     try simp
     subst hM
     exact ⟨L3, by simp [s0], by simp [s1], by simp [s2], by simp [s6], sh_trans hL3 ⟨hL2, hsh2⟩, by simp⟩
    refine AWp.condF (by simp; omega) ?_
    refine kA ?_
    subst hM
    exact ⟨L2, by simp [s0], by simp [s1], by simp [s2], by simp [s6], ⟨hL2, hsh2⟩, by simp [sm]⟩
   clear s0 s1 s2 s6 s7 sm hL2 hma
   intro st hst
   subst hM
   obtain ⟨L2, s0, s1, s2, s6, ⟨hL2, hsh2⟩, sm⟩ := hst
   have w5 : IntKind.wrap .i64 ((bs : Int) * 2) = (bs : Int) * 2 := wrap64 (by omega) (by omega)
   (repeat refine qA ?_);refine rA ?_
   simp [s6, w5]
   exact hRR _ (L.length - bs * 2) (by omega) ⟨bs * 2, L2, rfl, by omega, by omega, by simp [s0], by simp [s1], by simp [s2], by simp, ⟨hL2, hsh2⟩, by simp [sm], fun e => by omega⟩
  (repeat refine qA ?_);refine AWp.condF (by simp; omega) ?_
  refine eA ?_
  subst hM0
  exact ⟨L2, ⟨hL2, hsh2⟩, by simpa using sm, hsm2⟩
 intro st hst
 subst hM0
 obtain ⟨L', hL, sm, hs⟩ := hst
 exact ⟨[], .tup [], _, by simp [Tryz.f116, resA], by rw [sm]; exact View.refl _ _, hK L' hL hs⟩
theorem c_stable_0 (v : AV) (hv : v ≠ .undef) {m : Mem} {K : AV -> Mem -> Prop} (hK : K (.tup []) m) : WCall Tryz.prog 116 [v, .int .i64 0, .func (.func 57) []] m K := by
 refine wcall_of Tryz.func116 (by kernel_rfl) rfl (by simp [Tryz.f116]) ?_
 (repeat refine qA ?_);refine rA ?_
 simp
 (repeat refine qA ?_);refine rA ?_
 simp
 obtain ⟨M, hM⟩ : ∃ M : St -> Prop, M = (fun st => st.slots 0 = v /\ st.slots 1 = .int .i64 0 /\ st.slots 2 = .func (.func 57) [] /\ st.slots 6 = .int .i64 20 /\ st.slots 7 = .int .i64 0 /\ st.mem = m) := ⟨_, rfl⟩
 (repeat refine qA ?_);refine AWp.cutA M ?_ ?_
 ·refine AWp.block (AWp.rounds (fun q st => q = 0 /\ st.slots 0 = v /\ st.slots 1 = .int .i64 0 /\ st.slots 2 = .func (.func 57) [] /\ st.slots 6 = .int .i64 20 /\ st.slots 7 = .int .i64 0 /\ st.slots 8 = .int .i64 20 /\ st.mem = m) 0 ⟨rfl, by simp, by simp, by simp, by simp, by simp, by simp, by simp⟩ ?_)
  rintro RR q st hRR ⟨rfl, s0, s1, s2, s6, s7, s8, sm⟩
  (repeat refine qA ?_);refine rA ?_
  simp [s1, s8]
  (repeat refine qA ?_);refine fA ?_
  refine eA ?_
  subst hM
  exact ⟨by simp [s0], by simp [s1], by simp [s2], by simp [s6], by simp [s7], by simpa using sm⟩
 intro st hst
 subst hM
 obtain ⟨s0, s1, s2, s6, s7, sm⟩ := hst
 (repeat refine qA ?_);refine rA ?_
 simp [s0, s1, s2, s7]
 refine wA ?_
 simp [sm]
 refine c_insertion_0 v hv ?_
 try simp
 obtain ⟨M0, hM0⟩ : ∃ M0 : St -> Prop, M0 = (fun st => st.mem = m) := ⟨_, rfl⟩
 (repeat refine qA ?_);refine AWp.lastQ M0 ?_ ?_
 ·refine AWp.block (AWp.rounds (fun q st => q = 0 /\ st.slots 1 = .int .i64 0 /\ st.slots 6 = .int .i64 20 /\ st.mem = m) 0 ⟨rfl, by simp [s1], by simp [s6], by simp⟩ ?_)
  rintro RR q st hRR ⟨rfl, s1, s6, sm⟩
  (repeat refine qA ?_);refine rA ?_
  simp [s1, s6]
  (repeat refine qA ?_);refine fA ?_
  refine eA ?_
  subst hM0
  simpa using sm
 intro st hst
 subst hM0
 exact ⟨[], .tup [], _, by simp [Tryz.f116, resA], by rw [hst]; exact View.refl _ _, hK⟩
theorem c_sortStable {m : Mem} {g c : Nat} {L : List Ar} (hm : m g = some (arB c L)) (hl : L.length <= 600) {K : AV -> Mem -> Prop} (hK : ∀ L' : List Ar, Sh L' L -> (L.length < 20 -> L' = sortA L) -> K (.tup []) (m.set g (arB c L'))) :
  WCall Tryz.prog 56 [.own g L.length c, .func (.func 57) []] m K := by
 refine wcall_of Tryz.func56 (by kernel_rfl) rfl (by simp [Tryz.f56]) ?_
 (repeat refine qA ?_);refine rA ?_
 simp
 refine wA ?_
 simp
 refine c_stable hm rfl hl rfl fun L' h1 h2 => ?_
 try simp
 exact ⟨[], .tup [], _, by simp [Tryz.f56, resA], by simp; exact View.refl _ _, hK L' h1 h2⟩
theorem c_sortStable_0 {m : Mem} {K : AV -> Mem -> Prop} (hK : K (.tup []) m) : WCall Tryz.prog 56 [.lst true 0 [], .func (.func 57) []] m K := by
 refine wcall_of Tryz.func56 (by kernel_rfl) rfl (by simp [Tryz.f56]) ?_
 (repeat refine qA ?_);refine rA ?_
 simp
 refine wA ?_
 simp
 refine c_stable_0 _ (by simp) ?_
 try simp
 exact ⟨[], .tup [], _, by simp [Tryz.f56, resA], by simp; exact View.refl _ _, hK⟩
theorem parse_out2 {sub : PA Sm} {s : ByteArray} {T : List Tk} {us : List Ar} {bs : List Sm} {a1 a2 : Nat} {b1 b2 : Bool} (hT : T = (lex s).getD []) (rA : Run1 (arrsL []) T 0 (!(lex s).isSome) us a1 b1) (rB : Run1 (restL sub []) T a1 b1 bs a2 b2) :
  (b2 = true -> parseW sub s = none) /\ (b2 = false -> (parseW sub s = if (Pg.mk (sortA us) bs).ok = true then some (Pg.mk (sortA us) bs) else none) /\ ∃ r1 r2, arrsL [] T = some (us, r1) /\ restL sub [] r1 = some (bs, r2)) := by
 cases hl : lex s with
 | none =>
  rw [hl] at rA
  have hb1 := rA.ill (.inl rfl)
  have hb2 := rB.ill (.inl hb1)
  refine ⟨fun _ => by unfold parseW; rw [hl], fun e => ?_⟩
  rw [hb2] at e; cases e
 | some ts =>
  rw [hl] at rA hT
  simp only [Option.getD_some] at hT
  subst hT
  simp only [Option.isSome_some, Bool.not_true] at rA
  have e0 : T.drop 0 = T := List.drop_zero
  refine ⟨fun e => ?_, fun e => ?_⟩
  ·subst e
   unfold parseW
   rw [hl]
   simp only
   cases hA : arrsL [] T with
   | none => simp only [bindP, hA, Option.bind_none]
   | some p =>
    obtain ⟨us', r1⟩ := p
    obtain ⟨rfl, hb1, hd⟩ := rA.good us' r1 rfl (by rw [e0]; exact hA)
    cases hB : restL sub [] r1 with
    | none => simp only [bindP, hA, hB, Option.bind_some, Option.bind_none]
    | some q =>
     obtain ⟨bs', r2⟩ := q
     obtain ⟨_, hb2, _⟩ := rB.good bs' r2 hb1 (by rw [hd]; exact hB)
     cases hb2
  subst e
  obtain ⟨hb1, r2, hB, _⟩ := rB.not_bad
  subst hb1
  obtain ⟨_, r1, hA, hd⟩ := rA.not_bad
  rw [e0] at hA
  rw [hd] at hB
  refine ⟨?_, r1, r2, hA, hB⟩
  unfold parseW
  rw [hl]
  simp only [bindP, hA, hB, Option.bind_some, pureP]
theorem parse_small {sub : PA Sm} (hs : FitN 1 Sm.w sub) {T r1 r2 : List Tk} {us : List Ar} {bs : List Sm} (hT : ∀ t ∈ T, t.fine) (h6 : T.length <= 600) (hA : arrsL [] T = some (us, r1)) (hB : restL sub [] r1 = some (bs, r2)) : totL Ar.tot us <= 4800 /\ totL Sm.tot bs <= 4800 /\ us.length <= 4800 := by
 have h1 := (arrs_fit _ _ _ _ _ hA).2
 have h2 := (rest_fit hs _ _ _ _ _ hB).2
 have h3 := W_le T hT
 simp only [totL] at h1 h2
 have := totL_len Ar.tot us
 refine ⟨by omega, by omega, by omega⟩
theorem tot_arrs_le {B : Nat} : ∀ {vs : List Ar}, (∀ x ∈ vs, x.tot <= B) -> totL Ar.tot vs <= vs.length * (B + 1)
 | [], _ => by simp [totL]
 | x :: vs, h => by
  have h1 := h x (by simp)
  have h2 := tot_arrs_le (vs := vs) fun y hy => h y (by simp [hy])
  simp only [totL, List.length_cons, Nat.add_mul, Nat.one_mul]
  simp only [Nat.mul_add, Nat.mul_one] at h2 ⊢
  omega
theorem arrs_names : ∀ (k : Nat) (l : List Ar) (ts : List Tk) (b : List Ar) (r : List Tk), (∀ t ∈ ts, t.fine) -> (∀ x ∈ l, x.tot <= 6) -> arrsP k l ts = some (b, r) -> ∀ x ∈ b, x.tot <= 6
 | 0, l, ts, b, r, _, hl, h => by cases h; exact hl
 | k + 1, l, ts, b, r, hT, hl, h => by
  simp only [arrsP] at h
  split at h
  ·cases h; exact hl
  rename_i r1 h1
  obtain ⟨⟨x, r2⟩, h2, h3⟩ := Option.bind_eq_some_iff.1 h
  obtain ⟨a1, a2, a3⟩ := fit_behind arrP_fit h1 h2
  obtain ⟨t, rfl, _⟩ := tkS_some h1
  refine arrs_names k _ _ _ _ (fun t ht => hT t (a1.subset ht)) (fun y hy => ?_) h3
  rcases List.mem_append.1 hy with hy | hy
  ·exact hl y hy
  rw [List.mem_singleton] at hy
  subst hy
  unfold arrP at h2
  obtain ⟨nm, q1, e1, e2⟩ := bindP_some.1 h2
  obtain ⟨num, q2, e3, e4⟩ := bindP_some.1 e2
  obtain ⟨u, q3, e5, e6⟩ := bindP_some.1 e4
  have hx : y = Ar.mk nm num := by cases e6; rfl
  subst hx
  cases r1 with
  | nil => cases e1
  | cons t' l' =>
   simp only [nmP] at e1
   split at e1
   ·cases e1
    exact (hT t' (by simp)).len
   cases e1
theorem arrs_name {T r1 : List Tk} {us : List Ar} (hT : ∀ t ∈ T, t.fine) (hA : arrsL [] T = some (us, r1)) : ∀ x ∈ us, x.tot <= 6 := arrs_names _ _ _ _ _ hT (by simp) hA
theorem ar_own {m : Mem} (a : Ar) : OwnT m (fun _ => False) (.agg [.str a.s, .int .i64 a.n]) a.av := .agg (OwnTs.c0 (.str _) (OwnTs.c0 (.int _ _) .nil)) rfl
theorem ar_same {m : Mem} {F : Nat -> Prop} {r : AV} {a : Ar} (h : OwnT m F r a.av) : r = a.av := by
 cases h with
 | agg h _ =>
  cases h with | cons h1 h2 _ _ _ =>
  cases h2 with | cons h2 h3 _ _ _ =>
  cases h1
  cases h2
  cases h3
  rfl
theorem ars_same {m : Mem} {F : Nat -> Prop} : ∀ {L : List Ar} {ys : List AV}, OwnTs m F ys (L.map Ar.av) -> ys = L.map Ar.av
 | [], ys, h => by cases h; rfl
 | a :: L, ys, h => by
  cases h with | cons h1 h2 _ _ _ =>
  rw [ar_same h1, ars_same h2]
  rfl
theorem ars_own {m : Mem} : ∀ L : List Ar, OwnTs m (fun _ => False) (L.map Ar.av) (L.map Ar.av)
 | [] => .nil
 | a :: L => OwnTs.c0 (ar_own a) (ars_own L)
theorem QH.write {m1 m : Mem} {gr : Nat} {T : List Tk} {a : Nat} {d : Int} {bad : Bool} {bs : List (Nat × List AV)} {ts : List ((Nat -> Prop) × AV × AV)} {F : Nat -> Prop} {v x x' : AV} (h : QH m1 gr T a d bad bs ((F, v, x) :: ts) m) (h1 : m1 gr ≠ none) {g : Nat} {b : Blk} (hF : F g) (hO : OwnT (m.set g b) F v x') : QH m1 gr T a d bad bs ((F, v, x') :: ts) (m.set g b) := by
 have hT := h.tr (F, v, x) (by simp)
 have d1 := List.pairwise_cons.1 h.td
 have hm1 := (hT.1.new g hF).1
 have hne : g ≠ gr := by rintro rfl; exact h1 hm1
 refine ⟨h.ps.off hne _, fun k y hk hy => ?_, fun q hq => ?_, h.bd, fun t ht => ?_, List.pairwise_cons.2 ⟨fun t ht => d1.1 t ht, d1.2⟩⟩
 ·have hkg : k ≠ g := by rintro rfl; rw [hm1] at hy; cases hy
  rw [Mem.set_other hkg]
  exact h.off k y hk hy
 ·have hqg : q.1 ≠ g := fun e => hT.2 q hq (by rw [e]; exact hF)
  rw [Mem.set_other hqg]
  exact h.bx q hq
 rcases List.mem_cons.1 ht with rfl | ht
 ·refine ⟨⟨hO, fun k hk => ⟨(hT.1.new k hk).1, ?_⟩⟩, hT.2⟩
  by_cases e : k = g
  ·subst e; rw [set_same]; simp
  rw [Mem.set_other e]; exact (hT.1.new k hk).2
 have := h.tr t (by simp [ht])
 exact ⟨this.1.set (fun hq => d1.1 t ht g hF hq) _, this.2⟩
theorem pg_own {m : Mem} {FA FB : Nat -> Prop} {va vb : AV} {L : List Ar} {bs : List Sm} (hA : OwnT m FA va (.lst false 2 (L.map Ar.av))) (hB : OwnT m FB vb (.lst false 19 (bs.map Sm.av))) (hd : ∀ g, FA g -> ¬ FB g) : OwnT m (fun g => FA g ∨ FB g) (.agg [va, vb]) (Pg.mk L bs).av :=
 .agg (.cons (A := FA) (B := FB) hA (.cons (A := FB) (B := fun _ => False) hB .nil (fun _ _ h => h) (fun _ h => h) fun _ h => h.elim) hd (fun _ h => .inl h) fun _ h => .inr h) (by simp [hA.okc.1, hB.okc.1])
theorem c_impl_Parse (s : ByteArray) (hz : s.size <= 9223372036854775807) {Tb : TypeId} {m : Mem} (hm : m TB = some (tabBlk Tb)) {K : AV -> Mem -> Prop}
  (hK : ∀ m' F r, Ext m m' -> Tv m m' F r ((parse s).getD (Pg.mk [] [])).av -> K (.tup [r, .bool (parse s).isSome]) m') : WCall Tryz.prog 18 [.str s] m K := by
 have eE : ByteArray.empty = (⟨#[]⟩ : ByteArray) := rfl
 obtain ⟨T, hTd⟩ : ∃ T, T = (lex s).getD [] := ⟨_, rfl⟩
 have hT : (∀ t ∈ T, t.fine) /\ T.length <= 600 := by
  cases hl : lex s with
  | none => rw [hTd, hl]; simp
  | some T' =>
   rw [hTd, hl]
   exact lex_fine hl
 obtain ⟨hT, h6⟩ := hT
 refine wcall_of Tryz.func18 (by kernel_rfl) rfl (by simp [Tryz.f18]) ?_
 (repeat refine qA ?_);refine rA ?_
 simp
 intro g2 hg2
 have hE2 := ext_set hg2 (.box [.lst true 0 [], .lst true 0 []])
 have w2 := set_same m g2 (.box [.lst true 0 [], .lst true 0 []])
 refine AWp.gen (fun st => st.slots 0 = .str s /\ st.slots 2 = .ptr g2 0 /\ st.slots 3 = .bool false /\ st.mem = m.set g2 (.box [.lst true 0 [], .lst true 0 []])) ⟨by simp, by simp, by simp, by simp⟩ ?_
 generalize m.set g2 (.box [.lst true 0 [], .lst true 0 []]) = m1 at *
 rintro st ⟨s0, s2, s3, sm⟩
 (repeat refine qA ?_);refine rA ?_
 simp [s0]
 refine wA ?_
 simp [sm]
 refine c_impl_Lex s hz (hE2 _ _ hm) ?_
 rw [<- hTd]
 try simp
 refine AWp.gen (fun st => st.slots 2 = .ptr g2 0 /\ st.slots 3 = .bool false /\ st.slots 4 = .lst false 3 (T.map Tk.av) /\ st.slots 5 = .bool (lex s).isSome /\ st.mem = m1) ⟨by simp [s2], by simp [s3], by simp, by simp, by simp⟩ ?_
 clear s0 s2 s3 sm
 rintro st ⟨s2, s3, s4, s5, sm⟩
 (repeat refine qA ?_);refine rA ?_
 simp [s4, s5, sm]
 intro g6 hg6
 have n26 : g2 ≠ g6 := by rintro rfl; rw [w2] at hg6; cases hg6
 have hE6 := ext_set hg6 (.box (pc T 0 0 (!(lex s).isSome)))
 have w2 := hE6 _ _ w2
 have hE := hE2.trans hE6
 have hm6 : m g6 = none := by
  cases hq : m g6 with
  | none => rfl
  | some b => rw [hE2 _ _ hq] at hg6; cases hg6
 have hP : PS g6 T 0 0 (!(lex s).isSome) (m1.set g6 (.box (pc T 0 0 (!(lex s).isSome)))) := ⟨set_same _ _ _, by simp, h6⟩
 refine AWp.gen (fun st => st.slots 2 = .ptr g2 0 /\ st.slots 3 = .bool false /\ st.slots 4 = .lst false 3 (T.map Tk.av) /\ st.slots 6 = .ptr g6 0 /\ st.mem = m1.set g6 (.box (pc T 0 0 (!(lex s).isSome)))) ⟨by simp [s2], by simp [s3], by simp [s4], by simp, by simp [pc]⟩ ?_
 generalize m1.set g6 (.box (pc T 0 0 (!(lex s).isSome))) = m2 at *
 clear s2 s3 s4 s5 sm hg6 hE2 hE6
 rintro st ⟨s2, s3, s4, s6, sm⟩
 have hgr := hP.at
 (repeat refine qA ?_);refine rA ?_
 simp [sm]
 intro g7 hg7
 have n27 : g2 ≠ g7 := by rintro rfl; rw [w2] at hg7; cases hg7
 have h := ((QH.start hP).box hgr hg7 [.lst true 0 [], .lst true 0 []]).plain (r := .lst true 0 []) (x := .lst false 2 (([] : List Ar).map Ar.av)) (.nil _ _ _)
 refine AWp.gen (fun st => st.slots 2 = .ptr g2 0 /\ st.slots 3 = .bool false /\ st.slots 4 = .lst false 3 (T.map Tk.av) /\ st.slots 6 = .ptr g6 0 /\ st.slots 7 = .ptr g7 0 /\ st.mem = m2.set g7 (.box [.lst true 0 [], .lst true 0 []])) ⟨by simp [s2], by simp [s3], by simp [s4], by simp [s6], by simp, by simp⟩ ?_
 generalize m2.set g7 (.box [.lst true 0 [], .lst true 0 []]) = m3 at *
 clear s2 s3 s4 s6 sm hg7
 rintro st ⟨s2, s3, s4, s6, s7, sm⟩
 obtain ⟨bad0, hbad0⟩ : ∃ b, b = !(lex s).isSome := ⟨_, rfl⟩
 rw [<- hbad0] at h hP
 -- the arrays
 obtain ⟨M, hM⟩ : ∃ M : St -> Prop, M = (fun st => ∃ FA va us a1 b1, st.slots 2 = .ptr g2 0 /\ st.slots 3 = .bool false /\ st.slots 4 = .lst false 3 (T.map Tk.av) /\ st.slots 6 = .ptr g6 0 /\ st.slots 7 = .ptr g7 0 /\ QH m2 g6 T a1 0 b1 [(g7, [va, .lst true 0 []])] [(FA, va, .lst false 2 (us.map Ar.av))] st.mem /\ RowV 57 2 FA va (us.map Ar.av).length st.mem /\ Run1 (arrsL []) T 0 bad0 us a1 b1 /\ us.length <= 600) := ⟨_, rfl⟩
 (repeat refine qA ?_);refine AWp.cutA M ?_ ?_
 ·refine AWp.block (AWp.rounds (fun q st => ∃ FA va us a1 b1, q = (if b1 = true then 0 else T.length - a1 + 1) /\ st.slots 2 = .ptr g2 0 /\ st.slots 3 = .bool false /\ st.slots 4 = .lst false 3 (T.map Tk.av) /\ st.slots 6 = .ptr g6 0 /\ st.slots 7 = .ptr g7 0 /\ QH m2 g6 T a1 0 b1 [(g7, [va, .lst true 0 []])] [(FA, va, .lst false 2 (us.map Ar.av))] st.mem /\ RowV 57 2 FA va (us.map Ar.av).length st.mem /\ (us.length <= 600 /\ (b1 = false -> us.length <= a1)) /\ ∀ y a2 b2, Run1 (arrsL us) T a1 b1 y a2 b2 -> Run1 (arrsL []) T 0 bad0 y a2 b2) (if bad0 = true then 0 else T.length - 0 + 1) ⟨_, .lst true 0 [], [], 0, bad0, rfl, s2, s3, s4, s6, s7, by rw [sm]; exact h, .inl ⟨rfl, rfl⟩, by simp, fun _ _ _ h => h⟩ ?_)
  clear s2 s3 s4 s6 s7 sm h
  rintro RR q st hRR ⟨FA, va, us, a1, b1, rfl, s2, s3, s4, s6, s7, h, hv, ⟨hlen6, hlen⟩, hall⟩
  (repeat refine qA ?_);refine rA ?_
  simp [s6]
  refine wA ?_
  try simp [s6]
  refine c_skip h.ps arrayB fun n1 hPn hOn => ?_
  try simp
  have hv := hv.keep (h.same hgr (List.mem_cons_self ..) hOn)
  have h := h.call hgr hOn hPn
  clear hPn hOn
  cases hi : isT (hdT T a1 b1) arrayB with
  | false =>
   have hno := isT_word_no hT (by decide) hi
   rw [hi] at h
   simp at h
   (repeat refine qA ?_);refine fA ?_
   refine eA ?_
   subst hM
   exact ⟨FA, va, us, a1, b1, by simp [s2], by simp [s3], by simp [s4], by simp [s6], by simp [s7], by simpa using h, by simpa using hv, hall _ _ _ (arrsL_exit us hno), hlen6⟩
  | true =>
   obtain ⟨rfl, hlt, hmk⟩ := isT_word hT (by decide) hi
   rw [hi] at h
   simp at h
   (repeat refine qA ?_);refine tA ?_
   refine kA ?_
   try simp
   (repeat refine qA ?_);refine bA ?_
   refine AWp.gen (fun st => st.slots 2 = .ptr g2 0 /\ st.slots 3 = .bool false /\ st.slots 4 = .lst false 3 (T.map Tk.av) /\ st.slots 6 = .ptr g6 0 /\ st.slots 7 = .ptr g7 0 /\ st.mem = n1) ⟨by simp [s2], by simp [s3], by simp [s4], by simp [s6], by simp [s7], by simp⟩ ?_
   clear s2 s3 s4 s6 s7
   rintro st ⟨s2, s3, s4, s6, s7, sm⟩
   (repeat refine qA ?_);refine rA ?_
   simp [s6]
   refine wA ?_
   simp [sm, s6]
   refine c_kindName h.ps fun n2 nm kk nn a2 b2 hPn hOn run1 => ?_
   have hv := hv.keep (h.same hgr (List.mem_cons_self ..) hOn)
   have h := h.call hgr hOn hPn
   clear hPn hOn
   simp
   intro g8 hg8
   have hv := hv.keep (h.sameNew (List.mem_cons_self ..) hg8 (.box [.str nm, .int .i64 0]))
   have h := h.box hgr hg8 [.str nm, .int .i64 0]
   refine AWp.gen (fun st => st.slots 2 = .ptr g2 0 /\ st.slots 3 = .bool false /\ st.slots 4 = .lst false 3 (T.map Tk.av) /\ st.slots 6 = .ptr g6 0 /\ st.slots 7 = .ptr g7 0 /\ st.slots 8 = .ptr g8 0 /\ st.mem = n2.set g8 (.box [.str nm, .int .i64 0])) ⟨by simp [s2], by simp [s3], by simp [s4], by simp [s6], by simp [s7], by simp, by simp⟩ ?_
   generalize n2.set g8 (.box [.str nm, .int .i64 0]) = n3 at *
   clear s2 s3 s4 s6 s7 sm hg8
   rintro st ⟨s2, s3, s4, s6, s7, s8, sm⟩
   (repeat refine qA ?_);refine rA ?_
   simp [s6]
   refine wA ?_
   simp [sm, s6]
   refine c_kindNum h.ps fun n4 ss kk2 num a3 b3 hPn hOn run2 => ?_
   have hv := hv.keep (h.same hgr (List.mem_cons_self ..) hOn)
   have h := h.call hgr hOn hPn
   clear hPn hOn
   have w8 := h.box1 (g := g8) (cs := [.str nm, .int .i64 0]) (by simp)
   simp [s8, w8]
   have hv := hv.keep (h.samePut (List.mem_cons_self ..) (g := g8) (cs := [.str nm, .int .i64 0]) (by simp) (.box [.str nm, .int .i64 num]))
   have h := QH.put (l1 := []) (cs' := [.str nm, .int .i64 num]) h
   refine AWp.gen (fun st => st.slots 2 = .ptr g2 0 /\ st.slots 3 = .bool false /\ st.slots 4 = .lst false 3 (T.map Tk.av) /\ st.slots 6 = .ptr g6 0 /\ st.slots 7 = .ptr g7 0 /\ st.slots 8 = .ptr g8 0 /\ st.mem = n4.set g8 (.box [.str nm, .int .i64 num])) ⟨by simp [s2], by simp [s3], by simp [s4], by simp [s6], by simp [s7], by simp [s8], by simp⟩ ?_
   generalize n4.set g8 (.box [.str nm, .int .i64 num]) = n5 at *
   clear s2 s3 s4 s6 s7 s8 sm w8
   rintro st ⟨s2, s3, s4, s6, s7, s8, sm⟩
   (repeat refine qA ?_);refine rA ?_
   simp [s6]
   refine wA ?_
   simp [sm, s6]
   refine c_takeR h.ps hT 59 fun n6 a4 b4 hPn hOn run3 => ?_
   have hv := hv.keep (h.same hgr (List.mem_cons_self ..) hOn)
   have h := h.call hgr hOn hPn
   clear hPn hOn
   try simp
   have runA : Run1 arrP T (a1 + 1) false (Ar.mk nm num) a4 b4 := run1.then_ (run2.then_ (run3.then_ (Run1.done _ T a4 b4)))
   have w7 := h.box1 (g := g7) (cs := [va, .lst true 0 []]) (by simp)
   have w8 := h.box1 (g := g8) (cs := [.str nm, .int .i64 num]) (by simp)
   obtain ⟨v1, v2, v3⟩ := hv.ok
   (repeat refine qA ?_);refine rA ?_
   simp [s7, s8, w7, w8, v2, v3, literalA]
   have hlm : (us.map Ar.av).length = us.length := by simp
   have hle := h.ps.le
   refine (h.plain (ar_own (Ar.mk nm num))).app et_29 hgr hv (by simp [srcA]) (by rw [hlm]; omega) fun FA' va' n7 h hv _ => ?_
   obtain ⟨v1', v2', v3'⟩ := hv.ok
   have w7 := h.box1 (g := g7) (cs := [va, .lst true 0 []]) (by simp)
   simp [w7, v1', v2', v3', s7]
   have hv := hv.keep (h.samePut (List.mem_cons_self ..) (g := g7) (cs := [va, .lst true 0 []]) (by simp) (.box [va', .lst true 0 []]))
   have h := (QH.put (l1 := [(g8, [.str nm, .int .i64 num])]) (cs' := [va', .lst true 0 []]) h).less (bs' := [(g7, [va', .lst true 0 []])]) (List.sublist_cons_self _ _) (List.Sublist.refl _)
   have hl1 := hlen rfl
   have hpos : b4 = false -> a1 + 1 < a4 := fun e => by
    subst e
    have := (Run1.ltN (FitN.less arrP_fit (by omega) fun _ => Nat.le_refl _) runA hle).1
    omega
   refine hRR _ (if b4 = true then 0 else T.length - a4 + 1) ?_ ⟨FA', va', us ++ [Ar.mk nm num], a4, b4, rfl, by simp [s2], by simp [s3], by simp [s4], by simp [s6], by simp [s7], by simpa using h, by simpa using hv, ⟨by simp; omega, fun e => by have := hpos e; simp; omega⟩, fun y a5 b5 hr => hall y a5 b5 (arrsL_step hlt hmk runA hr)⟩
   cases b4 with
   | true => simp
   | false =>
    have := hpos rfl
    simp
    omega
 intro st hst
 subst hM
 obtain ⟨FA, va, us, a0, b0, s2, s3, s4, s6, s7, h, hv, runA, hlu⟩ := hst
 obtain ⟨n0, sm⟩ : ∃ n0, st.mem = n0 := ⟨_, rfl⟩
 rw [sm] at h hv
 have h := (h.plain (r := .lst true 0 []) (x := .lst false 19 (([] : List Sm).map Sm.av)) (.nil _ _ _)).swap
 have hS : StmtC Tryz.prog 55 1 (stmtP 3) := by simpa using c_stmt 3 (by omega)
 -- the statements
 obtain ⟨M, hM⟩ : ∃ M : St -> Prop, M = (fun st => ∃ FB vb bs a1 d1 b1, st.slots 2 = .ptr g2 0 /\ st.slots 3 = .bool false /\ st.slots 6 = .ptr g6 0 /\ st.slots 7 = .ptr g7 0 /\ QH m2 g6 T a1 d1 b1 [(g7, [va, vb])] [(FA, va, .lst false 2 (us.map Ar.av)), (FB, vb, .lst false 19 (bs.map Sm.av))] st.mem /\ RowV 57 2 FA va (us.map Ar.av).length st.mem /\ RowV 83 19 FB vb (bs.map Sm.av).length st.mem /\ Run1 (restL (stmtP 3) []) T a0 b0 bs a1 b1) := ⟨_, rfl⟩
 (repeat refine qA ?_);refine AWp.cutA M ?_ ?_
 ·refine AWp.block (AWp.rounds (fun q st => ∃ FB vb bs a1 d1 b1, q = (if b1 = true then 0 else T.length - a1 + 1) /\ st.slots 2 = .ptr g2 0 /\ st.slots 3 = .bool false /\ st.slots 4 = .lst false 3 (T.map Tk.av) /\ st.slots 6 = .ptr g6 0 /\ st.slots 7 = .ptr g7 0 /\ QH m2 g6 T a1 d1 b1 [(g7, [va, vb])] [(FA, va, .lst false 2 (us.map Ar.av)), (FB, vb, .lst false 19 (bs.map Sm.av))] st.mem /\ RowV 57 2 FA va (us.map Ar.av).length st.mem /\ RowV 83 19 FB vb (bs.map Sm.av).length st.mem /\ (b1 = false -> d1 = 0 /\ bs.length <= a1) /\ ∀ y a2 b2, Run1 (restL (stmtP 3) bs) T a1 b1 y a2 b2 -> Run1 (restL (stmtP 3) []) T a0 b0 y a2 b2) (if b0 = true then 0 else T.length - a0 + 1) ⟨_, .lst true 0 [], [], a0, 0, b0, rfl, s2, s3, s4, s6, s7, by rw [sm]; exact h, by rw [sm]; exact hv, .inl ⟨rfl, rfl⟩, fun _ => ⟨rfl, by simp⟩, fun _ _ _ h => h⟩ ?_)
  clear s2 s3 s4 s6 s7 sm h hv
  rintro RR q st hRR ⟨FB, vb, bs, a1, d1, b1, rfl, s2, s3, s4, s6, s7, h, hv, hw, hdl, hall⟩
  have hbx := h.ps.box
  unfold pc at hbx
  cases b1 with
  | true =>
   (repeat refine qA ?_);refine rA ?_
   simp [s6, hbx]
   (repeat refine qA ?_);refine fA ?_
   refine eA ?_
   subst hM
   exact ⟨FB, vb, bs, a1, d1, true, by simp [s2], by simp [s3], by simp [s6], by simp [s7], by simpa using h, by simpa using hv, by simpa using hw, hall _ _ _ (rest_exit bs (.inl rfl))⟩
  | false =>
   obtain ⟨hd1, hlen⟩ := hdl rfl
   subst hd1
   have hle1 := h.ps.le
   by_cases hlt : a1 < T.length
   ·have hlt2 : (a1 : Int) < T.length := by omega
    (repeat refine qA ?_);refine rA ?_
    simp [s4, s6, hbx, hlt2]
    (repeat refine qA ?_);refine tA ?_
    refine kA ?_
    try simp
    (repeat refine qA ?_);refine bA ?_
    refine AWp.gen (fun st' => st'.slots 2 = .ptr g2 0 /\ st'.slots 3 = .bool false /\ st'.slots 4 = .lst false 3 (T.map Tk.av) /\ st'.slots 6 = .ptr g6 0 /\ st'.slots 7 = .ptr g7 0 /\ st'.mem = st.mem) ⟨by simp [s2], by simp [s3], by simp [s4], by simp [s6], by simp [s7], by simp⟩ ?_
    clear s2 s3 s4 s6 s7
    generalize st.mem = n0 at *
    rintro st ⟨s2, s3, s4, s6, s7, sm⟩
    (repeat refine qA ?_);refine rA ?_
    simp [s6]
    refine wA ?_
    simp [sm, s6]
    refine hS g6 T a1 0 false _ h.ps hT (fun _ => rfl) _ fun n1 Fx cx x a2 d2 b2 hPn hOn hTn run hdd => ?_
    have hv := hv.keep (h.same hgr (List.mem_cons_self ..) hOn)
    have hw := hw.keep (h.same hgr (List.mem_cons_of_mem _ (List.mem_cons_self ..)) hOn)
    have h := h.treeV hgr hOn hPn hTn
    obtain ⟨hl, hok, htk⟩ := own_19 hTn.own
    clear hPn hOn hTn hbx
    simp [hl]
    intro g9 hg9
    refine ⟨hok, ?_⟩
    have hv := hv.keep (h.sameNew (r := va) (List.mem_cons_of_mem _ (List.mem_cons_self ..)) hg9 (.box cx))
    have hw := hw.keep (h.sameNew (r := vb) (List.mem_cons_of_mem _ (List.mem_cons_of_mem _ (List.mem_cons_self ..))) hg9 (.box cx))
    have h := h.box hgr hg9 cx
    refine AWp.gen (fun st => st.slots 2 = .ptr g2 0 /\ st.slots 3 = .bool false /\ st.slots 4 = .lst false 3 (T.map Tk.av) /\ st.slots 6 = .ptr g6 0 /\ st.slots 7 = .ptr g7 0 /\ st.slots 9 = .ptr g9 0 /\ st.mem = n1.set g9 (.box cx)) ⟨by simp [s2], by simp [s3], by simp [s4], by simp [s6], by simp [s7], by simp, by simp⟩ ?_
    generalize n1.set g9 (.box cx) = n2 at *
    clear s2 s3 s4 s6 s7 sm hg9
    rintro st ⟨s2, s3, s4, s6, s7, s9, sm⟩
    have w7 := h.box1 (g := g7) (cs := [va, vb]) (by simp)
    have w9 := h.box1 (g := g9) (cs := cx) (by simp)
    obtain ⟨v1, v2, v3⟩ := hw.ok
    (repeat refine qA ?_);refine rA ?_
    simp [s7, s9, sm, w7, w9, v2, v3, hl, htk, literalA]
    have hlm : (bs.map Sm.av).length = bs.length := by simp
    have hle := h.ps.le
    have h := h.rot
    refine h.app et_30 hgr hw (by simp [srcA]) (by rw [hlm]; omega) fun FB' vb' n3 h hw hkeep => ?_
    have hv := hv.keep (hkeep _ (List.mem_cons_self ..))
    obtain ⟨v1', v2', v3'⟩ := hw.ok
    have w7 := h.box1 (g := g7) (cs := [va, vb]) (by simp)
    simp [w7, v1', v2', v3', s7]
    have hv := hv.keep (h.samePut (r := va) (List.mem_cons_of_mem _ (List.mem_cons_self ..)) (g := g7) (cs := [va, vb]) (by simp) (.box [va, vb']))
    have hw := hw.keep (h.samePut (List.mem_cons_self ..) (g := g7) (cs := [va, vb]) (by simp) (.box [va, vb']))
    have h := ((QH.put (l1 := [(g9, cx)]) (cs' := [va, vb']) h).less (bs' := [(g7, [va, vb'])]) (List.sublist_cons_self _ _) (List.Sublist.refl _)).swap
    refine hRR _ (if b2 = true then 0 else T.length - a2 + 1) ?_ ⟨FB', vb', bs ++ [x], a2, d2, b2, rfl, by simp [s2], by simp [s3], by simp [s4], by simp [s6], by simp [s7], by simpa using h, by simpa using hv, by simpa using hw, fun e => ⟨hdd e, ?_⟩, fun y a3 b3 hr => hall y a3 b3 (rest_step (stmtP_fit 3) hlt run hr)⟩
    ·cases b2 with
     | true => simp
     | false =>
      have := (Run1.ltN (stmtP_fit 3) run hle).1
      simp
      omega
    subst e
    have := (Run1.ltN (stmtP_fit 3) run hle).1
    simp
    omega
   have hlt2 : ¬ (a1 : Int) < T.length := by omega
   (repeat refine qA ?_);refine rA ?_
   simp [s4, s6, hbx, hlt2]
   (repeat refine qA ?_);refine fA ?_
   refine eA ?_
   subst hM
   exact ⟨FB, vb, bs, a1, 0, false, by simp [s2], by simp [s3], by simp [s6], by simp [s7], by simpa using h, by simpa using hv, by simpa using hw, hall _ _ _ (rest_exit bs (.inr (by omega)))⟩
 clear s2 s3 s4 s6 s7 sm h hv
 intro st hst
 subst hM
 obtain ⟨FB, vb, bs, a1, d1, b1, s2, s3, s6, s7, h, hv, hw, runB⟩ := hst
 rw [hbad0] at runA
 obtain ⟨o1, o2⟩ := parse_out2 hTd runA runB
 obtain ⟨n0, sm⟩ : ∃ n0, st.mem = n0 := ⟨_, rfl⟩
 rw [sm] at h hv hw
 -- in order
 obtain ⟨M, hM⟩ : ∃ M : St -> Prop, M = (fun st => ∃ L', st.slots 2 = .ptr g2 0 /\ st.slots 3 = .bool false /\ st.slots 6 = .ptr g6 0 /\ st.slots 7 = .ptr g7 0 /\ QH m2 g6 T a1 d1 b1 [(g7, [va, vb])] [(FA, va, .lst false 2 (L'.map Ar.av)), (FB, vb, .lst false 19 (bs.map Sm.av))] st.mem /\ Sh L' us /\ (us.length < 20 -> L' = sortA us)) := ⟨_, rfl⟩
 obtain ⟨v1, v2, v3⟩ := hv.ok
 (repeat refine qA ?_);refine AWp.cutA M ?_ ?_
 ·have w7 := h.box1 (g := g7) (cs := [va, vb]) (by simp)
  have hF := h.tr (FA, va, .lst false 2 (us.map Ar.av)) (by simp)
  rcases hv with ⟨rfl, h0⟩ | ⟨g, c, ys, rfl, hFg, hmg⟩
  ·have hu : us = [] := by simpa using h0
   subst hu
   refine rA ?_
   simp [s7, sm, w7]
   refine wA ?_
   try simp [sm]
   refine c_sortStable_0 ?_
   subst hM
   exact ⟨[], by simp [s2], by simp [s3], by simp [s6], by simp [s7], by simpa [sm] using h, Sh.refl _, fun _ => rfl⟩
  have hys : ys = us.map Ar.av := by
   cases hF.1.own with
   | @own _ G0 _ _ _ _ T0 ys' _ k1 k2 k3 k4 k5 k6 =>
    rw [hmg] at k1
    simp only [Option.some.injEq, Blk.arr.injEq] at k1
    rw [k1.2.2.2]
    exact ars_same k3
  subst hys
  simp only [List.length_map] at h hF w7
  refine rA ?_
  simp [s7, sm, w7]
  refine wA ?_
  try simp [sm]
  refine c_sortStable (g := g) (c := c) (L := us) hmg hlu fun L' hL' hs => ?_
  have hO : OwnT (n0.set g (arB c L')) FA (.own g us.length c) (.lst false 2 (L'.map Ar.av)) := .own (G := fun _ => False) (set_same _ _ _) (by simp [hL'.1]) (ars_own L') id (fun _ h => h.elim) hFg
  have h := h.write hgr hFg hO
  subst hM
  exact ⟨L', by simp [s2], by simp [s3], by simp [s6], by simp [s7], by simpa using h, hL', hs⟩
 clear s2 s3 s6 s7 sm h hv hw
 intro st hst
 subst hM
 obtain ⟨L', s2, s3, s6, s7, h, ⟨hlen', hmem'⟩, hsort⟩ := hst
 obtain ⟨n3, sm⟩ : ∃ n3, st.mem = n3 := ⟨_, rfl⟩
 rw [sm] at h
 have hok := sort_ok hlen' hsort bs
 have hbx := h.ps.box
 unfold pc at hbx
 have w7 := h.box1 (g := g7) (cs := [va, vb]) (by simp)
 have w2' := h.off g2 _ n26 w2
 have hOA := (h.tr (FA, va, .lst false 2 (L'.map Ar.av)) (by simp)).1
 have hOB := (h.tr (FB, vb, .lst false 19 (bs.map Sm.av)) (by simp)).1
 obtain ⟨kA1, kA2, kA3⟩ := hOA.own.okc
 obtain ⟨kB1, kB2, kB3⟩ := hOB.own.okc
 have toE : ∀ m', Off g6 m m' -> Ext m m' := fun m' hO g b hg => hO g b (by rintro rfl; rw [hm6] at hg; cases hg) hg
 have hO4 : Off g6 m n3 := (Off.ext hE).trans h.off
 have hO5 : ∀ b, Off g6 m (n3.set g2 b) := fun b g x hk hx => by
  have hne : g ≠ g2 := by rintro rfl; rw [hg2] at hx; cases hx
  rw [Mem.set_other hne]
  exact hO4 g x hk hx
 have zero : Tv m (n3.set g2 (.box [.lst true 0 [], .lst true 0 []])) (fun _ => False) (.agg [.lst true 0 [], .lst true 0 []]) (Pg.mk [] []).av := ⟨.agg (OwnTs.c0 (.nil _ _ _) (OwnTs.c0 (.nil _ _ _) .nil)) rfl, fun _ h => h.elim⟩
 have bad : ∀ st' : St, parse s = none -> st'.slots 2 = .ptr g2 0 -> st'.slots 3 = .bool false -> st'.mem = n3.set g2 (.box [.lst true 0 [], .lst true 0 []]) -> Post Tryz.prog Tryz.f18 K .ret st' := fun st' hn t2 t3 tm => by
  have hK := hK _ _ _ (toE _ (hO5 _)) (by rw [hn]; exact zero)
  rw [hn] at hK
  exact ⟨[.agg [.lst true 0 [], .lst true 0 []], .bool false], _, _, by simp [Tryz.f18, resA, t2, t3, tm], by rw [tm]; exact View.refl _ _, hK⟩
 cases b1 with
 | true =>
  (repeat refine qA ?_);refine rA ?_
  simp [s6, s7, sm, hbx]
  (repeat refine qA ?_);refine tA ?_
  (repeat refine qA ?_);refine rA ?_
  simp [s2, w2', sm]
  refine AWp.ret (bad _ (o1 rfl) ?_ ?_ ?_) <;> simp [s2, sm]
 | false =>
  obtain ⟨o3, r1, r2, hA, hB⟩ := o2 rfl
  obtain ⟨z1, z2, z3⟩ := parse_small (stmtP_fit 3) hT h6 hA hB
  have ht : (Pg.mk L' bs).tot <= 1048576 := by
   have h1 : totL Ar.tot L' <= L'.length * (600 + 1) := tot_arrs_le (B := 600) fun x hx => by
    have h2 := totL_mem Ar.tot (hmem' x hx)
    have h3 := arrs_name hT hA x (hmem' x hx)
    omega
   show totL Ar.tot L' + totL Sm.tot bs <= _
   omega
  obtain ⟨_, hL⟩ : ∃ F : Nat -> Prop, Lent n3 F [.agg [va, vb]] [(Pg.mk L' bs).av] := (Lent.nil n3).own (pg_own hOA.own hOB.own ((List.pairwise_cons.1 h.td).1 (FB, vb, .lst false 19 (bs.map Sm.av)) (by simp)))
  (repeat refine qA ?_);refine rA ?_
  simp [s6, s7, sm, hbx, w7, kA1, kB1, kA3, kB3]
  refine wA ?_
  simp [sm]
  refine PCall.lend (c_impl_ProgOk (Pg.mk L' bs) ht) hL rfl ?_
  clear hL
  rw [hok.1]
  cases hb : (Pg.mk (sortA us) bs).ok with
  | false =>
   rw [hb] at o3
   try simp
   (repeat refine qA ?_);refine tA ?_
   (repeat refine qA ?_);refine rA ?_
   simp [s2, w2', sm]
   refine AWp.ret (bad _ (by unfold parse; rw [o3]; rfl) ?_ ?_ ?_) <;> simp [s2, sm]
  | true =>
   rw [hb] at o3
   have hLs : L' = sortA us := hok.2 (by rw [hok.1]; exact hb)
   have hps : parse s = some (Pg.mk L' bs) := by unfold parse; rw [o3, hLs]; rfl
   try simp
   (repeat refine qA ?_);refine fA ?_
   refine kA ?_
   try simp
   (repeat refine qA ?_);refine rA ?_
   simp [s2, s7, sm, w2', w7, kA1, kB1, kA3, kB3]
   have nA : ¬ FA g2 := hOA.not (by rw [w2]; simp)
   have nB : ¬ FB g2 := hOB.not (by rw [w2]; simp)
   have hfin : Tv m (n3.set g2 (.box [va, vb])) (fun g => FA g ∨ FB g) (.agg [va, vb]) (Pg.mk L' bs).av := by
    refine ⟨pg_own (hOA.set nA _).own (hOB.set nB _).own ((List.pairwise_cons.1 h.td).1 (FB, vb, .lst false 19 (bs.map Sm.av)) (by simp)), fun g hg => ?_⟩
    rcases hg with hg | hg
    ·have := ((hOA.set nA (.box [va, vb])).base (gr := g6) (Off.ext hE) hgr).new g hg
     exact this
    have := ((hOB.set nB (.box [va, vb])).base (gr := g6) (Off.ext hE) hgr).new g hg
    exact this
   have hK := hK _ _ (.agg [va, vb]) (toE _ (hO5 _)) (by rw [hps]; exact hfin)
   rw [hps] at hK
   exact AWp.ret ⟨[.agg [va, vb], .bool true], _, _, by simp [Tryz.f18, resA, s2], by (try simp); exact View.refl _ _, hK⟩

end Go.T
namespace Go.T
open Go Go.Proofs
set_option maxRecDepth 10000
set_option maxHeartbeats 1000000
end Go.T
namespace Go.T
open Go Go.Proofs
set_option maxRecDepth 10000
set_option maxHeartbeats 1000000
open Go
theorem Tv.cs2 {m0 m : Mem} {F : Nat -> Prop} {r : AV} {p : Pg} (h : Tv m0 m F r p.av) : ∃ c0 c1, r = .agg [c0, c1] /\ okCell c0 = true /\ okCell c1 = true := by
 have ho : OwnT m F r (.agg p.cells) := h.own
 obtain ⟨cs, rfl, hT, hok⟩ := own_agg ho
 have hl := hT.len
 match cs, hl with
 | [c0, c1], _ =>
  simp only [List.all_cons, List.all_nil, Bool.and_true, Bool.and_eq_true] at hok
  exact ⟨c0, c1, rfl, hok.1, hok.2⟩
theorem c_DrawExpText (l : List Int) (hl : byOk l) {m : Mem} {K : AV -> Mem -> Prop} (hK : ∀ (x : Ex) m', x.tot <= 100 -> Ext m m' -> K (Ex.av x) m') : WCall Tryz.prog 7 [bys l] m K := by
 refine wcall_of Tryz.func7 (by kernel_rfl) rfl (by simp [Tryz.f7]) ?_
 (repeat refine qA ?_);refine rA ?_
 simp
 intro g2 hg2
 have hE2 := ext_set hg2 (.box [.int .i64 0, .int .i64 0, .str ByteArray.empty, .lst true 0 []])
 have w2 := set_same m g2 (.box [.int .i64 0, .int .i64 0, .str ByteArray.empty, .lst true 0 []])
 refine AWp.gen (fun st => st.slots 0 = bys l /\ st.slots 2 = .ptr g2 0 /\ st.mem = m.set g2 (.box [.int .i64 0, .int .i64 0, .str ByteArray.empty, .lst true 0 []])) ⟨by simp, by simp, by simp⟩ ?_
 generalize m.set g2 (.box [.int .i64 0, .int .i64 0, .str ByteArray.empty, .lst true 0 []]) = m2 at *
 rintro st ⟨s0, s2, sm⟩
 (repeat refine qA ?_);refine rA ?_
 simp [s0]
 refine wA ?_
 simp [sm]
 refine c_l1New l hl fun g m3 hgn hC hE3 => ?_
 have hne : g2 ≠ g := fun e => by
  subst e
  rw [w2] at hgn
  cases hgn
 have w2 := hE3 _ _ w2
 have hE := hE2.trans hE3
 try simp
 refine AWp.gen (fun st => st.slots 2 = .ptr g2 0 /\ st.slots 3 = .ptr g 0 /\ st.mem = m3) ⟨by simp [s2], by simp, by simp⟩ ?_
 clear s0 s2 sm hE3
 rintro st ⟨s2, s3, sm⟩
 (repeat refine qA ?_);refine rA ?_
 simp [s3]
 refine wA ?_
 try simp [sm]
 refine c_l3Any l hl _ _ hC _ fun x m4 hx hC4 hO => ?_
 have w2 := hO _ _ hne w2
 have hE4 : Ext m m4 := fun k b hk => hO _ _ (fun e => by
  subst e
  have := hE2 _ _ hk
  rw [hgn] at this
  cases this) (hE _ _ hk)
 have hcl : x.cells.length = 4 := by simp
 have hct : List.take 4 x.cells = x.cells := List.take_of_length_le (by omega)
 have t2 : storeA m4 (.ptr g2 0) (.agg x.cells) = some (m4.set g2 (.box x.cells)) := by simp [storeA, w2, AV.cells, hcl]
 simp [-store_ptr, Ex.av, s2, t2, hcl]
 refine ⟨okE x, ?_⟩
 refine AWp.ret ⟨[Ex.av x], Ex.av x, m4.set g2 (.box x.cells), ?_, View.refl _ _, hK x _ hx fun k b hk => ?_⟩
 ·simp [Tryz.f7, resA, s2, hct, Ex.av]
 rw [Mem.set_other (fun e => by rw [e, hg2] at hk; cases hk)]
 exact hE4 _ _ hk
theorem c_DrawProgText (l : List Int) (hl : byOk l) {m : Mem} {K : AV -> Mem -> Prop} (hK : ∀ (x : Pg) m', x.tot <= 2300 -> Ext m m' -> K (Pg.av x) m') : WCall Tryz.prog 9 [bys l] m K := by
 refine wcall_of Tryz.func9 (by kernel_rfl) rfl (by simp [Tryz.f9]) ?_
 (repeat refine qA ?_);refine rA ?_
 simp
 intro g2 hg2
 have hE2 := ext_set hg2 (.box [.lst true 0 [], .lst true 0 []])
 have w2 := set_same m g2 (.box [.lst true 0 [], .lst true 0 []])
 refine AWp.gen (fun st => st.slots 0 = bys l /\ st.slots 2 = .ptr g2 0 /\ st.mem = m.set g2 (.box [.lst true 0 [], .lst true 0 []])) ⟨by simp, by simp, by simp⟩ ?_
 generalize m.set g2 (.box [.lst true 0 [], .lst true 0 []]) = m2 at *
 rintro st ⟨s0, s2, sm⟩
 (repeat refine qA ?_);refine rA ?_
 simp [s0]
 refine wA ?_
 simp [sm]
 refine c_l1New l hl fun g m3 hgn hC hE3 => ?_
 have hne : g2 ≠ g := fun e => by
  subst e
  rw [w2] at hgn
  cases hgn
 have w2 := hE3 _ _ w2
 have hE := hE2.trans hE3
 try simp
 refine AWp.gen (fun st => st.slots 2 = .ptr g2 0 /\ st.slots 3 = .ptr g 0 /\ st.mem = m3) ⟨by simp [s2], by simp, by simp⟩ ?_
 clear s0 s2 sm hE3
 rintro st ⟨s2, s3, sm⟩
 (repeat refine qA ?_);refine rA ?_
 simp [s3]
 refine wA ?_
 try simp [sm]
 refine c_l4Prog l hl _ _ hC _ fun x m4 hx hC4 hO => ?_
 have w2 := hO _ _ hne w2
 have hE4 : Ext m m4 := fun k b hk => hO _ _ (fun e => by
  subst e
  have := hE2 _ _ hk
  rw [hgn] at this
  cases this) (hE _ _ hk)
 have hcl : x.cells.length = 2 := by rfl
 have hct : List.take 2 x.cells = x.cells := List.take_of_length_le (by omega)
 have t2 : storeA m4 (.ptr g2 0) (.agg x.cells) = some (m4.set g2 (.box x.cells)) := by simp [storeA, w2, AV.cells, hcl]
 simp [-store_ptr, Pg.av, s2, t2, hcl]
 refine ⟨by simp [Pg.cells], ?_⟩
 refine AWp.ret ⟨[Pg.av x], Pg.av x, m4.set g2 (.box x.cells), ?_, View.refl _ _, hK x _ hx fun k b hk => ?_⟩
 ·simp [Tryz.f9, resA, s2, hct, Pg.av]
 rw [Mem.set_other (fun e => by rw [e, hg2] at hk; cases hk)]
 exact hE4 _ _ hk
theorem txt_cat (a b : List UInt8) : txt a ++ txt b = txt (a ++ b) := bytes_cat a b
theorem txt_size (a : List UInt8) : (txt a).size = a.length := size_mk a
theorem aT (a b : List UInt8) (h : a.length + b.length <= 9223372036854775807) : binA .add (.str (txt a)) (.str (txt b)) = some (.str (txt (a ++ b))) := by
 rw [strCat, txt_size, txt_size, if_pos h, txt_cat]
theorem c_l6Level (e : Ex) : PCall Tryz.prog 146 [e.av] (.int .i64 (lev e.kind)) := by
 rcases e with ⟨k, n, s, l⟩
 refine pO Tryz.func146 (by kernel_rfl) rfl (by simp [Tryz.f146]) ?_
 (repeat refine qA ?_);refine rA ?_
 simp [Ex.av]
 intro g1
 refine AWp.gen (fun st => st.slots 1 = .ptr g1 0 /\ st.mem g1 = some (.box [.int .i64 k, .int .i64 n, .str s, .lst false 4 (l.map Ex.av)])) ⟨by simp, by simp [Ex.cells_mk]⟩ ?_
 rintro st ⟨s1, w1⟩
 (repeat refine qA ?_);refine rA ?_
 simp [s1, w1]
 (repeat refine qA ?_);refine bA ?_
 (repeat refine qA ?_);refine rA ?_
 simp
 by_cases k4 : k = 4
 ·(repeat refine qA ?_);refine AWp.condT (by simp [k4]) ?_
  refine kA ?_
  (repeat refine qA ?_);refine AWp.condT (by simp [k4]) ?_
  (repeat refine qA ?_);refine rA ?_
  simp
  exact AWp.ret (pR1 rfl (by simp [lev, k4, Ex.kind]))
 (repeat refine qA ?_);refine AWp.condF (by simp [k4]) ?_
 (repeat refine qA ?_);refine rA ?_
 simp
 by_cases k5 : k = 5
 ·(repeat refine qA ?_);refine AWp.condT (by simp [k5]) ?_
  (repeat refine qA ?_);refine rA ?_
  simp
  exact AWp.ret (pR1 rfl (by simp [lev, k5, Ex.kind]))
 (repeat refine qA ?_);refine AWp.condF (by simp [k5]) ?_
 (repeat refine qA ?_);refine rA ?_
 simp
 by_cases k6 : k = 6
 ·(repeat refine qA ?_);refine AWp.condT (by simp [k6]) ?_
  (repeat refine qA ?_);refine rA ?_
  simp
  exact AWp.ret (pR1 rfl (by simp [lev, k6, Ex.kind]))
 (repeat refine qA ?_);refine AWp.condF (by simp [k6]) ?_
 refine kA ?_
 try simp
 (repeat refine qA ?_);refine rA ?_
 simp
 exact AWp.ret (pR1 rfl (by simp [lev, k4, k5, k6, Ex.kind]))
theorem c_l6At (e : Ex) (v : Int) (hz : e.pr.length <= 1000000) (h : PCall Tryz.prog 37 [e.av] (.str (txt e.pr))) : PCall Tryz.prog 95 [e.av, .int .i64 v] (.str (txt (brkT (decide ((lev e.kind : Int) < v)) e.pr))) := by
 have hl := c_l6Level e
 have a1 := aT [40] e.pr (by simp; omega)
 have a2 := aT (40 :: e.pr) [41] (by simp; omega)
 have f1 : txt [40] = ⟨#[40]⟩ := rfl
 have f2 : txt [41] = ⟨#[41]⟩ := rfl
 rw [f1] at a1
 rw [f2] at a2
 simp only [List.cons_append, List.nil_append] at a1 a2
 refine pO Tryz.func95 (by kernel_rfl) rfl (by simp [Tryz.f95]) ?_
 (repeat refine qA ?_);refine rA ?_
 simp [Ex.av]
 intro g1
 refine AWp.gen (fun st => st.slots 1 = .int .i64 v /\ st.slots 2 = .ptr g1 0 /\ st.mem g1 = some (.box e.cells)) ⟨by simp, by simp, by simp⟩ ?_
 rintro st ⟨s1, s2, w1⟩
 have tk4 : List.take 4 e.cells = e.cells := List.take_of_length_le (by simp)
 (repeat refine qA ?_);refine raA ?_
 simp [s2, w1, tk4]
 refine oC' h ?_
 simp
 (repeat refine qA ?_);refine raA ?_
 simp [s1, s2, w1, tk4]
 refine oC' hl ?_
 simp [s1]
 by_cases hv : (lev e.kind : Int) < v
 ·(repeat refine qA ?_);refine AWp.condT (by simp [hv]) ?_
  (repeat refine qA ?_);refine rA ?_
  simp [a1, a2]
  exact AWp.ret (pR1 rfl (by simp [hv, brkT]))
 (repeat refine qA ?_);refine AWp.condF (by simp [hv]) ?_
 try refine kA ?_
 (repeat refine qA ?_);refine rA ?_
 simp
 exact AWp.ret (pR1 rfl (by simp [hv, brkT]))
theorem c_within (l : List UInt8) (b : Bool) (hz : l.length <= 1000000) : PCall Tryz.prog 89 [.str (txt l), .bool b] (.str (txt (brkT b l))) := by
 have a1 := aT [40] l (by simp; omega)
 have a2 := aT (40 :: l) [41] (by simp; omega)
 have f1 : txt [40] = ⟨#[40]⟩ := rfl
 have f2 : txt [41] = ⟨#[41]⟩ := rfl
 rw [f1] at a1
 rw [f2] at a2
 simp only [List.cons_append, List.nil_append] at a1 a2
 refine pO Tryz.func89 (by kernel_rfl) rfl (by simp [Tryz.f89]) ?_
 (repeat refine qA ?_);refine rA ?_
 simp
 (repeat refine qA ?_);refine rA ?_
 simp
 cases b with
 | true =>
  (repeat refine qA ?_);refine tA ?_
  (repeat refine qA ?_);refine rA ?_
  simp [a1, a2]
  exact AWp.ret (pR1 rfl (by simp [brkT]))
 | false =>
  (repeat refine qA ?_);refine fA ?_
  refine kA ?_
  (repeat refine qA ?_);refine rA ?_
  simp
  exact AWp.ret (pR1 rfl (by simp [brkT]))
theorem c_isSum (e : Ex) : PCall Tryz.prog 90 [e.av] (.bool (decide (lev e.kind < 2))) := by
 rcases e with ⟨k, n, s, l⟩
 refine pO Tryz.func90 (by kernel_rfl) rfl (by simp [Tryz.f90]) ?_
 (repeat refine qA ?_);refine rA ?_
 simp [Ex.av]
 intro g1
 refine AWp.gen (fun st => st.slots 1 = .ptr g1 0 /\ st.mem g1 = some (.box [.int .i64 k, .int .i64 n, .str s, .lst false 4 (l.map Ex.av)])) ⟨by simp, by simp [Ex.cells_mk]⟩ ?_
 rintro st ⟨s1, w1⟩
 by_cases k4 : k = 4
 ·(repeat refine qA ?_);refine rA ?_
  simp [s1, w1, k4]
  exact AWp.ret (pR1 rfl (by simp [lev, k4, Ex.kind]))
 by_cases k5 : k = 5
 ·(repeat refine qA ?_);refine rA ?_
  simp [s1, w1, k4, k5]
  exact AWp.ret (pR1 rfl (by simp [lev, k4, k5, Ex.kind]))
 (repeat refine qA ?_);refine rA ?_
 simp [s1, w1, k4, k5]
 refine AWp.ret (pR1 rfl ?_)
 by_cases k6 : k = 6
 ·simp [lev, k6, Ex.kind]
 simp [lev, k4, k5, k6, Ex.kind]
end Go.T
