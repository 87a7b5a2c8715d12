/- Arrays put in order by the library: all of it. The program's Parse. The reference's reader: statements. -/
import Derived.Test.YtdbnllfjmkmdiaaGreatDoorG17
import Derived.Test.YtdbnllfjmkmdiaaGreatDoorG10
import Derived.Test.YtdbnllfjmkmdiaaGreatDoorG16
import Derived.Test.YtdbnllfjmkmdiaaGreatDoorG14
import Derived.Test.YtdbnllfjmkmdiaaGreatDoorG6
set_option linter.unusedSimpArgs false
set_option linter.unusedVariables false
namespace Go.T
open Go Go.Proofs
set_option maxRecDepth 10000
set_option maxHeartbeats 1000000
open Go
theorem c_insertion_0 (v : AV) (hv : v ≠ .undef) {m : Mem} {K : AV → Mem → Prop} (hK : K (.tup []) m) : WCall Tryz.prog 155 [v, .int .i64 0, .int .i64 0, .func (.func 57) []] m K := by
 refine wcall_of Tryz.func155 (by kernel_rfl) rfl (by simp [Tryz.f155]) ?_
 (repeat refine sqA ?_); refine rgA (by kernel_rfl) ?_
 simp
 obtain ⟨M0, hM0⟩ : ∃ M0 : St → Prop, M0 = (fun st => st.mem = m) := ⟨_, rfl⟩
 (repeat refine sqA ?_); refine AWp.lastQ M0 ?_ ?_
 ·refine AWp.block (AWp.rounds (fun q st => q = 0 ∧ st.slots 2 = .int .i64 0 ∧ st.slots 8 = .int .i64 1 ∧ st.mem = m) 0 ⟨rfl, by simp, by simp [show IntKind.wrap .i64 1 = 1 from rfl], by simp⟩ ?_)
  rintro RR q st hRR ⟨rfl, s2, s8, sm⟩
  (repeat refine sqA ?_); refine rgA (by kernel_rfl) ?_
  simp [s2, s8]
  (repeat refine sqA ?_); refine AWp.condF (by simp) ?_
  refine AWp.exit ?_
  subst hM0
  simpa using sm
 ·intro st hst
  subst hM0
  exact ⟨[], .tup [], _, by simp [Tryz.f155, resA], by rw [hst]; exact View.refl _ _, hK⟩
theorem c_stable {m : Mem} {g c ln : Nat} {L : List Ar} (hm : m g = some (arB c L)) (hln : L.length = ln) (hl : L.length ≤ 600) {zn : Int} (ez : zn = ln) {K : AV → Mem → Prop} (hK : ∀ L' : List Ar, Sh L' L → (L.length < 20 → L' = sortA L) → K (.tup []) (m.set g (arB c L'))) :
  WCall Tryz.prog 116 [.own g ln c, .int .i64 zn, .func (.func 57) []] m K := by
 subst hln
 subst ez
 refine wcall_of Tryz.func116 (by kernel_rfl) rfl (by simp [Tryz.f116]) ?_
 (repeat refine sqA ?_); refine rgA (by kernel_rfl) ?_
 simp
 (repeat refine sqA ?_); refine rgA (by kernel_rfl) ?_
 simp
 obtain ⟨M, hM⟩ : ∃ M : St → Prop, M = (fun st => ∃ (a : Nat) (L' : List Ar), a ≤ L.length ∧ st.slots 0 = .own g L.length c ∧ st.slots 1 = .int .i64 L.length ∧ st.slots 2 = .func (.func 57) [] ∧ st.slots 6 = .int .i64 20 ∧ st.slots 7 = .int .i64 a ∧ Sh L' L ∧ st.mem = m.set g (arB c L') ∧ (L.length < 20 → a = 0 ∧ L' = L)) := ⟨_, rfl⟩
 (repeat refine sqA ?_); refine AWp.cutA M ?_ ?_
 ·refine AWp.block (AWp.rounds (fun q st => ∃ (a : Nat) (L' : List Ar), q = L.length + 20 - a ∧ a ≤ L.length ∧ st.slots 0 = .own g L.length c ∧ st.slots 1 = .int .i64 L.length ∧ st.slots 2 = .func (.func 57) [] ∧ st.slots 6 = .int .i64 20 ∧ st.slots 7 = .int .i64 a ∧ st.slots 8 = .int .i64 ((a : Int) + 20) ∧ Sh L' L ∧ st.mem = m.set g (arB c L') ∧ (L.length < 20 → a = 0 ∧ L' = L)) (L.length + 20) ⟨0, L, rfl, by omega, by simp, by simp, by simp, by simp, by simp, by simp, Sh.refl L, by simp [set_self hm], fun _ => ⟨rfl, rfl⟩⟩ ?_)
  rintro RR q st hRR ⟨a, L', rfl, ha, s0, s1, s2, s6, s7, s8, ⟨hL, hsh⟩, sm, hsm⟩
  have hma := set_same m g (arB c L')
  (repeat refine sqA ?_); refine rgA (by kernel_rfl) ?_
  simp [s1, s8]
  by_cases hlt : (a : Int) + 20 ≤ L.length
  ·(repeat refine sqA ?_); refine AWp.condT (by simp [hlt]) ?_
   refine AWp.skip ?_
   try simp
   (repeat refine sqA ?_); refine AWp.block ?_
   (repeat refine sqA ?_); refine rgA (by kernel_rfl) ?_
   simp [s0, s2, s7, s8]
   refine aop_wcall _ _ _ _ _ _ _ _ rfl (eval_func _ _) ?_
   simp [sm]
   refine c_insertion hma hL (by omega) a (a + 20) rfl (by omega) (by omega) (by omega) fun L2 hL2 _ => ?_
   try simp
   (repeat refine sqA ?_); refine rgA (by kernel_rfl) ?_
   simp [s8]
   have w : IntKind.wrap .i64 ((a : Int) + 20 + 20) = (a : Int) + 20 + 20 := wrap64 (by omega) (by omega)
   (repeat refine sqA ?_); refine rgA (by kernel_rfl) ?_
   simp [s8, s6, w]
   exact hRR _ (L.length + 20 - (a + 20)) (by omega) ⟨a + 20, L2, rfl, by omega, by simp [s0], by simp [s1], by simp [s2], by simp [s6], by simp, by simp, sh_trans hL2 ⟨hL, hsh⟩, by simp, fun e => by omega⟩
  ·(repeat refine sqA ?_); refine AWp.condF (by simp; omega) ?_
   refine AWp.exit ?_
   subst hM
   exact ⟨a, L', ha, by simp [s0], by simp [s1], by simp [s2], by simp [s6], by simp [s7], ⟨hL, hsh⟩, by simpa using sm, hsm⟩
 intro st hst
 subst hM
 obtain ⟨a, L1, ha, s0, s1, s2, s6, s7, ⟨hL1, hsh1⟩, sm, hsm⟩ := hst
 have hma := set_same m g (arB c L1)
 (repeat refine sqA ?_); refine rgA (by kernel_rfl) ?_
 simp [s0, s1, s2, s7]
 refine aop_wcall _ _ _ _ _ _ _ _ rfl (eval_func _ _) ?_
 simp [sm]
 refine c_insertion hma hL1 (by omega) a L.length rfl rfl ha (by omega) fun L2 hL2 hs2 => ?_
 try simp
 have hsm2 : L.length < 20 → L2 = sortA L := fun e => by
  obtain ⟨rfl, rfl⟩ := hsm e
  exact hs2 rfl rfl
 obtain ⟨hL2, hsh2⟩ := sh_trans hL2 ⟨hL1, hsh1⟩
 refine AWp.gen (fun st => st.slots 0 = .own g L.length c ∧ st.slots 1 = .int .i64 L.length ∧ st.slots 2 = .func (.func 57) [] ∧ st.slots 6 = .int .i64 20 ∧ st.mem = m.set g (arB c L2)) ⟨by simp [s0], by simp [s1], by simp [s2], by simp [s6], by simp⟩ ?_
 clear s0 s1 s2 s6 s7 sm hma hs2 hsm hL1 ha
 rintro st ⟨s0, s1, s2, s6, sm⟩
 obtain ⟨M0, hM0⟩ : ∃ M0 : St → Prop, M0 = (fun st => ∃ (L' : List Ar), Sh L' L ∧ st.mem = m.set g (arB c L') ∧ (L.length < 20 → L' = sortA L)) := ⟨_, rfl⟩
 (repeat refine sqA ?_); refine AWp.lastQ M0 ?_ ?_
 ·refine AWp.block (AWp.rounds (fun q st => ∃ (bs : Nat) (L' : List Ar), q = L.length - bs ∧ 20 ≤ bs ∧ bs ≤ 1200 ∧ st.slots 0 = .own g L.length c ∧ st.slots 1 = .int .i64 L.length ∧ st.slots 2 = .func (.func 57) [] ∧ st.slots 6 = .int .i64 bs ∧ Sh L' L ∧ st.mem = m.set g (arB c L') ∧ (L.length < 20 → L' = sortA L)) (L.length - 20) ⟨20, L2, rfl, by omega, by omega, by simp [s0], by simp [s1], by simp [s2], by simp [s6], ⟨hL2, hsh2⟩, by simp [sm], hsm2⟩ ?_)
  clear s0 s1 s2 s6 sm hL2 hsm2
  rintro RR q st hRR ⟨bs, L2, rfl, hb20, hbs, s0, s1, s2, s6, ⟨hL2, hsh2⟩, sm, hsm2⟩
  (repeat refine sqA ?_); refine rgA (by kernel_rfl) ?_
  simp [s1, s6]
  by_cases hlt : bs < L.length
  ·(repeat refine sqA ?_); refine AWp.condT (by simp [hlt]) ?_
   refine AWp.skip ?_
   try simp
   (repeat refine sqA ?_); refine AWp.block ?_
   have w2 : IntKind.wrap .i64 (2 * (bs : Int)) = 2 * (bs : Int) := wrap64 (by omega) (by omega)
   (repeat refine sqA ?_); refine rgA (by kernel_rfl) ?_
   simp [s6, w2]
   obtain ⟨M, hM⟩ : ∃ M : St → Prop, M = (fun st => ∃ (a : Nat) (L' : List Ar), a ≤ L.length ∧ st.slots 0 = .own g L.length c ∧ st.slots 1 = .int .i64 L.length ∧ st.slots 2 = .func (.func 57) [] ∧ st.slots 6 = .int .i64 bs ∧ st.slots 7 = .int .i64 a ∧ Sh L' L ∧ st.mem = m.set g (arB c L')) := ⟨_, rfl⟩
   (repeat refine sqA ?_); refine AWp.cutA M ?_ ?_
   ·refine AWp.block (AWp.rounds (fun q st => ∃ (a : Nat) (L' : List Ar), q = L.length + 1 - a ∧ a ≤ L.length ∧ st.slots 0 = .own g L.length c ∧ st.slots 1 = .int .i64 L.length ∧ st.slots 2 = .func (.func 57) [] ∧ st.slots 6 = .int .i64 bs ∧ st.slots 7 = .int .i64 a ∧ st.slots 8 = .int .i64 ((a : Int) + 2 * bs) ∧ Sh L' L ∧ st.mem = m.set g (arB c L')) (L.length + 1) ⟨0, L2, rfl, by omega, by simp [s0], by simp [s1], by simp [s2], by simp [s6], by simp, by simp, ⟨hL2, hsh2⟩, by simp [sm]⟩ ?_)
    clear s0 s1 s2 s6 sm hL2 hsm2
    rintro RR2 q st hRR2 ⟨a, L2, rfl, ha, s0, s1, s2, s6, s7, s8, ⟨hL2, hsh2⟩, sm⟩
    have hma := set_same m g (arB c L2)
    (repeat refine sqA ?_); refine rgA (by kernel_rfl) ?_
    simp [s1, s8]
    by_cases hle : (a : Int) + 2 * bs ≤ L.length
    ·(repeat refine sqA ?_); refine AWp.condT (by simp [hle]) ?_
     refine AWp.skip ?_
     try simp
     (repeat refine sqA ?_); refine AWp.block ?_
     have w3 : IntKind.wrap .i64 ((a : Int) + bs) = (a : Int) + bs := wrap64 (by omega) (by omega)
     have w4 : IntKind.wrap .i64 ((a : Int) + 2 * bs + 2 * bs) = (a : Int) + 2 * bs + 2 * bs := wrap64 (by omega) (by omega)
     (repeat refine sqA ?_); refine rgA (by kernel_rfl) ?_
     simp [s0, s2, s6, s7, s8, w3]
     refine aop_wcall _ _ _ _ _ _ _ _ rfl (eval_func _ _) ?_
     simp [sm]
     refine c_symMerge (2 * bs) _ _ _ _ _ hma hL2 (by omega) _ _ _ a (a + bs) (a + 2 * bs) rfl (by omega) (by omega) (by omega) (by omega) (by omega) (by omega) _ fun L3 hL3 => ?_
     try simp
     (repeat refine sqA ?_); refine rgA (by kernel_rfl) ?_
     simp [s8]
     (repeat refine sqA ?_); refine rgA (by kernel_rfl) ?_
     simp [s6, s8, w2, w4]
     exact hRR2 _ (L.length + 1 - (a + 2 * bs)) (by omega) ⟨a + 2 * bs, L3, rfl, by omega, by simp [s0], by simp [s1], by simp [s2], by simp [s6], by simp, by simp, sh_trans hL3 ⟨hL2, hsh2⟩, by simp⟩
    ·(repeat refine sqA ?_); refine AWp.condF (by simp; omega) ?_
     refine AWp.exit ?_
     subst hM
     exact ⟨a, L2, ha, by simp [s0], by simp [s1], by simp [s2], by simp [s6], by simp [s7], ⟨hL2, hsh2⟩, by simpa using sm⟩
   clear s0 s1 s2 s6 sm hL2 hsm2
   intro st hst
   subst hM
   obtain ⟨a, L2, ha, s0, s1, s2, s6, s7, ⟨hL2, hsh2⟩, sm⟩ := hst
   have hma := set_same m g (arB c L2)
   have w3 : IntKind.wrap .i64 ((a : Int) + bs) = (a : Int) + bs := wrap64 (by omega) (by omega)
   (repeat refine sqA ?_); refine rgA (by kernel_rfl) ?_
   simp [s6, s7, w3]
   (repeat refine sqA ?_); refine rgA (by kernel_rfl) ?_
   simp [s1]
   obtain ⟨M, hM⟩ : ∃ M : St → Prop, M = (fun st => ∃ (L' : List Ar), st.slots 0 = .own g L.length c ∧ st.slots 1 = .int .i64 L.length ∧ st.slots 2 = .func (.func 57) [] ∧ st.slots 6 = .int .i64 bs ∧ Sh L' L ∧ st.mem = m.set g (arB c L')) := ⟨_, rfl⟩
   (repeat refine sqA ?_); refine AWp.cutA M ?_ ?_
   ·by_cases hc : (a : Int) + bs < L.length
    ·refine AWp.condT (by simp [hc]) ?_
     (repeat refine sqA ?_); refine rgA (by kernel_rfl) ?_
     simp [s0, s1, s2, s7]
     refine aop_wcall _ _ _ _ _ _ _ _ rfl (eval_func _ _) ?_
     simp [sm]
     refine c_symMerge L.length _ _ _ _ _ hma hL2 (by omega) _ _ _ a (a + bs) L.length rfl (by omega) rfl (by omega) (by omega) (by omega) (by omega) _ fun L3 hL3 => ?_
     try simp
     subst hM
     exact ⟨L3, by simp [s0], by simp [s1], by simp [s2], by simp [s6], sh_trans hL3 ⟨hL2, hsh2⟩, by simp⟩
    ·refine AWp.condF (by simp; omega) ?_
     refine AWp.skip ?_
     subst hM
     exact ⟨L2, by simp [s0], by simp [s1], by simp [s2], by simp [s6], ⟨hL2, hsh2⟩, by simp [sm]⟩
   clear s0 s1 s2 s6 s7 sm hL2 hma
   intro st hst
   subst hM
   obtain ⟨L2, s0, s1, s2, s6, ⟨hL2, hsh2⟩, sm⟩ := hst
   have w5 : IntKind.wrap .i64 ((bs : Int) * 2) = (bs : Int) * 2 := wrap64 (by omega) (by omega)
   (repeat refine sqA ?_); refine rgA (by kernel_rfl) ?_
   simp [s6, w5]
   exact hRR _ (L.length - bs * 2) (by omega) ⟨bs * 2, L2, rfl, by omega, by omega, by simp [s0], by simp [s1], by simp [s2], by simp, ⟨hL2, hsh2⟩, by simp [sm], fun e => by omega⟩
  ·(repeat refine sqA ?_); refine AWp.condF (by simp; omega) ?_
   refine AWp.exit ?_
   subst hM0
   exact ⟨L2, ⟨hL2, hsh2⟩, by simpa using sm, hsm2⟩
 ·intro st hst
  subst hM0
  obtain ⟨L', hL, sm, hs⟩ := hst
  exact ⟨[], .tup [], _, by simp [Tryz.f116, resA], by rw [sm]; exact View.refl _ _, hK L' hL hs⟩
theorem c_stable_0 (v : AV) (hv : v ≠ .undef) {m : Mem} {K : AV → Mem → Prop} (hK : K (.tup []) m) : WCall Tryz.prog 116 [v, .int .i64 0, .func (.func 57) []] m K := by
 refine wcall_of Tryz.func116 (by kernel_rfl) rfl (by simp [Tryz.f116]) ?_
 (repeat refine sqA ?_); refine rgA (by kernel_rfl) ?_
 simp
 (repeat refine sqA ?_); refine rgA (by kernel_rfl) ?_
 simp
 obtain ⟨M, hM⟩ : ∃ M : St → Prop, M = (fun st => st.slots 0 = v ∧ st.slots 1 = .int .i64 0 ∧ st.slots 2 = .func (.func 57) [] ∧ st.slots 6 = .int .i64 20 ∧ st.slots 7 = .int .i64 0 ∧ st.mem = m) := ⟨_, rfl⟩
 (repeat refine sqA ?_); refine AWp.cutA M ?_ ?_
 ·refine AWp.block (AWp.rounds (fun q st => q = 0 ∧ st.slots 0 = v ∧ st.slots 1 = .int .i64 0 ∧ st.slots 2 = .func (.func 57) [] ∧ st.slots 6 = .int .i64 20 ∧ st.slots 7 = .int .i64 0 ∧ st.slots 8 = .int .i64 20 ∧ st.mem = m) 0 ⟨rfl, by simp, by simp, by simp, by simp, by simp, by simp, by simp⟩ ?_)
  rintro RR q st hRR ⟨rfl, s0, s1, s2, s6, s7, s8, sm⟩
  (repeat refine sqA ?_); refine rgA (by kernel_rfl) ?_
  simp [s1, s8]
  (repeat refine sqA ?_); refine AWp.condF (by simp) ?_
  refine AWp.exit ?_
  subst hM
  exact ⟨by simp [s0], by simp [s1], by simp [s2], by simp [s6], by simp [s7], by simpa using sm⟩
 intro st hst
 subst hM
 obtain ⟨s0, s1, s2, s6, s7, sm⟩ := hst
 (repeat refine sqA ?_); refine rgA (by kernel_rfl) ?_
 simp [s0, s1, s2, s7]
 refine aop_wcall _ _ _ _ _ _ _ _ rfl (eval_func _ _) ?_
 simp [sm]
 refine c_insertion_0 v hv ?_
 try simp
 obtain ⟨M0, hM0⟩ : ∃ M0 : St → Prop, M0 = (fun st => st.mem = m) := ⟨_, rfl⟩
 (repeat refine sqA ?_); refine AWp.lastQ M0 ?_ ?_
 ·refine AWp.block (AWp.rounds (fun q st => q = 0 ∧ st.slots 1 = .int .i64 0 ∧ st.slots 6 = .int .i64 20 ∧ st.mem = m) 0 ⟨rfl, by simp [s1], by simp [s6], by simp⟩ ?_)
  rintro RR q st hRR ⟨rfl, s1, s6, sm⟩
  (repeat refine sqA ?_); refine rgA (by kernel_rfl) ?_
  simp [s1, s6]
  (repeat refine sqA ?_); refine AWp.condF (by simp) ?_
  refine AWp.exit ?_
  subst hM0
  simpa using sm
 ·intro st hst
  subst hM0
  exact ⟨[], .tup [], _, by simp [Tryz.f116, resA], by rw [hst]; exact View.refl _ _, hK⟩
theorem c_sortStable {m : Mem} {g c : Nat} {L : List Ar} (hm : m g = some (arB c L)) (hl : L.length ≤ 600) {K : AV → Mem → Prop} (hK : ∀ L' : List Ar, Sh L' L → (L.length < 20 → L' = sortA L) → K (.tup []) (m.set g (arB c L'))) :
  WCall Tryz.prog 56 [.own g L.length c, .func (.func 57) []] m K := by
 refine wcall_of Tryz.func56 (by kernel_rfl) rfl (by simp [Tryz.f56]) ?_
 (repeat refine sqA ?_); refine rgA (by kernel_rfl) ?_
 simp
 refine aop_wcall _ _ _ _ _ _ _ _ rfl (eval_func _ _) ?_
 simp
 refine c_stable hm rfl hl rfl fun L' h1 h2 => ?_
 try simp
 exact ⟨[], .tup [], _, by simp [Tryz.f56, resA], by simp; exact View.refl _ _, hK L' h1 h2⟩
theorem c_sortStable_0 {m : Mem} {K : AV → Mem → Prop} (hK : K (.tup []) m) : WCall Tryz.prog 56 [.lst true 0 [], .func (.func 57) []] m K := by
 refine wcall_of Tryz.func56 (by kernel_rfl) rfl (by simp [Tryz.f56]) ?_
 (repeat refine sqA ?_); refine rgA (by kernel_rfl) ?_
 simp
 refine aop_wcall _ _ _ _ _ _ _ _ rfl (eval_func _ _) ?_
 simp
 refine c_stable_0 _ (by simp) ?_
 try simp
 exact ⟨[], .tup [], _, by simp [Tryz.f56, resA], by simp; exact View.refl _ _, hK⟩
end Go.T
namespace Go.T
open Go Go.Proofs
set_option maxRecDepth 10000
set_option maxHeartbeats 1000000
open Go
theorem parse_out2 {sub : PA Sm} {s : ByteArray} {T : List Tk} {us : List Ar} {bs : List Sm} {a1 a2 : Nat} {b1 b2 : Bool} (hT : T = (lex s).getD []) (rA : Run1 (arrsL []) T 0 (!(lex s).isSome) us a1 b1) (rB : Run1 (restL sub []) T a1 b1 bs a2 b2) :
  (b2 = true → parseW sub s = none) ∧ (b2 = false → (parseW sub s = if (Pg.mk (sortA us) bs).ok = true then some (Pg.mk (sortA us) bs) else none) ∧ ∃ r1 r2, arrsL [] T = some (us, r1) ∧ restL sub [] r1 = some (bs, r2)) := by
 cases hl : lex s with
 | none =>
  rw [hl] at rA
  have hb1 := rA.ill (.inl rfl)
  have hb2 := rB.ill (.inl hb1)
  refine ⟨fun _ => by unfold parseW; rw [hl], fun e => ?_⟩
  rw [hb2] at e; cases e
 | some ts =>
  rw [hl] at rA hT
  simp only [Option.getD_some] at hT
  subst hT
  simp only [Option.isSome_some, Bool.not_true] at rA
  have e0 : T.drop 0 = T := List.drop_zero
  refine ⟨fun e => ?_, fun e => ?_⟩
  ·subst e
   unfold parseW
   rw [hl]
   simp only
   cases hA : arrsL [] T with
   | none => simp only [bindP, hA, Option.bind_none]
   | some p =>
    obtain ⟨us', r1⟩ := p
    obtain ⟨rfl, hb1, hd⟩ := rA.good us' r1 rfl (by rw [e0]; exact hA)
    cases hB : restL sub [] r1 with
    | none => simp only [bindP, hA, hB, Option.bind_some, Option.bind_none]
    | some q =>
     obtain ⟨bs', r2⟩ := q
     obtain ⟨_, hb2, _⟩ := rB.good bs' r2 hb1 (by rw [hd]; exact hB)
     cases hb2
  ·subst e
   obtain ⟨hb1, r2, hB, _⟩ := rB.not_bad
   subst hb1
   obtain ⟨_, r1, hA, hd⟩ := rA.not_bad
   rw [e0] at hA
   rw [hd] at hB
   refine ⟨?_, r1, r2, hA, hB⟩
   unfold parseW
   rw [hl]
   simp only [bindP, hA, hB, Option.bind_some, pureP]
theorem parse_small {sub : PA Sm} (hs : FitN 1 Sm.w sub) {T r1 r2 : List Tk} {us : List Ar} {bs : List Sm} (hT : ∀ t ∈ T, t.fine) (h6 : T.length ≤ 600) (hA : arrsL [] T = some (us, r1)) (hB : restL sub [] r1 = some (bs, r2)) : totL Ar.tot us ≤ 4800 ∧ totL Sm.tot bs ≤ 4800 ∧ us.length ≤ 4800 := by
 have h1 := (arrs_fit _ _ _ _ _ hA).2
 have h2 := (rest_fit hs _ _ _ _ _ hB).2
 have h3 := W_le T hT
 simp only [totL] at h1 h2
 have := totL_len Ar.tot us
 refine ⟨by omega, by omega, by omega⟩
theorem tot_arrs_le {B : Nat} : ∀ {vs : List Ar}, (∀ x ∈ vs, x.tot ≤ B) → totL Ar.tot vs ≤ vs.length * (B + 1)
 | [], _ => by simp [totL]
 | x :: vs, h => by
  have h1 := h x (by simp)
  have h2 := tot_arrs_le (vs := vs) fun y hy => h y (by simp [hy])
  simp only [totL, List.length_cons, Nat.add_mul, Nat.one_mul]
  simp only [Nat.mul_add, Nat.mul_one] at h2 ⊢
  omega
theorem arrs_names : ∀ (k : Nat) (l : List Ar) (ts : List Tk) (b : List Ar) (r : List Tk), (∀ t ∈ ts, t.fine) → (∀ x ∈ l, x.tot ≤ 6) → arrsP k l ts = some (b, r) → ∀ x ∈ b, x.tot ≤ 6
 | 0, l, ts, b, r, _, hl, h => by cases h; exact hl
 | k + 1, l, ts, b, r, hT, hl, h => by
  simp only [arrsP] at h
  split at h
  ·cases h; exact hl
  ·rename_i r1 h1
   obtain ⟨⟨x, r2⟩, h2, h3⟩ := Option.bind_eq_some_iff.1 h
   obtain ⟨a1, a2, a3⟩ := fit_behind arrP_fit h1 h2
   obtain ⟨t, rfl, _⟩ := tkS_some h1
   refine arrs_names k _ _ _ _ (fun t ht => hT t (a1.subset ht)) (fun y hy => ?_) h3
   rcases List.mem_append.1 hy with hy | hy
   ·exact hl y hy
   ·rw [List.mem_singleton] at hy
    subst hy
    unfold arrP at h2
    obtain ⟨nm, q1, e1, e2⟩ := bindP_some.1 h2
    obtain ⟨num, q2, e3, e4⟩ := bindP_some.1 e2
    obtain ⟨u, q3, e5, e6⟩ := bindP_some.1 e4
    have hx : y = Ar.mk nm num := by cases e6; rfl
    subst hx
    cases r1 with
    | nil => cases e1
    | cons t' l' =>
     simp only [nmP] at e1
     split at e1
     ·cases e1
      exact (hT t' (by simp)).len
     ·cases e1
theorem arrs_name {T r1 : List Tk} {us : List Ar} (hT : ∀ t ∈ T, t.fine) (hA : arrsL [] T = some (us, r1)) : ∀ x ∈ us, x.tot ≤ 6 := arrs_names _ _ _ _ _ hT (by simp) hA
theorem ar_own {m : Mem} (a : Ar) : OwnT m (fun _ => False) (.agg [.str a.s, .int .i64 a.n]) a.av := .agg (OwnTs.c0 (.str _) (OwnTs.c0 (.int _ _) .nil)) rfl
theorem ar_same {m : Mem} {F : Nat → Prop} {r : AV} {a : Ar} (h : OwnT m F r a.av) : r = a.av := by
 cases h with
 | agg h _ =>
  cases h with | cons h1 h2 _ _ _ =>
  cases h2 with | cons h2 h3 _ _ _ =>
  cases h1
  cases h2
  cases h3
  rfl
theorem ars_same {m : Mem} {F : Nat → Prop} : ∀ {L : List Ar} {ys : List AV}, OwnTs m F ys (L.map Ar.av) → ys = L.map Ar.av
 | [], ys, h => by cases h; rfl
 | a :: L, ys, h => by
  cases h with | cons h1 h2 _ _ _ =>
  rw [ar_same h1, ars_same h2]
  rfl
theorem ars_own {m : Mem} : ∀ L : List Ar, OwnTs m (fun _ => False) (L.map Ar.av) (L.map Ar.av)
 | [] => .nil
 | a :: L => OwnTs.c0 (ar_own a) (ars_own L)
theorem QH.write {m1 m : Mem} {gr : Nat} {T : List Tk} {a : Nat} {d : Int} {bad : Bool} {bs : List (Nat × List AV)} {ts : List ((Nat → Prop) × AV × AV)} {F : Nat → Prop} {v x x' : AV} (h : QH m1 gr T a d bad bs ((F, v, x) :: ts) m) (h1 : m1 gr ≠ none) {g : Nat} {b : Blk} (hF : F g) (hO : OwnT (m.set g b) F v x') : QH m1 gr T a d bad bs ((F, v, x') :: ts) (m.set g b) := by
 have hT := h.tr (F, v, x) (by simp)
 have d1 := List.pairwise_cons.1 h.td
 have hm1 := (hT.1.new g hF).1
 have hne : g ≠ gr := by rintro rfl; exact h1 hm1
 refine ⟨h.ps.off hne _, fun k y hk hy => ?_, fun q hq => ?_, h.bd, fun t ht => ?_, List.pairwise_cons.2 ⟨fun t ht => d1.1 t ht, d1.2⟩⟩
 ·have hkg : k ≠ g := by rintro rfl; rw [hm1] at hy; cases hy
  rw [Mem.set_other hkg]
  exact h.off k y hk hy
 ·have hqg : q.1 ≠ g := fun e => hT.2 q hq (by rw [e]; exact hF)
  rw [Mem.set_other hqg]
  exact h.bx q hq
 ·rcases List.mem_cons.1 ht with rfl | ht
  ·refine ⟨⟨hO, fun k hk => ⟨(hT.1.new k hk).1, ?_⟩⟩, hT.2⟩
   by_cases e : k = g
   ·subst e; rw [set_same]; simp
   ·rw [Mem.set_other e]; exact (hT.1.new k hk).2
  ·have := h.tr t (by simp [ht])
   exact ⟨this.1.set (fun hq => d1.1 t ht g hF hq) _, this.2⟩
theorem pg_own {m : Mem} {FA FB : Nat → Prop} {va vb : AV} {L : List Ar} {bs : List Sm} (hA : OwnT m FA va (.lst false 2 (L.map Ar.av))) (hB : OwnT m FB vb (.lst false 19 (bs.map Sm.av))) (hd : ∀ g, FA g → ¬ FB g) : OwnT m (fun g => FA g ∨ FB g) (.agg [va, vb]) (Pg.mk L bs).av :=
 .agg (.cons (A := FA) (B := FB) hA (.cons (A := FB) (B := fun _ => False) hB .nil (fun _ _ h => h) (fun _ h => h) fun _ h => h.elim) hd (fun _ h => .inl h) fun _ h => .inr h) (by simp [hA.okc.1, hB.okc.1])
theorem c_impl_Parse (s : ByteArray) (hz : s.size ≤ 9223372036854775807) {Tb : TypeId} {m : Mem} (hm : m TB = some (tabBlk Tb)) {K : AV → Mem → Prop}
  (hK : ∀ m' F r, Ext m m' → Tv m m' F r ((parse s).getD (Pg.mk [] [])).av → K (.tup [r, .bool (parse s).isSome]) m') : WCall Tryz.prog 18 [.str s] m K := by
 have eE : ByteArray.empty = (⟨#[]⟩ : ByteArray) := rfl
 obtain ⟨T, hTd⟩ : ∃ T, T = (lex s).getD [] := ⟨_, rfl⟩
 have hT : (∀ t ∈ T, t.fine) ∧ T.length ≤ 600 := by
  cases hl : lex s with
  | none => rw [hTd, hl]; simp
  | some T' =>
   rw [hTd, hl]
   exact lex_fine hl
 obtain ⟨hT, h6⟩ := hT
 refine wcall_of Tryz.func18 (by kernel_rfl) rfl (by simp [Tryz.f18]) ?_
 (repeat refine sqA ?_); refine rgA (by kernel_rfl) ?_
 simp
 intro g2 hg2
 have hE2 := ext_set hg2 (.box [.lst true 0 [], .lst true 0 []])
 have w2 := set_same m g2 (.box [.lst true 0 [], .lst true 0 []])
 refine AWp.gen (fun st => st.slots 0 = .str s ∧ st.slots 2 = .ptr g2 0 ∧ st.slots 3 = .bool false ∧ st.mem = m.set g2 (.box [.lst true 0 [], .lst true 0 []])) ⟨by simp, by simp, by simp, by simp⟩ ?_
 generalize m.set g2 (.box [.lst true 0 [], .lst true 0 []]) = m1 at *
 rintro st ⟨s0, s2, s3, sm⟩
 (repeat refine sqA ?_); refine rgA (by kernel_rfl) ?_
 simp [s0]
 refine aop_wcall _ _ _ _ _ _ _ _ rfl (eval_func _ _) ?_
 simp [sm]
 refine c_impl_Lex s hz (hE2 _ _ hm) ?_
 rw [← hTd]
 try simp
 refine AWp.gen (fun st => st.slots 2 = .ptr g2 0 ∧ st.slots 3 = .bool false ∧ st.slots 4 = .lst false 3 (T.map Tk.av) ∧ st.slots 5 = .bool (lex s).isSome ∧ st.mem = m1) ⟨by simp [s2], by simp [s3], by simp, by simp, by simp⟩ ?_
 clear s0 s2 s3 sm
 rintro st ⟨s2, s3, s4, s5, sm⟩
 (repeat refine sqA ?_); refine rgA (by kernel_rfl) ?_
 simp [s4, s5, sm]
 intro g6 hg6
 have n26 : g2 ≠ g6 := by rintro rfl; rw [w2] at hg6; cases hg6
 have hE6 := ext_set hg6 (.box (pc T 0 0 (!(lex s).isSome)))
 have w2 := hE6 _ _ w2
 have hE := hE2.trans hE6
 have hm6 : m g6 = none := by
  cases hq : m g6 with
  | none => rfl
  | some b => rw [hE2 _ _ hq] at hg6; cases hg6
 have hP : PS g6 T 0 0 (!(lex s).isSome) (m1.set g6 (.box (pc T 0 0 (!(lex s).isSome)))) := ⟨set_same _ _ _, by simp, h6⟩
 refine AWp.gen (fun st => st.slots 2 = .ptr g2 0 ∧ st.slots 3 = .bool false ∧ st.slots 4 = .lst false 3 (T.map Tk.av) ∧ st.slots 6 = .ptr g6 0 ∧ st.mem = m1.set g6 (.box (pc T 0 0 (!(lex s).isSome)))) ⟨by simp [s2], by simp [s3], by simp [s4], by simp, by simp [pc]⟩ ?_
 generalize m1.set g6 (.box (pc T 0 0 (!(lex s).isSome))) = m2 at *
 clear s2 s3 s4 s5 sm hg6 hE2 hE6
 rintro st ⟨s2, s3, s4, s6, sm⟩
 have hgr := hP.at
 (repeat refine sqA ?_); refine rgA (by kernel_rfl) ?_
 simp [sm]
 intro g7 hg7
 have n27 : g2 ≠ g7 := by rintro rfl; rw [w2] at hg7; cases hg7
 have h := ((QH.start hP).box hgr hg7 [.lst true 0 [], .lst true 0 []]).plain (r := .lst true 0 []) (x := .lst false 2 (([] : List Ar).map Ar.av)) (.nil _ _ _)
 refine AWp.gen (fun st => st.slots 2 = .ptr g2 0 ∧ st.slots 3 = .bool false ∧ st.slots 4 = .lst false 3 (T.map Tk.av) ∧ st.slots 6 = .ptr g6 0 ∧ st.slots 7 = .ptr g7 0 ∧ st.mem = m2.set g7 (.box [.lst true 0 [], .lst true 0 []])) ⟨by simp [s2], by simp [s3], by simp [s4], by simp [s6], by simp, by simp⟩ ?_
 generalize m2.set g7 (.box [.lst true 0 [], .lst true 0 []]) = m3 at *
 clear s2 s3 s4 s6 sm hg7
 rintro st ⟨s2, s3, s4, s6, s7, sm⟩
 obtain ⟨bad0, hbad0⟩ : ∃ b, b = !(lex s).isSome := ⟨_, rfl⟩
 rw [← hbad0] at h hP
 -- the arrays
 obtain ⟨M, hM⟩ : ∃ M : St → Prop, M = (fun st => ∃ FA va us a1 b1, st.slots 2 = .ptr g2 0 ∧ st.slots 3 = .bool false ∧ st.slots 4 = .lst false 3 (T.map Tk.av) ∧ st.slots 6 = .ptr g6 0 ∧ st.slots 7 = .ptr g7 0 ∧ QH m2 g6 T a1 0 b1 [(g7, [va, .lst true 0 []])] [(FA, va, .lst false 2 (us.map Ar.av))] st.mem ∧ RowV 57 2 FA va (us.map Ar.av).length st.mem ∧ Run1 (arrsL []) T 0 bad0 us a1 b1 ∧ us.length ≤ 600) := ⟨_, rfl⟩
 (repeat refine sqA ?_); refine AWp.cutA M ?_ ?_
 ·refine AWp.block (AWp.rounds (fun q st => ∃ FA va us a1 b1, q = (if b1 = true then 0 else T.length - a1 + 1) ∧ st.slots 2 = .ptr g2 0 ∧ st.slots 3 = .bool false ∧ st.slots 4 = .lst false 3 (T.map Tk.av) ∧ st.slots 6 = .ptr g6 0 ∧ st.slots 7 = .ptr g7 0 ∧ QH m2 g6 T a1 0 b1 [(g7, [va, .lst true 0 []])] [(FA, va, .lst false 2 (us.map Ar.av))] st.mem ∧ RowV 57 2 FA va (us.map Ar.av).length st.mem ∧ (us.length ≤ 600 ∧ (b1 = false → us.length ≤ a1)) ∧ ∀ y a2 b2, Run1 (arrsL us) T a1 b1 y a2 b2 → Run1 (arrsL []) T 0 bad0 y a2 b2) (if bad0 = true then 0 else T.length - 0 + 1) ⟨_, .lst true 0 [], [], 0, bad0, rfl, s2, s3, s4, s6, s7, by rw [sm]; exact h, .inl ⟨rfl, rfl⟩, by simp, fun _ _ _ h => h⟩ ?_)
  clear s2 s3 s4 s6 s7 sm h
  rintro RR q st hRR ⟨FA, va, us, a1, b1, rfl, s2, s3, s4, s6, s7, h, hv, ⟨hlen6, hlen⟩, hall⟩
  (repeat refine sqA ?_); refine rgA (by kernel_rfl) ?_
  simp [s6]
  refine aop_wcall _ _ _ _ _ _ _ _ rfl (eval_func _ _) ?_
  try simp [s6]
  refine c_skip h.ps arrayB fun n1 hPn hOn => ?_
  try simp
  have hv := hv.keep (h.same hgr (List.mem_cons_self ..) hOn)
  have h := h.call hgr hOn hPn
  clear hPn hOn
  cases hi : isT (hdT T a1 b1) arrayB with
  | false =>
   have hno := isT_word_no hT (by decide) hi
   rw [hi] at h
   simp at h
   (repeat refine sqA ?_); refine AWp.condF (by simp) ?_
   refine AWp.exit ?_
   subst hM
   exact ⟨FA, va, us, a1, b1, by simp [s2], by simp [s3], by simp [s4], by simp [s6], by simp [s7], by simpa using h, by simpa using hv, hall _ _ _ (arrsL_exit us hno), hlen6⟩
  | true =>
   obtain ⟨rfl, hlt, hmk⟩ := isT_word hT (by decide) hi
   rw [hi] at h
   simp at h
   (repeat refine sqA ?_); refine AWp.condT (by simp) ?_
   refine AWp.skip ?_
   try simp
   (repeat refine sqA ?_); refine AWp.block ?_
   refine AWp.gen (fun st => st.slots 2 = .ptr g2 0 ∧ st.slots 3 = .bool false ∧ st.slots 4 = .lst false 3 (T.map Tk.av) ∧ st.slots 6 = .ptr g6 0 ∧ st.slots 7 = .ptr g7 0 ∧ st.mem = n1) ⟨by simp [s2], by simp [s3], by simp [s4], by simp [s6], by simp [s7], by simp⟩ ?_
   clear s2 s3 s4 s6 s7
   rintro st ⟨s2, s3, s4, s6, s7, sm⟩
   (repeat refine sqA ?_); refine rgA (by kernel_rfl) ?_
   simp [s6]
   refine aop_wcall _ _ _ _ _ _ _ _ rfl (eval_func _ _) ?_
   simp [sm, s6]
   refine c_kindName h.ps fun n2 nm kk nn a2 b2 hPn hOn run1 => ?_
   have hv := hv.keep (h.same hgr (List.mem_cons_self ..) hOn)
   have h := h.call hgr hOn hPn
   clear hPn hOn
   simp
   intro g8 hg8
   have hv := hv.keep (h.sameNew (List.mem_cons_self ..) hg8 (.box [.str nm, .int .i64 0]))
   have h := h.box hgr hg8 [.str nm, .int .i64 0]
   refine AWp.gen (fun st => st.slots 2 = .ptr g2 0 ∧ st.slots 3 = .bool false ∧ st.slots 4 = .lst false 3 (T.map Tk.av) ∧ st.slots 6 = .ptr g6 0 ∧ st.slots 7 = .ptr g7 0 ∧ st.slots 8 = .ptr g8 0 ∧ st.mem = n2.set g8 (.box [.str nm, .int .i64 0])) ⟨by simp [s2], by simp [s3], by simp [s4], by simp [s6], by simp [s7], by simp, by simp⟩ ?_
   generalize n2.set g8 (.box [.str nm, .int .i64 0]) = n3 at *
   clear s2 s3 s4 s6 s7 sm hg8
   rintro st ⟨s2, s3, s4, s6, s7, s8, sm⟩
   (repeat refine sqA ?_); refine rgA (by kernel_rfl) ?_
   simp [s6]
   refine aop_wcall _ _ _ _ _ _ _ _ rfl (eval_func _ _) ?_
   simp [sm, s6]
   refine c_kindNum h.ps fun n4 ss kk2 num a3 b3 hPn hOn run2 => ?_
   have hv := hv.keep (h.same hgr (List.mem_cons_self ..) hOn)
   have h := h.call hgr hOn hPn
   clear hPn hOn
   have w8 := h.box1 (g := g8) (cs := [.str nm, .int .i64 0]) (by simp)
   simp [s8, w8]
   have hv := hv.keep (h.samePut (List.mem_cons_self ..) (g := g8) (cs := [.str nm, .int .i64 0]) (by simp) (.box [.str nm, .int .i64 num]))
   have h := QH.put (l1 := []) (cs' := [.str nm, .int .i64 num]) h
   refine AWp.gen (fun st => st.slots 2 = .ptr g2 0 ∧ st.slots 3 = .bool false ∧ st.slots 4 = .lst false 3 (T.map Tk.av) ∧ st.slots 6 = .ptr g6 0 ∧ st.slots 7 = .ptr g7 0 ∧ st.slots 8 = .ptr g8 0 ∧ st.mem = n4.set g8 (.box [.str nm, .int .i64 num])) ⟨by simp [s2], by simp [s3], by simp [s4], by simp [s6], by simp [s7], by simp [s8], by simp⟩ ?_
   generalize n4.set g8 (.box [.str nm, .int .i64 num]) = n5 at *
   clear s2 s3 s4 s6 s7 s8 sm w8
   rintro st ⟨s2, s3, s4, s6, s7, s8, sm⟩
   (repeat refine sqA ?_); refine rgA (by kernel_rfl) ?_
   simp [s6]
   refine aop_wcall _ _ _ _ _ _ _ _ rfl (eval_func _ _) ?_
   simp [sm, s6]
   refine c_takeR h.ps hT 59 fun n6 a4 b4 hPn hOn run3 => ?_
   have hv := hv.keep (h.same hgr (List.mem_cons_self ..) hOn)
   have h := h.call hgr hOn hPn
   clear hPn hOn
   try simp
   have runA : Run1 arrP T (a1 + 1) false (Ar.mk nm num) a4 b4 := run1.then_ (run2.then_ (run3.then_ (Run1.done _ T a4 b4)))
   have w7 := h.box1 (g := g7) (cs := [va, .lst true 0 []]) (by simp)
   have w8 := h.box1 (g := g8) (cs := [.str nm, .int .i64 num]) (by simp)
   obtain ⟨v1, v2, v3⟩ := hv.ok
   (repeat refine sqA ?_); refine rgA (by kernel_rfl) ?_
   simp [s7, s8, w7, w8, v2, v3, literalA]
   have hlm : (us.map Ar.av).length = us.length := by simp
   have hle := h.ps.le
   refine (h.plain (ar_own (Ar.mk nm num))).app et_29 hgr hv (by simp [srcA]) (by rw [hlm]; omega) fun FA' va' n7 h hv _ => ?_
   obtain ⟨v1', v2', v3'⟩ := hv.ok
   have w7 := h.box1 (g := g7) (cs := [va, .lst true 0 []]) (by simp)
   simp [w7, v1', v2', v3', s7]
   have hv := hv.keep (h.samePut (List.mem_cons_self ..) (g := g7) (cs := [va, .lst true 0 []]) (by simp) (.box [va', .lst true 0 []]))
   have h := (QH.put (l1 := [(g8, [.str nm, .int .i64 num])]) (cs' := [va', .lst true 0 []]) h).less (bs' := [(g7, [va', .lst true 0 []])]) (List.sublist_cons_self _ _) (List.Sublist.refl _)
   have hl1 := hlen rfl
   have hpos : b4 = false → a1 + 1 < a4 := fun e => by
    subst e
    have := (Run1.ltN (FitN.less arrP_fit (by omega) fun _ => Nat.le_refl _) runA hle).1
    omega
   refine hRR _ (if b4 = true then 0 else T.length - a4 + 1) ?_ ⟨FA', va', us ++ [Ar.mk nm num], a4, b4, rfl, by simp [s2], by simp [s3], by simp [s4], by simp [s6], by simp [s7], by simpa using h, by simpa using hv, ⟨by simp; omega, fun e => by have := hpos e; simp; omega⟩, fun y a5 b5 hr => hall y a5 b5 (arrsL_step hlt hmk runA hr)⟩
   cases b4 with
   | true => simp
   | false =>
    have := hpos rfl
    simp
    omega
 intro st hst
 subst hM
 obtain ⟨FA, va, us, a0, b0, s2, s3, s4, s6, s7, h, hv, runA, hlu⟩ := hst
 obtain ⟨n0, sm⟩ : ∃ n0, st.mem = n0 := ⟨_, rfl⟩
 rw [sm] at h hv
 have h := (h.plain (r := .lst true 0 []) (x := .lst false 19 (([] : List Sm).map Sm.av)) (.nil _ _ _)).swap
 have hS : StmtC Tryz.prog 55 1 (stmtP 3) := by simpa using c_stmt 3 (by omega)
 -- the statements
 obtain ⟨M, hM⟩ : ∃ M : St → Prop, M = (fun st => ∃ FB vb bs a1 d1 b1, st.slots 2 = .ptr g2 0 ∧ st.slots 3 = .bool false ∧ st.slots 6 = .ptr g6 0 ∧ st.slots 7 = .ptr g7 0 ∧ QH m2 g6 T a1 d1 b1 [(g7, [va, vb])] [(FA, va, .lst false 2 (us.map Ar.av)), (FB, vb, .lst false 19 (bs.map Sm.av))] st.mem ∧ RowV 57 2 FA va (us.map Ar.av).length st.mem ∧ RowV 83 19 FB vb (bs.map Sm.av).length st.mem ∧ Run1 (restL (stmtP 3) []) T a0 b0 bs a1 b1) := ⟨_, rfl⟩
 (repeat refine sqA ?_); refine AWp.cutA M ?_ ?_
 ·refine AWp.block (AWp.rounds (fun q st => ∃ FB vb bs a1 d1 b1, q = (if b1 = true then 0 else T.length - a1 + 1) ∧ st.slots 2 = .ptr g2 0 ∧ st.slots 3 = .bool false ∧ st.slots 4 = .lst false 3 (T.map Tk.av) ∧ st.slots 6 = .ptr g6 0 ∧ st.slots 7 = .ptr g7 0 ∧ QH m2 g6 T a1 d1 b1 [(g7, [va, vb])] [(FA, va, .lst false 2 (us.map Ar.av)), (FB, vb, .lst false 19 (bs.map Sm.av))] st.mem ∧ RowV 57 2 FA va (us.map Ar.av).length st.mem ∧ RowV 83 19 FB vb (bs.map Sm.av).length st.mem ∧ (b1 = false → d1 = 0 ∧ bs.length ≤ a1) ∧ ∀ y a2 b2, Run1 (restL (stmtP 3) bs) T a1 b1 y a2 b2 → Run1 (restL (stmtP 3) []) T a0 b0 y a2 b2) (if b0 = true then 0 else T.length - a0 + 1) ⟨_, .lst true 0 [], [], a0, 0, b0, rfl, s2, s3, s4, s6, s7, by rw [sm]; exact h, by rw [sm]; exact hv, .inl ⟨rfl, rfl⟩, fun _ => ⟨rfl, by simp⟩, fun _ _ _ h => h⟩ ?_)
  clear s2 s3 s4 s6 s7 sm h hv
  rintro RR q st hRR ⟨FB, vb, bs, a1, d1, b1, rfl, s2, s3, s4, s6, s7, h, hv, hw, hdl, hall⟩
  have hbx := h.ps.box
  unfold pc at hbx
  cases b1 with
  | true =>
   (repeat refine sqA ?_); refine rgA (by kernel_rfl) ?_
   simp [s6, hbx]
   (repeat refine sqA ?_); refine AWp.condF (by simp) ?_
   refine AWp.exit ?_
   subst hM
   exact ⟨FB, vb, bs, a1, d1, true, by simp [s2], by simp [s3], by simp [s6], by simp [s7], by simpa using h, by simpa using hv, by simpa using hw, hall _ _ _ (rest_exit bs (.inl rfl))⟩
  | false =>
   obtain ⟨hd1, hlen⟩ := hdl rfl
   subst hd1
   have hle1 := h.ps.le
   by_cases hlt : a1 < T.length
   ·have hlt2 : (a1 : Int) < T.length := by omega
    (repeat refine sqA ?_); refine rgA (by kernel_rfl) ?_
    simp [s4, s6, hbx, hlt2]
    (repeat refine sqA ?_); refine AWp.condT (by simp) ?_
    refine AWp.skip ?_
    try simp
    (repeat refine sqA ?_); refine AWp.block ?_
    refine AWp.gen (fun st' => st'.slots 2 = .ptr g2 0 ∧ st'.slots 3 = .bool false ∧ st'.slots 4 = .lst false 3 (T.map Tk.av) ∧ st'.slots 6 = .ptr g6 0 ∧ st'.slots 7 = .ptr g7 0 ∧ st'.mem = st.mem) ⟨by simp [s2], by simp [s3], by simp [s4], by simp [s6], by simp [s7], by simp⟩ ?_
    clear s2 s3 s4 s6 s7
    generalize st.mem = n0 at *
    rintro st ⟨s2, s3, s4, s6, s7, sm⟩
    (repeat refine sqA ?_); refine rgA (by kernel_rfl) ?_
    simp [s6]
    refine aop_wcall _ _ _ _ _ _ _ _ rfl (eval_func _ _) ?_
    simp [sm, s6]
    refine hS g6 T a1 0 false _ h.ps hT (fun _ => rfl) _ fun n1 Fx cx x a2 d2 b2 hPn hOn hTn run hdd => ?_
    have hv := hv.keep (h.same hgr (List.mem_cons_self ..) hOn)
    have hw := hw.keep (h.same hgr (List.mem_cons_of_mem _ (List.mem_cons_self ..)) hOn)
    have h := h.treeV hgr hOn hPn hTn
    obtain ⟨hl, hok, htk⟩ := own_19 hTn.own
    clear hPn hOn hTn hbx
    simp [hl]
    intro g9 hg9
    refine ⟨hok, ?_⟩
    have hv := hv.keep (h.sameNew (r := va) (List.mem_cons_of_mem _ (List.mem_cons_self ..)) hg9 (.box cx))
    have hw := hw.keep (h.sameNew (r := vb) (List.mem_cons_of_mem _ (List.mem_cons_of_mem _ (List.mem_cons_self ..))) hg9 (.box cx))
    have h := h.box hgr hg9 cx
    refine AWp.gen (fun st => st.slots 2 = .ptr g2 0 ∧ st.slots 3 = .bool false ∧ st.slots 4 = .lst false 3 (T.map Tk.av) ∧ st.slots 6 = .ptr g6 0 ∧ st.slots 7 = .ptr g7 0 ∧ st.slots 9 = .ptr g9 0 ∧ st.mem = n1.set g9 (.box cx)) ⟨by simp [s2], by simp [s3], by simp [s4], by simp [s6], by simp [s7], by simp, by simp⟩ ?_
    generalize n1.set g9 (.box cx) = n2 at *
    clear s2 s3 s4 s6 s7 sm hg9
    rintro st ⟨s2, s3, s4, s6, s7, s9, sm⟩
    have w7 := h.box1 (g := g7) (cs := [va, vb]) (by simp)
    have w9 := h.box1 (g := g9) (cs := cx) (by simp)
    obtain ⟨v1, v2, v3⟩ := hw.ok
    (repeat refine sqA ?_); refine rgA (by kernel_rfl) ?_
    simp [s7, s9, sm, w7, w9, v2, v3, hl, htk, literalA]
    have hlm : (bs.map Sm.av).length = bs.length := by simp
    have hle := h.ps.le
    have h := h.rot
    refine h.app et_30 hgr hw (by simp [srcA]) (by rw [hlm]; omega) fun FB' vb' n3 h hw hkeep => ?_
    have hv := hv.keep (hkeep _ (List.mem_cons_self ..))
    obtain ⟨v1', v2', v3'⟩ := hw.ok
    have w7 := h.box1 (g := g7) (cs := [va, vb]) (by simp)
    simp [w7, v1', v2', v3', s7]
    have hv := hv.keep (h.samePut (r := va) (List.mem_cons_of_mem _ (List.mem_cons_self ..)) (g := g7) (cs := [va, vb]) (by simp) (.box [va, vb']))
    have hw := hw.keep (h.samePut (List.mem_cons_self ..) (g := g7) (cs := [va, vb]) (by simp) (.box [va, vb']))
    have h := ((QH.put (l1 := [(g9, cx)]) (cs' := [va, vb']) h).less (bs' := [(g7, [va, vb'])]) (List.sublist_cons_self _ _) (List.Sublist.refl _)).swap
    refine hRR _ (if b2 = true then 0 else T.length - a2 + 1) ?_ ⟨FB', vb', bs ++ [x], a2, d2, b2, rfl, by simp [s2], by simp [s3], by simp [s4], by simp [s6], by simp [s7], by simpa using h, by simpa using hv, by simpa using hw, fun e => ⟨hdd e, ?_⟩, fun y a3 b3 hr => hall y a3 b3 (rest_step (stmtP_fit 3) hlt run hr)⟩
    ·cases b2 with
     | true => simp
     | false =>
      have := (Run1.ltN (stmtP_fit 3) run hle).1
      simp
      omega
    ·subst e
     have := (Run1.ltN (stmtP_fit 3) run hle).1
     simp
     omega
   ·have hlt2 : ¬ (a1 : Int) < T.length := by omega
    (repeat refine sqA ?_); refine rgA (by kernel_rfl) ?_
    simp [s4, s6, hbx, hlt2]
    (repeat refine sqA ?_); refine AWp.condF (by simp) ?_
    refine AWp.exit ?_
    subst hM
    exact ⟨FB, vb, bs, a1, 0, false, by simp [s2], by simp [s3], by simp [s6], by simp [s7], by simpa using h, by simpa using hv, by simpa using hw, hall _ _ _ (rest_exit bs (.inr (by omega)))⟩
 clear s2 s3 s4 s6 s7 sm h hv
 intro st hst
 subst hM
 obtain ⟨FB, vb, bs, a1, d1, b1, s2, s3, s6, s7, h, hv, hw, runB⟩ := hst
 rw [hbad0] at runA
 obtain ⟨o1, o2⟩ := parse_out2 hTd runA runB
 obtain ⟨n0, sm⟩ : ∃ n0, st.mem = n0 := ⟨_, rfl⟩
 rw [sm] at h hv hw
 -- in order
 obtain ⟨M, hM⟩ : ∃ M : St → Prop, M = (fun st => ∃ L', st.slots 2 = .ptr g2 0 ∧ st.slots 3 = .bool false ∧ st.slots 6 = .ptr g6 0 ∧ st.slots 7 = .ptr g7 0 ∧ QH m2 g6 T a1 d1 b1 [(g7, [va, vb])] [(FA, va, .lst false 2 (L'.map Ar.av)), (FB, vb, .lst false 19 (bs.map Sm.av))] st.mem ∧ Sh L' us ∧ (us.length < 20 → L' = sortA us)) := ⟨_, rfl⟩
 obtain ⟨v1, v2, v3⟩ := hv.ok
 (repeat refine sqA ?_); refine AWp.cutA M ?_ ?_
 ·have w7 := h.box1 (g := g7) (cs := [va, vb]) (by simp)
  have hF := h.tr (FA, va, .lst false 2 (us.map Ar.av)) (by simp)
  rcases hv with ⟨rfl, h0⟩ | ⟨g, c, ys, rfl, hFg, hmg⟩
  ·have hu : us = [] := by simpa using h0
   subst hu
   refine rgA (by kernel_rfl) ?_
   simp [s7, sm, w7]
   refine aop_wcall _ _ _ _ _ _ _ _ rfl (eval_func _ _) ?_
   try simp [sm]
   refine c_sortStable_0 ?_
   subst hM
   exact ⟨[], by simp [s2], by simp [s3], by simp [s6], by simp [s7], by simpa [sm] using h, Sh.refl _, fun _ => rfl⟩
  ·have hys : ys = us.map Ar.av := by
    cases hF.1.own with
    | @own _ G0 _ _ _ _ T0 ys' _ k1 k2 k3 k4 k5 k6 =>
     rw [hmg] at k1
     simp only [Option.some.injEq, Blk.arr.injEq] at k1
     rw [k1.2.2.2]
     exact ars_same k3
   subst hys
   simp only [List.length_map] at h hF w7
   refine rgA (by kernel_rfl) ?_
   simp [s7, sm, w7]
   refine aop_wcall _ _ _ _ _ _ _ _ rfl (eval_func _ _) ?_
   try simp [sm]
   refine c_sortStable (g := g) (c := c) (L := us) hmg hlu fun L' hL' hs => ?_
   have hO : OwnT (n0.set g (arB c L')) FA (.own g us.length c) (.lst false 2 (L'.map Ar.av)) := .own (G := fun _ => False) (set_same _ _ _) (by simp [hL'.1]) (ars_own L') id (fun _ h => h.elim) hFg
   have h := h.write hgr hFg hO
   subst hM
   exact ⟨L', by simp [s2], by simp [s3], by simp [s6], by simp [s7], by simpa using h, hL', hs⟩
 clear s2 s3 s6 s7 sm h hv hw
 intro st hst
 subst hM
 obtain ⟨L', s2, s3, s6, s7, h, ⟨hlen', hmem'⟩, hsort⟩ := hst
 obtain ⟨n3, sm⟩ : ∃ n3, st.mem = n3 := ⟨_, rfl⟩
 rw [sm] at h
 have hok := sort_ok hlen' hsort bs
 have hbx := h.ps.box
 unfold pc at hbx
 have w7 := h.box1 (g := g7) (cs := [va, vb]) (by simp)
 have w2' := h.off g2 _ n26 w2
 have hOA := (h.tr (FA, va, .lst false 2 (L'.map Ar.av)) (by simp)).1
 have hOB := (h.tr (FB, vb, .lst false 19 (bs.map Sm.av)) (by simp)).1
 obtain ⟨kA1, kA2, kA3⟩ := hOA.own.okc
 obtain ⟨kB1, kB2, kB3⟩ := hOB.own.okc
 have toE : ∀ m', Off g6 m m' → Ext m m' := fun m' hO g b hg => hO g b (by rintro rfl; rw [hm6] at hg; cases hg) hg
 have hO4 : Off g6 m n3 := (Off.ext hE).trans h.off
 have hO5 : ∀ b, Off g6 m (n3.set g2 b) := fun b g x hk hx => by
  have hne : g ≠ g2 := by rintro rfl; rw [hg2] at hx; cases hx
  rw [Mem.set_other hne]
  exact hO4 g x hk hx
 have zero : Tv m (n3.set g2 (.box [.lst true 0 [], .lst true 0 []])) (fun _ => False) (.agg [.lst true 0 [], .lst true 0 []]) (Pg.mk [] []).av := ⟨.agg (OwnTs.c0 (.nil _ _ _) (OwnTs.c0 (.nil _ _ _) .nil)) rfl, fun _ h => h.elim⟩
 have bad : ∀ st' : St, parse s = none → st'.slots 2 = .ptr g2 0 → st'.slots 3 = .bool false → st'.mem = n3.set g2 (.box [.lst true 0 [], .lst true 0 []]) → Post Tryz.prog Tryz.f18 K .ret st' := fun st' hn t2 t3 tm => by
  have hK := hK _ _ _ (toE _ (hO5 _)) (by rw [hn]; exact zero)
  rw [hn] at hK
  exact ⟨[.agg [.lst true 0 [], .lst true 0 []], .bool false], _, _, by simp [Tryz.f18, resA, t2, t3, tm], by rw [tm]; exact View.refl _ _, hK⟩
 cases b1 with
 | true =>
  (repeat refine sqA ?_); refine rgA (by kernel_rfl) ?_
  simp [s6, s7, sm, hbx]
  (repeat refine sqA ?_); refine AWp.condT (by simp) ?_
  (repeat refine sqA ?_); refine rgA (by kernel_rfl) ?_
  simp [s2, w2', sm]
  refine AWp.ret (bad _ (o1 rfl) ?_ ?_ ?_) <;> simp [s2, sm]
 | false =>
  obtain ⟨o3, r1, r2, hA, hB⟩ := o2 rfl
  obtain ⟨z1, z2, z3⟩ := parse_small (stmtP_fit 3) hT h6 hA hB
  have ht : (Pg.mk L' bs).tot ≤ 1048576 := by
   have h1 : totL Ar.tot L' ≤ L'.length * (600 + 1) := tot_arrs_le (B := 600) fun x hx => by
    have h2 := totL_mem Ar.tot (hmem' x hx)
    have h3 := arrs_name hT hA x (hmem' x hx)
    omega
   show totL Ar.tot L' + totL Sm.tot bs ≤ _
   omega
  obtain ⟨_, hL⟩ : ∃ F : Nat → Prop, Lent n3 F [.agg [va, vb]] [(Pg.mk L' bs).av] := (Lent.nil n3).own (pg_own hOA.own hOB.own ((List.pairwise_cons.1 h.td).1 (FB, vb, .lst false 19 (bs.map Sm.av)) (by simp)))
  (repeat refine sqA ?_); refine rgA (by kernel_rfl) ?_
  simp [s6, s7, sm, hbx, w7, kA1, kB1, kA3, kB3]
  refine aop_wcall _ _ _ _ _ _ _ _ rfl (eval_func _ _) ?_
  simp [sm]
  refine PCall.lend (c_impl_ProgOk (Pg.mk L' bs) ht) hL rfl ?_
  clear hL
  rw [hok.1]
  cases hb : (Pg.mk (sortA us) bs).ok with
  | false =>
   rw [hb] at o3
   try simp
   (repeat refine sqA ?_); refine AWp.condT (by simp) ?_
   (repeat refine sqA ?_); refine rgA (by kernel_rfl) ?_
   simp [s2, w2', sm]
   refine AWp.ret (bad _ (by unfold parse; rw [o3]; rfl) ?_ ?_ ?_) <;> simp [s2, sm]
  | true =>
   rw [hb] at o3
   have hLs : L' = sortA us := hok.2 (by rw [hok.1]; exact hb)
   have hps : parse s = some (Pg.mk L' bs) := by unfold parse; rw [o3, hLs]; rfl
   try simp
   (repeat refine sqA ?_); refine AWp.condF (by simp) ?_
   refine AWp.skip ?_
   try simp
   (repeat refine sqA ?_); refine rgA (by kernel_rfl) ?_
   simp [s2, s7, sm, w2', w7, kA1, kB1, kA3, kB3]
   have nA : ¬ FA g2 := hOA.not (by rw [w2]; simp)
   have nB : ¬ FB g2 := hOB.not (by rw [w2]; simp)
   have hfin : Tv m (n3.set g2 (.box [va, vb])) (fun g => FA g ∨ FB g) (.agg [va, vb]) (Pg.mk L' bs).av := by
    refine ⟨pg_own (hOA.set nA _).own (hOB.set nB _).own ((List.pairwise_cons.1 h.td).1 (FB, vb, .lst false 19 (bs.map Sm.av)) (by simp)), fun g hg => ?_⟩
    rcases hg with hg | hg
    ·have := ((hOA.set nA (.box [va, vb])).base (gr := g6) (Off.ext hE) hgr).new g hg
     exact this
    ·have := ((hOB.set nB (.box [va, vb])).base (gr := g6) (Off.ext hE) hgr).new g hg
     exact this
   have hK := hK _ _ (.agg [va, vb]) (toE _ (hO5 _)) (by rw [hps]; exact hfin)
   rw [hps] at hK
   exact AWp.ret ⟨[.agg [va, vb], .bool true], _, _, by simp [Tryz.f18, resA, s2], by (try simp); exact View.refl _ _, hK⟩
end Go.T
namespace Go.T
open Go Go.Proofs
set_option maxRecDepth 10000
set_option maxHeartbeats 1000000
open Go
/-- A reader's box and blocks of one's own, apart from each other. -/
structure BH (m1 : Mem) (gr : Nat) (T : List Tk) (a : Nat) (d : Int) (bad : Bool) (bs : List (Nat × Blk)) (m : Mem) : Prop where
 ps : PS gr T a d bad m
 off : Off gr m1 m
 bx : ∀ b ∈ bs, m b.1 = some b.2 ∧ b.1 ≠ gr ∧ m1 b.1 = none
 bd : bs.Pairwise fun x y => x.1 ≠ y.1
section
variable {m1 m m' : Mem} {gr : Nat} {T : List Tk} {a a' : Nat} {d d' : Int} {bad bad' : Bool} {bs : List (Nat × Blk)}
theorem BH.start (h : PS gr T a d bad m) : BH m gr T a d bad [] m := ⟨h, Off.refl _ _, by simp, .nil⟩
theorem BH.get (h : BH m1 gr T a d bad bs m) {g : Nat} {b : Blk} (hb : (g, b) ∈ bs) : m g = some b := (h.bx _ hb).1
theorem BH.call (h : BH m1 gr T a d bad bs m) (h1 : m1 gr ≠ none) (hO : Off gr m m') (hP : PS gr T a' d' bad' m') : BH m1 gr T a' d' bad' bs m' :=
 ⟨hP, h.off.trans hO, fun b hb => ⟨hO _ _ (h.bx b hb).2.1 (h.bx b hb).1, (h.bx b hb).2⟩, h.bd⟩
theorem BH.new (h : BH m1 gr T a d bad bs m) (h1 : m1 gr ≠ none) {g : Nat} (hg : m g = none) (b : Blk) : BH m1 gr T a d bad ((g, b) :: bs) (m.set g b) := by
 have hne : g ≠ gr := by rintro rfl; exact h.ps.at hg
 have k := h.call h1 (Off.ext (ext_set hg b)) (h.ps.off hne b)
 refine ⟨k.ps, k.off, fun x hx => ?_, List.pairwise_cons.2 ⟨fun x hx e => ?_, k.bd⟩⟩
 ·rcases List.mem_cons.1 hx with rfl | hx
  ·exact ⟨set_same _ _ _, hne, off_none h.off h.ps.at hg⟩
  ·exact k.bx x hx
 ·have := (h.bx x hx).1
  rw [← e] at this
  simp only at this
  rw [hg] at this
  cases this
theorem BH.put {l1 l2 : List (Nat × Blk)} {g : Nat} {b : Blk} (h : BH m1 gr T a d bad (l1 ++ (g, b) :: l2) m) (b' : Blk) : BH m1 gr T a d bad (l1 ++ (g, b') :: l2) (m.set g b') := by
 have hg := h.bx (g, b) (by simp)
 have hd := List.pairwise_append.1 h.bd
 have hd2 := List.pairwise_cons.1 hd.2.1
 have ho : ∀ x, x ∈ l1 ∨ x ∈ l2 → x.1 ≠ g := fun x hx => by
  rcases hx with hx | hx
  ·exact hd.2.2 x hx (g, b) (by simp)
  ·exact Ne.symm (hd2.1 x hx)
 refine ⟨h.ps.off hg.2.1 _, fun k x hk hx => ?_, fun x hx => ?_, ?_⟩
 ·have hne : k ≠ g := by rintro rfl; rw [hg.2.2] at hx; cases hx
  rw [Mem.set_other hne]
  exact h.off k x hk hx
 ·rcases List.mem_append.1 hx with hx | hx
  ·have := h.bx x (by simp [hx])
   exact ⟨by rw [Mem.set_other (ho x (.inl hx))]; exact this.1, this.2⟩
  ·rcases List.mem_cons.1 hx with rfl | hx
   ·exact ⟨set_same _ _ _, hg.2⟩
   ·have := h.bx x (by simp [hx])
    exact ⟨by rw [Mem.set_other (ho x (.inr hx))]; exact this.1, this.2⟩
 ·exact List.pairwise_append.2 ⟨hd.1, List.pairwise_cons.2 ⟨fun x hx => hd2.1 x hx, hd2.2⟩, fun x hx y hy => by
   rcases List.mem_cons.1 hy with rfl | hy
   ·exact hd.2.2 x hx (g, b) (by simp)
   ·exact hd.2.2 x hx y (by simp [hy])⟩
theorem BH.less (h : BH m1 gr T a d bad bs m) {bs' : List (Nat × Blk)} (hb : bs'.Sublist bs) : BH m1 gr T a d bad bs' m := ⟨h.ps, h.off, fun x k => h.bx x (hb.subset k), h.bd.sublist hb⟩
/-- A block is no more. -/
theorem BH.del {g : Nat} {b : Blk} {l1 l2 : List (Nat × Blk)} (h : BH m1 gr T a d bad (l1 ++ (g, b) :: l2) m) : BH m1 gr T a d bad (l1 ++ l2) (m.del g) := by
 have hg := h.bx (g, b) (by simp)
 have hd := List.pairwise_append.1 h.bd
 have hd2 := List.pairwise_cons.1 hd.2.1
 have ho : ∀ x, x ∈ l1 ++ l2 → x.1 ≠ g := fun x hx => by
  rcases List.mem_append.1 hx with hx | hx
  ·exact hd.2.2 x hx (g, b) (by simp)
  ·exact Ne.symm (hd2.1 x hx)
 have hdel : ∀ k, k ≠ g → (m.del g) k = m k := fun k hk => by unfold Mem.del; rw [if_neg hk]
 refine ⟨⟨by rw [hdel _ (Ne.symm hg.2.1)]; exact h.ps.box, h.ps.le, h.ps.small⟩, fun k x hk hx => ?_, fun x hx => ?_, h.bd.sublist ((List.Sublist.refl l1).append (List.sublist_cons_self _ _))⟩
 ·have hne : k ≠ g := by rintro rfl; rw [hg.2.2] at hx; cases hx
  rw [hdel k hne]
  exact h.off k x hk hx
 ·have := h.bx x (by rcases List.mem_append.1 hx with hx | hx <;> simp [hx])
  rw [hdel _ (ho x hx)]
  exact this
/-- A row: nothing yet, or a block of one's own. -/
def rowB (E : TypeId) (n : Nat) (xs : List AV) : Option (Nat × Nat) → List (Nat × Blk)
 | none => []
 | some (g, c) => [(g, .arr E n c xs)]
def rowA (len : Nat) : Option (Nat × Nat) → AV
 | none => .lst true 0 []
 | some (g, c) => .own g len c
theorem rowA_ok (len : Nat) (o : Option (Nat × Nat)) : (rowA len o).cells = [rowA len o] ∧ okCell (rowA len o) = true ∧ rowA len o ≠ .undef := by
 cases o with
 | none => exact ⟨rfl, rfl, by simp [rowA]⟩
 | some p => exact ⟨rfl, rfl, by simp [rowA]⟩
theorem BH.app {P : Program} {Ty E : TypeId} {n b : Nat} (hT : ElemT P Ty E n b) {xs : List AV} {x s : AV} {o : Option (Nat × Nat)} {ln : Nat} (hln : xs.length = ln) (h : BH m1 gr T a d bad (rowB E n xs o ++ bs) m) (h1 : m1 gr ≠ none) (ho : o = none → xs = [])
  (hs : srcA m n s = some [x]) (hx : x.cells.all okCell = true) (hb : (2 * (ln + 1) + 1024) * b ≤ 281474976710656) {k : AV → Mem → Prop}
  (hk : ∀ g c m', BH m1 gr T a d bad (rowB E n (xs ++ [x]) (some (g, c)) ++ bs) m' → k (rowA (ln + 1) (some (g, c))) m') : appendW P m k #[Ty, Ty] (rowA ln o) s := by
 subst hln
 obtain ⟨z, hz, hzl⟩ := hT.zero
 unfold appendW
 simp only [List.getElem?_toArray, List.getElem?_cons_zero, List.getElem?_cons_succ, hT.int, hT.elem, hT.size, hT.byte, hz, hs, true_and]
 refine ⟨hT.pos.1, hT.pos.2, hzl, ?_⟩
 cases o with
 | none =>
  have := ho rfl
  subst this
  refine ⟨.inr rfl, by simpa using hb, ⟨fun h0 => (by cases h0), fun _ g c hg hle => ?_⟩⟩
  exact hk g c _ (BH.new h h1 hg _)
 | some p =>
  obtain ⟨g, c⟩ := p
  have hg := h.get (g := g) (b := .arr E n c xs) (by simp [rowB])
  simp only [rowA, hg]
  refine ⟨trivial, trivial, trivial, trivial, by simpa using hx, by simpa using hb, fun g' c' hg' hle => ?_⟩
  refine hk g' c' (m.set g' (.arr E n c' (xs ++ [x]))) ?_
  rcases hg' with rfl | hg'
  ·exact BH.put (l1 := []) h _
  ·exact BH.new (h.less (bs' := bs) (List.sublist_cons_self _ _)) h1 hg' _
/-- The cells of a statement, its Body being what it is. -/
def sc (k : Int) (s : ByteArray) (a e lo hi : Ex) (v : AV) : List AV := .int .i64 k :: .str s :: (a.cells ++ (e.cells ++ (lo.cells ++ (hi.cells ++ [v]))))
theorem sc_eq (k : Int) (s : ByteArray) (a e lo hi : Ex) (b : List Sm) : (Sm.mk k s a e lo hi b).cells = sc k s a e lo hi (.lst false 19 (b.map Sm.av)) := Sm.cells_mk _ _ _ _ _ _ _
@[simp] theorem sc_len (k : Int) (s : ByteArray) (a e lo hi : Ex) (v : AV) : (sc k s a e lo hi v).length = 19 := by simp [sc]
@[simp] theorem sc_take (k : Int) (s : ByteArray) (a e lo hi : Ex) (v : AV) : List.take 19 (sc k s a e lo hi v) = sc k s a e lo hi v := List.take_of_length_le (by simp)
@[simp] theorem sc_drop (k : Int) (s : ByteArray) (a e lo hi : Ex) (v : AV) : List.drop 18 (sc k s a e lo hi v) = [v] := by
 have : sc k s a e lo hi v = (.int .i64 k :: .str s :: (a.cells ++ (e.cells ++ (lo.cells ++ hi.cells)))) ++ [v] := by simp [sc]
 rw [this]
 exact List.drop_left' (by simp)
theorem sc_ok (k : Int) (s : ByteArray) (a e lo hi : Ex) (b : List Sm) : ∀ x ∈ sc k s a e lo hi (.lst false 19 (b.map Sm.av)), okCell x = true := by
 rw [← sc_eq]
 exact List.all_eq_true.1 (Sm.cells_ok _)
theorem store_part {m : Mem} {g o : Nat} {u y w : List AV} {x : AV} (h : m g = some (.box (u ++ (y ++ w)))) (hu : u.length = o) (hy : y.length = x.cells.length) : storeA m (.ptr g o) x = some (m.set g (.box (u ++ (x.cells ++ w)))) := by
 simp only [storeA, h]
 rw [if_pos (by first | (simp [hu, hy]; done) | (simp [hu, hy]; omega))]
 congr 3
 have e1 : List.take o (u ++ (y ++ w)) = u := List.take_left' hu
 have e2 : List.drop (o + x.cells.length) (u ++ (y ++ w)) = w := by
  rw [← List.append_assoc]
  exact List.drop_left' (by simp [hu, hy])
 rw [e1, e2, List.append_assoc]
theorem stK {g : Nat} {k : Int} {s : ByteArray} {a e lo hi : Ex} {v : AV} (h : m g = some (.box (sc k s a e lo hi v))) (k' : Int) : storeA m (.ptr g 0) (.int .i64 k') = some (m.set g (.box (sc k' s a e lo hi v))) := store_part (u := []) (y := [.int .i64 k]) (x := .int .i64 k') h rfl rfl
theorem stN {g : Nat} {k : Int} {s : ByteArray} {a e lo hi : Ex} {v : AV} (h : m g = some (.box (sc k s a e lo hi v))) (s' : ByteArray) : storeA m (.ptr g 1) (.str s') = some (m.set g (.box (sc k s' a e lo hi v))) := store_part (u := [.int .i64 k]) (y := [.str s]) (x := .str s') h rfl rfl
theorem stA {g : Nat} {k : Int} {s : ByteArray} {a e lo hi : Ex} {v : AV} (h : m g = some (.box (sc k s a e lo hi v))) (x : Ex) : storeA m (.ptr g 2) (.agg x.cells) = some (m.set g (.box (sc k s x e lo hi v))) := store_part (u := [.int .i64 k, .str s]) (y := a.cells) (x := .agg x.cells) h rfl (by simp [AV.cells])
theorem stE {g : Nat} {k : Int} {s : ByteArray} {a e lo hi : Ex} {v : AV} (h : m g = some (.box (sc k s a e lo hi v))) (x : Ex) : storeA m (.ptr g 6) (.agg x.cells) = some (m.set g (.box (sc k s a x lo hi v))) := by
 have e1 : ∀ e, sc k s a e lo hi v = (.int .i64 k :: .str s :: a.cells) ++ (e.cells ++ (lo.cells ++ (hi.cells ++ [v]))) := fun e => by simp [sc]
 rw [e1] at h ⊢
 exact store_part (x := .agg x.cells) h (by simp) (by simp [AV.cells])
theorem stL {g : Nat} {k : Int} {s : ByteArray} {a e lo hi : Ex} {v : AV} (h : m g = some (.box (sc k s a e lo hi v))) (x : Ex) : storeA m (.ptr g 10) (.agg x.cells) = some (m.set g (.box (sc k s a e x hi v))) := by
 have e1 : ∀ lo, sc k s a e lo hi v = (.int .i64 k :: .str s :: (a.cells ++ e.cells)) ++ (lo.cells ++ (hi.cells ++ [v])) := fun e => by simp [sc]
 rw [e1] at h ⊢
 exact store_part (x := .agg x.cells) h (by simp) (by simp [AV.cells])
theorem stH {g : Nat} {k : Int} {s : ByteArray} {a e lo hi : Ex} {v : AV} (h : m g = some (.box (sc k s a e lo hi v))) (x : Ex) : storeA m (.ptr g 14) (.agg x.cells) = some (m.set g (.box (sc k s a e lo x v))) := by
 have e1 : ∀ hi, sc k s a e lo hi v = (.int .i64 k :: .str s :: (a.cells ++ (e.cells ++ lo.cells))) ++ (hi.cells ++ [v]) := fun e => by simp [sc]
 rw [e1] at h ⊢
 exact store_part (x := .agg x.cells) h (by simp) (by simp [AV.cells])
theorem stB {g : Nat} {k : Int} {s : ByteArray} {a e lo hi : Ex} {v : AV} (h : m g = some (.box (sc k s a e lo hi v))) (v' : AV) (hv : v'.cells = [v']) : storeA m (.ptr g 18) v' = some (m.set g (.box (sc k s a e lo hi v'))) := by
 have e1 : ∀ v, sc k s a e lo hi v = (.int .i64 k :: .str s :: (a.cells ++ (e.cells ++ (lo.cells ++ hi.cells)))) ++ ([v] ++ []) := fun e => by simp [sc]
 rw [e1] at h ⊢
 have h2 := store_part (u := .int .i64 k :: .str s :: (a.cells ++ (e.cells ++ (lo.cells ++ hi.cells)))) (y := [v]) (w := []) (x := v') (o := 18) h (by simp) (by rw [hv]; rfl)
 rw [hv] at h2
 exact h2
end
/-- What the call of the reference's statement reader comes to. -/
def StmtS (P : Program) (n : FuncId) (k : Int) (f : PA Sm) : Prop :=
 ∀ (gr : Nat) (T : List Tk) (a : Nat) (d : Int) (bad : Bool) (m : Mem), PS gr T a d bad m → (∀ t ∈ T, t.fine) → (bad = false → d = 0) → ∀ K : AV → Mem → Prop,
  (∀ m' x a' d' bad', PS gr T a' d' bad' m' → Off gr m m' → Run1 f T a bad x a' bad' → (bad' = false → d' = 0) → K (Sm.av x) m') → WCall P n [.ptr gr 0, .int .i64 k] m K
theorem zS_les : Les [.int .i64 0, .str ByteArray.empty, .int .i64 0, .int .i64 0, .str ByteArray.empty, .lst true 0 [], .int .i64 0, .int .i64 0, .str ByteArray.empty, .lst true 0 [], .int .i64 0, .int .i64 0, .str ByteArray.empty, .lst true 0 [], .int .i64 0, .int .i64 0, .str ByteArray.empty, .lst true 0 [], .lst true 0 []] (sc 0 ⟨#[]⟩ zE zE zE zE (.lst true 0 [])) := by
 unfold sc zE
 simp only [Ex.cells_mk, List.map_nil, List.cons_append, List.nil_append]
 repeat (first | exact .nil | refine .cons (by first | exact Le.refl _ | exact Le.nil _ _ _) ?_)
theorem kept_run {T : List Tk} {a : Nat} (ha : a ≤ T.length) {bad : Bool} (s : ByteArray) : Run1 (kpR s) T a bad () (if (hdT T a bad).is 3 s = true then a + 1 else a) (bad || !(hdT T a bad).is 3 s) := by
 cases bad with
 | true => simp; exact Run1.bad _ _ _ _ _
 | false =>
  by_cases hlt : a < T.length
  ·rw [hdT_at hlt]
   have hd : T.drop a = T[a] :: T.drop (a + 1) := List.drop_eq_getElem_cons hlt
   cases hi : T[a].is 3 s with
   | true =>
    refine ⟨fun x0 r _ he => ?_, fun h => ?_⟩
    ·rw [hd] at he
     simp only [kpR, tkS, hi, if_true, Option.map_some, Option.some.injEq, Prod.mk.injEq] at he
     exact ⟨rfl, rfl, he.2⟩
    ·have h := h.resolve_left (by simp)
     rw [hd] at h
     simp [kpR, tkS, hi] at h
   | false =>
    refine ⟨fun x0 r _ he => ?_, fun _ => rfl⟩
    rw [hd] at he
    simp [kpR, tkS, hi] at he
  ·rw [hdT_end (by omega)]
   have hd : T.drop a = [] := List.drop_eq_nil_of_le (by omega)
   refine ⟨fun x0 r _ he => ?_, fun _ => by simp [Tk.is]⟩
   rw [hd] at he
   simp [kpR, tkS] at he
theorem name_run2 {T : List Tk} {a : Nat} {bad : Bool} : Run1 nmP T a bad (if (hdT T a bad).k = 1 then (hdT T a bad).s else ⟨#[]⟩) (if (hdT T a bad).k = 1 then a + 1 else a) (!decide ((hdT T a bad).k = 1)) := by
 have := nmP_run (T := T) (a := a) (bad := bad) (hdT T a bad) rfl
 split at this <;> split <;> simp_all
theorem num_run2 {T : List Tk} {a : Nat} {bad : Bool} : Run1 numP T a bad (if (hdT T a bad).k = 2 then (hdT T a bad).n else 0) (if (hdT T a bad).k = 2 then a + 1 else a) (!decide ((hdT T a bad).k = 2)) := by
 have := numP_run (T := T) (a := a) (bad := bad) (hdT T a bad) rfl
 split at this <;> split <;> simp_all
theorem c_nameS {gr : Nat} {T : List Tk} {a : Nat} {d : Int} {bad : Bool} {m : Mem} (h : PS gr T a d bad m) {K : AV → Mem → Prop}
  (hK : ∀ m' s a' b', PS gr T a' d b' m' → Off gr m m' → Run1 nmP T a bad s a' b' → K (.str s) m') : WCall Tryz.prog 62 [.ptr gr 0] m K :=
 c_l5Name h fun m' hP hO => hK m' _ _ _ hP hO name_run2
theorem c_numS {gr : Nat} {T : List Tk} {a : Nat} {d : Int} {bad : Bool} {m : Mem} (h : PS gr T a d bad m) {K : AV → Mem → Prop}
  (hK : ∀ m' n a' b', PS gr T a' d b' m' → Off gr m m' → Run1 numP T a bad n a' b' → K (.int .i64 n) m') : WCall Tryz.prog 63 [.ptr gr 0] m K :=
 c_l5Num h fun m' hP hO => hK m' _ _ _ hP hO num_run2
theorem is_not3 {T : List Tk} {a : Nat} {bad : Bool} {s : ByteArray} (h : (hdT T a bad).is 3 s = false) : bad = true ∨ ∀ hlt : a < T.length, T[a].is 3 s = false := by
 cases bad with
 | true => exact .inl rfl
 | false => exact .inr fun hlt => by rw [hdT_at hlt] at h; exact h
theorem is_not4 {T : List Tk} {a : Nat} {bad : Bool} {c : UInt8} (h : (hdT T a bad).is 4 (ch c) = false) : bad = true ∨ notM T a c := by
 cases bad with
 | true => exact .inl rfl
 | false => exact .inr (is_not h)
end Go.T
