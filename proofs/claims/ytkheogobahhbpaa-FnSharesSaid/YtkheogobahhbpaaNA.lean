/- The cursor over a draw's bytes: what its functions may answer. Numbers that go round: what the program and the reference compute; the law's function. -/
import Derived.Test.YtkheogobahhbpaaD11
import Derived.Test.YtkheogobahhbpaaT20
import Derived.Test.YtkheogobahhbpaaL2
import Derived.Test.YtkheogobahhbpaaY0
namespace Go.T
open Go Go.Proofs
set_option maxRecDepth 10000
set_option linter.unusedSimpArgs false
set_option linter.unusedVariables false
def bys (l : List Int) : AV := .lst false 1 (l.map (AV.int .u8))
def byOk (l : List Int) : Prop := l.length ≤ 1048576 ∧ ∀ x ∈ l, 0 ≤ x ∧ x ≤ 255
/-- A cursor stands at g. -/
def Cur (l : List Int) (g : Nat) (m : Mem) : Prop := ∃ i h : Int, 0 ≤ i ∧ i ≤ l.length ∧ m g = some (.box [bys l, .int .i64 i, .int .i64 h])
def and64 (a b : Int) : Int := IntKind.wrap .i64 ((BitVec.ofInt 64 a &&& BitVec.ofInt 64 b).toNat : Int)
def xor64 (a b : Int) : Int := IntKind.wrap .i64 ((BitVec.ofInt 64 a ^^^ BitVec.ofInt 64 b).toNat : Int)
theorem and_i64 (a b : Int) : intA .and .i64 a b = some (.int .i64 (and64 a b)) := rfl
theorem xor_i64 (a b : Int) : intA .xor .i64 a b = some (.int .i64 (xor64 a b)) := rfl
theorem shr33 (a : Int) : binA .shr (.int .i64 a) (.int .u64 33) = some (.int .i64 (a.fdiv 8589934592)) := rfl
theorem shr47 (a : Int) : binA .shr (.int .i64 a) (.int .u64 47) = some (.int .i64 (a.fdiv 140737488355328)) := rfl
theorem and255 (a : Int) : 0 ≤ and64 a 255 ∧ and64 a 255 ≤ 255 := by
  have h : (BitVec.ofInt 64 a &&& BitVec.ofInt 64 255).toNat ≤ 255 := by
    rw [BitVec.toNat_and]
    exact Nat.le_trans Nat.and_le_right (by decide)
  unfold and64
  rw [wrap64 (by omega) (by omega)]
  omega
theorem c_l1New (l : List Int) (hl : byOk l) {m : Mem} {K : AV → Mem → Prop} (hK : ∀ g m', m g = none → Cur l g m' → Ext m m' → K (.ptr g 0) m') : WCall Try.prog 30 [bys l] m K := by
  obtain ⟨hlen, hby⟩ := hl
  refine wcall_of Try.func30 (by kernel_rfl) rfl (by simp [Try.f30]) ?_
  unfold bys
  (repeat refine AWp.seq ?_); refine AWp.region noP (by kernel_rfl) ?_
  try simp
  (repeat refine AWp.seq ?_); refine AWp.region noP (by kernel_rfl) ?_
  try simp
  (repeat refine AWp.seq ?_); refine AWp.region noP (by kernel_rfl) ?_
  try simp
  (try refine AWp.seq ?_)
  refine AWp.cutA (fun st => st.slots 0 = .lst false 1 (l.map (AV.int .u8)) ∧ (∃ h, st.slots 3 = .int .i64 h) ∧ st.mem = m) ?_ ?_
  · refine AWp.block (AWp.rounds (fun k st => ∃ (i : Nat) (h : Int), k = l.length - i ∧ i ≤ l.length ∧ st.slots 0 = .lst false 1 (l.map (AV.int .u8)) ∧ st.slots 3 = .int .i64 h ∧ st.slots 4 = .int .i64 i ∧ st.mem = m) l.length ⟨0, _, by simp, by simp, by simp, by simp; rfl, by simp, by simp⟩ ?_)
    rintro R k st hR ⟨i, h, rfl, hi, s0, s3, s4, sm⟩
    by_cases hb : i < l.length
    · have hq : l[i]? = some l[i] := List.getElem?_eq_getElem hb
      have hw : IntKind.wrap .i64 ((i : Int) + 1) = (i + 1 : Nat) := wrap64 (by omega) (by omega)
      have hx : ∀ m, idxA Try.prog m 22 (.lst false 1 (l.map (AV.int .u8))) (.int .i64 i) = some (.ref [.int .u8 l[i]]) := fun m => idx (y := .int .u8 l[i]) es_22 (by simp [hq])
      by_cases h4 : (i : Int) < 4000
      · (repeat refine AWp.seq ?_); refine AWp.region allP (by kernel_rfl) ?_
        simp [s0, s4, hb, h4]
        (repeat refine AWp.seq ?_); refine AWp.condT (by simp) ?_
        refine AWp.skip ?_
        try simp
        (repeat refine AWp.seq ?_); refine AWp.block ?_
        (repeat refine AWp.seq ?_); refine AWp.region noP (by kernel_rfl) ?_
        simp [s0, s3, s4, hx, and_i64]
        (repeat refine AWp.seq ?_); refine AWp.region noP (by kernel_rfl) ?_
        simp [s4, hw]
        exact hR _ (l.length - (i + 1)) (by omega) ⟨i + 1, _, rfl, hb, by simp [s0], by simp; rfl, by simp, by simp [sm]⟩
      · (repeat refine AWp.seq ?_); refine AWp.region allP (by kernel_rfl) ?_
        simp [s0, s4, hb, h4]
        (repeat refine AWp.seq ?_); refine AWp.condF (by simp) ?_
        refine AWp.exit ?_
        simp [s0, s3, sm]
    · (repeat refine AWp.seq ?_); refine AWp.region allP (by kernel_rfl) ?_
      simp [s0, s4, hb]
      (repeat refine AWp.seq ?_); refine AWp.condF (by simp) ?_
      refine AWp.exit ?_
      simp [s0, s3, sm]
  rintro st ⟨s0, ⟨h, s3⟩, sm⟩
  (repeat refine AWp.seq ?_); refine AWp.region noP (by kernel_rfl) ?_
  simp [s0, s3, sm]
  intro g hg
  refine AWp.ret (post_retW rfl ⟨_, _, View.refl _ _, ?_⟩)
  simp [sm]
  exact hK g _ hg ⟨0, h, by omega, by omega, by simp [set_at, bys]⟩ ((Ext.refl m).set hg _)
theorem c_l1Byte {l : List Int} (hl : byOk l) {g : Nat} {m : Mem} (hm : Cur l g m) {K : AV → Mem → Prop} (hK : ∀ x m', 0 ≤ x → x ≤ 255 → Cur l g m' → (∀ k, k ≠ g → m' k = m k) → K (.int .i64 x) m') : WCall Try.prog 40 [.ptr g 0] m K := by
  obtain ⟨hlen, hby⟩ := hl
  obtain ⟨i, h, hi0, hil, hm⟩ := hm
  unfold bys at hm
  refine wcall_of Try.func40 (by kernel_rfl) rfl (by simp [Try.f40]) ?_
  (repeat refine AWp.seq ?_); refine AWp.region noP (by kernel_rfl) ?_
  try simp
  (repeat refine AWp.seq ?_); refine AWp.region noP (by kernel_rfl) ?_
  simp [hm]
  generalize IntKind.wrap .i64 (IntKind.wrap .i64 (h * 6364136223846793005) + 1442695040888963407) = h1
  have hgg := set_same m g (.box [.lst false 1 (l.map (AV.int .u8)), .int .i64 i, .int .i64 h1])
  have ho : ∀ k, k ≠ g → (m.set g (.box [.lst false 1 (l.map (AV.int .u8)), .int .i64 i, .int .i64 h1])) k = m k := fun k hk => Mem.set_other hk
  generalize m.set g (.box [.lst false 1 (l.map (AV.int .u8)), .int .i64 i, .int .i64 h1]) = m1 at *
  (repeat refine AWp.seq ?_); refine AWp.region allP (by kernel_rfl) ?_
  simp [hgg, and_i64, xor_i64, shr33, shr47]
  have ha := and255 (xor64 (h1.fdiv 8589934592) (h1.fdiv 140737488355328))
  generalize and64 (xor64 (h1.fdiv 8589934592) (h1.fdiv 140737488355328)) 255 = x at *
  (repeat refine AWp.seq ?_); refine AWp.region allP (by kernel_rfl) ?_
  simp [hgg]
  by_cases hlt : i < l.length
  · obtain ⟨n, rfl⟩ := Int.eq_ofNat_of_zero_le hi0
    have hln : n < l.length := by omega
    have hq : l[n]? = some l[n] := List.getElem?_eq_getElem hln
    have hw : IntKind.wrap .i64 ((n : Int) + 1) = (n : Int) + 1 := wrap64 (by omega) (by omega)
    have hx : ∀ m, idxA Try.prog m 22 (.lst false 1 (l.map (AV.int .u8))) (.int .i64 n) = some (.ref [.int .u8 l[n]]) := fun m => idx (y := .int .u8 l[n]) es_22 (by simp [hq])
    (repeat refine AWp.seq ?_); refine AWp.condT (by simp [hln]) ?_
    (repeat refine AWp.seq ?_); refine AWp.region allP (by kernel_rfl) ?_
    simp [hgg, hx, and_i64]
    have hb2 := and255 (IntKind.wrap .i64 (x + IntKind.wrap .i64 l[n]))
    generalize and64 (IntKind.wrap .i64 (x + IntKind.wrap .i64 l[n])) 255 = y at *
    (repeat refine AWp.seq ?_); refine AWp.region noP (by kernel_rfl) ?_
    simp [hgg, hw]
    (repeat refine AWp.seq ?_); refine AWp.region noP (by kernel_rfl) ?_
    simp
    refine AWp.ret (post_retW rfl ⟨_, _, View.refl _ _, ?_⟩)
    simp
    exact hK y _ hb2.1 hb2.2 ⟨n + 1, h1, by omega, by omega, by simp [set_at, bys]⟩ fun k hk => by rw [set_at, if_neg hk]; exact ho k hk
  · (repeat refine AWp.seq ?_); refine AWp.condF (by simp; omega) ?_
    refine AWp.skip ?_
    try simp
    (repeat refine AWp.seq ?_); refine AWp.region noP (by kernel_rfl) ?_
    simp
    refine AWp.ret (post_retW rfl ⟨_, _, View.refl _ _, ?_⟩)
    simp
    exact hK x m1 ha.1 ha.2 ⟨i, h1, hi0, hil, hgg⟩ ho
theorem c_l1Below {l : List Int} (hl : byOk l) {g : Nat} {m : Mem} (hm : Cur l g m) (n : Int) (h0 : 0 < n) {K : AV → Mem → Prop} (hK : ∀ x m', 0 ≤ x → x < n → Cur l g m' → (∀ k, k ≠ g → m' k = m k) → K (.int .i64 x) m') : WCall Try.prog 33 [.ptr g 0, .int .i64 n] m K := by
  refine wcall_of Try.func33 (by kernel_rfl) rfl (by simp [Try.f33]) ?_
  (repeat refine AWp.seq ?_); refine AWp.region noP (by kernel_rfl) ?_
  try simp
  (repeat refine AWp.seq ?_); refine AWp.region noP (by kernel_rfl) ?_
  try simp
  (repeat refine AWp.seq ?_); refine AWp.condF (by simp; omega) ?_
  refine AWp.skip ?_
  try simp
  (repeat refine AWp.seq ?_); refine AWp.region noP (by kernel_rfl) ?_
  try simp
  have key : ∀ x : Int, 0 ≤ x → 0 ≤ x.tmod n ∧ x.tmod n < n := fun x hx => by
    rw [Int.tmod_eq_emod_of_nonneg hx]; exact ⟨Int.emod_nonneg _ (by omega), Int.emod_lt_of_pos _ h0⟩
  have hn : ¬ n = 0 := by omega
  by_cases h2 : n ≤ 256
  · (repeat refine AWp.seq ?_); refine AWp.condT (by simp [h2]) ?_
    (repeat refine AWp.seq ?_); refine AWp.region noP (by kernel_rfl) ?_
    simp
    refine aop_wcall _ _ _ _ _ _ _ _ rfl (eval_func _ _) ?_
    refine c_l1Byte hl hm fun x m' x0 x1 hc ho => ?_
    simp [hn]
    refine AWp.ret (post_retW rfl ⟨_, _, View.refl _ _, ?_⟩)
    simp
    exact hK _ _ (key x x0).1 (key x x0).2 hc ho
  · (repeat refine AWp.seq ?_); refine AWp.condF (by simp; omega) ?_
    refine AWp.skip ?_
    try simp
    (repeat refine AWp.seq ?_); refine AWp.region noP (by kernel_rfl) ?_
    simp
    refine aop_wcall _ _ _ _ _ _ _ _ rfl (eval_func _ _) ?_
    refine c_l1Byte hl hm fun x m1 x0 x1 hc1 ho1 => ?_
    simp
    (repeat refine AWp.seq ?_); refine AWp.region noP (by kernel_rfl) ?_
    simp
    refine aop_wcall _ _ _ _ _ _ _ _ rfl (eval_func _ _) ?_
    refine c_l1Byte hl hc1 fun y m2 y0 y1 hc2 ho2 => ?_
    simp
    (repeat refine AWp.seq ?_); refine AWp.region noP (by kernel_rfl) ?_
    simp
    refine aop_wcall _ _ _ _ _ _ _ _ rfl (eval_func _ _) ?_
    refine c_l1Byte hl hc2 fun z m3 z0 z1 hc3 ho3 => ?_
    simp
    have w1 : IntKind.wrap .i64 (x * 65536) = x * 65536 := wrap64 (by omega) (by omega)
    have w2 : IntKind.wrap .i64 (y * 256) = y * 256 := wrap64 (by omega) (by omega)
    have w3 : IntKind.wrap .i64 (x * 65536 + y * 256) = x * 65536 + y * 256 := wrap64 (by omega) (by omega)
    have w4 : IntKind.wrap .i64 (x * 65536 + y * 256 + z) = x * 65536 + y * 256 + z := wrap64 (by omega) (by omega)
    (repeat refine AWp.seq ?_); refine AWp.region noP (by kernel_rfl) ?_
    simp [w1, w2, w3, w4, hn]
    refine AWp.ret (post_retW rfl ⟨_, _, View.refl _ _, ?_⟩)
    simp
    exact hK _ _ (key _ (by omega)).1 (key _ (by omega)).2 hc3 fun k hk => (ho3 k hk).trans ((ho2 k hk).trans (ho1 k hk))
theorem c_l1Once {l : List Int} (hl : byOk l) {g : Nat} {m : Mem} (hm : Cur l g m) (n : Int) (h0 : 0 < n) {K : AV → Mem → Prop} (hK : ∀ b m', Cur l g m' → (∀ k, k ≠ g → m' k = m k) → K (.bool b) m') : WCall Try.prog 32 [.ptr g 0, .int .i64 n] m K := by
  refine wcall_of Try.func32 (by kernel_rfl) rfl (by simp [Try.f32]) ?_
  (repeat refine AWp.seq ?_); refine AWp.region noP (by kernel_rfl) ?_
  try simp
  (repeat refine AWp.seq ?_); refine AWp.region noP (by kernel_rfl) ?_
  simp
  refine aop_wcall _ _ _ _ _ _ _ _ rfl (eval_func _ _) ?_
  refine c_l1Below hl hm n h0 fun x m' x0 x1 hc ho => ?_
  simp
  refine AWp.ret (post_retW rfl ⟨_, _, View.refl _ _, ?_⟩)
  simp
  exact hK _ _ hc ho
theorem c_l1Int {l : List Int} (hl : byOk l) {g : Nat} {m : Mem} (hm : Cur l g m) (f : Bool) (ns : List Int) (h0 : 0 < ns.length) (h1 : ns.length ≤ 1000) {K : AV → Mem → Prop} (hK : ∀ x m', x ∈ ns → Cur l g m' → (∀ k, k ≠ g → m' k = m k) → K (.int .i64 x) m') : WCall Try.prog 38 [.ptr g 0, .lst f 1 (ns.map (AV.int .i64))] m K := by
  refine wcall_of Try.func38 (by kernel_rfl) rfl (by simp [Try.f38]) ?_
  (repeat refine AWp.seq ?_); refine AWp.region noP (by kernel_rfl) ?_
  try simp
  (repeat refine AWp.seq ?_); refine AWp.region noP (by kernel_rfl) ?_
  simp
  refine aop_wcall _ _ _ _ _ _ _ _ rfl (eval_func _ _) ?_
  refine c_l1Below hl hm ns.length (by omega) fun x m' x0 x1 hc ho => ?_
  obtain ⟨j, rfl⟩ := Int.eq_ofNat_of_zero_le x0
  have hj : j < ns.length := by omega
  have hx : ∀ m, idxA Try.prog m 43 (.lst f 1 (ns.map (AV.int .i64))) (.int .i64 j) = some (.ref [.int .i64 ns[j]]) := fun m => idx (y := .int .i64 ns[j]) es_43 (by simp [List.getElem?_eq_getElem hj])
  simp [hx]
  refine AWp.ret (post_retW rfl ⟨_, _, View.refl _ _, ?_⟩)
  simp
  exact hK _ _ (List.getElem_mem hj) hc ho
end Go.T
namespace Go.T
open Go Go.Proofs
set_option maxRecDepth 10000
set_option linter.unusedSimpArgs false
set_option linter.unusedVariables false
theorem max_if (x y : Int) : (if x < y then y else x) = max x y := by omega
theorem wr32_rng (n : Int) : -2147483648 ≤ wr32 n ∧ wr32 n ≤ 2147483647 := by
  unfold wr32 IntKind.wrap
  simp [IntKind.bits, IntKind.signed]
  omega
theorem wr32_and (n : Int) : ((BitVec.ofInt 64 n &&& BitVec.ofInt 64 4294967295).toNat : Int) = n % 4294967296 := by
  rw [BitVec.toNat_and, BitVec.toNat_ofInt, BitVec.toNat_ofInt]
  have h : ((4294967295 : Int) % ((2 ^ 64 : Nat) : Int)).toNat = 2 ^ 32 - 1 := by decide
  rw [h, Nat.and_two_pow_sub_one_eq_mod]
  omega
theorem wr32_eq (n : Int) : wr32 n = if n % 4294967296 ≥ 2147483648 then n % 4294967296 - 4294967296 else n % 4294967296 := by
  unfold wr32 IntKind.wrap
  simp [IntKind.bits, IntKind.signed]
  try (split <;> omega)
theorem c_impl_Wrap (n : Int) : PCall Try.prog 10 [.int .i64 n] (.int .i64 (wr32 n)) := by
  refine pcall_of Try.func10 (by kernel_rfl) rfl (by simp [Try.f10]) ?_
  have hw : IntKind.wrap .i64 (IntKind.wrap .i32 n) = wr32 n := by have := wr32_rng n; unfold wr32 at this ⊢; exact wrap64 (by omega) (by omega)
  (repeat refine AWp.seq ?_); refine AWp.region noP (by kernel_rfl) ?_
  try simp
  (repeat refine AWp.seq ?_); refine AWp.region noP (by kernel_rfl) ?_
  simp [hw]
  exact AWp.ret (post_ret1 rfl (by simp))
theorem c_spec_Wrap (n : Int) : PCall Try.prog 12 [.int .i64 n] (.int .i64 (wr32 n)) := by
  refine pcall_of Try.func12 (by kernel_rfl) rfl (by simp [Try.f12]) ?_
  have hb := wr32_and n
  have he := wr32_eq n
  have hw1 : IntKind.wrap .i64 ((BitVec.ofInt 64 n &&& BitVec.ofInt 64 4294967295).toNat : Int) = n % 4294967296 := by rw [hb]; exact wrap64 (by omega) (by omega)
  have hand : intA .and .i64 n 4294967295 = some (.int .i64 (n % 4294967296)) := congrArg (fun x => some (AV.int .i64 x)) hw1
  have hw2 : IntKind.wrap .i64 (n % 4294967296 - 4294967296) = n % 4294967296 - 4294967296 := wrap64 (by omega) (by omega)
  (repeat refine AWp.seq ?_); refine AWp.region noP (by kernel_rfl) ?_
  try simp
  (repeat refine AWp.seq ?_); refine AWp.region noP (by kernel_rfl) ?_
  simp [hand]
  (repeat refine AWp.seq ?_); refine AWp.region noP (by kernel_rfl) ?_
  try simp
  by_cases h : n % 4294967296 ≥ 2147483648
  · rw [if_pos h] at he
    rw [he]
    (repeat refine AWp.seq ?_); refine AWp.condT (by simp; omega) ?_
    (repeat refine AWp.seq ?_); refine AWp.region noP (by kernel_rfl) ?_
    simp [hw2]
    exact AWp.ret (post_ret1 rfl (by simp))
  · rw [if_neg h] at he
    rw [he]
    (repeat refine AWp.seq ?_); refine AWp.condF (by simp; omega) ?_
    refine AWp.skip ?_
    try simp
    (repeat refine AWp.seq ?_); refine AWp.region noP (by kernel_rfl) ?_
    try simp
    exact AWp.ret (post_ret1 rfl (by simp))
theorem c_size (n : Int) (h : -2147483648 ≤ n ∧ n ≤ 2147483647) : PCall Try.prog 34 [.int .i64 n] (.int .i64 (n.natAbs : Nat)) := by
  refine pcall_of Try.func34 (by kernel_rfl) rfl (by simp [Try.f34]) ?_
  have hw : IntKind.wrap .i64 (-n) = -n := wrap64 (by omega) (by omega)
  have he : max n (-n) = (n.natAbs : Nat) := by omega
  (repeat refine AWp.seq ?_); refine AWp.region noP (by kernel_rfl) ?_
  try simp
  (repeat refine AWp.seq ?_); refine AWp.region noP (by kernel_rfl) ?_
  simp [hw, max_if, he]
  exact AWp.ret (post_ret1 rfl (by simp))
theorem c_l1Abs (n : Int) (h : -2147483648 ≤ n ∧ n ≤ 2147483647) : PCall Try.prog 35 [.int .i64 n] (.int .i64 (n.natAbs : Nat)) := by
  refine pcall_of Try.func35 (by kernel_rfl) rfl (by simp [Try.f35]) ?_
  have hw : IntKind.wrap .i64 (-n) = -n := wrap64 (by omega) (by omega)
  (repeat refine AWp.seq ?_); refine AWp.region noP (by kernel_rfl) ?_
  try simp
  (repeat refine AWp.seq ?_); refine AWp.region noP (by kernel_rfl) ?_
  try simp
  by_cases hn : n < 0
  · have he : ((n.natAbs : Nat) : Int) = -n := by omega
    rw [he]
    (repeat refine AWp.seq ?_); refine AWp.condT (by simp [hn]) ?_
    (repeat refine AWp.seq ?_); refine AWp.region noP (by kernel_rfl) ?_
    simp [hw]
    exact AWp.ret (post_ret1 rfl (by simp))
  · have he : ((n.natAbs : Nat) : Int) = n := by omega
    rw [he]
    (repeat refine AWp.seq ?_); refine AWp.condF (by simp [hn]) ?_
    refine AWp.skip ?_
    try simp
    (repeat refine AWp.seq ?_); refine AWp.region noP (by kernel_rfl) ?_
    try simp
    exact AWp.ret (post_ret1 rfl (by simp))
theorem c_impl_Gcd (a b : Int) : PCall Try.prog 9 [.int .i64 a, .int .i64 b] (.int .i64 (gcdW a b)) := by
  have ra := wr32_rng a
  have rb := wr32_rng b
  refine pcall_of Try.func9 (by kernel_rfl) rfl (by simp [Try.f9]) ?_
  (repeat refine AWp.seq ?_); refine AWp.region noP (by kernel_rfl) ?_
  try simp
  (repeat refine AWp.seq ?_); refine AWp.region allP (by kernel_rfl) ?_
  try simp
  refine aop_call' (c_impl_Wrap a) ?_
  try simp
  refine aop_call' (c_size _ ra) ?_
  try simp
  refine aop_call' (c_impl_Wrap b) ?_
  try simp
  refine aop_call' (c_size _ rb) ?_
  try simp
  (repeat refine AWp.seq ?_); refine AWp.block (AWp.rounds (fun m st => ∃ (x y : Nat), m = y ∧ x ≤ 2147483648 ∧ y ≤ 2147483648 ∧ Nat.gcd x y = Nat.gcd (wr32 a).natAbs (wr32 b).natAbs ∧ st.slots 0 = .int .i64 x ∧ st.slots 1 = .int .i64 y) (wr32 b).natAbs ⟨(wr32 a).natAbs, (wr32 b).natAbs, by simp, by omega, by omega, by simp, by simp, by simp⟩ ?_)
  rintro R m st hR ⟨x, y, rfl, hx, hy, hg, sa, sb⟩
  (repeat refine AWp.seq ?_); refine AWp.region noP (by kernel_rfl) ?_
  try simp [sa, sb]
  by_cases h : m = 0
  · (repeat refine AWp.seq ?_); refine AWp.condF (by simp [h]) ?_
    refine AWp.exit ?_
    try simp
    (repeat refine AWp.seq ?_); refine AWp.region noP (by kernel_rfl) ?_
    simp [sa, sb]
    have he : gcdW a b = x := by unfold gcdW; rw [← hg, h, Nat.gcd_zero_right]
    exact AWp.ret (post_ret1 rfl (by simp [he]))
  · (repeat refine AWp.seq ?_); refine AWp.condT (by simp [h]) ?_
    refine AWp.skip ?_
    try simp
    have hmod : ((x : Int).tmod (m : Int)) = ((x % m : Nat) : Int) := by rw [Int.tmod_eq_emod_of_nonneg (by omega)]; rfl
    have hlt : x % m < m := Nat.mod_lt _ (by omega)
    have hgm : Nat.gcd m (x % m) = Nat.gcd x m := by rw [Nat.gcd_comm m (x % m), ← Nat.gcd_rec, Nat.gcd_comm]
    (repeat refine AWp.seq ?_); refine AWp.block ?_
    (repeat refine AWp.seq ?_); refine AWp.regionF (fun _ => false) (fun _ => false) [0, 1, 2, 3, 4, 5] (by kernel_rfl) ?_
    simp [sa, sb, h, hmod]
    exact hR _ (x % m) (by omega) ⟨m, x % m, rfl, by omega, by omega, by rw [hgm, hg], by simp, by simp⟩
theorem c_spec_Gcd (a b : Int) : PCall Try.prog 13 [.int .i64 a, .int .i64 b] (.int .i64 (gcdW a b)) := by
  have ra := wr32_rng a
  have rb := wr32_rng b
  refine pcall_of Try.func13 (by kernel_rfl) rfl (by simp [Try.f13]) ?_
  (repeat refine AWp.seq ?_); refine AWp.region noP (by kernel_rfl) ?_
  try simp
  (repeat refine AWp.seq ?_); refine AWp.region allP (by kernel_rfl) ?_
  try simp
  refine aop_call' (c_spec_Wrap a) ?_
  try simp
  refine aop_call' (c_l1Abs _ ra) ?_
  try simp
  (repeat refine AWp.seq ?_); refine AWp.region allP (by kernel_rfl) ?_
  try simp
  refine aop_call' (c_spec_Wrap b) ?_
  try simp
  refine aop_call' (c_l1Abs _ rb) ?_
  try simp
  (repeat refine AWp.seq ?_); refine AWp.block (AWp.rounds (fun m st => ∃ (x y : Nat), m = y ∧ x ≤ 2147483648 ∧ y ≤ 2147483648 ∧ Nat.gcd x y = Nat.gcd (wr32 a).natAbs (wr32 b).natAbs ∧ st.slots 5 = .int .i64 x ∧ st.slots 6 = .int .i64 y) (wr32 b).natAbs ⟨(wr32 a).natAbs, (wr32 b).natAbs, by simp, by omega, by omega, by simp, by simp, by simp⟩ ?_)
  rintro R m st hR ⟨x, y, rfl, hx, hy, hg, sa, sb⟩
  (repeat refine AWp.seq ?_); refine AWp.region noP (by kernel_rfl) ?_
  try simp [sa, sb]
  by_cases h : m = 0
  · (repeat refine AWp.seq ?_); refine AWp.condF (by simp [h]) ?_
    refine AWp.exit ?_
    try simp
    (repeat refine AWp.seq ?_); refine AWp.region noP (by kernel_rfl) ?_
    simp [sa, sb]
    have he : gcdW a b = x := by unfold gcdW; rw [← hg, h, Nat.gcd_zero_right]
    exact AWp.ret (post_ret1 rfl (by simp [he]))
  · (repeat refine AWp.seq ?_); refine AWp.condT (by simp [h]) ?_
    refine AWp.skip ?_
    try simp
    have hmod : ((x : Int).tmod (m : Int)) = ((x % m : Nat) : Int) := by rw [Int.tmod_eq_emod_of_nonneg (by omega)]; rfl
    have hlt : x % m < m := Nat.mod_lt _ (by omega)
    have hgm : Nat.gcd m (x % m) = Nat.gcd x m := by rw [Nat.gcd_comm m (x % m), ← Nat.gcd_rec, Nat.gcd_comm]
    (repeat refine AWp.seq ?_); refine AWp.block ?_
    (repeat refine AWp.seq ?_); refine AWp.region noP (by kernel_rfl) ?_
    simp [sa, sb, h, hmod]
    (repeat refine AWp.seq ?_); refine AWp.region noP (by kernel_rfl) ?_
    simp [sa, sb, h, hmod]
    (repeat refine AWp.seq ?_); refine AWp.region noP (by kernel_rfl) ?_
    simp [sa, sb, h, hmod]
    exact hR _ (x % m) (by omega) ⟨m, x % m, rfl, by omega, by omega, by rw [hgm, hg], by simp, by simp⟩
def addW (a b : Int) : Int := wr32 (wr32 a + wr32 b)
def subW (a b : Int) : Int := wr32 (wr32 a - wr32 b)
def mulW (a b : Int) : Int := wr32 (wr32 a * wr32 b)
theorem wr32_wr32 (n : Int) : wr32 (wr32 n) = wr32 n := by
  have h := wr32_rng n
  rw [wr32_eq (wr32 n)]
  split <;> omega
theorem wr32_mul (a b : Int) : -4611686018427387904 ≤ wr32 a * wr32 b ∧ wr32 a * wr32 b ≤ 4611686018427387904 := by
  have h1 := wr32_rng a
  have h2 := wr32_rng b
  have := mul_small (a := wr32 a) (b := wr32 b) (A := 2147483648) (B := 2147483648) (by omega) (by omega) (by omega) (by omega) (by omega)
  omega
theorem c_impl_AddW (a b : Int) : PCall Try.prog 14 [.int .i64 a, .int .i64 b] (.int .i64 (addW a b)) := by
  have h1 := wr32_rng a
  have h2 := wr32_rng b
  have h3 := wr32_mul a b
  have hw : IntKind.wrap .i64 (wr32 a + wr32 b) = wr32 a + wr32 b := wrap64 (by omega) (by omega)
  refine pcall_of Try.func14 (by kernel_rfl) rfl (by simp [Try.f14]) ?_
  (repeat refine AWp.seq ?_); refine AWp.region noP (by kernel_rfl) ?_
  try simp
  (repeat refine AWp.seq ?_); refine AWp.region allP (by kernel_rfl) ?_
  try simp
  refine aop_call' (c_impl_Wrap a) ?_
  try simp
  refine aop_call' (c_impl_Wrap b) ?_
  simp [hw]
  refine aop_call' (c_impl_Wrap _) ?_
  try simp
  exact AWp.ret (post_ret1 rfl (by simp [addW]))
theorem c_impl_SubW (a b : Int) : PCall Try.prog 15 [.int .i64 a, .int .i64 b] (.int .i64 (subW a b)) := by
  have h1 := wr32_rng a
  have h2 := wr32_rng b
  have h3 := wr32_mul a b
  have hw : IntKind.wrap .i64 (wr32 a - wr32 b) = wr32 a - wr32 b := wrap64 (by omega) (by omega)
  refine pcall_of Try.func15 (by kernel_rfl) rfl (by simp [Try.f15]) ?_
  (repeat refine AWp.seq ?_); refine AWp.region noP (by kernel_rfl) ?_
  try simp
  (repeat refine AWp.seq ?_); refine AWp.region allP (by kernel_rfl) ?_
  try simp
  refine aop_call' (c_impl_Wrap a) ?_
  try simp
  refine aop_call' (c_impl_Wrap b) ?_
  simp [hw]
  refine aop_call' (c_impl_Wrap _) ?_
  try simp
  exact AWp.ret (post_ret1 rfl (by simp [subW]))
theorem c_impl_MulW (a b : Int) : PCall Try.prog 16 [.int .i64 a, .int .i64 b] (.int .i64 (mulW a b)) := by
  have h1 := wr32_rng a
  have h2 := wr32_rng b
  have h3 := wr32_mul a b
  have hw : IntKind.wrap .i64 (wr32 a * wr32 b) = wr32 a * wr32 b := wrap64 (by omega) (by omega)
  refine pcall_of Try.func16 (by kernel_rfl) rfl (by simp [Try.f16]) ?_
  (repeat refine AWp.seq ?_); refine AWp.region noP (by kernel_rfl) ?_
  try simp
  (repeat refine AWp.seq ?_); refine AWp.region allP (by kernel_rfl) ?_
  try simp
  refine aop_call' (c_impl_Wrap a) ?_
  try simp
  refine aop_call' (c_impl_Wrap b) ?_
  simp [hw]
  refine aop_call' (c_impl_Wrap _) ?_
  try simp
  exact AWp.ret (post_ret1 rfl (by simp [mulW]))
theorem c_spec_AddW (a b : Int) : PCall Try.prog 18 [.int .i64 a, .int .i64 b] (.int .i64 (addW a b)) := by
  have h1 := wr32_rng a
  have h2 := wr32_rng b
  have h3 := wr32_mul a b
  have hw : IntKind.wrap .i64 (wr32 a + wr32 b) = wr32 a + wr32 b := wrap64 (by omega) (by omega)
  refine pcall_of Try.func18 (by kernel_rfl) rfl (by simp [Try.f18]) ?_
  (repeat refine AWp.seq ?_); refine AWp.region noP (by kernel_rfl) ?_
  try simp
  (repeat refine AWp.seq ?_); refine AWp.region allP (by kernel_rfl) ?_
  try simp
  refine aop_call' (c_spec_Wrap a) ?_
  try simp
  refine aop_call' (c_spec_Wrap b) ?_
  simp [hw]
  refine aop_call' (c_spec_Wrap _) ?_
  try simp
  exact AWp.ret (post_ret1 rfl (by simp [addW]))
theorem c_spec_SubW (a b : Int) : PCall Try.prog 19 [.int .i64 a, .int .i64 b] (.int .i64 (subW a b)) := by
  have h1 := wr32_rng a
  have h2 := wr32_rng b
  have h3 := wr32_mul a b
  have hw : IntKind.wrap .i64 (wr32 a - wr32 b) = wr32 a - wr32 b := wrap64 (by omega) (by omega)
  refine pcall_of Try.func19 (by kernel_rfl) rfl (by simp [Try.f19]) ?_
  (repeat refine AWp.seq ?_); refine AWp.region noP (by kernel_rfl) ?_
  try simp
  (repeat refine AWp.seq ?_); refine AWp.region allP (by kernel_rfl) ?_
  try simp
  refine aop_call' (c_spec_Wrap a) ?_
  try simp
  refine aop_call' (c_spec_Wrap b) ?_
  simp [hw]
  refine aop_call' (c_spec_Wrap _) ?_
  try simp
  exact AWp.ret (post_ret1 rfl (by simp [subW]))
theorem c_spec_MulW (a b : Int) : PCall Try.prog 17 [.int .i64 a, .int .i64 b] (.int .i64 (mulW a b)) := by
  have h1 := wr32_rng a
  have h2 := wr32_rng b
  have h3 := wr32_mul a b
  have hw : IntKind.wrap .i64 (wr32 a * wr32 b) = wr32 a * wr32 b := wrap64 (by omega) (by omega)
  refine pcall_of Try.func17 (by kernel_rfl) rfl (by simp [Try.f17]) ?_
  (repeat refine AWp.seq ?_); refine AWp.region noP (by kernel_rfl) ?_
  try simp
  (repeat refine AWp.seq ?_); refine AWp.region allP (by kernel_rfl) ?_
  try simp
  refine aop_call' (c_spec_Wrap a) ?_
  try simp
  refine aop_call' (c_spec_Wrap b) ?_
  simp [hw]
  refine aop_call' (c_spec_Wrap _) ?_
  try simp
  exact AWp.ret (post_ret1 rfl (by simp [mulW]))
theorem c_word (n : Int) : PCall Try.prog 11 [.int .i64 n] (.bool (inR n (-2147483648) 2147483647)) := by
  refine pcall_of Try.func11 (by kernel_rfl) rfl (by simp [Try.f11]) ?_
  (repeat refine AWp.seq ?_); refine AWp.region noP (by kernel_rfl) ?_
  try simp
  (repeat refine AWp.seq ?_); refine AWp.region noP (by kernel_rfl) ?_
  by_cases h : -2147483648 ≤ n <;> by_cases k : n ≤ 2147483647 <;> simp [h, k]
  all_goals exact AWp.ret (post_ret1 rfl (by simp [inR, h, k]))
theorem c_big (l : List Int) (hl : byOk l) : PCall Try.prog 5 [bys l] (.bool false) := by
  refine pcall_of Try.func5 (by kernel_rfl) rfl (by simp [Try.f5]) ?_
  unfold bys
  (repeat refine AWp.seq ?_); refine AWp.region noP (by kernel_rfl) ?_
  try simp
  (repeat refine AWp.seq ?_); refine AWp.region noP (by kernel_rfl) ?_
  simp
  exact AWp.ret (post_ret1 rfl (by simp; have := hl.1; omega))
theorem c_bigT (l : List Int) (hl : ¬ l.length ≤ 1048576) : PCall Try.prog 5 [bys l] (.bool true) := by
  refine pcall_of Try.func5 (by kernel_rfl) rfl (by simp [Try.f5]) ?_
  unfold bys
  (repeat refine AWp.seq ?_); refine AWp.region noP (by kernel_rfl) ?_
  try simp
  (repeat refine AWp.seq ?_); refine AWp.region noP (by kernel_rfl) ?_
  simp
  exact AWp.ret (post_ret1 rfl (by simp; omega))
def words : List Int := [0, 1, 2, 3, 7, -1, -5, 100, 65536, 2147483647, -2147483648, 2147483648, 4294967296, -2147483649, 9223372036854775807, -9223372036854775808]
theorem words_in {x : Int} (h : x ∈ words) : in64 x := by
  have : ∀ x ∈ words, -9223372036854775808 ≤ x ∧ x ≤ 9223372036854775807 := by decide
  exact this x h
theorem c_l1Word {l : List Int} (hl : byOk l) {g : Nat} {m : Mem} (hm : Cur l g m) {K : AV → Mem → Prop} (hK : ∀ x m', in64 x → Cur l g m' → (∀ k, k ≠ g → m' k = m k) → K (.int .i64 x) m') : WCall Try.prog 31 [.ptr g 0] m K := by
  refine wcall_of Try.func31 (by kernel_rfl) rfl (by simp [Try.f31]) ?_
  (repeat refine AWp.seq ?_); refine AWp.region noP (by kernel_rfl) ?_
  try simp
  (repeat refine AWp.seq ?_); refine AWp.region noP (by kernel_rfl) ?_
  simp
  refine aop_wcall _ _ _ _ _ _ _ _ rfl (eval_func _ _) ?_
  refine c_l1Int hl hm true words (by decide) (by decide) fun x m' hx hc ho => ?_
  simp
  refine AWp.ret (post_retW rfl ⟨_, _, View.refl _ _, ?_⟩)
  simp
  exact hK _ _ (words_in hx) hc ho
theorem c_DrawWrap (l : List Int) (hl : byOk l) {m : Mem} {K : AV → Mem → Prop} (hK : ∀ x m', in64 x → Ext m m' → K (.int .i64 x) m') : WCall Try.prog 6 [bys l] m K := by
  refine wcall_of Try.func6 (by kernel_rfl) rfl (by simp [Try.f6]) ?_
  (repeat refine AWp.seq ?_); refine AWp.region noP (by kernel_rfl) ?_
  try simp
  (repeat refine AWp.seq ?_); refine AWp.region noP (by kernel_rfl) ?_
  simp
  refine aop_wcall _ _ _ _ _ _ _ _ rfl (eval_func _ _) ?_
  refine c_l1New l hl fun g m1 hg hc hE => ?_
  simp
  (repeat refine AWp.seq ?_); refine AWp.region noP (by kernel_rfl) ?_
  simp
  refine aop_wcall _ _ _ _ _ _ _ _ rfl (eval_func _ _) ?_
  refine c_l1Word hl hc fun x m2 hx hc2 ho => ?_
  simp
  refine AWp.ret (post_retW rfl ⟨_, _, View.refl _ _, ?_⟩)
  simp
  refine hK _ _ hx fun k b hk => ?_
  have : k ≠ g := by rintro rfl; simp at hg; rw [hg] at hk; cases hk
  rw [ho k this]; exact hE k b (by simpa using hk)
theorem post_retW2 {P : Program} {fn : Func} {t u : Tmp} {k : AV → Mem → Prop} {s : St} (hr : fn.results = #[.tmp t, .tmp u]) (h : k (.tup [s.slots t, s.slots u]) s.mem) : Post P fn k .ret s :=
  ⟨[s.slots t, s.slots u], _, s.mem, by rw [hr]; rfl, View.refl _ _, h⟩
theorem post_retW3 {P : Program} {fn : Func} {t u v : Tmp} {k : AV → Mem → Prop} {s : St} (hr : fn.results = #[.tmp t, .tmp u, .tmp v]) (h : k (.tup [s.slots t, s.slots u, s.slots v]) s.mem) : Post P fn k .ret s :=
  ⟨[s.slots t, s.slots u, s.slots v], _, s.mem, by rw [hr]; rfl, View.refl _ _, h⟩
theorem ext_cur {m m1 m2 : Mem} {g : Nat} (hg : m g = none) (hE : Ext m m1) (ho : ∀ k, k ≠ g → m2 k = m1 k) : Ext m m2 := fun k b hk => by
  have : k ≠ g := by rintro rfl; rw [hg] at hk; cases hk
  rw [ho k this]; exact hE k b hk
theorem c_DrawAddW (l : List Int) (hl : byOk l) {m : Mem} {K : AV → Mem → Prop} (hK : ∀ x y m', in64 x → in64 y → Ext m m' → K (.tup [.int .i64 x, .int .i64 y]) m') : WCall Try.prog 7 [bys l] m K := by
  refine wcall_of Try.func7 (by kernel_rfl) rfl (by simp [Try.f7]) ?_
  (repeat refine AWp.seq ?_); refine AWp.region noP (by kernel_rfl) ?_
  try simp
  (repeat refine AWp.seq ?_); refine AWp.region noP (by kernel_rfl) ?_
  simp
  refine aop_wcall _ _ _ _ _ _ _ _ rfl (eval_func _ _) ?_
  refine c_l1New l hl fun g m1 hg hc hE => ?_
  simp
  (repeat refine AWp.seq ?_); refine AWp.region noP (by kernel_rfl) ?_
  simp
  refine aop_wcall _ _ _ _ _ _ _ _ rfl (eval_func _ _) ?_
  refine c_l1Word hl hc fun x m2 hx hc2 ho2 => ?_
  simp
  refine aop_wcall _ _ _ _ _ _ _ _ rfl (eval_func _ _) ?_
  refine c_l1Word hl (by simpa using hc2) fun y m3 hy hc3 ho3 => ?_
  simp
  refine AWp.ret (post_retW2 rfl ?_)
  simp
  exact hK _ _ _ hx hy (ext_cur (by simpa using hg) (by simpa using hE) fun k hk => (ho3 k hk).trans (ho2 k hk))
theorem c_DrawGcd (l : List Int) (hl : byOk l) {m : Mem} {K : AV → Mem → Prop} (hK : ∀ x y m', in64 x → in64 y → Ext m m' → K (.tup [.int .i64 x, .int .i64 y]) m') : WCall Try.prog 8 [bys l] m K := by
  refine wcall_of Try.func8 (by kernel_rfl) rfl (by simp [Try.f8]) ?_
  (repeat refine AWp.seq ?_); refine AWp.region noP (by kernel_rfl) ?_
  try simp
  (repeat refine AWp.seq ?_); refine AWp.region noP (by kernel_rfl) ?_
  simp
  refine aop_wcall _ _ _ _ _ _ _ _ rfl (eval_func _ _) ?_
  refine c_l1New l hl fun g m1 hg hc hE => ?_
  simp
  (repeat refine AWp.seq ?_); refine AWp.region noP (by kernel_rfl) ?_
  simp
  refine aop_wcall _ _ _ _ _ _ _ _ rfl (eval_func _ _) ?_
  refine c_l1Once hl hc 2 (by omega) fun b m2 hc2 ho2 => ?_
  simp
  cases b
  · (repeat refine AWp.seq ?_); refine AWp.condF (by simp) ?_
    refine AWp.skip ?_
    try simp
    (repeat refine AWp.seq ?_); refine AWp.region noP (by kernel_rfl) ?_
    simp
    refine aop_wcall _ _ _ _ _ _ _ _ rfl (eval_func _ _) ?_
    refine c_l1Word hl hc2 fun x m3 hx hc3 ho3 => ?_
    simp
    refine aop_wcall _ _ _ _ _ _ _ _ rfl (eval_func _ _) ?_
    refine c_l1Word hl (by simpa using hc3) fun y m4 hy hc4 ho4 => ?_
    simp
    refine AWp.ret (post_retW2 rfl ?_)
    simp
    exact hK _ _ _ hx hy (ext_cur (by simpa using hg) (by simpa using hE) fun k hk => (ho4 k hk).trans ((ho3 k hk).trans (ho2 k hk)))
  · (repeat refine AWp.seq ?_); refine AWp.condT (by simp) ?_
    (repeat refine AWp.seq ?_); refine AWp.region noP (by kernel_rfl) ?_
    simp
    refine aop_wcall _ _ _ _ _ _ _ _ rfl (eval_func _ _) ?_
    refine c_l1Below hl hc2 60 (by omega) fun x m3 x0 x1 hc3 ho3 => ?_
    have hwx : IntKind.wrap .i64 (x - 30) = x - 30 := wrap64 (by omega) (by omega)
    simp [hwx]
    refine aop_wcall _ _ _ _ _ _ _ _ rfl (eval_func _ _) ?_
    refine c_l1Below hl (by simpa using hc3) 60 (by omega) fun y m4 y0 y1 hc4 ho4 => ?_
    have hwy : IntKind.wrap .i64 (y - 30) = y - 30 := wrap64 (by omega) (by omega)
    simp [hwy]
    refine AWp.ret (post_retW2 rfl ?_)
    simp
    exact hK _ _ _ (by constructor <;> omega) (by constructor <;> omega) (ext_cur (by simpa using hg) (by simpa using hE) fun k hk => (ho4 k hk).trans ((ho3 k hk).trans (ho2 k hk)))
theorem wrap_mod (n : Int) : ∃ q, IntKind.wrap .i64 n = n + 18446744073709551616 * q := by
  rw [IntKind.wrap_i64]
  exact ⟨-((n + 9223372036854775808) / 18446744073709551616), by omega⟩
theorem law_diff (n : Int) : (IntKind.wrap .i64 (wr32 n - n)).tmod 4294967296 = 0 := by
  obtain ⟨q, hq⟩ := wrap_mod (wr32 n - n)
  rw [hq]
  apply Int.tmod_eq_zero_of_dvd
  have h := wr32_eq n
  have : (4294967296 : Int) ∣ wr32 n - n := by
    rw [h]; split <;> omega
  omega
theorem law_dvd (x y : Int) : (wr32 x).tmod (gcdW x y) = 0 ∧ (wr32 y).tmod (gcdW x y) = 0 := by
  unfold gcdW
  refine ⟨Int.tmod_eq_zero_of_dvd ?_, Int.tmod_eq_zero_of_dvd ?_⟩
  · exact Int.dvd_natAbs.1 (Int.natCast_dvd_natCast.2 (Nat.gcd_dvd_left _ _))
  · exact Int.dvd_natAbs.1 (Int.natCast_dvd_natCast.2 (Nat.gcd_dvd_right _ _))
theorem law_zero {x y : Int} (h : gcdW x y = 0) : wr32 x = 0 ∧ wr32 y = 0 := by
  unfold gcdW at h
  have h2 := Nat.gcd_eq_zero_iff.1 (Int.ofNat.inj h)
  omega
theorem law_sub (a b : Int) : subW (addW a b) b = wr32 a := by
  have h1 := wr32_rng a
  have h2 := wr32_rng b
  unfold subW addW
  rw [wr32_wr32]
  have h3 := wr32_eq (wr32 a + wr32 b)
  have h4 := wr32_eq (wr32 (wr32 a + wr32 b) - wr32 b)
  generalize wr32 (wr32 a + wr32 b) = k at *
  generalize wr32 (k - wr32 b) = r at *
  split at h3 <;> split at h4 <;> omega
theorem law_add (a b : Int) : addW (subW a b) b = wr32 a := by
  have h1 := wr32_rng a
  have h2 := wr32_rng b
  unfold subW addW
  rw [wr32_wr32]
  have h3 := wr32_eq (wr32 a - wr32 b)
  have h4 := wr32_eq (wr32 (wr32 a - wr32 b) + wr32 b)
  generalize wr32 (wr32 a - wr32 b) = k at *
  generalize wr32 (k + wr32 b) = r at *
  split at h3 <;> split at h4 <;> omega
theorem law_word (n : Int) : inR (wr32 n) (-2147483648) 2147483647 = true := by
  have := wr32_rng n
  unfold inR
  simp
  omega
theorem c_FnNums (l : List Int) (hby : ∀ x ∈ l, 0 ≤ x ∧ x ≤ 255) : PCall Try.prog 3 [bys l] (.bool true) := by
  refine pcall_of Try.func3 (by kernel_rfl) rfl (by simp [Try.f3]) ?_
  by_cases hbig : l.length ≤ 1048576
  rotate_left
  · have cb := c_bigT l hbig
    repeat' (first
    | refine AWp.seq ?_
    | (refine AWp.region allP (by kernel_rfl) ?_; simp)
    | (refine AWp.condG ?_; simp)
    | (refine AWp.skip ?_; try simp)
    | (refine AWp.exit ?_; try simp)
    | refine AWp.block ?_
    | (refine aop_call' (cb) ?_; simp)
    | (refine AWp.ret (post_ret1 rfl ?_); (simp; done))
    | (refine guardI (fun hq => ?_) (fun hq => ?_) <;> (try simp at hq) <;> (try simp))
    | (refine condRunI (fun hq => ?_) (fun hq => ?_) <;> (try simp at hq) <;> (try simp))
    | (refine iteI (fun hq => ?_) (fun hq => ?_) <;> (try simp)))
  have hl : byOk l := ⟨hbig, hby⟩
  have cb := c_big l hl
  (repeat refine AWp.seq ?_); refine AWp.region noP (by kernel_rfl) ?_
  try simp
  (repeat refine AWp.seq ?_); refine AWp.region allP (by kernel_rfl) ?_
  try simp
  refine aop_call' cb ?_
  try simp
  (repeat refine AWp.seq ?_); refine AWp.condF (by simp) ?_
  refine AWp.skip ?_
  try simp
  (repeat refine AWp.seq ?_); refine AWp.region noP (by kernel_rfl) ?_
  simp
  refine aop_wcall _ _ _ _ _ _ _ _ rfl (eval_func _ _) ?_
  refine c_DrawWrap l hl fun n m1 hn _ => ?_
  simp
  (repeat refine AWp.seq ?_); refine AWp.region noP (by kernel_rfl) ?_
  simp
  refine aop_wcall _ _ _ _ _ _ _ _ rfl (eval_func _ _) ?_
  refine c_DrawAddW l hl fun a b m2 ha hb _ => ?_
  simp
  (repeat refine AWp.seq ?_); refine AWp.region noP (by kernel_rfl) ?_
  simp
  refine aop_wcall _ _ _ _ _ _ _ _ rfl (eval_func _ _) ?_
  refine c_DrawGcd l hl fun x y m3 hx hy _ => ?_
  simp
  (repeat refine AWp.seq ?_); refine AWp.region allP (by kernel_rfl) ?_
  simp
  refine aop_call' (c_impl_Gcd x y) ?_
  simp
  (repeat refine AWp.seq ?_); refine AWp.region allP (by kernel_rfl) ?_
  simp
  refine aop_call' (c_impl_Wrap n) ?_
  simp
  (repeat refine AWp.seq ?_); refine AWp.region allP (by kernel_rfl) ?_
  repeat (first | refine aop_call' (c_impl_Wrap _) ?_ | refine aop_call' (c_spec_Wrap _) ?_ | refine aop_call' (c_word _) ?_ | refine aop_call' (c_impl_Gcd _ _) ?_ | refine aop_call' (c_spec_Gcd _ _) ?_ | refine aop_call' (c_impl_AddW _ _) ?_ | refine aop_call' (c_impl_SubW _ _) ?_ | refine aop_call' (c_impl_MulW _ _) ?_ | refine aop_call' (c_spec_AddW _ _) ?_ | refine aop_call' (c_spec_SubW _ _) ?_ | refine aop_call' (c_spec_MulW _ _) ?_ | simp [law_word, law_diff, wr32_wr32])
  (repeat refine AWp.seq ?_); refine AWp.condF (by simp) ?_
  refine AWp.skip ?_
  try simp
  have hd := law_dvd x y
  by_cases hz : gcdW x y = 0
  · have hxy := law_zero hz
    (repeat refine AWp.seq ?_); refine AWp.region allP (by kernel_rfl) ?_
    repeat (first | refine aop_call' (c_impl_Wrap _) ?_ | refine aop_call' (c_spec_Wrap _) ?_ | refine aop_call' (c_word _) ?_ | refine aop_call' (c_impl_Gcd _ _) ?_ | refine aop_call' (c_spec_Gcd _ _) ?_ | refine aop_call' (c_impl_AddW _ _) ?_ | refine aop_call' (c_impl_SubW _ _) ?_ | refine aop_call' (c_impl_MulW _ _) ?_ | refine aop_call' (c_spec_AddW _ _) ?_ | refine aop_call' (c_spec_SubW _ _) ?_ | refine aop_call' (c_spec_MulW _ _) ?_ | simp [hz, hxy.1, hxy.2])
    (repeat refine AWp.seq ?_); refine AWp.condF (by simp) ?_
    refine AWp.skip ?_
    try simp
    (repeat refine AWp.seq ?_); refine AWp.region allP (by kernel_rfl) ?_
    simp
    refine aop_call' (c_impl_AddW a b) ?_
    simp
    (repeat refine AWp.seq ?_); refine AWp.region allP (by kernel_rfl) ?_
    simp
    refine aop_call' (c_impl_SubW a b) ?_
    simp
    (repeat refine AWp.seq ?_); refine AWp.region allP (by kernel_rfl) ?_
    simp
    refine aop_call' (c_impl_MulW a b) ?_
    simp
    have q1 : inR (addW a b) (-2147483648) 2147483647 = true := law_word _
    have q2 : inR (subW a b) (-2147483648) 2147483647 = true := law_word _
    have q3 : inR (mulW a b) (-2147483648) 2147483647 = true := law_word _
    have q4 := law_sub a b
    have q5 := law_add a b
    have q6 : mulW b a = mulW a b := by unfold mulW; rw [Int.mul_comm]
    (repeat refine AWp.seq ?_); refine AWp.region allP (by kernel_rfl) ?_
    repeat (first | refine aop_call' (c_impl_Wrap _) ?_ | refine aop_call' (c_spec_Wrap _) ?_ | refine aop_call' (c_word _) ?_ | refine aop_call' (c_impl_Gcd _ _) ?_ | refine aop_call' (c_spec_Gcd _ _) ?_ | refine aop_call' (c_impl_AddW _ _) ?_ | refine aop_call' (c_impl_SubW _ _) ?_ | refine aop_call' (c_impl_MulW _ _) ?_ | refine aop_call' (c_spec_AddW _ _) ?_ | refine aop_call' (c_spec_SubW _ _) ?_ | refine aop_call' (c_spec_MulW _ _) ?_ | simp [q1, q2, q3, q4, q5, q6])
    exact AWp.ret (post_ret1 rfl (by simp))
  · (repeat refine AWp.seq ?_); refine AWp.region allP (by kernel_rfl) ?_
    repeat (first | refine aop_call' (c_impl_Wrap _) ?_ | refine aop_call' (c_spec_Wrap _) ?_ | refine aop_call' (c_word _) ?_ | refine aop_call' (c_impl_Gcd _ _) ?_ | refine aop_call' (c_spec_Gcd _ _) ?_ | refine aop_call' (c_impl_AddW _ _) ?_ | refine aop_call' (c_impl_SubW _ _) ?_ | refine aop_call' (c_impl_MulW _ _) ?_ | refine aop_call' (c_spec_AddW _ _) ?_ | refine aop_call' (c_spec_SubW _ _) ?_ | refine aop_call' (c_spec_MulW _ _) ?_ | simp [hz, hd.1, hd.2])
    (repeat refine AWp.seq ?_); refine AWp.condF (by simp) ?_
    refine AWp.skip ?_
    try simp
    (repeat refine AWp.seq ?_); refine AWp.region allP (by kernel_rfl) ?_
    simp
    refine aop_call' (c_impl_AddW a b) ?_
    simp
    (repeat refine AWp.seq ?_); refine AWp.region allP (by kernel_rfl) ?_
    simp
    refine aop_call' (c_impl_SubW a b) ?_
    simp
    (repeat refine AWp.seq ?_); refine AWp.region allP (by kernel_rfl) ?_
    simp
    refine aop_call' (c_impl_MulW a b) ?_
    simp
    have q1 : inR (addW a b) (-2147483648) 2147483647 = true := law_word _
    have q2 : inR (subW a b) (-2147483648) 2147483647 = true := law_word _
    have q3 : inR (mulW a b) (-2147483648) 2147483647 = true := law_word _
    have q4 := law_sub a b
    have q5 := law_add a b
    have q6 : mulW b a = mulW a b := by unfold mulW; rw [Int.mul_comm]
    (repeat refine AWp.seq ?_); refine AWp.region allP (by kernel_rfl) ?_
    repeat (first | refine aop_call' (c_impl_Wrap _) ?_ | refine aop_call' (c_spec_Wrap _) ?_ | refine aop_call' (c_word _) ?_ | refine aop_call' (c_impl_Gcd _ _) ?_ | refine aop_call' (c_spec_Gcd _ _) ?_ | refine aop_call' (c_impl_AddW _ _) ?_ | refine aop_call' (c_impl_SubW _ _) ?_ | refine aop_call' (c_impl_MulW _ _) ?_ | refine aop_call' (c_spec_AddW _ _) ?_ | refine aop_call' (c_spec_SubW _ _) ?_ | refine aop_call' (c_spec_MulW _ _) ?_ | simp [q1, q2, q3, q4, q5, q6])
    exact AWp.ret (post_ret1 rfl (by simp))
section
variable {H : Type} {enc : TypeId × Value → H} {W : World}
theorem o_Bytes (fuel : Nat) : Opens enc Try.prog W 22 (fun l : List Int => [bys l]) (fun l => l.length ≤ 9223372036854775807 ∧ ∀ x ∈ l, 0 ≤ x ∧ x ≤ 255) fuel := by
  cases fuel with
  | zero => exact opens_zero
  | succ k => exact Opens.map (opens_slice Try.underlying22 (n := 1) (elt := AV.int .u8) (by kernel_rfl) (by omega) (fun _ => rfl) (fun _ => rfl) (opens_u8 Try.underlying5 k)) id fun x hx => ⟨hx, Les.refl _⟩
end
end Go.T
