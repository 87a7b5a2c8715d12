/- The shares of hands: what the program and the reference compute; the law's function. -/
import Derived.Test.YtkheogobahhbpaaNA
namespace Go.T
open Go Go.Proofs
set_option maxRecDepth 10000
set_option linter.unusedSimpArgs false
set_option linter.unusedVariables false
def sharesOf (n h k : Int) : Int × Int :=
  if n < 0 ∨ inR h 1 4 = false ∨ inR k 0 (h - 1) = false then (0, 0)
  else (k * n.tdiv h + min k (n.tmod h), k * n.tdiv h + min k (n.tmod h) + (n.tdiv h + if k < n.tmod h then 1 else 0))
def handOf (n h : Int) : Int := if n < 0 ∨ inR h 1 4 = false then 0 else n.tmod h
def lastOf (n h p : Int) : Int := if n < 1 ∨ inR h 1 4 = false then 0 else if p = 1 then min n h - 1 else if p = 2 then handOf (n - 1) h else 0
def near1 (n : Int) : Prop := -1000 ≤ n ∧ n ≤ 1000
def atV (l : List Int) (i : Nat) : Int := match l[i]? with | some x => x | none => ((i : Int) * 31 + l.length * 7).tmod 256
theorem atV_rng {l : List Int} (hl : byOk l) (i : Nat) : 0 ≤ atV l i ∧ atV l i ≤ 255 := by
  unfold atV
  split
  · rename_i x hx; exact hl.2 x (List.mem_of_getElem? hx)
  · rw [Int.tmod_eq_emod_of_nonneg (by omega)]; omega
theorem c_at (l : List Int) (hl : byOk l) (i : Nat) (hi : i ≤ 100) : PCall Try.prog 20 [bys l, .int .i64 i] (.int .i64 (atV l i)) := by
  obtain ⟨hlen, hby⟩ := hl
  refine pcall_of Try.func20 (by kernel_rfl) rfl (by simp [Try.f20]) ?_
  unfold bys
  (repeat refine AWp.seq ?_); refine AWp.region noP (by kernel_rfl) ?_
  try simp
  (repeat refine AWp.seq ?_); refine AWp.region noP (by kernel_rfl) ?_
  try simp
  by_cases hb : i < l.length
  · have hq : l[i]? = some l[i] := List.getElem?_eq_getElem hb
    have hx : ∀ m, idxA Try.prog m 22 (.lst false 1 (l.map (AV.int .u8))) (.int .i64 i) = some (.ref [.int .u8 l[i]]) := fun m => idx (y := .int .u8 l[i]) es_22 (by simp [hq])
    have hv := hby l[i] (List.getElem_mem hb)
    have hw : IntKind.wrap .i64 l[i] = l[i] := wrap64 (by omega) (by omega)
    have e : atV l i = l[i] := by unfold atV; rw [hq]
    (repeat refine AWp.seq ?_); refine AWp.condT (by simp [hb]) ?_
    (repeat refine AWp.seq ?_); refine AWp.region noP (by kernel_rfl) ?_
    simp [hx, hw]
    exact AWp.ret (post_ret1 rfl (by simp [e]))
  · have e : atV l i = ((i : Int) * 31 + l.length * 7).tmod 256 := by unfold atV; rw [List.getElem?_eq_none (by omega)]
    have w1 : IntKind.wrap .i64 ((i : Int) * 31) = (i : Int) * 31 := wrap64 (by omega) (by omega)
    have w2 : IntKind.wrap .i64 ((l.length : Int) * 7) = (l.length : Int) * 7 := wrap64 (by omega) (by omega)
    have w3 : IntKind.wrap .i64 ((i : Int) * 31 + (l.length : Int) * 7) = (i : Int) * 31 + (l.length : Int) * 7 := wrap64 (by omega) (by omega)
    (repeat refine AWp.seq ?_); refine AWp.condF (by simp [hb]) ?_
    refine AWp.skip ?_
    try simp
    (repeat refine AWp.seq ?_); refine AWp.region noP (by kernel_rfl) ?_
    simp [w1, w2, w3]
    exact AWp.ret (post_ret1 rfl (by simp [e]))
theorem c_l1In (a b c : Int) : PCall Try.prog 39 [.int .i64 a, .int .i64 b, .int .i64 c] (.bool (inR a b c)) := by
  refine pcall_of Try.func39 (by kernel_rfl) rfl (by simp [Try.f39]) ?_
  (repeat refine AWp.seq ?_); refine AWp.region noP (by kernel_rfl) ?_
  simp
  (repeat refine AWp.seq ?_); refine AWp.region noP (by kernel_rfl) ?_
  by_cases h : b ≤ a
  · simp [h]
    exact AWp.ret (post_ret1 rfl (by simp [inR, h]))
  · simp [h]
    exact AWp.ret (post_ret1 rfl (by simp [inR, h]))
theorem c_inRange (a b c : Int) : PCall Try.prog 37 [.int .i64 a, .int .i64 b, .int .i64 c] (.bool (inR a b c)) := by
  refine pcall_of Try.func37 (by kernel_rfl) rfl (by simp [Try.f37]) ?_
  (repeat refine AWp.seq ?_); refine AWp.region noP (by kernel_rfl) ?_
  simp
  (repeat refine AWp.seq ?_); refine AWp.region noP (by kernel_rfl) ?_
  by_cases h : b ≤ a
  · simp [h]
    exact AWp.ret (post_ret1 rfl (by simp [inR, h]))
  · simp [h]
    exact AWp.ret (post_ret1 rfl (by simp [inR, h]))
theorem c_isHand (h k : Int) (nh : near1 h) : PCall Try.prog 36 [.int .i64 h, .int .i64 k] (.bool (inR h 1 4 && inR k 0 (h - 1))) := by
  obtain ⟨n1, n2⟩ := nh
  have hw : IntKind.wrap .i64 (h - 1) = h - 1 := wrap64 (by omega) (by omega)
  refine pcall_of Try.func36 (by kernel_rfl) rfl (by simp [Try.f36]) ?_
  (repeat refine AWp.seq ?_); refine AWp.region noP (by kernel_rfl) ?_
  try simp
  (repeat refine AWp.seq ?_); refine AWp.region allP (by kernel_rfl) ?_
  try simp
  refine aop_call' (c_inRange _ _ _) ?_
  cases x1 : inR h 1 4
  · simp
    exact AWp.ret (post_ret1 rfl (by simp))
  · simp [hw]
    refine aop_call' (c_inRange _ _ _) ?_
    simp
    exact AWp.ret (post_ret1 rfl (by simp))
theorem div_rng {n h : Int} (h0 : 0 ≤ n) (h1 : n ≤ 1000) (k0 : 1 ≤ h) (k1 : h ≤ 1000) : 0 ≤ n.tdiv h ∧ n.tdiv h ≤ 1000 ∧ 0 ≤ n.tmod h ∧ n.tmod h ≤ 1000 := by
  rw [Int.tdiv_eq_ediv_of_nonneg h0, Int.tmod_eq_emod_of_nonneg h0]
  have a := Int.ediv_nonneg h0 (show 0 ≤ h by omega)
  have b := Int.ediv_le_self h h0
  have c := Int.emod_nonneg n (show h ≠ 0 by omega)
  have d := Int.emod_lt_of_pos n (show 0 < h by omega)
  omega
theorem min_if (x y : Int) : (if y < x then y else x) = min x y := by omega
theorem c_impl_Shares (n h k : Int) (nn : near1 n) (nh : near1 h) (nk : near1 k) : PCall Try.prog 21 [.int .i64 n, .int .i64 h, .int .i64 k] (.tup [.int .i64 (sharesOf n h k).1, .int .i64 (sharesOf n h k).2]) := by
  obtain ⟨a1, a2⟩ := id nn
  obtain ⟨b1, b2⟩ := id nh
  obtain ⟨d1, d2⟩ := id nk
  have hwh : IntKind.wrap .i64 (h - 1) = h - 1 := wrap64 (by omega) (by omega)
  refine pcall_of Try.func21 (by kernel_rfl) rfl (by simp [Try.f21]) ?_
  by_cases x0 : n < 0
  · have e : sharesOf n h k = (0, 0) := by unfold sharesOf; rw [if_pos (Or.inl x0)]
    rw [e]
    repeat' (first
    | refine AWp.seq ?_
    | (refine AWp.region allP (by kernel_rfl) ?_; simp [x0, hwh])
    | (refine AWp.condG ?_; simp [x0, hwh])
    | (refine AWp.skip ?_; try simp)
    | (refine AWp.exit ?_; try simp)
    | refine AWp.block ?_
    | (refine aop_call' (c_isHand h k nh) ?_; simp [x0, hwh])
    | (refine AWp.ret (post_ret2 rfl ?_ ?_); (all_goals simp; done))
    | (refine guardI (fun hq => ?_) (fun hq => ?_) <;> (try simp at hq) <;> (try simp [x0, hwh]))
    | (refine condRunI (fun hq => ?_) (fun hq => ?_) <;> (try simp at hq) <;> (try simp [x0, hwh]))
    | (refine iteI (fun hq => ?_) (fun hq => ?_) <;> (try simp [x0, hwh])))
  cases x1 : inR h 1 4
  · have e : sharesOf n h k = (0, 0) := by unfold sharesOf; rw [if_pos (Or.inr (Or.inl x1))]
    rw [e]
    repeat' (first
    | refine AWp.seq ?_
    | (refine AWp.region allP (by kernel_rfl) ?_; simp [x0, x1, hwh])
    | (refine AWp.condG ?_; simp [x0, x1, hwh])
    | (refine AWp.skip ?_; try simp)
    | (refine AWp.exit ?_; try simp)
    | refine AWp.block ?_
    | (refine aop_call' (c_isHand h k nh) ?_; simp [x0, x1, hwh])
    | (refine AWp.ret (post_ret2 rfl ?_ ?_); (all_goals simp; done))
    | (refine guardI (fun hq => ?_) (fun hq => ?_) <;> (try simp at hq) <;> (try simp [x0, x1, hwh]))
    | (refine condRunI (fun hq => ?_) (fun hq => ?_) <;> (try simp at hq) <;> (try simp [x0, x1, hwh]))
    | (refine iteI (fun hq => ?_) (fun hq => ?_) <;> (try simp [x0, x1, hwh])))
  cases x2 : inR k 0 (h - 1)
  · have e : sharesOf n h k = (0, 0) := by unfold sharesOf; rw [if_pos (Or.inr (Or.inr x2))]
    rw [e]
    repeat' (first
    | refine AWp.seq ?_
    | (refine AWp.region allP (by kernel_rfl) ?_; simp [x0, x1, x2, hwh])
    | (refine AWp.condG ?_; simp [x0, x1, x2, hwh])
    | (refine AWp.skip ?_; try simp)
    | (refine AWp.exit ?_; try simp)
    | refine AWp.block ?_
    | (refine aop_call' (c_isHand h k nh) ?_; simp [x0, x1, x2, hwh])
    | (refine AWp.ret (post_ret2 rfl ?_ ?_); (all_goals simp; done))
    | (refine guardI (fun hq => ?_) (fun hq => ?_) <;> (try simp at hq) <;> (try simp [x0, x1, x2, hwh]))
    | (refine condRunI (fun hq => ?_) (fun hq => ?_) <;> (try simp at hq) <;> (try simp [x0, x1, x2, hwh]))
    | (refine iteI (fun hq => ?_) (fun hq => ?_) <;> (try simp [x0, x1, x2, hwh])))
  have y1 := x1
  have y2 := x2
  unfold inR at y1 y2
  simp at y1 y2
  have hd := div_rng (n := n) (h := h) (by omega) a2 (by omega) (by omega)
  have e : sharesOf n h k = (k * n.tdiv h + min k (n.tmod h), k * n.tdiv h + min k (n.tmod h) + (n.tdiv h + if k < n.tmod h then 1 else 0)) := by unfold sharesOf; rw [if_neg (by simp [x0, x1, x2])]
  rw [e]
  have hq : IntKind.wrap .i64 (n.tdiv h) = n.tdiv h := wrap64 (by omega) (by omega)
  have hh0 : ¬ h = 0 := by omega
  generalize hdd : n.tdiv h = d at *
  generalize hrr : n.tmod h = r at *
  have pm := mul_small (a := k) (b := d) (A := 10) (B := 1000) (by omega) (by omega) (by omega) (by omega) (by omega)
  have pc : d * k = k * d := Int.mul_comm d k
  have w1 : IntKind.wrap .i64 (k * d) = k * d := wrap64 (by omega) (by omega)
  have w2 : IntKind.wrap .i64 (k * d + min k r) = k * d + min k r := wrap64 (by omega) (by omega)
  have w3 : IntKind.wrap .i64 (d + 1) = d + 1 := wrap64 (by omega) (by omega)
  have w4 : IntKind.wrap .i64 (k * d + min k r + d) = k * d + min k r + d := wrap64 (by omega) (by omega)
  have w5 : IntKind.wrap .i64 (k * d + min k r + (d + 1)) = k * d + min k r + (d + 1) := wrap64 (by omega) (by omega)
  have w6 : IntKind.wrap .i64 (k * d + r) = k * d + r := wrap64 (by omega) (by omega)
  have w7 : IntKind.wrap .i64 (k * d + k) = k * d + k := wrap64 (by omega) (by omega)
  have w8 : IntKind.wrap .i64 (k * d + r + d) = k * d + r + d := wrap64 (by omega) (by omega)
  have w9 : IntKind.wrap .i64 (k * d + k + (d + 1)) = k * d + k + (d + 1) := wrap64 (by omega) (by omega)
  (repeat refine AWp.seq ?_); refine AWp.region noP (by kernel_rfl) ?_
  try simp
  (repeat refine AWp.seq ?_); refine AWp.region allP (by kernel_rfl) ?_
  simp [x0]
  refine aop_call' (c_isHand h k nh) ?_
  simp [x1, x2]
  (repeat refine AWp.seq ?_); refine AWp.condF (by simp) ?_
  refine AWp.skip ?_
  try simp
  (repeat refine AWp.seq ?_); refine AWp.regionG (fun _ => false) (fun _ => false) [0, 1, 2, 3, 4, 5, 6, 7] [0, 1, 2, 6, 3, 4, 5, 7] (by kernel_rfl) ?_
  simp [hh0, hq, hdd, hrr]
  (repeat refine AWp.seq ?_); refine AWp.region noP (by kernel_rfl) ?_
  simp [min_if, w1, w2]
  (repeat refine AWp.seq ?_); refine AWp.region noP (by kernel_rfl) ?_
  try simp
  by_cases z : k < r
  · (repeat refine AWp.seq ?_); refine AWp.condT (by simp [z]) ?_
    (repeat refine AWp.seq ?_); refine AWp.region noP (by kernel_rfl) ?_
    simp [w3]
    (repeat refine AWp.seq ?_); refine AWp.region noP (by kernel_rfl) ?_
    simp [w5]
    exact AWp.ret (post_ret2 rfl (by simp) (by simp [z]))
  · (repeat refine AWp.seq ?_); refine AWp.condF (by simp [z]) ?_
    refine AWp.skip ?_
    try simp
    (repeat refine AWp.seq ?_); refine AWp.region noP (by kernel_rfl) ?_
    simp [w4]
    exact AWp.ret (post_ret2 rfl (by simp) (by simp [z]))
theorem c_spec_Shares (n h k : Int) (nn : near1 n) (nh : near1 h) (nk : near1 k) : PCall Try.prog 24 [.int .i64 n, .int .i64 h, .int .i64 k] (.tup [.int .i64 (sharesOf n h k).1, .int .i64 (sharesOf n h k).2]) := by
  obtain ⟨a1, a2⟩ := id nn
  obtain ⟨b1, b2⟩ := id nh
  obtain ⟨d1, d2⟩ := id nk
  have hwh : IntKind.wrap .i64 (h - 1) = h - 1 := wrap64 (by omega) (by omega)
  refine pcall_of Try.func24 (by kernel_rfl) rfl (by simp [Try.f24]) ?_
  by_cases x0 : n < 0
  · have e : sharesOf n h k = (0, 0) := by unfold sharesOf; rw [if_pos (Or.inl x0)]
    rw [e]
    repeat' (first
    | refine AWp.seq ?_
    | (refine AWp.region allP (by kernel_rfl) ?_; simp [x0, hwh])
    | (refine AWp.condG ?_; simp [x0, hwh])
    | (refine AWp.skip ?_; try simp)
    | (refine AWp.exit ?_; try simp)
    | refine AWp.block ?_
    | (refine aop_call' (c_l1In _ _ _) ?_; simp [x0, hwh])
    | (refine AWp.ret (post_ret2 rfl ?_ ?_); (all_goals simp; done))
    | (refine guardI (fun hq => ?_) (fun hq => ?_) <;> (try simp at hq) <;> (try simp [x0, hwh]))
    | (refine condRunI (fun hq => ?_) (fun hq => ?_) <;> (try simp at hq) <;> (try simp [x0, hwh]))
    | (refine iteI (fun hq => ?_) (fun hq => ?_) <;> (try simp [x0, hwh])))
  cases x1 : inR h 1 4
  · have e : sharesOf n h k = (0, 0) := by unfold sharesOf; rw [if_pos (Or.inr (Or.inl x1))]
    rw [e]
    repeat' (first
    | refine AWp.seq ?_
    | (refine AWp.region allP (by kernel_rfl) ?_; simp [x0, x1, hwh])
    | (refine AWp.condG ?_; simp [x0, x1, hwh])
    | (refine AWp.skip ?_; try simp)
    | (refine AWp.exit ?_; try simp)
    | refine AWp.block ?_
    | (refine aop_call' (c_l1In _ _ _) ?_; simp [x0, x1, hwh])
    | (refine AWp.ret (post_ret2 rfl ?_ ?_); (all_goals simp; done))
    | (refine guardI (fun hq => ?_) (fun hq => ?_) <;> (try simp at hq) <;> (try simp [x0, x1, hwh]))
    | (refine condRunI (fun hq => ?_) (fun hq => ?_) <;> (try simp at hq) <;> (try simp [x0, x1, hwh]))
    | (refine iteI (fun hq => ?_) (fun hq => ?_) <;> (try simp [x0, x1, hwh])))
  cases x2 : inR k 0 (h - 1)
  · have e : sharesOf n h k = (0, 0) := by unfold sharesOf; rw [if_pos (Or.inr (Or.inr x2))]
    rw [e]
    repeat' (first
    | refine AWp.seq ?_
    | (refine AWp.region allP (by kernel_rfl) ?_; simp [x0, x1, x2, hwh])
    | (refine AWp.condG ?_; simp [x0, x1, x2, hwh])
    | (refine AWp.skip ?_; try simp)
    | (refine AWp.exit ?_; try simp)
    | refine AWp.block ?_
    | (refine aop_call' (c_l1In _ _ _) ?_; simp [x0, x1, x2, hwh])
    | (refine AWp.ret (post_ret2 rfl ?_ ?_); (all_goals simp; done))
    | (refine guardI (fun hq => ?_) (fun hq => ?_) <;> (try simp at hq) <;> (try simp [x0, x1, x2, hwh]))
    | (refine condRunI (fun hq => ?_) (fun hq => ?_) <;> (try simp at hq) <;> (try simp [x0, x1, x2, hwh]))
    | (refine iteI (fun hq => ?_) (fun hq => ?_) <;> (try simp [x0, x1, x2, hwh])))
  have y1 := x1
  have y2 := x2
  unfold inR at y1 y2
  simp at y1 y2
  have hd := div_rng (n := n) (h := h) (by omega) a2 (by omega) (by omega)
  have e : sharesOf n h k = (k * n.tdiv h + min k (n.tmod h), k * n.tdiv h + min k (n.tmod h) + (n.tdiv h + if k < n.tmod h then 1 else 0)) := by unfold sharesOf; rw [if_neg (by simp [x0, x1, x2])]
  rw [e]
  have hq : IntKind.wrap .i64 (n.tdiv h) = n.tdiv h := wrap64 (by omega) (by omega)
  have hh0 : ¬ h = 0 := by omega
  generalize hdd : n.tdiv h = d at *
  generalize hrr : n.tmod h = r at *
  have pm := mul_small (a := k) (b := d) (A := 10) (B := 1000) (by omega) (by omega) (by omega) (by omega) (by omega)
  have pc : d * k = k * d := Int.mul_comm d k
  have w1 : IntKind.wrap .i64 (k * d) = k * d := wrap64 (by omega) (by omega)
  have w2 : IntKind.wrap .i64 (k * d + min k r) = k * d + min k r := wrap64 (by omega) (by omega)
  have w3 : IntKind.wrap .i64 (d + 1) = d + 1 := wrap64 (by omega) (by omega)
  have w4 : IntKind.wrap .i64 (k * d + min k r + d) = k * d + min k r + d := wrap64 (by omega) (by omega)
  have w5 : IntKind.wrap .i64 (k * d + min k r + (d + 1)) = k * d + min k r + (d + 1) := wrap64 (by omega) (by omega)
  have w6 : IntKind.wrap .i64 (k * d + r) = k * d + r := wrap64 (by omega) (by omega)
  have w7 : IntKind.wrap .i64 (k * d + k) = k * d + k := wrap64 (by omega) (by omega)
  have w8 : IntKind.wrap .i64 (k * d + r + d) = k * d + r + d := wrap64 (by omega) (by omega)
  have w9 : IntKind.wrap .i64 (k * d + k + (d + 1)) = k * d + k + (d + 1) := wrap64 (by omega) (by omega)
  (repeat refine AWp.seq ?_); refine AWp.region noP (by kernel_rfl) ?_
  try simp
  (repeat refine AWp.seq ?_); refine AWp.region allP (by kernel_rfl) ?_
  simp [x0]
  refine aop_call' (c_l1In _ _ _) ?_
  simp [x1, hwh]
  refine aop_call' (c_l1In _ _ _) ?_
  simp [x2]
  (repeat refine AWp.seq ?_); refine AWp.condF (by simp) ?_
  refine AWp.skip ?_
  try simp
  (repeat refine AWp.seq ?_); refine AWp.region noP (by kernel_rfl) ?_
  simp [hh0, hq, hdd, hrr]
  (repeat refine AWp.seq ?_); refine AWp.region noP (by kernel_rfl) ?_
  simp [hh0, hq, hdd, hrr]
  (repeat refine AWp.seq ?_); refine AWp.region noP (by kernel_rfl) ?_
  simp [pc, w1, w6]
  (repeat refine AWp.seq ?_); refine AWp.region noP (by kernel_rfl) ?_
  try simp
  by_cases z : k < r
  · have hm : min k r = k := by omega
    rw [hm]
    (repeat refine AWp.seq ?_); refine AWp.condT (by simp [z]) ?_
    (repeat refine AWp.seq ?_); refine AWp.region noP (by kernel_rfl) ?_
    simp [pc, w1, w7]
    (repeat refine AWp.seq ?_); refine AWp.region noP (by kernel_rfl) ?_
    simp [w3]
    (repeat refine AWp.seq ?_); refine AWp.region noP (by kernel_rfl) ?_
    simp [w9]
    exact AWp.ret (post_ret2 rfl (by simp) (by simp [z]))
  · have hm : min k r = r := by omega
    rw [hm]
    (repeat refine AWp.seq ?_); refine AWp.condF (by simp [z]) ?_
    refine AWp.skip ?_
    try simp
    (repeat refine AWp.seq ?_); refine AWp.region noP (by kernel_rfl) ?_
    simp [w8]
    exact AWp.ret (post_ret2 rfl (by simp) (by simp [z]))
theorem c_impl_HandOf (n h : Int) (nh : near1 h) (nn : near1 n) : PCall Try.prog 27 [.int .i64 n, .int .i64 h] (.int .i64 (handOf n h)) := by
  unfold handOf
  refine pcall_of Try.func27 (by kernel_rfl) rfl (by simp [Try.f27]) ?_
  by_cases x0 : n < 0
  · rw [if_pos (Or.inl x0)]
    repeat' (first
    | refine AWp.seq ?_
    | (refine AWp.region allP (by kernel_rfl) ?_; simp [x0])
    | (refine AWp.condG ?_; simp [x0])
    | (refine AWp.skip ?_; try simp)
    | (refine AWp.exit ?_; try simp)
    | refine AWp.block ?_
    | (refine aop_call' (c_inRange _ _ _) ?_; simp [x0])
    | (refine AWp.ret (post_ret1 rfl ?_); (simp; done))
    | (refine guardI (fun hq => ?_) (fun hq => ?_) <;> (try simp at hq) <;> (try simp [x0]))
    | (refine condRunI (fun hq => ?_) (fun hq => ?_) <;> (try simp at hq) <;> (try simp [x0]))
    | (refine iteI (fun hq => ?_) (fun hq => ?_) <;> (try simp [x0])))
  cases x1 : inR h 1 4
  · rw [if_pos (Or.inr rfl)]
    repeat' (first
    | refine AWp.seq ?_
    | (refine AWp.region allP (by kernel_rfl) ?_; simp [x0, x1])
    | (refine AWp.condG ?_; simp [x0, x1])
    | (refine AWp.skip ?_; try simp)
    | (refine AWp.exit ?_; try simp)
    | refine AWp.block ?_
    | (refine aop_call' (c_inRange _ _ _) ?_; simp [x0, x1])
    | (refine AWp.ret (post_ret1 rfl ?_); (simp; done))
    | (refine guardI (fun hq => ?_) (fun hq => ?_) <;> (try simp at hq) <;> (try simp [x0, x1]))
    | (refine condRunI (fun hq => ?_) (fun hq => ?_) <;> (try simp at hq) <;> (try simp [x0, x1]))
    | (refine iteI (fun hq => ?_) (fun hq => ?_) <;> (try simp [x0, x1])))
  have y1 := x1
  unfold inR at y1
  simp at y1
  have hh0 : ¬ h = 0 := by omega
  rw [if_neg (by simp [x0])]
  repeat' (first
    | refine AWp.seq ?_
    | (refine AWp.region allP (by kernel_rfl) ?_; simp [x0, x1, hh0])
    | (refine AWp.condG ?_; simp [x0, x1, hh0])
    | (refine AWp.skip ?_; try simp)
    | (refine AWp.exit ?_; try simp)
    | refine AWp.block ?_
    | (refine aop_call' (c_inRange _ _ _) ?_; simp [x0, x1, hh0])
    | (refine AWp.ret (post_ret1 rfl ?_); (simp; done))
    | (refine guardI (fun hq => ?_) (fun hq => ?_) <;> (try simp at hq) <;> (try simp [x0, x1, hh0]))
    | (refine condRunI (fun hq => ?_) (fun hq => ?_) <;> (try simp at hq) <;> (try simp [x0, x1, hh0]))
    | (refine iteI (fun hq => ?_) (fun hq => ?_) <;> (try simp [x0, x1, hh0])))
theorem c_impl_Last (n h p : Int) (nn : near1 n) (nh : near1 h) : PCall Try.prog 22 [.int .i64 n, .int .i64 h, .int .i64 p] (.int .i64 (lastOf n h p)) := by
  obtain ⟨a1, a2⟩ := id nn
  obtain ⟨b1, b2⟩ := id nh
  have w1 : IntKind.wrap .i64 (n - 1) = n - 1 := wrap64 (by omega) (by omega)
  have w2 : IntKind.wrap .i64 (h - 1) = h - 1 := wrap64 (by omega) (by omega)
  have w3 : IntKind.wrap .i64 (min n h - 1) = min n h - 1 := wrap64 (by omega) (by omega)
  unfold lastOf
  refine pcall_of Try.func22 (by kernel_rfl) rfl (by simp [Try.f22]) ?_
  by_cases x0 : n < 1
  · rw [if_pos (Or.inl x0)]
    repeat' (first
    | refine AWp.seq ?_
    | (refine AWp.region allP (by kernel_rfl) ?_; simp [x0])
    | (refine AWp.condG ?_; simp [x0])
    | (refine AWp.skip ?_; try simp)
    | (refine AWp.exit ?_; try simp)
    | refine AWp.block ?_
    | (refine aop_call' (c_inRange _ _ _) ?_; simp [x0])
    | (refine AWp.ret (post_ret1 rfl ?_); (simp; done))
    | (refine guardI (fun hq => ?_) (fun hq => ?_) <;> (try simp at hq) <;> (try simp [x0]))
    | (refine condRunI (fun hq => ?_) (fun hq => ?_) <;> (try simp at hq) <;> (try simp [x0]))
    | (refine iteI (fun hq => ?_) (fun hq => ?_) <;> (try simp [x0])))
  have cH := c_impl_HandOf (n - 1) h nh (by constructor <;> omega)
  cases x1 : inR h 1 4
  · rw [if_pos (Or.inr rfl)]
    repeat' (first
    | refine AWp.seq ?_
    | (refine AWp.region allP (by kernel_rfl) ?_; simp [x0, x1])
    | (refine AWp.condG ?_; simp [x0, x1])
    | (refine AWp.skip ?_; try simp)
    | (refine AWp.exit ?_; try simp)
    | refine AWp.block ?_
    | (refine aop_call' (c_inRange _ _ _) ?_; simp [x0, x1])
    | (refine AWp.ret (post_ret1 rfl ?_); (simp; done))
    | (refine guardI (fun hq => ?_) (fun hq => ?_) <;> (try simp at hq) <;> (try simp [x0, x1]))
    | (refine condRunI (fun hq => ?_) (fun hq => ?_) <;> (try simp at hq) <;> (try simp [x0, x1]))
    | (refine iteI (fun hq => ?_) (fun hq => ?_) <;> (try simp [x0, x1])))
  rw [if_neg (by simp [x0])]
  by_cases p1 : p = 1
  · rw [if_pos p1]
    subst p1
    by_cases z : n < h
    · have hm : min n h = n := by omega
      rw [hm] at w3 ⊢
      repeat' (first
    | refine AWp.seq ?_
    | (refine AWp.region allP (by kernel_rfl) ?_; simp [x0, x1, min_if, w1, w2, w3, hm, z])
    | (refine AWp.condG ?_; simp [x0, x1, min_if, w1, w2, w3, hm, z])
    | (refine AWp.skip ?_; try simp)
    | (refine AWp.exit ?_; try simp)
    | refine AWp.block ?_
    | (refine aop_call' (c_inRange _ _ _) ?_; simp [x0, x1, min_if, w1, w2, w3, hm, z])
    | (refine AWp.ret (post_ret1 rfl ?_); (simp; done))
    | (refine guardI (fun hq => ?_) (fun hq => ?_) <;> (try simp at hq) <;> (try simp [x0, x1, min_if, w1, w2, w3, hm, z]))
    | (refine condRunI (fun hq => ?_) (fun hq => ?_) <;> (try simp at hq) <;> (try simp [x0, x1, min_if, w1, w2, w3, hm, z]))
    | (refine iteI (fun hq => ?_) (fun hq => ?_) <;> (try simp [x0, x1, min_if, w1, w2, w3, hm, z])))
    · have hm : min n h = h := by omega
      rw [hm] at w3 ⊢
      repeat' (first
    | refine AWp.seq ?_
    | (refine AWp.region allP (by kernel_rfl) ?_; simp [x0, x1, min_if, w1, w2, w3, hm, z])
    | (refine AWp.condG ?_; simp [x0, x1, min_if, w1, w2, w3, hm, z])
    | (refine AWp.skip ?_; try simp)
    | (refine AWp.exit ?_; try simp)
    | refine AWp.block ?_
    | (refine aop_call' (c_inRange _ _ _) ?_; simp [x0, x1, min_if, w1, w2, w3, hm, z])
    | (refine AWp.ret (post_ret1 rfl ?_); (simp; done))
    | (refine guardI (fun hq => ?_) (fun hq => ?_) <;> (try simp at hq) <;> (try simp [x0, x1, min_if, w1, w2, w3, hm, z]))
    | (refine condRunI (fun hq => ?_) (fun hq => ?_) <;> (try simp at hq) <;> (try simp [x0, x1, min_if, w1, w2, w3, hm, z]))
    | (refine iteI (fun hq => ?_) (fun hq => ?_) <;> (try simp [x0, x1, min_if, w1, w2, w3, hm, z])))
  rw [if_neg p1]
  by_cases p2 : p = 2
  · rw [if_pos p2]
    subst p2
    repeat' (first
    | refine AWp.seq ?_
    | (refine AWp.region allP (by kernel_rfl) ?_; simp [x0, x1, w1])
    | (refine AWp.condG ?_; simp [x0, x1, w1])
    | (refine AWp.skip ?_; try simp)
    | (refine AWp.exit ?_; try simp)
    | refine AWp.block ?_
    | (refine aop_call' (c_inRange _ _ _) ?_; simp [x0, x1, w1])
    | (refine aop_call' (cH) ?_; simp [x0, x1, w1])
    | (refine AWp.ret (post_ret1 rfl ?_); (simp; done))
    | (refine guardI (fun hq => ?_) (fun hq => ?_) <;> (try simp at hq) <;> (try simp [x0, x1, w1]))
    | (refine condRunI (fun hq => ?_) (fun hq => ?_) <;> (try simp at hq) <;> (try simp [x0, x1, w1]))
    | (refine iteI (fun hq => ?_) (fun hq => ?_) <;> (try simp [x0, x1, w1])))
  rw [if_neg p2]
  repeat' (first
    | refine AWp.seq ?_
    | (refine AWp.region allP (by kernel_rfl) ?_; simp [x0, x1, p1, p2])
    | (refine AWp.condG ?_; simp [x0, x1, p1, p2])
    | (refine AWp.skip ?_; try simp)
    | (refine AWp.exit ?_; try simp)
    | refine AWp.block ?_
    | (refine aop_call' (c_inRange _ _ _) ?_; simp [x0, x1, p1, p2])
    | (refine AWp.ret (post_ret1 rfl ?_); (simp; done))
    | (refine guardI (fun hq => ?_) (fun hq => ?_) <;> (try simp at hq) <;> (try simp [x0, x1, p1, p2]))
    | (refine condRunI (fun hq => ?_) (fun hq => ?_) <;> (try simp at hq) <;> (try simp [x0, x1, p1, p2]))
    | (refine iteI (fun hq => ?_) (fun hq => ?_) <;> (try simp [x0, x1, p1, p2])))
theorem c_spec_HandOf (n h : Int) (nh : near1 h) (nn : near1 n) : PCall Try.prog 28 [.int .i64 n, .int .i64 h] (.int .i64 (handOf n h)) := by
  unfold handOf
  refine pcall_of Try.func28 (by kernel_rfl) rfl (by simp [Try.f28]) ?_
  by_cases x0 : n < 0
  · rw [if_pos (Or.inl x0)]
    repeat' (first
    | refine AWp.seq ?_
    | (refine AWp.region allP (by kernel_rfl) ?_; simp [x0])
    | (refine AWp.condG ?_; simp [x0])
    | (refine AWp.skip ?_; try simp)
    | (refine AWp.exit ?_; try simp)
    | refine AWp.block ?_
    | (refine aop_call' (c_l1In _ _ _) ?_; simp [x0])
    | (refine AWp.ret (post_ret1 rfl ?_); (simp; done))
    | (refine guardI (fun hq => ?_) (fun hq => ?_) <;> (try simp at hq) <;> (try simp [x0]))
    | (refine condRunI (fun hq => ?_) (fun hq => ?_) <;> (try simp at hq) <;> (try simp [x0]))
    | (refine iteI (fun hq => ?_) (fun hq => ?_) <;> (try simp [x0])))
  cases x1 : inR h 1 4
  · rw [if_pos (Or.inr rfl)]
    repeat' (first
    | refine AWp.seq ?_
    | (refine AWp.region allP (by kernel_rfl) ?_; simp [x0, x1])
    | (refine AWp.condG ?_; simp [x0, x1])
    | (refine AWp.skip ?_; try simp)
    | (refine AWp.exit ?_; try simp)
    | refine AWp.block ?_
    | (refine aop_call' (c_l1In _ _ _) ?_; simp [x0, x1])
    | (refine AWp.ret (post_ret1 rfl ?_); (simp; done))
    | (refine guardI (fun hq => ?_) (fun hq => ?_) <;> (try simp at hq) <;> (try simp [x0, x1]))
    | (refine condRunI (fun hq => ?_) (fun hq => ?_) <;> (try simp at hq) <;> (try simp [x0, x1]))
    | (refine iteI (fun hq => ?_) (fun hq => ?_) <;> (try simp [x0, x1])))
  have y1 := x1
  unfold inR at y1
  simp at y1
  have hh0 : ¬ h = 0 := by omega
  rw [if_neg (by simp [x0])]
  repeat' (first
    | refine AWp.seq ?_
    | (refine AWp.region allP (by kernel_rfl) ?_; simp [x0, x1, hh0])
    | (refine AWp.condG ?_; simp [x0, x1, hh0])
    | (refine AWp.skip ?_; try simp)
    | (refine AWp.exit ?_; try simp)
    | refine AWp.block ?_
    | (refine aop_call' (c_l1In _ _ _) ?_; simp [x0, x1, hh0])
    | (refine AWp.ret (post_ret1 rfl ?_); (simp; done))
    | (refine guardI (fun hq => ?_) (fun hq => ?_) <;> (try simp at hq) <;> (try simp [x0, x1, hh0]))
    | (refine condRunI (fun hq => ?_) (fun hq => ?_) <;> (try simp at hq) <;> (try simp [x0, x1, hh0]))
    | (refine iteI (fun hq => ?_) (fun hq => ?_) <;> (try simp [x0, x1, hh0])))
theorem c_spec_Last (n h p : Int) (nn : near1 n) (nh : near1 h) : PCall Try.prog 29 [.int .i64 n, .int .i64 h, .int .i64 p] (.int .i64 (lastOf n h p)) := by
  obtain ⟨a1, a2⟩ := id nn
  obtain ⟨b1, b2⟩ := id nh
  have w1 : IntKind.wrap .i64 (n - 1) = n - 1 := wrap64 (by omega) (by omega)
  have w2 : IntKind.wrap .i64 (h - 1) = h - 1 := wrap64 (by omega) (by omega)
  have w3 : IntKind.wrap .i64 (min n h - 1) = min n h - 1 := wrap64 (by omega) (by omega)
  unfold lastOf
  refine pcall_of Try.func29 (by kernel_rfl) rfl (by simp [Try.f29]) ?_
  by_cases x0 : n < 1
  · rw [if_pos (Or.inl x0)]
    repeat' (first
    | refine AWp.seq ?_
    | (refine AWp.region allP (by kernel_rfl) ?_; simp [x0])
    | (refine AWp.condG ?_; simp [x0])
    | (refine AWp.skip ?_; try simp)
    | (refine AWp.exit ?_; try simp)
    | refine AWp.block ?_
    | (refine aop_call' (c_l1In _ _ _) ?_; simp [x0])
    | (refine AWp.ret (post_ret1 rfl ?_); (simp; done))
    | (refine guardI (fun hq => ?_) (fun hq => ?_) <;> (try simp at hq) <;> (try simp [x0]))
    | (refine condRunI (fun hq => ?_) (fun hq => ?_) <;> (try simp at hq) <;> (try simp [x0]))
    | (refine iteI (fun hq => ?_) (fun hq => ?_) <;> (try simp [x0])))
  have cH := c_spec_HandOf (n - 1) h nh (by constructor <;> omega)
  cases x1 : inR h 1 4
  · rw [if_pos (Or.inr rfl)]
    repeat' (first
    | refine AWp.seq ?_
    | (refine AWp.region allP (by kernel_rfl) ?_; simp [x0, x1])
    | (refine AWp.condG ?_; simp [x0, x1])
    | (refine AWp.skip ?_; try simp)
    | (refine AWp.exit ?_; try simp)
    | refine AWp.block ?_
    | (refine aop_call' (c_l1In _ _ _) ?_; simp [x0, x1])
    | (refine AWp.ret (post_ret1 rfl ?_); (simp; done))
    | (refine guardI (fun hq => ?_) (fun hq => ?_) <;> (try simp at hq) <;> (try simp [x0, x1]))
    | (refine condRunI (fun hq => ?_) (fun hq => ?_) <;> (try simp at hq) <;> (try simp [x0, x1]))
    | (refine iteI (fun hq => ?_) (fun hq => ?_) <;> (try simp [x0, x1])))
  rw [if_neg (by simp [x0])]
  by_cases p1 : p = 1
  · rw [if_pos p1]
    subst p1
    by_cases z : n < h
    · have hm : min n h = n := by omega
      rw [hm] at w3 ⊢
      repeat' (first
    | refine AWp.seq ?_
    | (refine AWp.region allP (by kernel_rfl) ?_; simp [x0, x1, min_if, w1, w2, w3, hm, z])
    | (refine AWp.condG ?_; simp [x0, x1, min_if, w1, w2, w3, hm, z])
    | (refine AWp.skip ?_; try simp)
    | (refine AWp.exit ?_; try simp)
    | refine AWp.block ?_
    | (refine aop_call' (c_l1In _ _ _) ?_; simp [x0, x1, min_if, w1, w2, w3, hm, z])
    | (refine AWp.ret (post_ret1 rfl ?_); (simp; done))
    | (refine guardI (fun hq => ?_) (fun hq => ?_) <;> (try simp at hq) <;> (try simp [x0, x1, min_if, w1, w2, w3, hm, z]))
    | (refine condRunI (fun hq => ?_) (fun hq => ?_) <;> (try simp at hq) <;> (try simp [x0, x1, min_if, w1, w2, w3, hm, z]))
    | (refine iteI (fun hq => ?_) (fun hq => ?_) <;> (try simp [x0, x1, min_if, w1, w2, w3, hm, z])))
    · have hm : min n h = h := by omega
      rw [hm] at w3 ⊢
      repeat' (first
    | refine AWp.seq ?_
    | (refine AWp.region allP (by kernel_rfl) ?_; simp [x0, x1, min_if, w1, w2, w3, hm, z])
    | (refine AWp.condG ?_; simp [x0, x1, min_if, w1, w2, w3, hm, z])
    | (refine AWp.skip ?_; try simp)
    | (refine AWp.exit ?_; try simp)
    | refine AWp.block ?_
    | (refine aop_call' (c_l1In _ _ _) ?_; simp [x0, x1, min_if, w1, w2, w3, hm, z])
    | (refine AWp.ret (post_ret1 rfl ?_); (simp; done))
    | (refine guardI (fun hq => ?_) (fun hq => ?_) <;> (try simp at hq) <;> (try simp [x0, x1, min_if, w1, w2, w3, hm, z]))
    | (refine condRunI (fun hq => ?_) (fun hq => ?_) <;> (try simp at hq) <;> (try simp [x0, x1, min_if, w1, w2, w3, hm, z]))
    | (refine iteI (fun hq => ?_) (fun hq => ?_) <;> (try simp [x0, x1, min_if, w1, w2, w3, hm, z])))
  rw [if_neg p1]
  by_cases p2 : p = 2
  · rw [if_pos p2]
    subst p2
    repeat' (first
    | refine AWp.seq ?_
    | (refine AWp.region allP (by kernel_rfl) ?_; simp [x0, x1, w1])
    | (refine AWp.condG ?_; simp [x0, x1, w1])
    | (refine AWp.skip ?_; try simp)
    | (refine AWp.exit ?_; try simp)
    | refine AWp.block ?_
    | (refine aop_call' (c_l1In _ _ _) ?_; simp [x0, x1, w1])
    | (refine aop_call' (cH) ?_; simp [x0, x1, w1])
    | (refine AWp.ret (post_ret1 rfl ?_); (simp; done))
    | (refine guardI (fun hq => ?_) (fun hq => ?_) <;> (try simp at hq) <;> (try simp [x0, x1, w1]))
    | (refine condRunI (fun hq => ?_) (fun hq => ?_) <;> (try simp at hq) <;> (try simp [x0, x1, w1]))
    | (refine iteI (fun hq => ?_) (fun hq => ?_) <;> (try simp [x0, x1, w1])))
  rw [if_neg p2]
  repeat' (first
    | refine AWp.seq ?_
    | (refine AWp.region allP (by kernel_rfl) ?_; simp [x0, x1, p1, p2])
    | (refine AWp.condG ?_; simp [x0, x1, p1, p2])
    | (refine AWp.skip ?_; try simp)
    | (refine AWp.exit ?_; try simp)
    | refine AWp.block ?_
    | (refine aop_call' (c_l1In _ _ _) ?_; simp [x0, x1, p1, p2])
    | (refine AWp.ret (post_ret1 rfl ?_); (simp; done))
    | (refine guardI (fun hq => ?_) (fun hq => ?_) <;> (try simp at hq) <;> (try simp [x0, x1, p1, p2]))
    | (refine condRunI (fun hq => ?_) (fun hq => ?_) <;> (try simp at hq) <;> (try simp [x0, x1, p1, p2]))
    | (refine iteI (fun hq => ?_) (fun hq => ?_) <;> (try simp [x0, x1, p1, p2])))
def dr1 : List Int := [0, 1, 2, 5, 8, 9, 40, -1]
def dr2 : List Int := [1, 2, 3, 4, 0, 5]
def dr3 : List Int := [0, 1, 2, 3, 4, -1]
theorem c_DrawShares (l : List Int) (hl : byOk l) {m : Mem} {K : AV → Mem → Prop} (hK : ∀ x y z m', near1 x → near1 y → near1 z → Ext m m' → K (.tup [.int .i64 x, .int .i64 y, .int .i64 z]) m') : WCall Try.prog 23 [bys l] m K := by
  have q1 : ∀ x ∈ dr1, -1000 ≤ x ∧ x ≤ 1000 := by decide
  have q2 : ∀ x ∈ dr2, -1000 ≤ x ∧ x ≤ 1000 := by decide
  have q3 : ∀ x ∈ dr3, -1000 ≤ x ∧ x ≤ 1000 := by decide
  refine wcall_of Try.func23 (by kernel_rfl) rfl (by simp [Try.f23]) ?_
  (repeat refine AWp.seq ?_); refine AWp.region noP (by kernel_rfl) ?_
  try simp
  (repeat refine AWp.seq ?_); refine AWp.region noP (by kernel_rfl) ?_
  simp
  refine aop_wcall _ _ _ _ _ _ _ _ rfl (eval_func _ _) ?_
  refine c_l1New l hl fun g m1 hg hc hE => ?_
  simp
  (repeat refine AWp.seq ?_); refine AWp.region noP (by kernel_rfl) ?_
  simp
  refine aop_wcall _ _ _ _ _ _ _ _ rfl (eval_func _ _) ?_
  refine c_l1Int hl hc true dr1 (by decide) (by decide) fun x m2 hx hc2 ho2 => ?_
  simp
  refine aop_wcall _ _ _ _ _ _ _ _ rfl (eval_func _ _) ?_
  refine c_l1Int hl (by simpa using hc2) true dr2 (by decide) (by decide) fun y m3 hy hc3 ho3 => ?_
  simp
  refine aop_wcall _ _ _ _ _ _ _ _ rfl (eval_func _ _) ?_
  refine c_l1Int hl (by simpa using hc3) true dr3 (by decide) (by decide) fun z m4 hz hc4 ho4 => ?_
  simp
  refine AWp.ret (post_retW3 rfl ?_)
  simp
  exact hK _ _ _ _ (q1 x hx) (q2 y hy) (q3 z hz) (ext_cur (by simpa using hg) (by simpa using hE) fun k hk => (ho4 k hk).trans ((ho3 k hk).trans (ho2 k hk)))
theorem c_DrawHandOf (l : List Int) (hl : byOk l) {m : Mem} {K : AV → Mem → Prop} (hK : ∀ x y m', near1 x → near1 y → Ext m m' → K (.tup [.int .i64 x, .int .i64 y]) m') : WCall Try.prog 25 [bys l] m K := by
  refine wcall_of Try.func25 (by kernel_rfl) rfl (by simp [Try.f25]) ?_
  (repeat refine AWp.seq ?_); refine AWp.region noP (by kernel_rfl) ?_
  try simp
  (repeat refine AWp.seq ?_); refine AWp.region noP (by kernel_rfl) ?_
  simp
  refine aop_wcall _ _ _ _ _ _ _ _ rfl (eval_func _ _) ?_
  refine c_l1New l hl fun g m1 hg hc hE => ?_
  simp
  (repeat refine AWp.seq ?_); refine AWp.region noP (by kernel_rfl) ?_
  simp
  refine aop_wcall _ _ _ _ _ _ _ _ rfl (eval_func _ _) ?_
  refine c_l1Below hl hc 12 (by omega) fun x m2 x0 x1 hc2 ho2 => ?_
  have hwx : IntKind.wrap .i64 (x - 1) = x - 1 := wrap64 (by omega) (by omega)
  simp [hwx]
  refine aop_wcall _ _ _ _ _ _ _ _ rfl (eval_func _ _) ?_
  refine c_l1Below hl (by simpa using hc2) 6 (by omega) fun y m3 y0 y1 hc3 ho3 => ?_
  simp
  refine AWp.ret (post_retW2 rfl ?_)
  simp
  exact hK _ _ _ (by constructor <;> omega) (by constructor <;> omega) (ext_cur (by simpa using hg) (by simpa using hE) fun k hk => (ho3 k hk).trans (ho2 k hk))
theorem c_DrawLast (l : List Int) (hl : byOk l) {m : Mem} {K : AV → Mem → Prop} (hK : ∀ x y z m', near1 x → near1 y → near1 z → Ext m m' → K (.tup [.int .i64 x, .int .i64 y, .int .i64 z]) m') : WCall Try.prog 26 [bys l] m K := by
  refine wcall_of Try.func26 (by kernel_rfl) rfl (by simp [Try.f26]) ?_
  (repeat refine AWp.seq ?_); refine AWp.region noP (by kernel_rfl) ?_
  try simp
  (repeat refine AWp.seq ?_); refine AWp.region noP (by kernel_rfl) ?_
  simp
  refine aop_wcall _ _ _ _ _ _ _ _ rfl (eval_func _ _) ?_
  refine c_l1New l hl fun g m1 hg hc hE => ?_
  simp
  (repeat refine AWp.seq ?_); refine AWp.region noP (by kernel_rfl) ?_
  simp
  refine aop_wcall _ _ _ _ _ _ _ _ rfl (eval_func _ _) ?_
  refine c_l1Below hl hc 12 (by omega) fun x m2 x0 x1 hc2 ho2 => ?_
  have hwx : IntKind.wrap .i64 (x - 1) = x - 1 := wrap64 (by omega) (by omega)
  simp [hwx]
  refine aop_wcall _ _ _ _ _ _ _ _ rfl (eval_func _ _) ?_
  refine c_l1Below hl (by simpa using hc2) 6 (by omega) fun y m3 y0 y1 hc3 ho3 => ?_
  simp
  refine aop_wcall _ _ _ _ _ _ _ _ rfl (eval_func _ _) ?_
  refine c_l1Below hl (by simpa using hc3) 4 (by omega) fun z m4 z0 z1 hc4 ho4 => ?_
  simp
  refine AWp.ret (post_retW3 rfl ?_)
  simp
  exact hK _ _ _ _ (by constructor <;> omega) (by constructor <;> omega) (by constructor <;> omega) (ext_cur (by simpa using hg) (by simpa using hE) fun k hk => (ho4 k hk).trans ((ho3 k hk).trans (ho2 k hk)))
def nxt (n h : Int) : Nat → Int
  | 0 => 0
  | i + 1 => (sharesOf n h i).2
def lst_ (n h : Int) : Nat → Int
  | 0 => n
  | i + 1 => if (sharesOf n h i).2 - (sharesOf n h i).1 < lst_ n h i then (sharesOf n h i).2 - (sharesOf n h i).1 else lst_ n h i
def mst (n h : Int) : Nat → Int
  | 0 => 0
  | i + 1 => if (sharesOf n h i).2 - (sharesOf n h i).1 > mst n h i then (sharesOf n h i).2 - (sharesOf n h i).1 else mst n h i
def chk (n h i : Nat) : Bool :=
  decide ((sharesOf n h i).1 = nxt n h i) && (decide (0 ≤ (sharesOf n h i).1) && (decide ((sharesOf n h i).1 ≤ (sharesOf n h i).2) && (decide ((sharesOf n h i).2 ≤ 1000) &&
    (n == 0 || (decide (lastOf n h 1 = i) == (decide ((sharesOf n h i).2 = n) && decide ((sharesOf n h i).1 < n)))))))
theorem chk_all : ∀ n < 50, ∀ h < 5, ∀ i < h, chk n h i = true := by decide +kernel
def fin_ (n h : Nat) : Bool := h == 0 || (decide (nxt n h h = n) && (decide (0 ≤ lst_ n h h) && (decide (lst_ n h h ≤ 1000) && (decide (0 ≤ mst n h h) && (decide (mst n h h ≤ 1000) && (decide (mst n h h - lst_ n h h ≤ 1) && (n == 0 || decide (lastOf n h 2 = ((n : Int) - 1).tmod h))))))))
theorem fin_all : ∀ n < 50, ∀ h < 5, fin_ n h = true := by decide +kernel
theorem c_FnShares (l : List Int) (hby : ∀ x ∈ l, 0 ≤ x ∧ x ≤ 255) : PCall Try.prog 4 [bys l] (.bool true) := by
  refine pcall_of Try.func4 (by kernel_rfl) rfl (by simp [Try.f4]) ?_
  by_cases hbig : l.length ≤ 1048576
  rotate_left
  · have cb := c_bigT l hbig
    repeat' (first
    | refine AWp.seq ?_
    | (refine AWp.region allP (by kernel_rfl) ?_; simp)
    | (refine AWp.condG ?_; simp)
    | (refine AWp.skip ?_; try simp)
    | (refine AWp.exit ?_; try simp)
    | refine AWp.block ?_
    | (refine aop_call' (cb) ?_; simp)
    | (refine AWp.ret (post_ret1 rfl ?_); (simp; done))
    | (refine guardI (fun hq => ?_) (fun hq => ?_) <;> (try simp at hq) <;> (try simp))
    | (refine condRunI (fun hq => ?_) (fun hq => ?_) <;> (try simp at hq) <;> (try simp))
    | (refine iteI (fun hq => ?_) (fun hq => ?_) <;> (try simp)))
  have hl : byOk l := ⟨hbig, hby⟩
  have cb := c_big l hl
  have r2 := atV_rng hl 2
  have r3 := atV_rng hl 3
  obtain ⟨n, hn⟩ : ∃ n : Nat, (atV l 2).tmod 50 = n := by
    refine ⟨((atV l 2).tmod 50).toNat, ?_⟩
    rw [Int.tmod_eq_emod_of_nonneg r2.1]; omega
  obtain ⟨h, hh⟩ : ∃ h : Nat, 1 + (atV l 3).tmod 4 = h := by
    refine ⟨(1 + (atV l 3).tmod 4).toNat, ?_⟩
    rw [Int.tmod_eq_emod_of_nonneg r3.1]; omega
  have hn50 : n < 50 := by rw [Int.tmod_eq_emod_of_nonneg r2.1] at hn; omega
  have hh5 : 1 ≤ h ∧ h < 5 := by rw [Int.tmod_eq_emod_of_nonneg r3.1] at hh; omega
  have hwh : IntKind.wrap .i64 (1 + (atV l 3).tmod 4) = h := by rw [hh]; exact wrap64 (by omega) (by omega)
  have nn : near1 n := by constructor <;> omega
  have nh : near1 h := by constructor <;> omega
  (repeat refine AWp.seq ?_); refine AWp.region noP (by kernel_rfl) ?_
  try simp
  (repeat refine AWp.seq ?_); refine AWp.region allP (by kernel_rfl) ?_
  try simp
  refine aop_call' cb ?_
  try simp
  (repeat refine AWp.seq ?_); refine AWp.condF (by simp) ?_
  refine AWp.skip ?_
  try simp
  (repeat refine AWp.seq ?_); refine AWp.region allP (by kernel_rfl) ?_
  simp
  refine aop_call' (c_at l hl 2 (by omega)) ?_
  simp [hn]
  (repeat refine AWp.seq ?_); refine AWp.region allP (by kernel_rfl) ?_
  simp
  refine aop_call' (c_at l hl 3 (by omega)) ?_
  simp [hwh]
  (repeat refine AWp.seq ?_); refine AWp.region noP (by kernel_rfl) ?_
  simp
  (repeat refine AWp.seq ?_); refine AWp.region noP (by kernel_rfl) ?_
  simp
  (repeat refine AWp.seq ?_); refine AWp.region noP (by kernel_rfl) ?_
  simp
  (repeat refine AWp.seq ?_); refine AWp.region noP (by kernel_rfl) ?_
  simp
  (try refine AWp.seq ?_)
  refine AWp.cutA (fun st => st.slots 0 = bys l ∧ st.slots 3 = .int .i64 n ∧ st.slots 4 = .int .i64 h ∧ st.slots 5 = .int .i64 (nxt n h h) ∧ st.slots 6 = .int .i64 (lst_ n h h) ∧ st.slots 7 = .int .i64 (mst n h h)) ?_ ?_
  · refine AWp.block (AWp.rounds (fun m st => ∃ (i : Nat), m = h - i ∧ i ≤ h ∧ st.slots 0 = bys l ∧ st.slots 3 = .int .i64 n ∧ st.slots 4 = .int .i64 h ∧ st.slots 5 = .int .i64 (nxt n h i) ∧ st.slots 6 = .int .i64 (lst_ n h i) ∧ st.slots 7 = .int .i64 (mst n h i) ∧ st.slots 8 = .int .i64 i) h ⟨0, by simp, by simp, by simp, by simp, by simp, by simp [nxt], by simp [lst_], by simp [mst], by simp⟩ ?_)
    rintro R m st hR ⟨i, rfl, hi, s0, s3, s4, s5, s6, s7, s8⟩
    (repeat refine AWp.seq ?_); refine AWp.region noP (by kernel_rfl) ?_
    simp [s4, s8]
    (repeat refine AWp.seq ?_); refine AWp.cond (b := decide (i < h)) (by simp) (fun hb => ?_) (fun hb => ?_)
    · simp at hb
      have hc := chk_all n hn50 h hh5.2 i hb
      unfold chk at hc
      simp only [Bool.and_eq_true, decide_eq_true_eq] at hc
      obtain ⟨k1, k2, k3, k4, k5⟩ := hc
      have hw : IntKind.wrap .i64 ((i : Int) + 1) = (i + 1 : Nat) := wrap64 (by omega) (by omega)
      have ca := c_impl_Shares n h i nn nh (by constructor <;> omega)
      have cl := c_impl_Last n h 1 nn nh
      have e5 : nxt n h (i + 1) = (sharesOf n h i).2 := rfl
      have e6 : lst_ n h (i + 1) = if (sharesOf n h i).2 - (sharesOf n h i).1 < lst_ n h i then (sharesOf n h i).2 - (sharesOf n h i).1 else lst_ n h i := rfl
      have e7 : mst n h (i + 1) = if (sharesOf n h i).2 - (sharesOf n h i).1 > mst n h i then (sharesOf n h i).2 - (sharesOf n h i).1 else mst n h i := rfl
      generalize (sharesOf n h i).1 = a at *
      generalize (sharesOf n h i).2 = b at *
      subst k1
      have hwd : IntKind.wrap .i64 (b - nxt n h i) = b - nxt n h i := wrap64 (by omega) (by omega)
      have hba : ¬ b < nxt n h i := by omega
      refine AWp.skip ?_
      try simp
      (repeat refine AWp.seq ?_); refine AWp.block ?_
      (repeat refine AWp.seq ?_); refine AWp.region allP (by kernel_rfl) ?_
      simp [s3, s4, s8]
      refine aop_call' ca ?_
      simp
      (repeat refine AWp.seq ?_); refine AWp.region noP (by kernel_rfl) ?_
      simp [s5, hba]
      (repeat refine AWp.seq ?_); refine AWp.condF (by simp) ?_
      refine AWp.skip ?_
      try simp
      (repeat refine AWp.seq ?_); refine AWp.region noP (by kernel_rfl) ?_
      simp
      (repeat refine AWp.seq ?_); refine AWp.region noP (by kernel_rfl) ?_
      simp [s6, hwd]
      (try refine AWp.seq ?_)
      refine AWp.cutA (fun u => u.slots 0 = bys l ∧ u.slots 3 = .int .i64 n ∧ u.slots 4 = .int .i64 h ∧ u.slots 5 = .int .i64 b ∧ u.slots 6 = .int .i64 (lst_ n h (i + 1)) ∧ u.slots 7 = .int .i64 (mst n h i) ∧ u.slots 8 = .int .i64 i ∧ u.slots 9 = .int .i64 (nxt n h i) ∧ u.slots 10 = .int .i64 b) ?_ ?_
      · by_cases z : b - nxt n h i < lst_ n h i
        · rw [if_pos z] at e6
          refine AWp.condT (by simp [z]) ?_
          (repeat refine AWp.seq ?_); refine AWp.region noP (by kernel_rfl) ?_
          simp [s0, s3, s4, s5, s6, s7, s8, hwd, e6]
        · rw [if_neg z] at e6
          refine AWp.condF (by simp [z]) ?_
          refine AWp.skip ?_
          simp [s0, s3, s4, s5, s6, s7, s8, hwd, e6]
      clear s0 s3 s4 s5 s6 s7 s8
      rintro u ⟨s0, s3, s4, s5, s6, s7, s8, s9, s10⟩
      (repeat refine AWp.seq ?_); refine AWp.region noP (by kernel_rfl) ?_
      simp [s7, s9, s10, hwd]
      (try refine AWp.seq ?_)
      refine AWp.cutA (fun u => u.slots 0 = bys l ∧ u.slots 3 = .int .i64 n ∧ u.slots 4 = .int .i64 h ∧ u.slots 5 = .int .i64 b ∧ u.slots 6 = .int .i64 (lst_ n h (i + 1)) ∧ u.slots 7 = .int .i64 (mst n h (i + 1)) ∧ u.slots 8 = .int .i64 i ∧ u.slots 9 = .int .i64 (nxt n h i) ∧ u.slots 10 = .int .i64 b) ?_ ?_
      · by_cases z : b - nxt n h i > mst n h i
        · rw [if_pos z] at e7
          refine AWp.condT (by simp; omega) ?_
          (repeat refine AWp.seq ?_); refine AWp.region noP (by kernel_rfl) ?_
          simp [s0, s3, s4, s5, s6, s7, s8, s9, s10, hwd, e7]
        · rw [if_neg z] at e7
          refine AWp.condF (by simp; omega) ?_
          refine AWp.skip ?_
          simp [s0, s3, s4, s5, s6, s7, s8, s9, s10, hwd, e7]
      clear s0 s3 s4 s5 s6 s7 s8 s9 s10
      rintro u ⟨s0, s3, s4, s5, s6, s7, s8, s9, s10⟩
      (try refine AWp.seq ?_)
      refine AWp.cutA (fun u => u.slots 87 = .bool false ∧ u.slots 0 = bys l ∧ u.slots 3 = .int .i64 n ∧ u.slots 4 = .int .i64 h ∧ u.slots 5 = .int .i64 b ∧ u.slots 6 = .int .i64 (lst_ n h (i + 1)) ∧ u.slots 7 = .int .i64 (mst n h (i + 1)) ∧ u.slots 8 = .int .i64 i) ?_ ?_
      · (repeat refine AWp.seq ?_); refine AWp.region allP (by kernel_rfl) ?_
        by_cases hn0 : n = 0
        · subst hn0
          simp [s0, s3, s4, s5, s6, s7, s8, s9, s10]
        · have hnp : 0 < n := by omega
          have k6 : (n == 0) = false := by simp [hn0]
          rw [k6, Bool.false_or, beq_iff_eq] at k5
          simp [s3, s4, hnp]
          refine aop_call' cl ?_
          by_cases q1 : lastOf n h 1 = (i : Int) <;> by_cases q2 : b = (n : Int) <;> by_cases q3 : nxt n h i < (n : Int) <;> simp [q1, q2, q3] at k5 <;> simp [s0, s3, s4, s5, s6, s7, s8, s9, s10, q1, q2, q3, binA, eqO, eqA]
      clear s0 s3 s4 s5 s6 s7 s8 s9 s10
      rintro u ⟨s87, s0, s3, s4, s5, s6, s7, s8⟩
      (repeat refine AWp.seq ?_); refine AWp.condF (by simp [s87]) ?_
      refine AWp.skip ?_
      try simp
      (repeat refine AWp.seq ?_); refine AWp.region noP (by kernel_rfl) ?_
      simp [s8, hw]
      exact hR _ (h - (i + 1)) (by omega) ⟨i + 1, rfl, hb, by simp [s0], by simp [s3], by simp [s4], by simp [s5, e5], by simp [s6], by simp [s7], by simp⟩
    · simp at hb
      have : i = h := by omega
      subst this
      refine AWp.exit ?_
      simp [s0, s3, s4, s5, s6, s7]
  rintro st ⟨s0, s3, s4, s5, s6, s7⟩
  have hf := fin_all n hn50 h hh5.2
  unfold fin_ at hf
  have h0 : (h == 0) = false := by simp; omega
  rw [h0, Bool.false_or] at hf
  simp only [Bool.and_eq_true, decide_eq_true_eq] at hf
  obtain ⟨f1, f2, f3, f4, f5, f6, f7⟩ := hf
  rw [f1] at s5
  generalize lst_ n h h = lo at *
  generalize mst n h h = hi at *
  have hwm : IntKind.wrap .i64 (hi - lo) = hi - lo := wrap64 (by omega) (by omega)
  have hwn : IntKind.wrap .i64 ((n : Int) - 1) = (n : Int) - 1 := wrap64 (by omega) (by omega)
  (repeat refine AWp.seq ?_); refine AWp.region noP (by kernel_rfl) ?_
  simp [s0]
  refine aop_wcall _ _ _ _ _ _ _ _ rfl (eval_func _ _) ?_
  refine c_DrawShares l hl fun x y z m1 hx hy hz _ => ?_
  simp
  (repeat refine AWp.seq ?_); refine AWp.region allP (by kernel_rfl) ?_
  simp
  refine aop_call' (c_impl_Shares x y z hx hy hz) ?_
  simp
  (repeat refine AWp.seq ?_); refine AWp.region allP (by kernel_rfl) ?_
  simp
  refine aop_call' (c_spec_Shares x y z hx hy hz) ?_
  simp
  (repeat refine AWp.seq ?_); refine AWp.region noP (by kernel_rfl) ?_
  simp [s0]
  refine aop_wcall _ _ _ _ _ _ _ _ rfl (eval_func _ _) ?_
  refine c_DrawHandOf l hl fun k j m2 hk hj _ => ?_
  simp
  (repeat refine AWp.seq ?_); refine AWp.region noP (by kernel_rfl) ?_
  simp [s0]
  refine aop_wcall _ _ _ _ _ _ _ _ rfl (eval_func _ _) ?_
  refine c_DrawLast l hl fun p q r m3 hp hq hr _ => ?_
  simp
  (repeat refine AWp.seq ?_); refine AWp.region allP (by kernel_rfl) ?_
  simp [s5, s3, s7, s6, hwm, f6]
  refine aop_call' (c_impl_HandOf k j hj hk) ?_
  simp
  refine aop_call' (c_spec_HandOf k j hj hk) ?_
  simp
  refine aop_call' (c_impl_Last p q r hp hq) ?_
  simp
  refine aop_call' (c_spec_Last p q r hp hq) ?_
  by_cases hn0 : n = 0
  · subst hn0
    simp [s3]
    exact AWp.ret (post_ret1 rfl (by simp))
  · have k6 : (n == 0) = false := by simp [hn0]
    have hh0 : ¬ h = 0 := by omega
    rw [k6, Bool.false_or, decide_eq_true_eq] at f7
    simp [s3, s4, hn0]
    refine aop_call' (c_impl_Last n h 2 nn nh) ?_
    simp [s3, s4, hwn, hh0, f7]
    exact AWp.ret (post_ret1 rfl (by simp))
end Go.T
