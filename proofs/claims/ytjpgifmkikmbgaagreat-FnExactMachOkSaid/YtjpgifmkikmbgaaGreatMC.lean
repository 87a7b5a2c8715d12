/- Statements that are right, but for loops: what the reference computes. Statements that are right: what the reference computes; StmtOk. -/
import Derived.Test.YtjpgifmkikmbgaaGreatMB
namespace Go.T
open Go Go.Proofs
set_option maxRecDepth 10000
set_option linter.unusedSimpArgs false
set_option linter.unusedVariables false
theorem c_l3Stmt_1 (s : ByteArray) (a e lo hi : Ex) (b : List Sm) (hs : s.size ≤ 9223372036854775806) (ha : a.tot ≤ 1048576) (he : e.tot ≤ 1048576) (hlo : lo.tot ≤ 1048576) (hhi : hi.tot ≤ 1048576) (d : Nat) :
    PCall Tryz.prog 139 [(Sm.mk 1 s a e lo hi b).av, .int .i64 d] (.int .i64 (if stHere 1 s a e lo hi b.length d = true then 1 else 100)) := by
  refine pcall_of Tryz.func139 (by kernel_rfl) rfl (by simp [Tryz.f139]) ?_
  unfold Sm.av
  rw [Sm.cells_mk]
  (repeat refine AWp.seq ?_); refine AWp.region noP (by kernel_rfl) ?_
  simp
  intro g
  have r : inR 1 1 4 = true := rfl
  cases x1 : a.no
  · repeat' (first
    | refine AWp.seq ?_
    | (refine AWp.region allP (by kernel_rfl) ?_; simp [*])
    | (refine AWp.condG ?_; simp [*])
    | (refine AWp.skip ?_; try simp)
    | (refine AWp.exit ?_; try simp)
    | refine AWp.block ?_
    | (refine aop_call' (c_l1In _ _ _) ?_; simp [*])
    | (refine aop_call' (c_l3No _) ?_; simp [*])
    | (refine aop_call' (c_spec_ExpOk a ha) ?_; simp [*])
    | (refine aop_call' (c_spec_ExpOk e he) ?_; simp [*])
    | (refine aop_call' (c_spec_ExpOk lo hlo) ?_; simp [*])
    | (refine aop_call' (c_spec_ExpOk hi hhi) ?_; simp [*])
    | (refine aop_call' (c_spec_NameOk _ hs) ?_; simp [*])
    | (refine AWp.ret (post_ret1 rfl ?_); (simp [stHere, noS, *]; done))
    | (refine guardI (fun hq => ?_) (fun hq => ?_) <;> (try simp at hq) <;> (try simp [*]))
    | (refine condRunI (fun hq => ?_) (fun hq => ?_) <;> (try simp at hq) <;> (try simp [*]))
    | (refine iteI (fun hq => ?_) (fun hq => ?_) <;> (try simp [*])))
  cases x2 : e.ok
  · repeat' (first
    | refine AWp.seq ?_
    | (refine AWp.region allP (by kernel_rfl) ?_; simp [*])
    | (refine AWp.condG ?_; simp [*])
    | (refine AWp.skip ?_; try simp)
    | (refine AWp.exit ?_; try simp)
    | refine AWp.block ?_
    | (refine aop_call' (c_l1In _ _ _) ?_; simp [*])
    | (refine aop_call' (c_l3No _) ?_; simp [*])
    | (refine aop_call' (c_spec_ExpOk a ha) ?_; simp [*])
    | (refine aop_call' (c_spec_ExpOk e he) ?_; simp [*])
    | (refine aop_call' (c_spec_ExpOk lo hlo) ?_; simp [*])
    | (refine aop_call' (c_spec_ExpOk hi hhi) ?_; simp [*])
    | (refine aop_call' (c_spec_NameOk _ hs) ?_; simp [*])
    | (refine AWp.ret (post_ret1 rfl ?_); (simp [stHere, noS, *]; done))
    | (refine guardI (fun hq => ?_) (fun hq => ?_) <;> (try simp at hq) <;> (try simp [*]))
    | (refine condRunI (fun hq => ?_) (fun hq => ?_) <;> (try simp at hq) <;> (try simp [*]))
    | (refine iteI (fun hq => ?_) (fun hq => ?_) <;> (try simp [*])))
  cases x3 : lo.no
  · repeat' (first
    | refine AWp.seq ?_
    | (refine AWp.region allP (by kernel_rfl) ?_; simp [*])
    | (refine AWp.condG ?_; simp [*])
    | (refine AWp.skip ?_; try simp)
    | (refine AWp.exit ?_; try simp)
    | refine AWp.block ?_
    | (refine aop_call' (c_l1In _ _ _) ?_; simp [*])
    | (refine aop_call' (c_l3No _) ?_; simp [*])
    | (refine aop_call' (c_spec_ExpOk a ha) ?_; simp [*])
    | (refine aop_call' (c_spec_ExpOk e he) ?_; simp [*])
    | (refine aop_call' (c_spec_ExpOk lo hlo) ?_; simp [*])
    | (refine aop_call' (c_spec_ExpOk hi hhi) ?_; simp [*])
    | (refine aop_call' (c_spec_NameOk _ hs) ?_; simp [*])
    | (refine AWp.ret (post_ret1 rfl ?_); (simp [stHere, noS, *]; done))
    | (refine guardI (fun hq => ?_) (fun hq => ?_) <;> (try simp at hq) <;> (try simp [*]))
    | (refine condRunI (fun hq => ?_) (fun hq => ?_) <;> (try simp at hq) <;> (try simp [*]))
    | (refine iteI (fun hq => ?_) (fun hq => ?_) <;> (try simp [*])))
  cases x4 : hi.no
  · repeat' (first
    | refine AWp.seq ?_
    | (refine AWp.region allP (by kernel_rfl) ?_; simp [*])
    | (refine AWp.condG ?_; simp [*])
    | (refine AWp.skip ?_; try simp)
    | (refine AWp.exit ?_; try simp)
    | refine AWp.block ?_
    | (refine aop_call' (c_l1In _ _ _) ?_; simp [*])
    | (refine aop_call' (c_l3No _) ?_; simp [*])
    | (refine aop_call' (c_spec_ExpOk a ha) ?_; simp [*])
    | (refine aop_call' (c_spec_ExpOk e he) ?_; simp [*])
    | (refine aop_call' (c_spec_ExpOk lo hlo) ?_; simp [*])
    | (refine aop_call' (c_spec_ExpOk hi hhi) ?_; simp [*])
    | (refine aop_call' (c_spec_NameOk _ hs) ?_; simp [*])
    | (refine AWp.ret (post_ret1 rfl ?_); (simp [stHere, noS, *]; done))
    | (refine guardI (fun hq => ?_) (fun hq => ?_) <;> (try simp at hq) <;> (try simp [*]))
    | (refine condRunI (fun hq => ?_) (fun hq => ?_) <;> (try simp at hq) <;> (try simp [*]))
    | (refine iteI (fun hq => ?_) (fun hq => ?_) <;> (try simp [*])))
  cases x5 : nameOk s
  · repeat' (first
    | refine AWp.seq ?_
    | (refine AWp.region allP (by kernel_rfl) ?_; simp [*])
    | (refine AWp.condG ?_; simp [*])
    | (refine AWp.skip ?_; try simp)
    | (refine AWp.exit ?_; try simp)
    | refine AWp.block ?_
    | (refine aop_call' (c_l1In _ _ _) ?_; simp [*])
    | (refine aop_call' (c_l3No _) ?_; simp [*])
    | (refine aop_call' (c_spec_ExpOk a ha) ?_; simp [*])
    | (refine aop_call' (c_spec_ExpOk e he) ?_; simp [*])
    | (refine aop_call' (c_spec_ExpOk lo hlo) ?_; simp [*])
    | (refine aop_call' (c_spec_ExpOk hi hhi) ?_; simp [*])
    | (refine aop_call' (c_spec_NameOk _ hs) ?_; simp [*])
    | (refine AWp.ret (post_ret1 rfl ?_); (simp [stHere, noS, *]; done))
    | (refine guardI (fun hq => ?_) (fun hq => ?_) <;> (try simp at hq) <;> (try simp [*]))
    | (refine condRunI (fun hq => ?_) (fun hq => ?_) <;> (try simp at hq) <;> (try simp [*]))
    | (refine iteI (fun hq => ?_) (fun hq => ?_) <;> (try simp [*])))
  by_cases hb : b = []
  · subst hb
    repeat' (first
    | refine AWp.seq ?_
    | (refine AWp.region allP (by kernel_rfl) ?_; simp [*])
    | (refine AWp.condG ?_; simp [*])
    | (refine AWp.skip ?_; try simp)
    | (refine AWp.exit ?_; try simp)
    | refine AWp.block ?_
    | (refine aop_call' (c_l1In _ _ _) ?_; simp [*])
    | (refine aop_call' (c_l3No _) ?_; simp [*])
    | (refine aop_call' (c_spec_ExpOk a ha) ?_; simp [*])
    | (refine aop_call' (c_spec_ExpOk e he) ?_; simp [*])
    | (refine aop_call' (c_spec_ExpOk lo hlo) ?_; simp [*])
    | (refine aop_call' (c_spec_ExpOk hi hhi) ?_; simp [*])
    | (refine aop_call' (c_spec_NameOk _ hs) ?_; simp [*])
    | (refine AWp.ret (post_ret1 rfl ?_); (simp [stHere, noS, *]; done))
    | (refine guardI (fun hq => ?_) (fun hq => ?_) <;> (try simp at hq) <;> (try simp [*]))
    | (refine condRunI (fun hq => ?_) (fun hq => ?_) <;> (try simp at hq) <;> (try simp [*]))
    | (refine iteI (fun hq => ?_) (fun hq => ?_) <;> (try simp [*])))
  have hb2 : (0 : Int) < b.length := by have := List.length_pos_iff.2 hb; omega
  repeat' (first
    | refine AWp.seq ?_
    | (refine AWp.region allP (by kernel_rfl) ?_; simp [*])
    | (refine AWp.condG ?_; simp [*])
    | (refine AWp.skip ?_; try simp)
    | (refine AWp.exit ?_; try simp)
    | refine AWp.block ?_
    | (refine aop_call' (c_l1In _ _ _) ?_; simp [*])
    | (refine aop_call' (c_l3No _) ?_; simp [*])
    | (refine aop_call' (c_spec_ExpOk a ha) ?_; simp [*])
    | (refine aop_call' (c_spec_ExpOk e he) ?_; simp [*])
    | (refine aop_call' (c_spec_ExpOk lo hlo) ?_; simp [*])
    | (refine aop_call' (c_spec_ExpOk hi hhi) ?_; simp [*])
    | (refine aop_call' (c_spec_NameOk _ hs) ?_; simp [*])
    | (refine AWp.ret (post_ret1 rfl ?_); (simp [stHere, noS, *]; done))
    | (refine guardI (fun hq => ?_) (fun hq => ?_) <;> (try simp at hq) <;> (try simp [*]))
    | (refine condRunI (fun hq => ?_) (fun hq => ?_) <;> (try simp at hq) <;> (try simp [*]))
    | (refine iteI (fun hq => ?_) (fun hq => ?_) <;> (try simp [*])))
theorem c_l3Stmt_2 (s : ByteArray) (a e lo hi : Ex) (b : List Sm) (hs : s.size ≤ 9223372036854775806) (ha : a.tot ≤ 1048576) (he : e.tot ≤ 1048576) (hlo : lo.tot ≤ 1048576) (hhi : hi.tot ≤ 1048576) (d : Nat) :
    PCall Tryz.prog 139 [(Sm.mk 2 s a e lo hi b).av, .int .i64 d] (.int .i64 (if stHere 2 s a e lo hi b.length d = true then 1 else 100)) := by
  refine pcall_of Tryz.func139 (by kernel_rfl) rfl (by simp [Tryz.f139]) ?_
  unfold Sm.av
  rw [Sm.cells_mk]
  (repeat refine AWp.seq ?_); refine AWp.region noP (by kernel_rfl) ?_
  simp
  intro g
  have r : inR 2 1 4 = true := rfl
  cases x1 : a.ok
  · repeat' (first
    | refine AWp.seq ?_
    | (refine AWp.region allP (by kernel_rfl) ?_; simp [*])
    | (refine AWp.condG ?_; simp [*])
    | (refine AWp.skip ?_; try simp)
    | (refine AWp.exit ?_; try simp)
    | refine AWp.block ?_
    | (refine aop_call' (c_l1In _ _ _) ?_; simp [*])
    | (refine aop_call' (c_l3No _) ?_; simp [*])
    | (refine aop_call' (c_spec_ExpOk a ha) ?_; simp [*])
    | (refine aop_call' (c_spec_ExpOk e he) ?_; simp [*])
    | (refine aop_call' (c_spec_ExpOk lo hlo) ?_; simp [*])
    | (refine aop_call' (c_spec_ExpOk hi hhi) ?_; simp [*])
    | (refine aop_call' (c_spec_NameOk _ hs) ?_; simp [*])
    | (refine AWp.ret (post_ret1 rfl ?_); (simp [stHere, noS, *]; done))
    | (refine guardI (fun hq => ?_) (fun hq => ?_) <;> (try simp at hq) <;> (try simp [*]))
    | (refine condRunI (fun hq => ?_) (fun hq => ?_) <;> (try simp at hq) <;> (try simp [*]))
    | (refine iteI (fun hq => ?_) (fun hq => ?_) <;> (try simp [*])))
  cases x2 : e.ok
  · repeat' (first
    | refine AWp.seq ?_
    | (refine AWp.region allP (by kernel_rfl) ?_; simp [*])
    | (refine AWp.condG ?_; simp [*])
    | (refine AWp.skip ?_; try simp)
    | (refine AWp.exit ?_; try simp)
    | refine AWp.block ?_
    | (refine aop_call' (c_l1In _ _ _) ?_; simp [*])
    | (refine aop_call' (c_l3No _) ?_; simp [*])
    | (refine aop_call' (c_spec_ExpOk a ha) ?_; simp [*])
    | (refine aop_call' (c_spec_ExpOk e he) ?_; simp [*])
    | (refine aop_call' (c_spec_ExpOk lo hlo) ?_; simp [*])
    | (refine aop_call' (c_spec_ExpOk hi hhi) ?_; simp [*])
    | (refine aop_call' (c_spec_NameOk _ hs) ?_; simp [*])
    | (refine AWp.ret (post_ret1 rfl ?_); (simp [stHere, noS, *]; done))
    | (refine guardI (fun hq => ?_) (fun hq => ?_) <;> (try simp at hq) <;> (try simp [*]))
    | (refine condRunI (fun hq => ?_) (fun hq => ?_) <;> (try simp at hq) <;> (try simp [*]))
    | (refine iteI (fun hq => ?_) (fun hq => ?_) <;> (try simp [*])))
  cases x3 : lo.no
  · repeat' (first
    | refine AWp.seq ?_
    | (refine AWp.region allP (by kernel_rfl) ?_; simp [*])
    | (refine AWp.condG ?_; simp [*])
    | (refine AWp.skip ?_; try simp)
    | (refine AWp.exit ?_; try simp)
    | refine AWp.block ?_
    | (refine aop_call' (c_l1In _ _ _) ?_; simp [*])
    | (refine aop_call' (c_l3No _) ?_; simp [*])
    | (refine aop_call' (c_spec_ExpOk a ha) ?_; simp [*])
    | (refine aop_call' (c_spec_ExpOk e he) ?_; simp [*])
    | (refine aop_call' (c_spec_ExpOk lo hlo) ?_; simp [*])
    | (refine aop_call' (c_spec_ExpOk hi hhi) ?_; simp [*])
    | (refine aop_call' (c_spec_NameOk _ hs) ?_; simp [*])
    | (refine AWp.ret (post_ret1 rfl ?_); (simp [stHere, noS, *]; done))
    | (refine guardI (fun hq => ?_) (fun hq => ?_) <;> (try simp at hq) <;> (try simp [*]))
    | (refine condRunI (fun hq => ?_) (fun hq => ?_) <;> (try simp at hq) <;> (try simp [*]))
    | (refine iteI (fun hq => ?_) (fun hq => ?_) <;> (try simp [*])))
  cases x4 : hi.no
  · repeat' (first
    | refine AWp.seq ?_
    | (refine AWp.region allP (by kernel_rfl) ?_; simp [*])
    | (refine AWp.condG ?_; simp [*])
    | (refine AWp.skip ?_; try simp)
    | (refine AWp.exit ?_; try simp)
    | refine AWp.block ?_
    | (refine aop_call' (c_l1In _ _ _) ?_; simp [*])
    | (refine aop_call' (c_l3No _) ?_; simp [*])
    | (refine aop_call' (c_spec_ExpOk a ha) ?_; simp [*])
    | (refine aop_call' (c_spec_ExpOk e he) ?_; simp [*])
    | (refine aop_call' (c_spec_ExpOk lo hlo) ?_; simp [*])
    | (refine aop_call' (c_spec_ExpOk hi hhi) ?_; simp [*])
    | (refine aop_call' (c_spec_NameOk _ hs) ?_; simp [*])
    | (refine AWp.ret (post_ret1 rfl ?_); (simp [stHere, noS, *]; done))
    | (refine guardI (fun hq => ?_) (fun hq => ?_) <;> (try simp at hq) <;> (try simp [*]))
    | (refine condRunI (fun hq => ?_) (fun hq => ?_) <;> (try simp at hq) <;> (try simp [*]))
    | (refine iteI (fun hq => ?_) (fun hq => ?_) <;> (try simp [*])))
  cases x5 : nameOk s
  · repeat' (first
    | refine AWp.seq ?_
    | (refine AWp.region allP (by kernel_rfl) ?_; simp [*])
    | (refine AWp.condG ?_; simp [*])
    | (refine AWp.skip ?_; try simp)
    | (refine AWp.exit ?_; try simp)
    | refine AWp.block ?_
    | (refine aop_call' (c_l1In _ _ _) ?_; simp [*])
    | (refine aop_call' (c_l3No _) ?_; simp [*])
    | (refine aop_call' (c_spec_ExpOk a ha) ?_; simp [*])
    | (refine aop_call' (c_spec_ExpOk e he) ?_; simp [*])
    | (refine aop_call' (c_spec_ExpOk lo hlo) ?_; simp [*])
    | (refine aop_call' (c_spec_ExpOk hi hhi) ?_; simp [*])
    | (refine aop_call' (c_spec_NameOk _ hs) ?_; simp [*])
    | (refine AWp.ret (post_ret1 rfl ?_); (simp [stHere, noS, *]; done))
    | (refine guardI (fun hq => ?_) (fun hq => ?_) <;> (try simp at hq) <;> (try simp [*]))
    | (refine condRunI (fun hq => ?_) (fun hq => ?_) <;> (try simp at hq) <;> (try simp [*]))
    | (refine iteI (fun hq => ?_) (fun hq => ?_) <;> (try simp [*])))
  by_cases hb : b = []
  · subst hb
    repeat' (first
    | refine AWp.seq ?_
    | (refine AWp.region allP (by kernel_rfl) ?_; simp [*])
    | (refine AWp.condG ?_; simp [*])
    | (refine AWp.skip ?_; try simp)
    | (refine AWp.exit ?_; try simp)
    | refine AWp.block ?_
    | (refine aop_call' (c_l1In _ _ _) ?_; simp [*])
    | (refine aop_call' (c_l3No _) ?_; simp [*])
    | (refine aop_call' (c_spec_ExpOk a ha) ?_; simp [*])
    | (refine aop_call' (c_spec_ExpOk e he) ?_; simp [*])
    | (refine aop_call' (c_spec_ExpOk lo hlo) ?_; simp [*])
    | (refine aop_call' (c_spec_ExpOk hi hhi) ?_; simp [*])
    | (refine aop_call' (c_spec_NameOk _ hs) ?_; simp [*])
    | (refine AWp.ret (post_ret1 rfl ?_); (simp [stHere, noS, *]; done))
    | (refine guardI (fun hq => ?_) (fun hq => ?_) <;> (try simp at hq) <;> (try simp [*]))
    | (refine condRunI (fun hq => ?_) (fun hq => ?_) <;> (try simp at hq) <;> (try simp [*]))
    | (refine iteI (fun hq => ?_) (fun hq => ?_) <;> (try simp [*])))
  have hb2 : (0 : Int) < b.length := by have := List.length_pos_iff.2 hb; omega
  repeat' (first
    | refine AWp.seq ?_
    | (refine AWp.region allP (by kernel_rfl) ?_; simp [*])
    | (refine AWp.condG ?_; simp [*])
    | (refine AWp.skip ?_; try simp)
    | (refine AWp.exit ?_; try simp)
    | refine AWp.block ?_
    | (refine aop_call' (c_l1In _ _ _) ?_; simp [*])
    | (refine aop_call' (c_l3No _) ?_; simp [*])
    | (refine aop_call' (c_spec_ExpOk a ha) ?_; simp [*])
    | (refine aop_call' (c_spec_ExpOk e he) ?_; simp [*])
    | (refine aop_call' (c_spec_ExpOk lo hlo) ?_; simp [*])
    | (refine aop_call' (c_spec_ExpOk hi hhi) ?_; simp [*])
    | (refine aop_call' (c_spec_NameOk _ hs) ?_; simp [*])
    | (refine AWp.ret (post_ret1 rfl ?_); (simp [stHere, noS, *]; done))
    | (refine guardI (fun hq => ?_) (fun hq => ?_) <;> (try simp at hq) <;> (try simp [*]))
    | (refine condRunI (fun hq => ?_) (fun hq => ?_) <;> (try simp at hq) <;> (try simp [*]))
    | (refine iteI (fun hq => ?_) (fun hq => ?_) <;> (try simp [*])))
theorem c_l3Stmt_4 (s : ByteArray) (a e lo hi : Ex) (b : List Sm) (hs : s.size ≤ 9223372036854775806) (ha : a.tot ≤ 1048576) (he : e.tot ≤ 1048576) (hlo : lo.tot ≤ 1048576) (hhi : hi.tot ≤ 1048576) (d : Nat) :
    PCall Tryz.prog 139 [(Sm.mk 4 s a e lo hi b).av, .int .i64 d] (.int .i64 (if stHere 4 s a e lo hi b.length d = true then 1 else 100)) := by
  refine pcall_of Tryz.func139 (by kernel_rfl) rfl (by simp [Tryz.f139]) ?_
  unfold Sm.av
  rw [Sm.cells_mk]
  (repeat refine AWp.seq ?_); refine AWp.region noP (by kernel_rfl) ?_
  simp
  intro g
  have r : inR 4 1 4 = true := rfl
  cases x1 : a.no
  · repeat' (first
    | refine AWp.seq ?_
    | (refine AWp.region allP (by kernel_rfl) ?_; simp [*])
    | (refine AWp.condG ?_; simp [*])
    | (refine AWp.skip ?_; try simp)
    | (refine AWp.exit ?_; try simp)
    | refine AWp.block ?_
    | (refine aop_call' (c_l1In _ _ _) ?_; simp [*])
    | (refine aop_call' (c_l3No _) ?_; simp [*])
    | (refine aop_call' (c_spec_ExpOk a ha) ?_; simp [*])
    | (refine aop_call' (c_spec_ExpOk e he) ?_; simp [*])
    | (refine aop_call' (c_spec_ExpOk lo hlo) ?_; simp [*])
    | (refine aop_call' (c_spec_ExpOk hi hhi) ?_; simp [*])
    | (refine aop_call' (c_spec_NameOk _ hs) ?_; simp [*])
    | (refine AWp.ret (post_ret1 rfl ?_); (simp [stHere, noS, *]; done))
    | (refine guardI (fun hq => ?_) (fun hq => ?_) <;> (try simp at hq) <;> (try simp [*]))
    | (refine condRunI (fun hq => ?_) (fun hq => ?_) <;> (try simp at hq) <;> (try simp [*]))
    | (refine iteI (fun hq => ?_) (fun hq => ?_) <;> (try simp [*])))
  cases x2 : e.ok
  · repeat' (first
    | refine AWp.seq ?_
    | (refine AWp.region allP (by kernel_rfl) ?_; simp [*])
    | (refine AWp.condG ?_; simp [*])
    | (refine AWp.skip ?_; try simp)
    | (refine AWp.exit ?_; try simp)
    | refine AWp.block ?_
    | (refine aop_call' (c_l1In _ _ _) ?_; simp [*])
    | (refine aop_call' (c_l3No _) ?_; simp [*])
    | (refine aop_call' (c_spec_ExpOk a ha) ?_; simp [*])
    | (refine aop_call' (c_spec_ExpOk e he) ?_; simp [*])
    | (refine aop_call' (c_spec_ExpOk lo hlo) ?_; simp [*])
    | (refine aop_call' (c_spec_ExpOk hi hhi) ?_; simp [*])
    | (refine aop_call' (c_spec_NameOk _ hs) ?_; simp [*])
    | (refine AWp.ret (post_ret1 rfl ?_); (simp [stHere, noS, *]; done))
    | (refine guardI (fun hq => ?_) (fun hq => ?_) <;> (try simp at hq) <;> (try simp [*]))
    | (refine condRunI (fun hq => ?_) (fun hq => ?_) <;> (try simp at hq) <;> (try simp [*]))
    | (refine iteI (fun hq => ?_) (fun hq => ?_) <;> (try simp [*])))
  cases x3 : lo.no
  · repeat' (first
    | refine AWp.seq ?_
    | (refine AWp.region allP (by kernel_rfl) ?_; simp [*])
    | (refine AWp.condG ?_; simp [*])
    | (refine AWp.skip ?_; try simp)
    | (refine AWp.exit ?_; try simp)
    | refine AWp.block ?_
    | (refine aop_call' (c_l1In _ _ _) ?_; simp [*])
    | (refine aop_call' (c_l3No _) ?_; simp [*])
    | (refine aop_call' (c_spec_ExpOk a ha) ?_; simp [*])
    | (refine aop_call' (c_spec_ExpOk e he) ?_; simp [*])
    | (refine aop_call' (c_spec_ExpOk lo hlo) ?_; simp [*])
    | (refine aop_call' (c_spec_ExpOk hi hhi) ?_; simp [*])
    | (refine aop_call' (c_spec_NameOk _ hs) ?_; simp [*])
    | (refine AWp.ret (post_ret1 rfl ?_); (simp [stHere, noS, *]; done))
    | (refine guardI (fun hq => ?_) (fun hq => ?_) <;> (try simp at hq) <;> (try simp [*]))
    | (refine condRunI (fun hq => ?_) (fun hq => ?_) <;> (try simp at hq) <;> (try simp [*]))
    | (refine iteI (fun hq => ?_) (fun hq => ?_) <;> (try simp [*])))
  cases x4 : hi.no
  · repeat' (first
    | refine AWp.seq ?_
    | (refine AWp.region allP (by kernel_rfl) ?_; simp [*])
    | (refine AWp.condG ?_; simp [*])
    | (refine AWp.skip ?_; try simp)
    | (refine AWp.exit ?_; try simp)
    | refine AWp.block ?_
    | (refine aop_call' (c_l1In _ _ _) ?_; simp [*])
    | (refine aop_call' (c_l3No _) ?_; simp [*])
    | (refine aop_call' (c_spec_ExpOk a ha) ?_; simp [*])
    | (refine aop_call' (c_spec_ExpOk e he) ?_; simp [*])
    | (refine aop_call' (c_spec_ExpOk lo hlo) ?_; simp [*])
    | (refine aop_call' (c_spec_ExpOk hi hhi) ?_; simp [*])
    | (refine aop_call' (c_spec_NameOk _ hs) ?_; simp [*])
    | (refine AWp.ret (post_ret1 rfl ?_); (simp [stHere, noS, *]; done))
    | (refine guardI (fun hq => ?_) (fun hq => ?_) <;> (try simp at hq) <;> (try simp [*]))
    | (refine condRunI (fun hq => ?_) (fun hq => ?_) <;> (try simp at hq) <;> (try simp [*]))
    | (refine iteI (fun hq => ?_) (fun hq => ?_) <;> (try simp [*])))
  by_cases xs : s = ⟨#[]⟩
  rotate_left
  · repeat' (first
    | refine AWp.seq ?_
    | (refine AWp.region allP (by kernel_rfl) ?_; simp [*])
    | (refine AWp.condG ?_; simp [*])
    | (refine AWp.skip ?_; try simp)
    | (refine AWp.exit ?_; try simp)
    | refine AWp.block ?_
    | (refine aop_call' (c_l1In _ _ _) ?_; simp [*])
    | (refine aop_call' (c_l3No _) ?_; simp [*])
    | (refine aop_call' (c_spec_ExpOk a ha) ?_; simp [*])
    | (refine aop_call' (c_spec_ExpOk e he) ?_; simp [*])
    | (refine aop_call' (c_spec_ExpOk lo hlo) ?_; simp [*])
    | (refine aop_call' (c_spec_ExpOk hi hhi) ?_; simp [*])
    | (refine aop_call' (c_spec_NameOk _ hs) ?_; simp [*])
    | (refine AWp.ret (post_ret1 rfl ?_); (simp [stHere, noS, *]; done))
    | (refine guardI (fun hq => ?_) (fun hq => ?_) <;> (try simp at hq) <;> (try simp [*]))
    | (refine condRunI (fun hq => ?_) (fun hq => ?_) <;> (try simp at hq) <;> (try simp [*]))
    | (refine iteI (fun hq => ?_) (fun hq => ?_) <;> (try simp [*])))
  subst xs
  by_cases hb : b = []
  · subst hb
    repeat' (first
    | refine AWp.seq ?_
    | (refine AWp.region allP (by kernel_rfl) ?_; simp [*])
    | (refine AWp.condG ?_; simp [*])
    | (refine AWp.skip ?_; try simp)
    | (refine AWp.exit ?_; try simp)
    | refine AWp.block ?_
    | (refine aop_call' (c_l1In _ _ _) ?_; simp [*])
    | (refine aop_call' (c_l3No _) ?_; simp [*])
    | (refine aop_call' (c_spec_ExpOk a ha) ?_; simp [*])
    | (refine aop_call' (c_spec_ExpOk e he) ?_; simp [*])
    | (refine aop_call' (c_spec_ExpOk lo hlo) ?_; simp [*])
    | (refine aop_call' (c_spec_ExpOk hi hhi) ?_; simp [*])
    | (refine aop_call' (c_spec_NameOk _ hs) ?_; simp [*])
    | (refine AWp.ret (post_ret1 rfl ?_); (simp [stHere, noS, *]; done))
    | (refine guardI (fun hq => ?_) (fun hq => ?_) <;> (try simp at hq) <;> (try simp [*]))
    | (refine condRunI (fun hq => ?_) (fun hq => ?_) <;> (try simp at hq) <;> (try simp [*]))
    | (refine iteI (fun hq => ?_) (fun hq => ?_) <;> (try simp [*])))
  have hb2 : (0 : Int) < b.length := by have := List.length_pos_iff.2 hb; omega
  repeat' (first
    | refine AWp.seq ?_
    | (refine AWp.region allP (by kernel_rfl) ?_; simp [*])
    | (refine AWp.condG ?_; simp [*])
    | (refine AWp.skip ?_; try simp)
    | (refine AWp.exit ?_; try simp)
    | refine AWp.block ?_
    | (refine aop_call' (c_l1In _ _ _) ?_; simp [*])
    | (refine aop_call' (c_l3No _) ?_; simp [*])
    | (refine aop_call' (c_spec_ExpOk a ha) ?_; simp [*])
    | (refine aop_call' (c_spec_ExpOk e he) ?_; simp [*])
    | (refine aop_call' (c_spec_ExpOk lo hlo) ?_; simp [*])
    | (refine aop_call' (c_spec_ExpOk hi hhi) ?_; simp [*])
    | (refine aop_call' (c_spec_NameOk _ hs) ?_; simp [*])
    | (refine AWp.ret (post_ret1 rfl ?_); (simp [stHere, noS, *]; done))
    | (refine guardI (fun hq => ?_) (fun hq => ?_) <;> (try simp at hq) <;> (try simp [*]))
    | (refine condRunI (fun hq => ?_) (fun hq => ?_) <;> (try simp at hq) <;> (try simp [*]))
    | (refine iteI (fun hq => ?_) (fun hq => ?_) <;> (try simp [*])))
theorem c_l3Stmt_k (k : Int) (s : ByteArray) (a e lo hi : Ex) (b : List Sm) (hs : s.size ≤ 9223372036854775806) (ha : a.tot ≤ 1048576) (he : e.tot ≤ 1048576) (hlo : lo.tot ≤ 1048576) (hhi : hi.tot ≤ 1048576) (d : Nat) (k1 : ¬ k = 1) (k2 : ¬ k = 2) (k3 : ¬ k = 3) (k4 : ¬ k = 4) :
    PCall Tryz.prog 139 [(Sm.mk k s a e lo hi b).av, .int .i64 d] (.int .i64 (if stHere k s a e lo hi b.length d = true then 1 else 100)) := by
  refine pcall_of Tryz.func139 (by kernel_rfl) rfl (by simp [Tryz.f139]) ?_
  unfold Sm.av
  rw [Sm.cells_mk]
  (repeat refine AWp.seq ?_); refine AWp.region noP (by kernel_rfl) ?_
  simp
  intro g
  have r : inR k 1 4 = false := by unfold inR; simp; omega
  cases x1 : a.no
  · repeat' (first
    | refine AWp.seq ?_
    | (refine AWp.region allP (by kernel_rfl) ?_; simp [*])
    | (refine AWp.condG ?_; simp [*])
    | (refine AWp.skip ?_; try simp)
    | (refine AWp.exit ?_; try simp)
    | refine AWp.block ?_
    | (refine aop_call' (c_l1In _ _ _) ?_; simp [*])
    | (refine aop_call' (c_l3No _) ?_; simp [*])
    | (refine aop_call' (c_spec_ExpOk a ha) ?_; simp [*])
    | (refine aop_call' (c_spec_ExpOk e he) ?_; simp [*])
    | (refine aop_call' (c_spec_ExpOk lo hlo) ?_; simp [*])
    | (refine aop_call' (c_spec_ExpOk hi hhi) ?_; simp [*])
    | (refine aop_call' (c_spec_NameOk _ hs) ?_; simp [*])
    | (refine AWp.ret (post_ret1 rfl ?_); (simp [stHere, noS, *]; done))
    | (refine guardI (fun hq => ?_) (fun hq => ?_) <;> (try simp at hq) <;> (try simp [*]))
    | (refine condRunI (fun hq => ?_) (fun hq => ?_) <;> (try simp at hq) <;> (try simp [*]))
    | (refine iteI (fun hq => ?_) (fun hq => ?_) <;> (try simp [*])))
  cases x2 : e.ok
  · repeat' (first
    | refine AWp.seq ?_
    | (refine AWp.region allP (by kernel_rfl) ?_; simp [*])
    | (refine AWp.condG ?_; simp [*])
    | (refine AWp.skip ?_; try simp)
    | (refine AWp.exit ?_; try simp)
    | refine AWp.block ?_
    | (refine aop_call' (c_l1In _ _ _) ?_; simp [*])
    | (refine aop_call' (c_l3No _) ?_; simp [*])
    | (refine aop_call' (c_spec_ExpOk a ha) ?_; simp [*])
    | (refine aop_call' (c_spec_ExpOk e he) ?_; simp [*])
    | (refine aop_call' (c_spec_ExpOk lo hlo) ?_; simp [*])
    | (refine aop_call' (c_spec_ExpOk hi hhi) ?_; simp [*])
    | (refine aop_call' (c_spec_NameOk _ hs) ?_; simp [*])
    | (refine AWp.ret (post_ret1 rfl ?_); (simp [stHere, noS, *]; done))
    | (refine guardI (fun hq => ?_) (fun hq => ?_) <;> (try simp at hq) <;> (try simp [*]))
    | (refine condRunI (fun hq => ?_) (fun hq => ?_) <;> (try simp at hq) <;> (try simp [*]))
    | (refine iteI (fun hq => ?_) (fun hq => ?_) <;> (try simp [*])))
  cases x3 : lo.no
  · repeat' (first
    | refine AWp.seq ?_
    | (refine AWp.region allP (by kernel_rfl) ?_; simp [*])
    | (refine AWp.condG ?_; simp [*])
    | (refine AWp.skip ?_; try simp)
    | (refine AWp.exit ?_; try simp)
    | refine AWp.block ?_
    | (refine aop_call' (c_l1In _ _ _) ?_; simp [*])
    | (refine aop_call' (c_l3No _) ?_; simp [*])
    | (refine aop_call' (c_spec_ExpOk a ha) ?_; simp [*])
    | (refine aop_call' (c_spec_ExpOk e he) ?_; simp [*])
    | (refine aop_call' (c_spec_ExpOk lo hlo) ?_; simp [*])
    | (refine aop_call' (c_spec_ExpOk hi hhi) ?_; simp [*])
    | (refine aop_call' (c_spec_NameOk _ hs) ?_; simp [*])
    | (refine AWp.ret (post_ret1 rfl ?_); (simp [stHere, noS, *]; done))
    | (refine guardI (fun hq => ?_) (fun hq => ?_) <;> (try simp at hq) <;> (try simp [*]))
    | (refine condRunI (fun hq => ?_) (fun hq => ?_) <;> (try simp at hq) <;> (try simp [*]))
    | (refine iteI (fun hq => ?_) (fun hq => ?_) <;> (try simp [*])))
  cases x4 : hi.no
  · repeat' (first
    | refine AWp.seq ?_
    | (refine AWp.region allP (by kernel_rfl) ?_; simp [*])
    | (refine AWp.condG ?_; simp [*])
    | (refine AWp.skip ?_; try simp)
    | (refine AWp.exit ?_; try simp)
    | refine AWp.block ?_
    | (refine aop_call' (c_l1In _ _ _) ?_; simp [*])
    | (refine aop_call' (c_l3No _) ?_; simp [*])
    | (refine aop_call' (c_spec_ExpOk a ha) ?_; simp [*])
    | (refine aop_call' (c_spec_ExpOk e he) ?_; simp [*])
    | (refine aop_call' (c_spec_ExpOk lo hlo) ?_; simp [*])
    | (refine aop_call' (c_spec_ExpOk hi hhi) ?_; simp [*])
    | (refine aop_call' (c_spec_NameOk _ hs) ?_; simp [*])
    | (refine AWp.ret (post_ret1 rfl ?_); (simp [stHere, noS, *]; done))
    | (refine guardI (fun hq => ?_) (fun hq => ?_) <;> (try simp at hq) <;> (try simp [*]))
    | (refine condRunI (fun hq => ?_) (fun hq => ?_) <;> (try simp at hq) <;> (try simp [*]))
    | (refine iteI (fun hq => ?_) (fun hq => ?_) <;> (try simp [*])))
  cases x5 : nameOk s
  · repeat' (first
    | refine AWp.seq ?_
    | (refine AWp.region allP (by kernel_rfl) ?_; simp [*])
    | (refine AWp.condG ?_; simp [*])
    | (refine AWp.skip ?_; try simp)
    | (refine AWp.exit ?_; try simp)
    | refine AWp.block ?_
    | (refine aop_call' (c_l1In _ _ _) ?_; simp [*])
    | (refine aop_call' (c_l3No _) ?_; simp [*])
    | (refine aop_call' (c_spec_ExpOk a ha) ?_; simp [*])
    | (refine aop_call' (c_spec_ExpOk e he) ?_; simp [*])
    | (refine aop_call' (c_spec_ExpOk lo hlo) ?_; simp [*])
    | (refine aop_call' (c_spec_ExpOk hi hhi) ?_; simp [*])
    | (refine aop_call' (c_spec_NameOk _ hs) ?_; simp [*])
    | (refine AWp.ret (post_ret1 rfl ?_); (simp [stHere, noS, *]; done))
    | (refine guardI (fun hq => ?_) (fun hq => ?_) <;> (try simp at hq) <;> (try simp [*]))
    | (refine condRunI (fun hq => ?_) (fun hq => ?_) <;> (try simp at hq) <;> (try simp [*]))
    | (refine iteI (fun hq => ?_) (fun hq => ?_) <;> (try simp [*])))
  repeat' (first
    | refine AWp.seq ?_
    | (refine AWp.region allP (by kernel_rfl) ?_; simp [*])
    | (refine AWp.condG ?_; simp [*])
    | (refine AWp.skip ?_; try simp)
    | (refine AWp.exit ?_; try simp)
    | refine AWp.block ?_
    | (refine aop_call' (c_l1In _ _ _) ?_; simp [*])
    | (refine aop_call' (c_l3No _) ?_; simp [*])
    | (refine aop_call' (c_spec_ExpOk a ha) ?_; simp [*])
    | (refine aop_call' (c_spec_ExpOk e he) ?_; simp [*])
    | (refine aop_call' (c_spec_ExpOk lo hlo) ?_; simp [*])
    | (refine aop_call' (c_spec_ExpOk hi hhi) ?_; simp [*])
    | (refine aop_call' (c_spec_NameOk _ hs) ?_; simp [*])
    | (refine AWp.ret (post_ret1 rfl ?_); (simp [stHere, noS, *]; done))
    | (refine guardI (fun hq => ?_) (fun hq => ?_) <;> (try simp at hq) <;> (try simp [*]))
    | (refine condRunI (fun hq => ?_) (fun hq => ?_) <;> (try simp at hq) <;> (try simp [*]))
    | (refine iteI (fun hq => ?_) (fun hq => ?_) <;> (try simp [*])))
theorem c_l3Stmt_3fa (s : ByteArray) (a e lo hi : Ex) (b : List Sm) (hs : s.size ≤ 9223372036854775806) (ha : a.tot ≤ 1048576) (he : e.tot ≤ 1048576) (hlo : lo.tot ≤ 1048576) (hhi : hi.tot ≤ 1048576) (d : Nat) (hx : ¬ (a.no = true ∧ e.no = true ∧ lo.ok = true ∧ hi.ok = true ∧ nameOk s = true)) :
    PCall Tryz.prog 139 [(Sm.mk 3 s a e lo hi b).av, .int .i64 d] (.int .i64 100) := by
  refine pcall_of Tryz.func139 (by kernel_rfl) rfl (by simp [Tryz.f139]) ?_
  unfold Sm.av
  rw [Sm.cells_mk]
  (repeat refine AWp.seq ?_); refine AWp.region noP (by kernel_rfl) ?_
  simp
  intro g
  have r : inR 3 1 4 = true := rfl
  cases x1 : a.no
  · clear hx
    repeat' (first
    | refine AWp.seq ?_
    | (refine AWp.region allP (by kernel_rfl) ?_; simp [*])
    | (refine AWp.condG ?_; simp [*])
    | (refine AWp.skip ?_; try simp)
    | (refine AWp.exit ?_; try simp)
    | refine AWp.block ?_
    | (refine aop_call' (c_l1In _ _ _) ?_; simp [*])
    | (refine aop_call' (c_l3No _) ?_; simp [*])
    | (refine aop_call' (c_spec_ExpOk a ha) ?_; simp [*])
    | (refine aop_call' (c_spec_ExpOk e he) ?_; simp [*])
    | (refine aop_call' (c_spec_ExpOk lo hlo) ?_; simp [*])
    | (refine aop_call' (c_spec_ExpOk hi hhi) ?_; simp [*])
    | (refine aop_call' (c_spec_NameOk _ hs) ?_; simp [*])
    | (refine AWp.ret (post_ret1 rfl ?_); (simp; done))
    | (refine guardI (fun hq => ?_) (fun hq => ?_) <;> (try simp at hq) <;> (try simp [*]))
    | (refine condRunI (fun hq => ?_) (fun hq => ?_) <;> (try simp at hq) <;> (try simp [*]))
    | (refine iteI (fun hq => ?_) (fun hq => ?_) <;> (try simp [*])))
  cases x2 : e.no
  · clear hx
    repeat' (first
    | refine AWp.seq ?_
    | (refine AWp.region allP (by kernel_rfl) ?_; simp [*])
    | (refine AWp.condG ?_; simp [*])
    | (refine AWp.skip ?_; try simp)
    | (refine AWp.exit ?_; try simp)
    | refine AWp.block ?_
    | (refine aop_call' (c_l1In _ _ _) ?_; simp [*])
    | (refine aop_call' (c_l3No _) ?_; simp [*])
    | (refine aop_call' (c_spec_ExpOk a ha) ?_; simp [*])
    | (refine aop_call' (c_spec_ExpOk e he) ?_; simp [*])
    | (refine aop_call' (c_spec_ExpOk lo hlo) ?_; simp [*])
    | (refine aop_call' (c_spec_ExpOk hi hhi) ?_; simp [*])
    | (refine aop_call' (c_spec_NameOk _ hs) ?_; simp [*])
    | (refine AWp.ret (post_ret1 rfl ?_); (simp; done))
    | (refine guardI (fun hq => ?_) (fun hq => ?_) <;> (try simp at hq) <;> (try simp [*]))
    | (refine condRunI (fun hq => ?_) (fun hq => ?_) <;> (try simp at hq) <;> (try simp [*]))
    | (refine iteI (fun hq => ?_) (fun hq => ?_) <;> (try simp [*])))
  cases x3 : lo.ok
  · clear hx
    repeat' (first
    | refine AWp.seq ?_
    | (refine AWp.region allP (by kernel_rfl) ?_; simp [*])
    | (refine AWp.condG ?_; simp [*])
    | (refine AWp.skip ?_; try simp)
    | (refine AWp.exit ?_; try simp)
    | refine AWp.block ?_
    | (refine aop_call' (c_l1In _ _ _) ?_; simp [*])
    | (refine aop_call' (c_l3No _) ?_; simp [*])
    | (refine aop_call' (c_spec_ExpOk a ha) ?_; simp [*])
    | (refine aop_call' (c_spec_ExpOk e he) ?_; simp [*])
    | (refine aop_call' (c_spec_ExpOk lo hlo) ?_; simp [*])
    | (refine aop_call' (c_spec_ExpOk hi hhi) ?_; simp [*])
    | (refine aop_call' (c_spec_NameOk _ hs) ?_; simp [*])
    | (refine AWp.ret (post_ret1 rfl ?_); (simp; done))
    | (refine guardI (fun hq => ?_) (fun hq => ?_) <;> (try simp at hq) <;> (try simp [*]))
    | (refine condRunI (fun hq => ?_) (fun hq => ?_) <;> (try simp at hq) <;> (try simp [*]))
    | (refine iteI (fun hq => ?_) (fun hq => ?_) <;> (try simp [*])))
  cases x4 : hi.ok
  · clear hx
    repeat' (first
    | refine AWp.seq ?_
    | (refine AWp.region allP (by kernel_rfl) ?_; simp [*])
    | (refine AWp.condG ?_; simp [*])
    | (refine AWp.skip ?_; try simp)
    | (refine AWp.exit ?_; try simp)
    | refine AWp.block ?_
    | (refine aop_call' (c_l1In _ _ _) ?_; simp [*])
    | (refine aop_call' (c_l3No _) ?_; simp [*])
    | (refine aop_call' (c_spec_ExpOk a ha) ?_; simp [*])
    | (refine aop_call' (c_spec_ExpOk e he) ?_; simp [*])
    | (refine aop_call' (c_spec_ExpOk lo hlo) ?_; simp [*])
    | (refine aop_call' (c_spec_ExpOk hi hhi) ?_; simp [*])
    | (refine aop_call' (c_spec_NameOk _ hs) ?_; simp [*])
    | (refine AWp.ret (post_ret1 rfl ?_); (simp; done))
    | (refine guardI (fun hq => ?_) (fun hq => ?_) <;> (try simp at hq) <;> (try simp [*]))
    | (refine condRunI (fun hq => ?_) (fun hq => ?_) <;> (try simp at hq) <;> (try simp [*]))
    | (refine iteI (fun hq => ?_) (fun hq => ?_) <;> (try simp [*])))
  cases x5 : nameOk s
  · clear hx
    repeat' (first
    | refine AWp.seq ?_
    | (refine AWp.region allP (by kernel_rfl) ?_; simp [*])
    | (refine AWp.condG ?_; simp [*])
    | (refine AWp.skip ?_; try simp)
    | (refine AWp.exit ?_; try simp)
    | refine AWp.block ?_
    | (refine aop_call' (c_l1In _ _ _) ?_; simp [*])
    | (refine aop_call' (c_l3No _) ?_; simp [*])
    | (refine aop_call' (c_spec_ExpOk a ha) ?_; simp [*])
    | (refine aop_call' (c_spec_ExpOk e he) ?_; simp [*])
    | (refine aop_call' (c_spec_ExpOk lo hlo) ?_; simp [*])
    | (refine aop_call' (c_spec_ExpOk hi hhi) ?_; simp [*])
    | (refine aop_call' (c_spec_NameOk _ hs) ?_; simp [*])
    | (refine AWp.ret (post_ret1 rfl ?_); (simp; done))
    | (refine guardI (fun hq => ?_) (fun hq => ?_) <;> (try simp at hq) <;> (try simp [*]))
    | (refine condRunI (fun hq => ?_) (fun hq => ?_) <;> (try simp at hq) <;> (try simp [*]))
    | (refine iteI (fun hq => ?_) (fun hq => ?_) <;> (try simp [*])))
  exact absurd ⟨x1, x2, x3, x4, x5⟩ hx
theorem c_l3Stmt_3fb (s : ByteArray) (a e lo hi : Ex) (b : List Sm) (hs : s.size ≤ 9223372036854775806) (ha : a.tot ≤ 1048576) (he : e.tot ≤ 1048576) (hlo : lo.tot ≤ 1048576) (hhi : hi.tot ≤ 1048576) (d : Nat) (x1 : a.no = true) (x2 : e.no = true) (x3 : lo.ok = true) (x4 : hi.ok = true) (x5 : nameOk s = true) (hx : ¬ (d < 3 ∧ inR b.length 1 6 = true)) :
    PCall Tryz.prog 139 [(Sm.mk 3 s a e lo hi b).av, .int .i64 d] (.int .i64 100) := by
  refine pcall_of Tryz.func139 (by kernel_rfl) rfl (by simp [Tryz.f139]) ?_
  unfold Sm.av
  rw [Sm.cells_mk]
  (repeat refine AWp.seq ?_); refine AWp.region noP (by kernel_rfl) ?_
  simp
  intro g
  have r : inR 3 1 4 = true := rfl
  by_cases hd3 : (3 : Int) ≤ d
  · clear hx
    repeat' (first
    | refine AWp.seq ?_
    | (refine AWp.region allP (by kernel_rfl) ?_; simp [*])
    | (refine AWp.condG ?_; simp [*])
    | (refine AWp.skip ?_; try simp)
    | (refine AWp.exit ?_; try simp)
    | refine AWp.block ?_
    | (refine aop_call' (c_l1In _ _ _) ?_; simp [*])
    | (refine aop_call' (c_l3No _) ?_; simp [*])
    | (refine aop_call' (c_spec_ExpOk a ha) ?_; simp [*])
    | (refine aop_call' (c_spec_ExpOk e he) ?_; simp [*])
    | (refine aop_call' (c_spec_ExpOk lo hlo) ?_; simp [*])
    | (refine aop_call' (c_spec_ExpOk hi hhi) ?_; simp [*])
    | (refine aop_call' (c_spec_NameOk _ hs) ?_; simp [*])
    | (refine AWp.ret (post_ret1 rfl ?_); (simp; done))
    | (refine guardI (fun hq => ?_) (fun hq => ?_) <;> (try simp at hq) <;> (try simp [*]))
    | (refine condRunI (fun hq => ?_) (fun hq => ?_) <;> (try simp at hq) <;> (try simp [*]))
    | (refine iteI (fun hq => ?_) (fun hq => ?_) <;> (try simp [*])))
  have hd4 : d < 3 := by omega
  have hd5 : (d : Int) < 3 := by omega
  cases x7 : inR b.length 1 6
  · clear hx
    repeat' (first
    | refine AWp.seq ?_
    | (refine AWp.region allP (by kernel_rfl) ?_; simp [*])
    | (refine AWp.condG ?_; simp [*])
    | (refine AWp.skip ?_; try simp)
    | (refine AWp.exit ?_; try simp)
    | refine AWp.block ?_
    | (refine aop_call' (c_l1In _ _ _) ?_; simp [*])
    | (refine aop_call' (c_l3No _) ?_; simp [*])
    | (refine aop_call' (c_spec_ExpOk a ha) ?_; simp [*])
    | (refine aop_call' (c_spec_ExpOk e he) ?_; simp [*])
    | (refine aop_call' (c_spec_ExpOk lo hlo) ?_; simp [*])
    | (refine aop_call' (c_spec_ExpOk hi hhi) ?_; simp [*])
    | (refine aop_call' (c_spec_NameOk _ hs) ?_; simp [*])
    | (refine AWp.ret (post_ret1 rfl ?_); (simp; done))
    | (refine guardI (fun hq => ?_) (fun hq => ?_) <;> (try simp at hq) <;> (try simp [*]))
    | (refine condRunI (fun hq => ?_) (fun hq => ?_) <;> (try simp at hq) <;> (try simp [*]))
    | (refine iteI (fun hq => ?_) (fun hq => ?_) <;> (try simp [*])))
  exact absurd ⟨hd4, x7⟩ hx
theorem c_l3Stmt_3f (s : ByteArray) (a e lo hi : Ex) (b : List Sm) (hs : s.size ≤ 9223372036854775806) (ha : a.tot ≤ 1048576) (he : e.tot ≤ 1048576) (hlo : lo.tot ≤ 1048576) (hhi : hi.tot ≤ 1048576) (d : Nat) (hx : ¬ stHere 3 s a e lo hi b.length d = true) :
    PCall Tryz.prog 139 [(Sm.mk 3 s a e lo hi b).av, .int .i64 d] (.int .i64 100) := by
  by_cases h5 : a.no = true ∧ e.no = true ∧ lo.ok = true ∧ hi.ok = true ∧ nameOk s = true
  · obtain ⟨x1, x2, x3, x4, x5⟩ := h5
    refine c_l3Stmt_3fb s a e lo hi b hs ha he hlo hhi d x1 x2 x3 x4 x5 fun h => hx ?_
    unfold stHere
    simp [x1, x2, x3, x4, x5, h.1, h.2]
  · exact c_l3Stmt_3fa s a e lo hi b hs ha he hlo hhi d h5
theorem c_l3Stmt_3t (s : ByteArray) (a e lo hi : Ex) (b : List Sm) (hs : s.size ≤ 9223372036854775806) (ha : a.tot ≤ 1048576) (he : e.tot ≤ 1048576) (hlo : lo.tot ≤ 1048576) (hhi : hi.tot ≤ 1048576) (hlen : b.length ≤ 1048576) (hsz : sumL Sm.size b ≤ 2097152)
    (h : ∀ x ∈ b, ∀ d : Nat, d ≤ 3 → PCall Tryz.prog 139 [x.av, .int .i64 d] (.int .i64 (x.cnt d))) (d : Nat) (hx : stHere 3 s a e lo hi b.length d = true) :
    PCall Tryz.prog 139 [(Sm.mk 3 s a e lo hi b).av, .int .i64 d] (.int .i64 (Sm.cnts b (d + 1) 1)) := by
  refine pcall_of Tryz.func139 (by kernel_rfl) rfl (by simp [Tryz.f139]) ?_
  unfold Sm.av
  rw [Sm.cells_mk]
  (repeat refine AWp.seq ?_); refine AWp.region noP (by kernel_rfl) ?_
  simp
  intro g
  have r : inR 3 1 4 = true := rfl
  unfold stHere at hx
  simp at hx
  obtain ⟨⟨⟨⟨⟨⟨x1, x2⟩, x3⟩, x4⟩, x5⟩, x6⟩, x7⟩ := hx
  have hd3 : ¬ (3 : Int) ≤ d := by omega
  have hd5 : (d : Int) < 3 := by omega
  repeat' (first
    | refine AWp.seq ?_
    | (refine AWp.region allP (by kernel_rfl) ?_; simp [x1, x2, x3, x4, x5, x7, hd3, hd5, r])
    | (refine AWp.condG ?_; simp [x1, x2, x3, x4, x5, x7, hd3, hd5, r])
    | (refine AWp.skip ?_; try simp)
    | (refine AWp.exit ?_; try simp)
    | refine AWp.block ?_
    | (refine aop_call' (c_l1In _ _ _) ?_; simp [x1, x2, x3, x4, x5, x7, hd3, hd5, r])
    | (refine aop_call' (c_l3No _) ?_; simp [x1, x2, x3, x4, x5, x7, hd3, hd5, r])
    | (refine aop_call' (c_spec_ExpOk a ha) ?_; simp [x1, x2, x3, x4, x5, x7, hd3, hd5, r])
    | (refine aop_call' (c_spec_ExpOk e he) ?_; simp [x1, x2, x3, x4, x5, x7, hd3, hd5, r])
    | (refine aop_call' (c_spec_ExpOk lo hlo) ?_; simp [x1, x2, x3, x4, x5, x7, hd3, hd5, r])
    | (refine aop_call' (c_spec_ExpOk hi hhi) ?_; simp [x1, x2, x3, x4, x5, x7, hd3, hd5, r])
    | (refine aop_call' (c_spec_NameOk _ hs) ?_; simp [x1, x2, x3, x4, x5, x7, hd3, hd5, r])
    | (refine guardI (fun hq => ?_) (fun hq => ?_) <;> (try simp at hq) <;> (try simp [x1, x2, x3, x4, x5, x7, hd3, hd5, r]))
    | (refine condRunI (fun hq => ?_) (fun hq => ?_) <;> (try simp at hq) <;> (try simp [x1, x2, x3, x4, x5, x7, hd3, hd5, r]))
    | (refine iteI (fun hq => ?_) (fun hq => ?_) <;> (try simp [x1, x2, x3, x4, x5, x7, hd3, hd5, r])))
  refine (AWp.rounds (fun m st => ∃ (i : Nat) (q : Int), m = b.length - i ∧ i ≤ b.length ∧ st.slots 2 = .ptr g 0 ∧ st.mem g = some (.box (.int .i64 3 :: .str s :: (a.cells ++ (e.cells ++ (lo.cells ++ (hi.cells ++ [.lst false 19 (b.map Sm.av)])))))) ∧ st.slots 11 = .int .i64 i ∧ st.slots 1 = .int .i64 d ∧ st.slots 10 = .int .i64 q ∧ 0 ≤ q ∧ q + 100 * sumL Sm.size (b.drop i) ≤ 1 + 100 * sumL Sm.size b ∧ Sm.cnts b (d + 1) 1 = Sm.cnts (b.drop i) (d + 1) q) b.length ⟨0, 1, by simp, by simp, by simp, by simp, by simp, by simp, by simp, by omega, by simp, by simp⟩ ?_)
  rintro R m st hR ⟨i, q, rfl, hi2, s2, sg, s11, s1, s10, hq0, hq1, hr⟩
  have hF : i < b.length ∧ q ≤ 40 ∨ Sm.cnts b (d + 1) 1 = q := by
    by_cases hb : i < b.length
    · by_cases hq : q ≤ 40
      · exact .inl ⟨hb, hq⟩
      · refine .inr ?_
        rw [hr, List.drop_eq_getElem_cons hb, Sm.cnts, if_neg hq]
    · refine .inr ?_
      rw [hr, List.drop_eq_nil_of_le (by omega), Sm.cnts]
  by_cases hb : i < b.length ∧ q ≤ 40
  · obtain ⟨hb, hq⟩ := hb
    have hg : b[i]? = some b[i] := List.getElem?_eq_getElem hb
    have hdr : b.drop i = b[i] :: b.drop (i + 1) := List.drop_eq_getElem_cons hb
    have hbi : (i : Int) < b.length := by omega
    (repeat refine AWp.seq ?_); refine AWp.region noP (by kernel_rfl) ?_
    simp [s2, sg, s10, s11, hb, hq]
    (repeat refine AWp.seq ?_); refine AWp.condT (by simp) ?_
    refine AWp.skip ?_
    simp
    (repeat refine AWp.seq ?_); refine AWp.block ?_; (repeat refine AWp.seq ?_); refine AWp.region allP (by kernel_rfl) ?_
    have hx : idxA Tryz.prog st.mem 29 (.lst false 19 (b.map Sm.av)) (.int .i64 i) = some (.ref b[i].cells) := idx (y := b[i].av) es_29 (by simp [hg])
    have hw1 : IntKind.wrap .i64 ((d : Int) + 1) = ((d + 1 : Nat) : Int) := wrap64 (by omega) (by omega)
    simp [s2, sg, s1, s10, s11, hx, hw1]
    refine aop_call' (h b[i] (List.getElem_mem _) (d + 1) (by omega)) ?_
    have hc0 := b[i].cnt_pos (d + 1)
    have hc1 := b[i].cnt_le (d + 1)
    rw [hdr, sumL] at hq1
    have hw2 : IntKind.wrap .i64 (q + b[i].cnt (d + 1)) = q + b[i].cnt (d + 1) := wrap64 (by omega) (by omega)
    simp [hw2]
    (repeat refine AWp.seq ?_); refine AWp.region noP (by kernel_rfl) ?_
    have hw : IntKind.wrap .i64 ((i : Int) + 1) = (i + 1 : Nat) := wrap64 (by omega) (by omega)
    simp [s11, hw]
    refine hR _ (b.length - (i + 1)) (by omega) ⟨i + 1, q + b[i].cnt (d + 1), rfl, hb, by simp [s2], by simp [sg], by simp, by simp [s1], by simp, by omega, by omega, ?_⟩
    rw [hr, hdr, Sm.cnts, if_pos hq]
  · have hfin : Sm.cnts b (d + 1) 1 = q := hF.resolve_left hb
    (repeat refine AWp.seq ?_); refine AWp.region noP (by kernel_rfl) ?_
    by_cases hb1 : i < b.length
    · have hq : ¬ q ≤ 40 := fun hq => hb ⟨hb1, hq⟩
      simp [s2, sg, s10, s11, hb1, hq]
      (repeat refine AWp.seq ?_); refine AWp.condF (by simp [hq]) ?_
      refine AWp.exit ?_
      simp
      (repeat refine AWp.seq ?_); refine AWp.region noP (by kernel_rfl) ?_
      simp [s10]
      exact AWp.ret (post_ret1 rfl (by simp [hfin]))
    · simp [s2, sg, s10, s11, hb1]
      (repeat refine AWp.seq ?_); refine AWp.condF (by simp) ?_
      refine AWp.exit ?_
      simp
      (repeat refine AWp.seq ?_); refine AWp.region noP (by kernel_rfl) ?_
      simp [s10]
      exact AWp.ret (post_ret1 rfl (by simp [hfin]))
end Go.T
namespace Go.T
open Go Go.Proofs
set_option maxRecDepth 10000
set_option linter.unusedSimpArgs false
set_option linter.unusedVariables false
theorem c_l3Stmt (e : Sm) : e.tot ≤ 1048576 → ∀ d : Nat, d ≤ 3 → PCall Tryz.prog 139 [e.av, .int .i64 d] (.int .i64 (e.cnt d)) := by
  induction e using Sm.ind with | h k s a e lo hi b h =>
  intro ht d hd
  rw [Sm.tot_mk] at ht
  have hlen := totL_len Sm.tot b
  have hsz : sumL Sm.size b ≤ 2097152 := by
    have := sumL_le Sm.size Sm.tot b (fun x _ => x.size_le)
    omega
  have hh : ∀ x ∈ b, ∀ d : Nat, d ≤ 3 → PCall Tryz.prog 139 [x.av, .int .i64 d] (.int .i64 (x.cnt d)) := fun x hx => h x hx (by have := totL_mem Sm.tot hx; omega)
  by_cases k3 : k = 3
  · subst k3
    by_cases hx : stHere 3 s a e lo hi b.length d = true
    · have e1 : (Sm.mk 3 s a e lo hi b).cnt d = Sm.cnts b (d + 1) 1 := by rw [Sm.cnt, if_pos hx, if_pos rfl]
      rw [e1]
      exact c_l3Stmt_3t s a e lo hi b (by omega) (by omega) (by omega) (by omega) (by omega) (by omega) hsz hh d hx
    · have e1 : (Sm.mk 3 s a e lo hi b).cnt d = 100 := by rw [Sm.cnt, if_neg hx]
      rw [e1]
      exact c_l3Stmt_3f s a e lo hi b (by omega) (by omega) (by omega) (by omega) (by omega) d hx
  have hr : (Sm.mk k s a e lo hi b).cnt d = if stHere k s a e lo hi b.length d = true then 1 else 100 := by rw [Sm.cnt, if_neg k3]
  rw [hr]
  by_cases k1 : k = 1
  · subst k1
    exact c_l3Stmt_1 s a e lo hi b (by omega) (by omega) (by omega) (by omega) (by omega) d
  by_cases k2 : k = 2
  · subst k2
    exact c_l3Stmt_2 s a e lo hi b (by omega) (by omega) (by omega) (by omega) (by omega) d
  by_cases k4 : k = 4
  · subst k4
    exact c_l3Stmt_4 s a e lo hi b (by omega) (by omega) (by omega) (by omega) (by omega) d
  exact c_l3Stmt_k k s a e lo hi b (by omega) (by omega) (by omega) (by omega) (by omega) d k1 k2 k3 k4
theorem c_spec_StmtOk (e : Sm) (ht : e.tot ≤ 1048576) : PCall Tryz.prog 114 [e.av] (.bool e.ok) := by
  refine pcall_of Tryz.func114 (by kernel_rfl) rfl (by simp [Tryz.f114]) ?_
  have c1 := c_l3Stmt e ht 0 (by omega)
  unfold Sm.av at c1 ⊢
  (repeat refine AWp.seq ?_); refine AWp.region noP (by kernel_rfl) ?_
  simp
  intro g
  (repeat refine AWp.seq ?_); refine AWp.region allP (by kernel_rfl) ?_
  simp
  refine aop_call' c1 ?_
  simp
  exact AWp.ret (post_ret1 rfl (by simp [Sm.ok_cnt]))
theorem c_impl_StmtOk (e : Sm) (ht : e.tot < 1048576) : PCall Tryz.prog 96 [e.av] (.bool e.ok) := by
  refine pcall_of Tryz.func96 (by kernel_rfl) rfl (by simp [Tryz.f96]) ?_
  have c1 := c_isRight e (by omega) 0 (by omega)
  have c2 := c_impl_Size [e] (by simp only [totL]; omega)
  have hz : sumL Sm.size [e] = e.size := by simp [sumL]
  rw [hz] at c2
  replace c2 : PCall Tryz.prog 95 [.lst true 19 [.agg e.cells]] (.int .i64 e.size) := c2.arg (.cons (Le.lst _ _ _) .nil)
  unfold Sm.av at c1 ⊢
  (repeat refine AWp.seq ?_); refine AWp.region noP (by kernel_rfl) ?_
  simp
  intro g
  (repeat refine AWp.seq ?_); refine AWp.region allP (by kernel_rfl) ?_
  simp
  refine aop_call' c1 ?_
  cases x1 : e.right 0
  · simp
    exact AWp.ret (post_ret1 rfl (by simp [Sm.ok, x1]))
  · simp
    refine aop_call' c2 ?_
    simp
    exact AWp.ret (post_ret1 rfl (by simp [Sm.ok, x1]; omega))
end Go.T
