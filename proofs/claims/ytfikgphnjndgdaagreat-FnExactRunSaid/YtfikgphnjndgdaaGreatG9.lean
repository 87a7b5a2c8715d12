/- Statements that are right, but for loops: what the reference computes. Statements that are right: what the reference computes; StmtOk. Where a name is: what the program and the reference compute. Names put in order: what the reference computes. The names of statements and expressions: what the reference computes. -/
import Derived.Test.YtfikgphnjndgdaaGreatG8
import Derived.Test.YtfikgphnjndgdaaGreatG3
namespace Go.T
open Go Go.Proofs
set_option maxRecDepth 10000
set_option maxHeartbeats 1000000
set_option linter.unusedSimpArgs false
set_option linter.unusedVariables false
theorem c_l3Stmt_1 (s : ByteArray) (a e lo hi : Ex) (b : List Sm) (hs : s.size ≤ 9223372036854775806) (ha : a.tot ≤ 1048576) (he : e.tot ≤ 1048576) (hlo : lo.tot ≤ 1048576) (hhi : hi.tot ≤ 1048576) (d : Nat) :
    PCall Tryz.prog 411 [(Sm.mk 1 s a e lo hi b).av, .int .i64 d] (.int .i64 (if stHere 1 s a e lo hi b.length d = true then 1 else 100)) := by
  refine pcall_of Tryz.func411 (by kernel_rfl) rfl (by simp [Tryz.f411]) ?_
  unfold Sm.av
  rw [Sm.cells_mk]
  (repeat refine AWp.seq ?_); refine AWp.region noP (by kernel_rfl) ?_
  simp
  intro g
  have r : inR 1 1 4 = true := rfl
  cases x1 : a.no
  · repeat' (first
    | refine AWp.seq ?_
    | (refine AWp.region allP (by kernel_rfl) ?_; simp [*])
    | (refine AWp.condG ?_; simp [*])
    | (refine AWp.skip ?_; try simp)
    | (refine AWp.exit ?_; try simp)
    | refine AWp.block ?_
    | (refine aop_call' (c_l1In _ _ _) ?_; simp [*])
    | (refine aop_call' (c_l3No _) ?_; simp [*])
    | (refine aop_call' (c_spec_ExpOk a ha) ?_; simp [*])
    | (refine aop_call' (c_spec_ExpOk e he) ?_; simp [*])
    | (refine aop_call' (c_spec_ExpOk lo hlo) ?_; simp [*])
    | (refine aop_call' (c_spec_ExpOk hi hhi) ?_; simp [*])
    | (refine aop_call' (c_spec_NameOk _ hs) ?_; simp [*])
    | (refine AWp.ret (post_ret1 rfl ?_); (simp [stHere, noS, *]; done))
    | (refine guardI (fun hq => ?_) (fun hq => ?_) <;> (try simp at hq) <;> (try simp [*]))
    | (refine condRunI (fun hq => ?_) (fun hq => ?_) <;> (try simp at hq) <;> (try simp [*]))
    | (refine iteI (fun hq => ?_) (fun hq => ?_) <;> (try simp [*])))
  cases x2 : e.ok
  · repeat' (first
    | refine AWp.seq ?_
    | (refine AWp.region allP (by kernel_rfl) ?_; simp [*])
    | (refine AWp.condG ?_; simp [*])
    | (refine AWp.skip ?_; try simp)
    | (refine AWp.exit ?_; try simp)
    | refine AWp.block ?_
    | (refine aop_call' (c_l1In _ _ _) ?_; simp [*])
    | (refine aop_call' (c_l3No _) ?_; simp [*])
    | (refine aop_call' (c_spec_ExpOk a ha) ?_; simp [*])
    | (refine aop_call' (c_spec_ExpOk e he) ?_; simp [*])
    | (refine aop_call' (c_spec_ExpOk lo hlo) ?_; simp [*])
    | (refine aop_call' (c_spec_ExpOk hi hhi) ?_; simp [*])
    | (refine aop_call' (c_spec_NameOk _ hs) ?_; simp [*])
    | (refine AWp.ret (post_ret1 rfl ?_); (simp [stHere, noS, *]; done))
    | (refine guardI (fun hq => ?_) (fun hq => ?_) <;> (try simp at hq) <;> (try simp [*]))
    | (refine condRunI (fun hq => ?_) (fun hq => ?_) <;> (try simp at hq) <;> (try simp [*]))
    | (refine iteI (fun hq => ?_) (fun hq => ?_) <;> (try simp [*])))
  cases x3 : lo.no
  · repeat' (first
    | refine AWp.seq ?_
    | (refine AWp.region allP (by kernel_rfl) ?_; simp [*])
    | (refine AWp.condG ?_; simp [*])
    | (refine AWp.skip ?_; try simp)
    | (refine AWp.exit ?_; try simp)
    | refine AWp.block ?_
    | (refine aop_call' (c_l1In _ _ _) ?_; simp [*])
    | (refine aop_call' (c_l3No _) ?_; simp [*])
    | (refine aop_call' (c_spec_ExpOk a ha) ?_; simp [*])
    | (refine aop_call' (c_spec_ExpOk e he) ?_; simp [*])
    | (refine aop_call' (c_spec_ExpOk lo hlo) ?_; simp [*])
    | (refine aop_call' (c_spec_ExpOk hi hhi) ?_; simp [*])
    | (refine aop_call' (c_spec_NameOk _ hs) ?_; simp [*])
    | (refine AWp.ret (post_ret1 rfl ?_); (simp [stHere, noS, *]; done))
    | (refine guardI (fun hq => ?_) (fun hq => ?_) <;> (try simp at hq) <;> (try simp [*]))
    | (refine condRunI (fun hq => ?_) (fun hq => ?_) <;> (try simp at hq) <;> (try simp [*]))
    | (refine iteI (fun hq => ?_) (fun hq => ?_) <;> (try simp [*])))
  cases x4 : hi.no
  · repeat' (first
    | refine AWp.seq ?_
    | (refine AWp.region allP (by kernel_rfl) ?_; simp [*])
    | (refine AWp.condG ?_; simp [*])
    | (refine AWp.skip ?_; try simp)
    | (refine AWp.exit ?_; try simp)
    | refine AWp.block ?_
    | (refine aop_call' (c_l1In _ _ _) ?_; simp [*])
    | (refine aop_call' (c_l3No _) ?_; simp [*])
    | (refine aop_call' (c_spec_ExpOk a ha) ?_; simp [*])
    | (refine aop_call' (c_spec_ExpOk e he) ?_; simp [*])
    | (refine aop_call' (c_spec_ExpOk lo hlo) ?_; simp [*])
    | (refine aop_call' (c_spec_ExpOk hi hhi) ?_; simp [*])
    | (refine aop_call' (c_spec_NameOk _ hs) ?_; simp [*])
    | (refine AWp.ret (post_ret1 rfl ?_); (simp [stHere, noS, *]; done))
    | (refine guardI (fun hq => ?_) (fun hq => ?_) <;> (try simp at hq) <;> (try simp [*]))
    | (refine condRunI (fun hq => ?_) (fun hq => ?_) <;> (try simp at hq) <;> (try simp [*]))
    | (refine iteI (fun hq => ?_) (fun hq => ?_) <;> (try simp [*])))
  cases x5 : nameOk s
  · repeat' (first
    | refine AWp.seq ?_
    | (refine AWp.region allP (by kernel_rfl) ?_; simp [*])
    | (refine AWp.condG ?_; simp [*])
    | (refine AWp.skip ?_; try simp)
    | (refine AWp.exit ?_; try simp)
    | refine AWp.block ?_
    | (refine aop_call' (c_l1In _ _ _) ?_; simp [*])
    | (refine aop_call' (c_l3No _) ?_; simp [*])
    | (refine aop_call' (c_spec_ExpOk a ha) ?_; simp [*])
    | (refine aop_call' (c_spec_ExpOk e he) ?_; simp [*])
    | (refine aop_call' (c_spec_ExpOk lo hlo) ?_; simp [*])
    | (refine aop_call' (c_spec_ExpOk hi hhi) ?_; simp [*])
    | (refine aop_call' (c_spec_NameOk _ hs) ?_; simp [*])
    | (refine AWp.ret (post_ret1 rfl ?_); (simp [stHere, noS, *]; done))
    | (refine guardI (fun hq => ?_) (fun hq => ?_) <;> (try simp at hq) <;> (try simp [*]))
    | (refine condRunI (fun hq => ?_) (fun hq => ?_) <;> (try simp at hq) <;> (try simp [*]))
    | (refine iteI (fun hq => ?_) (fun hq => ?_) <;> (try simp [*])))
  by_cases hb : b = []
  · subst hb
    repeat' (first
    | refine AWp.seq ?_
    | (refine AWp.region allP (by kernel_rfl) ?_; simp [*])
    | (refine AWp.condG ?_; simp [*])
    | (refine AWp.skip ?_; try simp)
    | (refine AWp.exit ?_; try simp)
    | refine AWp.block ?_
    | (refine aop_call' (c_l1In _ _ _) ?_; simp [*])
    | (refine aop_call' (c_l3No _) ?_; simp [*])
    | (refine aop_call' (c_spec_ExpOk a ha) ?_; simp [*])
    | (refine aop_call' (c_spec_ExpOk e he) ?_; simp [*])
    | (refine aop_call' (c_spec_ExpOk lo hlo) ?_; simp [*])
    | (refine aop_call' (c_spec_ExpOk hi hhi) ?_; simp [*])
    | (refine aop_call' (c_spec_NameOk _ hs) ?_; simp [*])
    | (refine AWp.ret (post_ret1 rfl ?_); (simp [stHere, noS, *]; done))
    | (refine guardI (fun hq => ?_) (fun hq => ?_) <;> (try simp at hq) <;> (try simp [*]))
    | (refine condRunI (fun hq => ?_) (fun hq => ?_) <;> (try simp at hq) <;> (try simp [*]))
    | (refine iteI (fun hq => ?_) (fun hq => ?_) <;> (try simp [*])))
  have hb2 : (0 : Int) < b.length := by have := List.length_pos_iff.2 hb; omega
  repeat' (first
    | refine AWp.seq ?_
    | (refine AWp.region allP (by kernel_rfl) ?_; simp [*])
    | (refine AWp.condG ?_; simp [*])
    | (refine AWp.skip ?_; try simp)
    | (refine AWp.exit ?_; try simp)
    | refine AWp.block ?_
    | (refine aop_call' (c_l1In _ _ _) ?_; simp [*])
    | (refine aop_call' (c_l3No _) ?_; simp [*])
    | (refine aop_call' (c_spec_ExpOk a ha) ?_; simp [*])
    | (refine aop_call' (c_spec_ExpOk e he) ?_; simp [*])
    | (refine aop_call' (c_spec_ExpOk lo hlo) ?_; simp [*])
    | (refine aop_call' (c_spec_ExpOk hi hhi) ?_; simp [*])
    | (refine aop_call' (c_spec_NameOk _ hs) ?_; simp [*])
    | (refine AWp.ret (post_ret1 rfl ?_); (simp [stHere, noS, *]; done))
    | (refine guardI (fun hq => ?_) (fun hq => ?_) <;> (try simp at hq) <;> (try simp [*]))
    | (refine condRunI (fun hq => ?_) (fun hq => ?_) <;> (try simp at hq) <;> (try simp [*]))
    | (refine iteI (fun hq => ?_) (fun hq => ?_) <;> (try simp [*])))
theorem c_l3Stmt_2 (s : ByteArray) (a e lo hi : Ex) (b : List Sm) (hs : s.size ≤ 9223372036854775806) (ha : a.tot ≤ 1048576) (he : e.tot ≤ 1048576) (hlo : lo.tot ≤ 1048576) (hhi : hi.tot ≤ 1048576) (d : Nat) :
    PCall Tryz.prog 411 [(Sm.mk 2 s a e lo hi b).av, .int .i64 d] (.int .i64 (if stHere 2 s a e lo hi b.length d = true then 1 else 100)) := by
  refine pcall_of Tryz.func411 (by kernel_rfl) rfl (by simp [Tryz.f411]) ?_
  unfold Sm.av
  rw [Sm.cells_mk]
  (repeat refine AWp.seq ?_); refine AWp.region noP (by kernel_rfl) ?_
  simp
  intro g
  have r : inR 2 1 4 = true := rfl
  cases x1 : a.ok
  · repeat' (first
    | refine AWp.seq ?_
    | (refine AWp.region allP (by kernel_rfl) ?_; simp [*])
    | (refine AWp.condG ?_; simp [*])
    | (refine AWp.skip ?_; try simp)
    | (refine AWp.exit ?_; try simp)
    | refine AWp.block ?_
    | (refine aop_call' (c_l1In _ _ _) ?_; simp [*])
    | (refine aop_call' (c_l3No _) ?_; simp [*])
    | (refine aop_call' (c_spec_ExpOk a ha) ?_; simp [*])
    | (refine aop_call' (c_spec_ExpOk e he) ?_; simp [*])
    | (refine aop_call' (c_spec_ExpOk lo hlo) ?_; simp [*])
    | (refine aop_call' (c_spec_ExpOk hi hhi) ?_; simp [*])
    | (refine aop_call' (c_spec_NameOk _ hs) ?_; simp [*])
    | (refine AWp.ret (post_ret1 rfl ?_); (simp [stHere, noS, *]; done))
    | (refine guardI (fun hq => ?_) (fun hq => ?_) <;> (try simp at hq) <;> (try simp [*]))
    | (refine condRunI (fun hq => ?_) (fun hq => ?_) <;> (try simp at hq) <;> (try simp [*]))
    | (refine iteI (fun hq => ?_) (fun hq => ?_) <;> (try simp [*])))
  cases x2 : e.ok
  · repeat' (first
    | refine AWp.seq ?_
    | (refine AWp.region allP (by kernel_rfl) ?_; simp [*])
    | (refine AWp.condG ?_; simp [*])
    | (refine AWp.skip ?_; try simp)
    | (refine AWp.exit ?_; try simp)
    | refine AWp.block ?_
    | (refine aop_call' (c_l1In _ _ _) ?_; simp [*])
    | (refine aop_call' (c_l3No _) ?_; simp [*])
    | (refine aop_call' (c_spec_ExpOk a ha) ?_; simp [*])
    | (refine aop_call' (c_spec_ExpOk e he) ?_; simp [*])
    | (refine aop_call' (c_spec_ExpOk lo hlo) ?_; simp [*])
    | (refine aop_call' (c_spec_ExpOk hi hhi) ?_; simp [*])
    | (refine aop_call' (c_spec_NameOk _ hs) ?_; simp [*])
    | (refine AWp.ret (post_ret1 rfl ?_); (simp [stHere, noS, *]; done))
    | (refine guardI (fun hq => ?_) (fun hq => ?_) <;> (try simp at hq) <;> (try simp [*]))
    | (refine condRunI (fun hq => ?_) (fun hq => ?_) <;> (try simp at hq) <;> (try simp [*]))
    | (refine iteI (fun hq => ?_) (fun hq => ?_) <;> (try simp [*])))
  cases x3 : lo.no
  · repeat' (first
    | refine AWp.seq ?_
    | (refine AWp.region allP (by kernel_rfl) ?_; simp [*])
    | (refine AWp.condG ?_; simp [*])
    | (refine AWp.skip ?_; try simp)
    | (refine AWp.exit ?_; try simp)
    | refine AWp.block ?_
    | (refine aop_call' (c_l1In _ _ _) ?_; simp [*])
    | (refine aop_call' (c_l3No _) ?_; simp [*])
    | (refine aop_call' (c_spec_ExpOk a ha) ?_; simp [*])
    | (refine aop_call' (c_spec_ExpOk e he) ?_; simp [*])
    | (refine aop_call' (c_spec_ExpOk lo hlo) ?_; simp [*])
    | (refine aop_call' (c_spec_ExpOk hi hhi) ?_; simp [*])
    | (refine aop_call' (c_spec_NameOk _ hs) ?_; simp [*])
    | (refine AWp.ret (post_ret1 rfl ?_); (simp [stHere, noS, *]; done))
    | (refine guardI (fun hq => ?_) (fun hq => ?_) <;> (try simp at hq) <;> (try simp [*]))
    | (refine condRunI (fun hq => ?_) (fun hq => ?_) <;> (try simp at hq) <;> (try simp [*]))
    | (refine iteI (fun hq => ?_) (fun hq => ?_) <;> (try simp [*])))
  cases x4 : hi.no
  · repeat' (first
    | refine AWp.seq ?_
    | (refine AWp.region allP (by kernel_rfl) ?_; simp [*])
    | (refine AWp.condG ?_; simp [*])
    | (refine AWp.skip ?_; try simp)
    | (refine AWp.exit ?_; try simp)
    | refine AWp.block ?_
    | (refine aop_call' (c_l1In _ _ _) ?_; simp [*])
    | (refine aop_call' (c_l3No _) ?_; simp [*])
    | (refine aop_call' (c_spec_ExpOk a ha) ?_; simp [*])
    | (refine aop_call' (c_spec_ExpOk e he) ?_; simp [*])
    | (refine aop_call' (c_spec_ExpOk lo hlo) ?_; simp [*])
    | (refine aop_call' (c_spec_ExpOk hi hhi) ?_; simp [*])
    | (refine aop_call' (c_spec_NameOk _ hs) ?_; simp [*])
    | (refine AWp.ret (post_ret1 rfl ?_); (simp [stHere, noS, *]; done))
    | (refine guardI (fun hq => ?_) (fun hq => ?_) <;> (try simp at hq) <;> (try simp [*]))
    | (refine condRunI (fun hq => ?_) (fun hq => ?_) <;> (try simp at hq) <;> (try simp [*]))
    | (refine iteI (fun hq => ?_) (fun hq => ?_) <;> (try simp [*])))
  cases x5 : nameOk s
  · repeat' (first
    | refine AWp.seq ?_
    | (refine AWp.region allP (by kernel_rfl) ?_; simp [*])
    | (refine AWp.condG ?_; simp [*])
    | (refine AWp.skip ?_; try simp)
    | (refine AWp.exit ?_; try simp)
    | refine AWp.block ?_
    | (refine aop_call' (c_l1In _ _ _) ?_; simp [*])
    | (refine aop_call' (c_l3No _) ?_; simp [*])
    | (refine aop_call' (c_spec_ExpOk a ha) ?_; simp [*])
    | (refine aop_call' (c_spec_ExpOk e he) ?_; simp [*])
    | (refine aop_call' (c_spec_ExpOk lo hlo) ?_; simp [*])
    | (refine aop_call' (c_spec_ExpOk hi hhi) ?_; simp [*])
    | (refine aop_call' (c_spec_NameOk _ hs) ?_; simp [*])
    | (refine AWp.ret (post_ret1 rfl ?_); (simp [stHere, noS, *]; done))
    | (refine guardI (fun hq => ?_) (fun hq => ?_) <;> (try simp at hq) <;> (try simp [*]))
    | (refine condRunI (fun hq => ?_) (fun hq => ?_) <;> (try simp at hq) <;> (try simp [*]))
    | (refine iteI (fun hq => ?_) (fun hq => ?_) <;> (try simp [*])))
  by_cases hb : b = []
  · subst hb
    repeat' (first
    | refine AWp.seq ?_
    | (refine AWp.region allP (by kernel_rfl) ?_; simp [*])
    | (refine AWp.condG ?_; simp [*])
    | (refine AWp.skip ?_; try simp)
    | (refine AWp.exit ?_; try simp)
    | refine AWp.block ?_
    | (refine aop_call' (c_l1In _ _ _) ?_; simp [*])
    | (refine aop_call' (c_l3No _) ?_; simp [*])
    | (refine aop_call' (c_spec_ExpOk a ha) ?_; simp [*])
    | (refine aop_call' (c_spec_ExpOk e he) ?_; simp [*])
    | (refine aop_call' (c_spec_ExpOk lo hlo) ?_; simp [*])
    | (refine aop_call' (c_spec_ExpOk hi hhi) ?_; simp [*])
    | (refine aop_call' (c_spec_NameOk _ hs) ?_; simp [*])
    | (refine AWp.ret (post_ret1 rfl ?_); (simp [stHere, noS, *]; done))
    | (refine guardI (fun hq => ?_) (fun hq => ?_) <;> (try simp at hq) <;> (try simp [*]))
    | (refine condRunI (fun hq => ?_) (fun hq => ?_) <;> (try simp at hq) <;> (try simp [*]))
    | (refine iteI (fun hq => ?_) (fun hq => ?_) <;> (try simp [*])))
  have hb2 : (0 : Int) < b.length := by have := List.length_pos_iff.2 hb; omega
  repeat' (first
    | refine AWp.seq ?_
    | (refine AWp.region allP (by kernel_rfl) ?_; simp [*])
    | (refine AWp.condG ?_; simp [*])
    | (refine AWp.skip ?_; try simp)
    | (refine AWp.exit ?_; try simp)
    | refine AWp.block ?_
    | (refine aop_call' (c_l1In _ _ _) ?_; simp [*])
    | (refine aop_call' (c_l3No _) ?_; simp [*])
    | (refine aop_call' (c_spec_ExpOk a ha) ?_; simp [*])
    | (refine aop_call' (c_spec_ExpOk e he) ?_; simp [*])
    | (refine aop_call' (c_spec_ExpOk lo hlo) ?_; simp [*])
    | (refine aop_call' (c_spec_ExpOk hi hhi) ?_; simp [*])
    | (refine aop_call' (c_spec_NameOk _ hs) ?_; simp [*])
    | (refine AWp.ret (post_ret1 rfl ?_); (simp [stHere, noS, *]; done))
    | (refine guardI (fun hq => ?_) (fun hq => ?_) <;> (try simp at hq) <;> (try simp [*]))
    | (refine condRunI (fun hq => ?_) (fun hq => ?_) <;> (try simp at hq) <;> (try simp [*]))
    | (refine iteI (fun hq => ?_) (fun hq => ?_) <;> (try simp [*])))
theorem c_l3Stmt_4 (s : ByteArray) (a e lo hi : Ex) (b : List Sm) (hs : s.size ≤ 9223372036854775806) (ha : a.tot ≤ 1048576) (he : e.tot ≤ 1048576) (hlo : lo.tot ≤ 1048576) (hhi : hi.tot ≤ 1048576) (d : Nat) :
    PCall Tryz.prog 411 [(Sm.mk 4 s a e lo hi b).av, .int .i64 d] (.int .i64 (if stHere 4 s a e lo hi b.length d = true then 1 else 100)) := by
  refine pcall_of Tryz.func411 (by kernel_rfl) rfl (by simp [Tryz.f411]) ?_
  unfold Sm.av
  rw [Sm.cells_mk]
  (repeat refine AWp.seq ?_); refine AWp.region noP (by kernel_rfl) ?_
  simp
  intro g
  have r : inR 4 1 4 = true := rfl
  cases x1 : a.no
  · repeat' (first
    | refine AWp.seq ?_
    | (refine AWp.region allP (by kernel_rfl) ?_; simp [*])
    | (refine AWp.condG ?_; simp [*])
    | (refine AWp.skip ?_; try simp)
    | (refine AWp.exit ?_; try simp)
    | refine AWp.block ?_
    | (refine aop_call' (c_l1In _ _ _) ?_; simp [*])
    | (refine aop_call' (c_l3No _) ?_; simp [*])
    | (refine aop_call' (c_spec_ExpOk a ha) ?_; simp [*])
    | (refine aop_call' (c_spec_ExpOk e he) ?_; simp [*])
    | (refine aop_call' (c_spec_ExpOk lo hlo) ?_; simp [*])
    | (refine aop_call' (c_spec_ExpOk hi hhi) ?_; simp [*])
    | (refine aop_call' (c_spec_NameOk _ hs) ?_; simp [*])
    | (refine AWp.ret (post_ret1 rfl ?_); (simp [stHere, noS, *]; done))
    | (refine guardI (fun hq => ?_) (fun hq => ?_) <;> (try simp at hq) <;> (try simp [*]))
    | (refine condRunI (fun hq => ?_) (fun hq => ?_) <;> (try simp at hq) <;> (try simp [*]))
    | (refine iteI (fun hq => ?_) (fun hq => ?_) <;> (try simp [*])))
  cases x2 : e.ok
  · repeat' (first
    | refine AWp.seq ?_
    | (refine AWp.region allP (by kernel_rfl) ?_; simp [*])
    | (refine AWp.condG ?_; simp [*])
    | (refine AWp.skip ?_; try simp)
    | (refine AWp.exit ?_; try simp)
    | refine AWp.block ?_
    | (refine aop_call' (c_l1In _ _ _) ?_; simp [*])
    | (refine aop_call' (c_l3No _) ?_; simp [*])
    | (refine aop_call' (c_spec_ExpOk a ha) ?_; simp [*])
    | (refine aop_call' (c_spec_ExpOk e he) ?_; simp [*])
    | (refine aop_call' (c_spec_ExpOk lo hlo) ?_; simp [*])
    | (refine aop_call' (c_spec_ExpOk hi hhi) ?_; simp [*])
    | (refine aop_call' (c_spec_NameOk _ hs) ?_; simp [*])
    | (refine AWp.ret (post_ret1 rfl ?_); (simp [stHere, noS, *]; done))
    | (refine guardI (fun hq => ?_) (fun hq => ?_) <;> (try simp at hq) <;> (try simp [*]))
    | (refine condRunI (fun hq => ?_) (fun hq => ?_) <;> (try simp at hq) <;> (try simp [*]))
    | (refine iteI (fun hq => ?_) (fun hq => ?_) <;> (try simp [*])))
  cases x3 : lo.no
  · repeat' (first
    | refine AWp.seq ?_
    | (refine AWp.region allP (by kernel_rfl) ?_; simp [*])
    | (refine AWp.condG ?_; simp [*])
    | (refine AWp.skip ?_; try simp)
    | (refine AWp.exit ?_; try simp)
    | refine AWp.block ?_
    | (refine aop_call' (c_l1In _ _ _) ?_; simp [*])
    | (refine aop_call' (c_l3No _) ?_; simp [*])
    | (refine aop_call' (c_spec_ExpOk a ha) ?_; simp [*])
    | (refine aop_call' (c_spec_ExpOk e he) ?_; simp [*])
    | (refine aop_call' (c_spec_ExpOk lo hlo) ?_; simp [*])
    | (refine aop_call' (c_spec_ExpOk hi hhi) ?_; simp [*])
    | (refine aop_call' (c_spec_NameOk _ hs) ?_; simp [*])
    | (refine AWp.ret (post_ret1 rfl ?_); (simp [stHere, noS, *]; done))
    | (refine guardI (fun hq => ?_) (fun hq => ?_) <;> (try simp at hq) <;> (try simp [*]))
    | (refine condRunI (fun hq => ?_) (fun hq => ?_) <;> (try simp at hq) <;> (try simp [*]))
    | (refine iteI (fun hq => ?_) (fun hq => ?_) <;> (try simp [*])))
  cases x4 : hi.no
  · repeat' (first
    | refine AWp.seq ?_
    | (refine AWp.region allP (by kernel_rfl) ?_; simp [*])
    | (refine AWp.condG ?_; simp [*])
    | (refine AWp.skip ?_; try simp)
    | (refine AWp.exit ?_; try simp)
    | refine AWp.block ?_
    | (refine aop_call' (c_l1In _ _ _) ?_; simp [*])
    | (refine aop_call' (c_l3No _) ?_; simp [*])
    | (refine aop_call' (c_spec_ExpOk a ha) ?_; simp [*])
    | (refine aop_call' (c_spec_ExpOk e he) ?_; simp [*])
    | (refine aop_call' (c_spec_ExpOk lo hlo) ?_; simp [*])
    | (refine aop_call' (c_spec_ExpOk hi hhi) ?_; simp [*])
    | (refine aop_call' (c_spec_NameOk _ hs) ?_; simp [*])
    | (refine AWp.ret (post_ret1 rfl ?_); (simp [stHere, noS, *]; done))
    | (refine guardI (fun hq => ?_) (fun hq => ?_) <;> (try simp at hq) <;> (try simp [*]))
    | (refine condRunI (fun hq => ?_) (fun hq => ?_) <;> (try simp at hq) <;> (try simp [*]))
    | (refine iteI (fun hq => ?_) (fun hq => ?_) <;> (try simp [*])))
  by_cases xs : s = ⟨#[]⟩
  rotate_left
  · repeat' (first
    | refine AWp.seq ?_
    | (refine AWp.region allP (by kernel_rfl) ?_; simp [*])
    | (refine AWp.condG ?_; simp [*])
    | (refine AWp.skip ?_; try simp)
    | (refine AWp.exit ?_; try simp)
    | refine AWp.block ?_
    | (refine aop_call' (c_l1In _ _ _) ?_; simp [*])
    | (refine aop_call' (c_l3No _) ?_; simp [*])
    | (refine aop_call' (c_spec_ExpOk a ha) ?_; simp [*])
    | (refine aop_call' (c_spec_ExpOk e he) ?_; simp [*])
    | (refine aop_call' (c_spec_ExpOk lo hlo) ?_; simp [*])
    | (refine aop_call' (c_spec_ExpOk hi hhi) ?_; simp [*])
    | (refine aop_call' (c_spec_NameOk _ hs) ?_; simp [*])
    | (refine AWp.ret (post_ret1 rfl ?_); (simp [stHere, noS, *]; done))
    | (refine guardI (fun hq => ?_) (fun hq => ?_) <;> (try simp at hq) <;> (try simp [*]))
    | (refine condRunI (fun hq => ?_) (fun hq => ?_) <;> (try simp at hq) <;> (try simp [*]))
    | (refine iteI (fun hq => ?_) (fun hq => ?_) <;> (try simp [*])))
  subst xs
  by_cases hb : b = []
  · subst hb
    repeat' (first
    | refine AWp.seq ?_
    | (refine AWp.region allP (by kernel_rfl) ?_; simp [*])
    | (refine AWp.condG ?_; simp [*])
    | (refine AWp.skip ?_; try simp)
    | (refine AWp.exit ?_; try simp)
    | refine AWp.block ?_
    | (refine aop_call' (c_l1In _ _ _) ?_; simp [*])
    | (refine aop_call' (c_l3No _) ?_; simp [*])
    | (refine aop_call' (c_spec_ExpOk a ha) ?_; simp [*])
    | (refine aop_call' (c_spec_ExpOk e he) ?_; simp [*])
    | (refine aop_call' (c_spec_ExpOk lo hlo) ?_; simp [*])
    | (refine aop_call' (c_spec_ExpOk hi hhi) ?_; simp [*])
    | (refine aop_call' (c_spec_NameOk _ hs) ?_; simp [*])
    | (refine AWp.ret (post_ret1 rfl ?_); (simp [stHere, noS, *]; done))
    | (refine guardI (fun hq => ?_) (fun hq => ?_) <;> (try simp at hq) <;> (try simp [*]))
    | (refine condRunI (fun hq => ?_) (fun hq => ?_) <;> (try simp at hq) <;> (try simp [*]))
    | (refine iteI (fun hq => ?_) (fun hq => ?_) <;> (try simp [*])))
  have hb2 : (0 : Int) < b.length := by have := List.length_pos_iff.2 hb; omega
  repeat' (first
    | refine AWp.seq ?_
    | (refine AWp.region allP (by kernel_rfl) ?_; simp [*])
    | (refine AWp.condG ?_; simp [*])
    | (refine AWp.skip ?_; try simp)
    | (refine AWp.exit ?_; try simp)
    | refine AWp.block ?_
    | (refine aop_call' (c_l1In _ _ _) ?_; simp [*])
    | (refine aop_call' (c_l3No _) ?_; simp [*])
    | (refine aop_call' (c_spec_ExpOk a ha) ?_; simp [*])
    | (refine aop_call' (c_spec_ExpOk e he) ?_; simp [*])
    | (refine aop_call' (c_spec_ExpOk lo hlo) ?_; simp [*])
    | (refine aop_call' (c_spec_ExpOk hi hhi) ?_; simp [*])
    | (refine aop_call' (c_spec_NameOk _ hs) ?_; simp [*])
    | (refine AWp.ret (post_ret1 rfl ?_); (simp [stHere, noS, *]; done))
    | (refine guardI (fun hq => ?_) (fun hq => ?_) <;> (try simp at hq) <;> (try simp [*]))
    | (refine condRunI (fun hq => ?_) (fun hq => ?_) <;> (try simp at hq) <;> (try simp [*]))
    | (refine iteI (fun hq => ?_) (fun hq => ?_) <;> (try simp [*])))
theorem c_l3Stmt_k (k : Int) (s : ByteArray) (a e lo hi : Ex) (b : List Sm) (hs : s.size ≤ 9223372036854775806) (ha : a.tot ≤ 1048576) (he : e.tot ≤ 1048576) (hlo : lo.tot ≤ 1048576) (hhi : hi.tot ≤ 1048576) (d : Nat) (k1 : ¬ k = 1) (k2 : ¬ k = 2) (k3 : ¬ k = 3) (k4 : ¬ k = 4) :
    PCall Tryz.prog 411 [(Sm.mk k s a e lo hi b).av, .int .i64 d] (.int .i64 (if stHere k s a e lo hi b.length d = true then 1 else 100)) := by
  refine pcall_of Tryz.func411 (by kernel_rfl) rfl (by simp [Tryz.f411]) ?_
  unfold Sm.av
  rw [Sm.cells_mk]
  (repeat refine AWp.seq ?_); refine AWp.region noP (by kernel_rfl) ?_
  simp
  intro g
  have r : inR k 1 4 = false := by unfold inR; simp; omega
  cases x1 : a.no
  · repeat' (first
    | refine AWp.seq ?_
    | (refine AWp.region allP (by kernel_rfl) ?_; simp [*])
    | (refine AWp.condG ?_; simp [*])
    | (refine AWp.skip ?_; try simp)
    | (refine AWp.exit ?_; try simp)
    | refine AWp.block ?_
    | (refine aop_call' (c_l1In _ _ _) ?_; simp [*])
    | (refine aop_call' (c_l3No _) ?_; simp [*])
    | (refine aop_call' (c_spec_ExpOk a ha) ?_; simp [*])
    | (refine aop_call' (c_spec_ExpOk e he) ?_; simp [*])
    | (refine aop_call' (c_spec_ExpOk lo hlo) ?_; simp [*])
    | (refine aop_call' (c_spec_ExpOk hi hhi) ?_; simp [*])
    | (refine aop_call' (c_spec_NameOk _ hs) ?_; simp [*])
    | (refine AWp.ret (post_ret1 rfl ?_); (simp [stHere, noS, *]; done))
    | (refine guardI (fun hq => ?_) (fun hq => ?_) <;> (try simp at hq) <;> (try simp [*]))
    | (refine condRunI (fun hq => ?_) (fun hq => ?_) <;> (try simp at hq) <;> (try simp [*]))
    | (refine iteI (fun hq => ?_) (fun hq => ?_) <;> (try simp [*])))
  cases x2 : e.ok
  · repeat' (first
    | refine AWp.seq ?_
    | (refine AWp.region allP (by kernel_rfl) ?_; simp [*])
    | (refine AWp.condG ?_; simp [*])
    | (refine AWp.skip ?_; try simp)
    | (refine AWp.exit ?_; try simp)
    | refine AWp.block ?_
    | (refine aop_call' (c_l1In _ _ _) ?_; simp [*])
    | (refine aop_call' (c_l3No _) ?_; simp [*])
    | (refine aop_call' (c_spec_ExpOk a ha) ?_; simp [*])
    | (refine aop_call' (c_spec_ExpOk e he) ?_; simp [*])
    | (refine aop_call' (c_spec_ExpOk lo hlo) ?_; simp [*])
    | (refine aop_call' (c_spec_ExpOk hi hhi) ?_; simp [*])
    | (refine aop_call' (c_spec_NameOk _ hs) ?_; simp [*])
    | (refine AWp.ret (post_ret1 rfl ?_); (simp [stHere, noS, *]; done))
    | (refine guardI (fun hq => ?_) (fun hq => ?_) <;> (try simp at hq) <;> (try simp [*]))
    | (refine condRunI (fun hq => ?_) (fun hq => ?_) <;> (try simp at hq) <;> (try simp [*]))
    | (refine iteI (fun hq => ?_) (fun hq => ?_) <;> (try simp [*])))
  cases x3 : lo.no
  · repeat' (first
    | refine AWp.seq ?_
    | (refine AWp.region allP (by kernel_rfl) ?_; simp [*])
    | (refine AWp.condG ?_; simp [*])
    | (refine AWp.skip ?_; try simp)
    | (refine AWp.exit ?_; try simp)
    | refine AWp.block ?_
    | (refine aop_call' (c_l1In _ _ _) ?_; simp [*])
    | (refine aop_call' (c_l3No _) ?_; simp [*])
    | (refine aop_call' (c_spec_ExpOk a ha) ?_; simp [*])
    | (refine aop_call' (c_spec_ExpOk e he) ?_; simp [*])
    | (refine aop_call' (c_spec_ExpOk lo hlo) ?_; simp [*])
    | (refine aop_call' (c_spec_ExpOk hi hhi) ?_; simp [*])
    | (refine aop_call' (c_spec_NameOk _ hs) ?_; simp [*])
    | (refine AWp.ret (post_ret1 rfl ?_); (simp [stHere, noS, *]; done))
    | (refine guardI (fun hq => ?_) (fun hq => ?_) <;> (try simp at hq) <;> (try simp [*]))
    | (refine condRunI (fun hq => ?_) (fun hq => ?_) <;> (try simp at hq) <;> (try simp [*]))
    | (refine iteI (fun hq => ?_) (fun hq => ?_) <;> (try simp [*])))
  cases x4 : hi.no
  · repeat' (first
    | refine AWp.seq ?_
    | (refine AWp.region allP (by kernel_rfl) ?_; simp [*])
    | (refine AWp.condG ?_; simp [*])
    | (refine AWp.skip ?_; try simp)
    | (refine AWp.exit ?_; try simp)
    | refine AWp.block ?_
    | (refine aop_call' (c_l1In _ _ _) ?_; simp [*])
    | (refine aop_call' (c_l3No _) ?_; simp [*])
    | (refine aop_call' (c_spec_ExpOk a ha) ?_; simp [*])
    | (refine aop_call' (c_spec_ExpOk e he) ?_; simp [*])
    | (refine aop_call' (c_spec_ExpOk lo hlo) ?_; simp [*])
    | (refine aop_call' (c_spec_ExpOk hi hhi) ?_; simp [*])
    | (refine aop_call' (c_spec_NameOk _ hs) ?_; simp [*])
    | (refine AWp.ret (post_ret1 rfl ?_); (simp [stHere, noS, *]; done))
    | (refine guardI (fun hq => ?_) (fun hq => ?_) <;> (try simp at hq) <;> (try simp [*]))
    | (refine condRunI (fun hq => ?_) (fun hq => ?_) <;> (try simp at hq) <;> (try simp [*]))
    | (refine iteI (fun hq => ?_) (fun hq => ?_) <;> (try simp [*])))
  cases x5 : nameOk s
  · repeat' (first
    | refine AWp.seq ?_
    | (refine AWp.region allP (by kernel_rfl) ?_; simp [*])
    | (refine AWp.condG ?_; simp [*])
    | (refine AWp.skip ?_; try simp)
    | (refine AWp.exit ?_; try simp)
    | refine AWp.block ?_
    | (refine aop_call' (c_l1In _ _ _) ?_; simp [*])
    | (refine aop_call' (c_l3No _) ?_; simp [*])
    | (refine aop_call' (c_spec_ExpOk a ha) ?_; simp [*])
    | (refine aop_call' (c_spec_ExpOk e he) ?_; simp [*])
    | (refine aop_call' (c_spec_ExpOk lo hlo) ?_; simp [*])
    | (refine aop_call' (c_spec_ExpOk hi hhi) ?_; simp [*])
    | (refine aop_call' (c_spec_NameOk _ hs) ?_; simp [*])
    | (refine AWp.ret (post_ret1 rfl ?_); (simp [stHere, noS, *]; done))
    | (refine guardI (fun hq => ?_) (fun hq => ?_) <;> (try simp at hq) <;> (try simp [*]))
    | (refine condRunI (fun hq => ?_) (fun hq => ?_) <;> (try simp at hq) <;> (try simp [*]))
    | (refine iteI (fun hq => ?_) (fun hq => ?_) <;> (try simp [*])))
  repeat' (first
    | refine AWp.seq ?_
    | (refine AWp.region allP (by kernel_rfl) ?_; simp [*])
    | (refine AWp.condG ?_; simp [*])
    | (refine AWp.skip ?_; try simp)
    | (refine AWp.exit ?_; try simp)
    | refine AWp.block ?_
    | (refine aop_call' (c_l1In _ _ _) ?_; simp [*])
    | (refine aop_call' (c_l3No _) ?_; simp [*])
    | (refine aop_call' (c_spec_ExpOk a ha) ?_; simp [*])
    | (refine aop_call' (c_spec_ExpOk e he) ?_; simp [*])
    | (refine aop_call' (c_spec_ExpOk lo hlo) ?_; simp [*])
    | (refine aop_call' (c_spec_ExpOk hi hhi) ?_; simp [*])
    | (refine aop_call' (c_spec_NameOk _ hs) ?_; simp [*])
    | (refine AWp.ret (post_ret1 rfl ?_); (simp [stHere, noS, *]; done))
    | (refine guardI (fun hq => ?_) (fun hq => ?_) <;> (try simp at hq) <;> (try simp [*]))
    | (refine condRunI (fun hq => ?_) (fun hq => ?_) <;> (try simp at hq) <;> (try simp [*]))
    | (refine iteI (fun hq => ?_) (fun hq => ?_) <;> (try simp [*])))
theorem c_l3Stmt_3fa (s : ByteArray) (a e lo hi : Ex) (b : List Sm) (hs : s.size ≤ 9223372036854775806) (ha : a.tot ≤ 1048576) (he : e.tot ≤ 1048576) (hlo : lo.tot ≤ 1048576) (hhi : hi.tot ≤ 1048576) (d : Nat) (hx : ¬ (a.no = true ∧ e.no = true ∧ lo.ok = true ∧ hi.ok = true ∧ nameOk s = true)) :
    PCall Tryz.prog 411 [(Sm.mk 3 s a e lo hi b).av, .int .i64 d] (.int .i64 100) := by
  refine pcall_of Tryz.func411 (by kernel_rfl) rfl (by simp [Tryz.f411]) ?_
  unfold Sm.av
  rw [Sm.cells_mk]
  (repeat refine AWp.seq ?_); refine AWp.region noP (by kernel_rfl) ?_
  simp
  intro g
  have r : inR 3 1 4 = true := rfl
  cases x1 : a.no
  · clear hx
    repeat' (first
    | refine AWp.seq ?_
    | (refine AWp.region allP (by kernel_rfl) ?_; simp [*])
    | (refine AWp.condG ?_; simp [*])
    | (refine AWp.skip ?_; try simp)
    | (refine AWp.exit ?_; try simp)
    | refine AWp.block ?_
    | (refine aop_call' (c_l1In _ _ _) ?_; simp [*])
    | (refine aop_call' (c_l3No _) ?_; simp [*])
    | (refine aop_call' (c_spec_ExpOk a ha) ?_; simp [*])
    | (refine aop_call' (c_spec_ExpOk e he) ?_; simp [*])
    | (refine aop_call' (c_spec_ExpOk lo hlo) ?_; simp [*])
    | (refine aop_call' (c_spec_ExpOk hi hhi) ?_; simp [*])
    | (refine aop_call' (c_spec_NameOk _ hs) ?_; simp [*])
    | (refine AWp.ret (post_ret1 rfl ?_); (simp; done))
    | (refine guardI (fun hq => ?_) (fun hq => ?_) <;> (try simp at hq) <;> (try simp [*]))
    | (refine condRunI (fun hq => ?_) (fun hq => ?_) <;> (try simp at hq) <;> (try simp [*]))
    | (refine iteI (fun hq => ?_) (fun hq => ?_) <;> (try simp [*])))
  cases x2 : e.no
  · clear hx
    repeat' (first
    | refine AWp.seq ?_
    | (refine AWp.region allP (by kernel_rfl) ?_; simp [*])
    | (refine AWp.condG ?_; simp [*])
    | (refine AWp.skip ?_; try simp)
    | (refine AWp.exit ?_; try simp)
    | refine AWp.block ?_
    | (refine aop_call' (c_l1In _ _ _) ?_; simp [*])
    | (refine aop_call' (c_l3No _) ?_; simp [*])
    | (refine aop_call' (c_spec_ExpOk a ha) ?_; simp [*])
    | (refine aop_call' (c_spec_ExpOk e he) ?_; simp [*])
    | (refine aop_call' (c_spec_ExpOk lo hlo) ?_; simp [*])
    | (refine aop_call' (c_spec_ExpOk hi hhi) ?_; simp [*])
    | (refine aop_call' (c_spec_NameOk _ hs) ?_; simp [*])
    | (refine AWp.ret (post_ret1 rfl ?_); (simp; done))
    | (refine guardI (fun hq => ?_) (fun hq => ?_) <;> (try simp at hq) <;> (try simp [*]))
    | (refine condRunI (fun hq => ?_) (fun hq => ?_) <;> (try simp at hq) <;> (try simp [*]))
    | (refine iteI (fun hq => ?_) (fun hq => ?_) <;> (try simp [*])))
  cases x3 : lo.ok
  · clear hx
    repeat' (first
    | refine AWp.seq ?_
    | (refine AWp.region allP (by kernel_rfl) ?_; simp [*])
    | (refine AWp.condG ?_; simp [*])
    | (refine AWp.skip ?_; try simp)
    | (refine AWp.exit ?_; try simp)
    | refine AWp.block ?_
    | (refine aop_call' (c_l1In _ _ _) ?_; simp [*])
    | (refine aop_call' (c_l3No _) ?_; simp [*])
    | (refine aop_call' (c_spec_ExpOk a ha) ?_; simp [*])
    | (refine aop_call' (c_spec_ExpOk e he) ?_; simp [*])
    | (refine aop_call' (c_spec_ExpOk lo hlo) ?_; simp [*])
    | (refine aop_call' (c_spec_ExpOk hi hhi) ?_; simp [*])
    | (refine aop_call' (c_spec_NameOk _ hs) ?_; simp [*])
    | (refine AWp.ret (post_ret1 rfl ?_); (simp; done))
    | (refine guardI (fun hq => ?_) (fun hq => ?_) <;> (try simp at hq) <;> (try simp [*]))
    | (refine condRunI (fun hq => ?_) (fun hq => ?_) <;> (try simp at hq) <;> (try simp [*]))
    | (refine iteI (fun hq => ?_) (fun hq => ?_) <;> (try simp [*])))
  cases x4 : hi.ok
  · clear hx
    repeat' (first
    | refine AWp.seq ?_
    | (refine AWp.region allP (by kernel_rfl) ?_; simp [*])
    | (refine AWp.condG ?_; simp [*])
    | (refine AWp.skip ?_; try simp)
    | (refine AWp.exit ?_; try simp)
    | refine AWp.block ?_
    | (refine aop_call' (c_l1In _ _ _) ?_; simp [*])
    | (refine aop_call' (c_l3No _) ?_; simp [*])
    | (refine aop_call' (c_spec_ExpOk a ha) ?_; simp [*])
    | (refine aop_call' (c_spec_ExpOk e he) ?_; simp [*])
    | (refine aop_call' (c_spec_ExpOk lo hlo) ?_; simp [*])
    | (refine aop_call' (c_spec_ExpOk hi hhi) ?_; simp [*])
    | (refine aop_call' (c_spec_NameOk _ hs) ?_; simp [*])
    | (refine AWp.ret (post_ret1 rfl ?_); (simp; done))
    | (refine guardI (fun hq => ?_) (fun hq => ?_) <;> (try simp at hq) <;> (try simp [*]))
    | (refine condRunI (fun hq => ?_) (fun hq => ?_) <;> (try simp at hq) <;> (try simp [*]))
    | (refine iteI (fun hq => ?_) (fun hq => ?_) <;> (try simp [*])))
  cases x5 : nameOk s
  · clear hx
    repeat' (first
    | refine AWp.seq ?_
    | (refine AWp.region allP (by kernel_rfl) ?_; simp [*])
    | (refine AWp.condG ?_; simp [*])
    | (refine AWp.skip ?_; try simp)
    | (refine AWp.exit ?_; try simp)
    | refine AWp.block ?_
    | (refine aop_call' (c_l1In _ _ _) ?_; simp [*])
    | (refine aop_call' (c_l3No _) ?_; simp [*])
    | (refine aop_call' (c_spec_ExpOk a ha) ?_; simp [*])
    | (refine aop_call' (c_spec_ExpOk e he) ?_; simp [*])
    | (refine aop_call' (c_spec_ExpOk lo hlo) ?_; simp [*])
    | (refine aop_call' (c_spec_ExpOk hi hhi) ?_; simp [*])
    | (refine aop_call' (c_spec_NameOk _ hs) ?_; simp [*])
    | (refine AWp.ret (post_ret1 rfl ?_); (simp; done))
    | (refine guardI (fun hq => ?_) (fun hq => ?_) <;> (try simp at hq) <;> (try simp [*]))
    | (refine condRunI (fun hq => ?_) (fun hq => ?_) <;> (try simp at hq) <;> (try simp [*]))
    | (refine iteI (fun hq => ?_) (fun hq => ?_) <;> (try simp [*])))
  exact absurd ⟨x1, x2, x3, x4, x5⟩ hx
theorem c_l3Stmt_3fb (s : ByteArray) (a e lo hi : Ex) (b : List Sm) (hs : s.size ≤ 9223372036854775806) (ha : a.tot ≤ 1048576) (he : e.tot ≤ 1048576) (hlo : lo.tot ≤ 1048576) (hhi : hi.tot ≤ 1048576) (d : Nat) (x1 : a.no = true) (x2 : e.no = true) (x3 : lo.ok = true) (x4 : hi.ok = true) (x5 : nameOk s = true) (hx : ¬ (d < 3 ∧ inR b.length 1 6 = true)) :
    PCall Tryz.prog 411 [(Sm.mk 3 s a e lo hi b).av, .int .i64 d] (.int .i64 100) := by
  refine pcall_of Tryz.func411 (by kernel_rfl) rfl (by simp [Tryz.f411]) ?_
  unfold Sm.av
  rw [Sm.cells_mk]
  (repeat refine AWp.seq ?_); refine AWp.region noP (by kernel_rfl) ?_
  simp
  intro g
  have r : inR 3 1 4 = true := rfl
  by_cases hd3 : (3 : Int) ≤ d
  · clear hx
    repeat' (first
    | refine AWp.seq ?_
    | (refine AWp.region allP (by kernel_rfl) ?_; simp [*])
    | (refine AWp.condG ?_; simp [*])
    | (refine AWp.skip ?_; try simp)
    | (refine AWp.exit ?_; try simp)
    | refine AWp.block ?_
    | (refine aop_call' (c_l1In _ _ _) ?_; simp [*])
    | (refine aop_call' (c_l3No _) ?_; simp [*])
    | (refine aop_call' (c_spec_ExpOk a ha) ?_; simp [*])
    | (refine aop_call' (c_spec_ExpOk e he) ?_; simp [*])
    | (refine aop_call' (c_spec_ExpOk lo hlo) ?_; simp [*])
    | (refine aop_call' (c_spec_ExpOk hi hhi) ?_; simp [*])
    | (refine aop_call' (c_spec_NameOk _ hs) ?_; simp [*])
    | (refine AWp.ret (post_ret1 rfl ?_); (simp; done))
    | (refine guardI (fun hq => ?_) (fun hq => ?_) <;> (try simp at hq) <;> (try simp [*]))
    | (refine condRunI (fun hq => ?_) (fun hq => ?_) <;> (try simp at hq) <;> (try simp [*]))
    | (refine iteI (fun hq => ?_) (fun hq => ?_) <;> (try simp [*])))
  have hd4 : d < 3 := by omega
  have hd5 : (d : Int) < 3 := by omega
  cases x7 : inR b.length 1 6
  · clear hx
    repeat' (first
    | refine AWp.seq ?_
    | (refine AWp.region allP (by kernel_rfl) ?_; simp [*])
    | (refine AWp.condG ?_; simp [*])
    | (refine AWp.skip ?_; try simp)
    | (refine AWp.exit ?_; try simp)
    | refine AWp.block ?_
    | (refine aop_call' (c_l1In _ _ _) ?_; simp [*])
    | (refine aop_call' (c_l3No _) ?_; simp [*])
    | (refine aop_call' (c_spec_ExpOk a ha) ?_; simp [*])
    | (refine aop_call' (c_spec_ExpOk e he) ?_; simp [*])
    | (refine aop_call' (c_spec_ExpOk lo hlo) ?_; simp [*])
    | (refine aop_call' (c_spec_ExpOk hi hhi) ?_; simp [*])
    | (refine aop_call' (c_spec_NameOk _ hs) ?_; simp [*])
    | (refine AWp.ret (post_ret1 rfl ?_); (simp; done))
    | (refine guardI (fun hq => ?_) (fun hq => ?_) <;> (try simp at hq) <;> (try simp [*]))
    | (refine condRunI (fun hq => ?_) (fun hq => ?_) <;> (try simp at hq) <;> (try simp [*]))
    | (refine iteI (fun hq => ?_) (fun hq => ?_) <;> (try simp [*])))
  exact absurd ⟨hd4, x7⟩ hx
theorem c_l3Stmt_3f (s : ByteArray) (a e lo hi : Ex) (b : List Sm) (hs : s.size ≤ 9223372036854775806) (ha : a.tot ≤ 1048576) (he : e.tot ≤ 1048576) (hlo : lo.tot ≤ 1048576) (hhi : hi.tot ≤ 1048576) (d : Nat) (hx : ¬ stHere 3 s a e lo hi b.length d = true) :
    PCall Tryz.prog 411 [(Sm.mk 3 s a e lo hi b).av, .int .i64 d] (.int .i64 100) := by
  by_cases h5 : a.no = true ∧ e.no = true ∧ lo.ok = true ∧ hi.ok = true ∧ nameOk s = true
  · obtain ⟨x1, x2, x3, x4, x5⟩ := h5
    refine c_l3Stmt_3fb s a e lo hi b hs ha he hlo hhi d x1 x2 x3 x4 x5 fun h => hx ?_
    unfold stHere
    simp [x1, x2, x3, x4, x5, h.1, h.2]
  · exact c_l3Stmt_3fa s a e lo hi b hs ha he hlo hhi d h5
theorem c_l3Stmt_3t (s : ByteArray) (a e lo hi : Ex) (b : List Sm) (hs : s.size ≤ 9223372036854775806) (ha : a.tot ≤ 1048576) (he : e.tot ≤ 1048576) (hlo : lo.tot ≤ 1048576) (hhi : hi.tot ≤ 1048576) (hlen : b.length ≤ 1048576) (hsz : sumL Sm.size b ≤ 2097152)
    (h : ∀ x ∈ b, ∀ d : Nat, d ≤ 3 → PCall Tryz.prog 411 [x.av, .int .i64 d] (.int .i64 (x.cnt d))) (d : Nat) (hx : stHere 3 s a e lo hi b.length d = true) :
    PCall Tryz.prog 411 [(Sm.mk 3 s a e lo hi b).av, .int .i64 d] (.int .i64 (Sm.cnts b (d + 1) 1)) := by
  refine pcall_of Tryz.func411 (by kernel_rfl) rfl (by simp [Tryz.f411]) ?_
  unfold Sm.av
  rw [Sm.cells_mk]
  (repeat refine AWp.seq ?_); refine AWp.region noP (by kernel_rfl) ?_
  simp
  intro g
  have r : inR 3 1 4 = true := rfl
  unfold stHere at hx
  simp at hx
  obtain ⟨⟨⟨⟨⟨⟨x1, x2⟩, x3⟩, x4⟩, x5⟩, x6⟩, x7⟩ := hx
  have hd3 : ¬ (3 : Int) ≤ d := by omega
  have hd5 : (d : Int) < 3 := by omega
  repeat' (first
    | refine AWp.seq ?_
    | (refine AWp.region allP (by kernel_rfl) ?_; simp [x1, x2, x3, x4, x5, x7, hd3, hd5, r])
    | (refine AWp.condG ?_; simp [x1, x2, x3, x4, x5, x7, hd3, hd5, r])
    | (refine AWp.skip ?_; try simp)
    | (refine AWp.exit ?_; try simp)
    | refine AWp.block ?_
    | (refine aop_call' (c_l1In _ _ _) ?_; simp [x1, x2, x3, x4, x5, x7, hd3, hd5, r])
    | (refine aop_call' (c_l3No _) ?_; simp [x1, x2, x3, x4, x5, x7, hd3, hd5, r])
    | (refine aop_call' (c_spec_ExpOk a ha) ?_; simp [x1, x2, x3, x4, x5, x7, hd3, hd5, r])
    | (refine aop_call' (c_spec_ExpOk e he) ?_; simp [x1, x2, x3, x4, x5, x7, hd3, hd5, r])
    | (refine aop_call' (c_spec_ExpOk lo hlo) ?_; simp [x1, x2, x3, x4, x5, x7, hd3, hd5, r])
    | (refine aop_call' (c_spec_ExpOk hi hhi) ?_; simp [x1, x2, x3, x4, x5, x7, hd3, hd5, r])
    | (refine aop_call' (c_spec_NameOk _ hs) ?_; simp [x1, x2, x3, x4, x5, x7, hd3, hd5, r])
    | (refine guardI (fun hq => ?_) (fun hq => ?_) <;> (try simp at hq) <;> (try simp [x1, x2, x3, x4, x5, x7, hd3, hd5, r]))
    | (refine condRunI (fun hq => ?_) (fun hq => ?_) <;> (try simp at hq) <;> (try simp [x1, x2, x3, x4, x5, x7, hd3, hd5, r]))
    | (refine iteI (fun hq => ?_) (fun hq => ?_) <;> (try simp [x1, x2, x3, x4, x5, x7, hd3, hd5, r])))
  refine (AWp.rounds (fun m st => ∃ (i : Nat) (q : Int), m = b.length - i ∧ i ≤ b.length ∧ st.slots 2 = .ptr g 0 ∧ st.mem g = some (.box (.int .i64 3 :: .str s :: (a.cells ++ (e.cells ++ (lo.cells ++ (hi.cells ++ [.lst false 19 (b.map Sm.av)])))))) ∧ st.slots 11 = .int .i64 i ∧ st.slots 1 = .int .i64 d ∧ st.slots 10 = .int .i64 q ∧ 0 ≤ q ∧ q + 100 * sumL Sm.size (b.drop i) ≤ 1 + 100 * sumL Sm.size b ∧ Sm.cnts b (d + 1) 1 = Sm.cnts (b.drop i) (d + 1) q) b.length ⟨0, 1, by simp, by simp, by simp, by simp, by simp, by simp, by simp, by omega, by simp, by simp⟩ ?_)
  rintro R m st hR ⟨i, q, rfl, hi2, s2, sg, s11, s1, s10, hq0, hq1, hr⟩
  have hF : i < b.length ∧ q ≤ 40 ∨ Sm.cnts b (d + 1) 1 = q := by
    by_cases hb : i < b.length
    · by_cases hq : q ≤ 40
      · exact .inl ⟨hb, hq⟩
      · refine .inr ?_
        rw [hr, List.drop_eq_getElem_cons hb, Sm.cnts, if_neg hq]
    · refine .inr ?_
      rw [hr, List.drop_eq_nil_of_le (by omega), Sm.cnts]
  by_cases hb : i < b.length ∧ q ≤ 40
  · obtain ⟨hb, hq⟩ := hb
    have hg : b[i]? = some b[i] := List.getElem?_eq_getElem hb
    have hdr : b.drop i = b[i] :: b.drop (i + 1) := List.drop_eq_getElem_cons hb
    have hbi : (i : Int) < b.length := by omega
    (repeat refine AWp.seq ?_); refine AWp.region noP (by kernel_rfl) ?_
    simp [s2, sg, s10, s11, hb, hq]
    (repeat refine AWp.seq ?_); refine AWp.condT (by simp) ?_
    refine AWp.skip ?_
    simp
    (repeat refine AWp.seq ?_); refine AWp.block ?_; (repeat refine AWp.seq ?_); refine AWp.region allP (by kernel_rfl) ?_
    have hx : idxA Tryz.prog st.mem 36 (.lst false 19 (b.map Sm.av)) (.int .i64 i) = some (.ref b[i].cells) := idx (y := b[i].av) es_36 (by simp [hg])
    have hw1 : IntKind.wrap .i64 ((d : Int) + 1) = ((d + 1 : Nat) : Int) := wrap64 (by omega) (by omega)
    simp [s2, sg, s1, s10, s11, hx, hw1]
    refine aop_call' (h b[i] (List.getElem_mem _) (d + 1) (by omega)) ?_
    have hc0 := b[i].cnt_pos (d + 1)
    have hc1 := b[i].cnt_le (d + 1)
    rw [hdr, sumL] at hq1
    have hw2 : IntKind.wrap .i64 (q + b[i].cnt (d + 1)) = q + b[i].cnt (d + 1) := wrap64 (by omega) (by omega)
    simp [hw2]
    (repeat refine AWp.seq ?_); refine AWp.region noP (by kernel_rfl) ?_
    have hw : IntKind.wrap .i64 ((i : Int) + 1) = (i + 1 : Nat) := wrap64 (by omega) (by omega)
    simp [s11, hw]
    refine hR _ (b.length - (i + 1)) (by omega) ⟨i + 1, q + b[i].cnt (d + 1), rfl, hb, by simp [s2], by simp [sg], by simp, by simp [s1], by simp, by omega, by omega, ?_⟩
    rw [hr, hdr, Sm.cnts, if_pos hq]
  · have hfin : Sm.cnts b (d + 1) 1 = q := hF.resolve_left hb
    (repeat refine AWp.seq ?_); refine AWp.region noP (by kernel_rfl) ?_
    by_cases hb1 : i < b.length
    · have hq : ¬ q ≤ 40 := fun hq => hb ⟨hb1, hq⟩
      simp [s2, sg, s10, s11, hb1, hq]
      (repeat refine AWp.seq ?_); refine AWp.condF (by simp [hq]) ?_
      refine AWp.exit ?_
      simp
      (repeat refine AWp.seq ?_); refine AWp.region noP (by kernel_rfl) ?_
      simp [s10]
      exact AWp.ret (post_ret1 rfl (by simp [hfin]))
    · simp [s2, sg, s10, s11, hb1]
      (repeat refine AWp.seq ?_); refine AWp.condF (by simp) ?_
      refine AWp.exit ?_
      simp
      (repeat refine AWp.seq ?_); refine AWp.region noP (by kernel_rfl) ?_
      simp [s10]
      exact AWp.ret (post_ret1 rfl (by simp [hfin]))
end Go.T
namespace Go.T
open Go Go.Proofs
set_option maxRecDepth 10000
set_option maxHeartbeats 1000000
set_option linter.unusedSimpArgs false
set_option linter.unusedVariables false
theorem c_l3Stmt (e : Sm) : e.tot ≤ 1048576 → ∀ d : Nat, d ≤ 3 → PCall Tryz.prog 411 [e.av, .int .i64 d] (.int .i64 (e.cnt d)) := by
  induction e using Sm.ind with | h k s a e lo hi b h =>
  intro ht d hd
  rw [Sm.tot_mk] at ht
  have hlen := totL_len Sm.tot b
  have hsz : sumL Sm.size b ≤ 2097152 := by
    have := sumL_le Sm.size Sm.tot b (fun x _ => x.size_le)
    omega
  have hh : ∀ x ∈ b, ∀ d : Nat, d ≤ 3 → PCall Tryz.prog 411 [x.av, .int .i64 d] (.int .i64 (x.cnt d)) := fun x hx => h x hx (by have := totL_mem Sm.tot hx; omega)
  by_cases k3 : k = 3
  · subst k3
    by_cases hx : stHere 3 s a e lo hi b.length d = true
    · have e1 : (Sm.mk 3 s a e lo hi b).cnt d = Sm.cnts b (d + 1) 1 := by rw [Sm.cnt, if_pos hx, if_pos rfl]
      rw [e1]
      exact c_l3Stmt_3t s a e lo hi b (by omega) (by omega) (by omega) (by omega) (by omega) (by omega) hsz hh d hx
    · have e1 : (Sm.mk 3 s a e lo hi b).cnt d = 100 := by rw [Sm.cnt, if_neg hx]
      rw [e1]
      exact c_l3Stmt_3f s a e lo hi b (by omega) (by omega) (by omega) (by omega) (by omega) d hx
  have hr : (Sm.mk k s a e lo hi b).cnt d = if stHere k s a e lo hi b.length d = true then 1 else 100 := by rw [Sm.cnt, if_neg k3]
  rw [hr]
  by_cases k1 : k = 1
  · subst k1
    exact c_l3Stmt_1 s a e lo hi b (by omega) (by omega) (by omega) (by omega) (by omega) d
  by_cases k2 : k = 2
  · subst k2
    exact c_l3Stmt_2 s a e lo hi b (by omega) (by omega) (by omega) (by omega) (by omega) d
  by_cases k4 : k = 4
  · subst k4
    exact c_l3Stmt_4 s a e lo hi b (by omega) (by omega) (by omega) (by omega) (by omega) d
  exact c_l3Stmt_k k s a e lo hi b (by omega) (by omega) (by omega) (by omega) (by omega) d k1 k2 k3 k4
theorem c_spec_StmtOk (e : Sm) (ht : e.tot ≤ 1048576) : PCall Tryz.prog 301 [e.av] (.bool e.ok) := by
  refine pcall_of Tryz.func301 (by kernel_rfl) rfl (by simp [Tryz.f301]) ?_
  have c1 := c_l3Stmt e ht 0 (by omega)
  unfold Sm.av at c1 ⊢
  (repeat refine AWp.seq ?_); refine AWp.region noP (by kernel_rfl) ?_
  simp
  intro g
  (repeat refine AWp.seq ?_); refine AWp.region allP (by kernel_rfl) ?_
  simp
  refine aop_call' c1 ?_
  simp
  exact AWp.ret (post_ret1 rfl (by simp [Sm.ok_cnt]))
theorem c_impl_StmtOk (e : Sm) (ht : e.tot < 1048576) : PCall Tryz.prog 211 [e.av] (.bool e.ok) := by
  refine pcall_of Tryz.func211 (by kernel_rfl) rfl (by simp [Tryz.f211]) ?_
  have c1 := c_isRight e (by omega) 0 (by omega)
  have c2 := c_impl_Size [e] (by simp only [totL]; omega)
  have hz : sumL Sm.size [e] = e.size := by simp [sumL]
  rw [hz] at c2
  replace c2 : PCall Tryz.prog 210 [.lst true 19 [.agg e.cells]] (.int .i64 e.size) := c2.arg (.cons (Le.lst _ _ _) .nil)
  unfold Sm.av at c1 ⊢
  (repeat refine AWp.seq ?_); refine AWp.region noP (by kernel_rfl) ?_
  simp
  intro g
  (repeat refine AWp.seq ?_); refine AWp.region allP (by kernel_rfl) ?_
  simp
  refine aop_call' c1 ?_
  cases x1 : e.right 0
  · simp
    exact AWp.ret (post_ret1 rfl (by simp [Sm.ok, x1]))
  · simp
    refine aop_call' c2 ?_
    simp
    exact AWp.ret (post_ret1 rfl (by simp [Sm.ok, x1]; omega))
end Go.T
namespace Go.T
open Go Go.Proofs
set_option maxRecDepth 10000
set_option maxHeartbeats 1000000
set_option linter.unusedSimpArgs false
set_option linter.unusedVariables false
theorem c_Index (l : List ByteArray) (s : ByteArray) (hl : l.length ≤ 9223372036854775806) : PCall Tryz.prog 330 [strs l, .str s] (.int .i64 (at_ l s)) := by
  refine pcall_of Tryz.func330 (by kernel_rfl) rfl (by simp [Tryz.f330]) ?_
  (repeat refine AWp.seq ?_); refine AWp.region noP (by kernel_rfl) ?_
  simp
  (repeat refine AWp.seq ?_); refine AWp.region noP (by kernel_rfl) ?_
  simp [strs]
  (repeat refine AWp.seq ?_); refine AWp.block (AWp.rounds (fun m st => ∃ (i : Nat), m = l.length - i ∧ i ≤ l.length ∧ st.slots 6 = .lst false 1 (l.map .str) ∧ st.slots 0 = .lst false 1 (l.map .str) ∧ st.slots 7 = .int .i64 l.length ∧ st.slots 8 = .int .i64 i ∧ st.slots 1 = .str s ∧ at_ l s = idxAt i (l.drop i) s) l.length ⟨0, by simp, by simp, by (simp [strs]), by simp, by simp [strs], by simp, by simp, by simp [at_]⟩ ?_)
  rintro R m st hR ⟨i, rfl, hi, s6, s0, s7, s8, s1, hr⟩
  (repeat refine AWp.seq ?_); refine AWp.region noP (by kernel_rfl) ?_
  simp [s6, s0, s7, s8]
  (repeat refine AWp.seq ?_); refine AWp.cond (b := decide (i < l.length)) (by simp) (fun hb => ?_) (fun hb => ?_)
  · simp at hb
    have hg : l[i]? = some l[i] := List.getElem?_eq_getElem hb
    have hdr : l.drop i = l[i] :: l.drop (i + 1) := List.drop_eq_getElem_cons hb
    have hz : at_ l s = if l[i] = s then (i : Int) else idxAt (i + 1) (l.drop (i + 1)) s := by rw [hr, hdr, idxAt]
    have hx : idxA Tryz.prog st.mem 26 (.lst false 1 (l.map .str)) (.int .i64 i) = some (.ref [.str l[i]]) := idx (y := .str l[i]) es_26 (by simp [hg])
    refine AWp.skip ?_
    simp
    (repeat refine AWp.seq ?_); refine AWp.block ?_; (repeat refine AWp.seq ?_); refine AWp.region noP (by kernel_rfl) ?_
    simp [s6, s0, s7, s8, s1, hx]
    ((repeat refine AWp.seq ?_); refine AWp.region noP (by kernel_rfl) ?_; simp [s8, s6, s0, s1, hx])
    rw [show decide (s = l[i]) = decide (l[i] = s) from by simp [eq_comm]]
    (repeat refine AWp.seq ?_); refine AWp.cond (b := decide (l[i] = s)) (by simp) (fun he => ?_) (fun he => ?_)
    · simp at he
      (repeat refine AWp.seq ?_); refine AWp.region noP (by kernel_rfl) ?_
      simp [s8]
      exact AWp.ret (post_ret1 rfl (by simp [hz, he]))
    · simp at he
      refine AWp.skip ?_
      simp
      (repeat refine AWp.seq ?_); refine AWp.region noP (by kernel_rfl) ?_
      have hw : IntKind.wrap .i64 ((i : Int) + 1) = (i + 1 : Nat) := wrap64 (by omega) (by omega)
      simp [s8, hw]
      exact hR _ (l.length - (i + 1)) (by omega) ⟨i + 1, rfl, hb, by simp [s6], by simp [s0], by simp [s7], by simp, by simp [s1], by rw [hz, if_neg he]⟩
  · simp at hb
    refine AWp.exit ?_
    simp
    (repeat refine AWp.seq ?_); refine AWp.region noP (by kernel_rfl) ?_
    simp
    have : i = l.length := by omega
    subst this
    exact AWp.ret (post_ret1 rfl (by simp [hr, idxAt]))
theorem c_l7At (l : List ByteArray) (s : ByteArray) (hl : l.length ≤ 9223372036854775806) : PCall Tryz.prog 222 [strs l, .str s] (.int .i64 (at_ l s)) := by
  refine pcall_of Tryz.func222 (by kernel_rfl) rfl (by simp [Tryz.f222]) ?_
  (repeat refine AWp.seq ?_); refine AWp.region noP (by kernel_rfl) ?_
  simp
  (repeat refine AWp.seq ?_); refine AWp.region noP (by kernel_rfl) ?_
  simp [strs]
  (repeat refine AWp.seq ?_); refine AWp.block (AWp.rounds (fun m st => ∃ (i : Nat), m = l.length - i ∧ i ≤ l.length ∧ st.slots 0 = .lst false 1 (l.map .str) ∧ st.slots 5 = .int .i64 i ∧ st.slots 1 = .str s ∧ at_ l s = idxAt i (l.drop i) s) l.length ⟨0, by simp, by simp, by (simp [strs]), by simp, by simp, by simp [at_]⟩ ?_)
  rintro R m st hR ⟨i, rfl, hi, s0, s5, s1, hr⟩
  (repeat refine AWp.seq ?_); refine AWp.region noP (by kernel_rfl) ?_
  simp [s0, s5]
  (repeat refine AWp.seq ?_); refine AWp.cond (b := decide (i < l.length)) (by simp) (fun hb => ?_) (fun hb => ?_)
  · simp at hb
    have hg : l[i]? = some l[i] := List.getElem?_eq_getElem hb
    have hdr : l.drop i = l[i] :: l.drop (i + 1) := List.drop_eq_getElem_cons hb
    have hz : at_ l s = if l[i] = s then (i : Int) else idxAt (i + 1) (l.drop (i + 1)) s := by rw [hr, hdr, idxAt]
    have hx : idxA Tryz.prog st.mem 26 (.lst false 1 (l.map .str)) (.int .i64 i) = some (.ref [.str l[i]]) := idx (y := .str l[i]) es_26 (by simp [hg])
    refine AWp.skip ?_
    simp
    (repeat refine AWp.seq ?_); refine AWp.block ?_; (repeat refine AWp.seq ?_); refine AWp.region noP (by kernel_rfl) ?_
    simp [s0, s5, s1, hx]
    skip
    (repeat refine AWp.seq ?_); refine AWp.cond (b := decide (l[i] = s)) (by simp) (fun he => ?_) (fun he => ?_)
    · simp at he
      (repeat refine AWp.seq ?_); refine AWp.region noP (by kernel_rfl) ?_
      simp [s5]
      exact AWp.ret (post_ret1 rfl (by simp [hz, he]))
    · simp at he
      refine AWp.skip ?_
      simp
      (repeat refine AWp.seq ?_); refine AWp.region noP (by kernel_rfl) ?_
      have hw : IntKind.wrap .i64 ((i : Int) + 1) = (i + 1 : Nat) := wrap64 (by omega) (by omega)
      simp [s5, hw]
      exact hR _ (l.length - (i + 1)) (by omega) ⟨i + 1, rfl, hb, by simp [s0], by simp, by simp [s1], by rw [hz, if_neg he]⟩
  · simp at hb
    refine AWp.exit ?_
    simp
    (repeat refine AWp.seq ?_); refine AWp.region noP (by kernel_rfl) ?_
    simp
    have : i = l.length := by omega
    subst this
    exact AWp.ret (post_ret1 rfl (by simp [hr, idxAt]))
theorem c_Contains (l : List ByteArray) (s : ByteArray) (hl : l.length ≤ 9223372036854775806) : PCall Tryz.prog 312 [strs l, .str s] (.bool (has l s)) := by
  refine pcall_of Tryz.func312 (by kernel_rfl) rfl (by simp [Tryz.f312]) ?_
  have h := idxAt_has s l 0
  (repeat refine AWp.seq ?_); refine AWp.region noP (by kernel_rfl) ?_
  simp
  (repeat refine AWp.seq ?_); refine AWp.region allP (by kernel_rfl) ?_
  simp
  refine aop_call' (c_Index l s hl) ?_
  simp
  refine AWp.ret (post_ret1 rfl ?_)
  simp
  unfold at_
  by_cases hh : has l s = true
  · rw [hh]; simp [h.2 hh]
  · have : ¬ 0 ≤ idxAt 0 l s := fun k => hh (h.1 k)
    simp [this]
    simpa using hh
end Go.T
namespace Go.T
open Go Go.Proofs
set_option maxRecDepth 10000
set_option maxHeartbeats 1000000
set_option linter.unusedSimpArgs false
set_option linter.unusedVariables false
/-- A growing list of strings. -/
abbrev GS (m0 : Mem) (xs : List ByteArray) (v : AV) (m : Mem) : Prop := Grows 9 1 m0 (xs.map .str) v m
theorem GS.push {m0 m : Mem} {xs : List ByteArray} {v : AV} (h : GS m0 xs v m) (s : ByteArray) (hb : xs.length ≤ 16777216) {k : AV → Mem → Prop} (hk : ∀ v' m', GS m0 (xs ++ [s]) v' m' → k v' m') : appendW Tryz.prog m k #[26, 26] v (.lst true 1 [.str s]) := by
  refine Grows.append et_26 h (ys := [.str s]) rfl (by simp) (by simp; omega) (fun v' m' hg => hk v' m' ?_) _ rfl
  simpa [GS] using hg
theorem GS.app {m0 m : Mem} {xs : List ByteArray} {v : AV} (h : GS m0 xs v m) (f : Bool) (ys : List ByteArray) (hb : xs.length + ys.length ≤ 16777216) {k : AV → Mem → Prop} (hk : ∀ v' m', GS m0 (xs ++ ys) v' m' → k v' m') : appendW Tryz.prog m k #[26, 26] v (.lst f 1 (ys.map .str)) := by
  refine Grows.append et_26 h (ys := ys.map .str) rfl (by simp) (by simp; omega) (fun v' m' hg => hk v' m' ?_) _ rfl
  simpa [GS] using hg
theorem GS.ext {m0 m : Mem} {xs : List ByteArray} {v : AV} (h : GS m0 xs v m) : Ext m0 m := by
  cases h with
  | lit _ _ _ h => exact h
  | own _ _ _ _ _ _ _ h => exact h
theorem GS.view {m0 m : Mem} {xs : List ByteArray} {v : AV} (h : GS m0 xs v m) : View m v m0 (strs xs) := Grows.view h
def putInv (l : List ByteArray) (s : ByteArray) (i : Nat) (rest : Bool → List ByteArray) (b : Nat) (st : St) : Prop := ∃ (acc : List ByteArray) (done : Bool) (v : AV), st.slots 0 = .lst false 1 (l.map .str) ∧ st.slots 1 = .str s ∧ st.slots 5 = v ∧ GS (fun _ => none) acc v st.mem ∧
  st.slots 6 = .bool done ∧ st.slots 7 = .int .i64 i ∧ putS l s = acc ++ rest done ∧ acc.length ≤ b
theorem c_l4Put (l : List ByteArray) (s : ByteArray) (hl : l.length ≤ 8388600) : PCall Tryz.prog 303 [strs l, .str s] (strs (putS l s)) := by
  refine pcall_of Tryz.func303 (by kernel_rfl) rfl (by simp [Tryz.f303]) ?_
  (repeat refine AWp.seq ?_); refine AWp.region noP (by kernel_rfl) ?_
  try simp
  (repeat refine AWp.seq ?_); refine AWp.region noP (by kernel_rfl) ?_
  simp [strs]
  (repeat refine AWp.seq ?_); refine AWp.region noP (by kernel_rfl) ?_
  try simp
  (repeat refine AWp.seq ?_); refine AWp.region noP (by kernel_rfl) ?_
  try simp
  (repeat refine AWp.seq ?_); refine AWp.block (AWp.rounds (fun m st => ∃ (i : Nat), m = l.length - i ∧ i ≤ l.length ∧ putInv l s i (putGo s (l.drop i)) (2 * i) st) l.length
    ⟨0, by simp, by simp, [], false, .lst true 1 [], by (simp [strs]), by simp, by simp, .lit 1 _ (.inl rfl) (by simp; exact Ext.refl _), by simp, by simp, by simp [putS], by simp⟩ ?_)
  rintro R m st hR ⟨i, rfl, hi, acc, done, v, s0, s1, s5, hG, s6, s7, hr, ha⟩
  (repeat refine AWp.seq ?_); refine AWp.region noP (by kernel_rfl) ?_
  simp [s0, s7]
  (repeat refine AWp.seq ?_); refine AWp.cond (b := decide (i < l.length)) (by simp) (fun hb => ?_) (fun hb => ?_)
  · simp at hb
    have hg : l[i]? = some l[i] := List.getElem?_eq_getElem hb
    have hdr : l.drop i = l[i] :: l.drop (i + 1) := List.drop_eq_getElem_cons hb
    rw [hdr, putGo] at hr
    have hx : ∀ m, idxA Tryz.prog m 26 (.lst false 1 (l.map .str)) (.int .i64 i) = some (.ref [.str l[i]]) := fun m => idx (y := .str l[i]) es_26 (by simp [hg])
    have hw : IntKind.wrap .i64 ((i : Int) + 1) = (i + 1 : Nat) := wrap64 (by omega) (by omega)
    refine AWp.skip ?_
    try simp
    refine AWp.seq ?_; refine AWp.block ?_
    refine AWp.seq ?_
    refine AWp.cutA (putInv l s i (fun d => (if l[i] = s then [] else [l[i]]) ++ putGo s (l.drop (i + 1)) d) (2 * i + 1)) ?_ ?_
    · (repeat refine AWp.seq ?_); refine AWp.region noP (by kernel_rfl) ?_
      cases done with
      | true =>
        simp [s0, s1, s6, s7, hx]
        (repeat refine AWp.seq ?_); refine AWp.condF (by simp) ?_
        refine AWp.skip ?_
        try simp
        refine ⟨acc, true, v, by simp [s0], by simp [s1], by simp [s5], by simpa using hG, by simp [s6], by simp [s7], by simpa using hr, by omega⟩
      | false =>
        have hb0 : Op.bytesLess l[i].toList s.toList = blt l[i] s := rfl
        simp [s0, s1, s6, s7, hx, hb0]
        cases hbl : blt l[i] s
        · (repeat refine AWp.seq ?_); refine AWp.condT (by simp) ?_
          (repeat refine AWp.seq ?_); refine AWp.region noP (by kernel_rfl) ?_
          simp [s5, s1]
          refine hG.push s (by omega) fun v' m' hG' => ?_
          try simp
          (repeat refine AWp.seq ?_); refine AWp.region noP (by kernel_rfl) ?_
          try simp
          refine ⟨acc ++ [s], true, v', by simp [s0], by simp [s1], by simp, by simpa using hG', by simp, by simp [s7], ?_, by simp; omega⟩
          rw [hr, hbl]; simp
        · (repeat refine AWp.seq ?_); refine AWp.condF (by simp) ?_
          refine AWp.skip ?_
          try simp
          refine ⟨acc, false, v, by simp [s0], by simp [s1], by simp [s5], by simpa using hG, by simp [s6], by simp [s7], ?_, by omega⟩
          rw [hr, hbl]; simp
    clear s0 s1 s5 hG s6 s7 hr ha
    rintro st ⟨acc, done, v, s0, s1, s5, hG, s6, s7, hr, ha⟩
    (repeat refine AWp.seq ?_); refine AWp.region noP (by kernel_rfl) ?_
    simp [s0, s1, s7, hx]
    (repeat refine AWp.seq ?_); refine AWp.cond (b := !decide (l[i] = s)) (by simp) (fun he => ?_) (fun he => ?_)
    · simp at he
      (repeat refine AWp.seq ?_); refine AWp.region noP (by kernel_rfl) ?_
      simp [s0, s5, s7, hx]
      refine hG.push l[i] (by omega) fun v' m' hG' => ?_
      try simp
      (repeat refine AWp.seq ?_); refine AWp.region noP (by kernel_rfl) ?_
      simp [s7, hw]
      refine hR _ (l.length - (i + 1)) (by omega) ⟨i + 1, rfl, hb, acc ++ [l[i]], done, v', by simp [s0], by simp [s1], by simp, by simpa using hG', by simp [s6], by simp, ?_, by simp; omega⟩
      rw [hr, if_neg he]; simp
    · simp at he
      refine AWp.skip ?_
      try simp
      (repeat refine AWp.seq ?_); refine AWp.region noP (by kernel_rfl) ?_
      simp [s7, hw]
      refine hR _ (l.length - (i + 1)) (by omega) ⟨i + 1, rfl, hb, acc, done, v, by simp [s0], by simp [s1], by simp [s5], by simpa using hG, by simp [s6], by simp, ?_, by omega⟩
      rw [hr, if_pos he]; simp
  · simp at hb
    refine AWp.exit ?_
    try simp
    (repeat refine AWp.seq ?_); refine AWp.region noP (by kernel_rfl) ?_
    have hil : i = l.length := by omega
    subst hil
    simp [putGo] at hr
    simp [s6]
    cases done with
    | true =>
      (repeat refine AWp.seq ?_); refine AWp.condF (by simp) ?_
      refine AWp.skip ?_
      try simp
      (repeat refine AWp.seq ?_); refine AWp.region noP (by kernel_rfl) ?_
      simp [s5]
      simp at hr
      exact AWp.ret (post_retW rfl ⟨.lst false 1 (acc.map .str), _, by simpa [strs] using hG.view, by simp [hr]⟩)
    | false =>
      (repeat refine AWp.seq ?_); refine AWp.condT (by simp) ?_
      (repeat refine AWp.seq ?_); refine AWp.region noP (by kernel_rfl) ?_
      simp [s5, s1]
      refine hG.push s (by omega) fun v' m' hG' => ?_
      try simp
      (repeat refine AWp.seq ?_); refine AWp.region noP (by kernel_rfl) ?_
      try simp
      simp at hr
      exact AWp.ret (post_retW rfl ⟨.lst false 1 ((acc ++ [s]).map .str), _, by simpa [strs] using hG'.view, by simp [hr]⟩)
end Go.T
namespace Go.T
open Go Go.Proofs
set_option maxRecDepth 10000
set_option maxHeartbeats 1000000
set_option linter.unusedSimpArgs false
set_option linter.unusedVariables false
theorem push_le {out xs ys : List ByteArray} {B : Nat} (h : out.length + (xs ++ ys).length ≤ B) : (xs.foldl putS out).length + ys.length ≤ B := by
  have := fold_len xs out
  rw [List.length_append] at h
  omega
theorem c_l4Exp0 (e : Ex) (q : Int) (ht : e.tot ≤ 1048576) (h : ∀ x ∈ e.l, ∀ out : List ByteArray, out.length + (x.pre q).length ≤ 8388600 → PCall Tryz.prog 304 [strs out, x.av, .int .i64 q] (strs ((x.pre q).foldl putS out)))
    (out : List ByteArray) (hb : out.length + (e.pre q).length ≤ 8388600) : PCall Tryz.prog 304 [strs out, e.av, .int .i64 q] (strs ((e.pre q).foldl putS out)) := by
  have hlen := e.len_l
  rw [e.pre_eq] at hb
  have hb2 := push_le hb
  rw [e.pre_eq, List.foldl_append]
  refine pcall_of Tryz.func304 (by kernel_rfl) rfl (by simp [Tryz.f304]) ?_
  unfold Ex.av
  (repeat refine AWp.seq ?_); refine AWp.region noP (by kernel_rfl) ?_
  simp
  intro g
  refine AWp.seq ?_
  refine AWp.cutA (fun st => st.slots 0 = strs ((one (e.k = q) e.s).foldl putS out) ∧ st.slots 4 = .ptr g 0 ∧ st.slots 2 = .int .i64 q ∧ st.mem g = some (.box e.cells)) ?_ ?_
  · (repeat refine AWp.seq ?_); refine AWp.region noP (by kernel_rfl) ?_
    simp
    (repeat refine AWp.seq ?_); refine AWp.cond (b := decide (e.k = q)) (by simp) (fun hk => ?_) (fun hk => ?_)
    · simp at hk
      (repeat refine AWp.seq ?_); refine AWp.region allP (by kernel_rfl) ?_
      simp
      refine aop_call' (c_l4Put out e.s (by omega)) ?_
      simp [one, hk]
    · simp at hk
      refine AWp.skip ?_
      simp [one, hk]
  generalize (one (e.k = q) e.s).foldl putS out = out1 at hb2 ⊢
  rintro st ⟨s0, s4, s2, sg⟩
  (repeat refine AWp.seq ?_); refine AWp.region noP (by kernel_rfl) ?_
  simp
  (repeat refine AWp.seq ?_); refine AWp.block (AWp.rounds (fun m st => ∃ (i : Nat) (acc : List ByteArray), m = e.l.length - i ∧ i ≤ e.l.length ∧ st.slots 0 = strs acc ∧ st.slots 4 = .ptr g 0 ∧ st.slots 2 = .int .i64 q ∧ st.mem g = some (.box e.cells) ∧ st.slots 7 = .int .i64 i ∧
    (Ex.pres q e.l).foldl putS out1 = (Ex.pres q (e.l.drop i)).foldl putS acc ∧ acc.length + (Ex.pres q (e.l.drop i)).length ≤ 8388600) e.l.length ⟨0, out1, by simp, by simp, by simp [s0], by simp [s4], by simp [s2], by simp [sg], by simp, by simp, by simpa using hb2⟩ ?_)
  clear s0 s4 s2 sg hb2
  rintro R m st hR ⟨i, acc, rfl, hi, s0, s4, s2, sg, s7, hr, ha⟩
  (repeat refine AWp.seq ?_); refine AWp.region noP (by kernel_rfl) ?_
  simp [s4, sg, s7]
  (repeat refine AWp.seq ?_); refine AWp.cond (b := decide (i < e.l.length)) (by simp) (fun hb => ?_) (fun hb => ?_)
  · simp at hb
    have hg : e.l[i]? = some e.l[i] := List.getElem?_eq_getElem hb
    have hdr : e.l.drop i = e.l[i] :: e.l.drop (i + 1) := List.drop_eq_getElem_cons hb
    rw [hdr, Ex.pres] at ha hr
    have ha2 := push_le ha
    rw [List.length_append] at ha
    refine AWp.skip ?_
    simp
    (repeat refine AWp.seq ?_); refine AWp.block ?_; (repeat refine AWp.seq ?_); refine AWp.region allP (by kernel_rfl) ?_
    have hx : idxA Tryz.prog st.mem 41 (.lst false 4 (e.l.map Ex.av)) (.int .i64 i) = some (.ref e.l[i].cells) := idx (y := e.l[i].av) es_41 (by simp [hg])
    simp [s0, s2, s4, sg, s7, hx]
    refine aop_call' (h e.l[i] (List.getElem_mem _) acc (by omega)) ?_
    simp
    (repeat refine AWp.seq ?_); refine AWp.region noP (by kernel_rfl) ?_
    have hw : IntKind.wrap .i64 ((i : Int) + 1) = (i + 1 : Nat) := wrap64 (by omega) (by omega)
    simp [s7, hw]
    exact hR _ (e.l.length - (i + 1)) (by omega) ⟨i + 1, _, rfl, hb, by simp, by simp [s4], by simp [s2], by simp [sg], by simp, by rw [hr, List.foldl_append], ha2⟩
  · simp at hb
    refine AWp.exit ?_
    simp
    (repeat refine AWp.seq ?_); refine AWp.region noP (by kernel_rfl) ?_
    simp [s0]
    have : i = e.l.length := by omega
    subst this
    simp [Ex.pres] at hr
    exact AWp.ret (post_ret1 rfl (by simp [hr]))
theorem c_l4Exp (e : Ex) (q : Int) : e.tot ≤ 1048576 → ∀ out : List ByteArray, out.length + (e.pre q).length ≤ 8388600 → PCall Tryz.prog 304 [strs out, e.av, .int .i64 q] (strs ((e.pre q).foldl putS out)) := by
  induction e using Ex.ind' with | h e h =>
  intro ht out hb
  refine c_l4Exp0 e q ht (fun x hx => h x hx ?_) out hb
  have := totL_mem Ex.tot hx
  have := e.tot_l
  omega
theorem c_l4Names0 (l : List Sm) (q : Int) (ht : totL Sm.tot l ≤ 1048576) (h : ∀ x ∈ l, ∀ out : List ByteArray, out.length + (Sm.namesL q x.body).length ≤ 8388600 → PCall Tryz.prog 195 [strs out, .lst false 19 (x.body.map Sm.av), .int .i64 q] (strs ((Sm.namesL q x.body).foldl putS out)))
    (out : List ByteArray) (hb : out.length + (Sm.namesL q l).length ≤ 8388600) : PCall Tryz.prog 195 [strs out, .lst false 19 (l.map Sm.av), .int .i64 q] (strs ((Sm.namesL q l).foldl putS out)) := by
  have hlen := totL_len Sm.tot l
  refine pcall_of Tryz.func195 (by kernel_rfl) rfl (by simp [Tryz.f195]) ?_
  (repeat refine AWp.seq ?_); refine AWp.region noP (by kernel_rfl) ?_
  simp
  (repeat refine AWp.seq ?_); refine AWp.region noP (by kernel_rfl) ?_
  simp
  (repeat refine AWp.seq ?_); refine AWp.block (AWp.rounds (fun m st => ∃ (i : Nat) (acc : List ByteArray), m = l.length - i ∧ i ≤ l.length ∧ st.slots 0 = strs acc ∧ st.slots 1 = .lst false 19 (l.map Sm.av) ∧ st.slots 2 = .int .i64 q ∧ st.slots 7 = .int .i64 i ∧
    (Sm.namesL q l).foldl putS out = (Sm.namesL q (l.drop i)).foldl putS acc ∧ acc.length + (Sm.namesL q (l.drop i)).length ≤ 8388600) l.length ⟨0, out, by simp, by simp, by simp, by simp, by simp, by simp, by simp, by simpa using hb⟩ ?_)
  rintro R m st hR ⟨i, acc, rfl, hi, s0, s1, s2, s7, hr, ha⟩
  (repeat refine AWp.seq ?_); refine AWp.region noP (by kernel_rfl) ?_
  simp [s1, s7]
  (repeat refine AWp.seq ?_); refine AWp.cond (b := decide (i < l.length)) (by simp) (fun hb => ?_) (fun hb => ?_)
  · simp at hb
    have hg : l[i]? = some l[i] := List.getElem?_eq_getElem hb
    have hdr : l.drop i = l[i] :: l.drop (i + 1) := List.drop_eq_getElem_cons hb
    have htm := totL_mem Sm.tot (List.getElem_mem hb)
    have htp := l[i].tot_parts
    rw [hdr] at ha hr
    rw [Sm.namesL, Sm.names_eq] at ha hr
    simp only [List.append_assoc] at ha hr
    have hx : idxA Tryz.prog st.mem 36 (.lst false 19 (l.map Sm.av)) (.int .i64 i) = some (.ref l[i].cells) := idx (y := l[i].av) es_36 (by simp [hg])
    have hx' : ∀ m, idxA Tryz.prog m 36 (.lst false 19 (l.map Sm.av)) (.int .i64 i) = some (.ref l[i].cells) := fun m => idx (y := l[i].av) es_36 (by simp [hg])
    have hw : IntKind.wrap .i64 ((i : Int) + 1) = (i + 1 : Nat) := wrap64 (by omega) (by omega)
    refine AWp.skip ?_
    simp
    refine AWp.seq ?_; refine AWp.block ?_
    refine AWp.seq ?_
    refine AWp.cutA (fun st => st.slots 0 = strs ((one (l[i].k = q) l[i].s).foldl putS acc) ∧ st.slots 1 = .lst false 19 (l.map Sm.av) ∧ st.slots 2 = .int .i64 q ∧ st.slots 7 = .int .i64 i) ?_ ?_
    · (repeat refine AWp.seq ?_); refine AWp.region noP (by kernel_rfl) ?_
      simp [s1, s2, s7, hx]
      (repeat refine AWp.seq ?_); refine AWp.cond (b := decide (l[i].k = q)) (by simp) (fun hk => ?_) (fun hk => ?_)
      · simp at hk
        (repeat refine AWp.seq ?_); refine AWp.region allP (by kernel_rfl) ?_
        simp [s0, s1, s7, hx]
        refine aop_call' (c_l4Put acc l[i].s (by omega)) ?_
        simp [one, hk, s1, s2, s7]
      · simp at hk
        refine AWp.skip ?_
        simp [one, hk, s0, s1, s2, s7]
    have ha1 := push_le ha
    rw [List.foldl_append] at hr
    generalize (one (l[i].k = q) l[i].s).foldl putS acc = acc1 at ha1 hr ⊢
    clear s0 s1 s2 s7 ha hx
    rintro st ⟨s0, s1, s2, s7⟩
    have ha2 := push_le ha1
    rw [List.length_append] at ha1
    rw [List.foldl_append] at hr
    (repeat refine AWp.seq ?_); refine AWp.region allP (by kernel_rfl) ?_
    simp [s0, s1, s2, s7, hx']
    refine aop_call' (h l[i] (List.getElem_mem _) acc1 (by omega)) ?_
    simp
    (repeat refine AWp.seq ?_); refine AWp.region noP (by kernel_rfl) ?_
    simp [s7, hw]
    exact hR _ (l.length - (i + 1)) (by omega) ⟨i + 1, _, rfl, hb, by simp, by simp [s1], by simp [s2], by simp, hr, ha2⟩
  · simp at hb
    refine AWp.exit ?_
    simp
    (repeat refine AWp.seq ?_); refine AWp.region noP (by kernel_rfl) ?_
    simp [s0]
    have : i = l.length := by omega
    subst this
    simp [Sm.namesL] at hr
    exact AWp.ret (post_ret1 rfl (by simp [hr]))
theorem c_l4NamesB (e : Sm) (q : Int) : e.tot ≤ 1048576 → ∀ out : List ByteArray, out.length + (Sm.namesL q e.body).length ≤ 8388600 → PCall Tryz.prog 195 [strs out, .lst false 19 (e.body.map Sm.av), .int .i64 q] (strs ((Sm.namesL q e.body).foldl putS out)) := by
  induction e using Sm.ind' with | h e h =>
  intro ht
  have := e.tot_body
  exact c_l4Names0 e.body q (by omega) (fun x hx => h x hx (by have := totL_mem Sm.tot hx; omega))
theorem c_l4Names (l : List Sm) (q : Int) (ht : totL Sm.tot l ≤ 1048576) (out : List ByteArray) (hb : out.length + (Sm.namesL q l).length ≤ 8388600) : PCall Tryz.prog 195 [strs out, .lst false 19 (l.map Sm.av), .int .i64 q] (strs ((Sm.namesL q l).foldl putS out)) :=
  c_l4Names0 l q ht (fun x hx => c_l4NamesB x q (by have := totL_mem Sm.tot hx; omega)) out hb
theorem c_l4Exps0 (l : List Sm) (q : Int) (ht : totL Sm.tot l ≤ 1048576) (h : ∀ x ∈ l, ∀ out : List ByteArray, out.length + (Sm.expsL (Ex.pre q) x.body).length ≤ 8388600 → PCall Tryz.prog 197 [strs out, .lst false 19 (x.body.map Sm.av), .int .i64 q] (strs ((Sm.expsL (Ex.pre q) x.body).foldl putS out)))
    (out : List ByteArray) (hb : out.length + (Sm.expsL (Ex.pre q) l).length ≤ 8388600) : PCall Tryz.prog 197 [strs out, .lst false 19 (l.map Sm.av), .int .i64 q] (strs ((Sm.expsL (Ex.pre q) l).foldl putS out)) := by
  have hlen := totL_len Sm.tot l
  refine pcall_of Tryz.func197 (by kernel_rfl) rfl (by simp [Tryz.f197]) ?_
  (repeat refine AWp.seq ?_); refine AWp.region noP (by kernel_rfl) ?_
  simp
  (repeat refine AWp.seq ?_); refine AWp.region noP (by kernel_rfl) ?_
  simp
  (repeat refine AWp.seq ?_); refine AWp.block (AWp.rounds (fun m st => ∃ (i : Nat) (acc : List ByteArray), m = l.length - i ∧ i ≤ l.length ∧ st.slots 0 = strs acc ∧ st.slots 1 = .lst false 19 (l.map Sm.av) ∧ st.slots 2 = .int .i64 q ∧ st.slots 7 = .int .i64 i ∧
    (Sm.expsL (Ex.pre q) l).foldl putS out = (Sm.expsL (Ex.pre q) (l.drop i)).foldl putS acc ∧ acc.length + (Sm.expsL (Ex.pre q) (l.drop i)).length ≤ 8388600) l.length ⟨0, out, by simp, by simp, by simp, by simp, by simp, by simp, by simp, by simpa using hb⟩ ?_)
  rintro R m st hR ⟨i, acc, rfl, hi, s0, s1, s2, s7, hr, ha⟩
  (repeat refine AWp.seq ?_); refine AWp.region noP (by kernel_rfl) ?_
  simp [s1, s7]
  (repeat refine AWp.seq ?_); refine AWp.cond (b := decide (i < l.length)) (by simp) (fun hb => ?_) (fun hb => ?_)
  · simp at hb
    have hg : l[i]? = some l[i] := List.getElem?_eq_getElem hb
    have hdr : l.drop i = l[i] :: l.drop (i + 1) := List.drop_eq_getElem_cons hb
    have htm := totL_mem Sm.tot (List.getElem_mem hb)
    have htp := l[i].tot_parts
    rw [hdr] at ha hr
    rw [Sm.expsL, Sm.exps_eq] at ha hr
    simp only [List.append_assoc] at ha hr
    have hx : idxA Tryz.prog st.mem 36 (.lst false 19 (l.map Sm.av)) (.int .i64 i) = some (.ref l[i].cells) := idx (y := l[i].av) es_36 (by simp [hg])
    have hx' : ∀ m, idxA Tryz.prog m 36 (.lst false 19 (l.map Sm.av)) (.int .i64 i) = some (.ref l[i].cells) := fun m => idx (y := l[i].av) es_36 (by simp [hg])
    have hw : IntKind.wrap .i64 ((i : Int) + 1) = (i + 1 : Nat) := wrap64 (by omega) (by omega)
    refine AWp.skip ?_
    simp
    (repeat refine AWp.seq ?_); refine AWp.block ?_
    have hz1 := push_le ha
    rw [List.length_append] at ha
    rw [List.foldl_append] at hr
    (repeat refine AWp.seq ?_); refine AWp.region allP (by kernel_rfl) ?_
    simp [s0, s1, s2, s7, hx']
    refine aop_call' (c_l4Exp l[i].a q (by omega) _ (by omega)) ?_
    simp
    generalize (Ex.pre q l[i].a).foldl putS acc = acc1 at hz1 hr ⊢
    clear ha
    have ha := hz1
    clear hz1
    have hz2 := push_le ha
    rw [List.length_append] at ha
    rw [List.foldl_append] at hr
    (repeat refine AWp.seq ?_); refine AWp.region allP (by kernel_rfl) ?_
    simp [s0, s1, s2, s7, hx']
    refine aop_call' (c_l4Exp l[i].e q (by omega) _ (by omega)) ?_
    simp
    generalize (Ex.pre q l[i].e).foldl putS acc1 = acc2 at hz2 hr ⊢
    clear ha
    have ha := hz2
    clear hz2
    have hz3 := push_le ha
    rw [List.length_append] at ha
    rw [List.foldl_append] at hr
    (repeat refine AWp.seq ?_); refine AWp.region allP (by kernel_rfl) ?_
    simp [s0, s1, s2, s7, hx']
    refine aop_call' (c_l4Exp l[i].lo q (by omega) _ (by omega)) ?_
    simp
    generalize (Ex.pre q l[i].lo).foldl putS acc2 = acc3 at hz3 hr ⊢
    clear ha
    have ha := hz3
    clear hz3
    have hz4 := push_le ha
    rw [List.length_append] at ha
    rw [List.foldl_append] at hr
    (repeat refine AWp.seq ?_); refine AWp.region allP (by kernel_rfl) ?_
    simp [s0, s1, s2, s7, hx']
    refine aop_call' (c_l4Exp l[i].hi q (by omega) _ (by omega)) ?_
    simp
    generalize (Ex.pre q l[i].hi).foldl putS acc3 = acc4 at hz4 hr ⊢
    clear ha
    have ha := hz4
    clear hz4
    have hz := push_le ha
    rw [List.length_append] at ha
    rw [List.foldl_append] at hr
    (repeat refine AWp.seq ?_); refine AWp.region allP (by kernel_rfl) ?_
    simp [s0, s1, s2, s7, hx']
    refine aop_call' (h l[i] (List.getElem_mem _) acc4 (by omega)) ?_
    simp
    (repeat refine AWp.seq ?_); refine AWp.region noP (by kernel_rfl) ?_
    simp [s7, hw]
    exact hR _ (l.length - (i + 1)) (by omega) ⟨i + 1, _, rfl, hb, by simp, by simp [s1], by simp [s2], by simp, hr, hz⟩
  · simp at hb
    refine AWp.exit ?_
    simp
    (repeat refine AWp.seq ?_); refine AWp.region noP (by kernel_rfl) ?_
    simp [s0]
    have : i = l.length := by omega
    subst this
    simp [Sm.expsL] at hr
    exact AWp.ret (post_ret1 rfl (by simp [hr]))
theorem c_l4ExpsB (e : Sm) (q : Int) : e.tot ≤ 1048576 → ∀ out : List ByteArray, out.length + (Sm.expsL (Ex.pre q) e.body).length ≤ 8388600 → PCall Tryz.prog 197 [strs out, .lst false 19 (e.body.map Sm.av), .int .i64 q] (strs ((Sm.expsL (Ex.pre q) e.body).foldl putS out)) := by
  induction e using Sm.ind' with | h e h =>
  intro ht
  have := e.tot_body
  exact c_l4Exps0 e.body q (by omega) (fun x hx => h x hx (by have := totL_mem Sm.tot hx; omega))
theorem c_l4Exps (l : List Sm) (q : Int) (ht : totL Sm.tot l ≤ 1048576) (out : List ByteArray) (hb : out.length + (Sm.expsL (Ex.pre q) l).length ≤ 8388600) : PCall Tryz.prog 197 [strs out, .lst false 19 (l.map Sm.av), .int .i64 q] (strs ((Sm.expsL (Ex.pre q) l).foldl putS out)) :=
  c_l4Exps0 l q ht (fun x hx => c_l4ExpsB x q (by have := totL_mem Sm.tot hx; omega)) out hb
theorem c_spec_VarsOf (l : List Sm) (ht : totL Sm.tot l ≤ 1048576) : PCall Tryz.prog 108 [.lst false 19 (l.map Sm.av)] (strs (nameSet (Sm.namesL 1 l))) := by
  have hb : (Sm.namesL 1 l).length ≤ 8388600 := by have := Sm.namesL_len 1 l; have := Sm.tots_eq l; omega
  have c1 := c_l4Names l 1 ht [] (by simpa using hb)
  replace c1 := c1.arg (.cons (Le.lst true _ _) (.cons (Le.refl _) (.cons (Le.refl _) .nil)))
  refine pcall_of Tryz.func108 (by kernel_rfl) rfl (by simp [Tryz.f108]) ?_
  (repeat refine AWp.seq ?_); refine AWp.region noP (by kernel_rfl) ?_
  simp
  (repeat refine AWp.seq ?_); refine AWp.region allP (by kernel_rfl) ?_
  simp
  refine aop_call' c1 ?_
  simp
  exact AWp.ret (post_ret1 rfl (by simp [nameSet]))
theorem c_spec_LoopVars (l : List Sm) (ht : totL Sm.tot l ≤ 1048576) : PCall Tryz.prog 194 [.lst false 19 (l.map Sm.av)] (strs (nameSet (Sm.namesL 3 l))) := by
  have hb : (Sm.namesL 3 l).length ≤ 8388600 := by have := Sm.namesL_len 3 l; have := Sm.tots_eq l; omega
  have c1 := c_l4Names l 3 ht [] (by simpa using hb)
  replace c1 := c1.arg (.cons (Le.lst true _ _) (.cons (Le.refl _) (.cons (Le.refl _) .nil)))
  refine pcall_of Tryz.func194 (by kernel_rfl) rfl (by simp [Tryz.f194]) ?_
  (repeat refine AWp.seq ?_); refine AWp.region noP (by kernel_rfl) ?_
  simp
  (repeat refine AWp.seq ?_); refine AWp.region allP (by kernel_rfl) ?_
  simp
  refine aop_call' c1 ?_
  simp
  exact AWp.ret (post_ret1 rfl (by simp [nameSet]))
theorem c_spec_Asked (l : List Sm) (ht : totL Sm.tot l ≤ 1048576) : PCall Tryz.prog 199 [.lst false 19 (l.map Sm.av)] (strs (nameSet (Sm.expsL (Ex.pre 2) l))) := by
  have hb : (Sm.expsL (Ex.pre 2) l).length ≤ 8388600 := by have := Sm.expsL_len (f := Ex.pre 2) (fun e => Ex.pre_len 2 e) l; have := Sm.tots_eq l; omega
  have c1 := c_l4Exps l 2 ht [] (by simpa using hb)
  replace c1 := c1.arg (.cons (Le.lst true _ _) (.cons (Le.refl _) (.cons (Le.refl _) .nil)))
  refine pcall_of Tryz.func199 (by kernel_rfl) rfl (by simp [Tryz.f199]) ?_
  (repeat refine AWp.seq ?_); refine AWp.region noP (by kernel_rfl) ?_
  simp
  (repeat refine AWp.seq ?_); refine AWp.region allP (by kernel_rfl) ?_
  simp
  refine aop_call' c1 ?_
  simp
  exact AWp.ret (post_ret1 rfl (by simp [nameSet]))
end Go.T
