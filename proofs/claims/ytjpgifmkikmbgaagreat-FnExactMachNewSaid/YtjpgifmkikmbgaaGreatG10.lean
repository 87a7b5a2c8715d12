/- Bases, words, flags, slots, bars, registers: what the program and the reference compute. Where something of a program stands: what the program and the reference compute. The laws' functions, of where something of a program stands; programs as arguments. What the laws' measuring, copying and comparing functions compute, of machines. Machines that are right: what the program and the reference compute. Machines that are right: what the program and the reference compute; the law. Marks: what the program's marking functions compute. Rows marked: what the program's marking functions compute. -/
import Derived.Test.YtjpgifmkikmbgaaGreatG9
import Derived.Test.YtjpgifmkikmbgaaGreatG4
import Derived.Test.YtjpgifmkikmbgaaGreatG5
import Derived.Test.YtjpgifmkikmbgaaGreatG3
namespace Go.T
open Go Go.Proofs
set_option maxRecDepth 10000
set_option linter.unusedSimpArgs false
set_option linter.unusedVariables false
def memSize (p : Pg) : Int := if p.ok = true then p.size + p.vars.length + 32 else 0
theorem c_flag (p : Pg) (hf : p.Fine) (h : Int) (h0 : 0 ≤ h) (h4 : h ≤ 4) : PCall Tryz.prog 57 [.ref p.lay, .int .i64 h] (.int .i64 (p.size + p.vars.length + h)) := by
  have hs := hf.size
  have hv := hf.vars
  have w1 : IntKind.wrap .i64 (p.size + (p.vars.length : Int)) = p.size + p.vars.length := wrap64 (by omega) (by omega)
  have w2 : IntKind.wrap .i64 (p.size + p.vars.length + h) = p.size + p.vars.length + h := wrap64 (by omega) (by omega)
  refine pcall_of Tryz.func57 (by kernel_rfl) rfl (by simp [Tryz.f57]) ?_
  unfold Pg.lay
  repeat' (first
    | refine AWp.seq ?_
    | (refine AWp.region allP (by kernel_rfl) ?_; simp [strs, w1, w2])
    | (refine AWp.condG ?_; simp [strs, w1, w2])
    | (refine AWp.skip ?_; try simp)
    | (refine AWp.exit ?_; try simp)
    | refine AWp.block ?_
    | (refine AWp.ret (post_ret1 rfl ?_); (simp; done))
    | (refine guardI (fun hq => ?_) (fun hq => ?_) <;> (try simp at hq) <;> (try simp [strs, w1, w2]))
    | (refine condRunI (fun hq => ?_) (fun hq => ?_) <;> (try simp at hq) <;> (try simp [strs, w1, w2]))
    | (refine iteI (fun hq => ?_) (fun hq => ?_) <;> (try simp [strs, w1, w2])))
theorem c_slot (p : Pg) (hf : p.Fine) (h k : Int) (h0 : 0 ≤ h) (h4 : h ≤ 4) (k0 : 0 ≤ k) (k5 : k ≤ 5) : PCall Tryz.prog 60 [.ref p.lay, .int .i64 h, .int .i64 k] (.int .i64 (p.size + p.vars.length + 4 + 6 * h + k)) := by
  have hs := hf.size
  have hv := hf.vars
  have c1 := c_flag p hf 4 (by omega) (by omega)
  have w1 : IntKind.wrap .i64 (h * 6) = 6 * h := by rw [wrap64 (by omega) (by omega)]; omega
  have w2 : IntKind.wrap .i64 (p.size + p.vars.length + 4 + 6 * h) = p.size + p.vars.length + 4 + 6 * h := wrap64 (by omega) (by omega)
  have w3 : IntKind.wrap .i64 (p.size + p.vars.length + 4 + 6 * h + k) = p.size + p.vars.length + 4 + 6 * h + k := wrap64 (by omega) (by omega)
  refine pcall_of Tryz.func60 (by kernel_rfl) rfl (by simp [Tryz.f60]) ?_
  repeat' (first
    | refine AWp.seq ?_
    | (refine AWp.region allP (by kernel_rfl) ?_; simp [w1, w2, w3])
    | (refine AWp.condG ?_; simp [w1, w2, w3])
    | (refine AWp.skip ?_; try simp)
    | (refine AWp.exit ?_; try simp)
    | refine AWp.block ?_
    | (refine aop_call' (c1) ?_; simp [w1, w2, w3])
    | (refine AWp.ret (post_ret1 rfl ?_); (simp; done))
    | (refine guardI (fun hq => ?_) (fun hq => ?_) <;> (try simp at hq) <;> (try simp [w1, w2, w3]))
    | (refine condRunI (fun hq => ?_) (fun hq => ?_) <;> (try simp at hq) <;> (try simp [w1, w2, w3]))
    | (refine iteI (fun hq => ?_) (fun hq => ?_) <;> (try simp [w1, w2, w3])))
theorem c_bar (p : Pg) (hf : p.Fine) (h : Int) (h0 : 0 ≤ h) (h4 : h ≤ 4) : PCall Tryz.prog 61 [.ref p.lay, .int .i64 h] (.int .i64 (p.size + p.vars.length + 28 + h)) := by
  have hs := hf.size
  have hv := hf.vars
  have c1 := c_slot p hf 4 0 (by omega) (by omega) (by omega) (by omega)
  have w1 : IntKind.wrap .i64 (p.size + p.vars.length + 4 + 6 * 4 + 0 + h) = p.size + p.vars.length + 28 + h := by rw [wrap64 (by omega) (by omega)]; omega
  refine pcall_of Tryz.func61 (by kernel_rfl) rfl (by simp [Tryz.f61]) ?_
  generalize p.size + (p.vars.length : Int) + 4 + 6 * 4 + 0 = q at *
  repeat' (first
    | refine AWp.seq ?_
    | (refine AWp.region allP (by kernel_rfl) ?_; simp [w1])
    | (refine AWp.condG ?_; simp [w1])
    | (refine AWp.skip ?_; try simp)
    | (refine AWp.exit ?_; try simp)
    | refine AWp.block ?_
    | (refine aop_call' (c1) ?_; simp [w1])
    | (refine AWp.ret (post_ret1 rfl ?_); (simp; done))
    | (refine guardI (fun hq => ?_) (fun hq => ?_) <;> (try simp at hq) <;> (try simp [w1]))
    | (refine condRunI (fun hq => ?_) (fun hq => ?_) <;> (try simp at hq) <;> (try simp [w1]))
    | (refine iteI (fun hq => ?_) (fun hq => ?_) <;> (try simp [w1])))
theorem c_mem (p : Pg) (hf : p.Fine) : PCall Tryz.prog 62 [.ref p.lay] (.int .i64 (p.size + p.vars.length + 32)) := by
  have c1 := c_bar p hf 4 (by omega) (by omega)
  have e : p.size + (p.vars.length : Int) + 28 + 4 = p.size + p.vars.length + 32 := by omega
  rw [e] at c1
  refine pcall_of Tryz.func62 (by kernel_rfl) rfl (by simp [Tryz.f62]) ?_
  repeat' (first
    | refine AWp.seq ?_
    | (refine AWp.region allP (by kernel_rfl) ?_; simp)
    | (refine AWp.condG ?_; simp)
    | (refine AWp.skip ?_; try simp)
    | (refine AWp.exit ?_; try simp)
    | refine AWp.block ?_
    | (refine aop_call' (c1) ?_; simp)
    | (refine AWp.ret (post_ret1 rfl ?_); (simp; done))
    | (refine guardI (fun hq => ?_) (fun hq => ?_) <;> (try simp at hq) <;> (try simp))
    | (refine condRunI (fun hq => ?_) (fun hq => ?_) <;> (try simp at hq) <;> (try simp))
    | (refine iteI (fun hq => ?_) (fun hq => ?_) <;> (try simp)))
theorem c_l15Vars (p : Pg) (ht : p.tot ≤ 1048576) : PCall Tryz.prog 51 [p.av] (.int .i64 p.v0) := by
  have c1 := c_spec_ProgOk p ht
  refine pcall_of Tryz.func51 (by kernel_rfl) rfl (by simp [Tryz.f51]) ?_
  have hc : p.cells = [.lst false 2 (p.arrs.map Ar.av), .lst false 19 (p.body.map Sm.av)] := rfl
  unfold Pg.av at *
  rw [hc] at *
  (repeat refine AWp.seq ?_); refine AWp.region noP (by kernel_rfl) ?_
  try simp
  intro g
  (repeat refine AWp.seq ?_); refine AWp.region allP (by kernel_rfl) ?_
  try simp
  refine aop_call' c1 ?_
  cases hok : p.ok
  · simp
    (repeat refine AWp.seq ?_); refine AWp.condT (by simp) ?_
    (repeat refine AWp.seq ?_); refine AWp.region noP (by kernel_rfl) ?_
    try simp
    exact AWp.ret (post_ret1 rfl (by simp [Pg.v0, hok]))
  have hf := Pg.fine hok
  have hl4 := hf.arrs
  try simp
  (repeat refine AWp.seq ?_); refine AWp.condF (by simp) ?_
  refine AWp.skip ?_
  try simp
  (repeat refine AWp.seq ?_); refine AWp.region noP (by kernel_rfl) ?_
  try simp
  (repeat refine AWp.seq ?_); refine AWp.region noP (by kernel_rfl) ?_
  try simp
  (try refine AWp.seq ?_)
  refine AWp.cutA (fun st => st.slots 3 = .int .i64 p.size) ?_ ?_
  · refine AWp.block (AWp.rounds (fun n st => ∃ (i : Nat), n = p.arrs.length - i ∧ i ≤ p.arrs.length ∧ st.slots 1 = .ptr g 0 ∧ st.mem g = some (.box [.lst false 2 (p.arrs.map Ar.av), .lst false 19 (p.body.map Sm.av)]) ∧ st.slots 4 = .int .i64 i ∧ st.slots 3 = .int .i64 (sumN (p.arrs.take i))) p.arrs.length ⟨0, by simp, by simp, by simp, by simp, by simp, by simp [sumN]⟩ ?_)
    rintro R n st hR ⟨i, rfl, hi, s1, sg, s4, s3⟩
    (repeat refine AWp.seq ?_); refine AWp.region noP (by kernel_rfl) ?_
    simp [s1, sg, s4]
    (repeat refine AWp.seq ?_); refine AWp.cond (b := decide (i < p.arrs.length)) (by simp) (fun hb => ?_) (fun hb => ?_)
    · simp at hb
      have hg : p.arrs[i]? = some p.arrs[i] := List.getElem?_eq_getElem hb
      have hx : ∀ m, idxA Tryz.prog m 28 (.lst false 2 (p.arrs.map Ar.av)) (.int .i64 i) = some (.ref [.str p.arrs[i].s, .int .i64 p.arrs[i].n]) := fun m => idx (y := p.arrs[i].av) es_28 (by simp [hg])
      have hw : IntKind.wrap .i64 ((i : Int) + 1) = (i + 1 : Nat) := wrap64 (by omega) (by omega)
      have hb1 := hf.take i
      have hb2 := hf.take (i + 1)
      have hsu := sumN_succ p.arrs i hb
      have hw2 : IntKind.wrap .i64 (sumN (p.arrs.take i) + p.arrs[i].n) = sumN (p.arrs.take (i + 1)) := by rw [wrap64 (by omega) (by omega), hsu]
      refine AWp.skip ?_
      try simp
      (repeat refine AWp.seq ?_); refine AWp.block ?_; (repeat refine AWp.seq ?_); refine AWp.region noP (by kernel_rfl) ?_
      simp [s1, sg, s3, s4, hx, hw2]
      (repeat refine AWp.seq ?_); refine AWp.region noP (by kernel_rfl) ?_
      simp [s4, hw]
      exact hR _ (p.arrs.length - (i + 1)) (by omega) ⟨i + 1, rfl, hb, by simp [s1], by simp [sg], by simp, by simp⟩
    · simp at hb
      refine AWp.exit ?_
      have : i = p.arrs.length := by omega
      subst this
      rw [List.take_length] at s3
      simp [s3, Pg.size]
  intro st s3
  (repeat refine AWp.seq ?_); refine AWp.region noP (by kernel_rfl) ?_
  simp [s3]
  exact AWp.ret (post_ret1 rfl (by simp [Pg.v0, hok]))
theorem c_l15Flags (p : Pg) (ht : p.tot ≤ 1048576) : PCall Tryz.prog 55 [p.av] (.int .i64 p.f0) := by
  have h3 : p.tot = totL Ar.tot p.arrs + totL Sm.tot p.body := rfl
  have c1 := c_l15Vars p ht
  have cV := c_spec_VarsOf p.body (by omega)
  change PCall _ _ _ (strs p.vars) at cV
  unfold strs at cV
  refine pcall_of Tryz.func55 (by kernel_rfl) rfl (by simp [Tryz.f55]) ?_
  have hc : p.cells = [.lst false 2 (p.arrs.map Ar.av), .lst false 19 (p.body.map Sm.av)] := rfl
  unfold Pg.av at *
  rw [hc] at *
  (repeat refine AWp.seq ?_); refine AWp.region noP (by kernel_rfl) ?_
  try simp
  intro g
  cases hok : p.ok
  · have e : p.v0 = -1 := by unfold Pg.v0; rw [hok]; rfl
    rw [e] at c1
    repeat' (first
    | refine AWp.seq ?_
    | (refine AWp.region allP (by kernel_rfl) ?_; simp)
    | (refine AWp.condG ?_; simp)
    | (refine AWp.skip ?_; try simp)
    | (refine AWp.exit ?_; try simp)
    | refine AWp.block ?_
    | (refine aop_call' (c1) ?_; simp)
    | (refine aop_call' (cV) ?_; simp)
    | (refine AWp.ret (post_ret1 rfl ?_); (simp [Pg.f0, hok]; done))
    | (refine guardI (fun hq => ?_) (fun hq => ?_) <;> (try simp at hq) <;> (try simp))
    | (refine condRunI (fun hq => ?_) (fun hq => ?_) <;> (try simp at hq) <;> (try simp))
    | (refine iteI (fun hq => ?_) (fun hq => ?_) <;> (try simp)))
  · have hf := Pg.fine hok
    have hs := hf.size
    have hv := hf.vars
    have e : p.v0 = p.size := by unfold Pg.v0; rw [hok]; rfl
    rw [e] at c1
    have hn : ¬ p.size < 0 := by omega
    have w1 : IntKind.wrap .i64 (p.size + (p.vars.length : Int)) = p.size + p.vars.length := wrap64 (by omega) (by omega)
    repeat' (first
    | refine AWp.seq ?_
    | (refine AWp.region allP (by kernel_rfl) ?_; simp [hn, w1])
    | (refine AWp.condG ?_; simp [hn, w1])
    | (refine AWp.skip ?_; try simp)
    | (refine AWp.exit ?_; try simp)
    | refine AWp.block ?_
    | (refine aop_call' (c1) ?_; simp [hn, w1])
    | (refine aop_call' (cV) ?_; simp [hn, w1])
    | (refine AWp.ret (post_ret1 rfl ?_); (simp [Pg.f0, hok]; done))
    | (refine guardI (fun hq => ?_) (fun hq => ?_) <;> (try simp at hq) <;> (try simp [hn, w1]))
    | (refine condRunI (fun hq => ?_) (fun hq => ?_) <;> (try simp at hq) <;> (try simp [hn, w1]))
    | (refine iteI (fun hq => ?_) (fun hq => ?_) <;> (try simp [hn, w1])))
theorem c_l15Names (p : Pg) (ht : p.tot ≤ 1048576) : PCall Tryz.prog 43 [p.av] (strs p.regs) := by
  have h3 : p.tot = totL Ar.tot p.arrs + totL Sm.tot p.body := rfl
  obtain ⟨L0, L1, L3, L2, L4⟩ := p.lens ht
  have cV := c_spec_VarsOf p.body (by omega)
  have cL := c_spec_LoopVars p.body (by omega)
  change PCall _ _ _ (strs p.vars) at cV
  change PCall _ _ _ (strs p.loops) at cL
  refine pcall_of Tryz.func43 (by kernel_rfl) rfl (by simp [Tryz.f43]) ?_
  have hc : p.cells = [.lst false 2 (p.arrs.map Ar.av), .lst false 19 (p.body.map Sm.av)] := rfl
  unfold Pg.av at *
  rw [hc] at *
  (repeat refine AWp.seq ?_); refine AWp.region noP (by kernel_rfl) ?_
  try simp
  intro g
  (repeat refine AWp.seq ?_); refine AWp.region allP (by kernel_rfl) ?_
  try simp
  refine aop_call' cV ?_
  try simp
  (repeat refine AWp.seq ?_); refine AWp.region allP (by kernel_rfl) ?_
  try simp
  refine aop_call' cL ?_
  try simp
  (repeat refine AWp.seq ?_); refine AWp.region noP (by kernel_rfl) ?_
  try simp
  (try refine AWp.seq ?_)
  refine AWp.cutA (fun st => st.slots 3 = strs p.regs) ?_ ?_
  · refine AWp.block (AWp.rounds (fun n st => ∃ (i : Nat) (acc : List ByteArray), n = p.loops.length - i ∧ i ≤ p.loops.length ∧ st.slots 3 = strs acc ∧ st.slots 4 = .lst false 1 (p.loops.map .str) ∧ st.slots 5 = .int .i64 i ∧ p.regs = (p.loops.drop i).foldl putS acc ∧ acc.length ≤ p.vars.length + i) p.loops.length ⟨0, p.vars, by simp, by simp, by simp, by (simp [strs]), by simp, by simp [Pg.regs_fold], by simp⟩ ?_)
    rintro R n st hR ⟨i, acc, rfl, hi, s3, s4, s5, hr, hal⟩
    (repeat refine AWp.seq ?_); refine AWp.region noP (by kernel_rfl) ?_
    simp [s4, s5]
    (repeat refine AWp.seq ?_); refine AWp.cond (b := decide (i < p.loops.length)) (by simp) (fun hb => ?_) (fun hb => ?_)
    · simp at hb
      have hg : p.loops[i]? = some p.loops[i] := List.getElem?_eq_getElem hb
      have hdr : p.loops.drop i = p.loops[i] :: p.loops.drop (i + 1) := List.drop_eq_getElem_cons hb
      have hx : ∀ m, idxA Tryz.prog m 59 (.lst false 1 (p.loops.map .str)) (.int .i64 i) = some (.ref [.str p.loops[i]]) := fun m => idx (y := .str p.loops[i]) es_59 (by simp [hg])
      have hw : IntKind.wrap .i64 ((i : Int) + 1) = (i + 1 : Nat) := wrap64 (by omega) (by omega)
      rw [hdr, List.foldl_cons] at hr
      have hpl := (putS_len p.loops[i] acc false).1
      refine AWp.skip ?_
      try simp
      (repeat refine AWp.seq ?_); refine AWp.block ?_; (repeat refine AWp.seq ?_); refine AWp.region allP (by kernel_rfl) ?_
      simp [s3, s4, s5, hx]
      refine aop_call' (c_l4Put acc p.loops[i] (by omega)) ?_
      try simp
      (repeat refine AWp.seq ?_); refine AWp.region noP (by kernel_rfl) ?_
      simp [s5, hw]
      exact hR _ (p.loops.length - (i + 1)) (by omega) ⟨i + 1, _, rfl, hb, by simp, by simp [s4], by simp, hr, by unfold putS; omega⟩
    · simp at hb
      refine AWp.exit ?_
      have : i = p.loops.length := by omega
      subst this
      simp at hr
      simp [s3, hr]
  intro st s3
  (repeat refine AWp.seq ?_); refine AWp.region noP (by kernel_rfl) ?_
  simp [s3]
  exact AWp.ret (post_ret1 rfl (by simp))
end Go.T
namespace Go.T
open Go Go.Proofs
set_option maxRecDepth 10000
set_option linter.unusedSimpArgs false
set_option linter.unusedVariables false
theorem c_impl_MemSize (p : Pg) (ht : p.tot ≤ 1048576) : PCall Tryz.prog 28 [p.av] (.int .i64 (memSize p)) := by
  have c1 := c_impl_ProgOk p ht
  refine pcall_of Tryz.func28 (by kernel_rfl) rfl (by simp [Tryz.f28]) ?_
  have hc : p.cells = [.lst false 2 (p.arrs.map Ar.av), .lst false 19 (p.body.map Sm.av)] := rfl
  unfold Pg.av at *
  rw [hc] at *
  (repeat refine AWp.seq ?_); refine AWp.region noP (by kernel_rfl) ?_
  try simp
  intro g
  cases hok : p.ok
  · rw [hok] at c1
    repeat' (first
    | refine AWp.seq ?_
    | (refine AWp.region allP (by kernel_rfl) ?_; simp)
    | (refine AWp.condG ?_; simp)
    | (refine AWp.skip ?_; try simp)
    | (refine AWp.exit ?_; try simp)
    | refine AWp.block ?_
    | (refine aop_call' (c1) ?_; simp)
    | (refine AWp.ret (post_ret1 rfl ?_); (simp [memSize, hok]; done))
    | (refine guardI (fun hq => ?_) (fun hq => ?_) <;> (try simp at hq) <;> (try simp))
    | (refine condRunI (fun hq => ?_) (fun hq => ?_) <;> (try simp at hq) <;> (try simp))
    | (refine iteI (fun hq => ?_) (fun hq => ?_) <;> (try simp)))
  have cL := c_layOf p ht (Pg.fine hok)
  unfold Pg.av at cL
  have cW := c_mem p (Pg.fine hok)
  rw [hok] at c1
  repeat' (first
    | refine AWp.seq ?_
    | (refine AWp.region allP (by kernel_rfl) ?_; simp)
    | (refine AWp.condG ?_; simp)
    | (refine AWp.skip ?_; try simp)
    | (refine AWp.exit ?_; try simp)
    | refine AWp.block ?_
    | (refine aop_call' (c1) ?_; simp)
    | (refine aop_call' (cL) ?_; simp)
    | (refine aop_call' (cW) ?_; simp)
    | (refine AWp.ret (post_ret1 rfl ?_); (simp [memSize, hok]; done))
    | (refine guardI (fun hq => ?_) (fun hq => ?_) <;> (try simp at hq) <;> (try simp))
    | (refine condRunI (fun hq => ?_) (fun hq => ?_) <;> (try simp at hq) <;> (try simp))
    | (refine iteI (fun hq => ?_) (fun hq => ?_) <;> (try simp)))
theorem c_spec_MemSize (p : Pg) (ht : p.tot ≤ 1048576) : PCall Tryz.prog 27 [p.av] (.int .i64 (memSize p)) := by
  have c1 := c_l15Flags p ht
  refine pcall_of Tryz.func27 (by kernel_rfl) rfl (by simp [Tryz.f27]) ?_
  have hc : p.cells = [.lst false 2 (p.arrs.map Ar.av), .lst false 19 (p.body.map Sm.av)] := rfl
  unfold Pg.av at *
  rw [hc] at *
  (repeat refine AWp.seq ?_); refine AWp.region noP (by kernel_rfl) ?_
  try simp
  intro g
  cases hok : p.ok
  · have e : p.f0 = -1 := by unfold Pg.f0; rw [hok]; rfl
    rw [e] at c1
    repeat' (first
    | refine AWp.seq ?_
    | (refine AWp.region allP (by kernel_rfl) ?_; simp)
    | (refine AWp.condG ?_; simp)
    | (refine AWp.skip ?_; try simp)
    | (refine AWp.exit ?_; try simp)
    | refine AWp.block ?_
    | (refine aop_call' (c1) ?_; simp)
    | (refine AWp.ret (post_ret1 rfl ?_); (simp [memSize, hok]; done))
    | (refine guardI (fun hq => ?_) (fun hq => ?_) <;> (try simp at hq) <;> (try simp))
    | (refine condRunI (fun hq => ?_) (fun hq => ?_) <;> (try simp at hq) <;> (try simp))
    | (refine iteI (fun hq => ?_) (fun hq => ?_) <;> (try simp)))
  have hf := Pg.fine hok
  have hs := hf.size
  have hv := hf.vars
  have e : p.f0 = p.size + p.vars.length := by unfold Pg.f0; rw [hok]; rfl
  rw [e] at c1
  have hn0 : ¬ p.size + (p.vars.length : Int) < 0 := by omega
  have w1 : IntKind.wrap .i64 (p.size + p.vars.length + 32) = p.size + p.vars.length + 32 := wrap64 (by omega) (by omega)
  repeat' (first
    | refine AWp.seq ?_
    | (refine AWp.region allP (by kernel_rfl) ?_; simp [hn0, w1])
    | (refine AWp.condG ?_; simp [hn0, w1])
    | (refine AWp.skip ?_; try simp)
    | (refine AWp.exit ?_; try simp)
    | refine AWp.block ?_
    | (refine aop_call' (c1) ?_; simp [hn0, w1])
    | (refine AWp.ret (post_ret1 rfl ?_); (simp [memSize, hok]; done))
    | (refine guardI (fun hq => ?_) (fun hq => ?_) <;> (try simp at hq) <;> (try simp [hn0, w1]))
    | (refine condRunI (fun hq => ?_) (fun hq => ?_) <;> (try simp at hq) <;> (try simp [hn0, w1]))
    | (refine iteI (fun hq => ?_) (fun hq => ?_) <;> (try simp [hn0, w1])))
end Go.T
namespace Go.T
open Go Go.Proofs
set_option maxRecDepth 10000
set_option linter.unusedSimpArgs false
set_option linter.unusedVariables false
section
variable {H : Type} {enc : TypeId × Value → H} {W : World}
theorem o_Exp (fuel : Nat) : Opens enc Tryz.prog W 97 Ex.cells Ex.fit fuel := by
  induction fuel using Nat.strongRecOn with | ind fuel ih =>
  cases fuel with
  | zero => exact opens_zero
  | succ k =>
    have hL : Opens enc Tryz.prog W 95 (fun l : List Ex => [.lst false 4 (l.map Ex.av)]) (fun l => l.length ≤ most ∧ ∀ x ∈ l, x.fit) k := by
      cases k with
      | zero => exact opens_zero
      | succ j => exact opens_slice Tryz.underlying95 (n := 4) (elt := Ex.av) (by kernel_rfl) (by omega) (fun _ => rfl) Ex.cells_len (ih j (by omega))
    exact Opens.map (opens_struct Tryz.underlying97 (N := 4) (by kernel_rfl) (fields_cons (n := 1) rfl (by kernel_rfl) (opens_int Tryz.underlying3 _) (fields_cons (n := 1) rfl (by kernel_rfl) (opens_int Tryz.underlying3 _) (fields_cons (n := 1) rfl (by kernel_rfl) (opens_str Tryz.underlying9 _) (fields_cons (n := 1) rfl (by kernel_rfl) hL (fields_nil rfl))))))
      (fun x => Ex.mk x.1 x.2.1 x.2.2.1 x.2.2.2.1) fun x hx => ⟨(Ex.fit_mk _ _ _ _).2 ⟨hx.2.2.1, hx.2.2.2.1.1, hx.2.2.2.1.2⟩, by rw [Ex.cells_mk]; exact Les.refl _⟩
theorem o_Stmt (fuel : Nat) : Opens enc Tryz.prog W 99 Sm.cells Sm.fit fuel := by
  induction fuel using Nat.strongRecOn with | ind fuel ih =>
  cases fuel with
  | zero => exact opens_zero
  | succ k =>
    have hL : Opens enc Tryz.prog W 23 (fun l : List Sm => [.lst false 19 (l.map Sm.av)]) (fun l => l.length ≤ most ∧ ∀ x ∈ l, x.fit) k := by
      cases k with
      | zero => exact opens_zero
      | succ j => exact opens_slice Tryz.underlying23 (n := 19) (elt := Sm.av) (by kernel_rfl) (by omega) (fun _ => rfl) Sm.cells_len (ih j (by omega))
    exact Opens.map (opens_struct Tryz.underlying99 (N := 19) (by kernel_rfl) (fields_cons (n := 1) rfl (by kernel_rfl) (opens_int Tryz.underlying3 _) (fields_cons (n := 1) rfl (by kernel_rfl) (opens_str Tryz.underlying9 _) (fields_cons (n := 4) rfl (by kernel_rfl) (o_Exp k) (fields_cons (n := 4) rfl (by kernel_rfl) (o_Exp k)
      (fields_cons (n := 4) rfl (by kernel_rfl) (o_Exp k) (fields_cons (n := 4) rfl (by kernel_rfl) (o_Exp k) (fields_cons (n := 1) rfl (by kernel_rfl) hL (fields_nil rfl)))))))))
      (fun x => Sm.mk x.1 x.2.1 x.2.2.1 x.2.2.2.1 x.2.2.2.2.1 x.2.2.2.2.2.1 x.2.2.2.2.2.2.1) fun x hx => ⟨(Sm.fit_mk _ _ _ _ _ _ _).2 ⟨hx.2.1, hx.2.2.1, hx.2.2.2.1, hx.2.2.2.2.1, hx.2.2.2.2.2.1, hx.2.2.2.2.2.2.1.1, hx.2.2.2.2.2.2.1.2⟩, by rw [Sm.cells_mk]; exact Les.refl _⟩
theorem o_Arr (fuel : Nat) : Opens enc Tryz.prog W 93 Ar.cells Ar.fit fuel := by
  cases fuel with
  | zero => exact opens_zero
  | succ k =>
    exact Opens.map (opens_struct Tryz.underlying93 (N := 2) (by kernel_rfl) (fields_cons (n := 1) rfl (by kernel_rfl) (opens_str Tryz.underlying9 _) (fields_cons (n := 1) rfl (by kernel_rfl) (opens_int Tryz.underlying3 _) (fields_nil rfl))))
      (fun x => Ar.mk x.1 x.2.1) fun x hx => ⟨hx.1, Les.refl _⟩
theorem o_ArrS (fuel : Nat) : Opens enc Tryz.prog W 22 (fun l : List Ar => [.lst false 2 (l.map Ar.av)]) (fun l => l.length ≤ most ∧ ∀ x ∈ l, x.fit) fuel := by
  cases fuel with
  | zero => exact opens_zero
  | succ k => exact opens_slice Tryz.underlying22 (n := 2) (elt := Ar.av) (by kernel_rfl) (by omega) (fun _ => rfl) Ar.cells_len (o_Arr k)
theorem o_StmtS (fuel : Nat) : Opens enc Tryz.prog W 23 (fun l : List Sm => [.lst false 19 (l.map Sm.av)]) (fun l => l.length ≤ most ∧ ∀ x ∈ l, x.fit) fuel := by
  cases fuel with
  | zero => exact opens_zero
  | succ k => exact opens_slice Tryz.underlying23 (n := 19) (elt := Sm.av) (by kernel_rfl) (by omega) (fun _ => rfl) Sm.cells_len (o_Stmt k)
theorem o_Prog (fuel : Nat) : Opens enc Tryz.prog W 25 Pg.cells Pg.fit fuel := by
  cases fuel with
  | zero => exact opens_zero
  | succ k =>
    exact Opens.map (opens_struct Tryz.underlying25 (N := 2) (by kernel_rfl) (fields_cons (n := 1) rfl (by kernel_rfl) (o_ArrS k) (fields_cons (n := 1) rfl (by kernel_rfl) (o_StmtS k) (fields_nil rfl))))
      (fun x => Pg.mk x.1 x.2.1) fun x hx => ⟨⟨hx.1.1, hx.1.2, hx.2.1.1, hx.2.1.2⟩, Les.refl _⟩
end
end Go.T
namespace Go.T
open Go Go.Proofs
set_option maxRecDepth 10000
set_option linter.unusedSimpArgs false
set_option linter.unusedVariables false
end Go.T
namespace Go.T
open Go Go.Proofs
set_option maxRecDepth 10000
set_option linter.unusedSimpArgs false
set_option linter.unusedVariables false
def regsN (p : Pg) : Int := if p.ok = true then p.regs.length + 3 else 0
theorem c_impl_Regs (p : Pg) (ht : p.tot ≤ 1048576) : PCall Tryz.prog 70 [p.av] (.int .i64 (regsN p)) := by
  have c1 := c_impl_ProgOk p ht
  obtain ⟨L0, L1, L3, L2, L4⟩ := p.lens ht
  have hrl := p.regs_len
  have w1 : IntKind.wrap .i64 ((p.regs.length : Int) + 3) = p.regs.length + 3 := wrap64 (by omega) (by omega)
  have cL := fun hf => c_layOf p ht hf
  unfold Pg.lay at cL
  unfold strs at *
  refine pcall_of Tryz.func70 (by kernel_rfl) rfl (by simp [Tryz.f70]) ?_
  unfold Pg.av at *
  (repeat refine AWp.seq ?_); refine AWp.region noP (by kernel_rfl) ?_
  try simp
  intro g
  cases hok : p.ok
  · rw [hok] at c1
    repeat' (first
    | refine AWp.seq ?_
    | (refine AWp.region allP (by kernel_rfl) ?_; simp)
    | (refine AWp.condG ?_; simp)
    | (refine AWp.skip ?_; try simp)
    | (refine AWp.exit ?_; try simp)
    | refine AWp.block ?_
    | (refine aop_call' (c1) ?_; simp)
    | (refine AWp.ret (post_ret1 rfl ?_); (simp [regsN, hok]; done))
    | (refine guardI (fun hq => ?_) (fun hq => ?_) <;> (try simp at hq) <;> (try simp))
    | (refine condRunI (fun hq => ?_) (fun hq => ?_) <;> (try simp at hq) <;> (try simp))
    | (refine iteI (fun hq => ?_) (fun hq => ?_) <;> (try simp)))
  · rw [hok] at c1
    repeat' (first
    | refine AWp.seq ?_
    | (refine AWp.region allP (by kernel_rfl) ?_; simp [w1])
    | (refine AWp.condG ?_; simp [w1])
    | (refine AWp.skip ?_; try simp)
    | (refine AWp.exit ?_; try simp)
    | refine AWp.block ?_
    | (refine aop_call' (c1) ?_; simp [w1])
    | (refine aop_call' (cL (Pg.fine hok)) ?_; simp [w1])
    | (refine AWp.ret (post_ret1 rfl ?_); (simp [regsN, hok]; done))
    | (refine guardI (fun hq => ?_) (fun hq => ?_) <;> (try simp at hq) <;> (try simp [w1]))
    | (refine condRunI (fun hq => ?_) (fun hq => ?_) <;> (try simp at hq) <;> (try simp [w1]))
    | (refine iteI (fun hq => ?_) (fun hq => ?_) <;> (try simp [w1])))
theorem c_spec_Regs (p : Pg) (ht : p.tot ≤ 1048576) : PCall Tryz.prog 66 [p.av] (.int .i64 (regsN p)) := by
  have c1 := c_spec_ProgOk p ht
  obtain ⟨L0, L1, L3, L2, L4⟩ := p.lens ht
  have hrl := p.regs_len
  have w1 : IntKind.wrap .i64 ((p.regs.length : Int) + 3) = p.regs.length + 3 := wrap64 (by omega) (by omega)
  have cL := c_l15Names p ht
  unfold strs at *
  refine pcall_of Tryz.func66 (by kernel_rfl) rfl (by simp [Tryz.f66]) ?_
  unfold Pg.av at *
  (repeat refine AWp.seq ?_); refine AWp.region noP (by kernel_rfl) ?_
  try simp
  intro g
  cases hok : p.ok
  · rw [hok] at c1
    repeat' (first
    | refine AWp.seq ?_
    | (refine AWp.region allP (by kernel_rfl) ?_; simp)
    | (refine AWp.condG ?_; simp)
    | (refine AWp.skip ?_; try simp)
    | (refine AWp.exit ?_; try simp)
    | refine AWp.block ?_
    | (refine aop_call' (c1) ?_; simp)
    | (refine AWp.ret (post_ret1 rfl ?_); (simp [regsN, hok]; done))
    | (refine guardI (fun hq => ?_) (fun hq => ?_) <;> (try simp at hq) <;> (try simp))
    | (refine condRunI (fun hq => ?_) (fun hq => ?_) <;> (try simp at hq) <;> (try simp))
    | (refine iteI (fun hq => ?_) (fun hq => ?_) <;> (try simp)))
  · rw [hok] at c1
    repeat' (first
    | refine AWp.seq ?_
    | (refine AWp.region allP (by kernel_rfl) ?_; simp [w1])
    | (refine AWp.condG ?_; simp [w1])
    | (refine AWp.skip ?_; try simp)
    | (refine AWp.exit ?_; try simp)
    | refine AWp.block ?_
    | (refine aop_call' (c1) ?_; simp [w1])
    | (refine aop_call' (cL) ?_; simp [w1])
    | (refine AWp.ret (post_ret1 rfl ?_); (simp [regsN, hok]; done))
    | (refine guardI (fun hq => ?_) (fun hq => ?_) <;> (try simp at hq) <;> (try simp [w1]))
    | (refine condRunI (fun hq => ?_) (fun hq => ?_) <;> (try simp at hq) <;> (try simp [w1]))
    | (refine iteI (fun hq => ?_) (fun hq => ?_) <;> (try simp [w1])))
end Go.T
namespace Go.T
open Go Go.Proofs
set_option maxRecDepth 10000
set_option linter.unusedSimpArgs false
set_option linter.unusedVariables false
theorem memSize_le (p : Pg) : 0 ≤ memSize p ∧ memSize p ≤ 1048576 := by
  unfold memSize
  cases hok : p.ok
  · simp
  · have hf := Pg.fine hok
    have hs := hf.size
    have hv := hf.vars
    try simp
    omega
section
variable {H : Type} {enc : TypeId × Value → H} {W : World}
end
end Go.T
namespace Go.T
open Go Go.Proofs
set_option maxRecDepth 10000
set_option linter.unusedSimpArgs false
set_option linter.unusedVariables false
theorem byte_add (x : Int) (h0 : 0 ≤ x) (h1 : x ≤ 9) : IntKind.wrap .u8 (48 + x) = 48 + x := by
  unfold IntKind.wrap
  simp [IntKind.bits, IntKind.signed]
  omega
theorem bytesOf_one (n : Int) : (bytesOf [n]).size = 1 := rfl
theorem c_markText (k : Int) (h0 : 0 < k) (h1 : k ≤ 4611686018427387904) : PCall Tryz.prog 108 [.int .i64 k] (.str (markT k)) := by
  obtain ⟨n, rfl⟩ := Int.eq_ofNat_of_zero_le (show 0 ≤ k by omega)
  refine pcall_of Tryz.func108 (by kernel_rfl) rfl (by simp [Tryz.f108]) ?_
  (repeat refine AWp.seq ?_); refine AWp.region noP (by kernel_rfl) ?_
  try simp
  (repeat refine AWp.seq ?_); refine AWp.region noP (by kernel_rfl) ?_
  try simp
  (repeat refine AWp.seq ?_); refine AWp.condF (by simp; omega) ?_
  refine AWp.skip ?_
  try simp
  (repeat refine AWp.seq ?_); refine AWp.region noP (by kernel_rfl) ?_
  try simp
  (repeat refine AWp.seq ?_); refine AWp.block (AWp.rounds (fun m st => ∃ (q : Nat) (out : ByteArray), m = q ∧ q + out.size ≤ n ∧ markU n ⟨#[]⟩ = markU q out ∧ st.slots 0 = .int .i64 q ∧ st.slots 3 = .str out) n ⟨n, ⟨#[]⟩, rfl, Nat.le_refl _, rfl, by simp, by simp⟩ ?_)
  rintro R m st hR ⟨q, out, rfl, hq, he, s0, s3⟩
  (repeat refine AWp.seq ?_); refine AWp.region noP (by kernel_rfl) ?_
  simp [s0]
  by_cases hz : m = 0
  · subst hz
    (repeat refine AWp.seq ?_); refine AWp.condF (by simp) ?_
    refine AWp.exit ?_
    try simp
    have hu : markU 0 out = out := by rw [markU, dif_pos rfl]
    rw [hu] at he
    have e2 : markT (n : Int) = ⟨#[109]⟩ ++ out := by unfold markT; rw [Int.toNat_natCast, he]
    (repeat refine AWp.seq ?_); refine AWp.region noP (by kernel_rfl) ?_
    have hadd : strA .add ⟨#[109]⟩ out = some (.str (⟨#[109]⟩ ++ out)) := if_pos (show (⟨#[109]⟩ : ByteArray).size + out.size ≤ 9223372036854775807 by have : (⟨#[109]⟩ : ByteArray).size = 1 := rfl; omega)
    simp [s3, hadd]
    exact AWp.ret (post_ret1 rfl (by simp [e2]))
  · have hm : (m : Int).tmod 10 = (m : Int) % 10 := Int.tmod_eq_emod_of_nonneg (by omega)
    have hd : (m : Int).tdiv 10 = (m : Int) / 10 := Int.tdiv_eq_ediv_of_nonneg (by omega)
    have w1 : IntKind.wrap .i64 (48 + (m : Int) % 10) = 48 + (m : Int) % 10 := wrap64 (by omega) (by omega)
    have w2 := byte_add ((m : Int) % 10) (by omega) (by omega)
    have w3 : IntKind.wrap .i64 ((m : Int) / 10) = (m : Int) / 10 := wrap64 (by omega) (by omega)
    have hs : (bytesOf [48 + (m : Int) % 10]).size + out.size ≤ 9223372036854775807 := by rw [bytesOf_one]; omega
    have e3 : markU m out = markU (m / 10) (bytesOf [48 + (m : Int) % 10] ++ out) := by rw [markU, dif_neg hz]; congr 3
    have hsz : (bytesOf [48 + (m : Int) % 10] ++ out).size = 1 + out.size := by rw [ByteArray.size_append, bytesOf_one]
    rw [e3] at he
    have hadd : strA .add (bytesOf [48 + (m : Int) % 10]) out = some (.str (bytesOf [48 + (m : Int) % 10] ++ out)) := if_pos hs
    generalize hnx : bytesOf [48 + (m : Int) % 10] ++ out = nx at *
    (repeat refine AWp.seq ?_); refine AWp.condT (by simp; omega) ?_
    refine AWp.skip ?_
    try simp
    (repeat refine AWp.seq ?_); refine AWp.block ?_
    (repeat refine AWp.seq ?_); refine AWp.region noP (by kernel_rfl) ?_
    simp [s0, s3, hm, w1, w2, numsA, hadd]
    (repeat refine AWp.seq ?_); refine AWp.region noP (by kernel_rfl) ?_
    simp [s0, hd, w3]
    exact hR _ (m / 10) (by omega) ⟨m / 10, nx, rfl, by omega, he, by simp, by simp⟩
end Go.T
namespace Go.T
open Go Go.Proofs
set_option maxRecDepth 10000
set_option linter.unusedSimpArgs false
set_option linter.unusedVariables false
/-- What marking rows of these comes to. -/
def MkInt (l : List Int) : Prop := ∀ (m : Mem) (F : Nat → Prop) (v : AV) (f : Bool) (h : OwnT m F v (.lst f 1 (l.map (AV.int .i64)))) (k : Int) (h0 : 0 < k) (hb : k + (AV.cnts (l.map (AV.int .i64)) : Int) ≤ 4611686018427387904) (K : AV → Mem → Prop)
    (hK : ∀ m' (l' : List Int), (∀ b, ¬ F b → m' b = m b) → OwnT m' F v (.lst false 1 (l'.map (AV.int .i64))) → Held (l'.map (AV.int .i64)) k (k + (AV.cnts (l.map (AV.int .i64)) : Int)) → K (.int .i64 (k + (AV.cnts (l.map (AV.int .i64)) : Int))) m'), WCall Tryz.prog 77 [v, .int .i64 k] m K
theorem c_markIntS (l : List Int) : MkInt l := by
  intro m F v f h k h0 hb K hK
  refine wcall_of Tryz.func77 (by kernel_rfl) rfl (by simp [Tryz.f77]) ?_
  rcases own_row h with ⟨f', e', rfl, hnil⟩ | ⟨g, n, c, rfl, hn, rfl⟩
  · have hl : l = [] := by simpa using hnil
    subst hl
    (repeat refine AWp.seq ?_); refine AWp.region noP (by kernel_rfl) ?_
    try simp
    (repeat refine AWp.seq ?_); refine AWp.region noP (by kernel_rfl) ?_
    try simp
    (repeat refine AWp.seq ?_); refine AWp.block (AWp.rounds (fun q st => q = 0 ∧ st.slots 0 = .lst f' e' [] ∧ st.slots 1 = .int .i64 k ∧ st.slots 5 = .int .i64 0 ∧ st.mem = m) 0 ⟨rfl, by simp, by simp, by simp, by simp⟩ ?_)
    rintro R q st hR ⟨rfl, s0, s1, s5, sm⟩
    (repeat refine AWp.seq ?_); refine AWp.region noP (by kernel_rfl) ?_
    simp [s0, s5]
    (repeat refine AWp.seq ?_); refine AWp.condF (by simp) ?_
    refine AWp.exit ?_
    try simp
    (repeat refine AWp.seq ?_); refine AWp.region noP (by kernel_rfl) ?_
    simp [s1]
    refine AWp.ret (post_retW rfl ⟨_, _, View.refl _ _, ?_⟩)
    have := hK m [] (fun _ _ => rfl) (.nil _ _ _) (by simpa [AV.cnts] using Held.nil k)
    simpa [AV.cnts, sm] using this
  obtain ⟨T, G, ys, hM, hy, hx⟩ := Marking.start h
  have hlen : l.length = n := by simpa using hx
  have hcl := cnts_len (f := (AV.int .i64)) (fun x => by simp [AV.cnt]) l
  (repeat refine AWp.seq ?_); refine AWp.region noP (by kernel_rfl) ?_
  try simp
  (repeat refine AWp.seq ?_); refine AWp.region noP (by kernel_rfl) ?_
  try simp
  (repeat refine AWp.seq ?_); refine AWp.block (AWp.rounds (fun q st => ∃ (i : Nat) (ys : List AV) (ki : Int) (done : List Int), q = n - i ∧ i ≤ n ∧ done.length = i ∧ ys.length = n ∧ st.slots 0 = .own g n c ∧ st.slots 1 = .int .i64 ki ∧ st.slots 5 = .int .i64 i ∧ Held (done.map (AV.int .i64)) k ki ∧ k ≤ ki ∧ ki + (AV.cnts ((l.drop i).map (AV.int .i64)) : Int) = k + (AV.cnts (l.map (AV.int .i64)) : Int) ∧ Marking st.mem m F g T 1 c G ys ((done ++ l.drop i).map (AV.int .i64))) n ⟨0, ys, k, [], by simp, by simp, rfl, hy, by simp, by simp, by simp, .nil k, by omega, by simp, by simpa using hM⟩ ?_)
  clear hM hy ys
  rintro R q st hR ⟨i, ys, ki, done, rfl, hi, hdl, hy, s0, s1, s5, hH, hki, hcnt, hM⟩
  (repeat refine AWp.seq ?_); refine AWp.region noP (by kernel_rfl) ?_
  simp [s0, s5]
  (repeat refine AWp.seq ?_); refine AWp.cond (b := decide (i < n)) (by simp) (fun hlt => ?_) (fun hlt => ?_)
  rotate_left
  · simp at hlt
    have hin : i = n := by omega
    subst hin
    refine AWp.exit ?_
    try simp
    (repeat refine AWp.seq ?_); refine AWp.region noP (by kernel_rfl) ?_
    simp [s1]
    rw [List.drop_eq_nil_of_le (by omega)] at hcnt hM
    rw [List.append_nil] at hM
    have hke : ki = k + (AV.cnts (l.map (AV.int .i64)) : Int) := by simpa [AV.cnts] using hcnt
    subst hke
    refine AWp.ret (post_retW rfl ⟨_, _, View.refl _ _, ?_⟩)
    simp
    exact hK _ done hM.out (hM.done hy) hH
  simp at hlt
  have hil : i < l.length := by omega
  have hdr : l.drop i = l[i] :: l.drop (i + 1) := List.drop_eq_getElem_cons hil
  have hmem := List.getElem_mem hil
  have hwi : IntKind.wrap .i64 ((i : Int) + 1) = (i + 1 : Nat) := wrap64 (by omega) (by omega)
  rw [hdr] at hcnt hM
  simp only [List.map_cons, AV.cnts, AV.cnt] at hcnt
  refine AWp.skip ?_
  try simp
  (repeat refine AWp.seq ?_); refine AWp.block ?_
  have hg := hM.row
  have hx : idxA Tryz.prog st.mem 41 (.own g n c) (.int .i64 i) = some (.elt g 1 i 0) := idx_own es_41 hg hy hlt
  have hst : storeA st.mem (.elt g 1 i 0) (.int .i64 ki) = some _ := store_elt hg (by omega) rfl
  have hM2 := hM.leaf (i := i) (x := .int .i64 ki) (own_int _ _)
  rw [set_done (AV.int .i64) done _ ki _ hdl] at hM2
  (repeat refine AWp.seq ?_); refine AWp.region noP (by kernel_rfl) ?_
  simp [s0, s1, s5, hx, hst]
  have hw : IntKind.wrap .i64 (ki + 1) = ki + 1 := wrap64 (by omega) (by omega)
  (repeat refine AWp.seq ?_); refine AWp.region noP (by kernel_rfl) ?_
  simp [s1, hw]
  (repeat refine AWp.seq ?_); refine AWp.region noP (by kernel_rfl) ?_
  simp [s5, hwi]
  refine hR _ (n - (i + 1)) (by omega) ⟨i + 1, _, ki + 1, done ++ [ki], rfl, by omega, by simp [hdl], ?_, by simp [s0], by simp, by simp, ?_, by omega, by omega, by simpa using hM2⟩
  · simp [hy]
  · rw [List.map_append]
    exact hH.append (.int (.nil _))
/-- What marking rows of these comes to. -/
def MkPut (l : List Pu) : Prop := ∀ (m : Mem) (F : Nat → Prop) (v : AV) (f : Bool) (h : OwnT m F v (.lst f 2 (l.map Pu.av))) (k : Int) (h0 : 0 < k) (hb : k + (AV.cnts (l.map Pu.av) : Int) ≤ 4611686018427387904) (K : AV → Mem → Prop)
    (hK : ∀ m' (l' : List Pu), (∀ b, ¬ F b → m' b = m b) → OwnT m' F v (.lst false 2 (l'.map Pu.av)) → Held (l'.map Pu.av) k (k + (AV.cnts (l.map Pu.av) : Int)) → K (.int .i64 (k + (AV.cnts (l.map Pu.av) : Int))) m'), WCall Tryz.prog 110 [v, .int .i64 k] m K
theorem c_markPutS0 (l : List Pu) : MkPut l := by
  intro m F v f h k h0 hb K hK
  refine wcall_of Tryz.func110 (by kernel_rfl) rfl (by simp [Tryz.f110]) ?_
  rcases own_row h with ⟨f', e', rfl, hnil⟩ | ⟨g, n, c, rfl, hn, rfl⟩
  · have hl : l = [] := by simpa using hnil
    subst hl
    (repeat refine AWp.seq ?_); refine AWp.region noP (by kernel_rfl) ?_
    try simp
    (repeat refine AWp.seq ?_); refine AWp.region noP (by kernel_rfl) ?_
    try simp
    (repeat refine AWp.seq ?_); refine AWp.block (AWp.rounds (fun q st => q = 0 ∧ st.slots 0 = .lst f' e' [] ∧ st.slots 1 = .int .i64 k ∧ st.slots 5 = .int .i64 0 ∧ st.mem = m) 0 ⟨rfl, by simp, by simp, by simp, by simp⟩ ?_)
    rintro R q st hR ⟨rfl, s0, s1, s5, sm⟩
    (repeat refine AWp.seq ?_); refine AWp.region noP (by kernel_rfl) ?_
    simp [s0, s5]
    (repeat refine AWp.seq ?_); refine AWp.condF (by simp) ?_
    refine AWp.exit ?_
    try simp
    (repeat refine AWp.seq ?_); refine AWp.region noP (by kernel_rfl) ?_
    simp [s1]
    refine AWp.ret (post_retW rfl ⟨_, _, View.refl _ _, ?_⟩)
    have := hK m [] (fun _ _ => rfl) (.nil _ _ _) (by simpa [AV.cnts] using Held.nil k)
    simpa [AV.cnts, sm] using this
  obtain ⟨T, G, ys, hM, hy, hx⟩ := Marking.start h
  have hlen : l.length = n := by simpa using hx
  have hcl := cnts_len (f := Pu.av) (fun x => by simp [Pu.av, Pu.cells, AV.cnt, AV.cnts]) l
  (repeat refine AWp.seq ?_); refine AWp.region noP (by kernel_rfl) ?_
  try simp
  (repeat refine AWp.seq ?_); refine AWp.region noP (by kernel_rfl) ?_
  try simp
  (repeat refine AWp.seq ?_); refine AWp.block (AWp.rounds (fun q st => ∃ (i : Nat) (ys : List AV) (ki : Int) (done : List Pu), q = n - i ∧ i ≤ n ∧ done.length = i ∧ ys.length = n ∧ st.slots 0 = .own g n c ∧ st.slots 1 = .int .i64 ki ∧ st.slots 5 = .int .i64 i ∧ Held (done.map Pu.av) k ki ∧ k ≤ ki ∧ ki + (AV.cnts ((l.drop i).map Pu.av) : Int) = k + (AV.cnts (l.map Pu.av) : Int) ∧ Marking st.mem m F g T 2 c G ys ((done ++ l.drop i).map Pu.av)) n ⟨0, ys, k, [], by simp, by simp, rfl, hy, by simp, by simp, by simp, .nil k, by omega, by simp, by simpa using hM⟩ ?_)
  clear hM hy ys
  rintro R q st hR ⟨i, ys, ki, done, rfl, hi, hdl, hy, s0, s1, s5, hH, hki, hcnt, hM⟩
  (repeat refine AWp.seq ?_); refine AWp.region noP (by kernel_rfl) ?_
  simp [s0, s5]
  (repeat refine AWp.seq ?_); refine AWp.cond (b := decide (i < n)) (by simp) (fun hlt => ?_) (fun hlt => ?_)
  rotate_left
  · simp at hlt
    have hin : i = n := by omega
    subst hin
    refine AWp.exit ?_
    try simp
    (repeat refine AWp.seq ?_); refine AWp.region noP (by kernel_rfl) ?_
    simp [s1]
    rw [List.drop_eq_nil_of_le (by omega)] at hcnt hM
    rw [List.append_nil] at hM
    have hke : ki = k + (AV.cnts (l.map Pu.av) : Int) := by simpa [AV.cnts] using hcnt
    subst hke
    refine AWp.ret (post_retW rfl ⟨_, _, View.refl _ _, ?_⟩)
    simp
    exact hK _ done hM.out (hM.done hy) hH
  simp at hlt
  have hil : i < l.length := by omega
  have hdr : l.drop i = l[i] :: l.drop (i + 1) := List.drop_eq_getElem_cons hil
  have hmem := List.getElem_mem hil
  have hwi : IntKind.wrap .i64 ((i : Int) + 1) = (i + 1 : Nat) := wrap64 (by omega) (by omega)
  rw [hdr] at hcnt hM
  rcases hx0 : l[i] with ⟨b0, b1⟩
  rw [hx0] at hcnt hM hmem
  have hat := at_done Pu.av done (Pu.mk b0 b1) (l.drop (i + 1)) hdl
  obtain ⟨B, cs0, hok, hal, I, hback⟩ := hM.into (i := i) (by omega) (cs := [.int .i64 b0, .int .i64 b1]) (by rw [hat]; simp [Pu.av, Pu.cells])
  obtain ⟨a0, a1, rfl⟩ : ∃ a0 a1, cs0 = [a0, a1] := by
    match cs0, hal with
    | [a0, a1], _ => exact ⟨_, _, rfl⟩
  simp only [List.map_cons, AV.cnts, Pu.av, Pu.cells, AV.cnt, List.cons_append, List.nil_append] at hcnt
  simp only [List.all_cons, List.all_nil, Bool.and_eq_true, Bool.and_true] at hok
  refine AWp.skip ?_
  try simp
  (repeat refine AWp.seq ?_); refine AWp.block ?_
  have hg := I.row
  have hx : idxA Tryz.prog st.mem 81 (.own g n c) (.int .i64 i) = some (.elt g 2 i 0) := idx_own es_81 hg (by simp [hy]) hlt
  have I2 := I.leaf 0 (x := .int .i64 (ki)) (own_int _ _)
  have hst := I.store (by omega) rfl 0 (by omega) (by omega) (x := .int .i64 (ki)) rfl
  simp only [List.set_cons_zero, List.set_cons_succ] at I2 hst
  (repeat refine AWp.seq ?_); refine AWp.cutA (fun u => u.slots 0 = .own g n c ∧ u.slots 1 = .int .i64 (ki) ∧ u.slots 5 = .int .i64 i ∧ InRow u.mem st.mem g T 2 c i ys B [.int .i64 (ki), a1] [.int .i64 (ki), .int .i64 b1]) ?_ ?_
  · refine AWp.region noP (by kernel_rfl) ?_
    simp [s0, s1, s5, hx, hst]
    exact I2
  clear hg hx hst I2 I
  rintro u0 ⟨s0, s1, s5, I⟩
  have hw : IntKind.wrap .i64 (ki + 1) = ki + 1 := wrap64 (by omega) (by omega)
  (repeat refine AWp.seq ?_); refine AWp.region noP (by kernel_rfl) ?_
  simp [s1, hw]
  clear hw
  have hg := I.row
  have hx : idxA Tryz.prog u0.mem 81 (.own g n c) (.int .i64 i) = some (.elt g 2 i 0) := idx_own es_81 hg (by simp [hy]) hlt
  have I2 := I.leaf 1 (x := .int .i64 (ki + 1)) (own_int _ _)
  have hst := I.store (by omega) rfl 1 (by omega) (by omega) (x := .int .i64 (ki + 1)) rfl
  simp only [List.set_cons_zero, List.set_cons_succ] at I2 hst
  (repeat refine AWp.seq ?_); refine AWp.cutA (fun u => u.slots 0 = .own g n c ∧ u.slots 1 = .int .i64 (ki + 1) ∧ u.slots 5 = .int .i64 i ∧ InRow u.mem st.mem g T 2 c i ys B [.int .i64 (ki), .int .i64 (ki + 1)] [.int .i64 (ki), .int .i64 (ki + 1)]) ?_ ?_
  · refine AWp.region noP (by kernel_rfl) ?_
    simp [s0, s1, s5, hx, hst]
    exact I2
  clear hg hx hst I2 I
  rintro u1 ⟨s0, s1, s5, I⟩
  have hw : IntKind.wrap .i64 (ki + 1 + 1) = ki + 1 + 1 := wrap64 (by omega) (by omega)
  (repeat refine AWp.seq ?_); refine AWp.region noP (by kernel_rfl) ?_
  simp [s1, hw]
  clear hw
  have hnew : Pu.av (Pu.mk (ki) (ki + 1)) = .agg [.int .i64 (ki), .int .i64 (ki + 1)] := by simp [Pu.av, Pu.cells]
  have hM2 := hback u1.mem [.int .i64 (ki), .int .i64 (ki + 1)] [.int .i64 (ki), .int .i64 (ki + 1)] I (by simp [hok])
  rw [← hnew, set_done Pu.av done _ _ _ hdl] at hM2
  (repeat refine AWp.seq ?_); refine AWp.region noP (by kernel_rfl) ?_
  simp [s0, s1, s5, hwi]
  refine hR _ (n - (i + 1)) (by omega) ⟨i + 1, _, ki + 1 + 1, done ++ [(Pu.mk (ki) (ki + 1))], rfl, by omega, by simp [hdl], ?_, by simp [s0, s1, s5], by simp [s0, s1, s5], by simp, ?_, by omega, by omega, by simpa using hM2⟩
  · simp [hy]
  · rw [List.map_append, List.map_cons, hnew]
    exact hH.append (.agg (.int (.int (.nil _))) (.nil _))
/-- What marking rows of these comes to. -/
def MkHand (l : List Hd) : Prop := ∀ (m : Mem) (F : Nat → Prop) (v : AV) (f : Bool) (h : OwnT m F v (.lst f 6 (l.map Hd.av))) (k : Int) (h0 : 0 < k) (hb : k + (AV.cnts (l.map Hd.av) : Int) ≤ 4611686018427387904) (K : AV → Mem → Prop)
    (hK : ∀ m' (l' : List Hd), (∀ b, ¬ F b → m' b = m b) → OwnT m' F v (.lst false 6 (l'.map Hd.av)) → Held (l'.map Hd.av) k (k + (AV.cnts (l.map Hd.av) : Int)) → K (.int .i64 (k + (AV.cnts (l.map Hd.av) : Int))) m'), WCall Tryz.prog 78 [v, .int .i64 k] m K
theorem c_markHandS0 (l : List Hd) : MkHand l := by
  intro m F v f h k h0 hb K hK
  refine wcall_of Tryz.func78 (by kernel_rfl) rfl (by simp [Tryz.f78]) ?_
  rcases own_row h with ⟨f', e', rfl, hnil⟩ | ⟨g, n, c, rfl, hn, rfl⟩
  · have hl : l = [] := by simpa using hnil
    subst hl
    (repeat refine AWp.seq ?_); refine AWp.region noP (by kernel_rfl) ?_
    try simp
    (repeat refine AWp.seq ?_); refine AWp.region noP (by kernel_rfl) ?_
    try simp
    (repeat refine AWp.seq ?_); refine AWp.block (AWp.rounds (fun q st => q = 0 ∧ st.slots 0 = .lst f' e' [] ∧ st.slots 1 = .int .i64 k ∧ st.slots 5 = .int .i64 0 ∧ st.mem = m) 0 ⟨rfl, by simp, by simp, by simp, by simp⟩ ?_)
    rintro R q st hR ⟨rfl, s0, s1, s5, sm⟩
    (repeat refine AWp.seq ?_); refine AWp.region noP (by kernel_rfl) ?_
    simp [s0, s5]
    (repeat refine AWp.seq ?_); refine AWp.condF (by simp) ?_
    refine AWp.exit ?_
    try simp
    (repeat refine AWp.seq ?_); refine AWp.region noP (by kernel_rfl) ?_
    simp [s1]
    refine AWp.ret (post_retW rfl ⟨_, _, View.refl _ _, ?_⟩)
    have := hK m [] (fun _ _ => rfl) (.nil _ _ _) (by simpa [AV.cnts] using Held.nil k)
    simpa [AV.cnts, sm] using this
  obtain ⟨T, G, ys, hM, hy, hx⟩ := Marking.start h
  have hlen : l.length = n := by simpa using hx
  have hcl := cnts_len (f := Hd.av) (fun x => by cases x; simp [Hd.av, Hd.cells, ints, AV.cnt, AV.cnts]; try omega) l
  (repeat refine AWp.seq ?_); refine AWp.region noP (by kernel_rfl) ?_
  try simp
  (repeat refine AWp.seq ?_); refine AWp.region noP (by kernel_rfl) ?_
  try simp
  (repeat refine AWp.seq ?_); refine AWp.block (AWp.rounds (fun q st => ∃ (i : Nat) (ys : List AV) (ki : Int) (done : List Hd), q = n - i ∧ i ≤ n ∧ done.length = i ∧ ys.length = n ∧ st.slots 0 = .own g n c ∧ st.slots 1 = .int .i64 ki ∧ st.slots 5 = .int .i64 i ∧ Held (done.map Hd.av) k ki ∧ k ≤ ki ∧ ki + (AV.cnts ((l.drop i).map Hd.av) : Int) = k + (AV.cnts (l.map Hd.av) : Int) ∧ Marking st.mem m F g T 6 c G ys ((done ++ l.drop i).map Hd.av)) n ⟨0, ys, k, [], by simp, by simp, rfl, hy, by simp, by simp, by simp, .nil k, by omega, by simp, by simpa using hM⟩ ?_)
  clear hM hy ys
  rintro R q st hR ⟨i, ys, ki, done, rfl, hi, hdl, hy, s0, s1, s5, hH, hki, hcnt, hM⟩
  (repeat refine AWp.seq ?_); refine AWp.region noP (by kernel_rfl) ?_
  simp [s0, s5]
  (repeat refine AWp.seq ?_); refine AWp.cond (b := decide (i < n)) (by simp) (fun hlt => ?_) (fun hlt => ?_)
  rotate_left
  · simp at hlt
    have hin : i = n := by omega
    subst hin
    refine AWp.exit ?_
    try simp
    (repeat refine AWp.seq ?_); refine AWp.region noP (by kernel_rfl) ?_
    simp [s1]
    rw [List.drop_eq_nil_of_le (by omega)] at hcnt hM
    rw [List.append_nil] at hM
    have hke : ki = k + (AV.cnts (l.map Hd.av) : Int) := by simpa [AV.cnts] using hcnt
    subst hke
    refine AWp.ret (post_retW rfl ⟨_, _, View.refl _ _, ?_⟩)
    simp
    exact hK _ done hM.out (hM.done hy) hH
  simp at hlt
  have hil : i < l.length := by omega
  have hdr : l.drop i = l[i] :: l.drop (i + 1) := List.drop_eq_getElem_cons hil
  have hmem := List.getElem_mem hil
  have hwi : IntKind.wrap .i64 ((i : Int) + 1) = (i + 1 : Nat) := wrap64 (by omega) (by omega)
  rw [hdr] at hcnt hM
  rcases hx0 : l[i] with ⟨b0, b1, b2, b3, b4, b5⟩
  rw [hx0] at hcnt hM hmem
  have hat := at_done Hd.av done (Hd.mk b0 b1 b2 b3 b4 b5) (l.drop (i + 1)) hdl
  obtain ⟨B, cs0, hok, hal, I, hback⟩ := hM.into (i := i) (by omega) (cs := [.int .i64 b0, .lst false 1 (b1.map (AV.int .i64)), .lst false 1 (b2.map (AV.int .i64)), .lst false 2 (b3.map Pu.av), .bool b4, .bool b5]) (by rw [hat]; simp [Hd.av, Hd.cells, ints])
  obtain ⟨a0, a1, a2, a3, a4, a5, rfl⟩ : ∃ a0 a1 a2 a3 a4 a5, cs0 = [a0, a1, a2, a3, a4, a5] := by
    match cs0, hal with
    | [a0, a1, a2, a3, a4, a5], _ => exact ⟨_, _, _, _, _, _, rfl⟩
  simp only [List.map_cons, AV.cnts, Hd.av, Hd.cells, ints, AV.cnt, List.cons_append, List.nil_append] at hcnt
  simp only [List.all_cons, List.all_nil, Bool.and_eq_true, Bool.and_true] at hok
  refine AWp.skip ?_
  try simp
  (repeat refine AWp.seq ?_); refine AWp.block ?_
  have hg := I.row
  have hx : idxA Tryz.prog st.mem 47 (.own g n c) (.int .i64 i) = some (.elt g 6 i 0) := idx_own es_47 hg (by simp [hy]) hlt
  have I2 := I.leaf 0 (x := .int .i64 (ki)) (own_int _ _)
  have hst := I.store (by omega) rfl 0 (by omega) (by omega) (x := .int .i64 (ki)) rfl
  simp only [List.set_cons_zero, List.set_cons_succ] at I2 hst
  (repeat refine AWp.seq ?_); refine AWp.cutA (fun u => u.slots 0 = .own g n c ∧ u.slots 1 = .int .i64 (ki) ∧ u.slots 5 = .int .i64 i ∧ InRow u.mem st.mem g T 6 c i ys B [.int .i64 (ki), a1, a2, a3, a4, a5] [.int .i64 (ki), .lst false 1 (b1.map (AV.int .i64)), .lst false 1 (b2.map (AV.int .i64)), .lst false 2 (b3.map Pu.av), .bool b4, .bool b5]) ?_ ?_
  · refine AWp.region noP (by kernel_rfl) ?_
    simp [s0, s1, s5, hx, hst]
    exact I2
  clear hg hx hst I2 I
  rintro u0 ⟨s0, s1, s5, I⟩
  have hw : IntKind.wrap .i64 (ki + 1) = ki + 1 := wrap64 (by omega) (by omega)
  (repeat refine AWp.seq ?_); refine AWp.region noP (by kernel_rfl) ?_
  simp [s1, hw]
  clear hw
  have hg := I.row
  have hx : idxA Tryz.prog u0.mem 47 (.own g n c) (.int .i64 i) = some (.elt g 6 i 0) := idx_own es_47 hg (by simp [hy]) hlt
  obtain ⟨A, x, hxo, hown, hupd⟩ := I.call (o := 1) (by simp)
  obtain rfl : .lst false 1 (b1.map (AV.int .i64)) = x := Option.some.inj hxo
  simp only [List.getElem_cons_succ, List.getElem_cons_zero] at hown hupd
  (repeat refine AWp.seq ?_); refine AWp.cutA (fun u => ∃ l1 : List Int, u.slots 0 = .own g n c ∧ u.slots 1 = .int .i64 (ki + 1 + (AV.cnts (b1.map (AV.int .i64)) : Int)) ∧ u.slots 5 = .int .i64 i ∧ Held (l1.map (AV.int .i64)) (ki + 1) (ki + 1 + (AV.cnts (b1.map (AV.int .i64)) : Int)) ∧ InRow u.mem st.mem g T 6 c i ys B [.int .i64 (ki), a1, a2, a3, a4, a5] [.int .i64 (ki), .lst false 1 (l1.map (AV.int .i64)), .lst false 1 (b2.map (AV.int .i64)), .lst false 2 (b3.map Pu.av), .bool b4, .bool b5]) ?_ ?_
  · refine AWp.region noP (by kernel_rfl) ?_
    simp [s0, s1, s5, hx, hg, hy, hlt]
    refine aop_wcall _ _ _ _ _ _ _ _ rfl (eval_func _ _) ?_
    refine c_markIntS _ _ _ _ _ hown (ki + 1) (by omega) (by omega) _ fun m' l' hout ho hh => ?_
    simp [s0, s1, s5]
    have I2 := hupd m' _ hout ho
    simp only [List.set_cons_zero, List.set_cons_succ] at I2
    exact ⟨l', hh, I2⟩
  clear hg hx I hupd hown hxo
  rintro u1 ⟨l1, s0, s1, s5, hh1, I⟩
  have hg := I.row
  have hx : idxA Tryz.prog u1.mem 47 (.own g n c) (.int .i64 i) = some (.elt g 6 i 0) := idx_own es_47 hg (by simp [hy]) hlt
  obtain ⟨A, x, hxo, hown, hupd⟩ := I.call (o := 2) (by simp)
  obtain rfl : .lst false 1 (b2.map (AV.int .i64)) = x := Option.some.inj hxo
  simp only [List.getElem_cons_succ, List.getElem_cons_zero] at hown hupd
  (repeat refine AWp.seq ?_); refine AWp.cutA (fun u => ∃ l2 : List Int, u.slots 0 = .own g n c ∧ u.slots 1 = .int .i64 (ki + 1 + (AV.cnts (b1.map (AV.int .i64)) : Int) + (AV.cnts (b2.map (AV.int .i64)) : Int)) ∧ u.slots 5 = .int .i64 i ∧ Held (l2.map (AV.int .i64)) (ki + 1 + (AV.cnts (b1.map (AV.int .i64)) : Int)) (ki + 1 + (AV.cnts (b1.map (AV.int .i64)) : Int) + (AV.cnts (b2.map (AV.int .i64)) : Int)) ∧ InRow u.mem st.mem g T 6 c i ys B [.int .i64 (ki), a1, a2, a3, a4, a5] [.int .i64 (ki), .lst false 1 (l1.map (AV.int .i64)), .lst false 1 (l2.map (AV.int .i64)), .lst false 2 (b3.map Pu.av), .bool b4, .bool b5]) ?_ ?_
  · refine AWp.region noP (by kernel_rfl) ?_
    simp [s0, s1, s5, hx, hg, hy, hlt]
    refine aop_wcall _ _ _ _ _ _ _ _ rfl (eval_func _ _) ?_
    refine c_markIntS _ _ _ _ _ hown (ki + 1 + (AV.cnts (b1.map (AV.int .i64)) : Int)) (by omega) (by omega) _ fun m' l' hout ho hh => ?_
    simp [s0, s1, s5]
    have I2 := hupd m' _ hout ho
    simp only [List.set_cons_zero, List.set_cons_succ] at I2
    exact ⟨l', hh, I2⟩
  clear hg hx I hupd hown hxo
  rintro u2 ⟨l2, s0, s1, s5, hh2, I⟩
  have hg := I.row
  have hx : idxA Tryz.prog u2.mem 47 (.own g n c) (.int .i64 i) = some (.elt g 6 i 0) := idx_own es_47 hg (by simp [hy]) hlt
  obtain ⟨A, x, hxo, hown, hupd⟩ := I.call (o := 3) (by simp)
  obtain rfl : .lst false 2 (b3.map Pu.av) = x := Option.some.inj hxo
  simp only [List.getElem_cons_succ, List.getElem_cons_zero] at hown hupd
  (repeat refine AWp.seq ?_); refine AWp.cutA (fun u => ∃ l3 : List Pu, u.slots 0 = .own g n c ∧ u.slots 1 = .int .i64 (ki + 1 + (AV.cnts (b1.map (AV.int .i64)) : Int) + (AV.cnts (b2.map (AV.int .i64)) : Int) + (AV.cnts (b3.map Pu.av) : Int)) ∧ u.slots 5 = .int .i64 i ∧ Held (l3.map Pu.av) (ki + 1 + (AV.cnts (b1.map (AV.int .i64)) : Int) + (AV.cnts (b2.map (AV.int .i64)) : Int)) (ki + 1 + (AV.cnts (b1.map (AV.int .i64)) : Int) + (AV.cnts (b2.map (AV.int .i64)) : Int) + (AV.cnts (b3.map Pu.av) : Int)) ∧ InRow u.mem st.mem g T 6 c i ys B [.int .i64 (ki), a1, a2, a3, a4, a5] [.int .i64 (ki), .lst false 1 (l1.map (AV.int .i64)), .lst false 1 (l2.map (AV.int .i64)), .lst false 2 (l3.map Pu.av), .bool b4, .bool b5]) ?_ ?_
  · refine AWp.region noP (by kernel_rfl) ?_
    simp [s0, s1, s5, hx, hg, hy, hlt]
    refine aop_wcall _ _ _ _ _ _ _ _ rfl (eval_func _ _) ?_
    refine c_markPutS0 _ _ _ _ _ hown (ki + 1 + (AV.cnts (b1.map (AV.int .i64)) : Int) + (AV.cnts (b2.map (AV.int .i64)) : Int)) (by omega) (by omega) _ fun m' l' hout ho hh => ?_
    simp [s0, s1, s5]
    have I2 := hupd m' _ hout ho
    simp only [List.set_cons_zero, List.set_cons_succ] at I2
    exact ⟨l', hh, I2⟩
  clear hg hx I hupd hown hxo
  rintro u3 ⟨l3, s0, s1, s5, hh3, I⟩
  have hg := I.row
  have hx : idxA Tryz.prog u3.mem 47 (.own g n c) (.int .i64 i) = some (.elt g 6 i 0) := idx_own es_47 hg (by simp [hy]) hlt
  have I2 := I.leaf 4 (x := .bool (decide ((ki + 1 + (AV.cnts (b1.map (AV.int .i64)) : Int) + (AV.cnts (b2.map (AV.int .i64)) : Int) + (AV.cnts (b3.map Pu.av) : Int)).tmod 3 = 0))) (own_bool _)
  have hst := I.store (by omega) rfl 4 (by omega) (by omega) (x := .bool (decide ((ki + 1 + (AV.cnts (b1.map (AV.int .i64)) : Int) + (AV.cnts (b2.map (AV.int .i64)) : Int) + (AV.cnts (b3.map Pu.av) : Int)).tmod 3 = 0))) rfl
  simp only [List.set_cons_zero, List.set_cons_succ] at I2 hst
  (repeat refine AWp.seq ?_); refine AWp.cutA (fun u => u.slots 0 = .own g n c ∧ u.slots 1 = .int .i64 (ki + 1 + (AV.cnts (b1.map (AV.int .i64)) : Int) + (AV.cnts (b2.map (AV.int .i64)) : Int) + (AV.cnts (b3.map Pu.av) : Int)) ∧ u.slots 5 = .int .i64 i ∧ InRow u.mem st.mem g T 6 c i ys B [.int .i64 (ki), a1, a2, a3, .bool (decide ((ki + 1 + (AV.cnts (b1.map (AV.int .i64)) : Int) + (AV.cnts (b2.map (AV.int .i64)) : Int) + (AV.cnts (b3.map Pu.av) : Int)).tmod 3 = 0)), a5] [.int .i64 (ki), .lst false 1 (l1.map (AV.int .i64)), .lst false 1 (l2.map (AV.int .i64)), .lst false 2 (l3.map Pu.av), .bool (decide ((ki + 1 + (AV.cnts (b1.map (AV.int .i64)) : Int) + (AV.cnts (b2.map (AV.int .i64)) : Int) + (AV.cnts (b3.map Pu.av) : Int)).tmod 3 = 0)), .bool b5]) ?_ ?_
  · refine AWp.region noP (by kernel_rfl) ?_
    simp [s0, s1, s5, hx, hst]
    exact I2
  clear hg hx hst I2 I
  rintro u4 ⟨s0, s1, s5, I⟩
  have hw : IntKind.wrap .i64 (ki + 1 + (AV.cnts (b1.map (AV.int .i64)) : Int) + (AV.cnts (b2.map (AV.int .i64)) : Int) + (AV.cnts (b3.map Pu.av) : Int) + 1) = ki + 1 + (AV.cnts (b1.map (AV.int .i64)) : Int) + (AV.cnts (b2.map (AV.int .i64)) : Int) + (AV.cnts (b3.map Pu.av) : Int) + 1 := wrap64 (by omega) (by omega)
  (repeat refine AWp.seq ?_); refine AWp.region noP (by kernel_rfl) ?_
  simp [s1, hw]
  clear hw
  have hg := I.row
  have hx : idxA Tryz.prog u4.mem 47 (.own g n c) (.int .i64 i) = some (.elt g 6 i 0) := idx_own es_47 hg (by simp [hy]) hlt
  have I2 := I.leaf 5 (x := .bool (decide ((ki + 1 + (AV.cnts (b1.map (AV.int .i64)) : Int) + (AV.cnts (b2.map (AV.int .i64)) : Int) + (AV.cnts (b3.map Pu.av) : Int) + 1).tmod 3 = 0))) (own_bool _)
  have hst := I.store (by omega) rfl 5 (by omega) (by omega) (x := .bool (decide ((ki + 1 + (AV.cnts (b1.map (AV.int .i64)) : Int) + (AV.cnts (b2.map (AV.int .i64)) : Int) + (AV.cnts (b3.map Pu.av) : Int) + 1).tmod 3 = 0))) rfl
  simp only [List.set_cons_zero, List.set_cons_succ] at I2 hst
  (repeat refine AWp.seq ?_); refine AWp.cutA (fun u => u.slots 0 = .own g n c ∧ u.slots 1 = .int .i64 (ki + 1 + (AV.cnts (b1.map (AV.int .i64)) : Int) + (AV.cnts (b2.map (AV.int .i64)) : Int) + (AV.cnts (b3.map Pu.av) : Int) + 1) ∧ u.slots 5 = .int .i64 i ∧ InRow u.mem st.mem g T 6 c i ys B [.int .i64 (ki), a1, a2, a3, .bool (decide ((ki + 1 + (AV.cnts (b1.map (AV.int .i64)) : Int) + (AV.cnts (b2.map (AV.int .i64)) : Int) + (AV.cnts (b3.map Pu.av) : Int)).tmod 3 = 0)), .bool (decide ((ki + 1 + (AV.cnts (b1.map (AV.int .i64)) : Int) + (AV.cnts (b2.map (AV.int .i64)) : Int) + (AV.cnts (b3.map Pu.av) : Int) + 1).tmod 3 = 0))] [.int .i64 (ki), .lst false 1 (l1.map (AV.int .i64)), .lst false 1 (l2.map (AV.int .i64)), .lst false 2 (l3.map Pu.av), .bool (decide ((ki + 1 + (AV.cnts (b1.map (AV.int .i64)) : Int) + (AV.cnts (b2.map (AV.int .i64)) : Int) + (AV.cnts (b3.map Pu.av) : Int)).tmod 3 = 0)), .bool (decide ((ki + 1 + (AV.cnts (b1.map (AV.int .i64)) : Int) + (AV.cnts (b2.map (AV.int .i64)) : Int) + (AV.cnts (b3.map Pu.av) : Int) + 1).tmod 3 = 0))]) ?_ ?_
  · refine AWp.region noP (by kernel_rfl) ?_
    simp [s0, s1, s5, hx, hst]
    exact I2
  clear hg hx hst I2 I
  rintro u5 ⟨s0, s1, s5, I⟩
  have hw : IntKind.wrap .i64 (ki + 1 + (AV.cnts (b1.map (AV.int .i64)) : Int) + (AV.cnts (b2.map (AV.int .i64)) : Int) + (AV.cnts (b3.map Pu.av) : Int) + 1 + 1) = ki + 1 + (AV.cnts (b1.map (AV.int .i64)) : Int) + (AV.cnts (b2.map (AV.int .i64)) : Int) + (AV.cnts (b3.map Pu.av) : Int) + 1 + 1 := wrap64 (by omega) (by omega)
  (repeat refine AWp.seq ?_); refine AWp.region noP (by kernel_rfl) ?_
  simp [s1, hw]
  clear hw
  have hnew : Hd.av (Hd.mk (ki) l1 l2 l3 (decide ((ki + 1 + (AV.cnts (b1.map (AV.int .i64)) : Int) + (AV.cnts (b2.map (AV.int .i64)) : Int) + (AV.cnts (b3.map Pu.av) : Int)).tmod 3 = 0)) (decide ((ki + 1 + (AV.cnts (b1.map (AV.int .i64)) : Int) + (AV.cnts (b2.map (AV.int .i64)) : Int) + (AV.cnts (b3.map Pu.av) : Int) + 1).tmod 3 = 0))) = .agg [.int .i64 (ki), .lst false 1 (l1.map (AV.int .i64)), .lst false 1 (l2.map (AV.int .i64)), .lst false 2 (l3.map Pu.av), .bool (decide ((ki + 1 + (AV.cnts (b1.map (AV.int .i64)) : Int) + (AV.cnts (b2.map (AV.int .i64)) : Int) + (AV.cnts (b3.map Pu.av) : Int)).tmod 3 = 0)), .bool (decide ((ki + 1 + (AV.cnts (b1.map (AV.int .i64)) : Int) + (AV.cnts (b2.map (AV.int .i64)) : Int) + (AV.cnts (b3.map Pu.av) : Int) + 1).tmod 3 = 0))] := by simp [Hd.av, Hd.cells, ints]
  have hM2 := hback u5.mem [.int .i64 (ki), a1, a2, a3, .bool (decide ((ki + 1 + (AV.cnts (b1.map (AV.int .i64)) : Int) + (AV.cnts (b2.map (AV.int .i64)) : Int) + (AV.cnts (b3.map Pu.av) : Int)).tmod 3 = 0)), .bool (decide ((ki + 1 + (AV.cnts (b1.map (AV.int .i64)) : Int) + (AV.cnts (b2.map (AV.int .i64)) : Int) + (AV.cnts (b3.map Pu.av) : Int) + 1).tmod 3 = 0))] [.int .i64 (ki), .lst false 1 (l1.map (AV.int .i64)), .lst false 1 (l2.map (AV.int .i64)), .lst false 2 (l3.map Pu.av), .bool (decide ((ki + 1 + (AV.cnts (b1.map (AV.int .i64)) : Int) + (AV.cnts (b2.map (AV.int .i64)) : Int) + (AV.cnts (b3.map Pu.av) : Int)).tmod 3 = 0)), .bool (decide ((ki + 1 + (AV.cnts (b1.map (AV.int .i64)) : Int) + (AV.cnts (b2.map (AV.int .i64)) : Int) + (AV.cnts (b3.map Pu.av) : Int) + 1).tmod 3 = 0))] I (by simp [hok])
  rw [← hnew, set_done Hd.av done _ _ _ hdl] at hM2
  (repeat refine AWp.seq ?_); refine AWp.region noP (by kernel_rfl) ?_
  simp [s0, s1, s5, hwi]
  refine hR _ (n - (i + 1)) (by omega) ⟨i + 1, _, ki + 1 + (AV.cnts (b1.map (AV.int .i64)) : Int) + (AV.cnts (b2.map (AV.int .i64)) : Int) + (AV.cnts (b3.map Pu.av) : Int) + 1 + 1, done ++ [(Hd.mk (ki) l1 l2 l3 (decide ((ki + 1 + (AV.cnts (b1.map (AV.int .i64)) : Int) + (AV.cnts (b2.map (AV.int .i64)) : Int) + (AV.cnts (b3.map Pu.av) : Int)).tmod 3 = 0)) (decide ((ki + 1 + (AV.cnts (b1.map (AV.int .i64)) : Int) + (AV.cnts (b2.map (AV.int .i64)) : Int) + (AV.cnts (b3.map Pu.av) : Int) + 1).tmod 3 = 0)))], rfl, by omega, by simp [hdl], ?_, by simp [s0, s1, s5], by simp [s0, s1, s5], by simp, ?_, by omega, by omega, by simpa using hM2⟩
  · simp [hy]
  · rw [List.map_append, List.map_cons, hnew]
    exact hH.append (.agg (.int (.lst hh1 (.lst hh2 (.lst hh3 (.bool (.bool (.nil _))))))) (.nil _))
def Ex.parts : Ex → List Ex
  | .mk _ _ _ l => l
/-- What marking rows of these comes to. -/
def MkExp (l : List Ex) : Prop := ∀ (m : Mem) (F : Nat → Prop) (v : AV) (f : Bool) (h : OwnT m F v (.lst f 4 (l.map Ex.av))) (k : Int) (h0 : 0 < k) (hb : k + (AV.cnts (l.map Ex.av) : Int) ≤ 4611686018427387904) (K : AV → Mem → Prop)
    (hK : ∀ m' (l' : List Ex), (∀ b, ¬ F b → m' b = m b) → OwnT m' F v (.lst false 4 (l'.map Ex.av)) → Held (l'.map Ex.av) k (k + (AV.cnts (l.map Ex.av) : Int)) → K (.int .i64 (k + (AV.cnts (l.map Ex.av) : Int))) m'), WCall Tryz.prog 109 [v, .int .i64 k] m K
theorem c_markExpS0 (l : List Ex) (hr : ∀ x ∈ l, MkExp x.parts) : MkExp l := by
  intro m F v f h k h0 hb K hK
  refine wcall_of Tryz.func109 (by kernel_rfl) rfl (by simp [Tryz.f109]) ?_
  rcases own_row h with ⟨f', e', rfl, hnil⟩ | ⟨g, n, c, rfl, hn, rfl⟩
  · have hl : l = [] := by simpa using hnil
    subst hl
    (repeat refine AWp.seq ?_); refine AWp.region noP (by kernel_rfl) ?_
    try simp
    (repeat refine AWp.seq ?_); refine AWp.region noP (by kernel_rfl) ?_
    try simp
    (repeat refine AWp.seq ?_); refine AWp.block (AWp.rounds (fun q st => q = 0 ∧ st.slots 0 = .lst f' e' [] ∧ st.slots 1 = .int .i64 k ∧ st.slots 5 = .int .i64 0 ∧ st.mem = m) 0 ⟨rfl, by simp, by simp, by simp, by simp⟩ ?_)
    rintro R q st hR ⟨rfl, s0, s1, s5, sm⟩
    (repeat refine AWp.seq ?_); refine AWp.region noP (by kernel_rfl) ?_
    simp [s0, s5]
    (repeat refine AWp.seq ?_); refine AWp.condF (by simp) ?_
    refine AWp.exit ?_
    try simp
    (repeat refine AWp.seq ?_); refine AWp.region noP (by kernel_rfl) ?_
    simp [s1]
    refine AWp.ret (post_retW rfl ⟨_, _, View.refl _ _, ?_⟩)
    have := hK m [] (fun _ _ => rfl) (.nil _ _ _) (by simpa [AV.cnts] using Held.nil k)
    simpa [AV.cnts, sm] using this
  obtain ⟨T, G, ys, hM, hy, hx⟩ := Marking.start h
  have hlen : l.length = n := by simpa using hx
  have hcl := cnts_len (f := Ex.av) (fun x => by cases x; simp [Ex.av, Ex.cells_mk, AV.cnt, AV.cnts]; try omega) l
  (repeat refine AWp.seq ?_); refine AWp.region noP (by kernel_rfl) ?_
  try simp
  (repeat refine AWp.seq ?_); refine AWp.region noP (by kernel_rfl) ?_
  try simp
  (repeat refine AWp.seq ?_); refine AWp.block (AWp.rounds (fun q st => ∃ (i : Nat) (ys : List AV) (ki : Int) (done : List Ex), q = n - i ∧ i ≤ n ∧ done.length = i ∧ ys.length = n ∧ st.slots 0 = .own g n c ∧ st.slots 1 = .int .i64 ki ∧ st.slots 5 = .int .i64 i ∧ Held (done.map Ex.av) k ki ∧ k ≤ ki ∧ ki + (AV.cnts ((l.drop i).map Ex.av) : Int) = k + (AV.cnts (l.map Ex.av) : Int) ∧ Marking st.mem m F g T 4 c G ys ((done ++ l.drop i).map Ex.av)) n ⟨0, ys, k, [], by simp, by simp, rfl, hy, by simp, by simp, by simp, .nil k, by omega, by simp, by simpa using hM⟩ ?_)
  clear hM hy ys
  rintro R q st hR ⟨i, ys, ki, done, rfl, hi, hdl, hy, s0, s1, s5, hH, hki, hcnt, hM⟩
  (repeat refine AWp.seq ?_); refine AWp.region noP (by kernel_rfl) ?_
  simp [s0, s5]
  (repeat refine AWp.seq ?_); refine AWp.cond (b := decide (i < n)) (by simp) (fun hlt => ?_) (fun hlt => ?_)
  rotate_left
  · simp at hlt
    have hin : i = n := by omega
    subst hin
    refine AWp.exit ?_
    try simp
    (repeat refine AWp.seq ?_); refine AWp.region noP (by kernel_rfl) ?_
    simp [s1]
    rw [List.drop_eq_nil_of_le (by omega)] at hcnt hM
    rw [List.append_nil] at hM
    have hke : ki = k + (AV.cnts (l.map Ex.av) : Int) := by simpa [AV.cnts] using hcnt
    subst hke
    refine AWp.ret (post_retW rfl ⟨_, _, View.refl _ _, ?_⟩)
    simp
    exact hK _ done hM.out (hM.done hy) hH
  simp at hlt
  have hil : i < l.length := by omega
  have hdr : l.drop i = l[i] :: l.drop (i + 1) := List.drop_eq_getElem_cons hil
  have hmem := List.getElem_mem hil
  have hwi : IntKind.wrap .i64 ((i : Int) + 1) = (i + 1 : Nat) := wrap64 (by omega) (by omega)
  rw [hdr] at hcnt hM
  rcases hx0 : l[i] with ⟨b0, b1, b2, b3⟩
  rw [hx0] at hcnt hM hmem
  have hat := at_done Ex.av done (Ex.mk b0 b1 b2 b3) (l.drop (i + 1)) hdl
  obtain ⟨B, cs0, hok, hal, I, hback⟩ := hM.into (i := i) (by omega) (cs := [.int .i64 b0, .int .i64 b1, .str b2, .lst false 4 (b3.map Ex.av)]) (by rw [hat]; simp [Ex.av, Ex.cells_mk])
  obtain ⟨a0, a1, a2, a3, rfl⟩ : ∃ a0 a1 a2 a3, cs0 = [a0, a1, a2, a3] := by
    match cs0, hal with
    | [a0, a1, a2, a3], _ => exact ⟨_, _, _, _, rfl⟩
  simp only [List.map_cons, AV.cnts, Ex.av, Ex.cells_mk, AV.cnt, List.cons_append, List.nil_append] at hcnt
  simp only [List.all_cons, List.all_nil, Bool.and_eq_true, Bool.and_true] at hok
  refine AWp.skip ?_
  try simp
  (repeat refine AWp.seq ?_); refine AWp.block ?_
  have hg := I.row
  have hx : idxA Tryz.prog st.mem 106 (.own g n c) (.int .i64 i) = some (.elt g 4 i 0) := idx_own es_106 hg (by simp [hy]) hlt
  have I2 := I.leaf 0 (x := .int .i64 (ki)) (own_int _ _)
  have hst := I.store (by omega) rfl 0 (by omega) (by omega) (x := .int .i64 (ki)) rfl
  simp only [List.set_cons_zero, List.set_cons_succ] at I2 hst
  (repeat refine AWp.seq ?_); refine AWp.cutA (fun u => u.slots 0 = .own g n c ∧ u.slots 1 = .int .i64 (ki) ∧ u.slots 5 = .int .i64 i ∧ InRow u.mem st.mem g T 4 c i ys B [.int .i64 (ki), a1, a2, a3] [.int .i64 (ki), .int .i64 b1, .str b2, .lst false 4 (b3.map Ex.av)]) ?_ ?_
  · refine AWp.region noP (by kernel_rfl) ?_
    simp [s0, s1, s5, hx, hst]
    exact I2
  clear hg hx hst I2 I
  rintro u0 ⟨s0, s1, s5, I⟩
  have hw : IntKind.wrap .i64 (ki + 1) = ki + 1 := wrap64 (by omega) (by omega)
  (repeat refine AWp.seq ?_); refine AWp.region noP (by kernel_rfl) ?_
  simp [s1, hw]
  clear hw
  have hg := I.row
  have hx : idxA Tryz.prog u0.mem 106 (.own g n c) (.int .i64 i) = some (.elt g 4 i 0) := idx_own es_106 hg (by simp [hy]) hlt
  have I2 := I.leaf 1 (x := .int .i64 (ki + 1)) (own_int _ _)
  have hst := I.store (by omega) rfl 1 (by omega) (by omega) (x := .int .i64 (ki + 1)) rfl
  simp only [List.set_cons_zero, List.set_cons_succ] at I2 hst
  (repeat refine AWp.seq ?_); refine AWp.cutA (fun u => u.slots 0 = .own g n c ∧ u.slots 1 = .int .i64 (ki + 1) ∧ u.slots 5 = .int .i64 i ∧ InRow u.mem st.mem g T 4 c i ys B [.int .i64 (ki), .int .i64 (ki + 1), a2, a3] [.int .i64 (ki), .int .i64 (ki + 1), .str b2, .lst false 4 (b3.map Ex.av)]) ?_ ?_
  · refine AWp.region noP (by kernel_rfl) ?_
    simp [s0, s1, s5, hx, hst]
    exact I2
  clear hg hx hst I2 I
  rintro u1 ⟨s0, s1, s5, I⟩
  have hw : IntKind.wrap .i64 (ki + 1 + 1) = ki + 1 + 1 := wrap64 (by omega) (by omega)
  (repeat refine AWp.seq ?_); refine AWp.region noP (by kernel_rfl) ?_
  simp [s1, hw]
  clear hw
  have hg := I.row
  have hx : idxA Tryz.prog u1.mem 106 (.own g n c) (.int .i64 i) = some (.elt g 4 i 0) := idx_own es_106 hg (by simp [hy]) hlt
  have I2 := I.leaf 2 (x := .str (markT (ki + 1 + 1))) (own_str _)
  have hst := I.store (by omega) rfl 2 (by omega) (by omega) (x := .str (markT (ki + 1 + 1))) rfl
  simp only [List.set_cons_zero, List.set_cons_succ] at I2 hst
  (repeat refine AWp.seq ?_); refine AWp.cutA (fun u => u.slots 0 = .own g n c ∧ u.slots 1 = .int .i64 (ki + 1 + 1) ∧ u.slots 5 = .int .i64 i ∧ InRow u.mem st.mem g T 4 c i ys B [.int .i64 (ki), .int .i64 (ki + 1), .str (markT (ki + 1 + 1)), a3] [.int .i64 (ki), .int .i64 (ki + 1), .str (markT (ki + 1 + 1)), .lst false 4 (b3.map Ex.av)]) ?_ ?_
  · refine AWp.region noP (by kernel_rfl) ?_
    simp [s0, s1, s5, hx, hst]
    refine aop_call' (c_markText (ki + 1 + 1) (by omega) (by omega)) ?_
    simp [s0, s1, s5, hx, hst]
    exact I2
  clear hg hx hst I2 I
  rintro u2 ⟨s0, s1, s5, I⟩
  have hw : IntKind.wrap .i64 (ki + 1 + 1 + 1) = ki + 1 + 1 + 1 := wrap64 (by omega) (by omega)
  (repeat refine AWp.seq ?_); refine AWp.region noP (by kernel_rfl) ?_
  simp [s1, hw]
  clear hw
  have hg := I.row
  have hx : idxA Tryz.prog u2.mem 106 (.own g n c) (.int .i64 i) = some (.elt g 4 i 0) := idx_own es_106 hg (by simp [hy]) hlt
  obtain ⟨A, x, hxo, hown, hupd⟩ := I.call (o := 3) (by simp)
  obtain rfl : .lst false 4 (b3.map Ex.av) = x := Option.some.inj hxo
  simp only [List.getElem_cons_succ, List.getElem_cons_zero] at hown hupd
  (repeat refine AWp.seq ?_); refine AWp.region noP (by kernel_rfl) ?_
  simp [s0, s1, s5, hx, hg, hy, hlt]
  refine aop_wcall _ _ _ _ _ _ _ _ rfl (eval_func _ _) ?_
  refine (show MkExp b3 from hr _ hmem) _ _ _ _ hown (ki + 1 + 1 + 1) (by omega) (by omega) _ fun m' l3 hout ho hh3 => ?_
  simp [s0, s1, s5]
  have I2 := hupd m' _ hout ho
  simp only [List.set_cons_zero, List.set_cons_succ] at I2
  clear hg hx I hupd hown hxo
  have I := I2
  have hnew : Ex.av (Ex.mk (ki) (ki + 1) (markT (ki + 1 + 1)) l3) = .agg [.int .i64 (ki), .int .i64 (ki + 1), .str (markT (ki + 1 + 1)), .lst false 4 (l3.map Ex.av)] := by simp [Ex.av, Ex.cells_mk]
  have hM2 := hback m' [.int .i64 (ki), .int .i64 (ki + 1), .str (markT (ki + 1 + 1)), a3] [.int .i64 (ki), .int .i64 (ki + 1), .str (markT (ki + 1 + 1)), .lst false 4 (l3.map Ex.av)] I (by simp [hok])
  rw [← hnew, set_done Ex.av done _ _ _ hdl] at hM2
  (repeat refine AWp.seq ?_); refine AWp.region noP (by kernel_rfl) ?_
  simp [s0, s1, s5, hwi]
  refine hR _ (n - (i + 1)) (by omega) ⟨i + 1, _, ki + 1 + 1 + 1 + (AV.cnts (b3.map Ex.av) : Int), done ++ [(Ex.mk (ki) (ki + 1) (markT (ki + 1 + 1)) l3)], rfl, by omega, by simp [hdl], ?_, by simp [s0, s1, s5], by simp [s0, s1, s5], by simp, ?_, by omega, by omega, by simpa using hM2⟩
  · simp [hy]
  · rw [List.map_append, List.map_cons, hnew]
    exact hH.append (.agg (.int (.int (.str (.lst hh3 (.nil _))))) (.nil _))
theorem mk_exp (e : Ex) : MkExp e.parts := by
  induction e using Ex.ind with | h k n s l h => exact c_markExpS0 l h
theorem c_markExpS (l : List Ex) : MkExp l := mk_exp (Ex.mk 0 0 ⟨#[]⟩ l)
/-- What marking rows of these comes to. -/
def MkArr (l : List Ar) : Prop := ∀ (m : Mem) (F : Nat → Prop) (v : AV) (f : Bool) (h : OwnT m F v (.lst f 2 (l.map Ar.av))) (k : Int) (h0 : 0 < k) (hb : k + (AV.cnts (l.map Ar.av) : Int) ≤ 4611686018427387904) (K : AV → Mem → Prop)
    (hK : ∀ m' (l' : List Ar), (∀ b, ¬ F b → m' b = m b) → OwnT m' F v (.lst false 2 (l'.map Ar.av)) → Held (l'.map Ar.av) k (k + (AV.cnts (l.map Ar.av) : Int)) → K (.int .i64 (k + (AV.cnts (l.map Ar.av) : Int))) m'), WCall Tryz.prog 75 [v, .int .i64 k] m K
theorem c_markArrS0 (l : List Ar) : MkArr l := by
  intro m F v f h k h0 hb K hK
  refine wcall_of Tryz.func75 (by kernel_rfl) rfl (by simp [Tryz.f75]) ?_
  rcases own_row h with ⟨f', e', rfl, hnil⟩ | ⟨g, n, c, rfl, hn, rfl⟩
  · have hl : l = [] := by simpa using hnil
    subst hl
    (repeat refine AWp.seq ?_); refine AWp.region noP (by kernel_rfl) ?_
    try simp
    (repeat refine AWp.seq ?_); refine AWp.region noP (by kernel_rfl) ?_
    try simp
    (repeat refine AWp.seq ?_); refine AWp.block (AWp.rounds (fun q st => q = 0 ∧ st.slots 0 = .lst f' e' [] ∧ st.slots 1 = .int .i64 k ∧ st.slots 5 = .int .i64 0 ∧ st.mem = m) 0 ⟨rfl, by simp, by simp, by simp, by simp⟩ ?_)
    rintro R q st hR ⟨rfl, s0, s1, s5, sm⟩
    (repeat refine AWp.seq ?_); refine AWp.region noP (by kernel_rfl) ?_
    simp [s0, s5]
    (repeat refine AWp.seq ?_); refine AWp.condF (by simp) ?_
    refine AWp.exit ?_
    try simp
    (repeat refine AWp.seq ?_); refine AWp.region noP (by kernel_rfl) ?_
    simp [s1]
    refine AWp.ret (post_retW rfl ⟨_, _, View.refl _ _, ?_⟩)
    have := hK m [] (fun _ _ => rfl) (.nil _ _ _) (by simpa [AV.cnts] using Held.nil k)
    simpa [AV.cnts, sm] using this
  obtain ⟨T, G, ys, hM, hy, hx⟩ := Marking.start h
  have hlen : l.length = n := by simpa using hx
  have hcl := cnts_len (f := Ar.av) (fun x => by simp [Ar.av, Ar.cells, AV.cnt, AV.cnts]) l
  (repeat refine AWp.seq ?_); refine AWp.region noP (by kernel_rfl) ?_
  try simp
  (repeat refine AWp.seq ?_); refine AWp.region noP (by kernel_rfl) ?_
  try simp
  (repeat refine AWp.seq ?_); refine AWp.block (AWp.rounds (fun q st => ∃ (i : Nat) (ys : List AV) (ki : Int) (done : List Ar), q = n - i ∧ i ≤ n ∧ done.length = i ∧ ys.length = n ∧ st.slots 0 = .own g n c ∧ st.slots 1 = .int .i64 ki ∧ st.slots 5 = .int .i64 i ∧ Held (done.map Ar.av) k ki ∧ k ≤ ki ∧ ki + (AV.cnts ((l.drop i).map Ar.av) : Int) = k + (AV.cnts (l.map Ar.av) : Int) ∧ Marking st.mem m F g T 2 c G ys ((done ++ l.drop i).map Ar.av)) n ⟨0, ys, k, [], by simp, by simp, rfl, hy, by simp, by simp, by simp, .nil k, by omega, by simp, by simpa using hM⟩ ?_)
  clear hM hy ys
  rintro R q st hR ⟨i, ys, ki, done, rfl, hi, hdl, hy, s0, s1, s5, hH, hki, hcnt, hM⟩
  (repeat refine AWp.seq ?_); refine AWp.region noP (by kernel_rfl) ?_
  simp [s0, s5]
  (repeat refine AWp.seq ?_); refine AWp.cond (b := decide (i < n)) (by simp) (fun hlt => ?_) (fun hlt => ?_)
  rotate_left
  · simp at hlt
    have hin : i = n := by omega
    subst hin
    refine AWp.exit ?_
    try simp
    (repeat refine AWp.seq ?_); refine AWp.region noP (by kernel_rfl) ?_
    simp [s1]
    rw [List.drop_eq_nil_of_le (by omega)] at hcnt hM
    rw [List.append_nil] at hM
    have hke : ki = k + (AV.cnts (l.map Ar.av) : Int) := by simpa [AV.cnts] using hcnt
    subst hke
    refine AWp.ret (post_retW rfl ⟨_, _, View.refl _ _, ?_⟩)
    simp
    exact hK _ done hM.out (hM.done hy) hH
  simp at hlt
  have hil : i < l.length := by omega
  have hdr : l.drop i = l[i] :: l.drop (i + 1) := List.drop_eq_getElem_cons hil
  have hmem := List.getElem_mem hil
  have hwi : IntKind.wrap .i64 ((i : Int) + 1) = (i + 1 : Nat) := wrap64 (by omega) (by omega)
  rw [hdr] at hcnt hM
  rcases hx0 : l[i] with ⟨b0, b1⟩
  rw [hx0] at hcnt hM hmem
  have hat := at_done Ar.av done (Ar.mk b0 b1) (l.drop (i + 1)) hdl
  obtain ⟨B, cs0, hok, hal, I, hback⟩ := hM.into (i := i) (by omega) (cs := [.str b0, .int .i64 b1]) (by rw [hat]; simp [Ar.av, Ar.cells])
  obtain ⟨a0, a1, rfl⟩ : ∃ a0 a1, cs0 = [a0, a1] := by
    match cs0, hal with
    | [a0, a1], _ => exact ⟨_, _, rfl⟩
  simp only [List.map_cons, AV.cnts, Ar.av, Ar.cells, AV.cnt, List.cons_append, List.nil_append] at hcnt
  simp only [List.all_cons, List.all_nil, Bool.and_eq_true, Bool.and_true] at hok
  refine AWp.skip ?_
  try simp
  (repeat refine AWp.seq ?_); refine AWp.block ?_
  have hg := I.row
  have hx : idxA Tryz.prog st.mem 28 (.own g n c) (.int .i64 i) = some (.elt g 2 i 0) := idx_own es_28 hg (by simp [hy]) hlt
  have I2 := I.leaf 0 (x := .str (markT (ki))) (own_str _)
  have hst := I.store (by omega) rfl 0 (by omega) (by omega) (x := .str (markT (ki))) rfl
  simp only [List.set_cons_zero, List.set_cons_succ] at I2 hst
  (repeat refine AWp.seq ?_); refine AWp.cutA (fun u => u.slots 0 = .own g n c ∧ u.slots 1 = .int .i64 (ki) ∧ u.slots 5 = .int .i64 i ∧ InRow u.mem st.mem g T 2 c i ys B [.str (markT (ki)), a1] [.str (markT (ki)), .int .i64 b1]) ?_ ?_
  · refine AWp.region noP (by kernel_rfl) ?_
    simp [s0, s1, s5, hx, hst]
    refine aop_call' (c_markText (ki) (by omega) (by omega)) ?_
    simp [s0, s1, s5, hx, hst]
    exact I2
  clear hg hx hst I2 I
  rintro u0 ⟨s0, s1, s5, I⟩
  have hw : IntKind.wrap .i64 (ki + 1) = ki + 1 := wrap64 (by omega) (by omega)
  (repeat refine AWp.seq ?_); refine AWp.region noP (by kernel_rfl) ?_
  simp [s1, hw]
  clear hw
  have hg := I.row
  have hx : idxA Tryz.prog u0.mem 28 (.own g n c) (.int .i64 i) = some (.elt g 2 i 0) := idx_own es_28 hg (by simp [hy]) hlt
  have I2 := I.leaf 1 (x := .int .i64 (ki + 1)) (own_int _ _)
  have hst := I.store (by omega) rfl 1 (by omega) (by omega) (x := .int .i64 (ki + 1)) rfl
  simp only [List.set_cons_zero, List.set_cons_succ] at I2 hst
  (repeat refine AWp.seq ?_); refine AWp.cutA (fun u => u.slots 0 = .own g n c ∧ u.slots 1 = .int .i64 (ki + 1) ∧ u.slots 5 = .int .i64 i ∧ InRow u.mem st.mem g T 2 c i ys B [.str (markT (ki)), .int .i64 (ki + 1)] [.str (markT (ki)), .int .i64 (ki + 1)]) ?_ ?_
  · refine AWp.region noP (by kernel_rfl) ?_
    simp [s0, s1, s5, hx, hst]
    exact I2
  clear hg hx hst I2 I
  rintro u1 ⟨s0, s1, s5, I⟩
  have hw : IntKind.wrap .i64 (ki + 1 + 1) = ki + 1 + 1 := wrap64 (by omega) (by omega)
  (repeat refine AWp.seq ?_); refine AWp.region noP (by kernel_rfl) ?_
  simp [s1, hw]
  clear hw
  have hnew : Ar.av (Ar.mk (markT (ki)) (ki + 1)) = .agg [.str (markT (ki)), .int .i64 (ki + 1)] := by simp [Ar.av, Ar.cells]
  have hM2 := hback u1.mem [.str (markT (ki)), .int .i64 (ki + 1)] [.str (markT (ki)), .int .i64 (ki + 1)] I (by simp [hok])
  rw [← hnew, set_done Ar.av done _ _ _ hdl] at hM2
  (repeat refine AWp.seq ?_); refine AWp.region noP (by kernel_rfl) ?_
  simp [s0, s1, s5, hwi]
  refine hR _ (n - (i + 1)) (by omega) ⟨i + 1, _, ki + 1 + 1, done ++ [(Ar.mk (markT (ki)) (ki + 1))], rfl, by omega, by simp [hdl], ?_, by simp [s0, s1, s5], by simp [s0, s1, s5], by simp, ?_, by omega, by omega, by simpa using hM2⟩
  · simp [hy]
  · rw [List.map_append, List.map_cons, hnew]
    exact hH.append (.agg (.str (.int (.nil _))) (.nil _))
end Go.T
