/- Where all of a program stands: what the program and the reference compute. Bases, words, flags, slots, bars, registers: what the program and the reference compute. Where something of a program stands: what the program and the reference compute. The laws' functions, of where something of a program stands; programs as arguments. -/
import Derived.Test.YtjpgifmkikmbgaaGreatMF
import Derived.Test.YtjpgifmkikmbgaaGreatD10
import Derived.Test.YtjpgifmkikmbgaaGreatL1
namespace Go.T
open Go Go.Proofs
set_option maxRecDepth 10000
set_option linter.unusedSimpArgs false
set_option linter.unusedVariables false
theorem c_layOf (p : Pg) (ht : p.tot ≤ 1048576) (hf : p.Fine) : PCall Tryz.prog 48 [p.av] (.ref p.lay) := by
  have h2 := totL_len Sm.tot p.body
  have h3 : p.tot = totL Ar.tot p.arrs + totL Sm.tot p.body := rfl
  have h4 := hf.arrs
  obtain ⟨L0, L1, L3, L2, L4⟩ := p.lens ht
  have hc : p.cells = [.lst false 2 (p.arrs.map Ar.av), .lst false 19 (p.body.map Sm.av)] := rfl
  have cV := c_impl_VarsOf p.body (by omega)
  have cL := c_impl_LoopVars p.body (by omega)
  change PCall _ _ _ (strs p.vars) at cV
  change PCall _ _ _ (strs p.loops) at cL
  refine pcall_of Tryz.func48 (by kernel_rfl) rfl (by simp [Tryz.f48]) ?_
  unfold Pg.av
  rw [hc]
  (repeat refine AWp.seq ?_); refine AWp.region noP (by kernel_rfl) ?_
  try simp
  intro g1
  (repeat refine AWp.seq ?_); refine AWp.region allP (by kernel_rfl) ?_
  try simp
  refine aop_call' cV ?_
  simp [strs]
  intro g2 hg2
  have hne : g2 ≠ g1 := by rintro rfl; simp [set_at] at hg2
  have e1 : ((Mem.set (fun _ => none) g1 (.box [.lst false 2 (p.arrs.map Ar.av), .lst false 19 (p.body.map Sm.av)])).set g2 (.box [.lst false 2 (p.arrs.map Ar.av), .lst false 19 (p.body.map Sm.av), strs p.vars, .lst true 0 [], .int .i64 0])) g1 = some (.box [.lst false 2 (p.arrs.map Ar.av), .lst false 19 (p.body.map Sm.av)]) := by simp [set_at, hne.symm]
  have e2 : ((Mem.set (fun _ => none) g1 (.box [.lst false 2 (p.arrs.map Ar.av), .lst false 19 (p.body.map Sm.av)])).set g2 (.box [.lst false 2 (p.arrs.map Ar.av), .lst false 19 (p.body.map Sm.av), strs p.vars, .lst true 0 [], .int .i64 0])) g2 = some (.box [.lst false 2 (p.arrs.map Ar.av), .lst false 19 (p.body.map Sm.av), strs p.vars, .lst true 0 [], .int .i64 0]) := set_same _ _ _
  unfold strs at e1 e2
  generalize ((Mem.set (fun _ => none) g1 (.box [.lst false 2 (p.arrs.map Ar.av), .lst false 19 (p.body.map Sm.av)])).set g2 (.box [.lst false 2 (p.arrs.map Ar.av), .lst false 19 (p.body.map Sm.av), .lst false 1 (p.vars.map .str), .lst true 0 [], .int .i64 0])) = m0 at *
  (repeat refine AWp.seq ?_); refine AWp.regionF (fun i => i == 3) (fun _ => false) [0, 1, 2, 3, 4, 5, 6, 7, 11, 12, 8, 9, 10, 13] (by kernel_rfl) ?_
  simp [e1]
  refine aop_call' cL ?_
  simp [e2, strs]
  refine aop_wcall _ _ _ _ _ _ _ _ rfl (eval_func _ _) ?_
  refine c_Concat [p.loops, p.vars] true (by simp [sumL]; omega) (by simp) fun v m' hG => ⟨v, m', View.refl _ _, ?_⟩
  try simp
  refine aop_wcall _ _ _ _ _ _ _ _ rfl (eval_func _ _) ?_
  refine c_ordered hG (by simp; omega) ?_
  have hreg : nameSet [p.loops, p.vars].flatten = p.regs := by unfold Pg.regs; simp
  rw [hreg]
  simp [e2, strs]
  have e3 : (m0.set g2 (.box [.lst false 2 (p.arrs.map Ar.av), .lst false 19 (p.body.map Sm.av), .lst false 1 (p.vars.map .str), .lst false 1 (p.regs.map .str), .int .i64 0])) g2 = some (.box [.lst false 2 (p.arrs.map Ar.av), .lst false 19 (p.body.map Sm.av), .lst false 1 (p.vars.map .str), .lst false 1 (p.regs.map .str), .int .i64 0]) := set_same _ _ _
  have e4 : (m0.set g2 (.box [.lst false 2 (p.arrs.map Ar.av), .lst false 19 (p.body.map Sm.av), .lst false 1 (p.vars.map .str), .lst false 1 (p.regs.map .str), .int .i64 0])) g1 = some (.box [.lst false 2 (p.arrs.map Ar.av), .lst false 19 (p.body.map Sm.av)]) := by rw [set_at, if_neg hne.symm]; exact e1
  generalize (m0.set g2 (.box [.lst false 2 (p.arrs.map Ar.av), .lst false 19 (p.body.map Sm.av), .lst false 1 (p.vars.map .str), .lst false 1 (p.regs.map .str), .int .i64 0])) = m1 at *
  (repeat refine AWp.seq ?_); refine AWp.region noP (by kernel_rfl) ?_
  simp [e4]
  (try refine AWp.seq ?_)
  refine AWp.cutA (fun st => st.slots 3 = .ptr g2 0 ∧ st.mem g2 = some (.box p.lay)) ?_ ?_
  · refine AWp.block (AWp.rounds (fun k st => ∃ (i : Nat), k = p.arrs.length - i ∧ i ≤ p.arrs.length ∧ st.slots 3 = .ptr g2 0 ∧ st.slots 26 = .lst false 2 (p.arrs.map Ar.av) ∧ st.slots 27 = .int .i64 p.arrs.length ∧ st.slots 28 = .int .i64 i ∧ st.mem g2 = some (.box [.lst false 2 (p.arrs.map Ar.av), .lst false 19 (p.body.map Sm.av), .lst false 1 (p.vars.map .str), .lst false 1 (p.regs.map .str), .int .i64 (sumN (p.arrs.take i))])) p.arrs.length ⟨0, by simp, by simp, by simp, by simp, by simp, by simp, by simp [e3, sumN]⟩ ?_)
    rintro R k st hR ⟨i, rfl, hi, s3, s26, s27, s28, sg⟩
    (repeat refine AWp.seq ?_); refine AWp.region noP (by kernel_rfl) ?_
    simp [s26, s27, s28]
    (repeat refine AWp.seq ?_); refine AWp.cond (b := decide (i < p.arrs.length)) (by simp) (fun hb => ?_) (fun hb => ?_)
    · simp at hb
      have hg : p.arrs[i]? = some p.arrs[i] := List.getElem?_eq_getElem hb
      have hx : ∀ m, idxA Tryz.prog m 28 (.lst false 2 (p.arrs.map Ar.av)) (.int .i64 i) = some (.ref [.str p.arrs[i].s, .int .i64 p.arrs[i].n]) := fun m => idx (y := p.arrs[i].av) es_28 (by simp [hg])
      have hw : IntKind.wrap .i64 ((i : Int) + 1) = (i + 1 : Nat) := wrap64 (by omega) (by omega)
      have hb1 := hf.take i
      have hb2 := hf.take (i + 1)
      have hsu := sumN_succ p.arrs i hb
      have hw2 : IntKind.wrap .i64 (sumN (p.arrs.take i) + p.arrs[i].n) = sumN (p.arrs.take (i + 1)) := by rw [wrap64 (by omega) (by omega), hsu]
      refine AWp.skip ?_
      try simp
      (repeat refine AWp.seq ?_); refine AWp.block ?_; (repeat refine AWp.seq ?_); refine AWp.region noP (by kernel_rfl) ?_
      simp [s26, s28, hx]
      intro g hgf
      try simp [set_at, set_set]
      have hgg : (st.mem.set g (.box [.str p.arrs[i].s, .int .i64 p.arrs[i].n])) g = some (.box [.str p.arrs[i].s, .int .i64 p.arrs[i].n]) := set_same _ _ _
      have hg2 : (st.mem.set g (.box [.str p.arrs[i].s, .int .i64 p.arrs[i].n])) g2 = some (.box [.lst false 2 (p.arrs.map Ar.av), .lst false 19 (p.body.map Sm.av), .lst false 1 (p.vars.map .str), .lst false 1 (p.regs.map .str), .int .i64 (sumN (p.arrs.take i))]) := by
        rw [set_at, if_neg]
        · exact sg
        · rintro rfl; rw [hgf] at sg; cases sg
      generalize st.mem.set g (.box [.str p.arrs[i].s, .int .i64 p.arrs[i].n]) = m2 at *
      (repeat refine AWp.seq ?_); refine AWp.region allP (by kernel_rfl) ?_
      simp [s3, hgg, hg2, hw2]
      (repeat refine AWp.seq ?_); refine AWp.region noP (by kernel_rfl) ?_
      simp [s28, hw]
      exact hR _ (p.arrs.length - (i + 1)) (by omega) ⟨i + 1, rfl, hb, by simp [s3], by simp [s26], by simp [s27], by simp, by simp [set_at]⟩
    · simp at hb
      refine AWp.exit ?_
      have : i = p.arrs.length := by omega
      subst this
      rw [List.take_length] at sg
      simp [s3, sg, Pg.lay, Pg.size, strs]
  rintro st ⟨s3, sg⟩
  (repeat refine AWp.seq ?_); refine AWp.region noP (by kernel_rfl) ?_
  simp [s3]
  exact AWp.ret (post_retW rfl ⟨.ref p.lay, st.mem.del g2, by simpa using View.freezeBox sg, rfl⟩)
end Go.T
namespace Go.T
open Go Go.Proofs
set_option maxRecDepth 10000
set_option linter.unusedSimpArgs false
set_option linter.unusedVariables false
def baseOf (p : Pg) (k : Int) : Int := if inR k 0 ((p.arrs.length : Int) - 1) = true ∧ p.ok = true then sumN (p.arrs.take k.toNat) else -1
def varAt (p : Pg) (s : ByteArray) : Int := if p.ok = true ∧ ¬ at_ p.vars s < 0 then p.size + at_ p.vars s else -1
def flagAt (p : Pg) (h : Int) : Int := if inR h 0 3 = true ∧ p.ok = true then p.size + p.vars.length + h else -1
def slotAt (p : Pg) (h k : Int) : Int := if inR h 0 3 = true ∧ inR k 0 5 = true ∧ p.ok = true then p.size + p.vars.length + 4 + 6 * h + k else -1
def barAt (p : Pg) (h : Int) : Int := if inR h 0 3 = true ∧ p.ok = true then p.size + p.vars.length + 28 + h else -1
def memSize (p : Pg) : Int := if p.ok = true then p.size + p.vars.length + 32 else 0
def regAt (p : Pg) (s : ByteArray) : Int := if p.ok = true then at_ p.regs s else -1
theorem c_flag (p : Pg) (hf : p.Fine) (h : Int) (h0 : 0 ≤ h) (h4 : h ≤ 4) : PCall Tryz.prog 57 [.ref p.lay, .int .i64 h] (.int .i64 (p.size + p.vars.length + h)) := by
  have hs := hf.size
  have hv := hf.vars
  have w1 : IntKind.wrap .i64 (p.size + (p.vars.length : Int)) = p.size + p.vars.length := wrap64 (by omega) (by omega)
  have w2 : IntKind.wrap .i64 (p.size + p.vars.length + h) = p.size + p.vars.length + h := wrap64 (by omega) (by omega)
  refine pcall_of Tryz.func57 (by kernel_rfl) rfl (by simp [Tryz.f57]) ?_
  unfold Pg.lay
  repeat' (first
    | refine AWp.seq ?_
    | (refine AWp.region allP (by kernel_rfl) ?_; simp [strs, w1, w2])
    | (refine AWp.condG ?_; simp [strs, w1, w2])
    | (refine AWp.skip ?_; try simp)
    | (refine AWp.exit ?_; try simp)
    | refine AWp.block ?_
    | (refine AWp.ret (post_ret1 rfl ?_); (simp; done))
    | (refine guardI (fun hq => ?_) (fun hq => ?_) <;> (try simp at hq) <;> (try simp [strs, w1, w2]))
    | (refine condRunI (fun hq => ?_) (fun hq => ?_) <;> (try simp at hq) <;> (try simp [strs, w1, w2]))
    | (refine iteI (fun hq => ?_) (fun hq => ?_) <;> (try simp [strs, w1, w2])))
theorem c_slot (p : Pg) (hf : p.Fine) (h k : Int) (h0 : 0 ≤ h) (h4 : h ≤ 4) (k0 : 0 ≤ k) (k5 : k ≤ 5) : PCall Tryz.prog 60 [.ref p.lay, .int .i64 h, .int .i64 k] (.int .i64 (p.size + p.vars.length + 4 + 6 * h + k)) := by
  have hs := hf.size
  have hv := hf.vars
  have c1 := c_flag p hf 4 (by omega) (by omega)
  have w1 : IntKind.wrap .i64 (h * 6) = 6 * h := by rw [wrap64 (by omega) (by omega)]; omega
  have w2 : IntKind.wrap .i64 (p.size + p.vars.length + 4 + 6 * h) = p.size + p.vars.length + 4 + 6 * h := wrap64 (by omega) (by omega)
  have w3 : IntKind.wrap .i64 (p.size + p.vars.length + 4 + 6 * h + k) = p.size + p.vars.length + 4 + 6 * h + k := wrap64 (by omega) (by omega)
  refine pcall_of Tryz.func60 (by kernel_rfl) rfl (by simp [Tryz.f60]) ?_
  repeat' (first
    | refine AWp.seq ?_
    | (refine AWp.region allP (by kernel_rfl) ?_; simp [w1, w2, w3])
    | (refine AWp.condG ?_; simp [w1, w2, w3])
    | (refine AWp.skip ?_; try simp)
    | (refine AWp.exit ?_; try simp)
    | refine AWp.block ?_
    | (refine aop_call' (c1) ?_; simp [w1, w2, w3])
    | (refine AWp.ret (post_ret1 rfl ?_); (simp; done))
    | (refine guardI (fun hq => ?_) (fun hq => ?_) <;> (try simp at hq) <;> (try simp [w1, w2, w3]))
    | (refine condRunI (fun hq => ?_) (fun hq => ?_) <;> (try simp at hq) <;> (try simp [w1, w2, w3]))
    | (refine iteI (fun hq => ?_) (fun hq => ?_) <;> (try simp [w1, w2, w3])))
theorem c_bar (p : Pg) (hf : p.Fine) (h : Int) (h0 : 0 ≤ h) (h4 : h ≤ 4) : PCall Tryz.prog 61 [.ref p.lay, .int .i64 h] (.int .i64 (p.size + p.vars.length + 28 + h)) := by
  have hs := hf.size
  have hv := hf.vars
  have c1 := c_slot p hf 4 0 (by omega) (by omega) (by omega) (by omega)
  have w1 : IntKind.wrap .i64 (p.size + p.vars.length + 4 + 6 * 4 + 0 + h) = p.size + p.vars.length + 28 + h := by rw [wrap64 (by omega) (by omega)]; omega
  refine pcall_of Tryz.func61 (by kernel_rfl) rfl (by simp [Tryz.f61]) ?_
  generalize p.size + (p.vars.length : Int) + 4 + 6 * 4 + 0 = q at *
  repeat' (first
    | refine AWp.seq ?_
    | (refine AWp.region allP (by kernel_rfl) ?_; simp [w1])
    | (refine AWp.condG ?_; simp [w1])
    | (refine AWp.skip ?_; try simp)
    | (refine AWp.exit ?_; try simp)
    | refine AWp.block ?_
    | (refine aop_call' (c1) ?_; simp [w1])
    | (refine AWp.ret (post_ret1 rfl ?_); (simp; done))
    | (refine guardI (fun hq => ?_) (fun hq => ?_) <;> (try simp at hq) <;> (try simp [w1]))
    | (refine condRunI (fun hq => ?_) (fun hq => ?_) <;> (try simp at hq) <;> (try simp [w1]))
    | (refine iteI (fun hq => ?_) (fun hq => ?_) <;> (try simp [w1])))
theorem c_mem (p : Pg) (hf : p.Fine) : PCall Tryz.prog 62 [.ref p.lay] (.int .i64 (p.size + p.vars.length + 32)) := by
  have c1 := c_bar p hf 4 (by omega) (by omega)
  have e : p.size + (p.vars.length : Int) + 28 + 4 = p.size + p.vars.length + 32 := by omega
  rw [e] at c1
  refine pcall_of Tryz.func62 (by kernel_rfl) rfl (by simp [Tryz.f62]) ?_
  repeat' (first
    | refine AWp.seq ?_
    | (refine AWp.region allP (by kernel_rfl) ?_; simp)
    | (refine AWp.condG ?_; simp)
    | (refine AWp.skip ?_; try simp)
    | (refine AWp.exit ?_; try simp)
    | refine AWp.block ?_
    | (refine aop_call' (c1) ?_; simp)
    | (refine AWp.ret (post_ret1 rfl ?_); (simp; done))
    | (refine guardI (fun hq => ?_) (fun hq => ?_) <;> (try simp at hq) <;> (try simp))
    | (refine condRunI (fun hq => ?_) (fun hq => ?_) <;> (try simp at hq) <;> (try simp))
    | (refine iteI (fun hq => ?_) (fun hq => ?_) <;> (try simp)))
theorem c_word (p : Pg) (hf : p.Fine) (s : ByteArray) : PCall Tryz.prog 59 [.ref p.lay, .str s] (.int .i64 (if at_ p.vars s < 0 then -1 else p.size + at_ p.vars s)) := by
  have hs := hf.size
  have hv := hf.vars
  have c1 := c_Index p.vars s (by omega)
  have hb := idxAt_lt s p.vars 0
  have hb2 : at_ p.vars s ≤ 6 := by unfold at_; rcases hb with hb | hb <;> omega
  refine pcall_of Tryz.func59 (by kernel_rfl) rfl (by simp [Tryz.f59]) ?_
  unfold Pg.lay
  unfold strs at *
  by_cases hn : at_ p.vars s < 0
  · rw [if_pos hn]
    repeat' (first
    | refine AWp.seq ?_
    | (refine AWp.region allP (by kernel_rfl) ?_; simp [hn])
    | (refine AWp.condG ?_; simp [hn])
    | (refine AWp.skip ?_; try simp)
    | (refine AWp.exit ?_; try simp)
    | refine AWp.block ?_
    | (refine aop_call' (c1) ?_; simp [hn])
    | (refine AWp.ret (post_ret1 rfl ?_); (simp; done))
    | (refine guardI (fun hq => ?_) (fun hq => ?_) <;> (try simp at hq) <;> (try simp [hn]))
    | (refine condRunI (fun hq => ?_) (fun hq => ?_) <;> (try simp at hq) <;> (try simp [hn]))
    | (refine iteI (fun hq => ?_) (fun hq => ?_) <;> (try simp [hn])))
  · rw [if_neg hn]
    have w1 : IntKind.wrap .i64 (p.size + at_ p.vars s) = p.size + at_ p.vars s := wrap64 (by omega) (by omega)
    repeat' (first
    | refine AWp.seq ?_
    | (refine AWp.region allP (by kernel_rfl) ?_; simp [hn, w1])
    | (refine AWp.condG ?_; simp [hn, w1])
    | (refine AWp.skip ?_; try simp)
    | (refine AWp.exit ?_; try simp)
    | refine AWp.block ?_
    | (refine aop_call' (c1) ?_; simp [hn, w1])
    | (refine AWp.ret (post_ret1 rfl ?_); (simp; done))
    | (refine guardI (fun hq => ?_) (fun hq => ?_) <;> (try simp at hq) <;> (try simp [hn, w1]))
    | (refine condRunI (fun hq => ?_) (fun hq => ?_) <;> (try simp at hq) <;> (try simp [hn, w1]))
    | (refine iteI (fun hq => ?_) (fun hq => ?_) <;> (try simp [hn, w1])))
theorem c_base (p : Pg) (hf : p.Fine) (k : Nat) (hk : k ≤ p.arrs.length) : PCall Tryz.prog 54 [.ref p.lay, .int .i64 k] (.int .i64 (sumN (p.arrs.take k))) := by
  have h4 := hf.arrs
  refine pcall_of Tryz.func54 (by kernel_rfl) rfl (by simp [Tryz.f54]) ?_
  unfold Pg.lay
  have htl : (p.arrs.map Ar.av).take k = (p.arrs.take k).map Ar.av := by rw [List.map_take]
  have hkl : (p.arrs.take k).length = k := by rw [List.length_take]; omega
  have hsl : sliceA Tryz.prog 28 (.lst false 2 (p.arrs.map Ar.av)) none (some (.int .i64 k)) = some (.lst false 2 ((p.arrs.take k).map Ar.av)) := by
    have k1 : ¬ ((k : Int) < 0) := by omega
    have k2 : k ≤ (p.arrs.map Ar.av).length := by simp; omega
    unfold sliceA
    rw [show esz Tryz.prog 28 = some 2 from es_28]
    simp only [boundA, if_neg k1, if_true, List.drop_zero, Int.toNat_natCast]
    rw [← htl, if_pos k2]
  have hA : ∀ i, 0 ≤ sumN ((p.arrs.take k).take i) ∧ sumN ((p.arrs.take k).take i) ≤ 64 := fun i => by rw [List.take_take]; exact hf.take _
  clear htl
  generalize p.arrs.take k = A at hkl hA hsl ⊢
  (repeat refine AWp.seq ?_); refine AWp.region noP (by kernel_rfl) ?_
  try simp
  (repeat refine AWp.seq ?_); refine AWp.region noP (by kernel_rfl) ?_
  try simp
  (repeat refine AWp.seq ?_); refine AWp.region noP (by kernel_rfl) ?_
  simp [hsl]
  clear hsl
  (try refine AWp.seq ?_)
  refine AWp.cutA (fun st => st.slots 5 = .int .i64 (sumN A)) ?_ ?_
  · refine AWp.block (AWp.rounds (fun n st => ∃ (i : Nat), n = A.length - i ∧ i ≤ A.length ∧ st.slots 14 = .lst false 2 (A.map Ar.av) ∧ st.slots 15 = .int .i64 A.length ∧ st.slots 16 = .int .i64 i ∧ st.slots 5 = .int .i64 (sumN (A.take i))) A.length ⟨0, by simp, by simp, by simp, by simp [hkl], by simp, by simp [sumN]⟩ ?_)
    rintro R n st hR ⟨i, rfl, hi, s14, s15, s16, s5⟩
    (repeat refine AWp.seq ?_); refine AWp.region noP (by kernel_rfl) ?_
    simp [s15, s16]
    (repeat refine AWp.seq ?_); refine AWp.cond (b := decide (i < A.length)) (by simp) (fun hb => ?_) (fun hb => ?_)
    · simp at hb
      have hg : A[i]? = some A[i] := List.getElem?_eq_getElem hb
      have hx : ∀ m, idxA Tryz.prog m 28 (.lst false 2 (A.map Ar.av)) (.int .i64 i) = some (.ref [.str A[i].s, .int .i64 A[i].n]) := fun m => idx (y := A[i].av) es_28 (by simp [hg])
      have hw : IntKind.wrap .i64 ((i : Int) + 1) = (i + 1 : Nat) := wrap64 (by omega) (by omega)
      have hb1 := hA i
      have hb2 := hA (i + 1)
      have hsu := sumN_succ A i hb
      have hw2 : IntKind.wrap .i64 (sumN (A.take i) + A[i].n) = sumN (A.take (i + 1)) := by rw [wrap64 (by omega) (by omega), hsu]
      refine AWp.skip ?_
      try simp
      (repeat refine AWp.seq ?_); refine AWp.block ?_; (repeat refine AWp.seq ?_); refine AWp.region noP (by kernel_rfl) ?_
      simp [s14, s16, hx]
      intro g hgf
      try simp [set_at, set_set]
      have hgg : (st.mem.set g (.box [.str A[i].s, .int .i64 A[i].n])) g = some (.box [.str A[i].s, .int .i64 A[i].n]) := set_same _ _ _
      generalize st.mem.set g (.box [.str A[i].s, .int .i64 A[i].n]) = m2 at *
      (repeat refine AWp.seq ?_); refine AWp.region noP (by kernel_rfl) ?_
      simp [s5, hgg, hw2]
      (repeat refine AWp.seq ?_); refine AWp.region noP (by kernel_rfl) ?_
      simp [s16, hw]
      exact hR _ (A.length - (i + 1)) (by omega) ⟨i + 1, rfl, hb, by simp [s14], by simp [s15], by simp, by simp⟩
    · simp at hb
      refine AWp.exit ?_
      have : i = A.length := by omega
      subst this
      rw [List.take_length] at s5
      simp [s5]
  intro st s5
  (repeat refine AWp.seq ?_); refine AWp.region noP (by kernel_rfl) ?_
  simp [s5]
  exact AWp.ret (post_ret1 rfl (by simp))
theorem c_isAny (h : Int) : PCall Tryz.prog 56 [.int .i64 h] (.bool (inR h 0 3)) := by
  have c1 := c_inRange h 0 3
  refine pcall_of Tryz.func56 (by kernel_rfl) rfl (by simp [Tryz.f56]) ?_
  repeat' (first
    | refine AWp.seq ?_
    | (refine AWp.region allP (by kernel_rfl) ?_; simp)
    | (refine AWp.condG ?_; simp)
    | (refine AWp.skip ?_; try simp)
    | (refine AWp.exit ?_; try simp)
    | refine AWp.block ?_
    | (refine aop_call' (c1) ?_; simp)
    | (refine AWp.ret (post_ret1 rfl ?_); (simp; done))
    | (refine guardI (fun hq => ?_) (fun hq => ?_) <;> (try simp at hq) <;> (try simp))
    | (refine condRunI (fun hq => ?_) (fun hq => ?_) <;> (try simp at hq) <;> (try simp))
    | (refine iteI (fun hq => ?_) (fun hq => ?_) <;> (try simp)))
theorem c_l15Vars (p : Pg) (ht : p.tot ≤ 1048576) : PCall Tryz.prog 51 [p.av] (.int .i64 p.v0) := by
  have c1 := c_spec_ProgOk p ht
  refine pcall_of Tryz.func51 (by kernel_rfl) rfl (by simp [Tryz.f51]) ?_
  have hc : p.cells = [.lst false 2 (p.arrs.map Ar.av), .lst false 19 (p.body.map Sm.av)] := rfl
  unfold Pg.av at *
  rw [hc] at *
  (repeat refine AWp.seq ?_); refine AWp.region noP (by kernel_rfl) ?_
  try simp
  intro g
  (repeat refine AWp.seq ?_); refine AWp.region allP (by kernel_rfl) ?_
  try simp
  refine aop_call' c1 ?_
  cases hok : p.ok
  · simp
    (repeat refine AWp.seq ?_); refine AWp.condT (by simp) ?_
    (repeat refine AWp.seq ?_); refine AWp.region noP (by kernel_rfl) ?_
    try simp
    exact AWp.ret (post_ret1 rfl (by simp [Pg.v0, hok]))
  have hf := Pg.fine hok
  have hl4 := hf.arrs
  try simp
  (repeat refine AWp.seq ?_); refine AWp.condF (by simp) ?_
  refine AWp.skip ?_
  try simp
  (repeat refine AWp.seq ?_); refine AWp.region noP (by kernel_rfl) ?_
  try simp
  (repeat refine AWp.seq ?_); refine AWp.region noP (by kernel_rfl) ?_
  try simp
  (try refine AWp.seq ?_)
  refine AWp.cutA (fun st => st.slots 3 = .int .i64 p.size) ?_ ?_
  · refine AWp.block (AWp.rounds (fun n st => ∃ (i : Nat), n = p.arrs.length - i ∧ i ≤ p.arrs.length ∧ st.slots 1 = .ptr g 0 ∧ st.mem g = some (.box [.lst false 2 (p.arrs.map Ar.av), .lst false 19 (p.body.map Sm.av)]) ∧ st.slots 4 = .int .i64 i ∧ st.slots 3 = .int .i64 (sumN (p.arrs.take i))) p.arrs.length ⟨0, by simp, by simp, by simp, by simp, by simp, by simp [sumN]⟩ ?_)
    rintro R n st hR ⟨i, rfl, hi, s1, sg, s4, s3⟩
    (repeat refine AWp.seq ?_); refine AWp.region noP (by kernel_rfl) ?_
    simp [s1, sg, s4]
    (repeat refine AWp.seq ?_); refine AWp.cond (b := decide (i < p.arrs.length)) (by simp) (fun hb => ?_) (fun hb => ?_)
    · simp at hb
      have hg : p.arrs[i]? = some p.arrs[i] := List.getElem?_eq_getElem hb
      have hx : ∀ m, idxA Tryz.prog m 28 (.lst false 2 (p.arrs.map Ar.av)) (.int .i64 i) = some (.ref [.str p.arrs[i].s, .int .i64 p.arrs[i].n]) := fun m => idx (y := p.arrs[i].av) es_28 (by simp [hg])
      have hw : IntKind.wrap .i64 ((i : Int) + 1) = (i + 1 : Nat) := wrap64 (by omega) (by omega)
      have hb1 := hf.take i
      have hb2 := hf.take (i + 1)
      have hsu := sumN_succ p.arrs i hb
      have hw2 : IntKind.wrap .i64 (sumN (p.arrs.take i) + p.arrs[i].n) = sumN (p.arrs.take (i + 1)) := by rw [wrap64 (by omega) (by omega), hsu]
      refine AWp.skip ?_
      try simp
      (repeat refine AWp.seq ?_); refine AWp.block ?_; (repeat refine AWp.seq ?_); refine AWp.region noP (by kernel_rfl) ?_
      simp [s1, sg, s3, s4, hx, hw2]
      (repeat refine AWp.seq ?_); refine AWp.region noP (by kernel_rfl) ?_
      simp [s4, hw]
      exact hR _ (p.arrs.length - (i + 1)) (by omega) ⟨i + 1, rfl, hb, by simp [s1], by simp [sg], by simp, by simp⟩
    · simp at hb
      refine AWp.exit ?_
      have : i = p.arrs.length := by omega
      subst this
      rw [List.take_length] at s3
      simp [s3, Pg.size]
  intro st s3
  (repeat refine AWp.seq ?_); refine AWp.region noP (by kernel_rfl) ?_
  simp [s3]
  exact AWp.ret (post_ret1 rfl (by simp [Pg.v0, hok]))
theorem c_l15Flags (p : Pg) (ht : p.tot ≤ 1048576) : PCall Tryz.prog 55 [p.av] (.int .i64 p.f0) := by
  have h3 : p.tot = totL Ar.tot p.arrs + totL Sm.tot p.body := rfl
  have c1 := c_l15Vars p ht
  have cV := c_spec_VarsOf p.body (by omega)
  change PCall _ _ _ (strs p.vars) at cV
  unfold strs at cV
  refine pcall_of Tryz.func55 (by kernel_rfl) rfl (by simp [Tryz.f55]) ?_
  have hc : p.cells = [.lst false 2 (p.arrs.map Ar.av), .lst false 19 (p.body.map Sm.av)] := rfl
  unfold Pg.av at *
  rw [hc] at *
  (repeat refine AWp.seq ?_); refine AWp.region noP (by kernel_rfl) ?_
  try simp
  intro g
  cases hok : p.ok
  · have e : p.v0 = -1 := by unfold Pg.v0; rw [hok]; rfl
    rw [e] at c1
    repeat' (first
    | refine AWp.seq ?_
    | (refine AWp.region allP (by kernel_rfl) ?_; simp)
    | (refine AWp.condG ?_; simp)
    | (refine AWp.skip ?_; try simp)
    | (refine AWp.exit ?_; try simp)
    | refine AWp.block ?_
    | (refine aop_call' (c1) ?_; simp)
    | (refine aop_call' (cV) ?_; simp)
    | (refine AWp.ret (post_ret1 rfl ?_); (simp [Pg.f0, hok]; done))
    | (refine guardI (fun hq => ?_) (fun hq => ?_) <;> (try simp at hq) <;> (try simp))
    | (refine condRunI (fun hq => ?_) (fun hq => ?_) <;> (try simp at hq) <;> (try simp))
    | (refine iteI (fun hq => ?_) (fun hq => ?_) <;> (try simp)))
  · have hf := Pg.fine hok
    have hs := hf.size
    have hv := hf.vars
    have e : p.v0 = p.size := by unfold Pg.v0; rw [hok]; rfl
    rw [e] at c1
    have hn : ¬ p.size < 0 := by omega
    have w1 : IntKind.wrap .i64 (p.size + (p.vars.length : Int)) = p.size + p.vars.length := wrap64 (by omega) (by omega)
    repeat' (first
    | refine AWp.seq ?_
    | (refine AWp.region allP (by kernel_rfl) ?_; simp [hn, w1])
    | (refine AWp.condG ?_; simp [hn, w1])
    | (refine AWp.skip ?_; try simp)
    | (refine AWp.exit ?_; try simp)
    | refine AWp.block ?_
    | (refine aop_call' (c1) ?_; simp [hn, w1])
    | (refine aop_call' (cV) ?_; simp [hn, w1])
    | (refine AWp.ret (post_ret1 rfl ?_); (simp [Pg.f0, hok]; done))
    | (refine guardI (fun hq => ?_) (fun hq => ?_) <;> (try simp at hq) <;> (try simp [hn, w1]))
    | (refine condRunI (fun hq => ?_) (fun hq => ?_) <;> (try simp at hq) <;> (try simp [hn, w1]))
    | (refine iteI (fun hq => ?_) (fun hq => ?_) <;> (try simp [hn, w1])))
theorem c_l15Names (p : Pg) (ht : p.tot ≤ 1048576) : PCall Tryz.prog 43 [p.av] (strs p.regs) := by
  have h3 : p.tot = totL Ar.tot p.arrs + totL Sm.tot p.body := rfl
  obtain ⟨L0, L1, L3, L2, L4⟩ := p.lens ht
  have cV := c_spec_VarsOf p.body (by omega)
  have cL := c_spec_LoopVars p.body (by omega)
  change PCall _ _ _ (strs p.vars) at cV
  change PCall _ _ _ (strs p.loops) at cL
  refine pcall_of Tryz.func43 (by kernel_rfl) rfl (by simp [Tryz.f43]) ?_
  have hc : p.cells = [.lst false 2 (p.arrs.map Ar.av), .lst false 19 (p.body.map Sm.av)] := rfl
  unfold Pg.av at *
  rw [hc] at *
  (repeat refine AWp.seq ?_); refine AWp.region noP (by kernel_rfl) ?_
  try simp
  intro g
  (repeat refine AWp.seq ?_); refine AWp.region allP (by kernel_rfl) ?_
  try simp
  refine aop_call' cV ?_
  try simp
  (repeat refine AWp.seq ?_); refine AWp.region allP (by kernel_rfl) ?_
  try simp
  refine aop_call' cL ?_
  try simp
  (repeat refine AWp.seq ?_); refine AWp.region noP (by kernel_rfl) ?_
  try simp
  (try refine AWp.seq ?_)
  refine AWp.cutA (fun st => st.slots 3 = strs p.regs) ?_ ?_
  · refine AWp.block (AWp.rounds (fun n st => ∃ (i : Nat) (acc : List ByteArray), n = p.loops.length - i ∧ i ≤ p.loops.length ∧ st.slots 3 = strs acc ∧ st.slots 4 = .lst false 1 (p.loops.map .str) ∧ st.slots 5 = .int .i64 i ∧ p.regs = (p.loops.drop i).foldl putS acc ∧ acc.length ≤ p.vars.length + i) p.loops.length ⟨0, p.vars, by simp, by simp, by simp, by (simp [strs]), by simp, by simp [Pg.regs_fold], by simp⟩ ?_)
    rintro R n st hR ⟨i, acc, rfl, hi, s3, s4, s5, hr, hal⟩
    (repeat refine AWp.seq ?_); refine AWp.region noP (by kernel_rfl) ?_
    simp [s4, s5]
    (repeat refine AWp.seq ?_); refine AWp.cond (b := decide (i < p.loops.length)) (by simp) (fun hb => ?_) (fun hb => ?_)
    · simp at hb
      have hg : p.loops[i]? = some p.loops[i] := List.getElem?_eq_getElem hb
      have hdr : p.loops.drop i = p.loops[i] :: p.loops.drop (i + 1) := List.drop_eq_getElem_cons hb
      have hx : ∀ m, idxA Tryz.prog m 59 (.lst false 1 (p.loops.map .str)) (.int .i64 i) = some (.ref [.str p.loops[i]]) := fun m => idx (y := .str p.loops[i]) es_59 (by simp [hg])
      have hw : IntKind.wrap .i64 ((i : Int) + 1) = (i + 1 : Nat) := wrap64 (by omega) (by omega)
      rw [hdr, List.foldl_cons] at hr
      have hpl := (putS_len p.loops[i] acc false).1
      refine AWp.skip ?_
      try simp
      (repeat refine AWp.seq ?_); refine AWp.block ?_; (repeat refine AWp.seq ?_); refine AWp.region allP (by kernel_rfl) ?_
      simp [s3, s4, s5, hx]
      refine aop_call' (c_l4Put acc p.loops[i] (by omega)) ?_
      try simp
      (repeat refine AWp.seq ?_); refine AWp.region noP (by kernel_rfl) ?_
      simp [s5, hw]
      exact hR _ (p.loops.length - (i + 1)) (by omega) ⟨i + 1, _, rfl, hb, by simp, by simp [s4], by simp, hr, by unfold putS; omega⟩
    · simp at hb
      refine AWp.exit ?_
      have : i = p.loops.length := by omega
      subst this
      simp at hr
      simp [s3, hr]
  intro st s3
  (repeat refine AWp.seq ?_); refine AWp.region noP (by kernel_rfl) ?_
  simp [s3]
  exact AWp.ret (post_ret1 rfl (by simp))
end Go.T
namespace Go.T
open Go Go.Proofs
set_option maxRecDepth 10000
set_option linter.unusedSimpArgs false
set_option linter.unusedVariables false
theorem c_impl_RegAt (p : Pg) (ht : p.tot ≤ 1048576) (s : ByteArray) : PCall Tryz.prog 15 [p.av, .str s] (.int .i64 (regAt p s)) := by
  have c1 := c_impl_ProgOk p ht
  obtain ⟨L0, L1, L3, L2, L4⟩ := p.lens ht
  have hrl := p.regs_len
  have cI := c_Index p.regs s (by omega)
  have cL := fun hf => c_layOf p ht hf
  unfold Pg.lay at cL
  unfold strs at *
  refine pcall_of Tryz.func15 (by kernel_rfl) rfl (by simp [Tryz.f15]) ?_
  have hc : p.cells = [.lst false 2 (p.arrs.map Ar.av), .lst false 19 (p.body.map Sm.av)] := rfl
  unfold Pg.av at *
  rw [hc] at *
  (repeat refine AWp.seq ?_); refine AWp.region noP (by kernel_rfl) ?_
  try simp
  intro g
  cases hok : p.ok
  · rw [hok] at c1
    repeat' (first
    | refine AWp.seq ?_
    | (refine AWp.region allP (by kernel_rfl) ?_; simp)
    | (refine AWp.condG ?_; simp)
    | (refine AWp.skip ?_; try simp)
    | (refine AWp.exit ?_; try simp)
    | refine AWp.block ?_
    | (refine aop_call' (c1) ?_; simp)
    | (refine AWp.ret (post_ret1 rfl ?_); (simp [regAt, hok]; done))
    | (refine guardI (fun hq => ?_) (fun hq => ?_) <;> (try simp at hq) <;> (try simp))
    | (refine condRunI (fun hq => ?_) (fun hq => ?_) <;> (try simp at hq) <;> (try simp))
    | (refine iteI (fun hq => ?_) (fun hq => ?_) <;> (try simp)))
  · rw [hok] at c1
    repeat' (first
    | refine AWp.seq ?_
    | (refine AWp.region allP (by kernel_rfl) ?_; simp)
    | (refine AWp.condG ?_; simp)
    | (refine AWp.skip ?_; try simp)
    | (refine AWp.exit ?_; try simp)
    | refine AWp.block ?_
    | (refine aop_call' (c1) ?_; simp)
    | (refine aop_call' (cL (Pg.fine hok)) ?_; simp)
    | (refine aop_call' (cI) ?_; simp)
    | (refine AWp.ret (post_ret1 rfl ?_); (simp [regAt, hok]; done))
    | (refine guardI (fun hq => ?_) (fun hq => ?_) <;> (try simp at hq) <;> (try simp))
    | (refine condRunI (fun hq => ?_) (fun hq => ?_) <;> (try simp at hq) <;> (try simp))
    | (refine iteI (fun hq => ?_) (fun hq => ?_) <;> (try simp)))
theorem c_spec_RegAt (p : Pg) (ht : p.tot ≤ 1048576) (s : ByteArray) : PCall Tryz.prog 13 [p.av, .str s] (.int .i64 (regAt p s)) := by
  have c1 := c_spec_ProgOk p ht
  obtain ⟨L0, L1, L3, L2, L4⟩ := p.lens ht
  have hrl := p.regs_len
  have cI := c_l7At p.regs s (by omega)
  have cL := c_l15Names p ht
  unfold strs at *
  refine pcall_of Tryz.func13 (by kernel_rfl) rfl (by simp [Tryz.f13]) ?_
  have hc : p.cells = [.lst false 2 (p.arrs.map Ar.av), .lst false 19 (p.body.map Sm.av)] := rfl
  unfold Pg.av at *
  rw [hc] at *
  (repeat refine AWp.seq ?_); refine AWp.region noP (by kernel_rfl) ?_
  try simp
  intro g
  cases hok : p.ok
  · rw [hok] at c1
    repeat' (first
    | refine AWp.seq ?_
    | (refine AWp.region allP (by kernel_rfl) ?_; simp)
    | (refine AWp.condG ?_; simp)
    | (refine AWp.skip ?_; try simp)
    | (refine AWp.exit ?_; try simp)
    | refine AWp.block ?_
    | (refine aop_call' (c1) ?_; simp)
    | (refine AWp.ret (post_ret1 rfl ?_); (simp [regAt, hok]; done))
    | (refine guardI (fun hq => ?_) (fun hq => ?_) <;> (try simp at hq) <;> (try simp))
    | (refine condRunI (fun hq => ?_) (fun hq => ?_) <;> (try simp at hq) <;> (try simp))
    | (refine iteI (fun hq => ?_) (fun hq => ?_) <;> (try simp)))
  · rw [hok] at c1
    repeat' (first
    | refine AWp.seq ?_
    | (refine AWp.region allP (by kernel_rfl) ?_; simp)
    | (refine AWp.condG ?_; simp)
    | (refine AWp.skip ?_; try simp)
    | (refine AWp.exit ?_; try simp)
    | refine AWp.block ?_
    | (refine aop_call' (c1) ?_; simp)
    | (refine aop_call' (cL) ?_; simp)
    | (refine aop_call' (cI) ?_; simp)
    | (refine AWp.ret (post_ret1 rfl ?_); (simp [regAt, hok]; done))
    | (refine guardI (fun hq => ?_) (fun hq => ?_) <;> (try simp at hq) <;> (try simp))
    | (refine condRunI (fun hq => ?_) (fun hq => ?_) <;> (try simp at hq) <;> (try simp))
    | (refine iteI (fun hq => ?_) (fun hq => ?_) <;> (try simp)))
theorem c_impl_VarAt (p : Pg) (ht : p.tot ≤ 1048576) (s : ByteArray) : PCall Tryz.prog 22 [p.av, .str s] (.int .i64 (varAt p s)) := by
  have c1 := c_impl_ProgOk p ht
  refine pcall_of Tryz.func22 (by kernel_rfl) rfl (by simp [Tryz.f22]) ?_
  have hc : p.cells = [.lst false 2 (p.arrs.map Ar.av), .lst false 19 (p.body.map Sm.av)] := rfl
  unfold Pg.av at *
  rw [hc] at *
  (repeat refine AWp.seq ?_); refine AWp.region noP (by kernel_rfl) ?_
  try simp
  intro g
  cases hok : p.ok
  · rw [hok] at c1
    repeat' (first
    | refine AWp.seq ?_
    | (refine AWp.region allP (by kernel_rfl) ?_; simp)
    | (refine AWp.condG ?_; simp)
    | (refine AWp.skip ?_; try simp)
    | (refine AWp.exit ?_; try simp)
    | refine AWp.block ?_
    | (refine aop_call' (c1) ?_; simp)
    | (refine AWp.ret (post_ret1 rfl ?_); (simp [varAt, hok]; done))
    | (refine guardI (fun hq => ?_) (fun hq => ?_) <;> (try simp at hq) <;> (try simp))
    | (refine condRunI (fun hq => ?_) (fun hq => ?_) <;> (try simp at hq) <;> (try simp))
    | (refine iteI (fun hq => ?_) (fun hq => ?_) <;> (try simp)))
  · have cL := c_layOf p ht (Pg.fine hok)
    unfold Pg.av at cL
    have cW := c_word p (Pg.fine hok) s
    rw [hok] at c1
    by_cases hn : at_ p.vars s < 0
    · rw [if_pos hn] at cW
      repeat' (first
    | refine AWp.seq ?_
    | (refine AWp.region allP (by kernel_rfl) ?_; simp)
    | (refine AWp.condG ?_; simp)
    | (refine AWp.skip ?_; try simp)
    | (refine AWp.exit ?_; try simp)
    | refine AWp.block ?_
    | (refine aop_call' (c1) ?_; simp)
    | (refine aop_call' (cL) ?_; simp)
    | (refine aop_call' (cW) ?_; simp)
    | (refine AWp.ret (post_ret1 rfl ?_); (simp [varAt, hok, hn]; done))
    | (refine guardI (fun hq => ?_) (fun hq => ?_) <;> (try simp at hq) <;> (try simp))
    | (refine condRunI (fun hq => ?_) (fun hq => ?_) <;> (try simp at hq) <;> (try simp))
    | (refine iteI (fun hq => ?_) (fun hq => ?_) <;> (try simp)))
    · rw [if_neg hn] at cW
      have hn2 : 0 ≤ at_ p.vars s := by omega
      repeat' (first
    | refine AWp.seq ?_
    | (refine AWp.region allP (by kernel_rfl) ?_; simp)
    | (refine AWp.condG ?_; simp)
    | (refine AWp.skip ?_; try simp)
    | (refine AWp.exit ?_; try simp)
    | refine AWp.block ?_
    | (refine aop_call' (c1) ?_; simp)
    | (refine aop_call' (cL) ?_; simp)
    | (refine aop_call' (cW) ?_; simp)
    | (refine AWp.ret (post_ret1 rfl ?_); (simp [varAt, hok, hn2]; done))
    | (refine guardI (fun hq => ?_) (fun hq => ?_) <;> (try simp at hq) <;> (try simp))
    | (refine condRunI (fun hq => ?_) (fun hq => ?_) <;> (try simp at hq) <;> (try simp))
    | (refine iteI (fun hq => ?_) (fun hq => ?_) <;> (try simp)))
theorem c_spec_VarAt (p : Pg) (ht : p.tot ≤ 1048576) (s : ByteArray) : PCall Tryz.prog 21 [p.av, .str s] (.int .i64 (varAt p s)) := by
  have h3 : p.tot = totL Ar.tot p.arrs + totL Sm.tot p.body := rfl
  have c1 := c_l15Vars p ht
  have cV := c_spec_VarsOf p.body (by omega)
  change PCall _ _ _ (strs p.vars) at cV
  obtain ⟨L0, L1, L3, L2, L4⟩ := p.lens ht
  have cI := c_l7At p.vars s (by omega)
  unfold strs at *
  refine pcall_of Tryz.func21 (by kernel_rfl) rfl (by simp [Tryz.f21]) ?_
  have hc : p.cells = [.lst false 2 (p.arrs.map Ar.av), .lst false 19 (p.body.map Sm.av)] := rfl
  unfold Pg.av at *
  rw [hc] at *
  (repeat refine AWp.seq ?_); refine AWp.region noP (by kernel_rfl) ?_
  try simp
  intro g
  cases hok : p.ok
  · have e : p.v0 = -1 := by unfold Pg.v0; rw [hok]; rfl
    rw [e] at c1
    repeat' (first
    | refine AWp.seq ?_
    | (refine AWp.region allP (by kernel_rfl) ?_; simp)
    | (refine AWp.condG ?_; simp)
    | (refine AWp.skip ?_; try simp)
    | (refine AWp.exit ?_; try simp)
    | refine AWp.block ?_
    | (refine aop_call' (c1) ?_; simp)
    | (refine aop_call' (cV) ?_; simp)
    | (refine aop_call' (cI) ?_; simp)
    | (refine AWp.ret (post_ret1 rfl ?_); (simp [varAt, hok]; done))
    | (refine guardI (fun hq => ?_) (fun hq => ?_) <;> (try simp at hq) <;> (try simp))
    | (refine condRunI (fun hq => ?_) (fun hq => ?_) <;> (try simp at hq) <;> (try simp))
    | (refine iteI (fun hq => ?_) (fun hq => ?_) <;> (try simp)))
  · have hf := Pg.fine hok
    have hs := hf.size
    have hv := hf.vars
    have e : p.v0 = p.size := by unfold Pg.v0; rw [hok]; rfl
    rw [e] at c1
    have hn0 : ¬ p.size < 0 := by omega
    by_cases hn : at_ p.vars s < 0
    · repeat' (first
    | refine AWp.seq ?_
    | (refine AWp.region allP (by kernel_rfl) ?_; simp [hn0, hn])
    | (refine AWp.condG ?_; simp [hn0, hn])
    | (refine AWp.skip ?_; try simp)
    | (refine AWp.exit ?_; try simp)
    | refine AWp.block ?_
    | (refine aop_call' (c1) ?_; simp [hn0, hn])
    | (refine aop_call' (cV) ?_; simp [hn0, hn])
    | (refine aop_call' (cI) ?_; simp [hn0, hn])
    | (refine AWp.ret (post_ret1 rfl ?_); (simp [varAt, hok, hn]; done))
    | (refine guardI (fun hq => ?_) (fun hq => ?_) <;> (try simp at hq) <;> (try simp [hn0, hn]))
    | (refine condRunI (fun hq => ?_) (fun hq => ?_) <;> (try simp at hq) <;> (try simp [hn0, hn]))
    | (refine iteI (fun hq => ?_) (fun hq => ?_) <;> (try simp [hn0, hn])))
    · have hn2 : 0 ≤ at_ p.vars s := by omega
      have hb := idxAt_lt s p.vars 0
      have hb2 : at_ p.vars s ≤ 6 := by unfold at_; rcases hb with hb | hb <;> omega
      have w1 : IntKind.wrap .i64 (p.size + at_ p.vars s) = p.size + at_ p.vars s := wrap64 (by omega) (by omega)
      repeat' (first
    | refine AWp.seq ?_
    | (refine AWp.region allP (by kernel_rfl) ?_; simp [hn0, hn, w1])
    | (refine AWp.condG ?_; simp [hn0, hn, w1])
    | (refine AWp.skip ?_; try simp)
    | (refine AWp.exit ?_; try simp)
    | refine AWp.block ?_
    | (refine aop_call' (c1) ?_; simp [hn0, hn, w1])
    | (refine aop_call' (cV) ?_; simp [hn0, hn, w1])
    | (refine aop_call' (cI) ?_; simp [hn0, hn, w1])
    | (refine AWp.ret (post_ret1 rfl ?_); (simp [varAt, hok, hn2]; done))
    | (refine guardI (fun hq => ?_) (fun hq => ?_) <;> (try simp at hq) <;> (try simp [hn0, hn, w1]))
    | (refine condRunI (fun hq => ?_) (fun hq => ?_) <;> (try simp at hq) <;> (try simp [hn0, hn, w1]))
    | (refine iteI (fun hq => ?_) (fun hq => ?_) <;> (try simp [hn0, hn, w1])))
theorem c_impl_FlagAt (p : Pg) (ht : p.tot ≤ 1048576) (h : Int) : PCall Tryz.prog 20 [p.av, .int .i64 h] (.int .i64 (flagAt p h)) := by
  have c1 := c_impl_ProgOk p ht
  have cA := c_isAny h
  refine pcall_of Tryz.func20 (by kernel_rfl) rfl (by simp [Tryz.f20]) ?_
  have hc : p.cells = [.lst false 2 (p.arrs.map Ar.av), .lst false 19 (p.body.map Sm.av)] := rfl
  unfold Pg.av at *
  rw [hc] at *
  (repeat refine AWp.seq ?_); refine AWp.region noP (by kernel_rfl) ?_
  try simp
  intro g
  cases x1 : inR h 0 3
  · rw [x1] at cA
    repeat' (first
    | refine AWp.seq ?_
    | (refine AWp.region allP (by kernel_rfl) ?_; simp)
    | (refine AWp.condG ?_; simp)
    | (refine AWp.skip ?_; try simp)
    | (refine AWp.exit ?_; try simp)
    | refine AWp.block ?_
    | (refine aop_call' (cA) ?_; simp)
    | (refine aop_call' (c1) ?_; simp)
    | (refine AWp.ret (post_ret1 rfl ?_); (simp [flagAt, x1]; done))
    | (refine guardI (fun hq => ?_) (fun hq => ?_) <;> (try simp at hq) <;> (try simp))
    | (refine condRunI (fun hq => ?_) (fun hq => ?_) <;> (try simp at hq) <;> (try simp))
    | (refine iteI (fun hq => ?_) (fun hq => ?_) <;> (try simp)))
  rw [x1] at cA
  cases hok : p.ok
  · rw [hok] at c1
    repeat' (first
    | refine AWp.seq ?_
    | (refine AWp.region allP (by kernel_rfl) ?_; simp)
    | (refine AWp.condG ?_; simp)
    | (refine AWp.skip ?_; try simp)
    | (refine AWp.exit ?_; try simp)
    | refine AWp.block ?_
    | (refine aop_call' (cA) ?_; simp)
    | (refine aop_call' (c1) ?_; simp)
    | (refine AWp.ret (post_ret1 rfl ?_); (simp [flagAt, hok]; done))
    | (refine guardI (fun hq => ?_) (fun hq => ?_) <;> (try simp at hq) <;> (try simp))
    | (refine condRunI (fun hq => ?_) (fun hq => ?_) <;> (try simp at hq) <;> (try simp))
    | (refine iteI (fun hq => ?_) (fun hq => ?_) <;> (try simp)))
  have y1 := x1
  unfold inR at y1
  simp at y1
  have cL := c_layOf p ht (Pg.fine hok)
  unfold Pg.av at cL
  have cW := c_flag p (Pg.fine hok) h (by omega) (by omega)
  rw [hok] at c1
  repeat' (first
    | refine AWp.seq ?_
    | (refine AWp.region allP (by kernel_rfl) ?_; simp)
    | (refine AWp.condG ?_; simp)
    | (refine AWp.skip ?_; try simp)
    | (refine AWp.exit ?_; try simp)
    | refine AWp.block ?_
    | (refine aop_call' (cA) ?_; simp)
    | (refine aop_call' (c1) ?_; simp)
    | (refine aop_call' (cL) ?_; simp)
    | (refine aop_call' (cW) ?_; simp)
    | (refine AWp.ret (post_ret1 rfl ?_); (simp [flagAt, hok, x1]; done))
    | (refine guardI (fun hq => ?_) (fun hq => ?_) <;> (try simp at hq) <;> (try simp))
    | (refine condRunI (fun hq => ?_) (fun hq => ?_) <;> (try simp at hq) <;> (try simp))
    | (refine iteI (fun hq => ?_) (fun hq => ?_) <;> (try simp)))
theorem c_spec_FlagAt (p : Pg) (ht : p.tot ≤ 1048576) (h : Int) : PCall Tryz.prog 19 [p.av, .int .i64 h] (.int .i64 (flagAt p h)) := by
  have c1 := c_l15Flags p ht
  have cA := c_l1In h 0 3
  refine pcall_of Tryz.func19 (by kernel_rfl) rfl (by simp [Tryz.f19]) ?_
  have hc : p.cells = [.lst false 2 (p.arrs.map Ar.av), .lst false 19 (p.body.map Sm.av)] := rfl
  unfold Pg.av at *
  rw [hc] at *
  (repeat refine AWp.seq ?_); refine AWp.region noP (by kernel_rfl) ?_
  try simp
  intro g
  cases hok : p.ok
  · have e : p.f0 = -1 := by unfold Pg.f0; rw [hok]; rfl
    rw [e] at c1
    repeat' (first
    | refine AWp.seq ?_
    | (refine AWp.region allP (by kernel_rfl) ?_; simp)
    | (refine AWp.condG ?_; simp)
    | (refine AWp.skip ?_; try simp)
    | (refine AWp.exit ?_; try simp)
    | refine AWp.block ?_
    | (refine aop_call' (c1) ?_; simp)
    | (refine aop_call' (cA) ?_; simp)
    | (refine AWp.ret (post_ret1 rfl ?_); (simp [flagAt, hok]; done))
    | (refine guardI (fun hq => ?_) (fun hq => ?_) <;> (try simp at hq) <;> (try simp))
    | (refine condRunI (fun hq => ?_) (fun hq => ?_) <;> (try simp at hq) <;> (try simp))
    | (refine iteI (fun hq => ?_) (fun hq => ?_) <;> (try simp)))
  have hf := Pg.fine hok
  have hs := hf.size
  have hv := hf.vars
  have e : p.f0 = p.size + p.vars.length := by unfold Pg.f0; rw [hok]; rfl
  rw [e] at c1
  have hn0 : ¬ p.size + (p.vars.length : Int) < 0 := by omega
  cases x1 : inR h 0 3
  · rw [x1] at cA
    repeat' (first
    | refine AWp.seq ?_
    | (refine AWp.region allP (by kernel_rfl) ?_; simp [hn0])
    | (refine AWp.condG ?_; simp [hn0])
    | (refine AWp.skip ?_; try simp)
    | (refine AWp.exit ?_; try simp)
    | refine AWp.block ?_
    | (refine aop_call' (c1) ?_; simp [hn0])
    | (refine aop_call' (cA) ?_; simp [hn0])
    | (refine AWp.ret (post_ret1 rfl ?_); (simp [flagAt, x1]; done))
    | (refine guardI (fun hq => ?_) (fun hq => ?_) <;> (try simp at hq) <;> (try simp [hn0]))
    | (refine condRunI (fun hq => ?_) (fun hq => ?_) <;> (try simp at hq) <;> (try simp [hn0]))
    | (refine iteI (fun hq => ?_) (fun hq => ?_) <;> (try simp [hn0])))
  have y1 := x1
  unfold inR at y1
  simp at y1
  rw [x1] at cA
  have w1 : IntKind.wrap .i64 (p.size + p.vars.length + h) = p.size + p.vars.length + h := wrap64 (by omega) (by omega)
  repeat' (first
    | refine AWp.seq ?_
    | (refine AWp.region allP (by kernel_rfl) ?_; simp [hn0, w1])
    | (refine AWp.condG ?_; simp [hn0, w1])
    | (refine AWp.skip ?_; try simp)
    | (refine AWp.exit ?_; try simp)
    | refine AWp.block ?_
    | (refine aop_call' (c1) ?_; simp [hn0, w1])
    | (refine aop_call' (cA) ?_; simp [hn0, w1])
    | (refine AWp.ret (post_ret1 rfl ?_); (simp [flagAt, hok, x1]; done))
    | (refine guardI (fun hq => ?_) (fun hq => ?_) <;> (try simp at hq) <;> (try simp [hn0, w1]))
    | (refine condRunI (fun hq => ?_) (fun hq => ?_) <;> (try simp at hq) <;> (try simp [hn0, w1]))
    | (refine iteI (fun hq => ?_) (fun hq => ?_) <;> (try simp [hn0, w1])))
theorem c_impl_BarAt (p : Pg) (ht : p.tot ≤ 1048576) (h : Int) : PCall Tryz.prog 26 [p.av, .int .i64 h] (.int .i64 (barAt p h)) := by
  have c1 := c_impl_ProgOk p ht
  have cA := c_isAny h
  refine pcall_of Tryz.func26 (by kernel_rfl) rfl (by simp [Tryz.f26]) ?_
  have hc : p.cells = [.lst false 2 (p.arrs.map Ar.av), .lst false 19 (p.body.map Sm.av)] := rfl
  unfold Pg.av at *
  rw [hc] at *
  (repeat refine AWp.seq ?_); refine AWp.region noP (by kernel_rfl) ?_
  try simp
  intro g
  cases x1 : inR h 0 3
  · rw [x1] at cA
    repeat' (first
    | refine AWp.seq ?_
    | (refine AWp.region allP (by kernel_rfl) ?_; simp)
    | (refine AWp.condG ?_; simp)
    | (refine AWp.skip ?_; try simp)
    | (refine AWp.exit ?_; try simp)
    | refine AWp.block ?_
    | (refine aop_call' (cA) ?_; simp)
    | (refine aop_call' (c1) ?_; simp)
    | (refine AWp.ret (post_ret1 rfl ?_); (simp [barAt, x1]; done))
    | (refine guardI (fun hq => ?_) (fun hq => ?_) <;> (try simp at hq) <;> (try simp))
    | (refine condRunI (fun hq => ?_) (fun hq => ?_) <;> (try simp at hq) <;> (try simp))
    | (refine iteI (fun hq => ?_) (fun hq => ?_) <;> (try simp)))
  rw [x1] at cA
  cases hok : p.ok
  · rw [hok] at c1
    repeat' (first
    | refine AWp.seq ?_
    | (refine AWp.region allP (by kernel_rfl) ?_; simp)
    | (refine AWp.condG ?_; simp)
    | (refine AWp.skip ?_; try simp)
    | (refine AWp.exit ?_; try simp)
    | refine AWp.block ?_
    | (refine aop_call' (cA) ?_; simp)
    | (refine aop_call' (c1) ?_; simp)
    | (refine AWp.ret (post_ret1 rfl ?_); (simp [barAt, hok]; done))
    | (refine guardI (fun hq => ?_) (fun hq => ?_) <;> (try simp at hq) <;> (try simp))
    | (refine condRunI (fun hq => ?_) (fun hq => ?_) <;> (try simp at hq) <;> (try simp))
    | (refine iteI (fun hq => ?_) (fun hq => ?_) <;> (try simp)))
  have y1 := x1
  unfold inR at y1
  simp at y1
  have cL := c_layOf p ht (Pg.fine hok)
  unfold Pg.av at cL
  have cW := c_bar p (Pg.fine hok) h (by omega) (by omega)
  rw [hok] at c1
  repeat' (first
    | refine AWp.seq ?_
    | (refine AWp.region allP (by kernel_rfl) ?_; simp)
    | (refine AWp.condG ?_; simp)
    | (refine AWp.skip ?_; try simp)
    | (refine AWp.exit ?_; try simp)
    | refine AWp.block ?_
    | (refine aop_call' (cA) ?_; simp)
    | (refine aop_call' (c1) ?_; simp)
    | (refine aop_call' (cL) ?_; simp)
    | (refine aop_call' (cW) ?_; simp)
    | (refine AWp.ret (post_ret1 rfl ?_); (simp [barAt, hok, x1]; done))
    | (refine guardI (fun hq => ?_) (fun hq => ?_) <;> (try simp at hq) <;> (try simp))
    | (refine condRunI (fun hq => ?_) (fun hq => ?_) <;> (try simp at hq) <;> (try simp))
    | (refine iteI (fun hq => ?_) (fun hq => ?_) <;> (try simp)))
theorem c_spec_BarAt (p : Pg) (ht : p.tot ≤ 1048576) (h : Int) : PCall Tryz.prog 25 [p.av, .int .i64 h] (.int .i64 (barAt p h)) := by
  have c1 := c_l15Flags p ht
  have cA := c_l1In h 0 3
  refine pcall_of Tryz.func25 (by kernel_rfl) rfl (by simp [Tryz.f25]) ?_
  have hc : p.cells = [.lst false 2 (p.arrs.map Ar.av), .lst false 19 (p.body.map Sm.av)] := rfl
  unfold Pg.av at *
  rw [hc] at *
  (repeat refine AWp.seq ?_); refine AWp.region noP (by kernel_rfl) ?_
  try simp
  intro g
  cases hok : p.ok
  · have e : p.f0 = -1 := by unfold Pg.f0; rw [hok]; rfl
    rw [e] at c1
    repeat' (first
    | refine AWp.seq ?_
    | (refine AWp.region allP (by kernel_rfl) ?_; simp)
    | (refine AWp.condG ?_; simp)
    | (refine AWp.skip ?_; try simp)
    | (refine AWp.exit ?_; try simp)
    | refine AWp.block ?_
    | (refine aop_call' (c1) ?_; simp)
    | (refine aop_call' (cA) ?_; simp)
    | (refine AWp.ret (post_ret1 rfl ?_); (simp [barAt, hok]; done))
    | (refine guardI (fun hq => ?_) (fun hq => ?_) <;> (try simp at hq) <;> (try simp))
    | (refine condRunI (fun hq => ?_) (fun hq => ?_) <;> (try simp at hq) <;> (try simp))
    | (refine iteI (fun hq => ?_) (fun hq => ?_) <;> (try simp)))
  have hf := Pg.fine hok
  have hs := hf.size
  have hv := hf.vars
  have e : p.f0 = p.size + p.vars.length := by unfold Pg.f0; rw [hok]; rfl
  rw [e] at c1
  have hn0 : ¬ p.size + (p.vars.length : Int) < 0 := by omega
  cases x1 : inR h 0 3
  · rw [x1] at cA
    repeat' (first
    | refine AWp.seq ?_
    | (refine AWp.region allP (by kernel_rfl) ?_; simp [hn0])
    | (refine AWp.condG ?_; simp [hn0])
    | (refine AWp.skip ?_; try simp)
    | (refine AWp.exit ?_; try simp)
    | refine AWp.block ?_
    | (refine aop_call' (c1) ?_; simp [hn0])
    | (refine aop_call' (cA) ?_; simp [hn0])
    | (refine AWp.ret (post_ret1 rfl ?_); (simp [barAt, x1]; done))
    | (refine guardI (fun hq => ?_) (fun hq => ?_) <;> (try simp at hq) <;> (try simp [hn0]))
    | (refine condRunI (fun hq => ?_) (fun hq => ?_) <;> (try simp at hq) <;> (try simp [hn0]))
    | (refine iteI (fun hq => ?_) (fun hq => ?_) <;> (try simp [hn0])))
  have y1 := x1
  unfold inR at y1
  simp at y1
  rw [x1] at cA
  have w1 : IntKind.wrap .i64 (p.size + p.vars.length + 28) = p.size + p.vars.length + 28 := wrap64 (by omega) (by omega)
  have w2 : IntKind.wrap .i64 (p.size + p.vars.length + 28 + h) = p.size + p.vars.length + 28 + h := wrap64 (by omega) (by omega)
  repeat' (first
    | refine AWp.seq ?_
    | (refine AWp.region allP (by kernel_rfl) ?_; simp [hn0, w1, w2])
    | (refine AWp.condG ?_; simp [hn0, w1, w2])
    | (refine AWp.skip ?_; try simp)
    | (refine AWp.exit ?_; try simp)
    | refine AWp.block ?_
    | (refine aop_call' (c1) ?_; simp [hn0, w1, w2])
    | (refine aop_call' (cA) ?_; simp [hn0, w1, w2])
    | (refine AWp.ret (post_ret1 rfl ?_); (simp [barAt, hok, x1]; done))
    | (refine guardI (fun hq => ?_) (fun hq => ?_) <;> (try simp at hq) <;> (try simp [hn0, w1, w2]))
    | (refine condRunI (fun hq => ?_) (fun hq => ?_) <;> (try simp at hq) <;> (try simp [hn0, w1, w2]))
    | (refine iteI (fun hq => ?_) (fun hq => ?_) <;> (try simp [hn0, w1, w2])))
theorem c_impl_SlotAt (p : Pg) (ht : p.tot ≤ 1048576) (h k : Int) : PCall Tryz.prog 24 [p.av, .int .i64 h, .int .i64 k] (.int .i64 (slotAt p h k)) := by
  have c1 := c_impl_ProgOk p ht
  have cA := c_isAny h
  have cK := c_inRange k 0 5
  refine pcall_of Tryz.func24 (by kernel_rfl) rfl (by simp [Tryz.f24]) ?_
  have hc : p.cells = [.lst false 2 (p.arrs.map Ar.av), .lst false 19 (p.body.map Sm.av)] := rfl
  unfold Pg.av at *
  rw [hc] at *
  (repeat refine AWp.seq ?_); refine AWp.region noP (by kernel_rfl) ?_
  try simp
  intro g
  cases x1 : inR h 0 3
  · rw [x1] at cA
    repeat' (first
    | refine AWp.seq ?_
    | (refine AWp.region allP (by kernel_rfl) ?_; simp)
    | (refine AWp.condG ?_; simp)
    | (refine AWp.skip ?_; try simp)
    | (refine AWp.exit ?_; try simp)
    | refine AWp.block ?_
    | (refine aop_call' (cA) ?_; simp)
    | (refine aop_call' (cK) ?_; simp)
    | (refine aop_call' (c1) ?_; simp)
    | (refine AWp.ret (post_ret1 rfl ?_); (simp [slotAt, x1]; done))
    | (refine guardI (fun hq => ?_) (fun hq => ?_) <;> (try simp at hq) <;> (try simp))
    | (refine condRunI (fun hq => ?_) (fun hq => ?_) <;> (try simp at hq) <;> (try simp))
    | (refine iteI (fun hq => ?_) (fun hq => ?_) <;> (try simp)))
  rw [x1] at cA
  cases x2 : inR k 0 5
  · rw [x2] at cK
    repeat' (first
    | refine AWp.seq ?_
    | (refine AWp.region allP (by kernel_rfl) ?_; simp)
    | (refine AWp.condG ?_; simp)
    | (refine AWp.skip ?_; try simp)
    | (refine AWp.exit ?_; try simp)
    | refine AWp.block ?_
    | (refine aop_call' (cA) ?_; simp)
    | (refine aop_call' (cK) ?_; simp)
    | (refine aop_call' (c1) ?_; simp)
    | (refine AWp.ret (post_ret1 rfl ?_); (simp [slotAt, x2]; done))
    | (refine guardI (fun hq => ?_) (fun hq => ?_) <;> (try simp at hq) <;> (try simp))
    | (refine condRunI (fun hq => ?_) (fun hq => ?_) <;> (try simp at hq) <;> (try simp))
    | (refine iteI (fun hq => ?_) (fun hq => ?_) <;> (try simp)))
  rw [x2] at cK
  cases hok : p.ok
  · rw [hok] at c1
    repeat' (first
    | refine AWp.seq ?_
    | (refine AWp.region allP (by kernel_rfl) ?_; simp)
    | (refine AWp.condG ?_; simp)
    | (refine AWp.skip ?_; try simp)
    | (refine AWp.exit ?_; try simp)
    | refine AWp.block ?_
    | (refine aop_call' (cA) ?_; simp)
    | (refine aop_call' (cK) ?_; simp)
    | (refine aop_call' (c1) ?_; simp)
    | (refine AWp.ret (post_ret1 rfl ?_); (simp [slotAt, hok]; done))
    | (refine guardI (fun hq => ?_) (fun hq => ?_) <;> (try simp at hq) <;> (try simp))
    | (refine condRunI (fun hq => ?_) (fun hq => ?_) <;> (try simp at hq) <;> (try simp))
    | (refine iteI (fun hq => ?_) (fun hq => ?_) <;> (try simp)))
  have y1 := x1
  have y2 := x2
  unfold inR at y1 y2
  simp at y1 y2
  have cL := c_layOf p ht (Pg.fine hok)
  unfold Pg.av at cL
  have cW := c_slot p (Pg.fine hok) h k (by omega) (by omega) (by omega) (by omega)
  rw [hok] at c1
  repeat' (first
    | refine AWp.seq ?_
    | (refine AWp.region allP (by kernel_rfl) ?_; simp)
    | (refine AWp.condG ?_; simp)
    | (refine AWp.skip ?_; try simp)
    | (refine AWp.exit ?_; try simp)
    | refine AWp.block ?_
    | (refine aop_call' (cA) ?_; simp)
    | (refine aop_call' (cK) ?_; simp)
    | (refine aop_call' (c1) ?_; simp)
    | (refine aop_call' (cL) ?_; simp)
    | (refine aop_call' (cW) ?_; simp)
    | (refine AWp.ret (post_ret1 rfl ?_); (simp [slotAt, hok, x1, x2]; done))
    | (refine guardI (fun hq => ?_) (fun hq => ?_) <;> (try simp at hq) <;> (try simp))
    | (refine condRunI (fun hq => ?_) (fun hq => ?_) <;> (try simp at hq) <;> (try simp))
    | (refine iteI (fun hq => ?_) (fun hq => ?_) <;> (try simp)))
theorem c_spec_SlotAt (p : Pg) (ht : p.tot ≤ 1048576) (h k : Int) : PCall Tryz.prog 23 [p.av, .int .i64 h, .int .i64 k] (.int .i64 (slotAt p h k)) := by
  have c1 := c_l15Flags p ht
  have cA := c_l1In h 0 3
  have cK := c_l1In k 0 5
  refine pcall_of Tryz.func23 (by kernel_rfl) rfl (by simp [Tryz.f23]) ?_
  have hc : p.cells = [.lst false 2 (p.arrs.map Ar.av), .lst false 19 (p.body.map Sm.av)] := rfl
  unfold Pg.av at *
  rw [hc] at *
  (repeat refine AWp.seq ?_); refine AWp.region noP (by kernel_rfl) ?_
  try simp
  intro g
  cases hok : p.ok
  · have e : p.f0 = -1 := by unfold Pg.f0; rw [hok]; rfl
    rw [e] at c1
    repeat' (first
    | refine AWp.seq ?_
    | (refine AWp.region allP (by kernel_rfl) ?_; simp)
    | (refine AWp.condG ?_; simp)
    | (refine AWp.skip ?_; try simp)
    | (refine AWp.exit ?_; try simp)
    | refine AWp.block ?_
    | (refine aop_call' (c1) ?_; simp)
    | (refine aop_call' (cA) ?_; simp)
    | (refine aop_call' (cK) ?_; simp)
    | (refine AWp.ret (post_ret1 rfl ?_); (simp [slotAt, hok]; done))
    | (refine guardI (fun hq => ?_) (fun hq => ?_) <;> (try simp at hq) <;> (try simp))
    | (refine condRunI (fun hq => ?_) (fun hq => ?_) <;> (try simp at hq) <;> (try simp))
    | (refine iteI (fun hq => ?_) (fun hq => ?_) <;> (try simp)))
  have hf := Pg.fine hok
  have hs := hf.size
  have hv := hf.vars
  have e : p.f0 = p.size + p.vars.length := by unfold Pg.f0; rw [hok]; rfl
  rw [e] at c1
  have hn0 : ¬ p.size + (p.vars.length : Int) < 0 := by omega
  cases x1 : inR h 0 3
  · rw [x1] at cA
    repeat' (first
    | refine AWp.seq ?_
    | (refine AWp.region allP (by kernel_rfl) ?_; simp [hn0])
    | (refine AWp.condG ?_; simp [hn0])
    | (refine AWp.skip ?_; try simp)
    | (refine AWp.exit ?_; try simp)
    | refine AWp.block ?_
    | (refine aop_call' (c1) ?_; simp [hn0])
    | (refine aop_call' (cA) ?_; simp [hn0])
    | (refine aop_call' (cK) ?_; simp [hn0])
    | (refine AWp.ret (post_ret1 rfl ?_); (simp [slotAt, x1]; done))
    | (refine guardI (fun hq => ?_) (fun hq => ?_) <;> (try simp at hq) <;> (try simp [hn0]))
    | (refine condRunI (fun hq => ?_) (fun hq => ?_) <;> (try simp at hq) <;> (try simp [hn0]))
    | (refine iteI (fun hq => ?_) (fun hq => ?_) <;> (try simp [hn0])))
  rw [x1] at cA
  cases x2 : inR k 0 5
  · rw [x2] at cK
    repeat' (first
    | refine AWp.seq ?_
    | (refine AWp.region allP (by kernel_rfl) ?_; simp [hn0])
    | (refine AWp.condG ?_; simp [hn0])
    | (refine AWp.skip ?_; try simp)
    | (refine AWp.exit ?_; try simp)
    | refine AWp.block ?_
    | (refine aop_call' (c1) ?_; simp [hn0])
    | (refine aop_call' (cA) ?_; simp [hn0])
    | (refine aop_call' (cK) ?_; simp [hn0])
    | (refine AWp.ret (post_ret1 rfl ?_); (simp [slotAt, x2]; done))
    | (refine guardI (fun hq => ?_) (fun hq => ?_) <;> (try simp at hq) <;> (try simp [hn0]))
    | (refine condRunI (fun hq => ?_) (fun hq => ?_) <;> (try simp at hq) <;> (try simp [hn0]))
    | (refine iteI (fun hq => ?_) (fun hq => ?_) <;> (try simp [hn0])))
  rw [x2] at cK
  have y1 := x1
  have y2 := x2
  unfold inR at y1 y2
  simp at y1 y2
  have w1 : IntKind.wrap .i64 (p.size + p.vars.length + 4) = p.size + p.vars.length + 4 := wrap64 (by omega) (by omega)
  have w2 : IntKind.wrap .i64 (6 * h) = 6 * h := wrap64 (by omega) (by omega)
  have w3 : IntKind.wrap .i64 (p.size + p.vars.length + 4 + 6 * h) = p.size + p.vars.length + 4 + 6 * h := wrap64 (by omega) (by omega)
  have w4 : IntKind.wrap .i64 (p.size + p.vars.length + 4 + 6 * h + k) = p.size + p.vars.length + 4 + 6 * h + k := wrap64 (by omega) (by omega)
  repeat' (first
    | refine AWp.seq ?_
    | (refine AWp.region allP (by kernel_rfl) ?_; simp [hn0, w1, w2, w3, w4])
    | (refine AWp.condG ?_; simp [hn0, w1, w2, w3, w4])
    | (refine AWp.skip ?_; try simp)
    | (refine AWp.exit ?_; try simp)
    | refine AWp.block ?_
    | (refine aop_call' (c1) ?_; simp [hn0, w1, w2, w3, w4])
    | (refine aop_call' (cA) ?_; simp [hn0, w1, w2, w3, w4])
    | (refine aop_call' (cK) ?_; simp [hn0, w1, w2, w3, w4])
    | (refine AWp.ret (post_ret1 rfl ?_); (simp [slotAt, hok, x1, x2]; done))
    | (refine guardI (fun hq => ?_) (fun hq => ?_) <;> (try simp at hq) <;> (try simp [hn0, w1, w2, w3, w4]))
    | (refine condRunI (fun hq => ?_) (fun hq => ?_) <;> (try simp at hq) <;> (try simp [hn0, w1, w2, w3, w4]))
    | (refine iteI (fun hq => ?_) (fun hq => ?_) <;> (try simp [hn0, w1, w2, w3, w4])))
theorem c_impl_MemSize (p : Pg) (ht : p.tot ≤ 1048576) : PCall Tryz.prog 28 [p.av] (.int .i64 (memSize p)) := by
  have c1 := c_impl_ProgOk p ht
  refine pcall_of Tryz.func28 (by kernel_rfl) rfl (by simp [Tryz.f28]) ?_
  have hc : p.cells = [.lst false 2 (p.arrs.map Ar.av), .lst false 19 (p.body.map Sm.av)] := rfl
  unfold Pg.av at *
  rw [hc] at *
  (repeat refine AWp.seq ?_); refine AWp.region noP (by kernel_rfl) ?_
  try simp
  intro g
  cases hok : p.ok
  · rw [hok] at c1
    repeat' (first
    | refine AWp.seq ?_
    | (refine AWp.region allP (by kernel_rfl) ?_; simp)
    | (refine AWp.condG ?_; simp)
    | (refine AWp.skip ?_; try simp)
    | (refine AWp.exit ?_; try simp)
    | refine AWp.block ?_
    | (refine aop_call' (c1) ?_; simp)
    | (refine AWp.ret (post_ret1 rfl ?_); (simp [memSize, hok]; done))
    | (refine guardI (fun hq => ?_) (fun hq => ?_) <;> (try simp at hq) <;> (try simp))
    | (refine condRunI (fun hq => ?_) (fun hq => ?_) <;> (try simp at hq) <;> (try simp))
    | (refine iteI (fun hq => ?_) (fun hq => ?_) <;> (try simp)))
  have cL := c_layOf p ht (Pg.fine hok)
  unfold Pg.av at cL
  have cW := c_mem p (Pg.fine hok)
  rw [hok] at c1
  repeat' (first
    | refine AWp.seq ?_
    | (refine AWp.region allP (by kernel_rfl) ?_; simp)
    | (refine AWp.condG ?_; simp)
    | (refine AWp.skip ?_; try simp)
    | (refine AWp.exit ?_; try simp)
    | refine AWp.block ?_
    | (refine aop_call' (c1) ?_; simp)
    | (refine aop_call' (cL) ?_; simp)
    | (refine aop_call' (cW) ?_; simp)
    | (refine AWp.ret (post_ret1 rfl ?_); (simp [memSize, hok]; done))
    | (refine guardI (fun hq => ?_) (fun hq => ?_) <;> (try simp at hq) <;> (try simp))
    | (refine condRunI (fun hq => ?_) (fun hq => ?_) <;> (try simp at hq) <;> (try simp))
    | (refine iteI (fun hq => ?_) (fun hq => ?_) <;> (try simp)))
theorem c_spec_MemSize (p : Pg) (ht : p.tot ≤ 1048576) : PCall Tryz.prog 27 [p.av] (.int .i64 (memSize p)) := by
  have c1 := c_l15Flags p ht
  refine pcall_of Tryz.func27 (by kernel_rfl) rfl (by simp [Tryz.f27]) ?_
  have hc : p.cells = [.lst false 2 (p.arrs.map Ar.av), .lst false 19 (p.body.map Sm.av)] := rfl
  unfold Pg.av at *
  rw [hc] at *
  (repeat refine AWp.seq ?_); refine AWp.region noP (by kernel_rfl) ?_
  try simp
  intro g
  cases hok : p.ok
  · have e : p.f0 = -1 := by unfold Pg.f0; rw [hok]; rfl
    rw [e] at c1
    repeat' (first
    | refine AWp.seq ?_
    | (refine AWp.region allP (by kernel_rfl) ?_; simp)
    | (refine AWp.condG ?_; simp)
    | (refine AWp.skip ?_; try simp)
    | (refine AWp.exit ?_; try simp)
    | refine AWp.block ?_
    | (refine aop_call' (c1) ?_; simp)
    | (refine AWp.ret (post_ret1 rfl ?_); (simp [memSize, hok]; done))
    | (refine guardI (fun hq => ?_) (fun hq => ?_) <;> (try simp at hq) <;> (try simp))
    | (refine condRunI (fun hq => ?_) (fun hq => ?_) <;> (try simp at hq) <;> (try simp))
    | (refine iteI (fun hq => ?_) (fun hq => ?_) <;> (try simp)))
  have hf := Pg.fine hok
  have hs := hf.size
  have hv := hf.vars
  have e : p.f0 = p.size + p.vars.length := by unfold Pg.f0; rw [hok]; rfl
  rw [e] at c1
  have hn0 : ¬ p.size + (p.vars.length : Int) < 0 := by omega
  have w1 : IntKind.wrap .i64 (p.size + p.vars.length + 32) = p.size + p.vars.length + 32 := wrap64 (by omega) (by omega)
  repeat' (first
    | refine AWp.seq ?_
    | (refine AWp.region allP (by kernel_rfl) ?_; simp [hn0, w1])
    | (refine AWp.condG ?_; simp [hn0, w1])
    | (refine AWp.skip ?_; try simp)
    | (refine AWp.exit ?_; try simp)
    | refine AWp.block ?_
    | (refine aop_call' (c1) ?_; simp [hn0, w1])
    | (refine AWp.ret (post_ret1 rfl ?_); (simp [memSize, hok]; done))
    | (refine guardI (fun hq => ?_) (fun hq => ?_) <;> (try simp at hq) <;> (try simp [hn0, w1]))
    | (refine condRunI (fun hq => ?_) (fun hq => ?_) <;> (try simp at hq) <;> (try simp [hn0, w1]))
    | (refine iteI (fun hq => ?_) (fun hq => ?_) <;> (try simp [hn0, w1])))
theorem c_impl_BaseOf (p : Pg) (ht : p.tot ≤ 1048576) (k : Int) : PCall Tryz.prog 18 [p.av, .int .i64 k] (.int .i64 (baseOf p k)) := by
  have c1 := c_impl_ProgOk p ht
  obtain ⟨L0, L1, L3, L2, L4⟩ := p.lens ht
  have w1 : IntKind.wrap .i64 ((p.arrs.length : Int) - 1) = (p.arrs.length : Int) - 1 := wrap64 (by omega) (by omega)
  have cA := c_inRange k 0 ((p.arrs.length : Int) - 1)
  refine pcall_of Tryz.func18 (by kernel_rfl) rfl (by simp [Tryz.f18]) ?_
  have hc : p.cells = [.lst false 2 (p.arrs.map Ar.av), .lst false 19 (p.body.map Sm.av)] := rfl
  unfold Pg.av at *
  rw [hc] at *
  (repeat refine AWp.seq ?_); refine AWp.region noP (by kernel_rfl) ?_
  try simp
  intro g
  cases x1 : inR k 0 ((p.arrs.length : Int) - 1)
  · rw [x1] at cA
    repeat' (first
    | refine AWp.seq ?_
    | (refine AWp.region allP (by kernel_rfl) ?_; simp [w1])
    | (refine AWp.condG ?_; simp [w1])
    | (refine AWp.skip ?_; try simp)
    | (refine AWp.exit ?_; try simp)
    | refine AWp.block ?_
    | (refine aop_call' (cA) ?_; simp [w1])
    | (refine aop_call' (c1) ?_; simp [w1])
    | (refine AWp.ret (post_ret1 rfl ?_); (simp [baseOf, x1]; done))
    | (refine guardI (fun hq => ?_) (fun hq => ?_) <;> (try simp at hq) <;> (try simp [w1]))
    | (refine condRunI (fun hq => ?_) (fun hq => ?_) <;> (try simp at hq) <;> (try simp [w1]))
    | (refine iteI (fun hq => ?_) (fun hq => ?_) <;> (try simp [w1])))
  rw [x1] at cA
  cases hok : p.ok
  · rw [hok] at c1
    repeat' (first
    | refine AWp.seq ?_
    | (refine AWp.region allP (by kernel_rfl) ?_; simp [w1])
    | (refine AWp.condG ?_; simp [w1])
    | (refine AWp.skip ?_; try simp)
    | (refine AWp.exit ?_; try simp)
    | refine AWp.block ?_
    | (refine aop_call' (cA) ?_; simp [w1])
    | (refine aop_call' (c1) ?_; simp [w1])
    | (refine AWp.ret (post_ret1 rfl ?_); (simp [baseOf, hok]; done))
    | (refine guardI (fun hq => ?_) (fun hq => ?_) <;> (try simp at hq) <;> (try simp [w1]))
    | (refine condRunI (fun hq => ?_) (fun hq => ?_) <;> (try simp at hq) <;> (try simp [w1]))
    | (refine iteI (fun hq => ?_) (fun hq => ?_) <;> (try simp [w1])))
  have y1 := x1
  unfold inR at y1
  simp at y1
  obtain ⟨k, rfl⟩ := Int.eq_ofNat_of_zero_le y1.1
  have cL := c_layOf p ht (Pg.fine hok)
  unfold Pg.av at cL
  have cW := c_base p (Pg.fine hok) k (by omega)
  rw [hok] at c1
  repeat' (first
    | refine AWp.seq ?_
    | (refine AWp.region allP (by kernel_rfl) ?_; simp [w1])
    | (refine AWp.condG ?_; simp [w1])
    | (refine AWp.skip ?_; try simp)
    | (refine AWp.exit ?_; try simp)
    | refine AWp.block ?_
    | (refine aop_call' (cA) ?_; simp [w1])
    | (refine aop_call' (c1) ?_; simp [w1])
    | (refine aop_call' (cL) ?_; simp [w1])
    | (refine aop_call' (cW) ?_; simp [w1])
    | (refine AWp.ret (post_ret1 rfl ?_); (simp [baseOf, hok, x1]; done))
    | (refine guardI (fun hq => ?_) (fun hq => ?_) <;> (try simp at hq) <;> (try simp [w1]))
    | (refine condRunI (fun hq => ?_) (fun hq => ?_) <;> (try simp at hq) <;> (try simp [w1]))
    | (refine iteI (fun hq => ?_) (fun hq => ?_) <;> (try simp [w1])))
theorem c_spec_BaseOf (p : Pg) (ht : p.tot ≤ 1048576) (k : Int) : PCall Tryz.prog 17 [p.av, .int .i64 k] (.int .i64 (baseOf p k)) := by
  have c1 := c_l15Vars p ht
  obtain ⟨L0, L1, L3, L2, L4⟩ := p.lens ht
  have w1 : IntKind.wrap .i64 ((p.arrs.length : Int) - 1) = (p.arrs.length : Int) - 1 := wrap64 (by omega) (by omega)
  have cA := c_l1In k 0 ((p.arrs.length : Int) - 1)
  refine pcall_of Tryz.func17 (by kernel_rfl) rfl (by simp [Tryz.f17]) ?_
  have hc : p.cells = [.lst false 2 (p.arrs.map Ar.av), .lst false 19 (p.body.map Sm.av)] := rfl
  unfold Pg.av at *
  rw [hc] at *
  (repeat refine AWp.seq ?_); refine AWp.region noP (by kernel_rfl) ?_
  try simp
  intro g
  cases hok : p.ok
  · have e : p.v0 = -1 := by unfold Pg.v0; rw [hok]; rfl
    rw [e] at c1
    repeat' (first
    | refine AWp.seq ?_
    | (refine AWp.region allP (by kernel_rfl) ?_; simp [w1])
    | (refine AWp.condG ?_; simp [w1])
    | (refine AWp.skip ?_; try simp)
    | (refine AWp.exit ?_; try simp)
    | refine AWp.block ?_
    | (refine aop_call' (c1) ?_; simp [w1])
    | (refine aop_call' (cA) ?_; simp [w1])
    | (refine AWp.ret (post_ret1 rfl ?_); (simp [baseOf, hok]; done))
    | (refine guardI (fun hq => ?_) (fun hq => ?_) <;> (try simp at hq) <;> (try simp [w1]))
    | (refine condRunI (fun hq => ?_) (fun hq => ?_) <;> (try simp at hq) <;> (try simp [w1]))
    | (refine iteI (fun hq => ?_) (fun hq => ?_) <;> (try simp [w1])))
  have hf := Pg.fine hok
  have hs := hf.size
  have e : p.v0 = p.size := by unfold Pg.v0; rw [hok]; rfl
  rw [e] at c1
  have hn0 : ¬ p.size < 0 := by omega
  cases x1 : inR k 0 ((p.arrs.length : Int) - 1)
  · rw [x1] at cA
    repeat' (first
    | refine AWp.seq ?_
    | (refine AWp.region allP (by kernel_rfl) ?_; simp [hn0, w1])
    | (refine AWp.condG ?_; simp [hn0, w1])
    | (refine AWp.skip ?_; try simp)
    | (refine AWp.exit ?_; try simp)
    | refine AWp.block ?_
    | (refine aop_call' (c1) ?_; simp [hn0, w1])
    | (refine aop_call' (cA) ?_; simp [hn0, w1])
    | (refine AWp.ret (post_ret1 rfl ?_); (simp [baseOf, x1]; done))
    | (refine guardI (fun hq => ?_) (fun hq => ?_) <;> (try simp at hq) <;> (try simp [hn0, w1]))
    | (refine condRunI (fun hq => ?_) (fun hq => ?_) <;> (try simp at hq) <;> (try simp [hn0, w1]))
    | (refine iteI (fun hq => ?_) (fun hq => ?_) <;> (try simp [hn0, w1])))
  rw [x1] at cA
  have y1 := x1
  unfold inR at y1
  simp at y1
  obtain ⟨k, rfl⟩ := Int.eq_ofNat_of_zero_le y1.1
  (repeat refine AWp.seq ?_); refine AWp.region allP (by kernel_rfl) ?_
  try simp
  refine aop_call' c1 ?_
  simp [hn0, w1]
  refine aop_call' cA ?_
  try simp
  (repeat refine AWp.seq ?_); refine AWp.condF (by simp) ?_
  refine AWp.skip ?_
  try simp
  (repeat refine AWp.seq ?_); refine AWp.region noP (by kernel_rfl) ?_
  try simp
  (repeat refine AWp.seq ?_); refine AWp.region noP (by kernel_rfl) ?_
  try simp
  (try refine AWp.seq ?_)
  refine AWp.cutA (fun st => st.slots 5 = .int .i64 (sumN (p.arrs.take k))) ?_ ?_
  · refine AWp.block (AWp.rounds (fun n st => ∃ (i : Nat), n = k - i ∧ i ≤ k ∧ st.slots 2 = .ptr g 0 ∧ st.mem g = some (.box [.lst false 2 (p.arrs.map Ar.av), .lst false 19 (p.body.map Sm.av)]) ∧ st.slots 1 = .int .i64 k ∧ st.slots 6 = .int .i64 i ∧ st.slots 5 = .int .i64 (sumN (p.arrs.take i))) k ⟨0, by simp, by simp, by simp, by simp, by simp, by simp, by simp [sumN]⟩ ?_)
    rintro R n st hR ⟨i, rfl, hi, s2, sg, s1, s6, s5⟩
    (repeat refine AWp.seq ?_); refine AWp.region noP (by kernel_rfl) ?_
    simp [s1, s6]
    (repeat refine AWp.seq ?_); refine AWp.cond (b := decide (i < k)) (by simp) (fun hb => ?_) (fun hb => ?_)
    · simp at hb
      have hb0 : i < p.arrs.length := by omega
      have hg : p.arrs[i]? = some p.arrs[i] := List.getElem?_eq_getElem hb0
      have hx : ∀ m, idxA Tryz.prog m 28 (.lst false 2 (p.arrs.map Ar.av)) (.int .i64 i) = some (.ref [.str p.arrs[i].s, .int .i64 p.arrs[i].n]) := fun m => idx (y := p.arrs[i].av) es_28 (by simp [hg])
      have hw : IntKind.wrap .i64 ((i : Int) + 1) = (i + 1 : Nat) := wrap64 (by omega) (by omega)
      have hb1 := hf.take i
      have hb2 := hf.take (i + 1)
      have hsu := sumN_succ p.arrs i hb0
      have hw2 : IntKind.wrap .i64 (sumN (p.arrs.take i) + p.arrs[i].n) = sumN (p.arrs.take (i + 1)) := by rw [wrap64 (by omega) (by omega), hsu]
      refine AWp.skip ?_
      try simp
      (repeat refine AWp.seq ?_); refine AWp.block ?_; (repeat refine AWp.seq ?_); refine AWp.region noP (by kernel_rfl) ?_
      simp [s2, sg, s5, s6, hx, hw2]
      (repeat refine AWp.seq ?_); refine AWp.region noP (by kernel_rfl) ?_
      simp [s6, hw]
      exact hR _ (k - (i + 1)) (by omega) ⟨i + 1, rfl, hb, by simp [s2], by simp [sg], by simp [s1], by simp, by simp⟩
    · simp at hb
      refine AWp.exit ?_
      have : i = k := by omega
      subst this
      simp [s5]
  intro st s5
  (repeat refine AWp.seq ?_); refine AWp.region noP (by kernel_rfl) ?_
  simp [s5]
  exact AWp.ret (post_ret1 rfl (by simp [baseOf, hok, x1]))
end Go.T
namespace Go.T
open Go Go.Proofs
set_option maxRecDepth 10000
set_option linter.unusedSimpArgs false
set_option linter.unusedVariables false
theorem c_FnExactRegAt (p : Pg) (hf : p.fit) (x0 : ByteArray) : PCall Tryz.prog 3 [p.av, .str x0] (.bool true) := by
  refine pcall_of Tryz.func3 (by kernel_rfl) rfl (by simp [Tryz.f3]) ?_
  have cs := c_szProg p hf 1048576 (by omega) (by omega)
  by_cases hqx0 : x0.size ≤ 1048576
  rotate_left
  · have hq : (1048576 : Int) < x0.size := by omega
    unfold Pg.av at cs ⊢
    (repeat refine AWp.seq ?_); refine AWp.region noP (by kernel_rfl) ?_
    try simp
    intro g
    repeat' (first
    | refine AWp.seq ?_
    | (refine AWp.region allP (by kernel_rfl) ?_; simp [hq])
    | (refine AWp.condG ?_; simp [hq])
    | (refine AWp.skip ?_; try simp)
    | (refine AWp.exit ?_; try simp)
    | refine AWp.block ?_
    | (refine aop_call' (cs) ?_; simp [hq])
    | (refine AWp.ret (post_ret1 rfl ?_); (simp; done))
    | (refine guardI (fun hq => ?_) (fun hq => ?_) <;> (try simp at hq) <;> (try simp [hq]))
    | (refine condRunI (fun hq => ?_) (fun hq => ?_) <;> (try simp at hq) <;> (try simp [hq]))
    | (refine iteI (fun hq => ?_) (fun hq => ?_) <;> (try simp [hq])))
  have hrx0 : ¬ (1048576 : Int) < x0.size := by omega
  by_cases hb : p.tot ≤ 1048576
  · have hs : szr p.tot 1048576 = 1048576 - p.tot := szr_pos (by omega)
    have hs2 : ¬ (1048576 - (p.tot : Int) < 0) := by omega
    rw [hs] at cs
    have ct := c_toProg0 p hb
    have ce := c_eqProg0 p hb
    have c1 := c_spec_RegAt p hb x0
    have c2 := c_impl_RegAt p hb x0
    unfold Pg.av at cs ct ce c1 c2 ⊢
    (repeat refine AWp.seq ?_); refine AWp.region noP (by kernel_rfl) ?_
    try simp
    intro g
    repeat' (first
    | refine AWp.seq ?_
    | (refine AWp.region allP (by kernel_rfl) ?_; simp [hs2, hrx0])
    | (refine AWp.condG ?_; simp [hs2, hrx0])
    | (refine AWp.skip ?_; try simp)
    | (refine AWp.exit ?_; try simp)
    | refine AWp.block ?_
    | (refine aop_call' (cs) ?_; simp [hs2, hrx0])
    | (refine aop_call' (ct) ?_; simp [hs2, hrx0])
    | (refine aop_call' (ce) ?_; simp [hs2, hrx0])
    | (refine aop_call' (c1) ?_; simp [hs2, hrx0])
    | (refine aop_call' (c2) ?_; simp [hs2, hrx0])
    | (refine AWp.ret (post_ret1 rfl ?_); (simp; done))
    | (refine guardI (fun hq => ?_) (fun hq => ?_) <;> (try simp at hq) <;> (try simp [hs2, hrx0]))
    | (refine condRunI (fun hq => ?_) (fun hq => ?_) <;> (try simp at hq) <;> (try simp [hs2, hrx0]))
    | (refine iteI (fun hq => ?_) (fun hq => ?_) <;> (try simp [hs2, hrx0])))
    intro g2 h2
    have n21 : g2 ≠ g := fun e => by simp [e, set_at] at h2
    have m12 := n21.symm
    repeat' (first
    | refine AWp.seq ?_
    | (refine AWp.region allP (by kernel_rfl) ?_; simp [set_at, n21, m12, hrx0])
    | (refine AWp.condG ?_; simp [set_at, n21, m12, hrx0])
    | (refine AWp.skip ?_; try simp)
    | (refine AWp.exit ?_; try simp)
    | refine AWp.block ?_
    | (refine aop_call' (cs) ?_; simp [set_at, n21, m12, hrx0])
    | (refine aop_call' (ct) ?_; simp [set_at, n21, m12, hrx0])
    | (refine aop_call' (ce) ?_; simp [set_at, n21, m12, hrx0])
    | (refine aop_call' (c1) ?_; simp [set_at, n21, m12, hrx0])
    | (refine aop_call' (c2) ?_; simp [set_at, n21, m12, hrx0])
    | (refine AWp.ret (post_ret1 rfl ?_); (simp; done))
    | (refine guardI (fun hq => ?_) (fun hq => ?_) <;> (try simp at hq) <;> (try simp [set_at, n21, m12, hrx0]))
    | (refine condRunI (fun hq => ?_) (fun hq => ?_) <;> (try simp at hq) <;> (try simp [set_at, n21, m12, hrx0]))
    | (refine iteI (fun hq => ?_) (fun hq => ?_) <;> (try simp [set_at, n21, m12, hrx0])))
  · have hs : szr p.tot 1048576 = -1 := szr_neg (by omega)
    rw [hs] at cs
    unfold Pg.av at cs ⊢
    (repeat refine AWp.seq ?_); refine AWp.region noP (by kernel_rfl) ?_
    try simp
    intro g
    repeat' (first
    | refine AWp.seq ?_
    | (refine AWp.region allP (by kernel_rfl) ?_; simp [hrx0])
    | (refine AWp.condG ?_; simp [hrx0])
    | (refine AWp.skip ?_; try simp)
    | (refine AWp.exit ?_; try simp)
    | refine AWp.block ?_
    | (refine aop_call' (cs) ?_; simp [hrx0])
    | (refine AWp.ret (post_ret1 rfl ?_); (simp; done))
    | (refine guardI (fun hq => ?_) (fun hq => ?_) <;> (try simp at hq) <;> (try simp [hrx0]))
    | (refine condRunI (fun hq => ?_) (fun hq => ?_) <;> (try simp at hq) <;> (try simp [hrx0]))
    | (refine iteI (fun hq => ?_) (fun hq => ?_) <;> (try simp [hrx0])))
theorem c_FnExactBaseOf (p : Pg) (hf : p.fit) (x0 : Int) : PCall Tryz.prog 4 [p.av, .int .i64 x0] (.bool true) := by
  refine pcall_of Tryz.func4 (by kernel_rfl) rfl (by simp [Tryz.f4]) ?_
  have cs := c_szProg p hf 1048576 (by omega) (by omega)
  by_cases hb : p.tot ≤ 1048576
  · have hs : szr p.tot 1048576 = 1048576 - p.tot := szr_pos (by omega)
    have hs2 : ¬ (1048576 - (p.tot : Int) < 0) := by omega
    rw [hs] at cs
    have ct := c_toProg0 p hb
    have ce := c_eqProg0 p hb
    have c1 := c_spec_BaseOf p hb x0
    have c2 := c_impl_BaseOf p hb x0
    unfold Pg.av at cs ct ce c1 c2 ⊢
    (repeat refine AWp.seq ?_); refine AWp.region noP (by kernel_rfl) ?_
    try simp
    intro g
    repeat' (first
    | refine AWp.seq ?_
    | (refine AWp.region allP (by kernel_rfl) ?_; simp [hs2])
    | (refine AWp.condG ?_; simp [hs2])
    | (refine AWp.skip ?_; try simp)
    | (refine AWp.exit ?_; try simp)
    | refine AWp.block ?_
    | (refine aop_call' (cs) ?_; simp [hs2])
    | (refine aop_call' (ct) ?_; simp [hs2])
    | (refine aop_call' (ce) ?_; simp [hs2])
    | (refine aop_call' (c1) ?_; simp [hs2])
    | (refine aop_call' (c2) ?_; simp [hs2])
    | (refine AWp.ret (post_ret1 rfl ?_); (simp; done))
    | (refine guardI (fun hq => ?_) (fun hq => ?_) <;> (try simp at hq) <;> (try simp [hs2]))
    | (refine condRunI (fun hq => ?_) (fun hq => ?_) <;> (try simp at hq) <;> (try simp [hs2]))
    | (refine iteI (fun hq => ?_) (fun hq => ?_) <;> (try simp [hs2])))
    intro g2 h2
    have n21 : g2 ≠ g := fun e => by simp [e, set_at] at h2
    have m12 := n21.symm
    repeat' (first
    | refine AWp.seq ?_
    | (refine AWp.region allP (by kernel_rfl) ?_; simp [set_at, n21, m12])
    | (refine AWp.condG ?_; simp [set_at, n21, m12])
    | (refine AWp.skip ?_; try simp)
    | (refine AWp.exit ?_; try simp)
    | refine AWp.block ?_
    | (refine aop_call' (cs) ?_; simp [set_at, n21, m12])
    | (refine aop_call' (ct) ?_; simp [set_at, n21, m12])
    | (refine aop_call' (ce) ?_; simp [set_at, n21, m12])
    | (refine aop_call' (c1) ?_; simp [set_at, n21, m12])
    | (refine aop_call' (c2) ?_; simp [set_at, n21, m12])
    | (refine AWp.ret (post_ret1 rfl ?_); (simp; done))
    | (refine guardI (fun hq => ?_) (fun hq => ?_) <;> (try simp at hq) <;> (try simp [set_at, n21, m12]))
    | (refine condRunI (fun hq => ?_) (fun hq => ?_) <;> (try simp at hq) <;> (try simp [set_at, n21, m12]))
    | (refine iteI (fun hq => ?_) (fun hq => ?_) <;> (try simp [set_at, n21, m12])))
  · have hs : szr p.tot 1048576 = -1 := szr_neg (by omega)
    rw [hs] at cs
    unfold Pg.av at cs ⊢
    (repeat refine AWp.seq ?_); refine AWp.region noP (by kernel_rfl) ?_
    try simp
    intro g
    repeat' (first
    | refine AWp.seq ?_
    | (refine AWp.region allP (by kernel_rfl) ?_; simp)
    | (refine AWp.condG ?_; simp)
    | (refine AWp.skip ?_; try simp)
    | (refine AWp.exit ?_; try simp)
    | refine AWp.block ?_
    | (refine aop_call' (cs) ?_; simp)
    | (refine AWp.ret (post_ret1 rfl ?_); (simp; done))
    | (refine guardI (fun hq => ?_) (fun hq => ?_) <;> (try simp at hq) <;> (try simp))
    | (refine condRunI (fun hq => ?_) (fun hq => ?_) <;> (try simp at hq) <;> (try simp))
    | (refine iteI (fun hq => ?_) (fun hq => ?_) <;> (try simp)))
theorem c_FnExactFlagAt (p : Pg) (hf : p.fit) (x0 : Int) : PCall Tryz.prog 5 [p.av, .int .i64 x0] (.bool true) := by
  refine pcall_of Tryz.func5 (by kernel_rfl) rfl (by simp [Tryz.f5]) ?_
  have cs := c_szProg p hf 1048576 (by omega) (by omega)
  by_cases hb : p.tot ≤ 1048576
  · have hs : szr p.tot 1048576 = 1048576 - p.tot := szr_pos (by omega)
    have hs2 : ¬ (1048576 - (p.tot : Int) < 0) := by omega
    rw [hs] at cs
    have ct := c_toProg0 p hb
    have ce := c_eqProg0 p hb
    have c1 := c_spec_FlagAt p hb x0
    have c2 := c_impl_FlagAt p hb x0
    unfold Pg.av at cs ct ce c1 c2 ⊢
    (repeat refine AWp.seq ?_); refine AWp.region noP (by kernel_rfl) ?_
    try simp
    intro g
    repeat' (first
    | refine AWp.seq ?_
    | (refine AWp.region allP (by kernel_rfl) ?_; simp [hs2])
    | (refine AWp.condG ?_; simp [hs2])
    | (refine AWp.skip ?_; try simp)
    | (refine AWp.exit ?_; try simp)
    | refine AWp.block ?_
    | (refine aop_call' (cs) ?_; simp [hs2])
    | (refine aop_call' (ct) ?_; simp [hs2])
    | (refine aop_call' (ce) ?_; simp [hs2])
    | (refine aop_call' (c1) ?_; simp [hs2])
    | (refine aop_call' (c2) ?_; simp [hs2])
    | (refine AWp.ret (post_ret1 rfl ?_); (simp; done))
    | (refine guardI (fun hq => ?_) (fun hq => ?_) <;> (try simp at hq) <;> (try simp [hs2]))
    | (refine condRunI (fun hq => ?_) (fun hq => ?_) <;> (try simp at hq) <;> (try simp [hs2]))
    | (refine iteI (fun hq => ?_) (fun hq => ?_) <;> (try simp [hs2])))
    intro g2 h2
    have n21 : g2 ≠ g := fun e => by simp [e, set_at] at h2
    have m12 := n21.symm
    repeat' (first
    | refine AWp.seq ?_
    | (refine AWp.region allP (by kernel_rfl) ?_; simp [set_at, n21, m12])
    | (refine AWp.condG ?_; simp [set_at, n21, m12])
    | (refine AWp.skip ?_; try simp)
    | (refine AWp.exit ?_; try simp)
    | refine AWp.block ?_
    | (refine aop_call' (cs) ?_; simp [set_at, n21, m12])
    | (refine aop_call' (ct) ?_; simp [set_at, n21, m12])
    | (refine aop_call' (ce) ?_; simp [set_at, n21, m12])
    | (refine aop_call' (c1) ?_; simp [set_at, n21, m12])
    | (refine aop_call' (c2) ?_; simp [set_at, n21, m12])
    | (refine AWp.ret (post_ret1 rfl ?_); (simp; done))
    | (refine guardI (fun hq => ?_) (fun hq => ?_) <;> (try simp at hq) <;> (try simp [set_at, n21, m12]))
    | (refine condRunI (fun hq => ?_) (fun hq => ?_) <;> (try simp at hq) <;> (try simp [set_at, n21, m12]))
    | (refine iteI (fun hq => ?_) (fun hq => ?_) <;> (try simp [set_at, n21, m12])))
  · have hs : szr p.tot 1048576 = -1 := szr_neg (by omega)
    rw [hs] at cs
    unfold Pg.av at cs ⊢
    (repeat refine AWp.seq ?_); refine AWp.region noP (by kernel_rfl) ?_
    try simp
    intro g
    repeat' (first
    | refine AWp.seq ?_
    | (refine AWp.region allP (by kernel_rfl) ?_; simp)
    | (refine AWp.condG ?_; simp)
    | (refine AWp.skip ?_; try simp)
    | (refine AWp.exit ?_; try simp)
    | refine AWp.block ?_
    | (refine aop_call' (cs) ?_; simp)
    | (refine AWp.ret (post_ret1 rfl ?_); (simp; done))
    | (refine guardI (fun hq => ?_) (fun hq => ?_) <;> (try simp at hq) <;> (try simp))
    | (refine condRunI (fun hq => ?_) (fun hq => ?_) <;> (try simp at hq) <;> (try simp))
    | (refine iteI (fun hq => ?_) (fun hq => ?_) <;> (try simp)))
theorem c_FnExactVarAt (p : Pg) (hf : p.fit) (x0 : ByteArray) : PCall Tryz.prog 6 [p.av, .str x0] (.bool true) := by
  refine pcall_of Tryz.func6 (by kernel_rfl) rfl (by simp [Tryz.f6]) ?_
  have cs := c_szProg p hf 1048576 (by omega) (by omega)
  by_cases hqx0 : x0.size ≤ 1048576
  rotate_left
  · have hq : (1048576 : Int) < x0.size := by omega
    unfold Pg.av at cs ⊢
    (repeat refine AWp.seq ?_); refine AWp.region noP (by kernel_rfl) ?_
    try simp
    intro g
    repeat' (first
    | refine AWp.seq ?_
    | (refine AWp.region allP (by kernel_rfl) ?_; simp [hq])
    | (refine AWp.condG ?_; simp [hq])
    | (refine AWp.skip ?_; try simp)
    | (refine AWp.exit ?_; try simp)
    | refine AWp.block ?_
    | (refine aop_call' (cs) ?_; simp [hq])
    | (refine AWp.ret (post_ret1 rfl ?_); (simp; done))
    | (refine guardI (fun hq => ?_) (fun hq => ?_) <;> (try simp at hq) <;> (try simp [hq]))
    | (refine condRunI (fun hq => ?_) (fun hq => ?_) <;> (try simp at hq) <;> (try simp [hq]))
    | (refine iteI (fun hq => ?_) (fun hq => ?_) <;> (try simp [hq])))
  have hrx0 : ¬ (1048576 : Int) < x0.size := by omega
  by_cases hb : p.tot ≤ 1048576
  · have hs : szr p.tot 1048576 = 1048576 - p.tot := szr_pos (by omega)
    have hs2 : ¬ (1048576 - (p.tot : Int) < 0) := by omega
    rw [hs] at cs
    have ct := c_toProg0 p hb
    have ce := c_eqProg0 p hb
    have c1 := c_spec_VarAt p hb x0
    have c2 := c_impl_VarAt p hb x0
    unfold Pg.av at cs ct ce c1 c2 ⊢
    (repeat refine AWp.seq ?_); refine AWp.region noP (by kernel_rfl) ?_
    try simp
    intro g
    repeat' (first
    | refine AWp.seq ?_
    | (refine AWp.region allP (by kernel_rfl) ?_; simp [hs2, hrx0])
    | (refine AWp.condG ?_; simp [hs2, hrx0])
    | (refine AWp.skip ?_; try simp)
    | (refine AWp.exit ?_; try simp)
    | refine AWp.block ?_
    | (refine aop_call' (cs) ?_; simp [hs2, hrx0])
    | (refine aop_call' (ct) ?_; simp [hs2, hrx0])
    | (refine aop_call' (ce) ?_; simp [hs2, hrx0])
    | (refine aop_call' (c1) ?_; simp [hs2, hrx0])
    | (refine aop_call' (c2) ?_; simp [hs2, hrx0])
    | (refine AWp.ret (post_ret1 rfl ?_); (simp; done))
    | (refine guardI (fun hq => ?_) (fun hq => ?_) <;> (try simp at hq) <;> (try simp [hs2, hrx0]))
    | (refine condRunI (fun hq => ?_) (fun hq => ?_) <;> (try simp at hq) <;> (try simp [hs2, hrx0]))
    | (refine iteI (fun hq => ?_) (fun hq => ?_) <;> (try simp [hs2, hrx0])))
    intro g2 h2
    have n21 : g2 ≠ g := fun e => by simp [e, set_at] at h2
    have m12 := n21.symm
    repeat' (first
    | refine AWp.seq ?_
    | (refine AWp.region allP (by kernel_rfl) ?_; simp [set_at, n21, m12, hrx0])
    | (refine AWp.condG ?_; simp [set_at, n21, m12, hrx0])
    | (refine AWp.skip ?_; try simp)
    | (refine AWp.exit ?_; try simp)
    | refine AWp.block ?_
    | (refine aop_call' (cs) ?_; simp [set_at, n21, m12, hrx0])
    | (refine aop_call' (ct) ?_; simp [set_at, n21, m12, hrx0])
    | (refine aop_call' (ce) ?_; simp [set_at, n21, m12, hrx0])
    | (refine aop_call' (c1) ?_; simp [set_at, n21, m12, hrx0])
    | (refine aop_call' (c2) ?_; simp [set_at, n21, m12, hrx0])
    | (refine AWp.ret (post_ret1 rfl ?_); (simp; done))
    | (refine guardI (fun hq => ?_) (fun hq => ?_) <;> (try simp at hq) <;> (try simp [set_at, n21, m12, hrx0]))
    | (refine condRunI (fun hq => ?_) (fun hq => ?_) <;> (try simp at hq) <;> (try simp [set_at, n21, m12, hrx0]))
    | (refine iteI (fun hq => ?_) (fun hq => ?_) <;> (try simp [set_at, n21, m12, hrx0])))
  · have hs : szr p.tot 1048576 = -1 := szr_neg (by omega)
    rw [hs] at cs
    unfold Pg.av at cs ⊢
    (repeat refine AWp.seq ?_); refine AWp.region noP (by kernel_rfl) ?_
    try simp
    intro g
    repeat' (first
    | refine AWp.seq ?_
    | (refine AWp.region allP (by kernel_rfl) ?_; simp [hrx0])
    | (refine AWp.condG ?_; simp [hrx0])
    | (refine AWp.skip ?_; try simp)
    | (refine AWp.exit ?_; try simp)
    | refine AWp.block ?_
    | (refine aop_call' (cs) ?_; simp [hrx0])
    | (refine AWp.ret (post_ret1 rfl ?_); (simp; done))
    | (refine guardI (fun hq => ?_) (fun hq => ?_) <;> (try simp at hq) <;> (try simp [hrx0]))
    | (refine condRunI (fun hq => ?_) (fun hq => ?_) <;> (try simp at hq) <;> (try simp [hrx0]))
    | (refine iteI (fun hq => ?_) (fun hq => ?_) <;> (try simp [hrx0])))
theorem c_FnExactSlotAt (p : Pg) (hf : p.fit) (x0 : Int) (x1 : Int) : PCall Tryz.prog 7 [p.av, .int .i64 x0, .int .i64 x1] (.bool true) := by
  refine pcall_of Tryz.func7 (by kernel_rfl) rfl (by simp [Tryz.f7]) ?_
  have cs := c_szProg p hf 1048576 (by omega) (by omega)
  by_cases hb : p.tot ≤ 1048576
  · have hs : szr p.tot 1048576 = 1048576 - p.tot := szr_pos (by omega)
    have hs2 : ¬ (1048576 - (p.tot : Int) < 0) := by omega
    rw [hs] at cs
    have ct := c_toProg0 p hb
    have ce := c_eqProg0 p hb
    have c1 := c_spec_SlotAt p hb x0 x1
    have c2 := c_impl_SlotAt p hb x0 x1
    unfold Pg.av at cs ct ce c1 c2 ⊢
    (repeat refine AWp.seq ?_); refine AWp.region noP (by kernel_rfl) ?_
    try simp
    intro g
    repeat' (first
    | refine AWp.seq ?_
    | (refine AWp.region allP (by kernel_rfl) ?_; simp [hs2])
    | (refine AWp.condG ?_; simp [hs2])
    | (refine AWp.skip ?_; try simp)
    | (refine AWp.exit ?_; try simp)
    | refine AWp.block ?_
    | (refine aop_call' (cs) ?_; simp [hs2])
    | (refine aop_call' (ct) ?_; simp [hs2])
    | (refine aop_call' (ce) ?_; simp [hs2])
    | (refine aop_call' (c1) ?_; simp [hs2])
    | (refine aop_call' (c2) ?_; simp [hs2])
    | (refine AWp.ret (post_ret1 rfl ?_); (simp; done))
    | (refine guardI (fun hq => ?_) (fun hq => ?_) <;> (try simp at hq) <;> (try simp [hs2]))
    | (refine condRunI (fun hq => ?_) (fun hq => ?_) <;> (try simp at hq) <;> (try simp [hs2]))
    | (refine iteI (fun hq => ?_) (fun hq => ?_) <;> (try simp [hs2])))
    intro g2 h2
    have n21 : g2 ≠ g := fun e => by simp [e, set_at] at h2
    have m12 := n21.symm
    repeat' (first
    | refine AWp.seq ?_
    | (refine AWp.region allP (by kernel_rfl) ?_; simp [set_at, n21, m12])
    | (refine AWp.condG ?_; simp [set_at, n21, m12])
    | (refine AWp.skip ?_; try simp)
    | (refine AWp.exit ?_; try simp)
    | refine AWp.block ?_
    | (refine aop_call' (cs) ?_; simp [set_at, n21, m12])
    | (refine aop_call' (ct) ?_; simp [set_at, n21, m12])
    | (refine aop_call' (ce) ?_; simp [set_at, n21, m12])
    | (refine aop_call' (c1) ?_; simp [set_at, n21, m12])
    | (refine aop_call' (c2) ?_; simp [set_at, n21, m12])
    | (refine AWp.ret (post_ret1 rfl ?_); (simp; done))
    | (refine guardI (fun hq => ?_) (fun hq => ?_) <;> (try simp at hq) <;> (try simp [set_at, n21, m12]))
    | (refine condRunI (fun hq => ?_) (fun hq => ?_) <;> (try simp at hq) <;> (try simp [set_at, n21, m12]))
    | (refine iteI (fun hq => ?_) (fun hq => ?_) <;> (try simp [set_at, n21, m12])))
  · have hs : szr p.tot 1048576 = -1 := szr_neg (by omega)
    rw [hs] at cs
    unfold Pg.av at cs ⊢
    (repeat refine AWp.seq ?_); refine AWp.region noP (by kernel_rfl) ?_
    try simp
    intro g
    repeat' (first
    | refine AWp.seq ?_
    | (refine AWp.region allP (by kernel_rfl) ?_; simp)
    | (refine AWp.condG ?_; simp)
    | (refine AWp.skip ?_; try simp)
    | (refine AWp.exit ?_; try simp)
    | refine AWp.block ?_
    | (refine aop_call' (cs) ?_; simp)
    | (refine AWp.ret (post_ret1 rfl ?_); (simp; done))
    | (refine guardI (fun hq => ?_) (fun hq => ?_) <;> (try simp at hq) <;> (try simp))
    | (refine condRunI (fun hq => ?_) (fun hq => ?_) <;> (try simp at hq) <;> (try simp))
    | (refine iteI (fun hq => ?_) (fun hq => ?_) <;> (try simp)))
theorem c_FnExactBarAt (p : Pg) (hf : p.fit) (x0 : Int) : PCall Tryz.prog 8 [p.av, .int .i64 x0] (.bool true) := by
  refine pcall_of Tryz.func8 (by kernel_rfl) rfl (by simp [Tryz.f8]) ?_
  have cs := c_szProg p hf 1048576 (by omega) (by omega)
  by_cases hb : p.tot ≤ 1048576
  · have hs : szr p.tot 1048576 = 1048576 - p.tot := szr_pos (by omega)
    have hs2 : ¬ (1048576 - (p.tot : Int) < 0) := by omega
    rw [hs] at cs
    have ct := c_toProg0 p hb
    have ce := c_eqProg0 p hb
    have c1 := c_spec_BarAt p hb x0
    have c2 := c_impl_BarAt p hb x0
    unfold Pg.av at cs ct ce c1 c2 ⊢
    (repeat refine AWp.seq ?_); refine AWp.region noP (by kernel_rfl) ?_
    try simp
    intro g
    repeat' (first
    | refine AWp.seq ?_
    | (refine AWp.region allP (by kernel_rfl) ?_; simp [hs2])
    | (refine AWp.condG ?_; simp [hs2])
    | (refine AWp.skip ?_; try simp)
    | (refine AWp.exit ?_; try simp)
    | refine AWp.block ?_
    | (refine aop_call' (cs) ?_; simp [hs2])
    | (refine aop_call' (ct) ?_; simp [hs2])
    | (refine aop_call' (ce) ?_; simp [hs2])
    | (refine aop_call' (c1) ?_; simp [hs2])
    | (refine aop_call' (c2) ?_; simp [hs2])
    | (refine AWp.ret (post_ret1 rfl ?_); (simp; done))
    | (refine guardI (fun hq => ?_) (fun hq => ?_) <;> (try simp at hq) <;> (try simp [hs2]))
    | (refine condRunI (fun hq => ?_) (fun hq => ?_) <;> (try simp at hq) <;> (try simp [hs2]))
    | (refine iteI (fun hq => ?_) (fun hq => ?_) <;> (try simp [hs2])))
    intro g2 h2
    have n21 : g2 ≠ g := fun e => by simp [e, set_at] at h2
    have m12 := n21.symm
    repeat' (first
    | refine AWp.seq ?_
    | (refine AWp.region allP (by kernel_rfl) ?_; simp [set_at, n21, m12])
    | (refine AWp.condG ?_; simp [set_at, n21, m12])
    | (refine AWp.skip ?_; try simp)
    | (refine AWp.exit ?_; try simp)
    | refine AWp.block ?_
    | (refine aop_call' (cs) ?_; simp [set_at, n21, m12])
    | (refine aop_call' (ct) ?_; simp [set_at, n21, m12])
    | (refine aop_call' (ce) ?_; simp [set_at, n21, m12])
    | (refine aop_call' (c1) ?_; simp [set_at, n21, m12])
    | (refine aop_call' (c2) ?_; simp [set_at, n21, m12])
    | (refine AWp.ret (post_ret1 rfl ?_); (simp; done))
    | (refine guardI (fun hq => ?_) (fun hq => ?_) <;> (try simp at hq) <;> (try simp [set_at, n21, m12]))
    | (refine condRunI (fun hq => ?_) (fun hq => ?_) <;> (try simp at hq) <;> (try simp [set_at, n21, m12]))
    | (refine iteI (fun hq => ?_) (fun hq => ?_) <;> (try simp [set_at, n21, m12])))
  · have hs : szr p.tot 1048576 = -1 := szr_neg (by omega)
    rw [hs] at cs
    unfold Pg.av at cs ⊢
    (repeat refine AWp.seq ?_); refine AWp.region noP (by kernel_rfl) ?_
    try simp
    intro g
    repeat' (first
    | refine AWp.seq ?_
    | (refine AWp.region allP (by kernel_rfl) ?_; simp)
    | (refine AWp.condG ?_; simp)
    | (refine AWp.skip ?_; try simp)
    | (refine AWp.exit ?_; try simp)
    | refine AWp.block ?_
    | (refine aop_call' (cs) ?_; simp)
    | (refine AWp.ret (post_ret1 rfl ?_); (simp; done))
    | (refine guardI (fun hq => ?_) (fun hq => ?_) <;> (try simp at hq) <;> (try simp))
    | (refine condRunI (fun hq => ?_) (fun hq => ?_) <;> (try simp at hq) <;> (try simp))
    | (refine iteI (fun hq => ?_) (fun hq => ?_) <;> (try simp)))
theorem c_FnExactMemSize (p : Pg) (hf : p.fit) : PCall Tryz.prog 9 [p.av] (.bool true) := by
  refine pcall_of Tryz.func9 (by kernel_rfl) rfl (by simp [Tryz.f9]) ?_
  have cs := c_szProg p hf 1048576 (by omega) (by omega)
  by_cases hb : p.tot ≤ 1048576
  · have hs : szr p.tot 1048576 = 1048576 - p.tot := szr_pos (by omega)
    have hs2 : ¬ (1048576 - (p.tot : Int) < 0) := by omega
    rw [hs] at cs
    have ct := c_toProg0 p hb
    have ce := c_eqProg0 p hb
    have c1 := c_spec_MemSize p hb
    have c2 := c_impl_MemSize p hb
    unfold Pg.av at cs ct ce c1 c2 ⊢
    (repeat refine AWp.seq ?_); refine AWp.region noP (by kernel_rfl) ?_
    try simp
    intro g
    repeat' (first
    | refine AWp.seq ?_
    | (refine AWp.region allP (by kernel_rfl) ?_; simp [hs2])
    | (refine AWp.condG ?_; simp [hs2])
    | (refine AWp.skip ?_; try simp)
    | (refine AWp.exit ?_; try simp)
    | refine AWp.block ?_
    | (refine aop_call' (cs) ?_; simp [hs2])
    | (refine aop_call' (ct) ?_; simp [hs2])
    | (refine aop_call' (ce) ?_; simp [hs2])
    | (refine aop_call' (c1) ?_; simp [hs2])
    | (refine aop_call' (c2) ?_; simp [hs2])
    | (refine AWp.ret (post_ret1 rfl ?_); (simp; done))
    | (refine guardI (fun hq => ?_) (fun hq => ?_) <;> (try simp at hq) <;> (try simp [hs2]))
    | (refine condRunI (fun hq => ?_) (fun hq => ?_) <;> (try simp at hq) <;> (try simp [hs2]))
    | (refine iteI (fun hq => ?_) (fun hq => ?_) <;> (try simp [hs2])))
    intro g2 h2
    have n21 : g2 ≠ g := fun e => by simp [e, set_at] at h2
    have m12 := n21.symm
    repeat' (first
    | refine AWp.seq ?_
    | (refine AWp.region allP (by kernel_rfl) ?_; simp [set_at, n21, m12])
    | (refine AWp.condG ?_; simp [set_at, n21, m12])
    | (refine AWp.skip ?_; try simp)
    | (refine AWp.exit ?_; try simp)
    | refine AWp.block ?_
    | (refine aop_call' (cs) ?_; simp [set_at, n21, m12])
    | (refine aop_call' (ct) ?_; simp [set_at, n21, m12])
    | (refine aop_call' (ce) ?_; simp [set_at, n21, m12])
    | (refine aop_call' (c1) ?_; simp [set_at, n21, m12])
    | (refine aop_call' (c2) ?_; simp [set_at, n21, m12])
    | (refine AWp.ret (post_ret1 rfl ?_); (simp; done))
    | (refine guardI (fun hq => ?_) (fun hq => ?_) <;> (try simp at hq) <;> (try simp [set_at, n21, m12]))
    | (refine condRunI (fun hq => ?_) (fun hq => ?_) <;> (try simp at hq) <;> (try simp [set_at, n21, m12]))
    | (refine iteI (fun hq => ?_) (fun hq => ?_) <;> (try simp [set_at, n21, m12])))
  · have hs : szr p.tot 1048576 = -1 := szr_neg (by omega)
    rw [hs] at cs
    unfold Pg.av at cs ⊢
    (repeat refine AWp.seq ?_); refine AWp.region noP (by kernel_rfl) ?_
    try simp
    intro g
    repeat' (first
    | refine AWp.seq ?_
    | (refine AWp.region allP (by kernel_rfl) ?_; simp)
    | (refine AWp.condG ?_; simp)
    | (refine AWp.skip ?_; try simp)
    | (refine AWp.exit ?_; try simp)
    | refine AWp.block ?_
    | (refine aop_call' (cs) ?_; simp)
    | (refine AWp.ret (post_ret1 rfl ?_); (simp; done))
    | (refine guardI (fun hq => ?_) (fun hq => ?_) <;> (try simp at hq) <;> (try simp))
    | (refine condRunI (fun hq => ?_) (fun hq => ?_) <;> (try simp at hq) <;> (try simp))
    | (refine iteI (fun hq => ?_) (fun hq => ?_) <;> (try simp)))
section
variable {H : Type} {enc : TypeId × Value → H} {W : World}
theorem o_Exp (fuel : Nat) : Opens enc Tryz.prog W 97 Ex.cells Ex.fit fuel := by
  induction fuel using Nat.strongRecOn with | ind fuel ih =>
  cases fuel with
  | zero => exact opens_zero
  | succ k =>
    have hL : Opens enc Tryz.prog W 95 (fun l : List Ex => [.lst false 4 (l.map Ex.av)]) (fun l => l.length ≤ most ∧ ∀ x ∈ l, x.fit) k := by
      cases k with
      | zero => exact opens_zero
      | succ j => exact opens_slice Tryz.underlying95 (n := 4) (elt := Ex.av) (by kernel_rfl) (by omega) (fun _ => rfl) Ex.cells_len (ih j (by omega))
    exact Opens.map (opens_struct Tryz.underlying97 (N := 4) (by kernel_rfl) (fields_cons (n := 1) rfl (by kernel_rfl) (opens_int Tryz.underlying3 _) (fields_cons (n := 1) rfl (by kernel_rfl) (opens_int Tryz.underlying3 _) (fields_cons (n := 1) rfl (by kernel_rfl) (opens_str Tryz.underlying9 _) (fields_cons (n := 1) rfl (by kernel_rfl) hL (fields_nil rfl))))))
      (fun x => Ex.mk x.1 x.2.1 x.2.2.1 x.2.2.2.1) fun x hx => ⟨(Ex.fit_mk _ _ _ _).2 ⟨hx.2.2.1, hx.2.2.2.1.1, hx.2.2.2.1.2⟩, by rw [Ex.cells_mk]; exact Les.refl _⟩
theorem o_Stmt (fuel : Nat) : Opens enc Tryz.prog W 99 Sm.cells Sm.fit fuel := by
  induction fuel using Nat.strongRecOn with | ind fuel ih =>
  cases fuel with
  | zero => exact opens_zero
  | succ k =>
    have hL : Opens enc Tryz.prog W 23 (fun l : List Sm => [.lst false 19 (l.map Sm.av)]) (fun l => l.length ≤ most ∧ ∀ x ∈ l, x.fit) k := by
      cases k with
      | zero => exact opens_zero
      | succ j => exact opens_slice Tryz.underlying23 (n := 19) (elt := Sm.av) (by kernel_rfl) (by omega) (fun _ => rfl) Sm.cells_len (ih j (by omega))
    exact Opens.map (opens_struct Tryz.underlying99 (N := 19) (by kernel_rfl) (fields_cons (n := 1) rfl (by kernel_rfl) (opens_int Tryz.underlying3 _) (fields_cons (n := 1) rfl (by kernel_rfl) (opens_str Tryz.underlying9 _) (fields_cons (n := 4) rfl (by kernel_rfl) (o_Exp k) (fields_cons (n := 4) rfl (by kernel_rfl) (o_Exp k)
      (fields_cons (n := 4) rfl (by kernel_rfl) (o_Exp k) (fields_cons (n := 4) rfl (by kernel_rfl) (o_Exp k) (fields_cons (n := 1) rfl (by kernel_rfl) hL (fields_nil rfl)))))))))
      (fun x => Sm.mk x.1 x.2.1 x.2.2.1 x.2.2.2.1 x.2.2.2.2.1 x.2.2.2.2.2.1 x.2.2.2.2.2.2.1) fun x hx => ⟨(Sm.fit_mk _ _ _ _ _ _ _).2 ⟨hx.2.1, hx.2.2.1, hx.2.2.2.1, hx.2.2.2.2.1, hx.2.2.2.2.2.1, hx.2.2.2.2.2.2.1.1, hx.2.2.2.2.2.2.1.2⟩, by rw [Sm.cells_mk]; exact Les.refl _⟩
theorem o_Arr (fuel : Nat) : Opens enc Tryz.prog W 93 Ar.cells Ar.fit fuel := by
  cases fuel with
  | zero => exact opens_zero
  | succ k =>
    exact Opens.map (opens_struct Tryz.underlying93 (N := 2) (by kernel_rfl) (fields_cons (n := 1) rfl (by kernel_rfl) (opens_str Tryz.underlying9 _) (fields_cons (n := 1) rfl (by kernel_rfl) (opens_int Tryz.underlying3 _) (fields_nil rfl))))
      (fun x => Ar.mk x.1 x.2.1) fun x hx => ⟨hx.1, Les.refl _⟩
theorem o_ArrS (fuel : Nat) : Opens enc Tryz.prog W 22 (fun l : List Ar => [.lst false 2 (l.map Ar.av)]) (fun l => l.length ≤ most ∧ ∀ x ∈ l, x.fit) fuel := by
  cases fuel with
  | zero => exact opens_zero
  | succ k => exact opens_slice Tryz.underlying22 (n := 2) (elt := Ar.av) (by kernel_rfl) (by omega) (fun _ => rfl) Ar.cells_len (o_Arr k)
theorem o_StmtS (fuel : Nat) : Opens enc Tryz.prog W 23 (fun l : List Sm => [.lst false 19 (l.map Sm.av)]) (fun l => l.length ≤ most ∧ ∀ x ∈ l, x.fit) fuel := by
  cases fuel with
  | zero => exact opens_zero
  | succ k => exact opens_slice Tryz.underlying23 (n := 19) (elt := Sm.av) (by kernel_rfl) (by omega) (fun _ => rfl) Sm.cells_len (o_Stmt k)
theorem o_Prog (fuel : Nat) : Opens enc Tryz.prog W 25 Pg.cells Pg.fit fuel := by
  cases fuel with
  | zero => exact opens_zero
  | succ k =>
    exact Opens.map (opens_struct Tryz.underlying25 (N := 2) (by kernel_rfl) (fields_cons (n := 1) rfl (by kernel_rfl) (o_ArrS k) (fields_cons (n := 1) rfl (by kernel_rfl) (o_StmtS k) (fields_nil rfl))))
      (fun x => Pg.mk x.1 x.2.1) fun x hx => ⟨⟨hx.1.1, hx.1.2, hx.2.1.1, hx.2.1.2⟩, Les.refl _⟩
end
end Go.T
