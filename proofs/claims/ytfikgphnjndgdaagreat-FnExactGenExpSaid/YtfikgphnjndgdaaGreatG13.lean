/- Code of expressions: what the reference computes. Code of expressions, whole: what the program computes. Code of expressions, whole: what the reference computes. The law's function of GenExp. -/
import Derived.Test.YtfikgphnjndgdaaGreatG12
import Derived.Test.YtfikgphnjndgdaaGreatG10
import Derived.Test.YtfikgphnjndgdaaGreatG9
import Derived.Test.YtfikgphnjndgdaaGreatG4
namespace Go.T
open Go Go.Proofs
set_option maxRecDepth 10000
set_option maxHeartbeats 1000000
set_option linter.unusedSimpArgs false
set_option linter.unusedVariables false
def basesN (p : Pg) : List Int := (List.range p.arrs.length).map fun k => sumN (p.arrs.take k)
def Pg.gen (p : Pg) (frm : Int) (v : AV) (b : Bool) (first : Int) (bs : AV) : List AV := [.lst false 2 (p.arrs.map Ar.av), .lst false 19 (p.body.map Sm.av), v, .int .i64 frm, .bool b, strs p.regs, strs p.vars, .int .i64 first, bs]
/-- What makes code: a program, from where, its code, is it bad. -/
def Gk (gm : Nat) (p : Pg) (frm : Int) (a : Gs) (m : Mem) : Prop := ∃ v, m gm = some (.box (p.gen frm v a.2 p.size (.lst false 1 ((basesN p).map (.int .i64))))) ∧ Gr 148 3 (fun _ => none) (a.1.map In.av) v m
theorem Gk.fresh {gm : Nat} {p : Pg} {frm : Int} {a : Gs} {m : Mem} (h : Gk gm p frm a m) {g : Nat} (hg : m g = none) (b : Blk) : Gk gm p frm a (m.set g b) := by
  obtain ⟨v, h1, h2⟩ := h
  exact ⟨v, ext_set hg b _ _ h1, h2.fresh hg b⟩
theorem Gk.dom {gm : Nat} {p : Pg} {frm : Int} {a : Gs} {m : Mem} (h : Gk gm p frm a m) : m gm ≠ none := by
  obtain ⟨v, h1, _⟩ := h
  rw [h1]; simp
theorem basesN_take (p : Pg) (i : Nat) (hi : i < p.arrs.length) : (basesN p).take (i + 1) = (basesN p).take i ++ [sumN (p.arrs.take i)] := by
  unfold basesN
  rw [List.take_add_one]
  simp [hi]
theorem basesN_len (p : Pg) : (basesN p).length = p.arrs.length := by unfold basesN; simp
theorem c_l17New (p : Pg) (ht : p.tot ≤ 1048576) (hf : p.Fine) (frm : Int) {m : Mem} {K : AV → Mem → Prop} (hK : ∀ gm m', Gk gm p frm ([], false) m' → (∀ g cs, m g = some (.box cs) → m' g = some (.box cs)) → K (.ptr gm 0) m') : WCall Tryz.prog 90 [p.av, .int .i64 frm] m K := by
  have h2 := totL_len Sm.tot p.body
  have h3 : p.tot = totL Ar.tot p.arrs + totL Sm.tot p.body := rfl
  have h4 := hf.arrs
  have hpc : p.cells = [.lst false 2 (p.arrs.map Ar.av), .lst false 19 (p.body.map Sm.av)] := rfl
  have cN := c_l15Names p ht
  have cV := c_spec_VarsOf p.body (by omega)
  change PCall _ _ _ (strs p.vars) at cV
  unfold strs at cN cV
  refine wcall_of Tryz.func90 (by kernel_rfl) rfl (by simp [Tryz.f90]) ?_
  unfold Pg.av at *
  (repeat refine AWp.seq ?_); refine AWp.region noP (by kernel_rfl) ?_
  try simp
  intro g2 hg2
  have hE := ext_set hg2 (.box p.cells)
  have hgg : (m.set g2 (.box p.cells)) g2 = some (.box p.cells) := set_same _ _ _
  generalize hm1 : m.set g2 (.box p.cells) = m1 at *
  (repeat refine AWp.seq ?_); refine AWp.regionG (fun _ => true) (fun _ => false) [0, 1, 2, 3, 4, 5, 6, 7, 8, 9] [0, 1, 2, 3, 4, 5, 6, 7, 8, 9] (by kernel_rfl) ?_
  simp [hgg]
  refine aop_call' cN ?_
  simp [hgg, hpc]
  refine aop_call' cV ?_
  simp
  intro gm hgm
  have hm0 : m gm = none := hE.none hgm
  have ng2 : ¬ g2 = gm := by rintro rfl; rw [hgg] at hgm; cases hgm
  (repeat refine AWp.seq ?_); refine AWp.region noP (by kernel_rfl) ?_
  try simp
  rw [← hpc]
  (repeat refine AWp.seq ?_); refine AWp.cutA (fun st => ∃ v, st.slots 5 = .ptr gm 0 ∧ st.mem gm = some (.box (p.gen frm (.lst true 0 []) false p.size v)) ∧ Gr 3 1 (fun _ => none) ((basesN p).map (.int .i64)) v st.mem ∧ (∀ g cs, m g = some (.box cs) → st.mem g = some (.box cs)) ∧ m gm = none) ?_ ?_
  · refine AWp.block (AWp.rounds (fun n st => ∃ (i : Nat) (v : AV), n = p.arrs.length - i ∧ i ≤ p.arrs.length ∧ st.slots 5 = .ptr gm 0 ∧ st.slots 6 = .int .i64 i ∧ st.slots 2 = .ptr g2 0 ∧ st.mem gm = some (.box (p.gen frm (.lst true 0 []) false (sumN (p.arrs.take i)) v)) ∧ st.mem g2 = some (.box p.cells) ∧ Gr 3 1 (fun _ => none) (((basesN p).take i).map (.int .i64)) v st.mem ∧ (∀ g cs, m g = some (.box cs) → st.mem g = some (.box cs)) ∧ m gm = none) (p.arrs.length) ⟨0, .lst true 0 [], by simp, by simp, (by first | (simp; done) | (simp [*]; done)), (by first | (simp; done) | (simp [*]; done)), (by first | (simp; done) | (simp [*]; done)), (by simp [set_at, Pg.gen, sumN, strs]), (by simp [set_at, ng2, hgg]), (by simpa using Gr.start' _ 0), (by intro g cs hg; exact ext_set hgm _ _ _ (hE _ _ hg)), hm0⟩ ?_)
    rintro R n st hR ⟨i, v, rfl, hi, s5, s6, s2, mg, m2, hG, hU, hgmn⟩
    (repeat refine AWp.seq ?_); refine AWp.region noP (by kernel_rfl) ?_
    simp [s2, s6, m2, hpc]
    (repeat refine AWp.seq ?_); refine AWp.cond (b := decide (i < p.arrs.length)) (by simp) (fun hb => ?_) (fun hb => ?_)
    · simp at hb
      have hg : p.arrs[i]? = some p.arrs[i] := List.getElem?_eq_getElem hb
      have hx : ∀ m, idxA Tryz.prog m 35 (.lst false 2 (p.arrs.map Ar.av)) (.int .i64 i) = some (.ref p.arrs[i].cells) := fun m => idx (y := p.arrs[i].av) es_35 (by simp [hg])
      have hw : IntKind.wrap .i64 ((i : Int) + 1) = (i + 1 : Nat) := wrap64 (by omega) (by omega)
      have hac : p.arrs[i].cells = [.str p.arrs[i].s, .int .i64 p.arrs[i].n] := rfl
      have hb1 := hf.take i
      have hb2 := hf.take (i + 1)
      have hsu := sumN_succ p.arrs i hb
      have hw2 : IntKind.wrap .i64 (sumN (p.arrs.take i) + p.arrs[i].n) = sumN (p.arrs.take (i + 1)) := by rw [wrap64 (by omega) (by omega), hsu]
      refine AWp.skip ?_
      try simp
      (repeat refine AWp.seq ?_); refine AWp.block ?_; (repeat refine AWp.seq ?_); refine AWp.regionG (fun _ => true) (fun _ => false) [0, 1, 2, 3, 4, 5, 6, 7, 8, 9, 10, 11, 12, 13] [0, 1, 2, 3, 4, 5, 6, 7, 8, 9, 10, 11, 12, 13] (by kernel_rfl) ?_
      simp [s5, mg, Pg.gen]
      refine Gr.app et_54 hG (ys := [.int .i64 (sumN (p.arrs.take i))]) rfl (by simp) (by simp [basesN_len]; omega) fun v' m' hG' hB => ?_
      have hgm' := hB gm _ mg
      obtain ⟨o1, o2, o3⟩ := hG'.ok
      simp [s5, hgm', Pg.gen, o1, o2, set_at]
      have hG2 := hG'.setBox (cs' := p.gen frm (.lst true 0 []) false (sumN (p.arrs.take i)) v') hgm' rfl
      have b2 : (m'.set gm (.box (p.gen frm (.lst true 0 []) false (sumN (p.arrs.take i)) v'))) g2 = some (.box p.cells) := by rw [set_at, if_neg ng2]; exact hB g2 _ m2
      have bg := set_same m' gm (.box (p.gen frm (.lst true 0 []) false (sumN (p.arrs.take i)) v'))
      have hU2 : ∀ g cs, m g = some (.box cs) → (m'.set gm (.box (p.gen frm (.lst true 0 []) false (sumN (p.arrs.take i)) v'))) g = some (.box cs) := fun g cs hg => by
        rw [set_at, if_neg]
        · exact hB g _ (hU g cs hg)
        · rintro rfl; rw [hgmn] at hg; cases hg
      simp only [Pg.gen, strs] at hG2 b2 bg hU2 ⊢
      generalize m'.set gm _ = m5 at *
      (repeat refine AWp.seq ?_); refine AWp.regionG (fun _ => true) (fun _ => false) [0, 1, 2, 3, 4, 5, 6, 7, 8, 9, 10, 11, 12, 13, 14] [0, 1, 2, 3, 4, 5, 6, 7, 8, 9, 10, 11, 12, 13, 14] (by kernel_rfl) ?_
      simp [s5, s2, s6, bg, b2, hpc, hx, hac, hw2]
      (repeat refine AWp.seq ?_); refine AWp.region noP (by kernel_rfl) ?_
      simp [s6, hw]
      refine hR _ (p.arrs.length - (i + 1)) (by omega) ⟨i + 1, v', rfl, by omega, (by first | (simp [s5]; done) | (simp [*]; done)), (by first | (simp [s6]; done) | (simp [*]; done)), (by first | (simp [s2]; done) | (simp [*]; done)), (by simp [set_at, Pg.gen, strs]), (by simp [set_at, ng2, b2]), (by rw [basesN_take p i hb, List.map_append]; exact hG2.setBox bg rfl), (by intro g cs hg; have := hU2 g cs hg; simp only [put_mem', withMem_mem, set_at]; rw [if_neg]; exact this; rintro rfl; rw [hgmn] at hg; cases hg), hgmn⟩
    · simp at hb
      refine AWp.exit ?_
      have : i = p.arrs.length := by omega
      subst this
      rw [List.take_length] at mg
      rw [List.take_of_length_le (by rw [basesN_len]; exact Nat.le_refl _)] at hG
      simp [s5]
      exact ⟨v, mg, hG, hU, hgmn⟩
  clear hgm hgg
  rintro st ⟨v, s5, mg, hG, hU, hgmn⟩
  have fin : ∀ (m' : Mem), m' gm = some (.box (p.gen frm (.lst true 0 []) false p.size (.lst false 1 ((basesN p).map (.int .i64))))) → (∀ g cs, m g = some (.box cs) → m' g = some (.box cs)) → K (.ptr gm 0) m' := fun m' h1 h2 =>
    hK gm m' ⟨_, h1, Gr.start' _ 0⟩ h2
  obtain ⟨_, ⟨hnil, f, rfl⟩ | ⟨g, c, rfl, h1, h2⟩⟩ := hG
  · refine AWp.sees (Sees.boxLe (gm := gm) (cs' := p.gen frm (.lst true 0 []) false p.size (.lst false 1 ((basesN p).map (.int .i64)))) mg ?_) ?_
    · rw [hnil]
      unfold Pg.gen
      exact .cons (Le.refl _) (.cons (Le.refl _) (.cons (Le.refl _) (.cons (Le.refl _) (.cons (Le.refl _) (.cons (Le.refl _) (.cons (Le.refl _) (.cons (Le.refl _) (.cons (Le.nil _ _ _) .nil))))))))
    · (repeat refine AWp.seq ?_); refine AWp.region noP (by kernel_rfl) ?_
      simp [s5]
      refine AWp.ret (post_retW rfl ⟨_, _, View.refl _ _, ?_⟩)
      simp
      refine fin _ (set_same _ _ _) fun g cs hg => ?_
      rw [set_at, if_neg]
      · exact hU g cs hg
      · rintro rfl; rw [hgmn] at hg; cases hg
  · have hne : gm ≠ g := by rintro rfl; rw [mg] at h1; cases h1
    refine AWp.sees (Sees.freezeIn (gm := gm) (i := 8) (g := g) mg rfl h1 rfl) ?_
    (repeat refine AWp.seq ?_); refine AWp.region noP (by kernel_rfl) ?_
    simp [s5]
    refine AWp.ret (post_retW rfl ⟨_, _, View.refl _ _, ?_⟩)
    simp
    refine fin _ (by rw [set_same]; rfl) fun g' cs hg => ?_
    have := hU g' cs hg
    rw [set_at, if_neg]
    · unfold Mem.del
      rw [if_neg]
      · exact this
      · rintro rfl; rw [h1] at this; cases this
    · rintro rfl; rw [hgmn] at hg; cases hg
theorem c_l17Put {gm : Nat} {p : Pg} {frm : Int} {a : Gs} {m : Mem} (h : Gk gm p frm a m) (op x y : Int) (hb : a.1.length ≤ 8388608) {K : AV → Mem → Prop} (hK : ∀ m', Gk gm p frm (a.put op x y) m' → Upd (fun g => g = gm) m m' → K (.tup []) m') :
    WCall Tryz.prog 203 [.ptr gm 0, .int .i64 op, .int .i64 x, .int .i64 y] m K := by
  obtain ⟨v, h1, h2⟩ := h
  refine wcall_of Tryz.func203 (by kernel_rfl) rfl (by simp [Tryz.f203]) ?_
  (repeat refine AWp.seq ?_); refine AWp.region noP (by kernel_rfl) ?_
  simp [h1, Pg.gen]
  refine Gr.app1 h2 ⟨op, x, y⟩ hb fun v' m' h3 h4 => ?_
  have hgm := h4 gm _ h1
  obtain ⟨o1, o2, o3⟩ := h3.ok
  simp [hgm, o1, o2, Pg.gen]
  refine post_nrm0 rfl (hK _ ⟨v', ?_, ?_⟩ ?_)
  · simp [set_at, Pg.gen]; rfl
  · exact h3.setBox hgm rfl
  · refine Upd.trans (b := m') (fun g cs _ hx => h4 g cs hx) (Upd.put1 _)
theorem c_l17Var {gm : Nat} {p : Pg} (hf : p.Fine) {frm : Int} {a : Gs} {m : Mem} (h : Gk gm p frm a m) (s : ByteArray) {K : AV → Mem → Prop} (hK : K (.int .i64 (if at_ p.vars s < 0 then -1 else p.size + at_ p.vars s)) m) :
    WCall Tryz.prog 307 [.ptr gm 0, .str s] m K := by
  have hv := hf.vars
  have hsz := hf.size
  have cI := c_l7At p.vars s (by omega)
  have hlt := idxAt_lt s p.vars 0
  unfold strs at cI
  obtain ⟨v, h1, h2⟩ := h
  refine wcall_of Tryz.func307 (by kernel_rfl) rfl (by simp [Tryz.f307]) ?_
  (repeat refine AWp.seq ?_); refine AWp.region noP (by kernel_rfl) ?_
  try simp
  (repeat refine AWp.seq ?_); refine AWp.region noP (by kernel_rfl) ?_
  simp [h1, Pg.gen, strs]
  refine aop_call' cI ?_
  simp
  (repeat refine AWp.seq ?_); refine AWp.region noP (by kernel_rfl) ?_
  try simp
  (repeat refine AWp.seq ?_); refine AWp.cond (b := decide (at_ p.vars s < 0)) (by simp) (fun hk => ?_) (fun hk => ?_)
  · simp only [decide_eq_true_eq] at hk
    rw [if_pos hk] at hK
    (repeat refine AWp.seq ?_); refine AWp.region noP (by kernel_rfl) ?_
    try simp
    exact AWp.ret (post_retW rfl ⟨_, _, View.refl _ _, by simpa using hK⟩)
  · simp only [decide_eq_false_iff_not] at hk
    rw [if_neg hk] at hK
    have hw : IntKind.wrap .i64 (p.size + at_ p.vars s) = p.size + at_ p.vars s := by
      unfold at_ at hk ⊢
      rw [wrap64 (by omega) (by omega)]
    refine AWp.skip ?_
    try simp
    (repeat refine AWp.seq ?_); refine AWp.region noP (by kernel_rfl) ?_
    simp [h1, Pg.gen, hw]
    exact AWp.ret (post_retW rfl ⟨_, _, View.refl _ _, by simpa using hK⟩)
theorem c_l17Reg {gm : Nat} {p : Pg} (hR : p.regs.length ≤ 2097152) {frm : Int} {a : Gs} {m : Mem} (h : Gk gm p frm a m) (op : Int) (s : ByteArray) (hbd : a.1.length ≤ 8388608) {K : AV → Mem → Prop} (hK : ∀ m', Gk gm p frm (a.reg p op s) m' → Upd (fun g => g = gm) m m' → K (.tup []) m') :
    WCall Tryz.prog 308 [.ptr gm 0, .int .i64 op, .str s] m K := by
  have cI := c_l7At p.regs s (by omega)
  unfold strs at cI
  obtain ⟨v, h1, h2⟩ := h
  refine wcall_of Tryz.func308 (by kernel_rfl) rfl (by simp [Tryz.f308]) ?_
  (repeat refine AWp.seq ?_); refine AWp.region noP (by kernel_rfl) ?_
  simp [h1, Pg.gen, strs]
  refine aop_call' cI ?_
  simp
  (repeat refine AWp.seq ?_); refine AWp.region noP (by kernel_rfl) ?_
  obtain ⟨o1, o2, o3⟩ := h2.ok
  have hb : ∀ b : Bool, a.2 = b → Gk gm p frm (a.bad (decide (at_ p.regs s < 0))) (m.set gm (.box (p.gen frm v (b || decide (at_ p.regs s < 0)) p.size (.lst false 1 ((basesN p).map (.int .i64)))))) := fun b hb =>
    ⟨v, by rw [set_same]; simp [Gs.bad, hb], h2.setBox h1 rfl⟩
  have hU : ∀ b, Upd (fun g => g = gm) m (m.set gm b) := fun b => Upd.put1 b
  cases ha : a.2
  · have hb1 := hb false ha
    simp [h1, ha, o1, o2, Pg.gen, strs] at hb1 ⊢
    (repeat refine AWp.seq ?_); refine AWp.region noP (by kernel_rfl) ?_
    simp
    refine aop_wcall _ _ _ _ _ _ _ _ rfl (eval_func _ _) ?_
    refine c_l17Put hb1 op _ 0 hbd fun m' h3 h4 => ?_
    try simp
    exact post_nrm0 rfl (hK m' h3 ((hU _).trans h4))
  · have hb1 := hb true ha
    simp [h1, ha, o1, o2, Pg.gen, strs] at hb1 ⊢
    (repeat refine AWp.seq ?_); refine AWp.region noP (by kernel_rfl) ?_
    simp
    refine aop_wcall _ _ _ _ _ _ _ _ rfl (eval_func _ _) ?_
    refine c_l17Put hb1 op _ 0 hbd fun m' h3 h4 => ?_
    try simp
    exact post_nrm0 rfl (hK m' h3 ((hU _).trans h4))
def genNm (p : Pg) (bound : List ByteArray) (a : Gs) (s : ByteArray) : Gs := if has bound s = true then a.reg p 2 s else if at_ p.vars s < 0 then a.put 1 0 0 else a.put 6 (p.size + at_ p.vars s) 0
theorem c_l17Name {gm : Nat} {p : Pg} (hf : p.Fine) (hR : p.regs.length ≤ 2097152) {frm : Int} (bound : List ByteArray) (hbl : bound.length ≤ 1048576) {a : Gs} {m : Mem} (h : Gk gm p frm a m) (s : ByteArray) (hbd : a.1.length ≤ 8388608) {K : AV → Mem → Prop} (hK : ∀ m', Gk gm p frm (genNm p bound a s) m' → Upd (fun g => g = gm) m m' → K (.tup []) m') :
    WCall Tryz.prog 204 [.ptr gm 0, strs bound, .str s] m K := by
  have cH := c_l2Has bound s (by omega)
  have hsz := hf.size
  refine wcall_of Tryz.func204 (by kernel_rfl) rfl (by simp [Tryz.f204]) ?_
  (repeat refine AWp.seq ?_); refine AWp.region noP (by kernel_rfl) ?_
  try simp
  refine aop_wcall _ _ _ _ _ _ _ _ rfl (eval_func _ _) ?_
  try simp
  refine c_l17Var hf h s ?_
  try simp
  refine AWp.block ?_
  (repeat refine AWp.seq ?_); refine AWp.region allP (by kernel_rfl) ?_
  try simp
  refine aop_call' cH ?_
  simp
  (repeat refine AWp.seq ?_); refine AWp.cond (b := has bound s) (by simp) (fun hh => ?_) (fun hh => ?_)
  · have he : genNm p bound a s = a.reg p 2 s := by unfold genNm; rw [if_pos hh]
    rw [he] at hK
    (repeat refine AWp.seq ?_); refine AWp.region noP (by kernel_rfl) ?_
    simp
    refine aop_wcall _ _ _ _ _ _ _ _ rfl (eval_func _ _) ?_
    try simp
    refine c_l17Reg hR h 2 s hbd fun m' h3 h4 => ?_
    try simp
    exact post_nrm0 rfl (hK m' h3 h4)
  have hh2 : ¬ has bound s = true := by simp [hh]
  by_cases hv : at_ p.vars s < 0
  · have he : genNm p bound a s = a.put 1 0 0 := by unfold genNm; rw [if_neg hh2, if_pos hv]
    rw [he] at hK
    (repeat refine AWp.seq ?_); refine AWp.region noP (by kernel_rfl) ?_
    simp [hv]
    (repeat refine AWp.seq ?_); refine AWp.condF (by simp) ?_
    (repeat refine AWp.seq ?_); refine AWp.region noP (by kernel_rfl) ?_
    simp
    refine aop_wcall _ _ _ _ _ _ _ _ rfl (eval_func _ _) ?_
    try simp
    refine c_l17Put h 1 0 0 hbd fun m' h3 h4 => ?_
    try simp
    exact post_nrm0 rfl (hK m' h3 h4)
  · have he : genNm p bound a s = a.put 6 (p.size + at_ p.vars s) 0 := by unfold genNm; rw [if_neg hh2, if_neg hv]
    rw [he] at hK
    have hpos : 0 ≤ p.size + at_ p.vars s := by omega
    (repeat refine AWp.seq ?_); refine AWp.region noP (by kernel_rfl) ?_
    simp [hv, hpos]
    (repeat refine AWp.seq ?_); refine AWp.condT (by simp) ?_
    (repeat refine AWp.seq ?_); refine AWp.region noP (by kernel_rfl) ?_
    simp [hv]
    refine aop_wcall _ _ _ _ _ _ _ _ rfl (eval_func _ _) ?_
    try simp [hv]
    refine c_l17Put h 6 _ 0 hbd fun m' h3 h4 => ?_
    try simp
    exact post_nrm0 rfl (hK m' h3 h4)
theorem c_l17Arr {gm : Nat} {p : Pg} (hf : p.Fine) {frm : Int} {a : Gs} {m : Mem} (h : Gk gm p frm a m) (op : Int) (s : ByteArray) (hb : a.1.length ≤ 8388608) {K : AV → Mem → Prop} (hK : ∀ m', Gk gm p frm (a.arr p op s) m' → Upd (fun g => g = gm) m m' → K (.tup []) m') :
    WCall Tryz.prog 205 [.ptr gm 0, .int .i64 op, .str s] m K := by
  have hla := hf.arrs
  have cA := c_spec_ArrAt p s (by omega)
  unfold Pg.av at cA
  have hpc : p.cells = [.lst false 2 (p.arrs.map Ar.av), .lst false 19 (p.body.map Sm.av)] := rfl
  rw [hpc] at cA
  obtain ⟨v, h1, h2⟩ := h
  refine wcall_of Tryz.func205 (by kernel_rfl) rfl (by simp [Tryz.f205]) ?_
  (repeat refine AWp.seq ?_); refine AWp.region noP (by kernel_rfl) ?_
  simp [h1, Pg.gen]
  refine aop_call' cA ?_
  simp
  (repeat refine AWp.seq ?_); refine AWp.region noP (by kernel_rfl) ?_
  simp
  (repeat refine AWp.seq ?_); refine AWp.cond (b := decide (at_ p.arrNames s < 0)) (by simp) (fun hk => ?_) (fun hk => ?_)
  · simp only [decide_eq_true_eq] at hk
    have he : a.arr p op s = (a.1, true) := by unfold Gs.arr; rw [if_pos hk]
    rw [he] at hK
    obtain ⟨o1, o2, o3⟩ := h2.ok
    (repeat refine AWp.seq ?_); refine AWp.region noP (by kernel_rfl) ?_
    simp [h1, o1, o2, Pg.gen]
    refine AWp.ret (post_ret0 rfl (hK _ ⟨v, by simp [Pg.gen], h2.setBox h1 rfl⟩ (Upd.put1 _)))
  · simp only [decide_eq_false_iff_not] at hk
    obtain ⟨k, hkk⟩ := Int.eq_ofNat_of_zero_le (show 0 ≤ at_ p.arrNames s by omega)
    have hlt := idxAt_lt s p.arrNames 0
    have hkl : k < p.arrs.length := by
      have hal : p.arrNames.length = p.arrs.length := by simp [Pg.arrNames]
      unfold at_ at hkk hk
      rcases hlt with hlt | ⟨_, hlt⟩
      · omega
      · omega
    have he : a.arr p op s = a.put op (sumN (p.arrs.take k)) (p.arrN k) := by unfold Gs.arr; rw [if_neg hk, hkk]; rfl
    rw [he] at hK
    have hn : p.arrN k = p.arrs[k].n := by unfold Pg.arrN; rw [List.getElem?_eq_getElem hkl]; rfl
    rw [hn] at hK
    have hx : ∀ m, idxA Tryz.prog m 35 (.lst false 2 (p.arrs.map Ar.av)) (.int .i64 k) = some (.ref p.arrs[k].cells) := fun m => idx (y := p.arrs[k].av) es_35 (by simp [hkl])
    have hac : p.arrs[k].cells = [.str p.arrs[k].s, .int .i64 p.arrs[k].n] := rfl
    have hx2 : ∀ m, idxA Tryz.prog m 54 (.lst false 1 ((basesN p).map (.int .i64))) (.int .i64 k) = some (.ref [.int .i64 (sumN (p.arrs.take k))]) := fun m => idx (y := .int .i64 (sumN (p.arrs.take k))) es_54 (by simp [basesN, hkl])
    refine AWp.skip ?_
    try simp
    (repeat refine AWp.seq ?_); refine AWp.regionG (fun _ => false) (fun _ => false) [0, 1, 2, 3, 4, 5, 6, 7, 8, 9, 10, 11, 12, 13, 14, 15, 16, 17, 18] [0, 1, 2, 3, 4, 5, 6, 7, 8, 9, 10, 11, 12, 13, 14, 15, 16, 17, 18] (by kernel_rfl) ?_
    simp [h1, hkk, hx, hx2, hac, Pg.gen]
    refine aop_wcall _ _ _ _ _ _ _ _ rfl (eval_func _ _) ?_
    refine c_l17Put ⟨v, by simpa [Pg.gen] using h1, h2⟩ op _ _ hb fun m' h3 h4 => ?_
    try simp
    exact post_nrm0 rfl (hK m' h3 h4)
theorem c_l17Op (k : Int) (h0 : 4 ≤ k) (h1 : k ≤ 8) : PCall Tryz.prog 206 [.int .i64 k] (.int .i64 (k + 4)) := by
  have hk : k = 4 ∨ k = 5 ∨ k = 6 ∨ k = 7 ∨ k = 8 := by omega
  refine pcall_of Tryz.func206 (by kernel_rfl) rfl (by simp [Tryz.f206]) ?_
  rcases hk with rfl | rfl | rfl | rfl | rfl
  all_goals
    repeat' (first
    | refine AWp.seq ?_
    | (refine AWp.region allP (by kernel_rfl) ?_; simp)
    | (refine AWp.condG ?_; simp)
    | (refine AWp.skip ?_; try simp)
    | (refine AWp.exit ?_; try simp)
    | refine AWp.block ?_
    | (refine AWp.ret (post_ret1 rfl ?_); (simp; done))
    | (refine guardI (fun hq => ?_) (fun hq => ?_) <;> (try simp at hq) <;> (try simp))
    | (refine condRunI (fun hq => ?_) (fun hq => ?_) <;> (try simp at hq) <;> (try simp))
    | (refine iteI (fun hq => ?_) (fun hq => ?_) <;> (try simp)))
end Go.T
namespace Go.T
open Go Go.Proofs
set_option maxRecDepth 10000
set_option maxHeartbeats 1000000
set_option linter.unusedSimpArgs false
set_option linter.unusedVariables false
theorem c_expOf {gm : Nat} {p : Pg} (hf : p.Fine) (hR : p.regs.length ≤ 2097152) {frm : Int} (bound : List ByteArray) (hbl : bound.length ≤ 1048576) (e : Ex) : e.Ks → e.tot ≤ 1048576 → ∀ (a : Gs) (m : Mem), Mk gm p.lay frm a m → a.1.length + 1 + e.tot ≤ 8388600 →
    ∀ K : AV → Mem → Prop, (∀ m', Mk gm p.lay frm (genE p bound a e) m' → Upd (fun g => g = gm) m m' → K (.tup []) m') → WCall Tryz.prog 215 [.ptr gm 0, strs bound, e.av] m K := by
  induction e using Ex.ind' with | h e ih =>
  intro hk ht a m hM hb K hK
  obtain ⟨hk1, hk8, hkl⟩ := (Ex.Ks_iff e).1 hk
  have htl := e.tot_l
  have hlen := e.len_l
  have hvl := hf.vars
  unfold genE at hK
  rw [Ex.fold_eq] at hK
  refine wcall_of Tryz.func215 (by kernel_rfl) rfl (by simp [Tryz.f215]) ?_
  unfold Ex.av
  (repeat refine AWp.seq ?_); refine AWp.region noP (by kernel_rfl) ?_
  try simp
  intro g5 hg5
  have hM1 := hM.fresh hg5 (.box e.cells)
  have n5 : g5 ≠ gm := by rintro rfl; exact hM.dom hg5
  have hU0 : Upd (fun g => g = gm) m (m.set g5 (.box e.cells)) := Upd.set hg5 _
  have hgg : (m.set g5 (.box e.cells)) g5 = some (.box e.cells) := set_same _ _ _
  generalize m.set g5 (.box e.cells) = m1 at *
  (repeat refine AWp.seq ?_); refine AWp.region noP (by kernel_rfl) ?_
  simp [hgg]
  (repeat refine AWp.seq ?_); refine AWp.cutA (fun st => st.slots 0 = .ptr gm 0 ∧ st.slots 1 = strs bound ∧ st.slots 5 = .ptr g5 0 ∧ Mk gm p.lay frm (Ex.folds (genOp p bound) a e.l) st.mem ∧ Upd (fun g => g = gm) m1 st.mem) ?_ ?_
  · refine AWp.block (AWp.rounds (fun q st => ∃ (i : Nat) (b : Gs), q = e.l.length - i ∧ i ≤ e.l.length ∧ st.slots 0 = .ptr gm 0 ∧ st.slots 1 = strs bound ∧ st.slots 5 = .ptr g5 0 ∧ st.slots 9 = .lst false 4 (e.l.map Ex.av) ∧ st.slots 10 = .int .i64 e.l.length ∧ st.slots 11 = .int .i64 i ∧ Mk gm p.lay frm b st.mem ∧ Ex.folds (genOp p bound) a e.l = Ex.folds (genOp p bound) b (e.l.drop i) ∧ Upd (fun g => g = gm) m1 st.mem ∧ b.1.length + totL Ex.tot (e.l.drop i) ≤ a.1.length + totL Ex.tot e.l) (e.l.length) ⟨0, a, by simp, by simp, (by first | (simp; done) | (simp [*]; done)), (by first | (simp; done) | (simp [*]; done)), (by first | (simp; done) | (simp [*]; done)), (by first | (simp; done) | (simp [*]; done)), (by first | (simp; done) | (simp [*]; done)), (by first | (simp; done) | (simp [*]; done)), (by simpa using hM1), (by simp), (by simpa using Upd.refl _ _), (by simp)⟩ ?_)
    rintro R q st hR ⟨i, b, rfl, hi, s0, s1, s5, s9, s10, s11, hM, hr, hU, hbl2⟩
    (repeat refine AWp.seq ?_); refine AWp.region noP (by kernel_rfl) ?_
    simp [s9, s10, s11]
    (repeat refine AWp.seq ?_); refine AWp.cond (b := decide (i < e.l.length)) (by simp) (fun hlt => ?_) (fun hlt => ?_)
    · simp at hlt
      have hg : e.l[i]? = some e.l[i] := List.getElem?_eq_getElem hlt
      have hdr : e.l.drop i = e.l[i] :: e.l.drop (i + 1) := List.drop_eq_getElem_cons hlt
      have htm := totL_mem Ex.tot (List.getElem_mem hlt)
      have hx : ∀ m, idxA Tryz.prog m 41 (.lst false 4 (e.l.map Ex.av)) (.int .i64 i) = some (.ref e.l[i].cells) := fun m => idx (y := e.l[i].av) es_41 (by simp [hg])
      have hw : IntKind.wrap .i64 ((i : Int) + 1) = (i + 1 : Nat) := wrap64 (by omega) (by omega)
      have hbL := (Ex.folds_len (genOp_len p bound) e.l a).1
      have hbL2 := (Ex.folds_len (genOp_len p bound) (e.l.drop i) b).2
      rw [Ex.tots_eq] at hbL
      rw [← hr] at hbL2
      rw [hdr, Ex.folds] at hr
      rw [hdr, totL] at hbl2
      have hb0 : b.1.length + 1 + e.l[i].tot ≤ 8388600 := by omega
      refine AWp.skip ?_
      try simp
      (repeat refine AWp.seq ?_); refine AWp.block ?_; (repeat refine AWp.seq ?_); refine AWp.region noP (by kernel_rfl) ?_
      simp [s9, s11, hx]
      intro g hgf
      try simp [set_at, set_set]
      have hM2 := hM.fresh hgf (.box e.l[i].cells)
      have ng : g ≠ gm := by rintro rfl; exact hM.dom hgf
      have hU2 : Upd (fun g => g = gm) m1 (st.mem.set g (.box e.l[i].cells)) := hU.trans (Upd.set hgf _)
      have hgg : (st.mem.set g (.box e.l[i].cells)) g = some (.box e.l[i].cells) := set_same _ _ _
      generalize st.mem.set g (.box e.l[i].cells) = m2 at *
      (repeat refine AWp.seq ?_); refine AWp.region noP (by kernel_rfl) ?_
      simp [s0, s1, hgg]
      refine aop_wcall _ _ _ _ _ _ _ _ rfl (eval_func _ _) ?_
      try simp [s0, s1, hgg]
      refine ih e.l[i] (List.getElem_mem _) (hkl _ (List.getElem_mem _)) (by omega) b _ hM2 hb0 _ fun m3 hM3 hU3 => ?_
      try simp
      (repeat refine AWp.seq ?_); refine AWp.region noP (by kernel_rfl) ?_
      simp [s11, hw]
      refine hR _ (e.l.length - (i + 1)) (by omega) ⟨i + 1, _, rfl, by omega, (by first | (simp [s0]; done) | (simp [*]; done)), (by first | (simp [s1]; done) | (simp [*]; done)), (by first | (simp [s5]; done) | (simp [*]; done)), (by first | (simp [s9]; done) | (simp [*]; done)), (by first | (simp [s10]; done) | (simp [*]; done)), (by first | (simp [s11]; done) | (simp [*]; done)), (by simpa [genE] using hM3), hr, (by simpa using hU2.trans hU3), (by have := (genE_len p bound b e.l[i]).1; unfold genE at this; omega)⟩
    · simp at hlt
      refine AWp.exit ?_
      have : i = e.l.length := by omega
      subst this
      simp [Ex.folds] at hr
      simp [s0, s1, s5, hr, hM, hU]
  have hfl := Ex.folds_len (genOp_len p bound) e.l a
  rw [Ex.tots_eq] at hfl
  generalize Ex.folds (genOp p bound) a e.l = A at *
  clear hM1
  rintro st ⟨s0, s1, s5, hM3, hU3⟩
  have b5 := hU3 g5 _ n5 hgg
  have hUU : ∀ m', Upd (fun g => g = gm) st.mem m' → Upd (fun g => g = gm) m m' := fun m' h => (hU0.trans hU3).trans h
  (repeat refine AWp.seq ?_); refine AWp.region noP (by kernel_rfl) ?_
  simp [s5, b5]
  refine AWp.block ?_
  (repeat refine AWp.seq ?_); refine AWp.region noP (by kernel_rfl) ?_
  try simp
  (repeat refine AWp.seq ?_); refine AWp.cond (b := decide (e.k = 1)) (by simp) (fun h1 => ?_) (fun h1 => ?_)
  · simp only [decide_eq_true_eq] at h1
    have he : genOp p bound A e = A.put 1 e.n 0 := by unfold genOp; rw [if_pos h1]
    rw [he] at hK
    (repeat refine AWp.seq ?_); refine AWp.region noP (by kernel_rfl) ?_
    simp [s0, s5, b5]
    refine aop_wcall _ _ _ _ _ _ _ _ rfl (eval_func _ _) ?_
    try simp [s0]
    refine c_put hM3 1 e.n 0 (by omega) fun m4 hM4 hU4 => ?_
    try simp
    exact post_nrm0 rfl (hK m4 hM4 (hUU _ hU4))
  simp only [decide_eq_false_iff_not] at h1
  (repeat refine AWp.seq ?_); refine AWp.region noP (by kernel_rfl) ?_
  try simp
  (repeat refine AWp.seq ?_); refine AWp.cond (b := decide (e.k = 2)) (by simp) (fun h2 => ?_) (fun h2 => ?_)
  · simp only [decide_eq_true_eq] at h2
    have cH := c_Contains bound e.s (by omega)
    have cW := c_word p hf e.s
    unfold strs at cH
    refine AWp.block ?_
    (repeat refine AWp.seq ?_); refine AWp.region allP (by kernel_rfl) ?_
    simp [s0, s1, s5, b5, strs]
    refine aop_call' cH ?_
    simp
    (repeat refine AWp.seq ?_); refine AWp.cond (b := has bound e.s) (by simp) (fun hh => ?_) (fun hh => ?_)
    · have he : genOp p bound A e = A.reg p 2 e.s := by unfold genOp; rw [if_neg h1, if_pos h2, if_pos hh]
      rw [he] at hK
      (repeat refine AWp.seq ?_); refine AWp.region noP (by kernel_rfl) ?_
      simp [s0, s5, b5]
      refine aop_wcall _ _ _ _ _ _ _ _ rfl (eval_func _ _) ?_
      try simp [s0]
      refine c_reg hf hR hM3 e.s fun m4 hM4 hU4 => ?_
      try simp [s0]
      refine aop_wcall _ _ _ _ _ _ _ _ rfl (eval_func _ _) ?_
      try simp [s0]
      refine c_put hM4 2 _ 0 (by show A.1.length ≤ _; omega) fun m5 hM5 hU5 => ?_
      try simp
      exact post_nrm0 rfl (hK m5 hM5 (hUU _ (hU4.trans hU5)))
    have hh2 : ¬ has bound e.s = true := by simp [hh]
    obtain ⟨v, bm, hG⟩ := hM3
    (repeat refine AWp.seq ?_); refine AWp.regionG (fun _ => true) (fun _ => false) [0, 1, 2, 3, 4, 5, 6, 7, 8] [0, 1, 2, 3, 4, 5, 6, 7, 8] (by kernel_rfl) ?_
    simp [s0, s5, b5, bm]
    refine aop_call' cW ?_
    simp
    by_cases hv : at_ p.vars e.s < 0
    · rw [if_pos hv]
      have he : genOp p bound A e = A.put 1 0 0 := by unfold genOp; rw [if_neg h1, if_pos h2, if_neg hh2, if_pos hv]
      rw [he] at hK
      try simp
      (repeat refine AWp.seq ?_); refine AWp.condF (by simp) ?_
      (repeat refine AWp.seq ?_); refine AWp.region noP (by kernel_rfl) ?_
      simp [s0]
      refine aop_wcall _ _ _ _ _ _ _ _ rfl (eval_func _ _) ?_
      try simp [s0]
      refine c_put ⟨v, bm, hG⟩ 1 0 0 (by omega) fun m4 hM4 hU4 => ?_
      try simp
      exact post_nrm0 rfl (hK m4 hM4 (hUU _ hU4))
    · have hsz := hf.size
      have he : genOp p bound A e = A.put 6 (p.size + at_ p.vars e.s) 0 := by unfold genOp; rw [if_neg h1, if_pos h2, if_neg hh2, if_neg hv]
      rw [he] at hK
      rw [if_neg hv]
      rw [if_neg hv] at cW
      have hpos : 0 ≤ p.size + at_ p.vars e.s := by omega
      simp [hpos]
      (repeat refine AWp.seq ?_); refine AWp.condT (by simp) ?_
      (repeat refine AWp.seq ?_); refine AWp.regionG (fun i => i == 7) (fun _ => false) [0, 1, 2, 3, 4, 5, 6, 7, 8] [0, 1, 2, 3, 4, 5, 6, 7, 8] (by kernel_rfl) ?_
      simp [s0, s5, b5, bm]
      refine aop_call' cW ?_
      simp [s0]
      refine aop_wcall _ _ _ _ _ _ _ _ rfl (eval_func _ _) ?_
      try simp [s0]
      refine c_put ⟨v, bm, hG⟩ 6 _ 0 (by omega) fun m4 hM4 hU4 => ?_
      try simp
      exact post_nrm0 rfl (hK m4 hM4 (hUU _ hU4))
  simp only [decide_eq_false_iff_not] at h2
  (repeat refine AWp.seq ?_); refine AWp.region noP (by kernel_rfl) ?_
  try simp
  (repeat refine AWp.seq ?_); refine AWp.cond (b := decide (e.k = 3)) (by simp) (fun h3 => ?_) (fun h3 => ?_)
  · simp only [decide_eq_true_eq] at h3
    have he : genOp p bound A e = A.arr p 4 e.s := by unfold genOp; rw [if_neg h1, if_neg h2, if_pos h3]
    rw [he] at hK
    (repeat refine AWp.seq ?_); refine AWp.region noP (by kernel_rfl) ?_
    simp [s0, s5, b5]
    refine aop_wcall _ _ _ _ _ _ _ _ rfl (eval_func _ _) ?_
    try simp [s0]
    refine c_array hf hM3 4 e.s (by omega) fun m4 hM4 hU4 => ?_
    try simp
    exact post_nrm0 rfl (hK m4 hM4 (hUU _ hU4))
  simp only [decide_eq_false_iff_not] at h3
  have he : genOp p bound A e = A.put (e.k + 4) 0 0 := by unfold genOp; rw [if_neg h1, if_neg h2, if_neg h3]
  rw [he] at hK
  have cO := c_opOf e.k hk1 hk8
  (repeat refine AWp.seq ?_); refine AWp.region noP (by kernel_rfl) ?_
  simp [s0, s5, b5]
  refine aop_call' cO ?_
  simp [s0]
  refine aop_wcall _ _ _ _ _ _ _ _ rfl (eval_func _ _) ?_
  try simp [s0]
  refine c_put hM3 _ 0 0 (by omega) fun m4 hM4 hU4 => ?_
  try simp
  exact post_nrm0 rfl (hK m4 hM4 (hUU _ hU4))
def genX (p : Pg) (bound : List ByteArray) (a : Gs) (e : Ex) : Gs := if e.ok = true then genE p bound a e else (a.1, true)
theorem c_mexp {gm : Nat} {p : Pg} (hf : p.Fine) (hR : p.regs.length ≤ 2097152) {frm : Int} (bound : List ByteArray) (hbl : bound.length ≤ 1048576) (e : Ex) (ht : e.tot ≤ 1048576) {a : Gs} {m : Mem} (hM : Mk gm p.lay frm a m) (hb : a.1.length + 1 + e.tot ≤ 8388600)
    {K : AV → Mem → Prop} (hK : ∀ m', Mk gm p.lay frm (genX p bound a e) m' → Upd (fun g => g = gm) m m' → K (.tup []) m') : WCall Tryz.prog 97 [.ptr gm 0, strs bound, e.av] m K := by
  have cO := c_impl_ExpOk e ht
  have hx := c_expOf (frm := frm) (gm := gm) hf hR bound hbl e
  refine wcall_of Tryz.func97 (by kernel_rfl) rfl (by simp [Tryz.f97]) ?_
  unfold Ex.av at *
  (repeat refine AWp.seq ?_); refine AWp.region noP (by kernel_rfl) ?_
  try simp
  intro g hg
  have hM1 := hM.fresh hg (.box e.cells)
  have hU0 : Upd (fun g => g = gm) m (m.set g (.box e.cells)) := Upd.set hg _
  have hgg : (m.set g (.box e.cells)) g = some (.box e.cells) := set_same _ _ _
  generalize m.set g (.box e.cells) = m1 at *
  (repeat refine AWp.seq ?_); refine AWp.region allP (by kernel_rfl) ?_
  simp [hgg]
  refine aop_call' cO ?_
  simp
  (repeat refine AWp.seq ?_); refine AWp.cond (b := !e.ok) (by simp) (fun ho => ?_) (fun ho => ?_)
  · simp at ho
    have he : genX p bound a e = (a.1, true) := by unfold genX; simp [ho]
    rw [he] at hK
    obtain ⟨v, h1, h2⟩ := hM1
    obtain ⟨o1, o2, o3⟩ := h2.ok
    (repeat refine AWp.seq ?_); refine AWp.region noP (by kernel_rfl) ?_
    simp [h1, o1, o2]
    exact AWp.ret (post_ret0 rfl (hK _ ⟨v, by simp, h2.setBox h1 rfl⟩ (hU0.trans (Upd.put1 _))))
  · simp at ho
    have he : genX p bound a e = genE p bound a e := by unfold genX; simp [ho]
    rw [he] at hK
    refine AWp.skip ?_
    try simp
    (repeat refine AWp.seq ?_); refine AWp.region noP (by kernel_rfl) ?_
    simp [hgg]
    refine aop_wcall _ _ _ _ _ _ _ _ rfl (eval_func _ _) ?_
    try simp
    refine hx (Ex.ok_Ks ho) ht a _ hM1 hb _ fun m4 hM4 hU4 => ?_
    try simp
    exact post_nrm0 rfl (hK m4 hM4 (hU0.trans hU4))
theorem o_impl_GenExp (p : Pg) (hp : p.tot ≤ 1048576) (bound : List ByteArray) (hbl : bound.length ≤ 1048576) (e : Ex) (he : e.tot ≤ 1048576) : OCall Tryz.prog 19 [p.av, strs bound, e.av] (inss (genExp p bound e)) := by
  have cP := c_impl_ProgOk p hp
  refine wcall_of Tryz.func19 (by kernel_rfl) rfl (by simp [Tryz.f19]) ?_
  unfold Pg.av Ex.av at *
  (repeat refine AWp.seq ?_); refine AWp.region noP (by kernel_rfl) ?_
  try simp
  intro g1 g2 h2
  have e1 : ((Mem.set (fun _ => none) g1 (.box p.cells)).set g2 (.box e.cells)) g1 = some (.box p.cells) := by
    rw [set_at, if_neg]; exact set_same _ _ _
    rintro rfl; simp at h2
  have e2 : ((Mem.set (fun _ => none) g1 (.box p.cells)).set g2 (.box e.cells)) g2 = some (.box e.cells) := set_same _ _ _
  generalize (Mem.set (fun _ => none) g1 (.box p.cells)).set g2 (.box e.cells) = m1 at *
  (repeat refine AWp.seq ?_); refine AWp.region allP (by kernel_rfl) ?_
  simp [e1]
  refine aop_call' cP ?_
  simp
  (repeat refine AWp.seq ?_); refine AWp.cond (b := !p.ok) (by simp) (fun ho => ?_) (fun ho => ?_)
  · simp at ho
    have hg : genExp p bound e = [] := by unfold genExp; simp [ho]
    rw [hg]
    (repeat refine AWp.seq ?_); refine AWp.region noP (by kernel_rfl) ?_
    simp
    exact AWp.ret (post_retO (F := fun _ => False) rfl (by simp) (.nil true 0 3))
  simp at ho
  have hf := Pg.fine ho
  have hR : p.regs.length ≤ 2097152 := by
    have h1 := p.regs_len
    have h2 := hf.vars
    obtain ⟨_, _, L3, _, _⟩ := p.lens hp
    omega
  have hg : genExp p bound e = (genX p bound ([], false) e).made := by
    unfold genExp genX
    by_cases hok : e.ok = true
    · simp [ho, hok]
    · simp [ho, hok, Gs.made]
  rw [hg]
  refine AWp.skip ?_
  try simp
  (repeat refine AWp.seq ?_); refine AWp.region noP (by kernel_rfl) ?_
  simp [e1]
  refine aop_wcall _ _ _ _ _ _ _ _ rfl (eval_func _ _) ?_
  refine c_makerOf p hp hf 0 fun gm m2 hM hE => ?_
  replace e2 := hE _ _ e2
  try simp
  (repeat refine AWp.seq ?_); refine AWp.region noP (by kernel_rfl) ?_
  simp [e2]
  refine aop_wcall _ _ _ _ _ _ _ _ rfl (eval_func _ _) ?_
  try simp
  refine c_mexp hf hR bound hbl e he hM (by simp; omega) fun m3 hM3 hU3 => ?_
  try simp
  (repeat refine AWp.seq ?_); refine AWp.region noP (by kernel_rfl) ?_
  simp
  refine aop_wcall _ _ _ _ _ _ _ _ rfl (eval_func _ _) ?_
  try simp
  refine c_made hM3 fun v F hO => ?_
  try simp
  exact AWp.ret (post_retO (q := v) rfl (by simp) (by simpa using hO))
end Go.T
namespace Go.T
open Go Go.Proofs
set_option maxRecDepth 10000
set_option maxHeartbeats 1000000
set_option linter.unusedSimpArgs false
set_option linter.unusedVariables false
theorem c_l17Exp {gm : Nat} {p : Pg} (hf : p.Fine) (hR : p.regs.length ≤ 2097152) {frm : Int} (bound : List ByteArray) (hbl : bound.length ≤ 1048576) (e : Ex) : e.Ks → e.tot ≤ 1048576 → ∀ (a : Gs) (m : Mem), Gk gm p frm a m → a.1.length + 1 + e.tot ≤ 8388600 →
    ∀ K : AV → Mem → Prop, (∀ m', Gk gm p frm (genE p bound a e) m' → Upd (fun g => g = gm) m m' → K (.tup []) m') → WCall Tryz.prog 91 [.ptr gm 0, strs bound, e.av] m K := by
  induction e using Ex.ind' with | h e ih =>
  intro hk ht a m hM hb K hK
  obtain ⟨hk1, hk8, hkl⟩ := (Ex.Ks_iff e).1 hk
  have htl := e.tot_l
  have hlen := e.len_l
  unfold genE at hK
  rw [Ex.fold_eq] at hK
  refine wcall_of Tryz.func91 (by kernel_rfl) rfl (by simp [Tryz.f91]) ?_
  unfold Ex.av
  (repeat refine AWp.seq ?_); refine AWp.region noP (by kernel_rfl) ?_
  try simp
  intro g5 hg5
  have hM1 := hM.fresh hg5 (.box e.cells)
  have n5 : g5 ≠ gm := by rintro rfl; exact hM.dom hg5
  have hU0 : Upd (fun g => g = gm) m (m.set g5 (.box e.cells)) := Upd.set hg5 _
  have hgg : (m.set g5 (.box e.cells)) g5 = some (.box e.cells) := set_same _ _ _
  generalize m.set g5 (.box e.cells) = m1 at *
  (repeat refine AWp.seq ?_); refine AWp.region noP (by kernel_rfl) ?_
  try simp
  (repeat refine AWp.seq ?_); refine AWp.cutA (fun st => st.slots 0 = .ptr gm 0 ∧ st.slots 1 = strs bound ∧ st.slots 5 = .ptr g5 0 ∧ Gk gm p frm (Ex.folds (genOp p bound) a e.l) st.mem ∧ Upd (fun g => g = gm) m1 st.mem) ?_ ?_
  · refine AWp.block (AWp.rounds (fun q st => ∃ (i : Nat) (b : Gs), q = e.l.length - i ∧ i ≤ e.l.length ∧ st.slots 0 = .ptr gm 0 ∧ st.slots 1 = strs bound ∧ st.slots 5 = .ptr g5 0 ∧ st.slots 6 = .int .i64 i ∧ Gk gm p frm b st.mem ∧ Ex.folds (genOp p bound) a e.l = Ex.folds (genOp p bound) b (e.l.drop i) ∧ Upd (fun g => g = gm) m1 st.mem ∧ b.1.length + totL Ex.tot (e.l.drop i) ≤ a.1.length + totL Ex.tot e.l) (e.l.length) ⟨0, a, by simp, by simp, (by first | (simp; done) | (simp [*]; done)), (by first | (simp; done) | (simp [*]; done)), (by first | (simp; done) | (simp [*]; done)), (by first | (simp; done) | (simp [*]; done)), (by simpa using hM1), (by simp), (by simpa using Upd.refl _ _), (by simp)⟩ ?_)
    rintro R q st hR ⟨i, b, rfl, hi, s0, s1, s5, s6, hM, hr, hU, hbl2⟩
    have b5 := hU g5 _ n5 hgg
    (repeat refine AWp.seq ?_); refine AWp.region noP (by kernel_rfl) ?_
    simp [s5, s6, b5]
    (repeat refine AWp.seq ?_); refine AWp.cond (b := decide (i < e.l.length)) (by simp) (fun hlt => ?_) (fun hlt => ?_)
    · simp at hlt
      have hg : e.l[i]? = some e.l[i] := List.getElem?_eq_getElem hlt
      have hdr : e.l.drop i = e.l[i] :: e.l.drop (i + 1) := List.drop_eq_getElem_cons hlt
      have htm := totL_mem Ex.tot (List.getElem_mem hlt)
      have hx : ∀ m, idxA Tryz.prog m 41 (.lst false 4 (e.l.map Ex.av)) (.int .i64 i) = some (.ref e.l[i].cells) := fun m => idx (y := e.l[i].av) es_41 (by simp [hg])
      have hw : IntKind.wrap .i64 ((i : Int) + 1) = (i + 1 : Nat) := wrap64 (by omega) (by omega)
      have hbL := (Ex.folds_len (genOp_len p bound) e.l a).1
      have hbL2 := (Ex.folds_len (genOp_len p bound) (e.l.drop i) b).2
      rw [Ex.tots_eq] at hbL
      rw [← hr] at hbL2
      rw [hdr, Ex.folds] at hr
      rw [hdr, totL] at hbl2
      have hb0 : b.1.length + 1 + e.l[i].tot ≤ 8388600 := by omega
      refine AWp.skip ?_
      try simp
      (repeat refine AWp.seq ?_); refine AWp.block ?_; (repeat refine AWp.seq ?_); refine AWp.region noP (by kernel_rfl) ?_
      simp [s0, s1, s5, s6, b5, hx]
      refine aop_wcall _ _ _ _ _ _ _ _ rfl (eval_func _ _) ?_
      try simp [s0, s1, s5, s6]
      refine ih e.l[i] (List.getElem_mem _) (hkl _ (List.getElem_mem _)) (by omega) b _ hM hb0 _ fun m3 hM3 hU3 => ?_
      try simp
      (repeat refine AWp.seq ?_); refine AWp.region noP (by kernel_rfl) ?_
      simp [s6, hw]
      refine hR _ (e.l.length - (i + 1)) (by omega) ⟨i + 1, _, rfl, by omega, (by first | (simp [s0]; done) | (simp [*]; done)), (by first | (simp [s1]; done) | (simp [*]; done)), (by first | (simp [s5]; done) | (simp [*]; done)), (by first | (simp [s6]; done) | (simp [*]; done)), (by simpa [genE] using hM3), hr, (by simpa using hU.trans hU3), (by have := (genE_len p bound b e.l[i]).1; unfold genE at this; omega)⟩
    · simp at hlt
      refine AWp.exit ?_
      have : i = e.l.length := by omega
      subst this
      simp [Ex.folds] at hr
      simp [s0, s1, s5, hr, hM, hU]
  have hfl := Ex.folds_len (genOp_len p bound) e.l a
  rw [Ex.tots_eq] at hfl
  generalize Ex.folds (genOp p bound) a e.l = A at *
  clear hM1
  rintro st ⟨s0, s1, s5, hM3, hU3⟩
  have b5 := hU3 g5 _ n5 hgg
  have hUU : ∀ m', Upd (fun g => g = gm) st.mem m' → Upd (fun g => g = gm) m m' := fun m' h => (hU0.trans hU3).trans h
  (repeat refine AWp.seq ?_); refine AWp.region noP (by kernel_rfl) ?_
  simp [s5, b5]
  refine AWp.block ?_
  (repeat refine AWp.seq ?_); refine AWp.region noP (by kernel_rfl) ?_
  try simp
  (repeat refine AWp.seq ?_); refine AWp.cond (b := decide (e.k = 1)) (by simp) (fun h1 => ?_) (fun h1 => ?_)
  · simp only [decide_eq_true_eq] at h1
    have he : genOp p bound A e = A.put 1 e.n 0 := by unfold genOp; rw [if_pos h1]
    rw [he] at hK
    (repeat refine AWp.seq ?_); refine AWp.region noP (by kernel_rfl) ?_
    simp [s0, s5, b5]
    refine aop_wcall _ _ _ _ _ _ _ _ rfl (eval_func _ _) ?_
    try simp [s0]
    refine c_l17Put hM3 1 e.n 0 (by omega) fun m4 hM4 hU4 => ?_
    try simp
    exact post_nrm0 rfl (hK m4 hM4 (hUU _ hU4))
  simp only [decide_eq_false_iff_not] at h1
  (repeat refine AWp.seq ?_); refine AWp.region noP (by kernel_rfl) ?_
  try simp
  (repeat refine AWp.seq ?_); refine AWp.cond (b := decide (e.k = 2)) (by simp) (fun h2 => ?_) (fun h2 => ?_)
  · simp only [decide_eq_true_eq] at h2
    have he : genOp p bound A e = genNm p bound A e.s := by unfold genOp genNm; rw [if_neg h1, if_pos h2]
    rw [he] at hK
    (repeat refine AWp.seq ?_); refine AWp.region noP (by kernel_rfl) ?_
    simp [s0, s1, s5, b5]
    refine aop_wcall _ _ _ _ _ _ _ _ rfl (eval_func _ _) ?_
    try simp [s0, s1]
    refine c_l17Name hf hR bound hbl hM3 e.s (by omega) fun m4 hM4 hU4 => ?_
    try simp
    exact post_nrm0 rfl (hK m4 hM4 (hUU _ hU4))
  simp only [decide_eq_false_iff_not] at h2
  (repeat refine AWp.seq ?_); refine AWp.region noP (by kernel_rfl) ?_
  try simp
  (repeat refine AWp.seq ?_); refine AWp.cond (b := decide (e.k = 3)) (by simp) (fun h3 => ?_) (fun h3 => ?_)
  · simp only [decide_eq_true_eq] at h3
    have he : genOp p bound A e = A.arr p 4 e.s := by unfold genOp; rw [if_neg h1, if_neg h2, if_pos h3]
    rw [he] at hK
    (repeat refine AWp.seq ?_); refine AWp.region noP (by kernel_rfl) ?_
    simp [s0, s5, b5]
    refine aop_wcall _ _ _ _ _ _ _ _ rfl (eval_func _ _) ?_
    try simp [s0]
    refine c_l17Arr hf hM3 4 e.s (by omega) fun m4 hM4 hU4 => ?_
    try simp
    exact post_nrm0 rfl (hK m4 hM4 (hUU _ hU4))
  simp only [decide_eq_false_iff_not] at h3
  have he : genOp p bound A e = A.put (e.k + 4) 0 0 := by unfold genOp; rw [if_neg h1, if_neg h2, if_neg h3]
  rw [he] at hK
  have cO := c_l17Op e.k (by omega) hk8
  (repeat refine AWp.seq ?_); refine AWp.region noP (by kernel_rfl) ?_
  simp [s0, s5, b5]
  refine aop_call' cO ?_
  simp [s0]
  refine aop_wcall _ _ _ _ _ _ _ _ rfl (eval_func _ _) ?_
  try simp [s0]
  refine c_l17Put hM3 _ 0 0 (by omega) fun m4 hM4 hU4 => ?_
  try simp
  exact post_nrm0 rfl (hK m4 hM4 (hUU _ hU4))
theorem c_spec_GenExp (p : Pg) (hp : p.tot ≤ 1048576) (bound : List ByteArray) (hbl : bound.length ≤ 1048576) (e : Ex) (he : e.tot ≤ 1048576) : PCall Tryz.prog 15 [p.av, strs bound, e.av] (inss (genExp p bound e)) := by
  have cP := c_spec_ProgOk p hp
  have cE := c_spec_ExpOk e he
  refine pcall_of Tryz.func15 (by kernel_rfl) rfl (by simp [Tryz.f15]) ?_
  unfold Pg.av Ex.av at *
  (repeat refine AWp.seq ?_); refine AWp.region noP (by kernel_rfl) ?_
  try simp
  intro g1 g2 h2
  have e1 : ((Mem.set (fun _ => none) g1 (.box p.cells)).set g2 (.box e.cells)) g1 = some (.box p.cells) := by
    rw [set_at, if_neg]; exact set_same _ _ _
    rintro rfl; simp at h2
  have e2 : ((Mem.set (fun _ => none) g1 (.box p.cells)).set g2 (.box e.cells)) g2 = some (.box e.cells) := set_same _ _ _
  generalize (Mem.set (fun _ => none) g1 (.box p.cells)).set g2 (.box e.cells) = m1 at *
  (repeat refine AWp.seq ?_); refine AWp.cutA (fun st => st.slots 1 = strs bound ∧ st.slots 3 = .ptr g1 0 ∧ st.slots 5 = .ptr g2 0 ∧ st.slots 15 = .bool (!decide (p.ok = true ∧ e.ok = true)) ∧ st.mem = m1) ?_ ?_
  · refine AWp.region allP (by kernel_rfl) ?_
    simp [e1]
    refine aop_call' cP ?_
    cases hpo : p.ok
    · simp
    · simp [e2]
      refine aop_call' cE ?_
      simp
  rintro st ⟨s1, s3, s5, s15, rfl⟩
  (repeat refine AWp.seq ?_); refine AWp.cond (b := !decide (p.ok = true ∧ e.ok = true)) (by simp [s15]) (fun ho => ?_) (fun ho => ?_)
  · simp only [Bool.not_eq_true', decide_eq_false_iff_not] at ho
    have hg : genExp p bound e = [] := by unfold genExp; rw [if_neg ho]
    rw [hg]
    (repeat refine AWp.seq ?_); refine AWp.region noP (by kernel_rfl) ?_
    simp
    exact AWp.ret (post_retW rfl ⟨_, _, by simpa [inss] using (Gr.start' (T := 0) (e := 3) _ 3).view, rfl⟩)
  simp only [Bool.not_eq_false', decide_eq_true_eq] at ho
  have hf := Pg.fine ho.1
  have hR : p.regs.length ≤ 2097152 := by
    have h1 := p.regs_len
    have h2 := hf.vars
    obtain ⟨_, _, L3, _, _⟩ := p.lens hp
    omega
  have hg : genExp p bound e = (genE p bound ([], false) e).made := by unfold genExp; rw [if_pos ho]
  rw [hg]
  refine AWp.skip ?_
  try simp
  (repeat refine AWp.seq ?_); refine AWp.region noP (by kernel_rfl) ?_
  simp [s3, e1]
  refine aop_wcall _ _ _ _ _ _ _ _ rfl (eval_func _ _) ?_
  refine c_l17New p hp hf 0 fun gm m2 hM hE => ?_
  replace e2 := hE _ _ e2
  try simp
  (repeat refine AWp.seq ?_); refine AWp.region noP (by kernel_rfl) ?_
  simp [s1, s5, e2]
  refine aop_wcall _ _ _ _ _ _ _ _ rfl (eval_func _ _) ?_
  try simp [s1]
  refine c_l17Exp hf hR bound hbl e (Ex.ok_Ks ho.2) he _ _ hM (by simp; omega) _ fun m3 hM3 hU3 => ?_
  generalize genE p bound ([], false) e = A at *
  obtain ⟨v, h1, h2⟩ := hM3
  try simp
  (repeat refine AWp.seq ?_); refine AWp.region noP (by kernel_rfl) ?_
  simp [h1, Pg.gen]
  cases ha : A.2
  · (repeat refine AWp.seq ?_); refine AWp.condF (by simp) ?_
    refine AWp.skip ?_
    try simp
    (repeat refine AWp.seq ?_); refine AWp.region noP (by kernel_rfl) ?_
    simp [h1, Pg.gen]
    have e : A.made = A.1 := by unfold Gs.made; simp [ha]
    rw [e]
    exact AWp.ret (post_retW rfl ⟨_, _, by simpa [inss] using h2.view, rfl⟩)
  · (repeat refine AWp.seq ?_); refine AWp.condT (by simp) ?_
    (repeat refine AWp.seq ?_); refine AWp.region noP (by kernel_rfl) ?_
    simp
    have e : A.made = [] := by unfold Gs.made; simp [ha]
    rw [e]
    exact AWp.ret (post_retW rfl ⟨_, _, by simpa [inss] using (Gr.start' (T := 0) (e := 3) _ 3).view, rfl⟩)
end Go.T
namespace Go.T
open Go Go.Proofs
set_option maxRecDepth 10000
set_option maxHeartbeats 1000000
set_option linter.unusedSimpArgs false
set_option linter.unusedVariables false
theorem c_FnExactGenExp (p : Pg) (hf : p.fit) (ns : List ByteArray) (hns0 : ns.length ≤ most ∧ ∀ x ∈ ns, x.size ≤ most) (e : Ex) (hfe : e.fit) : PCall Tryz.prog 3 [p.av, .lst false 1 (ns.map .str), e.av] (.bool true) := by
  obtain ⟨hl, hns⟩ := hns0
  refine pcall_of Tryz.func3 (by kernel_rfl) rfl (by simp [Tryz.f3]) ?_
  have czP := c_szProg p hf
  have czE := c_szExp e hfe
  unfold Pg.av at czP
  unfold Ex.av at czE
  unfold Pg.av Ex.av
  (repeat refine AWp.seq ?_); refine AWp.region noP (by kernel_rfl) ?_
  try simp
  intro g_aP g_aE h_g_aE
  have H := (((Hold.nil (fun _ => none)).addBox (g := g_aP) rfl p.cells).addBox (g := g_aE) h_g_aE e.cells)
  generalize (Mem.set (Mem.set (fun _ => none) g_aP (.box p.cells)) g_aE (.box e.cells)) = m1 at *
  have b_g_aP := H.box (g_aP, p.cells) (by simp)
  have b_g_aE := H.box (g_aE, e.cells) (by simp)
  (repeat refine AWp.seq ?_); refine AWp.region noP (by kernel_rfl) ?_
  try simp [b_g_aP, b_g_aE]
  try clear b_g_aP
  try clear b_g_aE
  have b_g_aP := H.box (g_aP, p.cells) (by simp)
  have b_g_aE := H.box (g_aE, e.cells) (by simp)
  (repeat refine AWp.seq ?_); refine AWp.region noP (by kernel_rfl) ?_
  try simp [b_g_aP, b_g_aE]
  refine aop_call' (czP (1048576) (by omega) (by omega)) ?_
  generalize hL2 : szr p.tot (1048576) = L2
  try simp [b_g_aP, b_g_aE]
  try clear b_g_aP
  try clear b_g_aE
  have b_g_aP := H.box (g_aP, p.cells) (by simp)
  have b_g_aE := H.box (g_aE, e.cells) (by simp)
  (repeat refine AWp.seq ?_); refine AWp.region noP (by kernel_rfl) ?_
  try simp [b_g_aP, b_g_aE]
  try clear b_g_aP
  try clear b_g_aE
  (repeat refine AWp.seq ?_); refine AWp.cond (b := decide (L2 < 0)) (by simp) (fun hb => ?_) (fun hb => ?_)
  · (repeat refine AWp.seq ?_); refine AWp.region noP (by kernel_rfl) ?_
    try simp
    exact AWp.ret (post_ret1 rfl (by simp))
  simp only [decide_eq_false_iff_not] at hb
  have hsL2 : (p.tot : Int) ≤ 1048576 ∧ L2 = 1048576 - (p.tot : Int) := by unfold szr at hL2; split at hL2 <;> omega
  clear hb hL2
  refine AWp.skip ?_
  try simp
  have b_g_aP := H.box (g_aP, p.cells) (by simp)
  have b_g_aE := H.box (g_aE, e.cells) (by simp)
  (repeat refine AWp.seq ?_); refine AWp.region noP (by kernel_rfl) ?_
  try simp [b_g_aP, b_g_aE]
  refine aop_call' (c_szStringS ns hl hns (L2) (by omega) (by omega)) ?_
  generalize hL3 : szr (totL ByteArray.size ns) (L2) = L3
  try simp [b_g_aP, b_g_aE]
  try clear b_g_aP
  try clear b_g_aE
  have b_g_aP := H.box (g_aP, p.cells) (by simp)
  have b_g_aE := H.box (g_aE, e.cells) (by simp)
  (repeat refine AWp.seq ?_); refine AWp.region noP (by kernel_rfl) ?_
  try simp [b_g_aP, b_g_aE]
  try clear b_g_aP
  try clear b_g_aE
  (repeat refine AWp.seq ?_); refine AWp.cond (b := decide (L3 < 0)) (by simp) (fun hb => ?_) (fun hb => ?_)
  · (repeat refine AWp.seq ?_); refine AWp.region noP (by kernel_rfl) ?_
    try simp
    exact AWp.ret (post_ret1 rfl (by simp))
  simp only [decide_eq_false_iff_not] at hb
  have hsL3 : ((totL ByteArray.size ns) : Int) ≤ L2 ∧ L3 = L2 - ((totL ByteArray.size ns) : Int) := by unfold szr at hL3; split at hL3 <;> omega
  clear hb hL3
  refine AWp.skip ?_
  try simp
  have b_g_aP := H.box (g_aP, p.cells) (by simp)
  have b_g_aE := H.box (g_aE, e.cells) (by simp)
  (repeat refine AWp.seq ?_); refine AWp.region noP (by kernel_rfl) ?_
  try simp [b_g_aP, b_g_aE]
  refine aop_call' (czE (L3) (by omega) (by omega)) ?_
  generalize hL4 : szr e.tot (L3) = L4
  try simp [b_g_aP, b_g_aE]
  try clear b_g_aP
  try clear b_g_aE
  have b_g_aP := H.box (g_aP, p.cells) (by simp)
  have b_g_aE := H.box (g_aE, e.cells) (by simp)
  (repeat refine AWp.seq ?_); refine AWp.region noP (by kernel_rfl) ?_
  try simp [b_g_aP, b_g_aE]
  try clear b_g_aP
  try clear b_g_aE
  (repeat refine AWp.seq ?_); refine AWp.cond (b := decide (L4 < 0)) (by simp) (fun hb => ?_) (fun hb => ?_)
  · (repeat refine AWp.seq ?_); refine AWp.region noP (by kernel_rfl) ?_
    try simp
    exact AWp.ret (post_ret1 rfl (by simp))
  simp only [decide_eq_false_iff_not] at hb
  have hsL4 : (e.tot : Int) ≤ L3 ∧ L4 = L3 - (e.tot : Int) := by unfold szr at hL4; split at hL4 <;> omega
  clear hb hL4
  refine AWp.skip ?_
  try simp
  have hp : p.tot ≤ 1048576 := by omega
  have hnl := totL_len ByteArray.size ns
  have he : e.tot ≤ 1048576 := by omega
  have ctP := c_toProg0 p hp
  have oTP := o_toProg0 p hp
  have ctB := c_toStringS ns (by omega)
  have oTB := o_toStringS ns (by omega)
  have ctE := c_toExp e he
  have oTE := o_toExp e he
  have cS := c_spec_GenExp p hp ns (by omega) e he
  have oI := o_impl_GenExp p hp ns (by omega) e he
  have cEP := c_eqProg0 p hp
  have cEB := c_eqStringS_ ns (by omega)
  have cEE := c_eqExp e he
  have y1 := p.cntP_le hp
  have y2 := cnts_strs_ ns
  have y3 := e.cntL_le
  have y4 := genExp_len p ns e
  have y5 := cnts_ins (genExp p ns e)
  have cQ := c_eqInsS_ (genExp p ns e) (by omega)
  generalize genExp p ns e = X at *
  unfold Pg.av at ctP oTP cS oI cEP
  unfold Ex.av at ctE oTE cS oI cEE
  unfold strs inss at cS oI
  have b_g_aP := H.box (g_aP, p.cells) (by simp)
  have b_g_aE := H.box (g_aE, e.cells) (by simp)
  (repeat refine AWp.seq ?_); refine AWp.regionG (fun i => i == 1 || i == 3 || i == 5) (fun _ => false) [0, 1, 2, 3, 4, 5, 6, 7] [0, 1, 2, 3, 4, 5, 6, 7] (by kernel_rfl) ?_
  try simp [b_g_aP, b_g_aE]
  refine aop_call' (ctP) ?_
  try simp [b_g_aP, b_g_aE]
  refine aop_call' (ctB) ?_
  try simp [b_g_aP, b_g_aE]
  refine aop_call' (ctE) ?_
  try simp [b_g_aP, b_g_aE]
  refine aop_call' (cS) ?_
  try simp [b_g_aP, b_g_aE]
  try clear b_g_aP
  try clear b_g_aE
  have b_g_aP := H.box (g_aP, p.cells) (by simp)
  have b_g_aE := H.box (g_aE, e.cells) (by simp)
  (repeat refine AWp.seq ?_); refine AWp.region noP (by kernel_rfl) ?_
  try simp [b_g_aP, b_g_aE]
  refine aop_wcall _ _ _ _ _ _ _ _ rfl (eval_func _ _) ?_
  refine OCall.w (oTP) fun r7 m8 F6 hE hO hG hGd => ?_
  obtain ⟨c9, rfl, hT_c9, hok_c9⟩ := own_agg hO
  have l_c9 : c9.length = 2 := hT_c9.len.trans (Pg.cells_len p)
  have t_c9 : List.take 2 c9 = c9 := List.take_of_length_le (by omega)
  have ok_c9 : ∀ x ∈ c9, okCell x = true := by simpa using hok_c9
  have H := H.addTree (by simpa using hE) hO (by simpa using hG) hGd
  clear hE hO hG hGd
  try clear b_g_aP
  try clear b_g_aE
  have b_g_aP := H.box (g_aP, p.cells) (by simp)
  have b_g_aE := H.box (g_aE, e.cells) (by simp)
  try simp [b_g_aP, b_g_aE]
  try simp
  intro g_x9 h_g_x9
  have hdr_g_x9 : List.drop 2 c9 = [] := List.drop_eq_nil_of_le (by omega)
  simp [l_c9, set_at]
  refine ⟨ok_c9, ?_⟩
  try simp [set_set, hdr_g_x9]
  have H := H.addBox h_g_x9 c9
  generalize m8.set g_x9 (.box c9) = m10 at *
  try clear b_g_aP
  try clear b_g_aE
  try clear b_g_x9
  have b_g_aP := H.box (g_aP, p.cells) (by simp)
  have b_g_aE := H.box (g_aE, e.cells) (by simp)
  have b_g_x9 := H.box (g_x9, c9) (by simp)
  (repeat refine AWp.seq ?_); refine AWp.region noP (by kernel_rfl) ?_
  try simp [b_g_aP, b_g_aE, b_g_x9, l_c9, t_c9]
  refine aop_wcall _ _ _ _ _ _ _ _ rfl (eval_func _ _) ?_
  refine OCall.w (oTB) fun r13 m14 F12 hE hO hG hGd => ?_
  skip
  have H := H.addTree (by simpa using hE) hO (by simpa using hG) hGd
  clear hE hO hG hGd
  try clear b_g_aP
  try clear b_g_aE
  try clear b_g_x9
  have b_g_aP := H.box (g_aP, p.cells) (by simp)
  have b_g_aE := H.box (g_aE, e.cells) (by simp)
  have b_g_x9 := H.box (g_x9, c9) (by simp)
  try simp [b_g_aP, b_g_aE, b_g_x9, l_c9, t_c9]
  try clear b_g_aP
  try clear b_g_aE
  try clear b_g_x9
  have b_g_aP := H.box (g_aP, p.cells) (by simp)
  have b_g_aE := H.box (g_aE, e.cells) (by simp)
  have b_g_x9 := H.box (g_x9, c9) (by simp)
  (repeat refine AWp.seq ?_); refine AWp.region noP (by kernel_rfl) ?_
  try simp [b_g_aP, b_g_aE, b_g_x9, l_c9, t_c9]
  refine aop_wcall _ _ _ _ _ _ _ _ rfl (eval_func _ _) ?_
  refine OCall.w (oTE) fun r17 m18 F16 hE hO hG hGd => ?_
  obtain ⟨c19, rfl, hT_c19, hok_c19⟩ := own_agg hO
  have l_c19 : c19.length = 4 := hT_c19.len.trans (Ex.cells_len e)
  have t_c19 : List.take 4 c19 = c19 := List.take_of_length_le (by omega)
  have ok_c19 : ∀ x ∈ c19, okCell x = true := by simpa using hok_c19
  have H := H.addTree (by simpa using hE) hO (by simpa using hG) hGd
  clear hE hO hG hGd
  try clear b_g_aP
  try clear b_g_aE
  try clear b_g_x9
  have b_g_aP := H.box (g_aP, p.cells) (by simp)
  have b_g_aE := H.box (g_aE, e.cells) (by simp)
  have b_g_x9 := H.box (g_x9, c9) (by simp)
  try simp [b_g_aP, b_g_aE, b_g_x9, l_c9, t_c9]
  try simp
  intro g_x11 h_g_x11
  have hdr_g_x11 : List.drop 4 c19 = [] := List.drop_eq_nil_of_le (by omega)
  simp [l_c19, set_at]
  refine ⟨ok_c19, ?_⟩
  try simp [set_set, hdr_g_x11]
  have H := H.addBox h_g_x11 c19
  generalize m18.set g_x11 (.box c19) = m20 at *
  try clear b_g_aP
  try clear b_g_aE
  try clear b_g_x9
  try clear b_g_x11
  have b_g_aP := H.box (g_aP, p.cells) (by simp)
  have b_g_aE := H.box (g_aE, e.cells) (by simp)
  have b_g_x9 := H.box (g_x9, c9) (by simp)
  have b_g_x11 := H.box (g_x11, c19) (by simp)
  (repeat refine AWp.seq ?_); refine AWp.region noP (by kernel_rfl) ?_
  try simp [b_g_aP, b_g_aE, b_g_x9, l_c9, t_c9, b_g_x11, l_c19, t_c19]
  obtain ⟨_, hL⟩ : ∃ F : Nat → Prop, Lent m20 F [.agg c9, r13, .agg c19] [.agg p.cells, .lst false 1 (ns.map .str), .agg e.cells] := by
    have hL := Lent.nil m20
    obtain ⟨_, hL⟩ := hL.own (H.tree (F16, .agg c19, .agg e.cells) (by simp))
    obtain ⟨_, hL⟩ := hL.own (H.tree (F12, r13, .lst false 1 (ns.map .str)) (by simp))
    obtain ⟨_, hL⟩ := hL.own (H.tree (F6, .agg c9, .agg p.cells) (by simp))
    exact ⟨_, hL⟩
  refine aop_wcall _ _ _ _ _ _ _ _ rfl (eval_func _ _) ?_
  refine OCall.lends (oI) hL fun r23 m24 F22 hE hO hG hGd => ?_
  skip
  have H := H.addTree (by simpa using hE) hO (by simpa using hG) hGd
  clear hE hO hG hGd
  try clear b_g_aP
  try clear b_g_aE
  try clear b_g_x9
  try clear b_g_x11
  have b_g_aP := H.box (g_aP, p.cells) (by simp)
  have b_g_aE := H.box (g_aE, e.cells) (by simp)
  have b_g_x9 := H.box (g_x9, c9) (by simp)
  have b_g_x11 := H.box (g_x11, c19) (by simp)
  try simp [b_g_aP, b_g_aE, b_g_x9, l_c9, t_c9, b_g_x11, l_c19, t_c19]
  try clear b_g_aP
  try clear b_g_aE
  try clear b_g_x9
  try clear b_g_x11
  have b_g_aP := H.box (g_aP, p.cells) (by simp)
  have b_g_aE := H.box (g_aE, e.cells) (by simp)
  have b_g_x9 := H.box (g_x9, c9) (by simp)
  have b_g_x11 := H.box (g_x11, c19) (by simp)
  (repeat refine AWp.seq ?_); refine AWp.region noP (by kernel_rfl) ?_
  try simp [b_g_aP, b_g_aE, b_g_x9, l_c9, t_c9, b_g_x11, l_c19, t_c19]
  obtain ⟨_, hL⟩ : ∃ F : Nat → Prop, Lent m24 F [r23, .lst false 3 (X.map In.av)] [.lst false 3 (X.map In.av), .lst false 3 (X.map In.av)] := by
    have hL := Lent.nil m24
    have hL := hL.same (.lst false 3 (X.map In.av))
    obtain ⟨_, hL⟩ := hL.own (H.tree (F22, r23, .lst false 3 (X.map In.av)) (by simp))
    exact ⟨_, hL⟩
  refine aop_wcall _ _ _ _ _ _ _ _ rfl (eval_func _ _) ?_
  refine PCall.lend (cQ) hL rfl ?_
  clear hL
  try simp [b_g_aP, b_g_aE, b_g_x9, l_c9, t_c9, b_g_x11, l_c19, t_c19]
  try clear b_g_aP
  try clear b_g_aE
  try clear b_g_x9
  try clear b_g_x11
  (repeat refine AWp.seq ?_); refine AWp.condF (by first | (simp; done) | (simp; omega)) ?_
  refine AWp.skip ?_
  try simp
  have b_g_aP := H.box (g_aP, p.cells) (by simp)
  have b_g_aE := H.box (g_aE, e.cells) (by simp)
  have b_g_x9 := H.box (g_x9, c9) (by simp)
  have b_g_x11 := H.box (g_x11, c19) (by simp)
  (repeat refine AWp.seq ?_); refine AWp.regionG (fun i => i == 2) (fun _ => false) [0, 1, 2, 3, 4] [0, 1, 2, 3, 4] (by kernel_rfl) ?_
  try simp [b_g_aP, b_g_aE, b_g_x9, l_c9, t_c9, b_g_x11, l_c19, t_c19]
  refine aop_call' (ctP) ?_
  try simp [b_g_aP, b_g_aE, b_g_x9, l_c9, t_c9, b_g_x11, l_c19, t_c19]
  obtain ⟨_, hL⟩ : ∃ F : Nat → Prop, Lent m24 F [.agg c9, .agg p.cells] [.agg p.cells, .agg p.cells] := by
    have hL := Lent.nil m24
    have hL := hL.same (.agg p.cells)
    obtain ⟨_, hL⟩ := hL.own (H.tree (F6, .agg c9, .agg p.cells) (by simp))
    exact ⟨_, hL⟩
  refine aop_wcall _ _ _ _ _ _ _ _ rfl (eval_func _ _) ?_
  refine PCall.lend (cEP) hL rfl ?_
  clear hL
  try simp [b_g_aP, b_g_aE, b_g_x9, l_c9, t_c9, b_g_x11, l_c19, t_c19]
  try clear b_g_aP
  try clear b_g_aE
  try clear b_g_x9
  try clear b_g_x11
  (repeat refine AWp.seq ?_); refine AWp.condF (by first | (simp; done) | (simp; omega)) ?_
  refine AWp.skip ?_
  try simp
  have b_g_aP := H.box (g_aP, p.cells) (by simp)
  have b_g_aE := H.box (g_aE, e.cells) (by simp)
  have b_g_x9 := H.box (g_x9, c9) (by simp)
  have b_g_x11 := H.box (g_x11, c19) (by simp)
  (repeat refine AWp.seq ?_); refine AWp.region noP (by kernel_rfl) ?_
  try simp [b_g_aP, b_g_aE, b_g_x9, l_c9, t_c9, b_g_x11, l_c19, t_c19]
  refine aop_call' (ctB) ?_
  try simp [b_g_aP, b_g_aE, b_g_x9, l_c9, t_c9, b_g_x11, l_c19, t_c19]
  obtain ⟨_, hL⟩ : ∃ F : Nat → Prop, Lent m24 F [r13, .lst false 1 (ns.map .str)] [.lst false 1 (ns.map .str), .lst false 1 (ns.map .str)] := by
    have hL := Lent.nil m24
    have hL := hL.same (.lst false 1 (ns.map .str))
    obtain ⟨_, hL⟩ := hL.own (H.tree (F12, r13, .lst false 1 (ns.map .str)) (by simp))
    exact ⟨_, hL⟩
  refine aop_wcall _ _ _ _ _ _ _ _ rfl (eval_func _ _) ?_
  refine PCall.lend (cEB) hL rfl ?_
  clear hL
  try simp [b_g_aP, b_g_aE, b_g_x9, l_c9, t_c9, b_g_x11, l_c19, t_c19]
  try clear b_g_aP
  try clear b_g_aE
  try clear b_g_x9
  try clear b_g_x11
  (repeat refine AWp.seq ?_); refine AWp.condF (by first | (simp; done) | (simp; omega)) ?_
  refine AWp.skip ?_
  try simp
  have b_g_aP := H.box (g_aP, p.cells) (by simp)
  have b_g_aE := H.box (g_aE, e.cells) (by simp)
  have b_g_x9 := H.box (g_x9, c9) (by simp)
  have b_g_x11 := H.box (g_x11, c19) (by simp)
  (repeat refine AWp.seq ?_); refine AWp.regionG (fun i => i == 2) (fun _ => false) [0, 1, 2, 3, 4] [0, 1, 2, 3, 4] (by kernel_rfl) ?_
  try simp [b_g_aP, b_g_aE, b_g_x9, l_c9, t_c9, b_g_x11, l_c19, t_c19]
  refine aop_call' (ctE) ?_
  try simp [b_g_aP, b_g_aE, b_g_x9, l_c9, t_c9, b_g_x11, l_c19, t_c19]
  obtain ⟨_, hL⟩ : ∃ F : Nat → Prop, Lent m24 F [.agg c19, .agg e.cells] [.agg e.cells, .agg e.cells] := by
    have hL := Lent.nil m24
    have hL := hL.same (.agg e.cells)
    obtain ⟨_, hL⟩ := hL.own (H.tree (F16, .agg c19, .agg e.cells) (by simp))
    exact ⟨_, hL⟩
  refine aop_wcall _ _ _ _ _ _ _ _ rfl (eval_func _ _) ?_
  refine PCall.lend (cEE) hL rfl ?_
  clear hL
  try simp [b_g_aP, b_g_aE, b_g_x9, l_c9, t_c9, b_g_x11, l_c19, t_c19]
  try clear b_g_aP
  try clear b_g_aE
  try clear b_g_x9
  try clear b_g_x11
  (repeat refine AWp.seq ?_); refine AWp.condF (by first | (simp; done) | (simp; omega)) ?_
  refine AWp.skip ?_
  try simp
  have b_g_aP := H.box (g_aP, p.cells) (by simp)
  have b_g_aE := H.box (g_aE, e.cells) (by simp)
  have b_g_x9 := H.box (g_x9, c9) (by simp)
  have b_g_x11 := H.box (g_x11, c19) (by simp)
  (repeat refine AWp.seq ?_); refine AWp.region noP (by kernel_rfl) ?_
  try simp [b_g_aP, b_g_aE, b_g_x9, l_c9, t_c9, b_g_x11, l_c19, t_c19]
  try clear b_g_aP
  try clear b_g_aE
  try clear b_g_x9
  try clear b_g_x11
  have b_g_aP := H.box (g_aP, p.cells) (by simp)
  have b_g_aE := H.box (g_aE, e.cells) (by simp)
  have b_g_x9 := H.box (g_x9, c9) (by simp)
  have b_g_x11 := H.box (g_x11, c19) (by simp)
  (repeat refine AWp.seq ?_); refine AWp.region noP (by kernel_rfl) ?_
  try simp [b_g_aP, b_g_aE, b_g_x9, l_c9, t_c9, b_g_x11, l_c19, t_c19]
  refine aop_wcall _ _ _ _ _ _ _ _ rfl (eval_func _ _) ?_
  refine mk_Prog p _ _ _ (H.tree (F6, .agg c9, .agg p.cells) (by simp)) (1) (by omega) (by unfold BIG; omega) _ fun m25 x26 hout hO hH28 => ?_
  have hp_k27 : 0 < (1) + (p.cntP : Int) ∧ (1) + (p.cntP : Int) ≤ 4611686018427387904 := by omega
  generalize hq_k27 : (1) + (p.cntP : Int) = k27 at *
  have hn_k27 : ¬ (k27 < 0) := by omega
  obtain ⟨F29, H⟩ := Hold.turn (l1 := [(F22, r23, .lst false 3 (X.map In.av)), (F16, .agg c19, .agg e.cells), (F12, r13, .lst false 1 (ns.map .str))]) (l2 := []) (x' := (Pg.av x26)) H hout hO
  clear hout hO
  simp only [List.cons_append, List.nil_append] at H
  try simp
  try clear b_g_aP
  try clear b_g_aE
  try clear b_g_x9
  try clear b_g_x11
  have b_g_aP := H.box (g_aP, p.cells) (by simp)
  have b_g_aE := H.box (g_aE, e.cells) (by simp)
  have b_g_x9 := H.box (g_x9, c9) (by simp)
  have b_g_x11 := H.box (g_x11, c19) (by simp)
  (repeat refine AWp.seq ?_); refine AWp.region noP (by kernel_rfl) ?_
  try simp [b_g_aP, b_g_aE, b_g_x9, l_c9, t_c9, b_g_x11, l_c19, t_c19, hn_k27]
  refine aop_wcall _ _ _ _ _ _ _ _ rfl (eval_func _ _) ?_
  refine mk_StringS ns _ _ _ (H.tree (F12, r13, .lst false 1 (ns.map .str)) (by simp)) (k27) (by omega) (by unfold BIG; omega) _ fun m30 x31 hout hO hH33 => ?_
  have hp_k32 : 0 < (k27) + (AV.cnts (ns.map AV.str) : Int) ∧ (k27) + (AV.cnts (ns.map AV.str) : Int) ≤ 4611686018427387904 := by omega
  generalize hq_k32 : (k27) + (AV.cnts (ns.map AV.str) : Int) = k32 at *
  have hn_k32 : ¬ (k32 < 0) := by omega
  obtain ⟨F34, H⟩ := Hold.turn (l1 := [(F22, r23, .lst false 3 (X.map In.av)), (F16, .agg c19, .agg e.cells)]) (l2 := [(F29, .agg c9, (Pg.av x26))]) (x' := (strs x31)) H hout hO
  clear hout hO
  simp only [List.cons_append, List.nil_append] at H
  try simp
  try clear b_g_aP
  try clear b_g_aE
  try clear b_g_x9
  try clear b_g_x11
  have b_g_aP := H.box (g_aP, p.cells) (by simp)
  have b_g_aE := H.box (g_aE, e.cells) (by simp)
  have b_g_x9 := H.box (g_x9, c9) (by simp)
  have b_g_x11 := H.box (g_x11, c19) (by simp)
  (repeat refine AWp.seq ?_); refine AWp.region noP (by kernel_rfl) ?_
  try simp [b_g_aP, b_g_aE, b_g_x9, l_c9, t_c9, b_g_x11, l_c19, t_c19, hn_k27, hn_k32]
  refine aop_wcall _ _ _ _ _ _ _ _ rfl (eval_func _ _) ?_
  refine mk_Exp e _ _ _ (H.tree (F16, .agg c19, .agg e.cells) (by simp)) (k32) (by omega) (by unfold BIG; omega) _ fun m35 x36 hout hO hH38 => ?_
  have hp_k37 : 0 < (k32) + (AV.cnts (e.l.map Ex.av) : Int) ∧ (k32) + (AV.cnts (e.l.map Ex.av) : Int) ≤ 4611686018427387904 := by omega
  generalize hq_k37 : (k32) + (AV.cnts (e.l.map Ex.av) : Int) = k37 at *
  have hn_k37 : ¬ (k37 < 0) := by omega
  obtain ⟨F39, H⟩ := Hold.turn (l1 := [(F22, r23, .lst false 3 (X.map In.av))]) (l2 := [(F34, r13, (strs x31)), (F29, .agg c9, (Pg.av x26))]) (x' := (Ex.av x36)) H hout hO
  clear hout hO
  simp only [List.cons_append, List.nil_append] at H
  try simp
  try clear b_g_aP
  try clear b_g_aE
  try clear b_g_x9
  try clear b_g_x11
  have b_g_aP := H.box (g_aP, p.cells) (by simp)
  have b_g_aE := H.box (g_aE, e.cells) (by simp)
  have b_g_x9 := H.box (g_x9, c9) (by simp)
  have b_g_x11 := H.box (g_x11, c19) (by simp)
  (repeat refine AWp.seq ?_); refine AWp.region noP (by kernel_rfl) ?_
  try simp [b_g_aP, b_g_aE, b_g_x9, l_c9, t_c9, b_g_x11, l_c19, t_c19, hn_k27, hn_k32, hn_k37]
  obtain ⟨_, hL⟩ : ∃ F : Nat → Prop, Lent m35 F [r23, .lst false 3 (X.map In.av)] [.lst false 3 (X.map In.av), .lst false 3 (X.map In.av)] := by
    have hL := Lent.nil m35
    have hL := hL.same (.lst false 3 (X.map In.av))
    obtain ⟨_, hL⟩ := hL.own (H.tree (F22, r23, .lst false 3 (X.map In.av)) (by simp))
    exact ⟨_, hL⟩
  refine aop_wcall _ _ _ _ _ _ _ _ rfl (eval_func _ _) ?_
  refine PCall.lend (cQ) hL rfl ?_
  clear hL
  try simp [b_g_aP, b_g_aE, b_g_x9, l_c9, t_c9, b_g_x11, l_c19, t_c19, hn_k27, hn_k32, hn_k37]
  try clear b_g_aP
  try clear b_g_aE
  try clear b_g_x9
  try clear b_g_x11
  (repeat refine AWp.seq ?_); refine AWp.condF (by first | (simp; done) | (simp; omega)) ?_
  refine AWp.skip ?_
  try simp
  have b_g_aP := H.box (g_aP, p.cells) (by simp)
  have b_g_aE := H.box (g_aE, e.cells) (by simp)
  have b_g_x9 := H.box (g_x9, c9) (by simp)
  have b_g_x11 := H.box (g_x11, c19) (by simp)
  (repeat refine AWp.seq ?_); refine AWp.region noP (by kernel_rfl) ?_
  try simp [b_g_aP, b_g_aE, b_g_x9, l_c9, t_c9, b_g_x11, l_c19, t_c19, hn_k27, hn_k32, hn_k37]
  try clear b_g_aP
  try clear b_g_aE
  try clear b_g_x9
  try clear b_g_x11
  have b_g_aP := H.box (g_aP, p.cells) (by simp)
  have b_g_aE := H.box (g_aE, e.cells) (by simp)
  have b_g_x9 := H.box (g_x9, c9) (by simp)
  have b_g_x11 := H.box (g_x11, c19) (by simp)
  (repeat refine AWp.seq ?_); refine AWp.region noP (by kernel_rfl) ?_
  try simp [b_g_aP, b_g_aE, b_g_x9, l_c9, t_c9, b_g_x11, l_c19, t_c19, hn_k27, hn_k32, hn_k37]
  refine aop_wcall _ _ _ _ _ _ _ _ rfl (eval_func _ _) ?_
  refine mk_InsS X _ _ _ (H.tree (F22, r23, .lst false 3 (X.map In.av)) (by simp)) (1) (by omega) (by unfold BIG; omega) _ fun m40 x41 hout hO hH43 => ?_
  have hp_k42 : 0 < (1) + (AV.cnts (X.map In.av) : Int) ∧ (1) + (AV.cnts (X.map In.av) : Int) ≤ 4611686018427387904 := by omega
  generalize hq_k42 : (1) + (AV.cnts (X.map In.av) : Int) = k42 at *
  have hn_k42 : ¬ (k42 < 0) := by omega
  obtain ⟨F44, H⟩ := Hold.turn (l1 := []) (l2 := [(F39, .agg c19, (Ex.av x36)), (F34, r13, (strs x31)), (F29, .agg c9, (Pg.av x26))]) (x' := (inss x41)) H hout hO
  clear hout hO
  simp only [List.cons_append, List.nil_append] at H
  try simp
  try clear b_g_aP
  try clear b_g_aE
  try clear b_g_x9
  try clear b_g_x11
  have b_g_aP := H.box (g_aP, p.cells) (by simp)
  have b_g_aE := H.box (g_aE, e.cells) (by simp)
  have b_g_x9 := H.box (g_x9, c9) (by simp)
  have b_g_x11 := H.box (g_x11, c19) (by simp)
  (repeat refine AWp.seq ?_); refine AWp.region noP (by kernel_rfl) ?_
  try simp [b_g_aP, b_g_aE, b_g_x9, l_c9, t_c9, b_g_x11, l_c19, t_c19, hn_k27, hn_k32, hn_k37, hn_k42]
  try clear b_g_aP
  try clear b_g_aE
  try clear b_g_x9
  try clear b_g_x11
  have b_g_aP := H.box (g_aP, p.cells) (by simp)
  have b_g_aE := H.box (g_aE, e.cells) (by simp)
  have b_g_x9 := H.box (g_x9, c9) (by simp)
  have b_g_x11 := H.box (g_x11, c19) (by simp)
  (repeat refine AWp.seq ?_); refine AWp.region noP (by kernel_rfl) ?_
  try simp [b_g_aP, b_g_aE, b_g_x9, l_c9, t_c9, b_g_x11, l_c19, t_c19, hn_k27, hn_k32, hn_k37, hn_k42]
  obtain ⟨_, hL⟩ : ∃ F : Nat → Prop, Lent m40 F [r23, .int .i64 1] [(inss x41), .int .i64 1] := by
    have hL := Lent.nil m40
    have hL := hL.same (.int .i64 1)
    obtain ⟨_, hL⟩ := hL.own (H.tree (F44, r23, (inss x41)) (by simp))
    exact ⟨_, hL⟩
  refine aop_wcall _ _ _ _ _ _ _ _ rfl (eval_func _ _) ?_
  refine PCall.lend (hd_InsS x41 (1) k42 (by omega) (by unfold BIG; omega) hH43) hL rfl ?_
  clear hL
  try simp [b_g_aP, b_g_aE, b_g_x9, l_c9, t_c9, b_g_x11, l_c19, t_c19, hn_k27, hn_k32, hn_k37, hn_k42]
  try clear b_g_aP
  try clear b_g_aE
  try clear b_g_x9
  try clear b_g_x11
  have b_g_aP := H.box (g_aP, p.cells) (by simp)
  have b_g_aE := H.box (g_aE, e.cells) (by simp)
  have b_g_x9 := H.box (g_x9, c9) (by simp)
  have b_g_x11 := H.box (g_x11, c19) (by simp)
  (repeat refine AWp.seq ?_); refine AWp.region noP (by kernel_rfl) ?_
  try simp [b_g_aP, b_g_aE, b_g_x9, l_c9, t_c9, b_g_x11, l_c19, t_c19, hn_k27, hn_k32, hn_k37, hn_k42]
  try clear b_g_aP
  try clear b_g_aE
  try clear b_g_x9
  try clear b_g_x11
  (repeat refine AWp.seq ?_); refine AWp.condF (by first | (simp; done) | (simp; omega)) ?_
  refine AWp.skip ?_
  try simp
  have b_g_aP := H.box (g_aP, p.cells) (by simp)
  have b_g_aE := H.box (g_aE, e.cells) (by simp)
  have b_g_x9 := H.box (g_x9, c9) (by simp)
  have b_g_x11 := H.box (g_x11, c19) (by simp)
  (repeat refine AWp.seq ?_); refine AWp.region noP (by kernel_rfl) ?_
  try simp [b_g_aP, b_g_aE, b_g_x9, l_c9, t_c9, b_g_x11, l_c19, t_c19, hn_k27, hn_k32, hn_k37, hn_k42]
  try clear b_g_aP
  try clear b_g_aE
  try clear b_g_x9
  try clear b_g_x11
  (repeat refine AWp.seq ?_); refine AWp.condF (by first | (simp; done) | (simp; omega)) ?_
  refine AWp.skip ?_
  try simp
  have b_g_aP := H.box (g_aP, p.cells) (by simp)
  have b_g_aE := H.box (g_aE, e.cells) (by simp)
  have b_g_x9 := H.box (g_x9, c9) (by simp)
  have b_g_x11 := H.box (g_x11, c19) (by simp)
  (repeat refine AWp.seq ?_); refine AWp.regionG (fun i => i == 1 || i == 3 || i == 5) (fun _ => false) [0, 1, 2, 3, 4, 5, 6, 7] [0, 1, 2, 3, 4, 5, 6, 7] (by kernel_rfl) ?_
  try simp [b_g_aP, b_g_aE, b_g_x9, l_c9, t_c9, b_g_x11, l_c19, t_c19, hn_k27, hn_k32, hn_k37, hn_k42]
  refine aop_call' (ctP) ?_
  try simp [b_g_aP, b_g_aE, b_g_x9, l_c9, t_c9, b_g_x11, l_c19, t_c19, hn_k27, hn_k32, hn_k37, hn_k42]
  refine aop_call' (ctB) ?_
  try simp [b_g_aP, b_g_aE, b_g_x9, l_c9, t_c9, b_g_x11, l_c19, t_c19, hn_k27, hn_k32, hn_k37, hn_k42]
  refine aop_call' (ctE) ?_
  try simp [b_g_aP, b_g_aE, b_g_x9, l_c9, t_c9, b_g_x11, l_c19, t_c19, hn_k27, hn_k32, hn_k37, hn_k42]
  refine aop_wcall _ _ _ _ _ _ _ _ rfl (eval_func _ _) ?_
  refine OCall.w (oI) fun r47 m48 F46 hE hO hG hGd => ?_
  skip
  have H := H.addTree (by simpa using hE) hO (by simpa using hG) hGd
  clear hE hO hG hGd
  try clear b_g_aP
  try clear b_g_aE
  try clear b_g_x9
  try clear b_g_x11
  have b_g_aP := H.box (g_aP, p.cells) (by simp)
  have b_g_aE := H.box (g_aE, e.cells) (by simp)
  have b_g_x9 := H.box (g_x9, c9) (by simp)
  have b_g_x11 := H.box (g_x11, c19) (by simp)
  try simp [b_g_aP, b_g_aE, b_g_x9, l_c9, t_c9, b_g_x11, l_c19, t_c19, hn_k27, hn_k32, hn_k37, hn_k42]
  try clear b_g_aP
  try clear b_g_aE
  try clear b_g_x9
  try clear b_g_x11
  have b_g_aP := H.box (g_aP, p.cells) (by simp)
  have b_g_aE := H.box (g_aE, e.cells) (by simp)
  have b_g_x9 := H.box (g_x9, c9) (by simp)
  have b_g_x11 := H.box (g_x11, c19) (by simp)
  (repeat refine AWp.seq ?_); refine AWp.region noP (by kernel_rfl) ?_
  try simp [b_g_aP, b_g_aE, b_g_x9, l_c9, t_c9, b_g_x11, l_c19, t_c19, hn_k27, hn_k32, hn_k37, hn_k42]
  obtain ⟨_, hL⟩ : ∃ F : Nat → Prop, Lent m48 F [r47, .lst false 3 (X.map In.av)] [.lst false 3 (X.map In.av), .lst false 3 (X.map In.av)] := by
    have hL := Lent.nil m48
    have hL := hL.same (.lst false 3 (X.map In.av))
    obtain ⟨_, hL⟩ := hL.own (H.tree (F46, r47, .lst false 3 (X.map In.av)) (by simp))
    exact ⟨_, hL⟩
  refine aop_wcall _ _ _ _ _ _ _ _ rfl (eval_func _ _) ?_
  refine PCall.lend (cQ) hL rfl ?_
  clear hL
  try simp [b_g_aP, b_g_aE, b_g_x9, l_c9, t_c9, b_g_x11, l_c19, t_c19, hn_k27, hn_k32, hn_k37, hn_k42]
  try clear b_g_aP
  try clear b_g_aE
  try clear b_g_x9
  try clear b_g_x11
  (repeat refine AWp.seq ?_); refine AWp.condF (by first | (simp; done) | (simp; omega)) ?_
  refine AWp.skip ?_
  try simp
  have b_g_aP := H.box (g_aP, p.cells) (by simp)
  have b_g_aE := H.box (g_aE, e.cells) (by simp)
  have b_g_x9 := H.box (g_x9, c9) (by simp)
  have b_g_x11 := H.box (g_x11, c19) (by simp)
  (repeat refine AWp.seq ?_); refine AWp.region noP (by kernel_rfl) ?_
  try simp [b_g_aP, b_g_aE, b_g_x9, l_c9, t_c9, b_g_x11, l_c19, t_c19, hn_k27, hn_k32, hn_k37, hn_k42]
  try clear b_g_aP
  try clear b_g_aE
  try clear b_g_x9
  try clear b_g_x11
  have b_g_aP := H.box (g_aP, p.cells) (by simp)
  have b_g_aE := H.box (g_aE, e.cells) (by simp)
  have b_g_x9 := H.box (g_x9, c9) (by simp)
  have b_g_x11 := H.box (g_x11, c19) (by simp)
  (repeat refine AWp.seq ?_); refine AWp.region noP (by kernel_rfl) ?_
  try simp [b_g_aP, b_g_aE, b_g_x9, l_c9, t_c9, b_g_x11, l_c19, t_c19, hn_k27, hn_k32, hn_k37, hn_k42]
  obtain ⟨_, hL⟩ : ∃ F : Nat → Prop, Lent m48 F [r23, .int .i64 1] [(inss x41), .int .i64 1] := by
    have hL := Lent.nil m48
    have hL := hL.same (.int .i64 1)
    obtain ⟨_, hL⟩ := hL.own (H.tree (F44, r23, (inss x41)) (by simp))
    exact ⟨_, hL⟩
  refine aop_wcall _ _ _ _ _ _ _ _ rfl (eval_func _ _) ?_
  refine PCall.lend (hd_InsS x41 (1) k42 (by omega) (by unfold BIG; omega) hH43) hL rfl ?_
  clear hL
  try simp [b_g_aP, b_g_aE, b_g_x9, l_c9, t_c9, b_g_x11, l_c19, t_c19, hn_k27, hn_k32, hn_k37, hn_k42]
  try clear b_g_aP
  try clear b_g_aE
  try clear b_g_x9
  try clear b_g_x11
  have b_g_aP := H.box (g_aP, p.cells) (by simp)
  have b_g_aE := H.box (g_aE, e.cells) (by simp)
  have b_g_x9 := H.box (g_x9, c9) (by simp)
  have b_g_x11 := H.box (g_x11, c19) (by simp)
  (repeat refine AWp.seq ?_); refine AWp.region noP (by kernel_rfl) ?_
  try simp [b_g_aP, b_g_aE, b_g_x9, l_c9, t_c9, b_g_x11, l_c19, t_c19, hn_k27, hn_k32, hn_k37, hn_k42]
  try clear b_g_aP
  try clear b_g_aE
  try clear b_g_x9
  try clear b_g_x11
  (repeat refine AWp.seq ?_); refine AWp.condF (by first | (simp; done) | (simp; omega)) ?_
  refine AWp.skip ?_
  try simp
  have b_g_aP := H.box (g_aP, p.cells) (by simp)
  have b_g_aE := H.box (g_aE, e.cells) (by simp)
  have b_g_x9 := H.box (g_x9, c9) (by simp)
  have b_g_x11 := H.box (g_x11, c19) (by simp)
  (repeat refine AWp.seq ?_); refine AWp.region noP (by kernel_rfl) ?_
  try simp [b_g_aP, b_g_aE, b_g_x9, l_c9, t_c9, b_g_x11, l_c19, t_c19, hn_k27, hn_k32, hn_k37, hn_k42]
  try clear b_g_aP
  try clear b_g_aE
  try clear b_g_x9
  try clear b_g_x11
  (repeat refine AWp.seq ?_); refine AWp.condF (by first | (simp; done) | (simp; omega)) ?_
  refine AWp.skip ?_
  try simp
  have b_g_aP := H.box (g_aP, p.cells) (by simp)
  have b_g_aE := H.box (g_aE, e.cells) (by simp)
  have b_g_x9 := H.box (g_x9, c9) (by simp)
  have b_g_x11 := H.box (g_x11, c19) (by simp)
  (repeat refine AWp.seq ?_); refine AWp.region noP (by kernel_rfl) ?_
  try simp [b_g_aP, b_g_aE, b_g_x9, l_c9, t_c9, b_g_x11, l_c19, t_c19, hn_k27, hn_k32, hn_k37, hn_k42]
  try clear b_g_aP
  try clear b_g_aE
  try clear b_g_x9
  try clear b_g_x11
  exact AWp.ret (post_ret1 rfl (by simp))
section
variable {H : Type} {enc : TypeId × Value → H} {W : World}
theorem o_StringS (fuel : Nat) : Opens enc Tryz.prog W 26 (fun l : List ByteArray => [.lst false 1 (l.map AV.str)]) (fun l => l.length ≤ most ∧ ∀ x ∈ l, x.size ≤ most) fuel := by
  cases fuel with
  | zero => exact opens_zero
  | succ k => exact opens_slice Tryz.underlying26 (n := 1) (elt := AV.str) (by kernel_rfl) (by omega) (fun _ => rfl) (fun _ => rfl) (opens_str Tryz.underlying9 k)
end
end Go.T
