/- A new store, a program done: the reference's hand. A program is done: the reference's hand. Where something of a program stands: what the program and the reference compute. The laws' functions, of where something of a program stands; programs as arguments. What the laws' measuring, copying and comparing functions compute, of machines. Machines that are right: what the program and the reference compute. Machines that are right: what the program and the reference compute; the law. Marks: what the program's marking functions compute. Rows marked: what the program's marking functions compute. -/
import Derived.Test.YtfikgphnjndgdaaGreatG13
import Derived.Test.YtfikgphnjndgdaaGreatG11
import Derived.Test.YtfikgphnjndgdaaGreatG4
import Derived.Test.YtfikgphnjndgdaaGreatG6
import Derived.Test.YtfikgphnjndgdaaGreatG3
namespace Go.T
open Go Go.Proofs
set_option maxRecDepth 10000
set_option maxHeartbeats 1000000
set_option linter.unusedSimpArgs false
set_option linter.unusedVariables false
open Go
/-- A store that is made: its box, its rows; V is there first. -/
structure Sq (m : Mem) (g2 g3 gv : Nat) (nv : Nat) (L : List (List Int)) (st : St) : Prop where
  s2 : st.slots 2 = .ptr g2 0
  s3 : st.slots 3 = .ptr g3 0
  b2 : st.mem g2 = some (.box zSto)
  bv : st.mem gv = some (.arr 3 1 nv (List.replicate nv (.int .i64 0)))
  v0 : m gv = none
  ext : Ext m st.mem
  row : ∃ vA FA, st.mem g3 = some (.box [vA, .own gv nv nv, .lst true 0 [], .int .i64 0]) ∧ GrowO 54 1 st.mem FA vA (rowsL L) ∧ (∀ b, FA b → st.mem b ≠ none ∧ m b = none) ∧ ¬ FA g2 ∧ ¬ FA g3 ∧ ¬ FA gv
theorem Sq.grow {m : Mem} {g2 g3 gv nv : Nat} {L : List (List Int)} {st st' : St} (h : Sq m g2 g3 gv nv L st) (hE : Ext st.mem st'.mem) (e2 : st'.slots 2 = st.slots 2) (e3 : st'.slots 3 = st.slots 3) : Sq m g2 g3 gv nv L st' := by
  obtain ⟨vA, FA, r1, r2, r3, r4, r5, r6⟩ := h.row
  exact ⟨e2.trans h.s2, e3.trans h.s3, hE _ _ h.b2, hE _ _ h.bv, h.v0, h.ext.trans hE, vA, FA, hE _ _ r1, r2.mem fun b hb => ext_at hE (r3 b hb).1, fun b hb => ⟨by rw [ext_at hE (r3 b hb).1]; exact (r3 b hb).1, (r3 b hb).2⟩, r4, r5, r6⟩
theorem c_spec_StoNew (p : Pg) (hf : p.Fine) (ht : totL Sm.tot p.body ≤ 1048576) {m : Mem} {K : AV → Mem → Prop}
    (hK : ∀ (vA vV : AV) (FA FV : Nat → Prop) (m' : Mem), Ext m m' → OwnT m' FA vA (.lst false 1 (rowsL (newA p))) → OwnT m' FV vV (.lst false 1 (intsL (zeros p.vars.length))) → (∀ b, FA b ∨ FV b → m b = none ∧ m' b ≠ none) → (∀ b, FA b → ¬ FV b) → vA.cells = [vA] → vV.cells = [vV] → okCell vA = true → okCell vV = true → K (.agg [vA, vV, .lst true 0 [], .int .i64 0]) m') :
    WCall Tryz.prog 109 [p.av] m K := by
  have hal := hf.arrs
  have hvl := hf.vars
  have hcv := c_spec_VarsOf p.body ht
  have hvv : nameSet (Sm.namesL 1 p.body) = p.vars := rfl
  rw [hvv] at hcv
  unfold Pg.av Pg.cells
  refine wcall_of Tryz.func109 (by kernel_rfl) rfl (by simp [Tryz.f109]) ?_
  (repeat refine AWp.seq ?_); refine AWp.region noP (by kernel_rfl) ?_
  simp
  intro g1 hg1 g2 hg2
  have h12 : g2 ≠ g1 := fun e => by rw [e] at hg2; simp [set_at] at hg2
  have hg2m : m g2 = none := by rw [Mem.set_other h12] at hg2; exact hg2
  refine AWp.sees (Sees.view (t := 1) (View.freezeB (g := g1) (cs := [.lst false 2 (p.arrs.map Ar.av), .lst false 19 (p.body.map Sm.av)]) (by simp [set_at, Ne.symm h12]))) ?_
  refine AWp.gen (fun st => st.slots 1 = .ref [.lst false 2 (p.arrs.map Ar.av), .lst false 19 (p.body.map Sm.av)] ∧ st.slots 2 = .ptr g2 0 ∧ st.mem g2 = some (.box zSto) ∧ Ext m st.mem) ⟨by simp, by simp, by simp [set_at, Mem.del, h12, zSto], fun k x hk => ?_⟩ ?_
  · have k1 : k ≠ g1 := by rintro rfl; rw [hg1] at hk; cases hk
    have k2 : k ≠ g2 := by rintro rfl; rw [hg2m] at hk; cases hk
    simp [set_at, Mem.del, k1, k2, hk]
  rintro st ⟨s1, s2, b2, hE0⟩
  (repeat refine AWp.seq ?_); refine AWp.region noP (by kernel_rfl) ?_
  simp [s1]
  refine aop_call _ _ _ _ _ _ _ _ hcv ?_
  simp [strs]
  refine ⟨by omega, by omega, fun gv hgv g3 hg3 => ?_⟩
  have h3v : g3 ≠ gv := fun e => by rw [e] at hg3; simp [set_at] at hg3
  have hg30 : st.mem g3 = none := by simpa [set_at, h3v] using hg3
  have q2 : g2 ≠ gv := by rintro rfl; rw [b2] at hgv; cases hgv
  have q3 : g2 ≠ g3 := by rintro rfl; rw [b2] at hg30; cases hg30
  have hg3m : m g3 = none := hE0.none hg30
  try simp
  refine AWp.gen (fun st => st.slots 1 = .ref [.lst false 2 (p.arrs.map Ar.av), .lst false 19 (p.body.map Sm.av)] ∧ Sq m g2 g3 gv p.vars.length [] st) ⟨by simp [s1], ⟨by simp [s2], by simp, by simp [set_at, q2, q3, b2], by simp [set_at, Ne.symm h3v], hE0.none hgv, fun k x hk => ?_, .lst true 0 [], fun _ => False, by simp [set_at], .inl ⟨rfl, rfl⟩, fun b h => h.elim, fun h => h, fun h => h, fun h => h⟩⟩ ?_
  · have k1 : k ≠ gv := by rintro rfl; rw [hE0.none hgv] at hk; cases hk
    have k3 : k ≠ g3 := by rintro rfl; rw [hg3m] at hk; cases hk
    simp [set_at, k1, k3]
    exact hE0 _ _ hk
  clear s1 s2 b2 hE0 hgv hg3 hg30
  rintro st ⟨s1, hS⟩
  (repeat refine AWp.seq ?_); refine AWp.region noP (by kernel_rfl) ?_
  simp
  refine AWp.cutA (fun st => st.slots 1 = .ref [.lst false 2 (p.arrs.map Ar.av), .lst false 19 (p.body.map Sm.av)] ∧ Sq m g2 g3 gv p.vars.length (newA p) st) ?_ ?_
  · refine AWp.block (AWp.rounds (fun q st => ∃ i : Nat, q = p.arrs.length - i ∧ i ≤ p.arrs.length ∧ st.slots 1 = .ref [.lst false 2 (p.arrs.map Ar.av), .lst false 19 (p.body.map Sm.av)] ∧ st.slots 4 = .int .i64 i ∧ Sq m g2 g3 gv p.vars.length ((newA p).take i) st) p.arrs.length ⟨0, by simp, by simp, by simp [s1], by simp, by rw [List.take_zero]; exact hS.grow (by first | exact Ext.refl _ | (simpa using Ext.refl _)) (by first | rfl | simp) (by first | rfl | simp)⟩ ?_)
    clear s1 hS
    rintro RR q st hRR ⟨i, rfl, hi, s1, s4, hS⟩
    by_cases hb : i < p.arrs.length
    · have hx : ∀ m, idxA Tryz.prog m 35 (.lst false 2 (p.arrs.map Ar.av)) (.int .i64 i) = some (.ref [.str p.arrs[i].s, .int .i64 p.arrs[i].n]) := fun m => idx (y := p.arrs[i].av) es_35 (by simp [List.getElem?_eq_getElem hb])
      have hw : IntKind.wrap .i64 ((i : Int) + 1) = (i + 1 : Nat) := wrap64 (by omega) (by omega)
      have hsz := hf.sizes _ (List.getElem_mem hb)
      have hin : inR p.arrs[i].n 0 16 = true := by simp [inR] at hsz ⊢; omega
      have hnn : 0 ≤ p.arrs[i].n ∧ p.arrs[i].n ≤ 16 := by simp [inR] at hin; exact hin
      obtain ⟨n, hn⟩ := Int.eq_ofNat_of_zero_le hnn.1
      rw [hn] at hx hin
      (repeat refine AWp.seq ?_); refine AWp.region noP (by kernel_rfl) ?_
      simp [s1, s4, hb]
      (repeat refine AWp.seq ?_); refine AWp.condT (by simp) ?_
      refine AWp.skip ?_
      try simp
      (repeat refine AWp.seq ?_); refine AWp.block ?_
      (repeat refine AWp.seq ?_); refine AWp.region noP (by kernel_rfl) ?_
      simp [s1, s4, hx]
      (repeat refine AWp.seq ?_); refine AWp.region noP (by kernel_rfl) ?_
      simp
      refine aop_call _ _ _ _ _ _ _ _ (c_l1In (n : Int) 0 16) ?_
      simp [hin]
      (repeat refine AWp.seq ?_); refine AWp.condF (by simp) ?_
      refine AWp.skip ?_
      try simp
      refine AWp.gen (fun st => st.slots 1 = .ref [.lst false 2 (p.arrs.map Ar.av), .lst false 19 (p.body.map Sm.av)] ∧ st.slots 4 = .int .i64 i ∧ st.slots 5 = .int .i64 (n : Int) ∧ Sq m g2 g3 gv p.vars.length ((newA p).take i) st) ⟨by simp [s1], by simp [s4], by simp, hS.grow (by first | exact Ext.refl _ | (simpa using Ext.refl _)) (by first | rfl | simp) (by first | rfl | simp)⟩ ?_
      clear s1 s4 hS
      rintro st ⟨s1, s4, s6, hS⟩
      obtain ⟨vA, FA, r1, r2, r3, r4, r5, r6⟩ := hS.row
      have hn16 : n ≤ 16 := by omega
      (repeat refine AWp.seq ?_); refine AWp.regionG (fun _ => false) (fun _ => false) [0, 1, 2, 6, 3, 4, 5, 7] [0, 1, 2, 3, 4, 5, 6, 7] (by kernel_rfl) ?_
      simp [hS.s3, r1, s6]
      refine ⟨by omega, by omega, fun gr hgr => ?_⟩
      try simp
      have hE1 : Ext st.mem (st.mem.set gr (.arr 3 1 n (List.replicate n (.int .i64 0)))) := ext_set hgr _
      have bgr := set_same st.mem gr (.arr 3 1 n (List.replicate n (.int .i64 0)))
      have hng : ∀ b, b ≠ gr → (st.mem.set gr (.arr 3 1 n (List.replicate n (.int .i64 0)))) b = st.mem b := fun b hb => Mem.set_other hb
      generalize st.mem.set gr (.arr 3 1 n (List.replicate n (.int .i64 0))) = m1 at *
      have hG1 := r2.mem (m' := m1) fun b hb => ext_at hE1 (r3 b hb).1
      have hFd : ∀ b, FA b → m1 b ≠ none := fun b hb => by rw [ext_at hE1 (r3 b hb).1]; exact (r3 b hb).1
      have hA1 : ∀ b, FA b → ¬ b = gr := by rintro b hb rfl; exact (r3 _ hb).1 hgr
      have q2 : g2 ≠ gr := by rintro rfl; rw [hS.b2] at hgr; cases hgr
      have q3 : g3 ≠ gr := by rintro rfl; rw [r1] at hgr; cases hgr
      have qv : gv ≠ gr := by rintro rfl; rw [hS.bv] at hgr; cases hgr
      have w2 := hE1 _ _ hS.b2
      have w3 := hE1 _ _ r1
      have wv := hE1 _ _ hS.bv
      refine GrowO.app et_53 hG1 hFd (own_zeros bgr) (by rintro b rfl; rw [bgr]; simp) hA1 rfl rfl (by simp [rowsL, newA]; omega) fun v' m' F' h1 h2 h3 h4 => ?_
      have v2 := (h2 g2 (by rw [w2]; simp) r4).trans w2
      have v3 := (h2 g3 (by rw [w3]; simp) r5).trans w3
      have vv := (h2 gv (by rw [wv]; simp) r6).trans wv
      have n2 : ¬ F' g2 := fun hb => (h3 g2 hb).elim r4 fun h => h.elim q2 fun h => by rw [w2] at h; cases h
      have n3 : ¬ F' g3 := fun hb => (h3 g3 hb).elim r5 fun h => h.elim q3 fun h => by rw [w3] at h; cases h
      have nv : ¬ F' gv := fun hb => (h3 gv hb).elim r6 fun h => h.elim qv fun h => by rw [wv] at h; cases h
      have c3 : v'.cells = [v'] ∧ okCell v' = true ∧ v' ≠ .undef := by
        rcases h1.shape with e | ⟨g, l, c, e⟩ <;> rw [e] <;> exact ⟨rfl, rfl, by simp⟩
      simp [v3, c3.1, c3.2.1, c3.2.2]
      have hSn : ∀ st' : St, st'.slots 2 = .ptr g2 0 → st'.slots 3 = .ptr g3 0 → st'.mem = m'.set g3 (.box [v', .own gv p.vars.length p.vars.length, .lst true 0 [], .int .i64 0]) → Sq m g2 g3 gv p.vars.length ((newA p).take (i + 1)) st' := by
        intro st' e2 e3 em
        have h23 : g2 ≠ g3 := by rintro rfl; rw [hS.b2] at r1; simp [zSto] at r1
        have hv3 : gv ≠ g3 := by rintro rfl; rw [hS.bv] at r1; cases r1
        refine ⟨e2, e3, by rw [em, Mem.set_other h23]; exact v2, by rw [em, Mem.set_other hv3]; exact vv, hS.v0, fun k x hk => ?_, v', F', by rw [em]; exact set_same _ _ _, ?_, fun b hb => ⟨?_, ?_⟩, n2, n3, nv⟩
        · have k3 : k ≠ g3 := by rintro rfl; rw [hg3m] at hk; cases hk
          have k4 := hE1 _ _ (hS.ext _ _ hk)
          rw [em, Mem.set_other k3, h2 k (by rw [k4]; simp) (fun hF => by rw [(r3 k hF).2] at hk; cases hk)]
          exact k4
        · rw [newA_take p i hb, em]
          have hx2 : p.arrs[i].n.toNat = n := by rw [hn]; rfl
          rw [hx2]
          have e : rowsL ((newA p).take i ++ [zeros n]) = rowsL ((newA p).take i) ++ [.lst false 1 (intsL (zeros n))] := by simp [rowsL]
          rw [e]
          exact h1.mem fun b hb => Mem.set_other (by rintro rfl; exact n3 hb)
        · rw [em, set_at]; split
          · simp
          · exact h4 b hb
        · rcases h3 b hb with h | h | h
          · exact (r3 b h).2
          · rw [h]; exact hS.ext.none hgr
          · exact (hS.ext.trans hE1).none h
      (repeat refine AWp.seq ?_); refine AWp.region noP (by kernel_rfl) ?_
      simp [s4, hw]
      exact hRR _ (p.arrs.length - (i + 1)) (by omega) ⟨i + 1, rfl, by omega, by simp [s1], by simp, hSn _ (by simp [hS.s2]) (by simp [hS.s3]) (by simp)⟩
    · have : i = p.arrs.length := by omega
      subst this
      (repeat refine AWp.seq ?_); refine AWp.region noP (by kernel_rfl) ?_
      simp [s1, s4]
      (repeat refine AWp.seq ?_); refine AWp.condF (by simp) ?_
      refine AWp.exit ?_
      have e : (newA p).take p.arrs.length = newA p := List.take_of_length_le (by simp [newA])
      rw [e] at hS
      exact ⟨by simp [s1], hS.grow (by first | exact Ext.refl _ | (simpa using Ext.refl _)) (by first | rfl | simp) (by first | rfl | simp)⟩
  clear s1 hS
  rintro st ⟨s1, hS⟩
  obtain ⟨vA, FA, r1, r2, r3, r4, r5, r6⟩ := hS.row
  have h23 : g2 ≠ g3 := by rintro rfl; rw [hS.b2] at r1; simp [zSto] at r1
  have h2v : g2 ≠ gv := by rintro rfl; have := hS.bv; rw [hS.b2] at this; cases this
  have c3 : vA.cells = [vA] ∧ okCell vA = true ∧ vA ≠ .undef := by
    rcases r2.shape with e | ⟨g, l, c, e⟩ <;> rw [e] <;> exact ⟨rfl, rfl, by simp⟩
  (repeat refine AWp.seq ?_); refine AWp.region noP (by kernel_rfl) ?_
  simp [hS.s2, hS.s3, r1, hS.b2, zSto, c3.1, c3.2.1]
  refine AWp.ret (post_cellWR (r := .agg [vA, .own gv p.vars.length p.vars.length, .lst true 0 [], .int .i64 0]) (.inl rfl) rfl (by simp [hS.s2, set_at]) (View.refl _ _) ?_)
  refine hK vA _ FA (fun b => b = gv) _ ?_ ?_ (own_zeros (E := 3) ?_) ?_ (fun b hb e => r6 (e ▸ hb)) c3.1 rfl c3.2.1 rfl
  · intro k x hk
    have k2 : k ≠ g2 := by rintro rfl; rw [hg2m] at hk; cases hk
    simp [set_at, k2]
    exact hS.ext _ _ hk
  · refine r2.own.mem fun b hb => ?_
    have k2 : b ≠ g2 := by rintro rfl; exact r4 hb
    simp [set_at, k2]
  · simp [set_at, Ne.symm h2v, hS.bv]
  · intro b hb
    rcases hb with hb | rfl
    · have k2 : b ≠ g2 := by rintro rfl; exact r4 hb
      exact ⟨(r3 b hb).2, by simp [set_at, k2]; exact (r3 b hb).1⟩
    · exact ⟨hS.v0, by simp [set_at, Ne.symm h2v, hS.bv]⟩
end Go.T
namespace Go.T
open Go Go.Proofs
set_option maxRecDepth 10000
set_option maxHeartbeats 1000000
set_option linter.unusedSimpArgs false
set_option linter.unusedVariables false
open Go
theorem o_spec_Run (p : Pg) (ht : p.tot ≤ 1048576) (f : Int) : OCall Tryz.prog 29 [p.av, .int .i64 f] (runR p f).look := by
  have cok := c_spec_ProgOk p ht
  have htb : totL Sm.tot p.body ≤ 1048576 := by unfold Pg.tot at ht; omega
  have cvs := c_spec_VarsOf p.body htb
  have hvv : nameSet (Sm.namesL 1 p.body) = p.vars := rfl
  rw [hvv] at cvs
  unfold OCall
  unfold Pg.av Pg.cells at *
  refine wcall_of Tryz.func29 (by kernel_rfl) rfl (by simp [Tryz.f29]) ?_
  (repeat refine AWp.seq ?_); refine AWp.region noP (by kernel_rfl) ?_
  simp
  intro g2 g4 h4
  have h42 : g4 ≠ g2 := fun e => by rw [e] at h4; simp [set_at] at h4
  refine AWp.sees (Sees.view (t := 2) (View.freezeB (g := g2) (cs := [.lst false 2 (p.arrs.map Ar.av), .lst false 19 (p.body.map Sm.av)]) (by simp [set_at, Ne.symm h42]))) ?_
  refine AWp.gen (fun st => st.slots 1 = .int .i64 f ∧ st.slots 2 = .ref [.lst false 2 (p.arrs.map Ar.av), .lst false 19 (p.body.map Sm.av)] ∧ st.slots 4 = .ptr g4 0 ∧ st.mem g4 = some (.box zSto)) ⟨by simp, by simp, by simp, by simp [set_at, Mem.del, h42, zSto]⟩ ?_
  rintro st ⟨s1, s2, s4, b4⟩
  unfold zSto at b4
  (repeat refine AWp.seq ?_); refine AWp.region noP (by kernel_rfl) ?_
  simp [s2]
  refine aop_call _ _ _ _ _ _ _ _ cok ?_
  simp
  by_cases hok : ¬ p.ok = true
  · have e : runR p f = ⟨[], [], [], 1, 0, []⟩ := by unfold runR; rw [if_neg hok]
    (repeat refine AWp.seq ?_); refine AWp.condT (by simp [hok]) ?_
    (repeat refine AWp.seq ?_); refine AWp.region noP (by kernel_rfl) ?_
    simp [s4, b4]
    rw [e]
    refine AWp.ret (post_cellO (F := fun _ => False ∨ False ∨ False) (q := .agg [.lst true 0 [], .lst true 0 [], .lst true 0 [], .int .i64 1]) (.inl rfl) rfl (by simp [s4, set_at]) ?_)
    exact own_sto (σ := ⟨[], [], [], 1, 0, []⟩) (.nil _ _ _) (.nil _ _ _) (.nil _ _ _) (fun _ h => h.elim) (fun _ h => h.elim) (fun _ h => h.elim)
  have hok : p.ok = true := Decidable.byContradiction hok
  have e : runR p f = allR p.arrNames p.vars 1048577 p.body (runS p f) := by unfold runR; rw [if_pos hok]
  have hf := Pg.fine hok
  (repeat refine AWp.seq ?_); refine AWp.condF (by simp [hok]) ?_
  refine AWp.skip ?_
  try simp
  refine AWp.gen (fun st => st.slots 1 = .int .i64 f ∧ st.slots 2 = .ref [.lst false 2 (p.arrs.map Ar.av), .lst false 19 (p.body.map Sm.av)] ∧ st.slots 4 = .ptr g4 0 ∧ st.mem g4 = some (.box [.lst true 0 [], .lst true 0 [], .lst true 0 [], .int .i64 0])) ⟨by simp [s1], by simp [s2], by simp [s4], by simp [b4]⟩ ?_
  clear s1 s2 s4 b4
  rintro st ⟨s1, s2, s4, b4⟩
  (repeat refine AWp.seq ?_); refine AWp.region noP (by kernel_rfl) ?_
  simp [s1]
  refine aop_call _ _ _ _ _ _ _ _ (c_l1In f 0 4000) ?_
  simp
  refine AWp.cutA (fun st => st.slots 1 = .int .i64 (runFu f : Nat) ∧ st.slots 2 = .ref [.lst false 2 (p.arrs.map Ar.av), .lst false 19 (p.body.map Sm.av)] ∧ st.slots 4 = .ptr g4 0 ∧ st.mem g4 = some (.box [.lst true 0 [], .lst true 0 [], .lst true 0 [], .int .i64 0])) ?_ ?_
  · by_cases hin : 0 ≤ f ∧ f ≤ 4000
    · have hi2 : inR f 0 4000 = true := by simp [inR]; omega
      have hfu : (runFu f : Int) = f := by unfold runFu; rw [if_pos hin]; omega
      refine AWp.condF (by simp [hi2]) ?_
      refine AWp.skip ?_
      exact ⟨by simp [s1, hfu], by simp [s2], by simp [s4], by simp [b4]⟩
    · have hi2 : inR f 0 4000 = false := by simp [inR]; omega
      have hfu : runFu f = 0 := by unfold runFu; rw [if_neg hin]
      refine AWp.condT (by simp [hi2]) ?_
      (repeat refine AWp.seq ?_); refine AWp.region noP (by kernel_rfl) ?_
      simp [hfu, s2, s4, b4]
  clear s1 s2 s4 b4
  rintro st ⟨s1, s2, s4, b4⟩
  have hfl : runFu f ≤ 4000 := by unfold runFu; split <;> omega
  (repeat refine AWp.seq ?_); refine AWp.regionZ (fun i => i == 3) (fun i => i == 0 || i == 2 || i == 4 || i == 8) [0, 1, 2, 3, 4, 6, 5, 7, 8, 9] [0, 1, 2, 3, 4, 5, 6, 7, 8, 9] (by kernel_rfl) (fun j o U ho hr hU => by have hj : j = 0 ∨ j = 2 ∨ j = 4 ∨ j = 8 := (by simpa [or_assoc] using hr); rcases hj with rfl | rfl | rfl | rfl <;> (simp at ho; subst ho; first | (cases hU; done) | (cases hU; simp; done) | (cases hU; show _ = true; kernel_rfl))) ?_
  simp [s2]
  refine aop_call' cvs ?_
  simp [s2]
  refine aop_wcall _ _ _ _ _ _ _ _ rfl (eval_func _ _) ?_
  try simp
  refine c_spec_StoNew p hf htb fun vA vV FA FV m1 hE hA hV hd hdd cA cV kA kV => ?_
  simp [s1, cA, cV, kA, kV, strs]
  intro g5 hg5
  have hg5n : st.mem g5 = none := hE.none hg5
  try simp [set_at, cA, cV, kA, kV]
  have a1 : ∀ b, FA b → b ≠ g5 := by rintro b hb rfl; exact (hd _ (.inl hb)).2 hg5
  have a2 : ∀ b, FV b → b ≠ g5 := by rintro b hb rfl; exact (hd _ (.inr hb)).2 hg5
  have n45 : g4 ≠ g5 := by rintro rfl; rw [b4] at hg5n; cases hg5n
  have b41 := hE _ _ b4
  have hFA4 : ¬ FA g4 := fun h => by have := (hd g4 (.inl h)).1; rw [b4] at this; cases this
  have hFV4 : ¬ FV g4 := fun h => by have := (hd g4 (.inr h)).1; rw [b4] at this; cases this
  have hb5 : ∀ m' : Mem, m' = m1.set g5 (.box (speCells p p.vars vA vV (.lst true 0 []) (.lst true 0 []) 0 (runFu f))) → ∀ sl : Tmp → AV, Sees ⟨sl, m'⟩ ⟨sl, m1.set g5 (.box (speCells p p.vars vA vV (.lst true 0 []) (.lst false 2 []) 0 (runFu f)))⟩ := by
    rintro m' rfl sl
    have := Sees.boxLe (s := ⟨sl, m1.set g5 (.box (speCells p p.vars vA vV (.lst true 0 []) (.lst true 0 []) 0 (runFu f)))⟩) (gm := g5) (cs' := speCells p p.vars vA vV (.lst true 0 []) (.lst false 2 []) 0 (runFu f)) (set_same _ _ _) (by
      unfold speCells
      exact .cons (Le.refl _) (.cons (Le.refl _) (.cons (Le.refl _) (.cons (Le.refl _) (.cons (Le.refl _) (.cons (Le.refl _) (.cons (Le.refl _) (.cons (Le.nil _ _ _) (Les.refl _)))))))))
    simpa using this
  refine AWp.gen (fun st' => st'.slots 2 = .ref [.lst false 2 (p.arrs.map Ar.av), .lst false 19 (p.body.map Sm.av)] ∧ st'.slots 4 = .ptr g4 0 ∧ st'.slots 5 = .ptr g5 0 ∧ st'.mem = m1.set g5 (.box (speCells p p.vars vA vV (.lst true 0 []) (.lst true 0 []) 0 (runFu f)))) ⟨by simp [s2], by simp [s4], by simp, by simp [speCells, strs]⟩ ?_
  clear s1 s2 s4
  rintro st' ⟨s2, s4, s5, sm5⟩
  refine AWp.sees (s' := ⟨st'.slots, m1.set g5 (.box (speCells p p.vars vA vV (.lst true 0 []) (.lst false 2 []) 0 (runFu f)))⟩) (hb5 st'.mem sm5 st'.slots) ?_
  refine AWp.gen (fun st' => st'.slots 2 = .ref [.lst false 2 (p.arrs.map Ar.av), .lst false 19 (p.body.map Sm.av)] ∧ st'.slots 4 = .ptr g4 0 ∧ st'.slots 5 = .ptr g5 0 ∧ st'.mem g4 = some (.box [.lst true 0 [], .lst true 0 [], .lst true 0 [], .int .i64 0]) ∧ ∃ F, RunG g5 p p.vars (runS p f) F st'.mem ∧ ¬ F g4) ⟨by simp [s2], by simp [s4], by simp [s5], ?_, fun b => b = g5 ∨ FA b ∨ FV b ∨ False ∨ False, ⟨vA, vV, .lst true 0 [], .lst false 2 [], FA, FV, fun _ => False, fun _ => False, ?_, ?_, rfl⟩, ?_⟩ ?_
  · simp [set_at, n45, b41]
  · refine ⟨by simp [set_at, speCells, runS, strs], hA.mem fun b hb => by simp [set_at, a1 b hb], hV.mem fun b hb => by simp [set_at, a2 b hb], .inl ⟨rfl, rfl⟩, ⟨false, 2, rfl, rfl⟩, fun b hb => ?_, fun h => a1 _ h rfl, fun h => a2 _ h rfl, fun h => h, fun h => h, hdd, fun _ _ h => h, fun _ _ h => h, fun _ _ h => h, fun _ _ h => h, fun _ h => h.elim⟩
    by_cases hb5 : b = g5
    · simp [set_at, hb5]
    · simp [set_at, hb5]
      rcases hb with hb | hb | hb | hb
      · exact (hd b (.inl hb)).2
      · exact (hd b (.inr hb)).2
      · exact hb.elim
      · exact hb.elim
  · have hal := hf.arrs
    have hvl := hf.vars
    refine ⟨by simp [runS, newA], by simp [runS, zeros], by omega, by omega, by simp [runS, newA]; omega, by simp [runS, zeros]; omega, by simp [runS]; omega, by simp [runS]; omega, fun r hr => ?_⟩
    simp only [runS, newA, List.mem_map] at hr
    obtain ⟨a, ha, rfl⟩ := hr
    have := hf.sizes a ha
    simp [inR] at this
    simp [zeros]
    omega
  · rintro (h | h | h | h | h)
    · exact n45 h
    · exact hFA4 h
    · exact hFV4 h
    · exact h
    · exact h
  clear s2 s4 s5 sm5
  rintro st' ⟨s2, s4, s5, b4, F, hR, hF4⟩
  (repeat refine AWp.seq ?_); refine AWp.region noP (by kernel_rfl) ?_
  simp [s2, s5]
  refine aop_wcall _ _ _ _ _ _ _ _ rfl (eval_func _ _) ?_
  simp [s5]
  refine c_l7Body 1048576 p.body 0 htb (by omega) (pg_right hok) g5 p p.vars (runS p f) F _ hR rfl (pg_names p) _ fun m2 F2 hR2 hT2 => ?_
  rw [← e] at hR2
  have b42 := hT2.keep g4 _ hF4 b4
  obtain ⟨wA, wV, wO, wB, GA, GV, GO, GB, hH, hS, hFe⟩ := hR2
  have hbx := hH.box
  unfold speCells at hbx
  have o1 := hH.rA.okc
  have o2 := hH.rV.okc
  have o3 := hH.rO.own.okc
  try simp
  (repeat refine AWp.seq ?_); refine AWp.region noP (by kernel_rfl) ?_
  simp [s4, s5, hbx, b42, o1.1, o2.1, o3.1]
  have hg45 : ∀ b, (GA b ∨ GV b ∨ GO b) → b ≠ g4 := by
    rintro b hb rfl
    rcases hT2.sub b (by rw [hFe]; rcases hb with hb | hb | hb <;> simp [hb]) with h | h
    · exact hF4 h
    · rw [b4] at h; cases h
  refine AWp.ret (post_cellO (F := fun b => GA b ∨ GV b ∨ GO b) (q := .agg [wA, wV, wO, .int .i64 (runR p f).nd]) (.inl rfl) rfl (by simp [s4, set_at]) ?_)
  exact own_sto (hH.rA.mem fun b hb => by simp [set_at, hg45 b (.inl hb)]) (hH.rV.mem fun b hb => by simp [set_at, hg45 b (.inr (.inl hb))]) (hH.rO.own.mem fun b hb => by simp [set_at, hg45 b (.inr (.inr hb))]) hH.dAV hH.dAO hH.dVO
end Go.T
namespace Go.T
open Go Go.Proofs
set_option maxRecDepth 10000
set_option maxHeartbeats 1000000
set_option linter.unusedSimpArgs false
set_option linter.unusedVariables false
end Go.T
namespace Go.T
open Go Go.Proofs
set_option maxRecDepth 10000
set_option maxHeartbeats 1000000
set_option linter.unusedSimpArgs false
set_option linter.unusedVariables false
section
variable {H : Type} {enc : TypeId × Value → H} {W : World}
theorem o_Exp (fuel : Nat) : Opens enc Tryz.prog W 29 Ex.cells Ex.fit fuel := by
  induction fuel using Nat.strongRecOn with | ind fuel ih =>
  cases fuel with
  | zero => exact opens_zero
  | succ k =>
    have hL : Opens enc Tryz.prog W 27 (fun l : List Ex => [.lst false 4 (l.map Ex.av)]) (fun l => l.length ≤ most ∧ ∀ x ∈ l, x.fit) k := by
      cases k with
      | zero => exact opens_zero
      | succ j => exact opens_slice Tryz.underlying27 (n := 4) (elt := Ex.av) (by kernel_rfl) (by omega) (fun _ => rfl) Ex.cells_len (ih j (by omega))
    exact Opens.map (opens_struct Tryz.underlying29 (N := 4) (by kernel_rfl) (fields_cons (n := 1) rfl (by kernel_rfl) (opens_int Tryz.underlying3 _) (fields_cons (n := 1) rfl (by kernel_rfl) (opens_int Tryz.underlying3 _) (fields_cons (n := 1) rfl (by kernel_rfl) (opens_str Tryz.underlying9 _) (fields_cons (n := 1) rfl (by kernel_rfl) hL (fields_nil rfl))))))
      (fun x => Ex.mk x.1 x.2.1 x.2.2.1 x.2.2.2.1) fun x hx => ⟨(Ex.fit_mk _ _ _ _).2 ⟨hx.2.2.1, hx.2.2.2.1.1, hx.2.2.2.1.2⟩, by rw [Ex.cells_mk]; exact Les.refl _⟩
theorem o_Stmt (fuel : Nat) : Opens enc Tryz.prog W 237 Sm.cells Sm.fit fuel := by
  induction fuel using Nat.strongRecOn with | ind fuel ih =>
  cases fuel with
  | zero => exact opens_zero
  | succ k =>
    have hL : Opens enc Tryz.prog W 23 (fun l : List Sm => [.lst false 19 (l.map Sm.av)]) (fun l => l.length ≤ most ∧ ∀ x ∈ l, x.fit) k := by
      cases k with
      | zero => exact opens_zero
      | succ j => exact opens_slice Tryz.underlying23 (n := 19) (elt := Sm.av) (by kernel_rfl) (by omega) (fun _ => rfl) Sm.cells_len (ih j (by omega))
    exact Opens.map (opens_struct Tryz.underlying237 (N := 19) (by kernel_rfl) (fields_cons (n := 1) rfl (by kernel_rfl) (opens_int Tryz.underlying3 _) (fields_cons (n := 1) rfl (by kernel_rfl) (opens_str Tryz.underlying9 _) (fields_cons (n := 4) rfl (by kernel_rfl) (o_Exp k) (fields_cons (n := 4) rfl (by kernel_rfl) (o_Exp k)
      (fields_cons (n := 4) rfl (by kernel_rfl) (o_Exp k) (fields_cons (n := 4) rfl (by kernel_rfl) (o_Exp k) (fields_cons (n := 1) rfl (by kernel_rfl) hL (fields_nil rfl)))))))))
      (fun x => Sm.mk x.1 x.2.1 x.2.2.1 x.2.2.2.1 x.2.2.2.2.1 x.2.2.2.2.2.1 x.2.2.2.2.2.2.1) fun x hx => ⟨(Sm.fit_mk _ _ _ _ _ _ _).2 ⟨hx.2.1, hx.2.2.1, hx.2.2.2.1, hx.2.2.2.2.1, hx.2.2.2.2.2.1, hx.2.2.2.2.2.2.1.1, hx.2.2.2.2.2.2.1.2⟩, by rw [Sm.cells_mk]; exact Les.refl _⟩
theorem o_Arr (fuel : Nat) : Opens enc Tryz.prog W 234 Ar.cells Ar.fit fuel := by
  cases fuel with
  | zero => exact opens_zero
  | succ k =>
    exact Opens.map (opens_struct Tryz.underlying234 (N := 2) (by kernel_rfl) (fields_cons (n := 1) rfl (by kernel_rfl) (opens_str Tryz.underlying9 _) (fields_cons (n := 1) rfl (by kernel_rfl) (opens_int Tryz.underlying3 _) (fields_nil rfl))))
      (fun x => Ar.mk x.1 x.2.1) fun x hx => ⟨hx.1, Les.refl _⟩
theorem o_ArrS (fuel : Nat) : Opens enc Tryz.prog W 22 (fun l : List Ar => [.lst false 2 (l.map Ar.av)]) (fun l => l.length ≤ most ∧ ∀ x ∈ l, x.fit) fuel := by
  cases fuel with
  | zero => exact opens_zero
  | succ k => exact opens_slice Tryz.underlying22 (n := 2) (elt := Ar.av) (by kernel_rfl) (by omega) (fun _ => rfl) Ar.cells_len (o_Arr k)
theorem o_StmtS (fuel : Nat) : Opens enc Tryz.prog W 23 (fun l : List Sm => [.lst false 19 (l.map Sm.av)]) (fun l => l.length ≤ most ∧ ∀ x ∈ l, x.fit) fuel := by
  cases fuel with
  | zero => exact opens_zero
  | succ k => exact opens_slice Tryz.underlying23 (n := 19) (elt := Sm.av) (by kernel_rfl) (by omega) (fun _ => rfl) Sm.cells_len (o_Stmt k)
theorem o_Prog (fuel : Nat) : Opens enc Tryz.prog W 25 Pg.cells Pg.fit fuel := by
  cases fuel with
  | zero => exact opens_zero
  | succ k =>
    exact Opens.map (opens_struct Tryz.underlying25 (N := 2) (by kernel_rfl) (fields_cons (n := 1) rfl (by kernel_rfl) (o_ArrS k) (fields_cons (n := 1) rfl (by kernel_rfl) (o_StmtS k) (fields_nil rfl))))
      (fun x => Pg.mk x.1 x.2.1) fun x hx => ⟨⟨hx.1.1, hx.1.2, hx.2.1.1, hx.2.1.2⟩, Les.refl _⟩
end
end Go.T
namespace Go.T
open Go Go.Proofs
set_option maxRecDepth 10000
set_option maxHeartbeats 1000000
set_option linter.unusedSimpArgs false
set_option linter.unusedVariables false
end Go.T
namespace Go.T
open Go Go.Proofs
set_option maxRecDepth 10000
set_option maxHeartbeats 1000000
set_option linter.unusedSimpArgs false
set_option linter.unusedVariables false
end Go.T
namespace Go.T
open Go Go.Proofs
set_option maxRecDepth 10000
set_option maxHeartbeats 1000000
set_option linter.unusedSimpArgs false
set_option linter.unusedVariables false
section
variable {H : Type} {enc : TypeId × Value → H} {W : World}
end
end Go.T
namespace Go.T
open Go Go.Proofs
set_option maxRecDepth 10000
set_option maxHeartbeats 1000000
set_option linter.unusedSimpArgs false
set_option linter.unusedVariables false
theorem byte_add (x : Int) (h0 : 0 ≤ x) (h1 : x ≤ 9) : IntKind.wrap .u8 (48 + x) = 48 + x := by
  unfold IntKind.wrap
  simp [IntKind.bits, IntKind.signed]
  omega
theorem bytesOf_one (n : Int) : (bytesOf [n]).size = 1 := rfl
theorem c_markText (k : Int) (h0 : 0 < k) (h1 : k ≤ 4611686018427387904) : PCall Tryz.prog 105 [.int .i64 k] (.str (markT k)) := by
  obtain ⟨n, rfl⟩ := Int.eq_ofNat_of_zero_le (show 0 ≤ k by omega)
  refine pcall_of Tryz.func105 (by kernel_rfl) rfl (by simp [Tryz.f105]) ?_
  (repeat refine AWp.seq ?_); refine AWp.region noP (by kernel_rfl) ?_
  try simp
  (repeat refine AWp.seq ?_); refine AWp.region noP (by kernel_rfl) ?_
  try simp
  (repeat refine AWp.seq ?_); refine AWp.condF (by simp; omega) ?_
  refine AWp.skip ?_
  try simp
  (repeat refine AWp.seq ?_); refine AWp.region noP (by kernel_rfl) ?_
  try simp
  (repeat refine AWp.seq ?_); refine AWp.block (AWp.rounds (fun m st => ∃ (q : Nat) (out : ByteArray), m = q ∧ q + out.size ≤ n ∧ markU n ⟨#[]⟩ = markU q out ∧ st.slots 0 = .int .i64 q ∧ st.slots 3 = .str out) n ⟨n, ⟨#[]⟩, rfl, Nat.le_refl _, rfl, by simp, by simp⟩ ?_)
  rintro R m st hR ⟨q, out, rfl, hq, he, s0, s3⟩
  (repeat refine AWp.seq ?_); refine AWp.region noP (by kernel_rfl) ?_
  simp [s0]
  by_cases hz : m = 0
  · subst hz
    (repeat refine AWp.seq ?_); refine AWp.condF (by simp) ?_
    refine AWp.exit ?_
    try simp
    have hu : markU 0 out = out := by rw [markU, dif_pos rfl]
    rw [hu] at he
    have e2 : markT (n : Int) = ⟨#[109]⟩ ++ out := by unfold markT; rw [Int.toNat_natCast, he]
    (repeat refine AWp.seq ?_); refine AWp.region noP (by kernel_rfl) ?_
    have hadd : strA .add ⟨#[109]⟩ out = some (.str (⟨#[109]⟩ ++ out)) := if_pos (show (⟨#[109]⟩ : ByteArray).size + out.size ≤ 9223372036854775807 by have : (⟨#[109]⟩ : ByteArray).size = 1 := rfl; omega)
    simp [s3, hadd]
    exact AWp.ret (post_ret1 rfl (by simp [e2]))
  · have hm : (m : Int).tmod 10 = (m : Int) % 10 := Int.tmod_eq_emod_of_nonneg (by omega)
    have hd : (m : Int).tdiv 10 = (m : Int) / 10 := Int.tdiv_eq_ediv_of_nonneg (by omega)
    have w1 : IntKind.wrap .i64 (48 + (m : Int) % 10) = 48 + (m : Int) % 10 := wrap64 (by omega) (by omega)
    have w2 := byte_add ((m : Int) % 10) (by omega) (by omega)
    have w3 : IntKind.wrap .i64 ((m : Int) / 10) = (m : Int) / 10 := wrap64 (by omega) (by omega)
    have hs : (bytesOf [48 + (m : Int) % 10]).size + out.size ≤ 9223372036854775807 := by rw [bytesOf_one]; omega
    have e3 : markU m out = markU (m / 10) (bytesOf [48 + (m : Int) % 10] ++ out) := by rw [markU, dif_neg hz]; congr 3
    have hsz : (bytesOf [48 + (m : Int) % 10] ++ out).size = 1 + out.size := by rw [ByteArray.size_append, bytesOf_one]
    rw [e3] at he
    have hadd : strA .add (bytesOf [48 + (m : Int) % 10]) out = some (.str (bytesOf [48 + (m : Int) % 10] ++ out)) := if_pos hs
    generalize hnx : bytesOf [48 + (m : Int) % 10] ++ out = nx at *
    (repeat refine AWp.seq ?_); refine AWp.condT (by simp; omega) ?_
    refine AWp.skip ?_
    try simp
    (repeat refine AWp.seq ?_); refine AWp.block ?_
    (repeat refine AWp.seq ?_); refine AWp.region noP (by kernel_rfl) ?_
    simp [s0, s3, hm, w1, w2, numsA, hadd]
    (repeat refine AWp.seq ?_); refine AWp.region noP (by kernel_rfl) ?_
    simp [s0, hd, w3]
    exact hR _ (m / 10) (by omega) ⟨m / 10, nx, rfl, by omega, he, by simp, by simp⟩
end Go.T
namespace Go.T
open Go Go.Proofs
set_option maxRecDepth 10000
set_option maxHeartbeats 1000000
set_option linter.unusedSimpArgs false
set_option linter.unusedVariables false
/-- What marking rows of these comes to. -/
def MkInt (l : List Int) : Prop := ∀ (m : Mem) (F : Nat → Prop) (v : AV) (f : Bool) (h : OwnT m F v (.lst f 1 (l.map (AV.int .i64)))) (k : Int) (h0 : 0 < k) (hb : k + (AV.cnts (l.map (AV.int .i64)) : Int) ≤ 4611686018427387904) (K : AV → Mem → Prop)
    (hK : ∀ m' (l' : List Int), (∀ b, ¬ F b → m' b = m b) → OwnT m' F v (.lst false 1 (l'.map (AV.int .i64))) → Held (l'.map (AV.int .i64)) k (k + (AV.cnts (l.map (AV.int .i64)) : Int)) → K (.int .i64 (k + (AV.cnts (l.map (AV.int .i64)) : Int))) m'), WCall Tryz.prog 45 [v, .int .i64 k] m K
theorem c_markIntS (l : List Int) : MkInt l := by
  intro m F v f h k h0 hb K hK
  refine wcall_of Tryz.func45 (by kernel_rfl) rfl (by simp [Tryz.f45]) ?_
  rcases own_row h with ⟨f', e', rfl, hnil⟩ | ⟨g, n, c, rfl, hn, rfl⟩
  · have hl : l = [] := by simpa using hnil
    subst hl
    (repeat refine AWp.seq ?_); refine AWp.region noP (by kernel_rfl) ?_
    try simp
    (repeat refine AWp.seq ?_); refine AWp.region noP (by kernel_rfl) ?_
    try simp
    (repeat refine AWp.seq ?_); refine AWp.block (AWp.rounds (fun q st => q = 0 ∧ st.slots 0 = .lst f' e' [] ∧ st.slots 1 = .int .i64 k ∧ st.slots 5 = .int .i64 0 ∧ st.mem = m) 0 ⟨rfl, by simp, by simp, by simp, by simp⟩ ?_)
    rintro R q st hR ⟨rfl, s0, s1, s5, sm⟩
    (repeat refine AWp.seq ?_); refine AWp.region noP (by kernel_rfl) ?_
    simp [s0, s5]
    (repeat refine AWp.seq ?_); refine AWp.condF (by simp) ?_
    refine AWp.exit ?_
    try simp
    (repeat refine AWp.seq ?_); refine AWp.region noP (by kernel_rfl) ?_
    simp [s1]
    refine AWp.ret (post_retW rfl ⟨_, _, View.refl _ _, ?_⟩)
    have := hK m [] (fun _ _ => rfl) (.nil _ _ _) (by simpa [AV.cnts] using Held.nil k)
    simpa [AV.cnts, sm] using this
  obtain ⟨T, G, ys, hM, hy, hx⟩ := Marking.start h
  have hlen : l.length = n := by simpa using hx
  have hcl := cnts_len (f := (AV.int .i64)) (fun x => by simp [AV.cnt]) l
  (repeat refine AWp.seq ?_); refine AWp.region noP (by kernel_rfl) ?_
  try simp
  (repeat refine AWp.seq ?_); refine AWp.region noP (by kernel_rfl) ?_
  try simp
  (repeat refine AWp.seq ?_); refine AWp.block (AWp.rounds (fun q st => ∃ (i : Nat) (ys : List AV) (ki : Int) (done : List Int), q = n - i ∧ i ≤ n ∧ done.length = i ∧ ys.length = n ∧ st.slots 0 = .own g n c ∧ st.slots 1 = .int .i64 ki ∧ st.slots 5 = .int .i64 i ∧ Held (done.map (AV.int .i64)) k ki ∧ k ≤ ki ∧ ki + (AV.cnts ((l.drop i).map (AV.int .i64)) : Int) = k + (AV.cnts (l.map (AV.int .i64)) : Int) ∧ Marking st.mem m F g T 1 c G ys ((done ++ l.drop i).map (AV.int .i64))) n ⟨0, ys, k, [], by simp, by simp, rfl, hy, by simp, by simp, by simp, .nil k, by omega, by simp, by simpa using hM⟩ ?_)
  clear hM hy ys
  rintro R q st hR ⟨i, ys, ki, done, rfl, hi, hdl, hy, s0, s1, s5, hH, hki, hcnt, hM⟩
  (repeat refine AWp.seq ?_); refine AWp.region noP (by kernel_rfl) ?_
  simp [s0, s5]
  (repeat refine AWp.seq ?_); refine AWp.cond (b := decide (i < n)) (by simp) (fun hlt => ?_) (fun hlt => ?_)
  rotate_left
  · simp at hlt
    have hin : i = n := by omega
    subst hin
    refine AWp.exit ?_
    try simp
    (repeat refine AWp.seq ?_); refine AWp.region noP (by kernel_rfl) ?_
    simp [s1]
    rw [List.drop_eq_nil_of_le (by omega)] at hcnt hM
    rw [List.append_nil] at hM
    have hke : ki = k + (AV.cnts (l.map (AV.int .i64)) : Int) := by simpa [AV.cnts] using hcnt
    subst hke
    refine AWp.ret (post_retW rfl ⟨_, _, View.refl _ _, ?_⟩)
    simp
    exact hK _ done hM.out (hM.done hy) hH
  simp at hlt
  have hil : i < l.length := by omega
  have hdr : l.drop i = l[i] :: l.drop (i + 1) := List.drop_eq_getElem_cons hil
  have hmem := List.getElem_mem hil
  have hwi : IntKind.wrap .i64 ((i : Int) + 1) = (i + 1 : Nat) := wrap64 (by omega) (by omega)
  rw [hdr] at hcnt hM
  simp only [List.map_cons, AV.cnts, AV.cnt] at hcnt
  refine AWp.skip ?_
  try simp
  (repeat refine AWp.seq ?_); refine AWp.block ?_
  have hg := hM.row
  have hx : idxA Tryz.prog st.mem 54 (.own g n c) (.int .i64 i) = some (.elt g 1 i 0) := idx_own es_54 hg hy hlt
  have hst : storeA st.mem (.elt g 1 i 0) (.int .i64 ki) = some _ := store_elt hg (by omega) rfl
  have hM2 := hM.leaf (i := i) (x := .int .i64 ki) (own_int _ _)
  rw [set_done (AV.int .i64) done _ ki _ hdl] at hM2
  (repeat refine AWp.seq ?_); refine AWp.region noP (by kernel_rfl) ?_
  simp [s0, s1, s5, hx, hst]
  have hw : IntKind.wrap .i64 (ki + 1) = ki + 1 := wrap64 (by omega) (by omega)
  (repeat refine AWp.seq ?_); refine AWp.region noP (by kernel_rfl) ?_
  simp [s1, hw]
  (repeat refine AWp.seq ?_); refine AWp.region noP (by kernel_rfl) ?_
  simp [s5, hwi]
  refine hR _ (n - (i + 1)) (by omega) ⟨i + 1, _, ki + 1, done ++ [ki], rfl, by omega, by simp [hdl], ?_, by simp [s0], by simp, by simp, ?_, by omega, by omega, by simpa using hM2⟩
  · simp [hy]
  · rw [List.map_append]
    exact hH.append (.int (.nil _))
def Ex.parts : Ex → List Ex
  | .mk _ _ _ l => l
/-- What marking rows of these comes to. -/
def MkExp (l : List Ex) : Prop := ∀ (m : Mem) (F : Nat → Prop) (v : AV) (f : Bool) (h : OwnT m F v (.lst f 4 (l.map Ex.av))) (k : Int) (h0 : 0 < k) (hb : k + (AV.cnts (l.map Ex.av) : Int) ≤ 4611686018427387904) (K : AV → Mem → Prop)
    (hK : ∀ m' (l' : List Ex), (∀ b, ¬ F b → m' b = m b) → OwnT m' F v (.lst false 4 (l'.map Ex.av)) → Held (l'.map Ex.av) k (k + (AV.cnts (l.map Ex.av) : Int)) → K (.int .i64 (k + (AV.cnts (l.map Ex.av) : Int))) m'), WCall Tryz.prog 106 [v, .int .i64 k] m K
theorem c_markExpS0 (l : List Ex) (hr : ∀ x ∈ l, MkExp x.parts) : MkExp l := by
  intro m F v f h k h0 hb K hK
  refine wcall_of Tryz.func106 (by kernel_rfl) rfl (by simp [Tryz.f106]) ?_
  rcases own_row h with ⟨f', e', rfl, hnil⟩ | ⟨g, n, c, rfl, hn, rfl⟩
  · have hl : l = [] := by simpa using hnil
    subst hl
    (repeat refine AWp.seq ?_); refine AWp.region noP (by kernel_rfl) ?_
    try simp
    (repeat refine AWp.seq ?_); refine AWp.region noP (by kernel_rfl) ?_
    try simp
    (repeat refine AWp.seq ?_); refine AWp.block (AWp.rounds (fun q st => q = 0 ∧ st.slots 0 = .lst f' e' [] ∧ st.slots 1 = .int .i64 k ∧ st.slots 5 = .int .i64 0 ∧ st.mem = m) 0 ⟨rfl, by simp, by simp, by simp, by simp⟩ ?_)
    rintro R q st hR ⟨rfl, s0, s1, s5, sm⟩
    (repeat refine AWp.seq ?_); refine AWp.region noP (by kernel_rfl) ?_
    simp [s0, s5]
    (repeat refine AWp.seq ?_); refine AWp.condF (by simp) ?_
    refine AWp.exit ?_
    try simp
    (repeat refine AWp.seq ?_); refine AWp.region noP (by kernel_rfl) ?_
    simp [s1]
    refine AWp.ret (post_retW rfl ⟨_, _, View.refl _ _, ?_⟩)
    have := hK m [] (fun _ _ => rfl) (.nil _ _ _) (by simpa [AV.cnts] using Held.nil k)
    simpa [AV.cnts, sm] using this
  obtain ⟨T, G, ys, hM, hy, hx⟩ := Marking.start h
  have hlen : l.length = n := by simpa using hx
  have hcl := cnts_len (f := Ex.av) (fun x => by cases x; simp [Ex.av, Ex.cells_mk, AV.cnt, AV.cnts]; try omega) l
  (repeat refine AWp.seq ?_); refine AWp.region noP (by kernel_rfl) ?_
  try simp
  (repeat refine AWp.seq ?_); refine AWp.region noP (by kernel_rfl) ?_
  try simp
  (repeat refine AWp.seq ?_); refine AWp.block (AWp.rounds (fun q st => ∃ (i : Nat) (ys : List AV) (ki : Int) (done : List Ex), q = n - i ∧ i ≤ n ∧ done.length = i ∧ ys.length = n ∧ st.slots 0 = .own g n c ∧ st.slots 1 = .int .i64 ki ∧ st.slots 5 = .int .i64 i ∧ Held (done.map Ex.av) k ki ∧ k ≤ ki ∧ ki + (AV.cnts ((l.drop i).map Ex.av) : Int) = k + (AV.cnts (l.map Ex.av) : Int) ∧ Marking st.mem m F g T 4 c G ys ((done ++ l.drop i).map Ex.av)) n ⟨0, ys, k, [], by simp, by simp, rfl, hy, by simp, by simp, by simp, .nil k, by omega, by simp, by simpa using hM⟩ ?_)
  clear hM hy ys
  rintro R q st hR ⟨i, ys, ki, done, rfl, hi, hdl, hy, s0, s1, s5, hH, hki, hcnt, hM⟩
  (repeat refine AWp.seq ?_); refine AWp.region noP (by kernel_rfl) ?_
  simp [s0, s5]
  (repeat refine AWp.seq ?_); refine AWp.cond (b := decide (i < n)) (by simp) (fun hlt => ?_) (fun hlt => ?_)
  rotate_left
  · simp at hlt
    have hin : i = n := by omega
    subst hin
    refine AWp.exit ?_
    try simp
    (repeat refine AWp.seq ?_); refine AWp.region noP (by kernel_rfl) ?_
    simp [s1]
    rw [List.drop_eq_nil_of_le (by omega)] at hcnt hM
    rw [List.append_nil] at hM
    have hke : ki = k + (AV.cnts (l.map Ex.av) : Int) := by simpa [AV.cnts] using hcnt
    subst hke
    refine AWp.ret (post_retW rfl ⟨_, _, View.refl _ _, ?_⟩)
    simp
    exact hK _ done hM.out (hM.done hy) hH
  simp at hlt
  have hil : i < l.length := by omega
  have hdr : l.drop i = l[i] :: l.drop (i + 1) := List.drop_eq_getElem_cons hil
  have hmem := List.getElem_mem hil
  have hwi : IntKind.wrap .i64 ((i : Int) + 1) = (i + 1 : Nat) := wrap64 (by omega) (by omega)
  rw [hdr] at hcnt hM
  rcases hx0 : l[i] with ⟨b0, b1, b2, b3⟩
  rw [hx0] at hcnt hM hmem
  have hat := at_done Ex.av done (Ex.mk b0 b1 b2 b3) (l.drop (i + 1)) hdl
  obtain ⟨B, cs0, hok, hal, I, hback⟩ := hM.into (i := i) (by omega) (cs := [.int .i64 b0, .int .i64 b1, .str b2, .lst false 4 (b3.map Ex.av)]) (by rw [hat]; simp [Ex.av, Ex.cells_mk])
  obtain ⟨a0, a1, a2, a3, rfl⟩ : ∃ a0 a1 a2 a3, cs0 = [a0, a1, a2, a3] := by
    match cs0, hal with
    | [a0, a1, a2, a3], _ => exact ⟨_, _, _, _, rfl⟩
  simp only [List.map_cons, AV.cnts, Ex.av, Ex.cells_mk, AV.cnt, List.cons_append, List.nil_append] at hcnt
  simp only [List.all_cons, List.all_nil, Bool.and_eq_true, Bool.and_true] at hok
  refine AWp.skip ?_
  try simp
  (repeat refine AWp.seq ?_); refine AWp.block ?_
  have hg := I.row
  have hx : idxA Tryz.prog st.mem 41 (.own g n c) (.int .i64 i) = some (.elt g 4 i 0) := idx_own es_41 hg (by simp [hy]) hlt
  have I2 := I.leaf 0 (x := .int .i64 (ki)) (own_int _ _)
  have hst := I.store (by omega) rfl 0 (by omega) (by omega) (x := .int .i64 (ki)) rfl
  simp only [List.set_cons_zero, List.set_cons_succ] at I2 hst
  (repeat refine AWp.seq ?_); refine AWp.cutA (fun u => u.slots 0 = .own g n c ∧ u.slots 1 = .int .i64 (ki) ∧ u.slots 5 = .int .i64 i ∧ InRow u.mem st.mem g T 4 c i ys B [.int .i64 (ki), a1, a2, a3] [.int .i64 (ki), .int .i64 b1, .str b2, .lst false 4 (b3.map Ex.av)]) ?_ ?_
  · refine AWp.region noP (by kernel_rfl) ?_
    simp [s0, s1, s5, hx, hst]
    exact I2
  clear hg hx hst I2 I
  rintro u0 ⟨s0, s1, s5, I⟩
  have hw : IntKind.wrap .i64 (ki + 1) = ki + 1 := wrap64 (by omega) (by omega)
  (repeat refine AWp.seq ?_); refine AWp.region noP (by kernel_rfl) ?_
  simp [s1, hw]
  clear hw
  have hg := I.row
  have hx : idxA Tryz.prog u0.mem 41 (.own g n c) (.int .i64 i) = some (.elt g 4 i 0) := idx_own es_41 hg (by simp [hy]) hlt
  have I2 := I.leaf 1 (x := .int .i64 (ki + 1)) (own_int _ _)
  have hst := I.store (by omega) rfl 1 (by omega) (by omega) (x := .int .i64 (ki + 1)) rfl
  simp only [List.set_cons_zero, List.set_cons_succ] at I2 hst
  (repeat refine AWp.seq ?_); refine AWp.cutA (fun u => u.slots 0 = .own g n c ∧ u.slots 1 = .int .i64 (ki + 1) ∧ u.slots 5 = .int .i64 i ∧ InRow u.mem st.mem g T 4 c i ys B [.int .i64 (ki), .int .i64 (ki + 1), a2, a3] [.int .i64 (ki), .int .i64 (ki + 1), .str b2, .lst false 4 (b3.map Ex.av)]) ?_ ?_
  · refine AWp.region noP (by kernel_rfl) ?_
    simp [s0, s1, s5, hx, hst]
    exact I2
  clear hg hx hst I2 I
  rintro u1 ⟨s0, s1, s5, I⟩
  have hw : IntKind.wrap .i64 (ki + 1 + 1) = ki + 1 + 1 := wrap64 (by omega) (by omega)
  (repeat refine AWp.seq ?_); refine AWp.region noP (by kernel_rfl) ?_
  simp [s1, hw]
  clear hw
  have hg := I.row
  have hx : idxA Tryz.prog u1.mem 41 (.own g n c) (.int .i64 i) = some (.elt g 4 i 0) := idx_own es_41 hg (by simp [hy]) hlt
  have I2 := I.leaf 2 (x := .str (markT (ki + 1 + 1))) (own_str _)
  have hst := I.store (by omega) rfl 2 (by omega) (by omega) (x := .str (markT (ki + 1 + 1))) rfl
  simp only [List.set_cons_zero, List.set_cons_succ] at I2 hst
  (repeat refine AWp.seq ?_); refine AWp.cutA (fun u => u.slots 0 = .own g n c ∧ u.slots 1 = .int .i64 (ki + 1 + 1) ∧ u.slots 5 = .int .i64 i ∧ InRow u.mem st.mem g T 4 c i ys B [.int .i64 (ki), .int .i64 (ki + 1), .str (markT (ki + 1 + 1)), a3] [.int .i64 (ki), .int .i64 (ki + 1), .str (markT (ki + 1 + 1)), .lst false 4 (b3.map Ex.av)]) ?_ ?_
  · refine AWp.region noP (by kernel_rfl) ?_
    simp [s0, s1, s5, hx, hst]
    refine aop_call' (c_markText (ki + 1 + 1) (by omega) (by omega)) ?_
    simp [s0, s1, s5, hx, hst]
    exact I2
  clear hg hx hst I2 I
  rintro u2 ⟨s0, s1, s5, I⟩
  have hw : IntKind.wrap .i64 (ki + 1 + 1 + 1) = ki + 1 + 1 + 1 := wrap64 (by omega) (by omega)
  (repeat refine AWp.seq ?_); refine AWp.region noP (by kernel_rfl) ?_
  simp [s1, hw]
  clear hw
  have hg := I.row
  have hx : idxA Tryz.prog u2.mem 41 (.own g n c) (.int .i64 i) = some (.elt g 4 i 0) := idx_own es_41 hg (by simp [hy]) hlt
  obtain ⟨A, x, hxo, hown, hupd⟩ := I.call (o := 3) (by simp)
  obtain rfl : .lst false 4 (b3.map Ex.av) = x := Option.some.inj hxo
  simp only [List.getElem_cons_succ, List.getElem_cons_zero] at hown hupd
  (repeat refine AWp.seq ?_); refine AWp.region noP (by kernel_rfl) ?_
  simp [s0, s1, s5, hx, hg, hy, hlt]
  refine aop_wcall _ _ _ _ _ _ _ _ rfl (eval_func _ _) ?_
  refine (show MkExp b3 from hr _ hmem) _ _ _ _ hown (ki + 1 + 1 + 1) (by omega) (by omega) _ fun m' l3 hout ho hh3 => ?_
  simp [s0, s1, s5]
  have I2 := hupd m' _ hout ho
  simp only [List.set_cons_zero, List.set_cons_succ] at I2
  clear hg hx I hupd hown hxo
  have I := I2
  have hnew : Ex.av (Ex.mk (ki) (ki + 1) (markT (ki + 1 + 1)) l3) = .agg [.int .i64 (ki), .int .i64 (ki + 1), .str (markT (ki + 1 + 1)), .lst false 4 (l3.map Ex.av)] := by simp [Ex.av, Ex.cells_mk]
  have hM2 := hback m' [.int .i64 (ki), .int .i64 (ki + 1), .str (markT (ki + 1 + 1)), a3] [.int .i64 (ki), .int .i64 (ki + 1), .str (markT (ki + 1 + 1)), .lst false 4 (l3.map Ex.av)] I (by simp [hok])
  rw [← hnew, set_done Ex.av done _ _ _ hdl] at hM2
  (repeat refine AWp.seq ?_); refine AWp.region noP (by kernel_rfl) ?_
  simp [s0, s1, s5, hwi]
  refine hR _ (n - (i + 1)) (by omega) ⟨i + 1, _, ki + 1 + 1 + 1 + (AV.cnts (b3.map Ex.av) : Int), done ++ [(Ex.mk (ki) (ki + 1) (markT (ki + 1 + 1)) l3)], rfl, by omega, by simp [hdl], ?_, by simp [s0, s1, s5], by simp [s0, s1, s5], by simp, ?_, by omega, by omega, by simpa using hM2⟩
  · simp [hy]
  · rw [List.map_append, List.map_cons, hnew]
    exact hH.append (.agg (.int (.int (.str (.lst hh3 (.nil _))))) (.nil _))
theorem mk_exp (e : Ex) : MkExp e.parts := by
  induction e using Ex.ind with | h k n s l h => exact c_markExpS0 l h
theorem c_markExpS (l : List Ex) : MkExp l := mk_exp (Ex.mk 0 0 ⟨#[]⟩ l)
/-- What marking rows of these comes to. -/
def MkArr (l : List Ar) : Prop := ∀ (m : Mem) (F : Nat → Prop) (v : AV) (f : Bool) (h : OwnT m F v (.lst f 2 (l.map Ar.av))) (k : Int) (h0 : 0 < k) (hb : k + (AV.cnts (l.map Ar.av) : Int) ≤ 4611686018427387904) (K : AV → Mem → Prop)
    (hK : ∀ m' (l' : List Ar), (∀ b, ¬ F b → m' b = m b) → OwnT m' F v (.lst false 2 (l'.map Ar.av)) → Held (l'.map Ar.av) k (k + (AV.cnts (l.map Ar.av) : Int)) → K (.int .i64 (k + (AV.cnts (l.map Ar.av) : Int))) m'), WCall Tryz.prog 103 [v, .int .i64 k] m K
theorem c_markArrS0 (l : List Ar) : MkArr l := by
  intro m F v f h k h0 hb K hK
  refine wcall_of Tryz.func103 (by kernel_rfl) rfl (by simp [Tryz.f103]) ?_
  rcases own_row h with ⟨f', e', rfl, hnil⟩ | ⟨g, n, c, rfl, hn, rfl⟩
  · have hl : l = [] := by simpa using hnil
    subst hl
    (repeat refine AWp.seq ?_); refine AWp.region noP (by kernel_rfl) ?_
    try simp
    (repeat refine AWp.seq ?_); refine AWp.region noP (by kernel_rfl) ?_
    try simp
    (repeat refine AWp.seq ?_); refine AWp.block (AWp.rounds (fun q st => q = 0 ∧ st.slots 0 = .lst f' e' [] ∧ st.slots 1 = .int .i64 k ∧ st.slots 5 = .int .i64 0 ∧ st.mem = m) 0 ⟨rfl, by simp, by simp, by simp, by simp⟩ ?_)
    rintro R q st hR ⟨rfl, s0, s1, s5, sm⟩
    (repeat refine AWp.seq ?_); refine AWp.region noP (by kernel_rfl) ?_
    simp [s0, s5]
    (repeat refine AWp.seq ?_); refine AWp.condF (by simp) ?_
    refine AWp.exit ?_
    try simp
    (repeat refine AWp.seq ?_); refine AWp.region noP (by kernel_rfl) ?_
    simp [s1]
    refine AWp.ret (post_retW rfl ⟨_, _, View.refl _ _, ?_⟩)
    have := hK m [] (fun _ _ => rfl) (.nil _ _ _) (by simpa [AV.cnts] using Held.nil k)
    simpa [AV.cnts, sm] using this
  obtain ⟨T, G, ys, hM, hy, hx⟩ := Marking.start h
  have hlen : l.length = n := by simpa using hx
  have hcl := cnts_len (f := Ar.av) (fun x => by simp [Ar.av, Ar.cells, AV.cnt, AV.cnts]) l
  (repeat refine AWp.seq ?_); refine AWp.region noP (by kernel_rfl) ?_
  try simp
  (repeat refine AWp.seq ?_); refine AWp.region noP (by kernel_rfl) ?_
  try simp
  (repeat refine AWp.seq ?_); refine AWp.block (AWp.rounds (fun q st => ∃ (i : Nat) (ys : List AV) (ki : Int) (done : List Ar), q = n - i ∧ i ≤ n ∧ done.length = i ∧ ys.length = n ∧ st.slots 0 = .own g n c ∧ st.slots 1 = .int .i64 ki ∧ st.slots 5 = .int .i64 i ∧ Held (done.map Ar.av) k ki ∧ k ≤ ki ∧ ki + (AV.cnts ((l.drop i).map Ar.av) : Int) = k + (AV.cnts (l.map Ar.av) : Int) ∧ Marking st.mem m F g T 2 c G ys ((done ++ l.drop i).map Ar.av)) n ⟨0, ys, k, [], by simp, by simp, rfl, hy, by simp, by simp, by simp, .nil k, by omega, by simp, by simpa using hM⟩ ?_)
  clear hM hy ys
  rintro R q st hR ⟨i, ys, ki, done, rfl, hi, hdl, hy, s0, s1, s5, hH, hki, hcnt, hM⟩
  (repeat refine AWp.seq ?_); refine AWp.region noP (by kernel_rfl) ?_
  simp [s0, s5]
  (repeat refine AWp.seq ?_); refine AWp.cond (b := decide (i < n)) (by simp) (fun hlt => ?_) (fun hlt => ?_)
  rotate_left
  · simp at hlt
    have hin : i = n := by omega
    subst hin
    refine AWp.exit ?_
    try simp
    (repeat refine AWp.seq ?_); refine AWp.region noP (by kernel_rfl) ?_
    simp [s1]
    rw [List.drop_eq_nil_of_le (by omega)] at hcnt hM
    rw [List.append_nil] at hM
    have hke : ki = k + (AV.cnts (l.map Ar.av) : Int) := by simpa [AV.cnts] using hcnt
    subst hke
    refine AWp.ret (post_retW rfl ⟨_, _, View.refl _ _, ?_⟩)
    simp
    exact hK _ done hM.out (hM.done hy) hH
  simp at hlt
  have hil : i < l.length := by omega
  have hdr : l.drop i = l[i] :: l.drop (i + 1) := List.drop_eq_getElem_cons hil
  have hmem := List.getElem_mem hil
  have hwi : IntKind.wrap .i64 ((i : Int) + 1) = (i + 1 : Nat) := wrap64 (by omega) (by omega)
  rw [hdr] at hcnt hM
  rcases hx0 : l[i] with ⟨b0, b1⟩
  rw [hx0] at hcnt hM hmem
  have hat := at_done Ar.av done (Ar.mk b0 b1) (l.drop (i + 1)) hdl
  obtain ⟨B, cs0, hok, hal, I, hback⟩ := hM.into (i := i) (by omega) (cs := [.str b0, .int .i64 b1]) (by rw [hat]; simp [Ar.av, Ar.cells])
  obtain ⟨a0, a1, rfl⟩ : ∃ a0 a1, cs0 = [a0, a1] := by
    match cs0, hal with
    | [a0, a1], _ => exact ⟨_, _, rfl⟩
  simp only [List.map_cons, AV.cnts, Ar.av, Ar.cells, AV.cnt, List.cons_append, List.nil_append] at hcnt
  simp only [List.all_cons, List.all_nil, Bool.and_eq_true, Bool.and_true] at hok
  refine AWp.skip ?_
  try simp
  (repeat refine AWp.seq ?_); refine AWp.block ?_
  have hg := I.row
  have hx : idxA Tryz.prog st.mem 35 (.own g n c) (.int .i64 i) = some (.elt g 2 i 0) := idx_own es_35 hg (by simp [hy]) hlt
  have I2 := I.leaf 0 (x := .str (markT (ki))) (own_str _)
  have hst := I.store (by omega) rfl 0 (by omega) (by omega) (x := .str (markT (ki))) rfl
  simp only [List.set_cons_zero, List.set_cons_succ] at I2 hst
  (repeat refine AWp.seq ?_); refine AWp.cutA (fun u => u.slots 0 = .own g n c ∧ u.slots 1 = .int .i64 (ki) ∧ u.slots 5 = .int .i64 i ∧ InRow u.mem st.mem g T 2 c i ys B [.str (markT (ki)), a1] [.str (markT (ki)), .int .i64 b1]) ?_ ?_
  · refine AWp.region noP (by kernel_rfl) ?_
    simp [s0, s1, s5, hx, hst]
    refine aop_call' (c_markText (ki) (by omega) (by omega)) ?_
    simp [s0, s1, s5, hx, hst]
    exact I2
  clear hg hx hst I2 I
  rintro u0 ⟨s0, s1, s5, I⟩
  have hw : IntKind.wrap .i64 (ki + 1) = ki + 1 := wrap64 (by omega) (by omega)
  (repeat refine AWp.seq ?_); refine AWp.region noP (by kernel_rfl) ?_
  simp [s1, hw]
  clear hw
  have hg := I.row
  have hx : idxA Tryz.prog u0.mem 35 (.own g n c) (.int .i64 i) = some (.elt g 2 i 0) := idx_own es_35 hg (by simp [hy]) hlt
  have I2 := I.leaf 1 (x := .int .i64 (ki + 1)) (own_int _ _)
  have hst := I.store (by omega) rfl 1 (by omega) (by omega) (x := .int .i64 (ki + 1)) rfl
  simp only [List.set_cons_zero, List.set_cons_succ] at I2 hst
  (repeat refine AWp.seq ?_); refine AWp.cutA (fun u => u.slots 0 = .own g n c ∧ u.slots 1 = .int .i64 (ki + 1) ∧ u.slots 5 = .int .i64 i ∧ InRow u.mem st.mem g T 2 c i ys B [.str (markT (ki)), .int .i64 (ki + 1)] [.str (markT (ki)), .int .i64 (ki + 1)]) ?_ ?_
  · refine AWp.region noP (by kernel_rfl) ?_
    simp [s0, s1, s5, hx, hst]
    exact I2
  clear hg hx hst I2 I
  rintro u1 ⟨s0, s1, s5, I⟩
  have hw : IntKind.wrap .i64 (ki + 1 + 1) = ki + 1 + 1 := wrap64 (by omega) (by omega)
  (repeat refine AWp.seq ?_); refine AWp.region noP (by kernel_rfl) ?_
  simp [s1, hw]
  clear hw
  have hnew : Ar.av (Ar.mk (markT (ki)) (ki + 1)) = .agg [.str (markT (ki)), .int .i64 (ki + 1)] := by simp [Ar.av, Ar.cells]
  have hM2 := hback u1.mem [.str (markT (ki)), .int .i64 (ki + 1)] [.str (markT (ki)), .int .i64 (ki + 1)] I (by simp [hok])
  rw [← hnew, set_done Ar.av done _ _ _ hdl] at hM2
  (repeat refine AWp.seq ?_); refine AWp.region noP (by kernel_rfl) ?_
  simp [s0, s1, s5, hwi]
  refine hR _ (n - (i + 1)) (by omega) ⟨i + 1, _, ki + 1 + 1, done ++ [(Ar.mk (markT (ki)) (ki + 1))], rfl, by omega, by simp [hdl], ?_, by simp [s0, s1, s5], by simp [s0, s1, s5], by simp, ?_, by omega, by omega, by simpa using hM2⟩
  · simp [hy]
  · rw [List.map_append, List.map_cons, hnew]
    exact hH.append (.agg (.str (.int (.nil _))) (.nil _))
end Go.T
