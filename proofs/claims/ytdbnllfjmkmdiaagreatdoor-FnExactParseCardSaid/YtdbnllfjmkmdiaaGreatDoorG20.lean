/- FnExactParse: the law. -/
import Derived.Test.YtdbnllfjmkmdiaaGreatDoorG16
import Derived.Test.YtdbnllfjmkmdiaaGreatDoorG19
import Derived.Test.YtdbnllfjmkmdiaaGreatDoorG7
set_option linter.unusedSimpArgs false
set_option linter.unusedVariables false
namespace Go.T
open Go Go.Proofs
set_option maxRecDepth 10000
set_option maxHeartbeats 1000000
open Go
theorem own_ext {m m' : Mem} (hE : Ext m m') {F : Nat → Prop} {r x : AV} (h : OwnT m F r x) : OwnT m' F r x := by
 obtain ⟨G, hG, hGF, hGd⟩ := h.dom
 refine (hG.mem fun b hb => ?_).up hGF
 cases hq : m b with
 | none => exact absurd hq (hGd b hb)
 | some y => exact hE _ _ hq
theorem Tv.cs2 {m0 m : Mem} {F : Nat → Prop} {r : AV} {p : Pg} (h : Tv m0 m F r p.av) : ∃ c0 c1, r = .agg [c0, c1] ∧ okCell c0 = true ∧ okCell c1 = true := by
 have ho : OwnT m F r (.agg p.cells) := h.own
 obtain ⟨cs, rfl, hT, hok⟩ := own_agg ho
 have hl := hT.len
 match cs, hl with
 | [c0, c1], _ =>
  simp only [List.all_cons, List.all_nil, Bool.and_true, Bool.and_eq_true] at hok
  exact ⟨c0, c1, rfl, hok.1, hok.2⟩
theorem parse_size (s : ByteArray) : ((parse s).getD (Pg.mk [] [])).tot ≤ 100000 := by
 cases hp : parse s with
 | none => decide
 | some p =>
  unfold parse parseW at hp
  cases hl : lex s with
  | none => rw [hl] at hp; cases hp
  | some T =>
   rw [hl] at hp
   obtain ⟨hT, h6⟩ := lex_fine hl
   simp only at hp
   cases hs : bindP (arrsL []) (fun us => bindP (restL (stmtP 3) []) fun b => pureP (Pg.mk (sortA us) b)) T with
   | none => rw [hs] at hp; cases hp
   | some o =>
    obtain ⟨q, r⟩ := o
    rw [hs] at hp
    simp only at hp
    split at hp
    ·cases hp
     obtain ⟨us, r1, hA, h⟩ := bindP_some.1 hs
     obtain ⟨b, r2, hB, h⟩ := bindP_some.1 h
     have hq : p = Pg.mk (sortA us) b := by cases h; rfl
     subst hq
     obtain ⟨z1, z2, z3⟩ := parse_small (stmtP_fit 3) hT h6 hA hB
     have h1 : totL Ar.tot (sortA us) ≤ (sortA us).length * (6 + 1) := tot_arrs_le (B := 6) fun x hx => by
      have h3 := arrs_name hT hA x ((sort_mem us x).1 hx)
      omega
     rw [sort_len] at h1
     show totL Ar.tot (sortA us) + totL Sm.tot b ≤ _
     omega
    ·cases hp
theorem c_FnExactParse (s : ByteArray) (hz : s.size ≤ 9223372036854775807) (Tb : TypeId) : WCall Tryz.prog 4 [.str s] (tabMem TB Tb) fun r m' => r = .bool true ∧ m' TB = some (tabBlk Tb) := by
 have hm : tabMem TB Tb TB = some (tabBlk Tb) := by simp [tabMem]
 generalize tabMem TB Tb = m at *
 have c1 := c_spec_Parse s hz
 have hx := parse_size s
 unfold outP at c1
 obtain ⟨x, hxd⟩ : ∃ x, x = (parse s).getD (Pg.mk [] []) := ⟨_, rfl⟩
 obtain ⟨ok, hok⟩ : ∃ b, b = (parse s).isSome := ⟨_, rfl⟩
 rw [← hxd] at hx c1
 rw [← hok] at c1
 have hx1 : x.tot ≤ 1048576 := by omega
 have cn : x.cntP' ≤ 16777216 := by
  have := x.cnts_le hx1
  unfold Pg.cntP'
  omega
 refine wcall_of Tryz.func4 (by kernel_rfl) rfl (by simp [Tryz.f4]) ?_
 (repeat refine sqA ?_); refine rgA (by kernel_rfl) ?_
 simp
 (repeat refine sqA ?_); refine rgA (by kernel_rfl) ?_
 simp
 by_cases hbig : (1048576 : Int) < s.size
 ·(repeat refine sqA ?_); refine AWp.condT (by simp; omega) ?_
  (repeat refine sqA ?_); refine rgA (by kernel_rfl) ?_
  simp
  exact AWp.ret (post_retW rfl ⟨_, _, View.refl _ _, by simp, by simpa using hm⟩)
 (repeat refine sqA ?_); refine AWp.condF (by simp; omega) ?_
 refine AWp.skip ?_
 try simp
 (repeat refine sqA ?_); refine rgA (by kernel_rfl) ?_
 simp
 refine aop_call' c1 ?_
 simp [Pg.av, Pg.cells]
 intro g3 hg3
 have hE3 := ext_set hg3 (.box [.lst false 2 (x.arrs.map Ar.av), .lst false 19 (x.body.map Sm.av)])
 have w3 := set_same m g3 (.box [.lst false 2 (x.arrs.map Ar.av), .lst false 19 (x.body.map Sm.av)])
 have hm := hE3 _ _ hm
 refine AWp.gen (fun st => st.slots 0 = .str s ∧ st.slots 3 = .ptr g3 0 ∧ st.slots 4 = .bool ok ∧ st.mem = m.set g3 (.box [.lst false 2 (x.arrs.map Ar.av), .lst false 19 (x.body.map Sm.av)])) ⟨by simp, by simp, by simp, by simp⟩ ?_
 generalize m.set g3 (.box [.lst false 2 (x.arrs.map Ar.av), .lst false 19 (x.body.map Sm.av)]) = m3 at *
 clear hE3 hg3
 rintro st ⟨s0, s3, s4, sm⟩
 (repeat refine sqA ?_); refine rgA (by kernel_rfl) ?_
 simp [s0]
 refine aop_wcall _ _ _ _ _ _ _ _ rfl (eval_func _ _) ?_
 simp [sm]
 refine c_impl_Parse s hz hm fun m4 F r hE4 hTr => ?_
 rw [← hok]
 rw [← hxd] at hTr
 obtain ⟨c0, c1', rfl, q0, q1⟩ := hTr.cs2
 have nF3 : ¬ F g3 := hTr.not (by rw [w3]; simp)
 have w3 := hE4 _ _ w3
 have hm4 := hE4 _ _ hm
 have nFT : ¬ F TB := hTr.not (by rw [hm]; simp)
 simp [q0, q1]
 intro g5 hg5
 have hE5 := ext_set hg5 (.box [c0, c1'])
 have w5 := set_same m4 g5 (.box [c0, c1'])
 have w3 := hE5 _ _ w3
 have hm5 := hE5 _ _ hm4
 have nF5 : ¬ F g5 := hTr.fresh hg5
 have hown := (hTr.set nF5 (.box [c0, c1'])).own
 refine AWp.gen (fun st => st.slots 0 = .str s ∧ st.slots 3 = .ptr g3 0 ∧ st.slots 4 = .bool ok ∧ st.slots 5 = .ptr g5 0 ∧ st.slots 6 = .bool ok ∧ st.mem = m4.set g5 (.box [c0, c1'])) ⟨by simp [s0], by simp [s3], by simp [s4], by simp, by simp, by simp⟩ ?_
 generalize m4.set g5 (.box [c0, c1']) = m5 at *
 clear s0 s3 s4 sm hg5 hE5 hE4 hTr hm hm4
 rintro st ⟨s0, s3, s4, s5, s6, sm⟩
 have hxc : (AV.agg [.lst false 2 (x.arrs.map Ar.av), .lst false 19 (x.body.map Sm.av)]) = x.av := rfl
 (repeat refine sqA ?_); refine rgA (by kernel_rfl) ?_
 simp [s3, s5, sm, w3, w5, hxc]
 obtain ⟨_, hL⟩ : ∃ F : Nat → Prop, Lent m5 F [.agg [c0, c1'], x.av] [x.av, x.av] := ((Lent.nil m5).same x.av).own hown
 refine aop_wcall _ _ _ _ _ _ _ _ rfl (eval_func _ _) ?_
 try simp [sm]
 refine PCall.lend (c_eqProg0 x hx1) hL rfl ?_
 clear hL
 try simp [s4, s6]
 (repeat refine sqA ?_); refine AWp.condF (by simp) ?_
 refine AWp.skip ?_
 try simp

 (repeat refine sqA ?_); refine rgA (by kernel_rfl) ?_
 simp
 (repeat refine sqA ?_); refine rgA (by kernel_rfl) ?_
 simp [s5, sm, w5]
 refine aop_wcall _ _ _ _ _ _ _ _ rfl (eval_func _ _) ?_
 try simp [sm]
 refine mk_Prog' x m5 F _ hown 1 (by omega) (by unfold BIG; omega) _ fun m6 x2 hkeep hown hheld => ?_
 have w3 := hkeep _ _ nF3 w3
 have w5 := hkeep _ _ nF5 w5
 have hm6 := hkeep _ _ nFT hm5
 try simp
 refine AWp.gen (fun st => st.slots 0 = .str s ∧ st.slots 3 = .ptr g3 0 ∧ st.slots 4 = .bool ok ∧ st.slots 5 = .ptr g5 0 ∧ st.slots 7 = .int .i64 (1 + (x.cntP' : Int)) ∧ st.mem = m6) ⟨by first | (simp; done) | (simp [s0]; done), by first | (simp; done) | (simp [s3]; done), by first | (simp; done) | (simp [s4]; done), by first | (simp; done) | (simp [s5]; done), by simp, by first | (simp; done) | (simp [sm]; done)⟩ ?_
 clear s6 hkeep hm5 s0 s3 s4 s5 sm
 rintro st ⟨s0, s3, s4, s5, s7, sm⟩
 (repeat refine sqA ?_); refine rgA (by kernel_rfl) ?_
 simp
 (repeat refine sqA ?_); refine rgA (by kernel_rfl) ?_
 simp [s5, s7, sm, w5]
 obtain ⟨_, hL⟩ : ∃ F : Nat → Prop, Lent m6 F [.agg [c0, c1'], .int .i64 1] [x2.av, .int .i64 1] := ((Lent.nil m6).same _).own hown
 refine aop_wcall _ _ _ _ _ _ _ _ rfl (eval_func _ _) ?_
 try simp [sm]
 refine PCall.lend (hd_Prog' x2 1 _ (by omega) (by unfold BIG; omega) hheld) hL rfl ?_
 clear hL
 try simp
 (repeat refine sqA ?_); refine rgA (by kernel_rfl) ?_
 simp
 (repeat refine sqA ?_); refine AWp.condF (by simp; omega) ?_
 refine AWp.skip ?_
 try simp
 (repeat refine sqA ?_); refine rgA (by kernel_rfl) ?_
 simp [s7]
 (repeat refine sqA ?_); refine AWp.condF (by simp) ?_
 refine AWp.skip ?_
 try simp
 refine AWp.gen (fun st => st.slots 0 = .str s ∧ st.slots 3 = .ptr g3 0 ∧ st.slots 4 = .bool ok ∧ st.slots 5 = .ptr g5 0 ∧ st.slots 7 = .int .i64 (1 + (x.cntP' : Int)) ∧ st.mem = m6) ⟨by first | (simp; done) | (simp [s0]; done), by first | (simp; done) | (simp [s3]; done), by first | (simp; done) | (simp [s4]; done), by first | (simp; done) | (simp [s5]; done), by first | (simp; done) | (simp [s7]; done), by first | (simp; done) | (simp [sm]; done)⟩ ?_
 clear s0 s3 s4 s5 s7 sm
 rintro st ⟨s0, s3, s4, s5, s7, sm⟩
 (repeat refine sqA ?_); refine rgA (by kernel_rfl) ?_
 simp [s0]
 refine aop_wcall _ _ _ _ _ _ _ _ rfl (eval_func _ _) ?_
 simp [sm]
 refine c_impl_Parse s hz hm6 fun m7 F2 r2 hE7 hTr => ?_
 rw [← hok]
 rw [← hxd] at hTr
 obtain ⟨d0, d1, rfl, p0, p1⟩ := hTr.cs2
 have hown := own_ext hE7 hown
 have w3 := hE7 _ _ w3
 have w5 := hE7 _ _ w5
 have hm7 := hE7 _ _ hm6
 simp [p0, p1]
 intro g9 hg9
 have hE9 := ext_set hg9 (.box [d0, d1])
 have w9 := set_same m7 g9 (.box [d0, d1])
 have hown := own_ext hE9 hown
 have hown2 := (hTr.set (hTr.fresh hg9) (.box [d0, d1])).own
 have w3 := hE9 _ _ w3
 have w5 := hE9 _ _ w5
 have hm8 := hE9 _ _ hm7
 refine AWp.gen (fun st => st.slots 3 = .ptr g3 0 ∧ st.slots 4 = .bool ok ∧ st.slots 5 = .ptr g5 0 ∧ st.slots 7 = .int .i64 (1 + (x.cntP' : Int)) ∧ st.slots 9 = .ptr g9 0 ∧ st.slots 10 = .bool ok ∧ st.mem = m7.set g9 (.box [d0, d1])) ⟨by simp [s3], by simp [s4], by simp [s5], by simp [s7], by simp, by simp, by simp⟩ ?_
 generalize m7.set g9 (.box [d0, d1]) = m8 at *
 clear s0 s3 s4 s5 s7 sm hg9 hE9 hE7 hTr hm6 hm7
 rintro st ⟨s3, s4, s5, s7, s9, s10, sm⟩
 (repeat refine sqA ?_); refine rgA (by kernel_rfl) ?_
 simp [s3, s9, sm, w3, w9, hxc]
 obtain ⟨_, hL⟩ : ∃ F : Nat → Prop, Lent m8 F [.agg [d0, d1], x.av] [x.av, x.av] := ((Lent.nil m8).same x.av).own hown2
 refine aop_wcall _ _ _ _ _ _ _ _ rfl (eval_func _ _) ?_
 try simp [sm]
 refine PCall.lend (c_eqProg0 x hx1) hL rfl ?_
 clear hL
 try simp [s4, s10]
 (repeat refine sqA ?_); refine AWp.condF (by simp) ?_
 refine AWp.skip ?_
 try simp

 (repeat refine sqA ?_); refine rgA (by kernel_rfl) ?_
 simp
 (repeat refine sqA ?_); refine rgA (by kernel_rfl) ?_
 simp [s5, s7, sm, w5]
 obtain ⟨_, hL⟩ : ∃ F : Nat → Prop, Lent m8 F [.agg [c0, c1'], .int .i64 1] [x2.av, .int .i64 1] := ((Lent.nil m8).same _).own hown
 refine aop_wcall _ _ _ _ _ _ _ _ rfl (eval_func _ _) ?_
 try simp [sm]
 refine PCall.lend (hd_Prog' x2 1 _ (by omega) (by unfold BIG; omega) hheld) hL rfl ?_
 clear hL
 try simp
 (repeat refine sqA ?_); refine rgA (by kernel_rfl) ?_
 simp
 (repeat refine sqA ?_); refine AWp.condF (by simp; omega) ?_
 refine AWp.skip ?_
 try simp
 (repeat refine sqA ?_); refine rgA (by kernel_rfl) ?_
 simp [s7]
 (repeat refine sqA ?_); refine AWp.condF (by simp) ?_
 refine AWp.skip ?_
 try simp

 (repeat refine sqA ?_); refine rgA (by kernel_rfl) ?_
 simp
 exact AWp.ret (post_retW rfl ⟨_, _, View.refl _ _, by simp, by simpa [sm] using hm8⟩)
end Go.T
