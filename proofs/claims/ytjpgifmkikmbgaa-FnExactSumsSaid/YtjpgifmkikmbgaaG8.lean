/- Statements and expressions marked. What holds the marks of machines; programs and machines marked. Rows of names: compared, marked, held. What a function is told of, statement by statement, expression by expression, for any function that is told. How often a name is set and asked: what the program computes. Kinds of words in loops: what the program computes. -/
import Derived.Test.YtjpgifmkikmbgaaG7
import Derived.Test.YtjpgifmkikmbgaaG3
import Derived.Test.YtjpgifmkikmbgaaG4
import Derived.Test.YtjpgifmkikmbgaaG6
import Derived.Test.YtjpgifmkikmbgaaG5
namespace Go.T
open Go Go.Proofs
set_option maxRecDepth 10000
set_option linter.unusedSimpArgs false
set_option linter.unusedVariables false
theorem mk_Exp (e : Ex) : MarkC Try.prog 67 Ex.av (fun x k k' => Held (x.l.map Ex.av) k k') e (AV.cnts (e.l.map Ex.av)) := by
  intro m F v h k h0 hb K hK
  unfold BIG at hb
  obtain ⟨G, hG, hGF, hGd⟩ := h.dom
  rcases e with ⟨ek, en, es, el⟩
  simp only [Ex.l] at hb hK
  rw [Ex.av_mk] at hG
  obtain ⟨cs, rfl, hT, hok⟩ := own_agg hG
  obtain ⟨a0, a1, a2, a3, rfl⟩ : ∃ a0 a1 a2 a3, cs = [a0, a1, a2, a3] := by
    match cs, hT.len with
    | [a0, a1, a2, a3], _ => exact ⟨_, _, _, _, rfl⟩
  have hok2 := hok
  simp only [List.all_cons, List.all_nil, Bool.and_eq_true, Bool.and_true] at hok2
  refine wcall_of Try.func67 (by kernel_rfl) rfl (by simp [Try.f67]) ?_
  (repeat refine AWp.seq ?_); refine AWp.region noP (by kernel_rfl) ?_
  simp
  intro g1 h1
  have f1 : ¬ G g1 := fun hg => hGd g1 hg h1
  have b1 := set_same m g1 (.box [a0, a1, a2, a3])
  have o1 : ∀ b x, m b = some x → (m.set g1 (.box [a0, a1, a2, a3])) b = some x := fun b x hx => ext_set h1 _ b x hx
  replace hT := hT.mem (m' := m.set g1 (.box [a0, a1, a2, a3])) fun b hb => by rw [set_at, if_neg]; rintro rfl; exact f1 hb
  generalize m.set g1 (.box [a0, a1, a2, a3]) = m0 at *
  obtain ⟨A, x, hxo, hown, hsub, hupd⟩ := hT.call (o := 3) (by simp)
  obtain rfl := (Option.some.inj hxo)
  simp only [List.getElem_cons_succ, List.getElem_cons_zero] at hown hupd
  (repeat refine AWp.seq ?_); refine AWp.region noP (by kernel_rfl) ?_
  simp [b1]
  refine aop_wcall _ _ _ _ _ _ _ _ rfl (eval_func _ _) ?_
  refine (c_markExpS el) _ _ _ _ hown k (by omega) (by omega) _ fun m1 l' hout ho hh => ?_
  simp
  have hT := hupd m1 _ hout ho
  simp only [List.set_cons_zero, List.set_cons_succ] at hT
  (repeat refine AWp.seq ?_); refine AWp.region noP (by kernel_rfl) ?_
  simp
  refine AWp.ret (post_retW rfl ⟨_, _, View.refl _ _, ?_⟩)
  simp
  refine hK _ (Ex.mk ek en es l') (fun b x hF hx => ?_) (by rw [Ex.av_mk]; exact (OwnT.agg hT hok).up hGF) hh
  rw [hout b (fun hg => hF (hGF b (hsub b hg)))]
  exact o1 b x hx
def Sm.HeldP (x : Sm) (k k' : Int) : Prop := ∃ k1 k2 k3 k4, Held (x.a.l.map Ex.av) k k1 ∧ Held (x.e.l.map Ex.av) k1 k2 ∧ Held (x.lo.l.map Ex.av) k2 k3 ∧ Held (x.hi.l.map Ex.av) k3 k4 ∧ Held (x.body.map Sm.av) k4 k'
def Sm.cntP (x : Sm) : Nat := AV.cnts (x.a.l.map Ex.av) + (AV.cnts (x.e.l.map Ex.av) + (AV.cnts (x.lo.l.map Ex.av) + (AV.cnts (x.hi.l.map Ex.av) + AV.cnts (x.body.map Sm.av))))
set_option maxHeartbeats 2000000 in
theorem mk_Stmt (s : Sm) : MarkC Try.prog 25 Sm.av Sm.HeldP s s.cntP := by
  intro m F v h k h0 hb K hK
  unfold BIG Sm.cntP at hb
  unfold Sm.cntP at hK
  obtain ⟨G, hG, hGF, hGd⟩ := h.dom
  rcases s with ⟨sk, ss, pa, pe, pl, ph, pb⟩
  unfold Sm.av at hG
  rw [Sm.cells_mk] at hG
  obtain ⟨cs, rfl, hT, hok⟩ := own_agg hG
  have hln := hT.len
  simp [Ex.cells_len] at hln
  obtain ⟨c0, c1, c2, c3, c4, c5, c6, c7, c8, c9, c10, c11, c12, c13, c14, c15, c16, c17, c18, rfl⟩ : ∃ c0 c1 c2 c3 c4 c5 c6 c7 c8 c9 c10 c11 c12 c13 c14 c15 c16 c17 c18, cs = [c0, c1, c2, c3, c4, c5, c6, c7, c8, c9, c10, c11, c12, c13, c14, c15, c16, c17, c18] := by
    match cs, hln with
    | [c0, c1, c2, c3, c4, c5, c6, c7, c8, c9, c10, c11, c12, c13, c14, c15, c16, c17, c18], _ => exact ⟨_, _, _, _, _, _, _, _, _, _, _, _, _, _, _, _, _, _, _, rfl⟩
  clear hln
  have hok2 := hok
  simp only [List.all_cons, List.all_nil, Bool.and_eq_true, Bool.and_true] at hok2
  simp only [Sm.a, Sm.e, Sm.lo, Sm.hi, Sm.body] at hb hK
  refine wcall_of Try.func25 (by kernel_rfl) rfl (by simp [Try.f25]) ?_
  (repeat refine AWp.seq ?_); refine AWp.region noP (by kernel_rfl) ?_
  simp
  intro g1 h1
  have f1 : ¬ G g1 := fun hg => hGd g1 hg h1
  have b1 := set_same m g1 (.box [c0, c1, c2, c3, c4, c5, c6, c7, c8, c9, c10, c11, c12, c13, c14, c15, c16, c17, c18])
  have o1 : ∀ b x, ¬ G b → m b = some x → (m.set g1 (.box [c0, c1, c2, c3, c4, c5, c6, c7, c8, c9, c10, c11, c12, c13, c14, c15, c16, c17, c18])) b = some x := fun b x _ hx => ext_set h1 _ b x hx
  replace hGd : ∀ g, G g → (m.set g1 (.box [c0, c1, c2, c3, c4, c5, c6, c7, c8, c9, c10, c11, c12, c13, c14, c15, c16, c17, c18])) g ≠ none := fun g hg => by rw [ext_at (ext_set h1 _) (hGd g hg)]; exact hGd g hg
  replace hT := hT.mem (m' := m.set g1 (.box [c0, c1, c2, c3, c4, c5, c6, c7, c8, c9, c10, c11, c12, c13, c14, c15, c16, c17, c18])) fun b hb => by rw [set_at, if_neg]; rintro rfl; exact f1 hb
  generalize m.set g1 (.box [c0, c1, c2, c3, c4, c5, c6, c7, c8, c9, c10, c11, c12, c13, c14, c15, c16, c17, c18]) = m0 at *
  have hT0 : OwnTs m0 G ([c0, c1] ++ ([c2, c3, c4, c5] ++ [c6, c7, c8, c9, c10, c11, c12, c13, c14, c15, c16, c17, c18])) (([.int .i64 sk, .str ss]) ++ (pa.cells ++ (pe.cells ++ (pl.cells ++ (ph.cells ++ ([.lst false 19 (pb.map Sm.av)])))))) := by simpa using hT
  clear hT
  obtain ⟨B0, hO0, hsub0, hupd0⟩ := hT0.part' (by simp [Ex.cells_len]) (by simp [Ex.cells_len]) (by simp [hok2])
  (repeat refine AWp.seq ?_); refine AWp.region noP (by kernel_rfl) ?_
  simp [b1]
  refine aop_wcall _ _ _ _ _ _ _ _ rfl (eval_func _ _) ?_
  refine mk_Exp pa _ _ _ hO0 (k) (by omega) (by unfold BIG; omega) _ fun m1 q0 hout0 ho0 hh0 => ?_
  simp
  obtain ⟨G1, hT, hs0, hGd0⟩ := (hupd0 m1 q0.cells hout0 ho0 hGd).dom
  have b1 := hout0 g1 _ (fun hg => f1 (hsub0 _ hg)) b1
  have f10 : ¬ G1 g1 := fun hg => f1 (hs0 _ hg)
  have hT1 : OwnTs m1 G1 ([c0, c1, c2, c3, c4, c5] ++ ([c6, c7, c8, c9] ++ [c10, c11, c12, c13, c14, c15, c16, c17, c18])) (([.int .i64 sk, .str ss] ++ q0.cells) ++ (pe.cells ++ (pl.cells ++ (ph.cells ++ ([.lst false 19 (pb.map Sm.av)]))))) := by simpa using hT
  clear hT
  obtain ⟨B1, hO1, hsub1, hupd1⟩ := hT1.part' (by simp [Ex.cells_len]) (by simp [Ex.cells_len]) (by simp [hok2])
  (repeat refine AWp.seq ?_); refine AWp.region noP (by kernel_rfl) ?_
  simp [b1]
  refine aop_wcall _ _ _ _ _ _ _ _ rfl (eval_func _ _) ?_
  refine mk_Exp pe _ _ _ hO1 (k + (AV.cnts (pa.l.map Ex.av) : Int)) (by omega) (by unfold BIG; omega) _ fun m2 q1 hout1 ho1 hh1 => ?_
  simp
  obtain ⟨G2, hT, hs1, hGd1⟩ := (hupd1 m2 q1.cells hout1 ho1 hGd0).dom
  have b1 := hout1 g1 _ (fun hg => f10 (hsub1 _ hg)) b1
  have f11 : ¬ G2 g1 := fun hg => f10 (hs1 _ hg)
  have hT2 : OwnTs m2 G2 ([c0, c1, c2, c3, c4, c5, c6, c7, c8, c9] ++ ([c10, c11, c12, c13] ++ [c14, c15, c16, c17, c18])) (([.int .i64 sk, .str ss] ++ q0.cells ++ q1.cells) ++ (pl.cells ++ (ph.cells ++ ([.lst false 19 (pb.map Sm.av)])))) := by simpa using hT
  clear hT
  obtain ⟨B2, hO2, hsub2, hupd2⟩ := hT2.part' (by simp [Ex.cells_len]) (by simp [Ex.cells_len]) (by simp [hok2])
  (repeat refine AWp.seq ?_); refine AWp.region noP (by kernel_rfl) ?_
  simp [b1]
  refine aop_wcall _ _ _ _ _ _ _ _ rfl (eval_func _ _) ?_
  refine mk_Exp pl _ _ _ hO2 (k + (AV.cnts (pa.l.map Ex.av) : Int) + (AV.cnts (pe.l.map Ex.av) : Int)) (by omega) (by unfold BIG; omega) _ fun m3 q2 hout2 ho2 hh2 => ?_
  simp
  obtain ⟨G3, hT, hs2, hGd2⟩ := (hupd2 m3 q2.cells hout2 ho2 hGd1).dom
  have b1 := hout2 g1 _ (fun hg => f11 (hsub2 _ hg)) b1
  have f12 : ¬ G3 g1 := fun hg => f11 (hs2 _ hg)
  have hT3 : OwnTs m3 G3 ([c0, c1, c2, c3, c4, c5, c6, c7, c8, c9, c10, c11, c12, c13] ++ ([c14, c15, c16, c17] ++ [c18])) (([.int .i64 sk, .str ss] ++ q0.cells ++ q1.cells ++ q2.cells) ++ (ph.cells ++ ([.lst false 19 (pb.map Sm.av)]))) := by simpa using hT
  clear hT
  obtain ⟨B3, hO3, hsub3, hupd3⟩ := hT3.part' (by simp [Ex.cells_len]) (by simp [Ex.cells_len]) (by simp [hok2])
  (repeat refine AWp.seq ?_); refine AWp.region noP (by kernel_rfl) ?_
  simp [b1]
  refine aop_wcall _ _ _ _ _ _ _ _ rfl (eval_func _ _) ?_
  refine mk_Exp ph _ _ _ hO3 (k + (AV.cnts (pa.l.map Ex.av) : Int) + (AV.cnts (pe.l.map Ex.av) : Int) + (AV.cnts (pl.l.map Ex.av) : Int)) (by omega) (by unfold BIG; omega) _ fun m4 q3 hout3 ho3 hh3 => ?_
  simp
  obtain ⟨G4, hT, hs3, hGd3⟩ := (hupd3 m4 q3.cells hout3 ho3 hGd2).dom
  have b1 := hout3 g1 _ (fun hg => f12 (hsub3 _ hg)) b1
  have f13 : ¬ G4 g1 := fun hg => f12 (hs3 _ hg)
  have hT4 : OwnTs m4 G4 [c0, c1, c2, c3, c4, c5, c6, c7, c8, c9, c10, c11, c12, c13, c14, c15, c16, c17, c18] ([.int .i64 sk, .str ss] ++ (q0.cells ++ (q1.cells ++ (q2.cells ++ (q3.cells ++ [.lst false 19 (pb.map Sm.av)]))))) := by simpa using hT
  clear hT
  obtain ⟨A, x, hxo, hown, hsub4, hupd4⟩ := hT4.call (o := 18) (by simp)
  have hx18 : ([AV.int .i64 sk, AV.str ss] ++ (q0.cells ++ (q1.cells ++ (q2.cells ++ (q3.cells ++ [AV.lst false 19 (pb.map Sm.av)])))))[18]? = some (.lst false 19 (pb.map Sm.av)) := by
    rw [List.getElem?_append_right (by simp), List.getElem?_append_right (by simp), List.getElem?_append_right (by simp), List.getElem?_append_right (by simp), List.getElem?_append_right (by simp)]
    simp
  rw [hx18] at hxo
  obtain rfl := (Option.some.inj hxo)
  simp only [List.getElem_cons_succ, List.getElem_cons_zero] at hown hupd4
  (repeat refine AWp.seq ?_); refine AWp.region noP (by kernel_rfl) ?_
  simp [b1]
  refine aop_wcall _ _ _ _ _ _ _ _ rfl (eval_func _ _) ?_
  refine (c_markStmtS pb) _ _ _ _ hown (k + (AV.cnts (pa.l.map Ex.av) : Int) + (AV.cnts (pe.l.map Ex.av) : Int) + (AV.cnts (pl.l.map Ex.av) : Int) + (AV.cnts (ph.l.map Ex.av) : Int)) (by omega) (by omega) _ fun m5 l' hout4 ho4 hh4 => ?_
  simp
  have hT := hupd4 m5 _ hout4 ho4
  have hset : ([AV.int .i64 sk, AV.str ss] ++ (q0.cells ++ (q1.cells ++ (q2.cells ++ (q3.cells ++ [AV.lst false 19 (pb.map Sm.av)]))))).set 18 (.lst false 19 (l'.map Sm.av)) = [.int .i64 sk, .str ss] ++ (q0.cells ++ (q1.cells ++ (q2.cells ++ (q3.cells ++ [.lst false 19 (l'.map Sm.av)])))) := by
    rw [List.set_append_right _ _ (by simp), List.set_append_right _ _ (by simp), List.set_append_right _ _ (by simp), List.set_append_right _ _ (by simp), List.set_append_right _ _ (by simp)]
    simp
  rw [hset] at hT
  (repeat refine AWp.seq ?_); refine AWp.region noP (by kernel_rfl) ?_
  simp
  refine AWp.ret (post_retW rfl ⟨_, _, View.refl _ _, ?_⟩)
  simp
  have hav : (Sm.mk sk ss q0 q1 q2 q3 l').av = .agg ([.int .i64 sk, .str ss] ++ (q0.cells ++ (q1.cells ++ (q2.cells ++ (q3.cells ++ [.lst false 19 (l'.map Sm.av)]))))) := by
    unfold Sm.av; rw [Sm.cells_mk]; rfl
  have hsum : ∀ a b c d e : Int, k + (a + (b + (c + (d + e)))) = k + a + b + c + d + e := by omega
  have hK2 := hK m5 (Sm.mk sk ss q0 q1 q2 q3 l') (fun b x hF hx => ?_) (by rw [hav]; exact (OwnT.agg hT hok).up fun g hg => hGF g (hs0 g (hs1 g (hs2 g (hs3 g hg))))) ⟨_, _, _, _, hh0, hh1, hh2, hh3, ?_⟩
  · simpa [Int.add_assoc] using hK2
  · have n0 : ¬ G b := fun hg => hF (hGF b hg)
    rw [hout4 b (fun hg => n0 (hs0 b (hs1 b (hs2 b (hs3 b (hsub4 b hg)))))) ]
    exact hout3 b x (fun hg => n0 (hs0 b (hs1 b (hs2 b (hsub3 b hg))))) (hout2 b x (fun hg => n0 (hs0 b (hs1 b (hsub2 b hg)))) (hout1 b x (fun hg => n0 (hs0 b (hsub1 b hg))) (hout0 b x (fun hg => n0 (hsub0 b hg)) (o1 b x n0 hx))))
  · simpa [Int.add_assoc, Sm.body] using hh4
end Go.T
namespace Go.T
open Go Go.Proofs
set_option maxRecDepth 10000
set_option linter.unusedSimpArgs false
set_option linter.unusedVariables false
end Go.T
namespace Go.T
open Go Go.Proofs
set_option maxRecDepth 10000
set_option linter.unusedSimpArgs false
set_option linter.unusedVariables false
/-- What marking rows of these comes to. -/
def MkString (l : List ByteArray) : Prop := ∀ (m : Mem) (F : Nat → Prop) (v : AV) (f : Bool) (h : OwnT m F v (.lst f 1 (l.map AV.str))) (k : Int) (h0 : 0 < k) (hb : k + (AV.cnts (l.map AV.str) : Int) ≤ 4611686018427387904) (K : AV → Mem → Prop)
    (hK : ∀ m' (l' : List ByteArray), (∀ b, ¬ F b → m' b = m b) → OwnT m' F v (.lst false 1 (l'.map AV.str)) → Held (l'.map AV.str) k (k + (AV.cnts (l.map AV.str) : Int)) → K (.int .i64 (k + (AV.cnts (l.map AV.str) : Int))) m'), WCall Try.prog 26 [v, .int .i64 k] m K
theorem c_markStringS (l : List ByteArray) : MkString l := by
  intro m F v f h k h0 hb K hK
  refine wcall_of Try.func26 (by kernel_rfl) rfl (by simp [Try.f26]) ?_
  rcases own_row h with ⟨f', e', rfl, hnil⟩ | ⟨g, n, c, rfl, hn, rfl⟩
  · have hl : l = [] := by simpa using hnil
    subst hl
    (repeat refine AWp.seq ?_); refine AWp.region noP (by kernel_rfl) ?_
    try simp
    (repeat refine AWp.seq ?_); refine AWp.region noP (by kernel_rfl) ?_
    try simp
    (repeat refine AWp.seq ?_); refine AWp.block (AWp.rounds (fun q st => q = 0 ∧ st.slots 0 = .lst f' e' [] ∧ st.slots 1 = .int .i64 k ∧ st.slots 5 = .int .i64 0 ∧ st.mem = m) 0 ⟨rfl, by simp, by simp, by simp, by simp⟩ ?_)
    rintro R q st hR ⟨rfl, s0, s1, s5, sm⟩
    (repeat refine AWp.seq ?_); refine AWp.region noP (by kernel_rfl) ?_
    simp [s0, s5]
    (repeat refine AWp.seq ?_); refine AWp.condF (by simp) ?_
    refine AWp.exit ?_
    try simp
    (repeat refine AWp.seq ?_); refine AWp.region noP (by kernel_rfl) ?_
    simp [s1]
    refine AWp.ret (post_retW rfl ⟨_, _, View.refl _ _, ?_⟩)
    have := hK m [] (fun _ _ => rfl) (.nil _ _ _) (by simpa [AV.cnts] using Held.nil k)
    simpa [AV.cnts, sm] using this
  obtain ⟨T, G, ys, hM, hy, hx⟩ := Marking.start h
  have hlen : l.length = n := by simpa using hx
  have hcl := cnts_len (f := AV.str) (fun x => by simp [AV.cnt]) l
  (repeat refine AWp.seq ?_); refine AWp.region noP (by kernel_rfl) ?_
  try simp
  (repeat refine AWp.seq ?_); refine AWp.region noP (by kernel_rfl) ?_
  try simp
  (repeat refine AWp.seq ?_); refine AWp.block (AWp.rounds (fun q st => ∃ (i : Nat) (ys : List AV) (ki : Int) (done : List ByteArray), q = n - i ∧ i ≤ n ∧ done.length = i ∧ ys.length = n ∧ st.slots 0 = .own g n c ∧ st.slots 1 = .int .i64 ki ∧ st.slots 5 = .int .i64 i ∧ Held (done.map AV.str) k ki ∧ k ≤ ki ∧ ki + (AV.cnts ((l.drop i).map AV.str) : Int) = k + (AV.cnts (l.map AV.str) : Int) ∧ Marking st.mem m F g T 1 c G ys ((done ++ l.drop i).map AV.str)) n ⟨0, ys, k, [], by simp, by simp, rfl, hy, by simp, by simp, by simp, .nil k, by omega, by simp, by simpa using hM⟩ ?_)
  clear hM hy ys
  rintro R q st hR ⟨i, ys, ki, done, rfl, hi, hdl, hy, s0, s1, s5, hH, hki, hcnt, hM⟩
  (repeat refine AWp.seq ?_); refine AWp.region noP (by kernel_rfl) ?_
  simp [s0, s5]
  (repeat refine AWp.seq ?_); refine AWp.cond (b := decide (i < n)) (by simp) (fun hlt => ?_) (fun hlt => ?_)
  rotate_left
  · simp at hlt
    have hin : i = n := by omega
    subst hin
    refine AWp.exit ?_
    try simp
    (repeat refine AWp.seq ?_); refine AWp.region noP (by kernel_rfl) ?_
    simp [s1]
    rw [List.drop_eq_nil_of_le (by omega)] at hcnt hM
    rw [List.append_nil] at hM
    have hke : ki = k + (AV.cnts (l.map AV.str) : Int) := by simpa [AV.cnts] using hcnt
    subst hke
    refine AWp.ret (post_retW rfl ⟨_, _, View.refl _ _, ?_⟩)
    simp
    exact hK _ done hM.out (hM.done hy) hH
  simp at hlt
  have hil : i < l.length := by omega
  have hdr : l.drop i = l[i] :: l.drop (i + 1) := List.drop_eq_getElem_cons hil
  have hmem := List.getElem_mem hil
  have hwi : IntKind.wrap .i64 ((i : Int) + 1) = (i + 1 : Nat) := wrap64 (by omega) (by omega)
  rw [hdr] at hcnt hM
  simp only [List.map_cons, AV.cnts, AV.cnt] at hcnt
  refine AWp.skip ?_
  try simp
  (repeat refine AWp.seq ?_); refine AWp.block ?_
  have hg := hM.row
  have hx : idxA Try.prog st.mem 57 (.own g n c) (.int .i64 i) = some (.elt g 1 i 0) := idx_own es_57 hg hy hlt
  have hst : storeA st.mem (.elt g 1 i 0) (AV.str <| markT ki) = some _ := store_elt hg (by omega) rfl
  have hM2 := hM.leaf (i := i) (x := AV.str <| markT ki) (own_str _)
  rw [set_done AV.str done _ (markT ki) _ hdl] at hM2
  (repeat refine AWp.seq ?_); refine AWp.region noP (by kernel_rfl) ?_
  simp [s1]
  refine aop_call' (c_markText ki (by omega) (by omega)) ?_
  simp [s0, s1, s5, hx, hst]
  have hw : IntKind.wrap .i64 (ki + 1) = ki + 1 := wrap64 (by omega) (by omega)
  (repeat refine AWp.seq ?_); refine AWp.region noP (by kernel_rfl) ?_
  simp [s1, hw]
  (repeat refine AWp.seq ?_); refine AWp.region noP (by kernel_rfl) ?_
  simp [s5, hwi]
  refine hR _ (n - (i + 1)) (by omega) ⟨i + 1, _, ki + 1, done ++ [(markT ki)], rfl, by omega, by simp [hdl], ?_, by simp [s0], by simp, by simp, ?_, by omega, by omega, by simpa using hM2⟩
  · simp [hy]
  · rw [List.map_append]
    exact hH.append (.str (.nil _))
theorem c_heldStringS (l : List ByteArray) (k k' : Int) (h0 : 0 < k) (hb : k' ≤ 4611686018427387904) (h : Held (l.map AV.str) k k') : PCall Try.prog 27 [.lst false 1 (l.map AV.str), .int .i64 k] (.int .i64 k') := by
  refine pcall_of Try.func27 (by kernel_rfl) rfl (by simp [Try.f27]) ?_
  have hcl := cnts_len (f := AV.str) (fun x => by simp [AV.cnt]) l
  have hct := h.count
  (repeat refine AWp.seq ?_); refine AWp.region noP (by kernel_rfl) ?_
  try simp
  (repeat refine AWp.seq ?_); refine AWp.region noP (by kernel_rfl) ?_
  try simp
  (repeat refine AWp.seq ?_); refine AWp.block (AWp.rounds (fun q st => ∃ (i : Nat) (ki : Int), q = l.length - i ∧ i ≤ l.length ∧ k ≤ ki ∧ Held ((l.drop i).map AV.str) ki k' ∧ st.slots 0 = .lst false 1 (l.map AV.str) ∧ st.slots 1 = .int .i64 ki ∧ st.slots 5 = .int .i64 i) l.length ⟨0, k, by simp, by simp, by omega, by simpa using h, by simp, by simp, by simp⟩ ?_)
  rintro R q st hR ⟨i, ki, rfl, hi, hki, hH, s0, s1, s5⟩
  (repeat refine AWp.seq ?_); refine AWp.region noP (by kernel_rfl) ?_
  simp [s0, s5]
  (repeat refine AWp.seq ?_); refine AWp.cond (b := decide (i < l.length)) (by simp) (fun hlt => ?_) (fun hlt => ?_)
  rotate_left
  · simp at hlt
    rw [List.drop_eq_nil_of_le hlt] at hH
    have hke := Held.nil_inv hH
    subst hke
    refine AWp.exit ?_
    try simp
    (repeat refine AWp.seq ?_); refine AWp.region noP (by kernel_rfl) ?_
    simp [s1]
    exact AWp.ret (post_ret1 rfl (by simp))
  simp at hlt
  have hdr : l.drop i = l[i] :: l.drop (i + 1) := List.drop_eq_getElem_cons hlt
  have hmem := List.getElem_mem hlt
  have hwi : IntKind.wrap .i64 ((i : Int) + 1) = (i + 1 : Nat) := wrap64 (by omega) (by omega)
  rw [hdr, List.map_cons] at hH
  have hx : idxA Try.prog st.mem 57 (.lst false 1 (l.map AV.str)) (.int .i64 i) = some (.ref [AV.str l[i]]) := idx (y := AV.str l[i]) es_57 (by simp [hlt])
  have hH1 := hH
  refine AWp.skip ?_
  try simp
  (repeat refine AWp.seq ?_); refine AWp.block ?_
  obtain ⟨e0, hH1⟩ := hH1.str_inv
  have hle0 := hH1.le
  have hz2 := hH1
  (repeat refine AWp.seq ?_); refine AWp.region allP (by kernel_rfl) ?_
  simp [s0, s1, s5, hx, e0]
  refine aop_call' (c_markText (ki) (by omega) (by omega)) ?_
  simp [s0, s1, s5, hx, e0]
  (repeat refine AWp.seq ?_); refine AWp.condF (by simp) ?_
  refine AWp.skip ?_
  try simp
  have hw0 : IntKind.wrap .i64 (ki + 1) = ki + 1 := wrap64 (by omega) (by omega)
  (repeat refine AWp.seq ?_); refine AWp.region noP (by kernel_rfl) ?_
  simp [s0, s1, s5, hx, hw0]
  (repeat refine AWp.seq ?_); refine AWp.region noP (by kernel_rfl) ?_
  simp [s0, s1, s5, hx, hw0, hwi]
  exact hR _ (l.length - (i + 1)) (by omega) ⟨i + 1, ki + 1, rfl, hlt, by omega, hH1, by simp [s0], by simp [s0, s1, s5, hx, hw0], by simp⟩
theorem c_eqStringS_ (l : List ByteArray) (hl : l.length ≤ 1099511627776) : PCall Try.prog 23 [.lst false 1 (l.map AV.str), .lst false 1 (l.map AV.str)] (.bool true) := by
  refine pcall_of Try.func23 (by kernel_rfl) rfl (by simp [Try.f23]) ?_
  (repeat refine AWp.seq ?_); refine AWp.region noP (by kernel_rfl) ?_
  simp
  (repeat refine AWp.seq ?_); refine AWp.region noP (by kernel_rfl) ?_
  simp
  refine AWp.cond (b := false) (by simp) (fun h => by cases h) (fun _ => ?_)
  refine AWp.skip ?_
  simp
  (repeat refine AWp.seq ?_); refine AWp.region noP (by kernel_rfl) ?_
  simp
  (repeat refine AWp.seq ?_); refine AWp.block (AWp.rounds (fun m st => ∃ (i : Nat), m = l.length - i ∧ i ≤ l.length ∧ st.slots 0 = .lst false 1 (l.map AV.str) ∧ st.slots 1 = .lst false 1 (l.map AV.str) ∧ st.slots 5 = .int .i64 i) l.length ⟨0, by simp, by simp, by simp, by simp, by simp⟩ ?_)
  rintro R m st hR ⟨i, rfl, hi, s0, s1, s5⟩
  (repeat refine AWp.seq ?_); refine AWp.region noP (by kernel_rfl) ?_
  simp [s0, s5]
  refine AWp.cond (b := decide (i < l.length)) (by simp) (fun hb => ?_) (fun hb => ?_)
  · simp at hb
    have hq : l[i]? = some l[i] := List.getElem?_eq_getElem hb
    refine AWp.skip ?_
    simp
    (repeat refine AWp.seq ?_); refine AWp.block ?_; (repeat refine AWp.seq ?_); refine AWp.regionG (fun _ => true) (fun _ => false) [0, 1, 2, 3, 4, 5, 6, 7, 8] [0, 1, 2, 3, 4, 5, 6, 7, 8] (by kernel_rfl) ?_
    have hx1 : idxA Try.prog st.mem 57 (.lst false 1 (l.map AV.str)) (.int .i64 i) = some (.ref [AV.str l[i]]) := idx (y := AV.str l[i]) es_57 (by simp [hq])
    simp [s0, s1, s5, hx1]
    refine AWp.cond (b := false) (by simp) (fun h => by cases h) (fun _ => ?_)
    refine AWp.skip ?_
    simp
    (repeat refine AWp.seq ?_); refine AWp.region noP (by kernel_rfl) ?_
    have hw : IntKind.wrap .i64 ((i : Int) + 1) = (i + 1 : Nat) := wrap64 (by omega) (by omega)
    simp [s5, hw]
    exact hR _ (l.length - (i + 1)) (by omega) ⟨i + 1, rfl, hb, by simp [s0], by simp [s1], by simp⟩
  · simp at hb
    refine AWp.exit ?_
    simp
    (repeat refine AWp.seq ?_); refine AWp.region noP (by kernel_rfl) ?_
    simp
    exact AWp.ret (post_ret1 rfl (by simp))
theorem mk_StringS (l : List ByteArray) : MarkC Try.prog 26 strs (fun x k k' => Held (x.map AV.str) k k') l (AV.cnts (l.map AV.str)) := fun m F v h k h0 hb K hK =>
  c_markStringS l m F v false h k h0 hb K fun m' l' ho hO hH => hK m' l' (fun b y hb hy => by rw [ho b hb]; exact hy) hO hH
theorem hd_StringS : HeldC Try.prog 27 strs (fun x k k' => Held (x.map AV.str) k k') := fun x k k' h0 hb hH => c_heldStringS x k k' h0 hb hH
end Go.T
namespace Go.T
open Go Go.Proofs
set_option maxRecDepth 10000
set_option linter.unusedSimpArgs false
set_option linter.unusedVariables false
mutual
/-- Told of statements, those of Bodies behind theirs. -/
def Sm.fold {σ : Type} (f : σ → Sm → σ) : σ → Sm → σ
  | a, .mk k s p e lo hi b => Sm.folds f (f a (.mk k s p e lo hi b)) b
def Sm.folds {σ : Type} (f : σ → Sm → σ) : σ → List Sm → σ
  | a, [] => a
  | a, x :: l => Sm.folds f (Sm.fold f a x) l
end
mutual
/-- Told of expressions, the outer one behind its parts. -/
def Ex.fold {σ : Type} (f : σ → Ex → σ) : σ → Ex → σ
  | a, .mk k n s l => f (Ex.folds f a l) (.mk k n s l)
def Ex.folds {σ : Type} (f : σ → Ex → σ) : σ → List Ex → σ
  | a, [] => a
  | a, x :: l => Ex.folds f (Ex.fold f a x) l
end
theorem Sm.fold_eq {σ : Type} (f : σ → Sm → σ) (a : σ) (x : Sm) : Sm.fold f a x = Sm.folds f (f a x) x.body := by cases x; rfl
theorem Ex.fold_eq {σ : Type} (f : σ → Ex → σ) (a : σ) (x : Ex) : Ex.fold f a x = f (Ex.folds f a x.l) x := by cases x; rfl
/-- What is asked of what is told. -/
structure Told (σ X : Type) (P : Program) (av : X → AV) (tot : X → Nat) (n : FuncId) (caps : List AV) where
  Inv : σ → Mem → Prop
  F : Nat → Prop
  f : σ → X → σ
  Lim : σ → Prop
  dom : ∀ a m g, Inv a m → F g → m g ≠ none
  fresh : ∀ a m g b, Inv a m → m g = none → Inv a (m.set g b)
  lim : ∀ a x, Lim (f a x) → Lim a
  step : ∀ x, tot x ≤ 1048576 → ∀ a m, Inv a m → Lim (f a x) → ∀ K : AV → Mem → Prop, (∀ m', Inv (f a x) m' → Upd F m m' → K (.tup []) m') → WCall P n (av x :: caps) m K
mutual
theorem Sm.fold_lim {σ : Type} {f : σ → Sm → σ} {L : σ → Prop} (h : ∀ a x, L (f a x) → L a) : ∀ (a : σ) (x : Sm), L (Sm.fold f a x) → L a
  | a, .mk k s p e lo hi b => fun hl => h a _ (Sm.folds_lim h _ b hl)
theorem Sm.folds_lim {σ : Type} {f : σ → Sm → σ} {L : σ → Prop} (h : ∀ a x, L (f a x) → L a) : ∀ (a : σ) (l : List Sm), L (Sm.folds f a l) → L a
  | a, [] => fun hl => hl
  | a, x :: l => fun hl => Sm.fold_lim h a x (Sm.folds_lim h _ l hl)
end
mutual
theorem Ex.fold_lim {σ : Type} {f : σ → Ex → σ} {L : σ → Prop} (h : ∀ a x, L (f a x) → L a) : ∀ (a : σ) (x : Ex), L (Ex.fold f a x) → L a
  | a, .mk k n s l => fun hl => Ex.folds_lim h a l (h _ _ hl)
theorem Ex.folds_lim {σ : Type} {f : σ → Ex → σ} {L : σ → Prop} (h : ∀ a x, L (f a x) → L a) : ∀ (a : σ) (l : List Ex), L (Ex.folds f a l) → L a
  | a, [] => fun hl => hl
  | a, x :: l => fun hl => Ex.fold_lim h a x (Ex.folds_lim h _ l hl)
end
theorem c_eachStmtI0 {σ : Type} {n : FuncId} {caps : List AV} (T : Told σ Sm Try.prog Sm.av Sm.tot n caps) (l : List Sm) (ht : totL Sm.tot l ≤ 1048576)
    (h : ∀ x ∈ l, ∀ (a : σ) (m : Mem), T.Inv a m → T.Lim (Sm.folds T.f a x.body) → ∀ K : AV → Mem → Prop, (∀ m', T.Inv (Sm.folds T.f a x.body) m' → Upd T.F m m' → K (.tup []) m') → WCall Try.prog 125 [.lst false 19 (x.body.map Sm.av), .func (.func n) caps] m K)
    (a : σ) (m : Mem) (hI : T.Inv a m) (hL : T.Lim (Sm.folds T.f a l)) (K : AV → Mem → Prop) (hK : ∀ m', T.Inv (Sm.folds T.f a l) m' → Upd T.F m m' → K (.tup []) m') :
    WCall Try.prog 125 [.lst false 19 (l.map Sm.av), .func (.func n) caps] m K := by
  have hlen := totL_len Sm.tot l
  refine wcall_of Try.func125 (by kernel_rfl) rfl (by simp [Try.f125]) ?_
  (repeat refine AWp.seq ?_); refine AWp.region noP (by kernel_rfl) ?_
  simp
  (repeat refine AWp.seq ?_); refine AWp.block (AWp.rounds (fun q st => ∃ (i : Nat) (b : σ), q = l.length - i ∧ i ≤ l.length ∧ st.slots 6 = .lst false 19 (l.map Sm.av) ∧ st.slots 7 = .int .i64 l.length ∧ st.slots 8 = .int .i64 i ∧ st.slots 1 = .func (.func n) caps ∧ T.Inv b st.mem ∧ Sm.folds T.f a l = Sm.folds T.f b (l.drop i) ∧ Upd T.F m st.mem) (l.length) ⟨0, a, by simp, by simp, by first | (simp; done) | (simp [*]; done), by first | (simp; done) | (simp [*]; done), by first | (simp; done) | (simp [*]; done), by first | (simp; done) | (simp [*]; done), by simpa using hI, by simp, by simpa using Upd.refl _ _⟩ ?_)
  rintro R q st hR ⟨i, b, rfl, hi, s6, s7, s8, s1, hI, hr, hU⟩
  (repeat refine AWp.seq ?_); refine AWp.region noP (by kernel_rfl) ?_
  simp [s6, s7, s8]
  (repeat refine AWp.seq ?_); refine AWp.cond (b := decide (i < l.length)) (by simp) (fun hb => ?_) (fun hb => ?_)
  · simp at hb
    have hg : l[i]? = some l[i] := List.getElem?_eq_getElem hb
    have hdr : l.drop i = l[i] :: l.drop (i + 1) := List.drop_eq_getElem_cons hb
    have htm := totL_mem Sm.tot (List.getElem_mem hb)
    have hx : ∀ m, idxA Try.prog m 62 (.lst false 19 (l.map Sm.av)) (.int .i64 i) = some (.ref l[i].cells) := fun m => idx (y := l[i].av) es_62 (by simp [hg])
    have hw : IntKind.wrap .i64 ((i : Int) + 1) = (i + 1 : Nat) := wrap64 (by omega) (by omega)
    have htb := l[i].tot_body
    rw [hdr, Sm.folds, Sm.fold_eq] at hr
    have hL2 := hL
    rw [hr] at hL2
    have hL3 := Sm.folds_lim T.lim _ _ hL2
    have hL4 := Sm.folds_lim T.lim _ _ hL3
    refine AWp.skip ?_
    try simp
    (repeat refine AWp.seq ?_); refine AWp.block ?_; (repeat refine AWp.seq ?_); refine AWp.region noP (by kernel_rfl) ?_
    simp [s6, s8, hx]
    intro g hgf
    try simp [set_at, set_set]
    have hI1 := T.fresh _ _ g (.box l[i].cells) hI hgf
    have hnF : ¬ T.F g := fun hF => T.dom _ _ g hI hF hgf
    have hU1 : Upd T.F m (st.mem.set g (.box l[i].cells)) := hU.trans (Upd.set hgf _)
    have hgg : (st.mem.set g (.box l[i].cells)) g = some (.box l[i].cells) := set_same _ _ _
    generalize st.mem.set g (.box l[i].cells) = m1 at *
    (repeat refine AWp.seq ?_); refine AWp.region noP (by kernel_rfl) ?_
    simp [s1, hgg]
    refine aop_wcall _ _ _ _ _ _ _ _ rfl (n := n) (caps := caps) (by simp [s1]) ?_
    try simp [hgg]
    refine T.step l[i] (by omega) _ _ hI1 hL4 _ fun m2 hI2 hU2 => ?_
    have hg2 := hU2 g _ hnF hgg
    try simp
    (repeat refine AWp.seq ?_); refine AWp.region noP (by kernel_rfl) ?_
    simp [s1, hg2]
    refine aop_wcall _ _ _ _ _ _ _ _ rfl (eval_func _ _) ?_
    refine h l[i] (List.getElem_mem _) _ _ hI2 hL3 _ fun m3 hI3 hU3 => ?_
    try simp
    (repeat refine AWp.seq ?_); refine AWp.region noP (by kernel_rfl) ?_
    simp [s8, hw]
    refine hR _ (l.length - (i + 1)) (by omega) ⟨i + 1, _, rfl, by omega, by first | (simp [s6]; done) | (simp [*]; done), by first | (simp [s7]; done) | (simp [*]; done), by first | (simp [s8]; done) | (simp [*]; done), by first | (simp [s1]; done) | (simp [*]; done), by simpa using hI3, hr, by simpa using (hU1.trans hU2).trans hU3⟩
  · simp at hb
    refine AWp.exit ?_
    have : i = l.length := by omega
    subst this
    simp [Sm.folds] at hr
    try simp
    exact post_nrm0 rfl (hK _ (by rw [hr]; exact hI) hU)
theorem c_eachStmtI {σ : Type} {n : FuncId} {caps : List AV} (T : Told σ Sm Try.prog Sm.av Sm.tot n caps) (l : List Sm) (ht : totL Sm.tot l ≤ 1048576)
    (a : σ) (m : Mem) (hI : T.Inv a m) (hL : T.Lim (Sm.folds T.f a l)) (K : AV → Mem → Prop) (hK : ∀ m', T.Inv (Sm.folds T.f a l) m' → Upd T.F m m' → K (.tup []) m') :
    WCall Try.prog 125 [.lst false 19 (l.map Sm.av), .func (.func n) caps] m K := by
  have key : ∀ e : Sm, e.tot ≤ 1048576 → ∀ (a : σ) (m : Mem), T.Inv a m → T.Lim (Sm.folds T.f a e.body) → ∀ K : AV → Mem → Prop, (∀ m', T.Inv (Sm.folds T.f a e.body) m' → Upd T.F m m' → K (.tup []) m') → WCall Try.prog 125 [.lst false 19 (e.body.map Sm.av), .func (.func n) caps] m K := by
    intro e
    induction e using Sm.ind' with | h e h =>
    intro ht
    have := e.tot_body
    exact c_eachStmtI0 T e.body (by omega) (fun x hx => h x hx (by have := totL_mem Sm.tot hx; omega))
  exact c_eachStmtI0 T l ht (fun x hx => key x (by have := totL_mem Sm.tot hx; omega)) a m hI hL K hK
theorem c_eachExpI {σ : Type} {n : FuncId} {caps : List AV} (T : Told σ Ex Try.prog Ex.av Ex.tot n caps) (e : Ex) : e.tot ≤ 1048576 → 
    ∀ (a : σ) (m : Mem), T.Inv a m → T.Lim (Ex.fold T.f a e) → ∀ K : AV → Mem → Prop, (∀ m', T.Inv (Ex.fold T.f a e) m' → Upd T.F m m' → K (.tup []) m') →
    WCall Try.prog 135 [e.av, .func (.func n) caps] m K := by
  induction e using Ex.ind' with | h e ih =>
  intro ht a m hI hL K hK
  have htl := e.tot_l
  have hlen := e.len_l
  rw [Ex.fold_eq] at hL hK
  have hL1 := T.lim _ _ hL
  refine wcall_of Try.func135 (by kernel_rfl) rfl (by simp [Try.f135]) ?_
  unfold Ex.av
  (repeat refine AWp.seq ?_); refine AWp.region noP (by kernel_rfl) ?_
  try simp
  intro g0 hg0
  have hI1 := T.fresh _ _ g0 (.box e.cells) hI hg0
  have hnF0 : ¬ T.F g0 := fun hF => T.dom _ _ g0 hI hF hg0
  have hU0 : Upd T.F m (m.set g0 (.box e.cells)) := Upd.set hg0 _
  have hgg : (m.set g0 (.box e.cells)) g0 = some (.box e.cells) := set_same _ _ _
  generalize m.set g0 (.box e.cells) = m1 at *
  (repeat refine AWp.seq ?_); refine AWp.region noP (by kernel_rfl) ?_
  simp [hgg]
  (repeat refine AWp.seq ?_); refine AWp.cutA (fun st => st.slots 2 = .ptr g0 0 ∧ st.slots 1 = .func (.func n) caps ∧ T.Inv (Ex.folds T.f a e.l) st.mem ∧ Upd T.F m1 st.mem) ?_ ?_
  · refine AWp.block (AWp.rounds (fun q st => ∃ (i : Nat) (b : σ), q = e.l.length - i ∧ i ≤ e.l.length ∧ st.slots 2 = .ptr g0 0 ∧ st.slots 7 = .lst false 4 (e.l.map Ex.av) ∧ st.slots 8 = .int .i64 e.l.length ∧ st.slots 9 = .int .i64 i ∧ st.slots 1 = .func (.func n) caps ∧ T.Inv b st.mem ∧ Ex.folds T.f a e.l = Ex.folds T.f b (e.l.drop i) ∧ Upd T.F m1 st.mem) (e.l.length) ⟨0, a, by simp, by simp, by first | (simp; done) | (simp [*]; done), by first | (simp; done) | (simp [*]; done), by first | (simp; done) | (simp [*]; done), by first | (simp; done) | (simp [*]; done), by first | (simp; done) | (simp [*]; done), by simpa using hI1, by simp, by simpa using Upd.refl _ _⟩ ?_)
    rintro R q st hR ⟨i, b, rfl, hi, s2, s7, s8, s9, s1, hI, hr, hU⟩
    (repeat refine AWp.seq ?_); refine AWp.region noP (by kernel_rfl) ?_
    simp [s7, s8, s9]
    (repeat refine AWp.seq ?_); refine AWp.cond (b := decide (i < e.l.length)) (by simp) (fun hb => ?_) (fun hb => ?_)
    · simp at hb
      have hg : e.l[i]? = some e.l[i] := List.getElem?_eq_getElem hb
      have hdr : e.l.drop i = e.l[i] :: e.l.drop (i + 1) := List.drop_eq_getElem_cons hb
      have htm := totL_mem Ex.tot (List.getElem_mem hb)
      have hx : ∀ m, idxA Try.prog m 59 (.lst false 4 (e.l.map Ex.av)) (.int .i64 i) = some (.ref e.l[i].cells) := fun m => idx (y := e.l[i].av) es_59 (by simp [hg])
      have hw : IntKind.wrap .i64 ((i : Int) + 1) = (i + 1 : Nat) := wrap64 (by omega) (by omega)
      rw [hdr, Ex.folds] at hr
      have hL2 := hL1
      rw [hr] at hL2
      have hL3 := Ex.folds_lim T.lim _ _ hL2
      refine AWp.skip ?_
      try simp
      (repeat refine AWp.seq ?_); refine AWp.block ?_; (repeat refine AWp.seq ?_); refine AWp.region noP (by kernel_rfl) ?_
      simp [s7, s9, hx]
      intro g hgf
      try simp [set_at, set_set]
      have hI2 := T.fresh _ _ g (.box e.l[i].cells) hI hgf
      have hU2 : Upd T.F m1 (st.mem.set g (.box e.l[i].cells)) := hU.trans (Upd.set hgf _)
      have hgg : (st.mem.set g (.box e.l[i].cells)) g = some (.box e.l[i].cells) := set_same _ _ _
      generalize st.mem.set g (.box e.l[i].cells) = m2 at *
      (repeat refine AWp.seq ?_); refine AWp.region noP (by kernel_rfl) ?_
      simp [s1, hgg]
      refine aop_wcall _ _ _ _ _ _ _ _ rfl (eval_func _ _) ?_
      refine ih e.l[i] (List.getElem_mem _) (by omega) _ _ hI2 hL3 _ fun m3 hI3 hU3 => ?_
      try simp
      (repeat refine AWp.seq ?_); refine AWp.region noP (by kernel_rfl) ?_
      simp [s9, hw]
      refine hR _ (e.l.length - (i + 1)) (by omega) ⟨i + 1, _, rfl, by omega, by first | (simp [s2]; done) | (simp [*]; done), by first | (simp [s7]; done) | (simp [*]; done), by first | (simp [s8]; done) | (simp [*]; done), by first | (simp [s9]; done) | (simp [*]; done), by first | (simp [s1]; done) | (simp [*]; done), by simpa using hI3, hr, by simpa using hU2.trans hU3⟩
    · simp at hb
      refine AWp.exit ?_
      have : i = e.l.length := by omega
      subst this
      simp [Ex.folds] at hr
      simp [s2, s1, hr, hI, hU]
  clear hI1
  rintro st ⟨s2, s1, hI1, hU1⟩
  have hg2 := hU1 g0 _ hnF0 hgg
  (repeat refine AWp.seq ?_); refine AWp.region noP (by kernel_rfl) ?_
  simp [s2, s1, hg2]
  refine aop_wcall _ _ _ _ _ _ _ _ rfl (n := n) (caps := caps) (by simp [s1]) ?_
  try simp [hg2]
  refine T.step e ht _ _ hI1 hL _ fun m' hI' hU' => ?_
  try simp
  exact post_nrm0 rfl (hK _ hI' ((hU0.trans hU1).trans hU'))
end Go.T
namespace Go.T
open Go Go.Proofs
set_option maxRecDepth 10000
set_option linter.unusedSimpArgs false
set_option linter.unusedVariables false
theorem fold_asks (q : ByteArray) : ∀ (e : Ex) (a : Nat), Ex.fold (fun c x => c + (if x.k = 2 ∧ x.s = q then 1 else 0)) a e = a + e.asks q := by
  intro e
  induction e using Ex.ind' with | h e ih =>
  intro a
  have key : ∀ (l : List Ex), (∀ x ∈ l, ∀ a : Nat, Ex.fold (fun c x => c + (if x.k = 2 ∧ x.s = q then 1 else 0)) a x = a + x.asks q) → ∀ a : Nat, Ex.folds (fun c x => c + (if x.k = 2 ∧ x.s = q then 1 else 0)) a l = a + Ex.askss q l := by
    intro l
    induction l with
    | nil => intro _ a; rfl
    | cons x l ihl =>
      intro h a
      rw [Ex.folds, h x (List.mem_cons_self ..), ihl (fun y hy => h y (List.mem_cons_of_mem _ hy)), Ex.askss]; omega
  rw [Ex.fold_eq, key e.l ih, Ex.asks_eq]; omega
theorem c_asksOf1 (x : Ex) (q : ByteArray) {m : Mem} {gq gn : Nat} (c : Nat) (hq : m gq = some (.box [.str q])) (hn : m gn = some (.box [.int .i64 c])) (hne : gq ≠ gn) (hbd : c ≤ 1099511627776) {K : AV → Mem → Prop}
    (hK : ∀ m', m' gq = some (.box [.str q]) → m' gn = some (.box [.int .i64 (c + (if x.k = 2 ∧ x.s = q then 1 else 0) : Nat)]) → Upd (fun g => g = gn) m m' → K (.tup []) m') : WCall Try.prog 136 [x.av, .ptr gq 0, .ptr gn 0] m K := by
  refine wcall_of Try.func136 (by kernel_rfl) rfl (by simp [Try.f136]) ?_
  unfold Ex.av
  (repeat refine AWp.seq ?_); refine AWp.region noP (by kernel_rfl) ?_
  try simp
  intro g hg
  have hE := ext_set hg (.box x.cells)
  have hgg : (m.set g (.box x.cells)) g = some (.box x.cells) := set_same _ _ _
  have hq1 := hE gq _ hq
  have hn1 := hE gn _ hn
  generalize m.set g (.box x.cells) = m1 at *
  (repeat refine AWp.seq ?_); refine AWp.cutA (fun st => st.slots 1 = .ptr gq 0 ∧ st.slots 2 = .ptr gn 0 ∧ st.slots 12 = .bool (decide (x.k = 2 ∧ x.s = q)) ∧ st.mem = m1) ?_ ?_
  · refine AWp.region noP (by kernel_rfl) ?_
    by_cases hk : x.k = 2 <;> simp [hgg, hq1, hk]
  rintro st ⟨s1, s2, s12, rfl⟩
  (repeat refine AWp.seq ?_); refine AWp.cond (b := decide (x.k = 2 ∧ x.s = q)) (by simp [s12]) (fun hb => ?_) (fun hb => ?_)
  · simp only [decide_eq_true_eq] at hb
    have hw : IntKind.wrap .i64 ((c : Int) + 1) = ((c + 1 : Nat) : Int) := wrap64 (by omega) (by omega)
    (repeat refine AWp.seq ?_); refine AWp.region noP (by kernel_rfl) ?_
    simp [s2, hn1, hw]
    refine post_nrm0 rfl (hK _ ?_ ?_ ?_)
    · simp [set_at, hne, hq1]
    · simp [hb]
    · exact (Upd.ext hE).trans (Upd.put (F := fun g => g = gn) rfl _)
  · simp only [decide_eq_false_iff_not] at hb
    refine AWp.skip ?_
    try simp
    refine post_nrm0 rfl (hK _ hq1 ?_ (Upd.ext hE))
    simp [hn1, hb]
def asksT (q : ByteArray) (gq gn : Nat) (hne : gq ≠ gn) : Told Nat Ex Try.prog Ex.av Ex.tot 136 [.ptr gq 0, .ptr gn 0] where
  Inv c m := m gq = some (.box [.str q]) ∧ m gn = some (.box [.int .i64 (c : Nat)])
  F g := g = gn
  f c x := c + (if x.k = 2 ∧ x.s = q then 1 else 0)
  Lim c := c ≤ 1099511627776
  dom a m g h hg := by subst hg; rw [h.2]; simp
  fresh a m g b h hg := ⟨ext_set hg b _ _ h.1, ext_set hg b _ _ h.2⟩
  lim a x h := by omega
  step x ht a m h hl K hK := c_asksOf1 x q a h.1 h.2 hne (by omega) fun m' h1 h2 h3 => hK m' ⟨h1, h2⟩ h3
theorem c_asksOf (e : Ex) (q : ByteArray) (ht : e.tot ≤ 1048576) : PCall Try.prog 129 [e.av, .str q] (.int .i64 (e.asks q)) := by
  have hle := e.asks_le q
  refine pcall_of Try.func129 (by kernel_rfl) rfl (by simp [Try.f129]) ?_
  unfold Ex.av
  (repeat refine AWp.seq ?_); refine AWp.region noP (by kernel_rfl) ?_
  try simp
  intro g1 g2 h2
  have hne : g2 ≠ g1 := by rintro rfl; simp [set_at] at h2
  have e1 : ((Mem.set (fun _ => none) g1 (.box e.cells)).set g2 (.box [.str q])) g1 = some (.box e.cells) := by simp [set_at, hne.symm]
  have e2 : ((Mem.set (fun _ => none) g1 (.box e.cells)).set g2 (.box [.str q])) g2 = some (.box [.str q]) := set_same _ _ _
  generalize (Mem.set (fun _ => none) g1 (.box e.cells)).set g2 (.box [.str q]) = m1 at *
  (repeat refine AWp.seq ?_); refine AWp.region noP (by kernel_rfl) ?_
  try simp
  intro g3 h3
  have n2 : g2 ≠ g3 := by rintro rfl; rw [e2] at h3; cases h3
  have hE := ext_set h3 (.box [.int .i64 0])
  replace e1 := hE _ _ e1
  replace e2 := hE _ _ e2
  have e3 : (m1.set g3 (.box [.int .i64 0])) g3 = some (.box [.int .i64 0]) := set_same _ _ _
  try simp [e3]
  generalize m1.set g3 (.box [.int .i64 0]) = m2 at *
  (repeat refine AWp.seq ?_); refine AWp.region noP (by kernel_rfl) ?_
  simp [e1]
  refine aop_wcall _ _ _ _ _ _ _ _ rfl (eval_func _ _) ?_
  refine c_eachExpI (asksT q g2 g3 n2) e ht 0 _ ⟨e2, by simpa using e3⟩ (by show Ex.fold _ 0 e ≤ _; rw [show (asksT q g2 g3 n2).f = (fun c x => c + (if x.k = 2 ∧ x.s = q then 1 else 0)) from rfl, fold_asks]; omega) _ fun m' hI _ => ?_
  rw [show (asksT q g2 g3 n2).f = (fun c x => c + (if x.k = 2 ∧ x.s = q then 1 else 0)) from rfl, fold_asks, Nat.zero_add] at hI
  have h3 : m' g3 = some (.box [.int .i64 (e.asks q)]) := hI.2
  try simp
  (repeat refine AWp.seq ?_); refine AWp.region noP (by kernel_rfl) ?_
  simp [h3]
  exact AWp.ret (post_ret1 rfl (by simp))
theorem c_Counts1 (x : Sm) (q : ByteArray) (ht : x.tot ≤ 1048576) {m : Mem} {gq gs ga : Nat} (S0 A : Nat) (hq : m gq = some (.box [.str q])) (hs : m gs = some (.box [.int .i64 S0])) (ha : m ga = some (.box [.int .i64 A])) (n1 : gq ≠ gs) (n2 : gq ≠ ga) (n3 : gs ≠ ga) (hbs : S0 ≤ 1099511627776) (hba : A + Ex.askss q [x.a, x.e, x.lo, x.hi] ≤ 1099511627776) {K : AV → Mem → Prop}
    (hK : ∀ m', m' gq = some (.box [.str q]) → m' gs = some (.box [.int .i64 (S0 + (if x.k = 1 ∧ x.s = q then 1 else 0) : Nat)]) → m' ga = some (.box [.int .i64 (A + Ex.askss q [x.a, x.e, x.lo, x.hi] : Nat)]) → Upd (fun g => g = gs ∨ g = ga) m m' → K (.tup []) m') : WCall Try.prog 128 [x.av, .ptr gq 0, .ptr gs 0, .ptr ga 0] m K := by
  have htp := x.tot_parts
  refine wcall_of Try.func128 (by kernel_rfl) rfl (by simp [Try.f128]) ?_
  unfold Sm.av
  (repeat refine AWp.seq ?_); refine AWp.region noP (by kernel_rfl) ?_
  try simp
  intro g hg
  have hE := ext_set hg (.box x.cells)
  have hgg : (m.set g (.box x.cells)) g = some (.box x.cells) := set_same _ _ _
  have hq1 := hE gq _ hq
  have hs1 := hE gs _ hs
  have ha1 := hE ga _ ha
  have gns : g ≠ gs := by rintro rfl; rw [hs] at hg; cases hg
  have hU0 : Upd (fun g => g = gs ∨ g = ga) m (m.set g (.box x.cells)) := Upd.ext hE
  generalize m.set g (.box x.cells) = m1 at *
  (repeat refine AWp.seq ?_); refine AWp.cutA (fun st => st.slots 1 = .ptr gq 0 ∧ st.slots 2 = .ptr gs 0 ∧ st.slots 3 = .ptr ga 0 ∧ st.slots 4 = .ptr g 0 ∧ st.slots 15 = .bool (decide (x.k = 1 ∧ x.s = q)) ∧ st.mem = m1) ?_ ?_
  · refine AWp.region noP (by kernel_rfl) ?_
    by_cases hk : x.k = 1 <;> simp [hgg, hq1, hk]
  rintro st ⟨s1, s2, s3, s4, s15, rfl⟩
  (repeat refine AWp.seq ?_); refine AWp.cutA (fun u => u.slots 1 = .ptr gq 0 ∧ u.slots 3 = .ptr ga 0 ∧ u.slots 4 = .ptr g 0 ∧ u.mem gq = some (.box [.str q]) ∧ u.mem gs = some (.box [.int .i64 (S0 + (if x.k = 1 ∧ x.s = q then 1 else 0) : Nat)]) ∧ u.mem ga = some (.box [.int .i64 (A : Nat)]) ∧ u.mem g = some (.box x.cells) ∧ Upd (fun g => g = gs ∨ g = ga) m u.mem) ?_ ?_
  · (repeat refine AWp.seq ?_); refine AWp.cond (b := decide (x.k = 1 ∧ x.s = q)) (by simp [s15]) (fun hb => ?_) (fun hb => ?_)
    · simp only [decide_eq_true_eq] at hb
      have hw : IntKind.wrap .i64 ((S0 : Int) + 1) = ((S0 + 1 : Nat) : Int) := wrap64 (by omega) (by omega)
      (repeat refine AWp.seq ?_); refine AWp.region noP (by kernel_rfl) ?_
      simp [s1, s2, s3, s4, hs1, hw]
      refine ⟨by simp [set_at, n1, hq1], by simp [hb], by simp [set_at, n3.symm, ha1], by simp [set_at, gns, hgg], ?_⟩
      exact hU0.trans (Upd.put (.inl rfl) _)
    · simp only [decide_eq_false_iff_not] at hb
      refine AWp.skip ?_
      simp [s1, s3, s4, hq1, hs1, ha1, hgg, hb, hU0]
  clear hgg hq1 hs1 ha1 hU0 s1 s2 s3 s4 s15 hE
  clear st
  rintro st ⟨s1, s3, s4, hq1, hs1, ha1, hgg, hU1⟩
  generalize S0 + (if x.k = 1 ∧ x.s = q then 1 else 0) = S at *
  (repeat refine AWp.seq ?_); refine AWp.region noP (by kernel_rfl) ?_
  simp [s4, hgg]
  have hP : ∀ e ∈ [x.a, x.e, x.lo, x.hi], e.tot ≤ 1048576 := by
    intro e he
    simp at he
    rcases he with rfl | rfl | rfl | rfl <;> omega
  have hcs : ∀ i : Nat, i < 4 → ∃ e : Ex, [x.a, x.e, x.lo, x.hi][i]? = some e ∧ sidxA Try.prog 164 (.agg (x.a.cells ++ (x.e.cells ++ (x.lo.cells ++ x.hi.cells)))) (.int .i64 i) = some (.agg e.cells) := by
    intro i hi
    match i, hi with
    | 0, _ => exact ⟨x.a, rfl, by simp⟩
    | 1, _ => exact ⟨x.e, rfl, by simp⟩
    | 2, _ => exact ⟨x.lo, rfl, by simp⟩
    | 3, _ => exact ⟨x.hi, rfl, by simp⟩
  have hL : [x.a, x.e, x.lo, x.hi].length = 4 := rfl
  generalize [x.a, x.e, x.lo, x.hi] = PS at *
  (repeat refine AWp.seq ?_); refine AWp.block (AWp.rounds (fun n st => ∃ (i : Nat) (v : Nat), n = 4 - i ∧ i ≤ 4 ∧ st.slots 1 = .ptr gq 0 ∧ st.slots 3 = .ptr ga 0 ∧ st.slots 26 = .agg (x.a.cells ++ (x.e.cells ++ (x.lo.cells ++ x.hi.cells))) ∧ st.slots 27 = .int .i64 i ∧ st.mem gq = some (.box [.str q]) ∧ st.mem gs = some (.box [.int .i64 (S : Nat)]) ∧ st.mem ga = some (.box [.int .i64 (v : Nat)]) ∧ v + Ex.askss q (PS.drop i) = A + Ex.askss q PS ∧ Upd (fun g => g = gs ∨ g = ga) m st.mem) (4) ⟨0, A, by simp, by simp, by first | (simp [s1, s3, s4, hq1, hs1, ha1]; done), by first | (simp [s1, s3, s4, hq1, hs1, ha1]; done), by first | (simp [s1, s3, s4, hq1, hs1, ha1]; done), by first | (simp [s1, s3, s4, hq1, hs1, ha1]; done), by first | (simp [s1, s3, s4, hq1, hs1, ha1]; done), by first | (simp [s1, s3, s4, hq1, hs1, ha1]; done), by first | (simp [s1, s3, s4, hq1, hs1, ha1]; done), by simp, by simpa using hU1⟩ ?_)
  rintro R n st hR ⟨i, v, rfl, hi, s1, s3, s26, s27, mq, ms, ma, hv, hU⟩
  clear hq1 hs1 ha1 hU1 hgg
  (repeat refine AWp.seq ?_); refine AWp.region noP (by kernel_rfl) ?_
  simp [s27]
  (repeat refine AWp.seq ?_); refine AWp.cond (b := decide ((i : Int) < 4)) (by simp) (fun hb => ?_) (fun hb => ?_)
  · simp at hb
    obtain ⟨e, he, hx⟩ := hcs i (by omega)
    have hdr : PS.drop i = e :: PS.drop (i + 1) := by
      obtain ⟨h1, h2⟩ := List.getElem?_eq_some_iff.1 he
      rw [List.drop_eq_getElem_cons h1, h2]
    have hte := hP e (List.mem_of_getElem? he)
    rw [hdr, Ex.askss] at hv
    have cA := c_asksOf e q hte
    unfold Ex.av at cA
    have hw : IntKind.wrap .i64 ((i : Int) + 1) = (i + 1 : Nat) := wrap64 (by omega) (by omega)
    have hw2 : IntKind.wrap .i64 ((v : Int) + (e.asks q : Int)) = ((v + e.asks q : Nat) : Int) := wrap64 (by omega) (by omega)
    refine AWp.skip ?_
    try simp
    (repeat refine AWp.seq ?_); refine AWp.block ?_; (repeat refine AWp.seq ?_); refine AWp.region noP (by kernel_rfl) ?_
    simp [-sidx_agg, s26, s27, hx]
    intro g' hgf
    have hE := ext_set hgf (.box e.cells)
    try simp [set_at, set_set]
    have hgg : (st.mem.set g' (.box e.cells)) g' = some (.box e.cells) := set_same _ _ _
    have hU2 : Upd (fun g => g = gs ∨ g = ga) m (st.mem.set g' (.box e.cells)) := hU.trans (Upd.ext hE)
    replace mq := hE _ _ mq
    replace ms := hE _ _ ms
    replace ma := hE _ _ ma
    generalize st.mem.set g' (.box e.cells) = m2 at *
    (repeat refine AWp.seq ?_); refine AWp.regionG (fun _ => true) (fun _ => false) [0, 1, 2, 3, 4, 5] [0, 1, 2, 3, 4, 5] (by kernel_rfl) ?_
    simp [s1, s3, mq, ma, hgg]
    refine aop_call' cA ?_
    simp [s3, ma, hw2]
    (repeat refine AWp.seq ?_); refine AWp.region noP (by kernel_rfl) ?_
    simp [s27, hw]
    refine hR _ (4 - (i + 1)) (by omega) ⟨i + 1, v + e.asks q, rfl, by omega, by first | (simp [s1]; done) | (simp [*]; done), by first | (simp [s3]; done) | (simp [*]; done), by first | (simp [s26]; done) | (simp [*]; done), by first | (simp [s27]; done) | (simp [*]; done), by simp [set_at, n2, mq], by simp [set_at, n3, ms], by simp, by omega, by simpa using hU2.trans (Upd.put (.inr rfl) _)⟩
  · simp at hb
    refine AWp.exit ?_
    have : i = 4 := by omega
    subst this
    rw [List.drop_eq_nil_of_le (by omega), Ex.askss, Nat.add_zero] at hv
    subst hv
    try simp
    exact post_nrm0 rfl (hK _ mq ms ma hU)
end Go.T
namespace Go.T
open Go Go.Proofs
set_option maxRecDepth 10000
set_option linter.unusedSimpArgs false
set_option linter.unusedVariables false
def cntF (q : ByteArray) (a : Nat × Nat) (x : Sm) : Nat × Nat := (a.1 + (if x.k = 1 ∧ x.s = q then 1 else 0), a.2 + Ex.askss q [x.a, x.e, x.lo, x.hi])
theorem fold_counts (q : ByteArray) : ∀ (e : Sm) (a : Nat × Nat), Sm.fold (cntF q) a e = (a.1 + e.sets q, a.2 + e.asks q) := by
  intro e
  induction e using Sm.ind' with | h e ih =>
  intro a
  have key : ∀ (l : List Sm), (∀ x ∈ l, ∀ a : Nat × Nat, Sm.fold (cntF q) a x = (a.1 + x.sets q, a.2 + x.asks q)) → ∀ a : Nat × Nat, Sm.folds (cntF q) a l = (a.1 + Sm.setss q l, a.2 + Sm.askss q l) := by
    intro l
    induction l with
    | nil => intro _ a; rfl
    | cons x l ihl =>
      intro h a
      rw [Sm.folds, h x (List.mem_cons_self ..), ihl (fun y hy => h y (List.mem_cons_of_mem _ hy)), Sm.setss, Sm.askss]
      simp only [Nat.add_assoc]
  rw [Sm.fold_eq, key e.body ih, Sm.asks_eq, Sm.sets_eq]
  unfold cntF
  simp only [Ex.askss, Nat.add_assoc, Nat.zero_add]
theorem folds_counts (q : ByteArray) : ∀ (l : List Sm) (a : Nat × Nat), Sm.folds (cntF q) a l = (a.1 + Sm.setss q l, a.2 + Sm.askss q l)
  | [], a => rfl
  | x :: l, a => by
    rw [Sm.folds, fold_counts, folds_counts q l, Sm.setss, Sm.askss]
    simp only [Nat.add_assoc]
def cntT (q : ByteArray) (gq gs ga : Nat) (n1 : gq ≠ gs) (n2 : gq ≠ ga) (n3 : gs ≠ ga) : Told (Nat × Nat) Sm Try.prog Sm.av Sm.tot 128 [.ptr gq 0, .ptr gs 0, .ptr ga 0] where
  Inv a m := m gq = some (.box [.str q]) ∧ m gs = some (.box [.int .i64 (a.1 : Nat)]) ∧ m ga = some (.box [.int .i64 (a.2 : Nat)])
  F g := g = gs ∨ g = ga
  f := cntF q
  Lim a := a.1 ≤ 1099511627776 ∧ a.2 ≤ 1099511627776
  dom a m g h hg := by rcases hg with rfl | rfl; rw [h.2.1]; simp; rw [h.2.2]; simp
  fresh a m g b h hg := ⟨ext_set hg b _ _ h.1, ext_set hg b _ _ h.2.1, ext_set hg b _ _ h.2.2⟩
  lim a x h := by unfold cntF at h; simp only at h; omega
  step x ht a m h hl K hK := by
    unfold cntF at hl hK
    exact c_Counts1 x q ht a.1 a.2 h.1 h.2.1 h.2.2 n1 n2 n3 (by simp only at hl; omega) hl.2 fun m' h1 h2 h3 h4 => hK m' ⟨h1, h2, h3⟩ h4
theorem c_impl_Counts (l : List Sm) (q : ByteArray) (ht : totL Sm.tot l ≤ 1048576) : PCall Try.prog 113 [.lst false 19 (l.map Sm.av), .str q] (.tup [.int .i64 (Sm.setss q l), .int .i64 (Sm.askss q l)]) := by
  have h1 := Sm.setss_le q l
  have h2 := Sm.askss_le q l
  rw [Sm.tots_eq] at h1 h2
  refine pcall_of Try.func113 (by kernel_rfl) rfl (by simp [Try.f113]) ?_
  (repeat refine AWp.seq ?_); refine AWp.region noP (by kernel_rfl) ?_
  try simp
  intro g1
  have e1 : (Mem.set (fun _ => none) g1 (.box [.str q])) g1 = some (.box [.str q]) := set_same _ _ _
  generalize Mem.set (fun _ => none) g1 (.box [.str q]) = m1 at *
  (repeat refine AWp.seq ?_); refine AWp.cutA (fun st => ∃ g2 g3, st.slots 0 = .lst false 19 (l.map Sm.av) ∧ st.slots 3 = .ptr g1 0 ∧ st.slots 6 = .ptr g2 0 ∧ st.slots 7 = .ptr g3 0 ∧ g1 ≠ g2 ∧ g2 ≠ g3 ∧ g1 ≠ g3 ∧ st.mem g1 = some (.box [.str q]) ∧ st.mem g2 = some (.box [.int .i64 0]) ∧ st.mem g3 = some (.box [.int .i64 0])) ?_ ?_
  · refine AWp.region noP (by kernel_rfl) ?_
    try simp
    intro g2 h2' g3 h3
    have n12 : g1 ≠ g2 := by rintro rfl; rw [e1] at h2'; cases h2'
    have n23 : g2 ≠ g3 := by rintro rfl; simp [set_at] at h3
    have n13 : g1 ≠ g3 := by rintro rfl; simp [set_at, n12, e1] at h3
    simp [set_at, n12, n23, n13, n23.symm, n12.symm, n13.symm, e1]
  rintro st ⟨g2, g3, s0, s3, s6, s7, n12, n23, n13, f1, f2, f3⟩
  (repeat refine AWp.seq ?_); refine AWp.region noP (by kernel_rfl) ?_
  simp [s0, s3, s6, s7]
  refine aop_wcall _ _ _ _ _ _ _ _ rfl (eval_func _ _) ?_
  try simp [s0, s3, s6, s7]
  refine c_eachStmtI (cntT q g1 g2 g3 n12 n13 n23) l ht (0, 0) _ ⟨f1, by simpa using f2, by simpa using f3⟩ (by show _ ∧ _; rw [show (cntT q g1 g2 g3 n12 n13 n23).f = cntF q from rfl, folds_counts]; simp only; omega) _ fun m' hI _ => ?_
  rw [show (cntT q g1 g2 g3 n12 n13 n23).f = cntF q from rfl, folds_counts] at hI
  obtain ⟨_, k2, k3⟩ := hI
  try simp only [withMem_slot, put_slot]
  (repeat refine AWp.seq ?_); refine AWp.regionG (fun _ => true) (fun _ => false) [0, 1, 2, 3] [0, 2, 1, 3] (by kernel_rfl) ?_
  simp only [Nat.zero_add] at k2 k3
  simp [s6, s7, k2, k3]
  exact AWp.ret (post_ret2 rfl (by simp) (by simp))
theorem c_isItself (e : Ex) (q : ByteArray) : PCall Try.prog 130 [e.av, .str q] (.bool (e.isIt q)) := by
  unfold Ex.isIt
  refine pcall_of Try.func130 (by kernel_rfl) rfl (by simp [Try.f130]) ?_
  unfold Ex.av
  (repeat refine AWp.seq ?_); refine AWp.region noP (by kernel_rfl) ?_
  try simp
  intro g
  (repeat refine AWp.seq ?_); refine AWp.region noP (by kernel_rfl) ?_
  by_cases hk : e.k = 2
  · simp [hk]
    exact AWp.ret (post_ret1 rfl (by simp))
  · simp [hk]
    exact AWp.ret (post_ret1 rfl (by simp))
theorem c_sumKind (e : Ex) (q : ByteArray) (ht : e.tot ≤ 1048576) : PCall Try.prog 116 [e.av, .str q] (.int .i64 (e.sumK q)) := by
  have htl := e.tot_l
  refine pcall_of Try.func116 (by kernel_rfl) rfl (by simp [Try.f116]) ?_
  unfold Ex.av
  (repeat refine AWp.seq ?_); refine AWp.region noP (by kernel_rfl) ?_
  try simp
  intro g
  (repeat refine AWp.seq ?_); refine AWp.region noP (by kernel_rfl) ?_
  try simp
  rcases hxl : e.l with _ | ⟨y, _ | ⟨z, _ | ⟨w, r⟩⟩⟩
  · have : e.sumK q = 0 := by unfold Ex.sumK; simp [hxl]
    simp only [this]
    repeat' (first
    | refine AWp.seq ?_
    | (refine AWp.region allP (by kernel_rfl) ?_; simp [hxl])
    | (refine AWp.condG ?_; simp [hxl])
    | (refine AWp.skip ?_; try simp)
    | (refine AWp.exit ?_; try simp)
    | refine AWp.block ?_
    | (refine AWp.ret (post_ret1 rfl ?_); (simp; done))
    | (refine guardI (fun hq => ?_) (fun hq => ?_) <;> (try simp at hq) <;> (try simp [hxl]))
    | (refine condRunI (fun hq => ?_) (fun hq => ?_) <;> (try simp at hq) <;> (try simp [hxl]))
    | (refine iteI (fun hq => ?_) (fun hq => ?_) <;> (try simp [hxl])))
  · have : e.sumK q = 0 := by unfold Ex.sumK; simp [hxl]
    simp only [this]
    repeat' (first
    | refine AWp.seq ?_
    | (refine AWp.region allP (by kernel_rfl) ?_; simp [hxl])
    | (refine AWp.condG ?_; simp [hxl])
    | (refine AWp.skip ?_; try simp)
    | (refine AWp.exit ?_; try simp)
    | refine AWp.block ?_
    | (refine AWp.ret (post_ret1 rfl ?_); (simp; done))
    | (refine guardI (fun hq => ?_) (fun hq => ?_) <;> (try simp at hq) <;> (try simp [hxl]))
    | (refine condRunI (fun hq => ?_) (fun hq => ?_) <;> (try simp at hq) <;> (try simp [hxl]))
    | (refine iteI (fun hq => ?_) (fun hq => ?_) <;> (try simp [hxl])))
  rotate_left
  · have : e.sumK q = 0 := by unfold Ex.sumK; simp [hxl]
    have h3 : ¬ ((r.length : Int) + 1 + 1 + 1 = 2) := by omega
    simp only [this]
    repeat' (first
    | refine AWp.seq ?_
    | (refine AWp.region allP (by kernel_rfl) ?_; simp [hxl, h3])
    | (refine AWp.condG ?_; simp [hxl, h3])
    | (refine AWp.skip ?_; try simp)
    | (refine AWp.exit ?_; try simp)
    | refine AWp.block ?_
    | (refine AWp.ret (post_ret1 rfl ?_); (simp; done))
    | (refine guardI (fun hq => ?_) (fun hq => ?_) <;> (try simp at hq) <;> (try simp [hxl, h3]))
    | (refine condRunI (fun hq => ?_) (fun hq => ?_) <;> (try simp at hq) <;> (try simp [hxl, h3]))
    | (refine iteI (fun hq => ?_) (fun hq => ?_) <;> (try simp [hxl, h3])))
  have hx0 : ∀ m, idxA Try.prog m 59 (.lst false 4 [y.av, z.av]) (.int .i64 0) = some (.ref y.cells) := fun m => idx (i := 0) (y := y.av) es_59 rfl
  have hx1 : ∀ m, idxA Try.prog m 59 (.lst false 4 [y.av, z.av]) (.int .i64 1) = some (.ref z.cells) := fun m => idx (i := 1) (y := z.av) es_59 rfl
  rw [hxl] at htl
  simp only [totL] at htl
  have c1 := c_isItself y q
  have c2 := c_asksOf z q (by omega)
  unfold Ex.av at c1 c2
  simp [hxl]
  (repeat refine AWp.seq ?_); refine AWp.condF (by simp) ?_
  refine AWp.skip ?_
  try simp
  have hs : e.sumK q = if y.isIt q = true ∧ z.asks q = 0 then kindN e.k else 0 := by unfold Ex.sumK; simp [hxl]
  rw [hs]
  (repeat refine AWp.seq ?_); refine AWp.cutA (fun st => st.slots 2 = .ptr g 0 ∧ st.slots 24 = .bool (!decide (y.isIt q = true ∧ z.asks q = 0)) ∧ st.mem g = some (.box e.cells)) ?_ ?_
  · refine AWp.region allP (by kernel_rfl) ?_
    simp [hxl, hx0]
    refine aop_call' c1 ?_
    cases hy : y.isIt q
    · simp [hxl]
    · simp [hxl, hx1]
      refine aop_call' c2 ?_
      by_cases hz : z.asks q = 0
      · simp [hz]
      · simp [hz]; omega
  rintro st ⟨s2, s24, sg⟩
  (repeat refine AWp.seq ?_); refine AWp.cond (b := !decide (y.isIt q = true ∧ z.asks q = 0)) (by simp [s24]) (fun hb => ?_) (fun hb => ?_)
  · simp only [Bool.not_eq_true', decide_eq_false_iff_not] at hb
    rw [if_neg hb]
    (repeat refine AWp.seq ?_); refine AWp.region noP (by kernel_rfl) ?_
    try simp
    exact AWp.ret (post_ret1 rfl (by simp))
  simp only [Bool.not_eq_false', decide_eq_true_eq] at hb
  rw [if_pos hb]
  refine AWp.skip ?_
  try simp
  (repeat refine AWp.seq ?_); refine AWp.region noP (by kernel_rfl) ?_
  simp [s2, sg]
  unfold kindN
  (repeat refine AWp.seq ?_); refine AWp.block ?_
  repeat' (first
    | refine AWp.seq ?_
    | (refine AWp.region allP (by kernel_rfl) ?_; simp [*])
    | (refine AWp.condG ?_; simp [*])
    | (refine AWp.skip ?_; try simp)
    | (refine AWp.exit ?_; try simp)
    | refine AWp.block ?_
    | (refine AWp.ret (post_ret1 rfl ?_); (simp_all; done))
    | (refine guardI (fun hq => ?_) (fun hq => ?_) <;> (try simp at hq) <;> (try simp [*]))
    | (refine condRunI (fun hq => ?_) (fun hq => ?_) <;> (try simp at hq) <;> (try simp [*]))
    | (refine iteI (fun hq => ?_) (fun hq => ?_) <;> (try simp [*])))
theorem ownB_cons (x : Sm) (l : List Sm) (q : ByteArray) : ownB (x :: l) q = if x.hasIt q = true then x.setsIt q && decide (x.asks q = 0) else ownB l q := by
  unfold ownB
  rw [List.find?_cons]
  cases x.hasIt q <;> simp
theorem c_isOwn (l : List Sm) (q : ByteArray) (ht : totL Sm.tot l ≤ 1048576) : PCall Try.prog 117 [.lst false 19 (l.map Sm.av), .str q] (.bool (ownB l q)) := by
  have hlen := totL_len Sm.tot l
  refine pcall_of Try.func117 (by kernel_rfl) rfl (by simp [Try.f117]) ?_
  (repeat refine AWp.seq ?_); refine AWp.region noP (by kernel_rfl) ?_
  try simp
  (repeat refine AWp.seq ?_); refine AWp.region noP (by kernel_rfl) ?_
  try simp
  (repeat refine AWp.seq ?_); refine AWp.cutA (fun st => ownB l q = false) ?_ ?_
  · refine AWp.block (AWp.rounds (fun n st => ∃ (i : Nat), n = l.length - i ∧ i ≤ l.length ∧ st.slots 9 = .lst false 19 (l.map Sm.av) ∧ st.slots 10 = .int .i64 l.length ∧ st.slots 11 = .int .i64 i ∧ st.slots 1 = .str q ∧ ownB l q = ownB (l.drop i) q) (l.length) ⟨0, by simp, by simp, by first | (simp; done) | (simp [*]; done), by first | (simp; done) | (simp [*]; done), by first | (simp; done) | (simp [*]; done), by first | (simp; done) | (simp [*]; done), by first | (simp; done) | (simp [*]; done)⟩ ?_)
    rintro R n st hR ⟨i, rfl, hi, s9, s10, s11, s1, hv⟩
    (repeat refine AWp.seq ?_); refine AWp.region noP (by kernel_rfl) ?_
    simp [s9, s10, s11]
    (repeat refine AWp.seq ?_); refine AWp.cond (b := decide (i < l.length)) (by simp) (fun hb => ?_) (fun hb => ?_)
    · simp at hb
      have hg : l[i]? = some l[i] := List.getElem?_eq_getElem hb
      have hdr : l.drop i = l[i] :: l.drop (i + 1) := List.drop_eq_getElem_cons hb
      have htm := totL_mem Sm.tot (List.getElem_mem hb)
      have hx : ∀ m, idxA Try.prog m 62 (.lst false 19 (l.map Sm.av)) (.int .i64 i) = some (.ref l[i].cells) := fun m => idx (y := l[i].av) es_62 (by simp [hg])
      have hw : IntKind.wrap .i64 ((i : Int) + 1) = (i + 1 : Nat) := wrap64 (by omega) (by omega)
      rw [hdr, ownB_cons] at hv
      have cC := c_impl_Counts [l[i]] q (by simp [totL]; omega)
      rw [Sm.setss, Sm.askss, Sm.setss, Sm.askss, Nat.add_zero, Nat.add_zero] at cC
      simp only [List.map_cons, List.map_nil] at cC
      have h1 := l[i].sets_le q
      have h2 := l[i].asks_le q
      have hw2 : IntKind.wrap .i64 ((l[i].sets q : Int) + (l[i].asks q : Int)) = ((l[i].sets q + l[i].asks q : Nat) : Int) := wrap64 (by omega) (by omega)
      refine AWp.skip ?_
      try simp
      (repeat refine AWp.seq ?_); refine AWp.block ?_; (repeat refine AWp.seq ?_); refine AWp.region noP (by kernel_rfl) ?_
      simp [s9, s11, hx]
      intro g hg
      try simp [set_at, set_set]
      have hgg : (st.mem.set g (.box l[i].cells)) g = some (.box l[i].cells) := set_same _ _ _
      generalize st.mem.set g (.box l[i].cells) = m1 at *
      (repeat refine AWp.seq ?_); refine AWp.region allP (by kernel_rfl) ?_
      simp [hgg, s1]
      refine aop_call' (cC.arg (.cons (Le.lst _ _ _) (.cons (Le.refl _) .nil))) ?_
      simp
      (repeat refine AWp.seq ?_); refine AWp.region noP (by kernel_rfl) ?_
      simp [hw2]
      (repeat refine AWp.seq ?_); refine AWp.cond (b := l[i].hasIt q) (by simp [Sm.hasIt]; first | rfl | (congr 1; apply propext; omega) | omega) (fun hh => ?_) (fun hh => ?_)
      · rw [hh, if_pos rfl] at hv
        rw [hv]
        (repeat refine AWp.seq ?_); refine AWp.region noP (by kernel_rfl) ?_
        unfold Sm.setsIt
        by_cases hk : l[i].k = 1
        · by_cases hs : l[i].s = q
          · simp [hgg, s1, hk, hs]
            exact AWp.ret (post_ret1 rfl (by simp))
          · simp [hgg, s1, hk, hs]
            exact AWp.ret (post_ret1 rfl (by simp))
        · simp [hgg, s1, hk]
          exact AWp.ret (post_ret1 rfl (by simp))
      · rw [hh] at hv
        simp only [Bool.false_eq_true, if_false] at hv
        refine AWp.skip ?_
        try simp
        (repeat refine AWp.seq ?_); refine AWp.region noP (by kernel_rfl) ?_
        simp [s11, hw]
        refine hR _ (l.length - (i + 1)) (by omega) ⟨i + 1, rfl, by omega, by first | (simp [s9]; done) | (simp [*]; done), by first | (simp [s10]; done) | (simp [*]; done), by first | (simp [s11]; done) | (simp [*]; done), by first | (simp [s1]; done) | (simp [*]; done), hv⟩
    · simp at hb
      refine AWp.exit ?_
      have : i = l.length := by omega
      subst this
      simp [ownB] at hv
      simpa [ownB] using hv
  intro st hv
  (repeat refine AWp.seq ?_); refine AWp.region noP (by kernel_rfl) ?_
  try simp
  exact AWp.ret (post_ret1 rfl (by simp [hv]))
theorem c_KindOf1 (x : Sm) (q : ByteArray) {m : Mem} {gn : Nat} {K : AV → Mem → Prop} (hm : m gn = some (.box [.str q])) (hK : ∀ m', Ext m m' → K (.bool (x.setsIt q)) m') : WCall Try.prog 115 [x.av, .ptr gn 0] m K := by
  refine wcall_of Try.func115 (by kernel_rfl) rfl (by simp [Try.f115]) ?_
  unfold Sm.av
  (repeat refine AWp.seq ?_); refine AWp.region noP (by kernel_rfl) ?_
  try simp
  intro g hg
  have hgg : (m.set g (.box x.cells)) g = some (.box x.cells) := set_same _ _ _
  have hE := ext_set hg (.box x.cells)
  have hgn := hE gn _ hm
  generalize m.set g (.box x.cells) = m1 at *
  (repeat refine AWp.seq ?_); refine AWp.region noP (by kernel_rfl) ?_
  have hk2 := hK _ hE
  unfold Sm.setsIt at hk2
  by_cases hk : x.k = 1
  · simp [hgg, hgn, hk] at hk2 ⊢
    exact AWp.ret (post_retW rfl ⟨_, _, View.refl _ _, by simpa using hk2⟩)
  · simp [hgg, hgn, hk] at hk2 ⊢
    exact AWp.ret (post_retW rfl ⟨_, _, View.refl _ _, by simpa using hk2⟩)
theorem c_IndexFuncS (l : List Sm) (q : ByteArray) (hl : l.length ≤ 1048576) {m : Mem} {gn : Nat} {K : AV → Mem → Prop} (hm : m gn = some (.box [.str q])) (hK : ∀ m', Ext m m' → K (.int .i64 (fidx (Sm.setsIt q) 0 l)) m') :
    WCall Try.prog 114 [.lst false 19 (l.map Sm.av), .func (.func 115) [.ptr gn 0]] m K := by
  refine wcall_of Try.func114 (by kernel_rfl) rfl (by simp [Try.f114]) ?_
  (repeat refine AWp.seq ?_); refine AWp.region noP (by kernel_rfl) ?_
  try simp
  (repeat refine AWp.seq ?_); refine AWp.region noP (by kernel_rfl) ?_
  try simp
  (repeat refine AWp.seq ?_); refine AWp.block (AWp.rounds (fun n st => ∃ (i : Nat), n = l.length - i ∧ i ≤ l.length ∧ st.slots 0 = .lst false 19 (l.map Sm.av) ∧ st.slots 1 = .func (.func 115) [.ptr gn 0] ∧ st.slots 7 = .int .i64 l.length ∧ st.slots 8 = .int .i64 i ∧ Ext m st.mem ∧ fidx (Sm.setsIt q) i (l.drop i) = fidx (Sm.setsIt q) 0 l) (l.length) ⟨0, by simp, by simp, by first | (simp; done) | (simp [*]; done), by first | (simp; done) | (simp [*]; done), by first | (simp; done) | (simp [*]; done), by first | (simp; done) | (simp [*]; done), by simpa using Ext.refl m, by first | (simp; done) | (simp [*]; done)⟩ ?_)
  rintro R n st hR ⟨i, rfl, hi, s0, s1, s7, s8, hE, hv⟩
  (repeat refine AWp.seq ?_); refine AWp.region noP (by kernel_rfl) ?_
  simp [s7, s8]
  (repeat refine AWp.seq ?_); refine AWp.cond (b := decide (i < l.length)) (by simp) (fun hb => ?_) (fun hb => ?_)
  · simp at hb
    have hg : l[i]? = some l[i] := List.getElem?_eq_getElem hb
    have hdr : l.drop i = l[i] :: l.drop (i + 1) := List.drop_eq_getElem_cons hb
    have htm := totL_mem Sm.tot (List.getElem_mem hb)
    have hx : ∀ m, idxA Try.prog m 62 (.lst false 19 (l.map Sm.av)) (.int .i64 i) = some (.ref l[i].cells) := fun m => idx (y := l[i].av) es_62 (by simp [hg])
    have hw : IntKind.wrap .i64 ((i : Int) + 1) = (i + 1 : Nat) := wrap64 (by omega) (by omega)
    have hf := fidx_drop (Sm.setsIt q) l i hb
    rw [hv] at hf
    refine AWp.skip ?_
    try simp
    (repeat refine AWp.seq ?_); refine AWp.block ?_; (repeat refine AWp.seq ?_); refine AWp.region noP (by kernel_rfl) ?_
    simp [s8]
    (repeat refine AWp.seq ?_); refine AWp.region noP (by kernel_rfl) ?_
    simp [s0, s1, hx]
    refine aop_wcall _ _ _ _ _ _ _ _ rfl (n := 115) (caps := [.ptr gn 0]) (by simp [s1]) ?_
    try simp [s0, s1, hx]
    refine c_KindOf1 l[i] q (hE gn _ hm) fun m' hE' => ?_
    try simp
    (repeat refine AWp.seq ?_); refine AWp.cond (b := l[i].setsIt q) (by simp) (fun he => ?_) (fun he => ?_)
    · rw [he, if_pos rfl] at hf
      (repeat refine AWp.seq ?_); refine AWp.region noP (by kernel_rfl) ?_
      try simp
      refine AWp.ret (post_retW rfl ⟨_, _, View.refl _ _, ?_⟩)
      try simp
      have := hK m' (hE.trans hE')
      rw [hf] at this
      exact this
    · rw [he] at hf
      simp only [Bool.false_eq_true, if_false] at hf
      refine AWp.skip ?_
      try simp
      (repeat refine AWp.seq ?_); refine AWp.region noP (by kernel_rfl) ?_
      simp [s8, hw]
      refine hR _ (l.length - (i + 1)) (by omega) ⟨i + 1, rfl, by omega, by first | (simp [s0]; done) | (simp [*]; done), by first | (simp [s1]; done) | (simp [*]; done), by first | (simp [s7]; done) | (simp [*]; done), by first | (simp [s8]; done) | (simp [*]; done), by simpa using hE.trans hE', hf.symm⟩
  · simp at hb
    refine AWp.exit ?_
    have : i = l.length := by omega
    subst this
    try simp
    (repeat refine AWp.seq ?_); refine AWp.region noP (by kernel_rfl) ?_
    try simp
    simp [fidx] at hv
    refine AWp.ret (post_retW rfl ⟨_, _, View.refl _ _, ?_⟩)
    try simp
    have := hK st.mem hE
    rw [← hv] at this
    exact this
theorem c_impl_KindOf (s : Sm) (q : ByteArray) (ht : s.tot ≤ 1048576) : PCall Try.prog 93 [s.av, .str q] (.int .i64 (kindI s q)) := by
  have hp := s.tot_body
  have hlen := totL_len Sm.tot s.body
  have cC := c_impl_Counts s.body q (by omega)
  have cO := c_isOwn s.body q (by omega)
  refine pcall_of Try.func93 (by kernel_rfl) rfl (by simp [Try.f93]) ?_
  unfold Sm.av
  (repeat refine AWp.seq ?_); refine AWp.region noP (by kernel_rfl) ?_
  try simp
  intro g1 g2 h2
  have hne : g2 ≠ g1 := by rintro rfl; simp [set_at] at h2
  have e1 : ((Mem.set (fun _ => none) g1 (.box s.cells)).set g2 (.box [.str q])) g1 = some (.box s.cells) := by simp [set_at, hne.symm]
  have e2 : ((Mem.set (fun _ => none) g1 (.box s.cells)).set g2 (.box [.str q])) g2 = some (.box [.str q]) := set_same _ _ _
  generalize (Mem.set (fun _ => none) g1 (.box s.cells)).set g2 (.box [.str q]) = m1 at *
  (repeat refine AWp.seq ?_); refine AWp.region noP (by kernel_rfl) ?_
  simp [e1]
  (repeat refine AWp.seq ?_); refine AWp.cond (b := !decide (s.k = 3)) (by simp) (fun hk => ?_) (fun hk => ?_)
  · simp at hk
    have hkI : kindI s q = 0 := by unfold kindI; simp [hk]
    (repeat refine AWp.seq ?_); refine AWp.region noP (by kernel_rfl) ?_
    try simp
    exact AWp.ret (post_ret1 rfl (by simp [hkI]))
  simp at hk
  have hk0 : kindI s q = (if Sm.setss q s.body = 0 ∧ Sm.askss q s.body = 0 then (0 : Int) else if Sm.setss q s.body = 0 then 1 else if 1 < Sm.setss q s.body then 6
  else match s.body.find? (Sm.setsIt q) with
    | none => 6
    | some x => if x.e.sumK q ≠ 0 ∧ Sm.askss q s.body = 1 then x.e.sumK q else if ownB s.body q = true then 5 else 6) := by unfold kindI; rw [if_neg (by simp [hk])]; rfl
  refine AWp.skip ?_
  try simp
  (repeat refine AWp.seq ?_); refine AWp.region allP (by kernel_rfl) ?_
  simp [e1, e2]
  refine aop_call' cC ?_
  simp
  (repeat refine AWp.seq ?_); refine AWp.cutA (fun st => kindI s q = (match s.body.find? (Sm.setsIt q) with
    | none => 6
    | some x => if x.e.sumK q ≠ 0 ∧ Sm.askss q s.body = 1 then x.e.sumK q else if ownB s.body q = true then 5 else 6) ∧ st.slots 2 = .ptr g1 0 ∧ st.slots 3 = .ptr g2 0 ∧ st.slots 6 = .int .i64 (Sm.askss q s.body) ∧ st.mem = m1) ?_ ?_
  · refine AWp.block ?_
    (repeat refine AWp.seq ?_); refine AWp.cutA (fun st => st.slots 2 = .ptr g1 0 ∧ st.slots 3 = .ptr g2 0 ∧ st.slots 5 = .int .i64 (Sm.setss q s.body) ∧ st.slots 6 = .int .i64 (Sm.askss q s.body) ∧ st.slots 19 = .bool (decide (Sm.setss q s.body = 0 ∧ Sm.askss q s.body = 0)) ∧ st.mem = m1) ?_ ?_
    · refine AWp.region noP (by kernel_rfl) ?_
      by_cases h1 : Sm.setss q s.body = 0 <;> simp [h1]
    rintro st ⟨s2, s3, s5, s6, s19, rfl⟩
    (repeat refine AWp.seq ?_); refine AWp.cond (b := decide (Sm.setss q s.body = 0 ∧ Sm.askss q s.body = 0)) (by simp [s19]) (fun hb => ?_) (fun hb => ?_)
    · simp only [decide_eq_true_eq] at hb
      rw [if_pos hb] at hk0
      (repeat refine AWp.seq ?_); refine AWp.region noP (by kernel_rfl) ?_
      try simp
      exact AWp.ret (post_ret1 rfl (by simp [hk0]))
    simp only [decide_eq_false_iff_not] at hb
    rw [if_neg hb] at hk0
    (repeat refine AWp.seq ?_); refine AWp.region noP (by kernel_rfl) ?_
    simp [s5]
    (repeat refine AWp.seq ?_); refine AWp.cond (b := decide (Sm.setss q s.body = 0)) (by simp) (fun hc => ?_) (fun hc => ?_)
    · simp only [decide_eq_true_eq] at hc
      rw [if_pos hc] at hk0
      (repeat refine AWp.seq ?_); refine AWp.region noP (by kernel_rfl) ?_
      try simp
      exact AWp.ret (post_ret1 rfl (by simp [hk0]))
    simp only [decide_eq_false_iff_not] at hc
    rw [if_neg hc] at hk0
    (repeat refine AWp.seq ?_); refine AWp.region noP (by kernel_rfl) ?_
    simp [s5]
    (repeat refine AWp.seq ?_); refine AWp.cond (b := decide (1 < Sm.setss q s.body)) (by simp; omega) (fun hd => ?_) (fun hd => ?_)
    · simp only [decide_eq_true_eq] at hd
      rw [if_pos hd] at hk0
      (repeat refine AWp.seq ?_); refine AWp.region noP (by kernel_rfl) ?_
      try simp
      exact AWp.ret (post_ret1 rfl (by simp [hk0]))
    simp only [decide_eq_false_iff_not] at hd
    rw [if_neg hd] at hk0
    refine AWp.skip ?_
    simp only [thenA_normal, blockA_normal]
    exact ⟨hk0, by simp [s2], by simp [s3], by simp [s6], rfl⟩
  rintro st ⟨hK, s2, s3, s6, rfl⟩
  (repeat refine AWp.seq ?_); refine AWp.region noP (by kernel_rfl) ?_
  simp [s2, s3, e1]
  refine aop_wcall _ _ _ _ _ _ _ _ rfl (eval_func _ _) ?_
  try simp [s3]
  refine c_IndexFuncS s.body q (by omega) e2 fun m2 hE => ?_
  replace e1 := hE _ _ e1
  replace e2 := hE _ _ e2
  cases hf : s.body.find? (Sm.setsIt q) with
  | none =>
    rw [hf] at hK
    rw [fidx_none _ _ _ hf]
    try simp
    (repeat refine AWp.seq ?_); refine AWp.region noP (by kernel_rfl) ?_
    try simp
    (repeat refine AWp.seq ?_); refine AWp.condT (by simp) ?_
    (repeat refine AWp.seq ?_); refine AWp.region noP (by kernel_rfl) ?_
    try simp
    exact AWp.ret (post_ret1 rfl (by simp [hK]))
  | some x =>
  rw [hf] at hK
  simp only at hK
  obtain ⟨j, hj, hjx⟩ := fidx_some (Sm.setsIt q) s.body 0 x hf
  rw [Nat.zero_add] at hj
  rw [hj]
  have hm := List.mem_of_getElem? hjx
  have htm := totL_mem Sm.tot hm
  have hxp := x.tot_parts
  have cS := c_sumKind x.e q (by omega)
  unfold Ex.av at cS
  have hx : ∀ m, idxA Try.prog m 62 (.lst false 19 (s.body.map Sm.av)) (.int .i64 j) = some (.ref x.cells) := fun m => idx (y := x.av) es_62 (by simp [hjx])
  try simp
  (repeat refine AWp.seq ?_); refine AWp.region noP (by kernel_rfl) ?_
  try simp
  (repeat refine AWp.seq ?_); refine AWp.condF (by simp) ?_
  refine AWp.skip ?_
  try simp
  (repeat refine AWp.seq ?_); refine AWp.regionG (fun _ => true) (fun _ => false) [0, 1, 2, 3, 4, 5, 6, 7, 8] [0, 1, 2, 3, 4, 5, 6, 7, 8] (by kernel_rfl) ?_
  simp [s2, s3, e1, e2, hx]
  refine aop_call' cS ?_
  simp
  (repeat refine AWp.seq ?_); refine AWp.cutA (fun u => u.slots 2 = .ptr g1 0 ∧ u.slots 3 = .ptr g2 0 ∧ u.slots 8 = .int .i64 (x.e.sumK q) ∧ u.slots 51 = .bool (decide (x.e.sumK q ≠ 0 ∧ Sm.askss q s.body = 1)) ∧ u.mem = m2) ?_ ?_
  · refine AWp.region noP (by kernel_rfl) ?_
    by_cases h1 : x.e.sumK q = 0
    · simp [h1, s2, s3, s6]
    · by_cases h2 : Sm.askss q s.body = 1
      · simp [h1, h2, s2, s3, s6]
      · have h3 : ¬ ((Sm.askss q s.body : Int) = 1) := by omega
        simp [h1, h2, h3, s2, s3, s6]
  clear s2 s3 s6
  rintro u ⟨s2, s3, s8, s51, rfl⟩
  (repeat refine AWp.seq ?_); refine AWp.cond (b := decide (x.e.sumK q ≠ 0 ∧ Sm.askss q s.body = 1)) (by simp [s51]) (fun hb => ?_) (fun hb => ?_)
  · simp only [decide_eq_true_eq] at hb
    rw [if_pos hb] at hK
    (repeat refine AWp.seq ?_); refine AWp.region noP (by kernel_rfl) ?_
    simp [s8]
    exact AWp.ret (post_ret1 rfl (by simp [hK]))
  simp only [decide_eq_false_iff_not] at hb
  rw [if_neg hb] at hK
  refine AWp.skip ?_
  try simp
  (repeat refine AWp.seq ?_); refine AWp.region allP (by kernel_rfl) ?_
  simp [s2, s3, e1, e2]
  refine aop_call' cO ?_
  simp
  (repeat refine AWp.seq ?_); refine AWp.cond (b := ownB s.body q) (by simp) (fun ho => ?_) (fun ho => ?_)
  · rw [if_pos ho] at hK
    (repeat refine AWp.seq ?_); refine AWp.region noP (by kernel_rfl) ?_
    try simp
    exact AWp.ret (post_ret1 rfl (by simp [hK]))
  · rw [if_neg (by simp [ho])] at hK
    refine AWp.skip ?_
    try simp
    (repeat refine AWp.seq ?_); refine AWp.region noP (by kernel_rfl) ?_
    try simp
    exact AWp.ret (post_ret1 rfl (by simp [hK]))
end Go.T
