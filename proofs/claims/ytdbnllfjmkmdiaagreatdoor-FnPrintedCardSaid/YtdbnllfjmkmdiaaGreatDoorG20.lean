/- The program's texts of expressions. The program's ExpText. The reference's texts of expressions. The reference's ExpText. The reference's texts of statements and programs. -/
import Derived.Test.YtdbnllfjmkmdiaaGreatDoorG6
import Derived.Test.YtdbnllfjmkmdiaaGreatDoorG12
import Derived.Test.YtdbnllfjmkmdiaaGreatDoorG19
import Derived.Test.YtdbnllfjmkmdiaaGreatDoorG9
import Derived.Test.YtdbnllfjmkmdiaaGreatDoorG7
import Derived.Test.YtdbnllfjmkmdiaaGreatDoorG11
set_option linter.unusedSimpArgs false
set_option linter.unusedVariables false
namespace Go.T
open Go Go.Proofs
set_option maxRecDepth 10000
set_option maxHeartbeats 1000000
open Go
theorem c_expText : ∀ (N : Nat) (e : Ex) (d : Nat), e.nodes <= N -> e.nodes <= 1000 -> e.good d = true -> ∀ {T : TypeId} {m : Mem} (hm : m TB = some (tabBlk T)) {K : AV -> Mem -> Prop} (hK : K (.str (txt e.pr)) m), WCall Tryz.prog 31 [e.av] m K := by
 intro N
 induction N with
 | zero =>
  intro e d hN
  obtain ⟨k, n, s, l⟩ := e
  rw [Ex.nodes] at hN
  omega
 | succ N ih =>
  intro e d hN hM hg T m hm K hK
  have hz := (pr_len e.nodes e d (Nat.le_refl _) hg).1
  obtain ⟨_, hs⟩ := shape hg
  cases hs with
  | num n h0 h1 =>
   refine wcall_of Tryz.func31 (by kernel_rfl) rfl (by simp [Tryz.f31]) ?_
   (repeat refine qA ?_);refine rA ?_
   simp [Ex.av]
   intro g1 hg1
   refine AWp.sees (Sees.view (t := 1) (View.freezeB (g := g1) (cs := (Ex.mk 1 n ⟨#[]⟩ []).cells) (by simp))) ?_
   have hmm : (m.set g1 (.box (Ex.mk 1 n ⟨#[]⟩ []).cells)).del g1 = m := by
    funext q
    unfold Mem.del
    by_cases h : q = g1
    ·rw [if_pos h, h, hg1]
    rw [if_neg h, Mem.set_other h]
   refine AWp.gen (fun st => st.slots 1 = .ref (Ex.mk 1 n ⟨#[]⟩ []).cells /\ st.mem = m) ⟨by simp, by simpa using hmm⟩ ?_
   rintro st ⟨s1, sm⟩
   rw [Ex.cells_mk] at s1
   simp only [List.map_cons, List.map_nil] at s1
   (repeat refine qA ?_);refine rA ?_
   simp [s1]
   (repeat refine qA ?_);refine bA ?_
   (repeat refine qA ?_);refine rA ?_
   simp
   (repeat refine qA ?_);refine tA ?_
   (repeat refine qA ?_);refine rA ?_
   simp [s1]
   refine wA ?_
   try simp [sm]
   refine c_impl_NumText n (by omega) (by omega) hm ?_
   try simp
   refine AWp.ret (post_retW rfl ⟨_, _, View.refl _ _, ?_⟩)
   simpa [Ex.pr, Ex.prs, prK, numB, txt] using hK
  | var s hn =>
   refine wcall_of Tryz.func31 (by kernel_rfl) rfl (by simp [Tryz.f31]) ?_
   (repeat refine qA ?_);refine rA ?_
   simp [Ex.av]
   intro g1 hg1
   refine AWp.sees (Sees.view (t := 1) (View.freezeB (g := g1) (cs := (Ex.mk 2 0 s []).cells) (by simp))) ?_
   have hmm : (m.set g1 (.box (Ex.mk 2 0 s []).cells)).del g1 = m := by
    funext q
    unfold Mem.del
    by_cases h : q = g1
    ·rw [if_pos h, h, hg1]
    rw [if_neg h, Mem.set_other h]
   refine AWp.gen (fun st => st.slots 1 = .ref (Ex.mk 2 0 s []).cells /\ st.mem = m) ⟨by simp, by simpa using hmm⟩ ?_
   rintro st ⟨s1, sm⟩
   rw [Ex.cells_mk] at s1
   simp only [List.map_cons, List.map_nil] at s1
   (repeat refine qA ?_);refine rA ?_
   simp [s1]
   (repeat refine qA ?_);refine bA ?_
   (repeat refine qA ?_);refine rA ?_
   simp
   (repeat refine qA ?_);refine fA ?_
   (repeat refine qA ?_);refine rA ?_
   simp
   (repeat refine qA ?_);refine tA ?_
   (repeat refine qA ?_);refine rA ?_
   simp [s1]
   refine AWp.ret (post_retW rfl ⟨_, _, View.refl _ _, ?_⟩)
   simpa [Ex.pr, Ex.prs, prK, txt, sm] using hK
  | at_ s a hn ha =>
   have hnn : a.nodes <= N /\ a.nodes <= 1000 := by simp only [Ex.nodes, Ex.nodess] at hN hM; omega
   have hza := (pr_len a.nodes a _ (Nat.le_refl _) ha).1
   have ha := @ih a _ hnn.1 hnn.2 ha
   have hsl := name_len hn
   obtain ⟨w, rfl⟩ : ∃ w, s = txt w := ⟨s.data.toList, (mk_list s).symm⟩
   have hw : (txt w).data.toList = w := list_mk w
   rw [hw] at hsl
   have f1 : txt [91] = ⟨#[91]⟩ := rfl
   have f2 : txt [93] = ⟨#[93]⟩ := rfl
   have a1 := aT w [91] (by simp; omega)
   have a2 := aT (w ++ [91]) a.pr (by simp; omega)
   have a3 := aT (w ++ [91] ++ a.pr) [93] (by simp; omega)
   rw [f1] at a1
   rw [f2] at a3
   simp only [List.append_assoc, List.cons_append, List.nil_append] at a1 a2 a3
   have ia : ∀ m, idxA Tryz.prog m 24 (.lst false 4 [a.av]) (.int .i64 0) = some (.ref a.cells) := fun m => idx (y := a.av) es_24 (by simp)
   have ta : List.take 4 a.cells = a.cells := List.take_of_length_le (by simp)
   refine wcall_of Tryz.func31 (by kernel_rfl) rfl (by simp [Tryz.f31]) ?_
   (repeat refine qA ?_);refine rA ?_
   simp [Ex.av]
   intro g1 hg1
   refine AWp.sees (Sees.view (t := 1) (View.freezeB (g := g1) (cs := (Ex.mk 3 0 (txt w) [a]).cells) (by simp))) ?_
   have hmm : (m.set g1 (.box (Ex.mk 3 0 (txt w) [a]).cells)).del g1 = m := by
    funext q
    unfold Mem.del
    by_cases h : q = g1
    ·rw [if_pos h, h, hg1]
    rw [if_neg h, Mem.set_other h]
   refine AWp.gen (fun st => st.slots 1 = .ref (Ex.mk 3 0 (txt w) [a]).cells /\ st.mem = m) ⟨by simp, by simpa using hmm⟩ ?_
   rintro st ⟨s1, sm⟩
   rw [Ex.cells_mk] at s1
   simp only [List.map_cons, List.map_nil] at s1
   (repeat refine qA ?_);refine rA ?_
   simp [s1]
   (repeat refine qA ?_);refine bA ?_
   (repeat refine qA ?_);refine rA ?_
   simp
   (repeat refine qA ?_);refine fA ?_
   (repeat refine qA ?_);refine rA ?_
   simp
   (repeat refine qA ?_);refine fA ?_
   (repeat refine qA ?_);refine rA ?_
   simp
   (repeat refine qA ?_);refine tA ?_
   (repeat refine qA ?_);refine AWp.regionG (fun _ => false) (fun j => [1, 4, 6].contains j) [0, 1, 2, 3, 4, 5, 6, 7, 8, 9, 10] [0, 1, 2, 3, 4, 5, 6, 7, 8, 9, 10] (by kernel_rfl) ?_
   simp [s1, ia, ta, a1]
   refine wA ?_
   simp [sm]
   refine ha hm ?_
   simp [a1, a2, a3]
   refine AWp.ret (post_retW rfl ⟨_, _, View.refl _ _, ?_⟩)
   simpa [Ex.pr, Ex.prs, prK, hw] using hK
  | two k a b k0 k1 ha hb =>
   have hnn : a.nodes <= N /\ a.nodes <= 1000 := by simp only [Ex.nodes, Ex.nodess] at hN hM; omega
   have hnm : b.nodes <= N /\ b.nodes <= 1000 := by simp only [Ex.nodes, Ex.nodess] at hN hM; omega
   have hza := (pr_len a.nodes a _ (Nat.le_refl _) ha).1
   have hzb := (pr_len b.nodes b _ (Nat.le_refl _) hb).1
   have ha := @ih a _ hnn.1 hnn.2 ha
   have hb := @ih b _ hnm.1 hnm.2 hb
   have ia : ∀ m, idxA Tryz.prog m 24 (.lst false 4 [a.av, b.av]) (.int .i64 0) = some (.ref a.cells) := fun m => idx (y := a.av) es_24 (by simp)
   have ib : ∀ m, idxA Tryz.prog m 24 (.lst false 4 [a.av, b.av]) (.int .i64 1) = some (.ref b.cells) := fun m => idx (y := b.av) es_24 (by simp)
   have ta : List.take 4 a.cells = a.cells := List.take_of_length_le (by simp)
   have tb : List.take 4 b.cells = b.cells := List.take_of_length_le (by simp)
   have hk : k = 4 ∨ k = 5 ∨ k = 6 ∨ k = 7 ∨ k = 8 := by omega
   clear hz hN hM hg k0 k1
   rcases hk with rfl | rfl | rfl | rfl | rfl
   ·have l2 := brkT_len (decide (lev b.kind < 2)) b.pr
    have f1 : txt [32, 43, 32] = ⟨#[32, 43, 32]⟩ := rfl
    have a1 := aT a.pr [32, 43, 32] (by simp; omega)
    have a2 := aT (a.pr ++ [32, 43, 32]) (brkT (decide (lev b.kind < 2)) b.pr) (by simp; omega)
    rw [f1] at a1
    refine wcall_of Tryz.func31 (by kernel_rfl) rfl (by simp [Tryz.f31]) ?_
    (repeat refine qA ?_);refine rA ?_
    simp [Ex.av]
    intro g1 hg1
    refine AWp.sees (Sees.view (t := 1) (View.freezeB (g := g1) (cs := (Ex.mk 4 0 ⟨#[]⟩ [a, b]).cells) (by simp))) ?_
    have hmm : (m.set g1 (.box (Ex.mk 4 0 ⟨#[]⟩ [a, b]).cells)).del g1 = m := by
     funext q
     unfold Mem.del
     by_cases h : q = g1
     ·rw [if_pos h, h, hg1]
     rw [if_neg h, Mem.set_other h]
    refine AWp.gen (fun st => st.slots 1 = .ref (Ex.mk 4 0 ⟨#[]⟩ [a, b]).cells /\ st.mem = m) ⟨by simp, by simpa using hmm⟩ ?_
    rintro st ⟨s1, sm⟩
    rw [Ex.cells_mk] at s1
    simp only [List.map_cons, List.map_nil] at s1
    (repeat refine qA ?_);refine rA ?_
    simp [s1]
    (repeat refine qA ?_);refine bA ?_
    (repeat refine qA ?_);refine rA ?_
    simp
    (repeat refine qA ?_);refine fA ?_
    (repeat refine qA ?_);refine rA ?_
    simp
    (repeat refine qA ?_);refine fA ?_
    (repeat refine qA ?_);refine rA ?_
    simp
    (repeat refine qA ?_);refine fA ?_
    refine kA ?_
    try simp
    (repeat refine qA ?_);refine AWp.regionX (fun _ => false) (fun j => [1, 3, 6, 8].contains j) [0, 1, 2, 3, 5, 6, 7, 8, 4, 9, 10, 11] [0, 1, 2, 3, 5, 6, 4, 7, 8, 9, 10, 11] 7 4 [0, 1, 2, 3, 4, 5, 6, 7, 8, 9, 10, 11] (by kernel_rfl) ?_ ?_
    ·simp [s1, ia, ib, ta, tb]
     refine wA ?_
     try simp [sm]
     refine ha hm ?_
     try simp [ib, tb]
     refine wA ?_
     try simp
     refine hb hm ?_
     try simp
     (repeat refine qA ?_);refine rA ?_
     try simp [s1]
     (repeat refine qA ?_);refine bA ?_
     (repeat refine qA ?_);refine rA ?_
     try simp
     (repeat refine qA ?_);refine tA ?_
     (repeat refine qA ?_);refine raA ?_
     simp [s1, ib, tb, a1]
     refine oC' (c_isSum b) ?_
     simp
     refine oC' (c_within b.pr (decide (lev b.kind < 2)) (by omega)) ?_
     simp [a1, a2]
     refine AWp.ret (post_retW rfl ⟨_, _, View.refl _ _, ?_⟩)
     simpa [Ex.pr, Ex.prs, prK, sm] using hK
    simp [s1, ia, ib, ta, tb]
    refine wA ?_
    try simp [sm]
    refine ha hm ?_
    try simp [ib, tb]
    refine wA ?_
    try simp
    refine hb hm ?_
    try simp
    (repeat refine qA ?_);refine rA ?_
    try simp [s1]
    (repeat refine qA ?_);refine bA ?_
    (repeat refine qA ?_);refine rA ?_
    try simp
    (repeat refine qA ?_);refine tA ?_
    (repeat refine qA ?_);refine raA ?_
    simp [s1, ib, tb, a1]
    refine oC' (c_isSum b) ?_
    simp
    refine oC' (c_within b.pr (decide (lev b.kind < 2)) (by omega)) ?_
    simp [a1, a2]
    refine AWp.ret (post_retW rfl ⟨_, _, View.refl _ _, ?_⟩)
    simpa [Ex.pr, Ex.prs, prK, sm] using hK
   ·have l2 := brkT_len (decide (lev b.kind < 2)) b.pr
    have f1 : txt [32, 45, 32] = ⟨#[32, 45, 32]⟩ := rfl
    have a1 := aT a.pr [32, 45, 32] (by simp; omega)
    have a2 := aT (a.pr ++ [32, 45, 32]) (brkT (decide (lev b.kind < 2)) b.pr) (by simp; omega)
    rw [f1] at a1
    refine wcall_of Tryz.func31 (by kernel_rfl) rfl (by simp [Tryz.f31]) ?_
    (repeat refine qA ?_);refine rA ?_
    simp [Ex.av]
    intro g1 hg1
    refine AWp.sees (Sees.view (t := 1) (View.freezeB (g := g1) (cs := (Ex.mk 5 0 ⟨#[]⟩ [a, b]).cells) (by simp))) ?_
    have hmm : (m.set g1 (.box (Ex.mk 5 0 ⟨#[]⟩ [a, b]).cells)).del g1 = m := by
     funext q
     unfold Mem.del
     by_cases h : q = g1
     ·rw [if_pos h, h, hg1]
     rw [if_neg h, Mem.set_other h]
    refine AWp.gen (fun st => st.slots 1 = .ref (Ex.mk 5 0 ⟨#[]⟩ [a, b]).cells /\ st.mem = m) ⟨by simp, by simpa using hmm⟩ ?_
    rintro st ⟨s1, sm⟩
    rw [Ex.cells_mk] at s1
    simp only [List.map_cons, List.map_nil] at s1
    (repeat refine qA ?_);refine rA ?_
    simp [s1]
    (repeat refine qA ?_);refine bA ?_
    (repeat refine qA ?_);refine rA ?_
    simp
    (repeat refine qA ?_);refine fA ?_
    (repeat refine qA ?_);refine rA ?_
    simp
    (repeat refine qA ?_);refine fA ?_
    (repeat refine qA ?_);refine rA ?_
    simp
    (repeat refine qA ?_);refine fA ?_
    refine kA ?_
    try simp
    (repeat refine qA ?_);refine AWp.regionX (fun _ => false) (fun j => [1, 3, 6, 8].contains j) [0, 1, 2, 3, 5, 6, 7, 8, 4, 9, 10, 11] [0, 1, 2, 3, 5, 6, 4, 7, 8, 9, 10, 11] 7 4 [0, 1, 2, 3, 4, 5, 6, 7, 8, 9, 10, 11] (by kernel_rfl) ?_ ?_
    ·simp [s1, ia, ib, ta, tb]
     refine wA ?_
     try simp [sm]
     refine ha hm ?_
     try simp [ib, tb]
     refine wA ?_
     try simp
     refine hb hm ?_
     try simp
     (repeat refine qA ?_);refine rA ?_
     try simp [s1]
     (repeat refine qA ?_);refine bA ?_
     (repeat refine qA ?_);refine rA ?_
     try simp
     (repeat refine qA ?_);refine fA ?_
     (repeat refine qA ?_);refine rA ?_
     simp
     (repeat refine qA ?_);refine tA ?_
     (repeat refine qA ?_);refine raA ?_
     simp [s1, ib, tb, a1]
     refine oC' (c_isSum b) ?_
     simp
     refine oC' (c_within b.pr (decide (lev b.kind < 2)) (by omega)) ?_
     simp [a1, a2]
     refine AWp.ret (post_retW rfl ⟨_, _, View.refl _ _, ?_⟩)
     simpa [Ex.pr, Ex.prs, prK, sm] using hK
    simp [s1, ia, ib, ta, tb]
    refine wA ?_
    try simp [sm]
    refine ha hm ?_
    try simp [ib, tb]
    refine wA ?_
    try simp
    refine hb hm ?_
    try simp
    (repeat refine qA ?_);refine rA ?_
    try simp [s1]
    (repeat refine qA ?_);refine bA ?_
    (repeat refine qA ?_);refine rA ?_
    try simp
    (repeat refine qA ?_);refine fA ?_
    (repeat refine qA ?_);refine rA ?_
    simp
    (repeat refine qA ?_);refine tA ?_
    (repeat refine qA ?_);refine raA ?_
    simp [s1, ib, tb, a1]
    refine oC' (c_isSum b) ?_
    simp
    refine oC' (c_within b.pr (decide (lev b.kind < 2)) (by omega)) ?_
    simp [a1, a2]
    refine AWp.ret (post_retW rfl ⟨_, _, View.refl _ _, ?_⟩)
    simpa [Ex.pr, Ex.prs, prK, sm] using hK
   ·refine wcall_of Tryz.func31 (by kernel_rfl) rfl (by simp [Tryz.f31]) ?_
    (repeat refine qA ?_);refine rA ?_
    simp [Ex.av]
    intro g1 hg1
    refine AWp.sees (Sees.view (t := 1) (View.freezeB (g := g1) (cs := (Ex.mk 6 0 ⟨#[]⟩ [a, b]).cells) (by simp))) ?_
    have hmm : (m.set g1 (.box (Ex.mk 6 0 ⟨#[]⟩ [a, b]).cells)).del g1 = m := by
     funext q
     unfold Mem.del
     by_cases h : q = g1
     ·rw [if_pos h, h, hg1]
     rw [if_neg h, Mem.set_other h]
    refine AWp.gen (fun st => st.slots 1 = .ref (Ex.mk 6 0 ⟨#[]⟩ [a, b]).cells /\ st.mem = m) ⟨by simp, by simpa using hmm⟩ ?_
    rintro st ⟨s1, sm⟩
    rw [Ex.cells_mk] at s1
    simp only [List.map_cons, List.map_nil] at s1
    (repeat refine qA ?_);refine rA ?_
    simp [s1]
    (repeat refine qA ?_);refine bA ?_
    (repeat refine qA ?_);refine rA ?_
    simp
    (repeat refine qA ?_);refine fA ?_
    (repeat refine qA ?_);refine rA ?_
    simp
    (repeat refine qA ?_);refine fA ?_
    (repeat refine qA ?_);refine rA ?_
    simp
    (repeat refine qA ?_);refine fA ?_
    refine kA ?_
    try simp
    (repeat refine qA ?_);refine AWp.regionX (fun _ => false) (fun j => [1, 3, 6, 8].contains j) [0, 1, 2, 3, 5, 6, 7, 8, 4, 9, 10, 11] [0, 1, 2, 3, 5, 6, 4, 7, 8, 9, 10, 11] 7 4 [0, 1, 2, 3, 4, 5, 6, 7, 8, 9, 10, 11] (by kernel_rfl) ?_ ?_
    ·simp [s1, ia, ib, ta, tb]
     refine wA ?_
     try simp [sm]
     refine ha hm ?_
     try simp [ib, tb]
     refine wA ?_
     try simp
     refine hb hm ?_
     try simp
     (repeat refine qA ?_);refine rA ?_
     try simp [s1]
     (repeat refine qA ?_);refine bA ?_
     (repeat refine qA ?_);refine rA ?_
     try simp
     (repeat refine qA ?_);refine fA ?_
     (repeat refine qA ?_);refine rA ?_
     simp
     (repeat refine qA ?_);refine fA ?_
     (repeat refine qA ?_);refine rA ?_
     simp
     (repeat refine qA ?_);refine tA ?_
     have l1 := brkT_len (decide (lev a.kind < 2)) a.pr
     have l2 := brkT_len (decide (lev b.kind < 3)) b.pr
     have f1 : txt [32, 42, 32] = ⟨#[32, 42, 32]⟩ := rfl
     have a1 := aT (brkT (decide (lev a.kind < 2)) a.pr) [32, 42, 32] (by simp; omega)
     have a2 := aT (brkT (decide (lev a.kind < 2)) a.pr ++ [32, 42, 32]) (brkT (decide (lev b.kind < 3)) b.pr) (by simp; omega)
     rw [f1] at a1
     (repeat refine qA ?_);refine AWp.regionG (fun i => i == 5 || i == 6 || i == 13 || i == 22) (fun _ => false) [0, 1, 2, 3, 4, 5, 6, 7, 8, 9, 10, 11, 12, 13, 14, 15, 16, 17, 18, 19, 20, 21, 22, 23, 24] [0, 1, 2, 3, 4, 5, 6, 7, 8, 9, 10, 11, 12, 13, 14, 15, 16, 17, 18, 19, 20, 21, 22, 23, 24] (by kernel_rfl) ?_
     simp [s1, ia, ta]
     refine oC' (c_isSum a) ?_
     simp
     refine oC' (c_within a.pr (decide (lev a.kind < 2)) (by omega)) ?_
     simp [s1, ib, tb, a1]
     refine oC' (c_isSum b) ?_
     simp [s1, ib, tb]
     have cb : b.cells = [.int .i64 b.kind, .int .i64 b.n, .str b.s, .lst false 4 (b.l.map Ex.av)] := by
      cases b
      exact Ex.cells_mk _ _ _ _
     have w3 : decide (lev b.kind < 3) = (decide (lev b.kind < 2) || decide (b.kind = 6)) := by
      unfold lev
      by_cases q4 : b.kind = 4
      ·simp [q4]
      by_cases q5 : b.kind = 5
      ·simp [q5]
      by_cases q6 : b.kind = 6
      ·simp [q6]
      simp [q4, q5, q6]
     by_cases hb2 : lev b.kind < 2
     ·have w4 : decide (lev b.kind < 3) = true := by rw [w3]; simp [hb2]
      rw [w4] at a2
      simp [hb2]
      refine oC' (c_within b.pr true (by omega)) ?_
      simp [a1, a2]
      refine AWp.ret (post_retW rfl ⟨_, _, View.refl _ _, ?_⟩)
      simpa [Ex.pr, Ex.prs, prK, sm, w4] using hK
     have w4 : decide (lev b.kind < 3) = decide (b.kind = 6) := by rw [w3]; simp [hb2]
     rw [w4] at a2
     simp [hb2, s1, ib, cb]
     refine oC' (c_within b.pr (decide (b.kind = 6)) (by omega)) ?_
     simp [a1, a2]
     refine AWp.ret (post_retW rfl ⟨_, _, View.refl _ _, ?_⟩)
     simpa [Ex.pr, Ex.prs, prK, sm, w4] using hK
    simp [s1, ia, ib, ta, tb]
    refine wA ?_
    try simp [sm]
    refine ha hm ?_
    try simp [ib, tb]
    refine wA ?_
    try simp
    refine hb hm ?_
    try simp
    (repeat refine qA ?_);refine rA ?_
    try simp [s1]
    (repeat refine qA ?_);refine bA ?_
    (repeat refine qA ?_);refine rA ?_
    try simp
    (repeat refine qA ?_);refine fA ?_
    (repeat refine qA ?_);refine rA ?_
    simp
    (repeat refine qA ?_);refine fA ?_
    (repeat refine qA ?_);refine rA ?_
    simp
    (repeat refine qA ?_);refine tA ?_
    have l1 := brkT_len (decide (lev a.kind < 2)) a.pr
    have l2 := brkT_len (decide (lev b.kind < 3)) b.pr
    have f1 : txt [32, 42, 32] = ⟨#[32, 42, 32]⟩ := rfl
    have a1 := aT (brkT (decide (lev a.kind < 2)) a.pr) [32, 42, 32] (by simp; omega)
    have a2 := aT (brkT (decide (lev a.kind < 2)) a.pr ++ [32, 42, 32]) (brkT (decide (lev b.kind < 3)) b.pr) (by simp; omega)
    rw [f1] at a1
    (repeat refine qA ?_);refine AWp.regionG (fun i => i == 5 || i == 6 || i == 13 || i == 22) (fun _ => false) [0, 1, 2, 3, 4, 5, 6, 7, 8, 9, 10, 11, 12, 13, 14, 15, 16, 17, 18, 19, 20, 21, 22, 23, 24] [0, 1, 2, 3, 4, 5, 6, 7, 8, 9, 10, 11, 12, 13, 14, 15, 16, 17, 18, 19, 20, 21, 22, 23, 24] (by kernel_rfl) ?_
    simp [s1, ia, ta]
    refine oC' (c_isSum a) ?_
    simp
    refine oC' (c_within a.pr (decide (lev a.kind < 2)) (by omega)) ?_
    simp [s1, ib, tb, a1]
    refine oC' (c_isSum b) ?_
    simp [s1, ib, tb]
    have cb : b.cells = [.int .i64 b.kind, .int .i64 b.n, .str b.s, .lst false 4 (b.l.map Ex.av)] := by
     cases b
     exact Ex.cells_mk _ _ _ _
    have w3 : decide (lev b.kind < 3) = (decide (lev b.kind < 2) || decide (b.kind = 6)) := by
     unfold lev
     by_cases q4 : b.kind = 4
     ·simp [q4]
     by_cases q5 : b.kind = 5
     ·simp [q5]
     by_cases q6 : b.kind = 6
     ·simp [q6]
     simp [q4, q5, q6]
    by_cases hb2 : lev b.kind < 2
    ·have w4 : decide (lev b.kind < 3) = true := by rw [w3]; simp [hb2]
     rw [w4] at a2
     simp [hb2]
     refine oC' (c_within b.pr true (by omega)) ?_
     simp [a1, a2]
     refine AWp.ret (post_retW rfl ⟨_, _, View.refl _ _, ?_⟩)
     simpa [Ex.pr, Ex.prs, prK, sm, w4] using hK
    have w4 : decide (lev b.kind < 3) = decide (b.kind = 6) := by rw [w3]; simp [hb2]
    rw [w4] at a2
    simp [hb2, s1, ib, cb]
    refine oC' (c_within b.pr (decide (b.kind = 6)) (by omega)) ?_
    simp [a1, a2]
    refine AWp.ret (post_retW rfl ⟨_, _, View.refl _ _, ?_⟩)
    simpa [Ex.pr, Ex.prs, prK, sm, w4] using hK
   ·have f1 : txt [109, 105, 110, 40] = ⟨#[109, 105, 110, 40]⟩ := rfl
    have f2 : txt [44, 32] = ⟨#[44, 32]⟩ := rfl
    have f3 : txt [41] = ⟨#[41]⟩ := rfl
    have a1 := aT [109, 105, 110, 40] a.pr (by simp; omega)
    have a2 := aT ([109, 105, 110, 40] ++ a.pr) [44, 32] (by simp; omega)
    have a3 := aT ([109, 105, 110, 40] ++ a.pr ++ [44, 32]) b.pr (by simp; omega)
    have a4 := aT ([109, 105, 110, 40] ++ a.pr ++ [44, 32] ++ b.pr) [41] (by simp; omega)
    rw [f1] at a1
    rw [f2] at a2
    rw [f3] at a4
    simp only [List.cons_append, List.nil_append, List.append_assoc] at a1 a2 a3 a4
    refine wcall_of Tryz.func31 (by kernel_rfl) rfl (by simp [Tryz.f31]) ?_
    (repeat refine qA ?_);refine rA ?_
    simp [Ex.av]
    intro g1 hg1
    refine AWp.sees (Sees.view (t := 1) (View.freezeB (g := g1) (cs := (Ex.mk 7 0 ⟨#[]⟩ [a, b]).cells) (by simp))) ?_
    have hmm : (m.set g1 (.box (Ex.mk 7 0 ⟨#[]⟩ [a, b]).cells)).del g1 = m := by
     funext q
     unfold Mem.del
     by_cases h : q = g1
     ·rw [if_pos h, h, hg1]
     rw [if_neg h, Mem.set_other h]
    refine AWp.gen (fun st => st.slots 1 = .ref (Ex.mk 7 0 ⟨#[]⟩ [a, b]).cells /\ st.mem = m) ⟨by simp, by simpa using hmm⟩ ?_
    rintro st ⟨s1, sm⟩
    rw [Ex.cells_mk] at s1
    simp only [List.map_cons, List.map_nil] at s1
    (repeat refine qA ?_);refine rA ?_
    simp [s1]
    (repeat refine qA ?_);refine bA ?_
    (repeat refine qA ?_);refine rA ?_
    simp
    (repeat refine qA ?_);refine fA ?_
    (repeat refine qA ?_);refine rA ?_
    simp
    (repeat refine qA ?_);refine fA ?_
    (repeat refine qA ?_);refine rA ?_
    simp
    (repeat refine qA ?_);refine fA ?_
    refine kA ?_
    try simp
    (repeat refine qA ?_);refine AWp.regionX (fun _ => false) (fun j => [1, 3, 6, 8].contains j) [0, 1, 2, 3, 5, 6, 7, 8, 4, 9, 10, 11] [0, 1, 2, 3, 5, 6, 4, 7, 8, 9, 10, 11] 7 4 [0, 1, 2, 3, 4, 5, 6, 7, 8, 9, 10, 11] (by kernel_rfl) ?_ ?_
    ·simp [s1, ia, ib, ta, tb]
     refine wA ?_
     try simp [sm]
     refine ha hm ?_
     try simp [ib, tb]
     refine wA ?_
     try simp
     refine hb hm ?_
     try simp
     (repeat refine qA ?_);refine rA ?_
     try simp [s1]
     (repeat refine qA ?_);refine bA ?_
     (repeat refine qA ?_);refine rA ?_
     try simp
     (repeat refine qA ?_);refine fA ?_
     (repeat refine qA ?_);refine rA ?_
     simp
     (repeat refine qA ?_);refine fA ?_
     (repeat refine qA ?_);refine rA ?_
     simp
     (repeat refine qA ?_);refine fA ?_
     (repeat refine qA ?_);refine rA ?_
     simp
     (repeat refine qA ?_);refine tA ?_
     (repeat refine qA ?_);refine rA ?_
     simp [a1, a2, a3, a4]
     refine AWp.ret (post_retW rfl ⟨_, _, View.refl _ _, ?_⟩)
     simpa [Ex.pr, Ex.prs, prK, sm] using hK
    simp [s1, ia, ib, ta, tb]
    refine wA ?_
    try simp [sm]
    refine ha hm ?_
    try simp [ib, tb]
    refine wA ?_
    try simp
    refine hb hm ?_
    try simp
    (repeat refine qA ?_);refine rA ?_
    try simp [s1]
    (repeat refine qA ?_);refine bA ?_
    (repeat refine qA ?_);refine rA ?_
    try simp
    (repeat refine qA ?_);refine fA ?_
    (repeat refine qA ?_);refine rA ?_
    simp
    (repeat refine qA ?_);refine fA ?_
    (repeat refine qA ?_);refine rA ?_
    simp
    (repeat refine qA ?_);refine fA ?_
    (repeat refine qA ?_);refine rA ?_
    simp
    (repeat refine qA ?_);refine tA ?_
    (repeat refine qA ?_);refine rA ?_
    simp [a1, a2, a3, a4]
    refine AWp.ret (post_retW rfl ⟨_, _, View.refl _ _, ?_⟩)
    simpa [Ex.pr, Ex.prs, prK, sm] using hK
   have f1 : txt [109, 97, 120, 40] = ⟨#[109, 97, 120, 40]⟩ := rfl
   have f2 : txt [44, 32] = ⟨#[44, 32]⟩ := rfl
   have f3 : txt [41] = ⟨#[41]⟩ := rfl
   have a1 := aT [109, 97, 120, 40] a.pr (by simp; omega)
   have a2 := aT ([109, 97, 120, 40] ++ a.pr) [44, 32] (by simp; omega)
   have a3 := aT ([109, 97, 120, 40] ++ a.pr ++ [44, 32]) b.pr (by simp; omega)
   have a4 := aT ([109, 97, 120, 40] ++ a.pr ++ [44, 32] ++ b.pr) [41] (by simp; omega)
   rw [f1] at a1
   rw [f2] at a2
   rw [f3] at a4
   simp only [List.cons_append, List.nil_append, List.append_assoc] at a1 a2 a3 a4
   refine wcall_of Tryz.func31 (by kernel_rfl) rfl (by simp [Tryz.f31]) ?_
   (repeat refine qA ?_);refine rA ?_
   simp [Ex.av]
   intro g1 hg1
   refine AWp.sees (Sees.view (t := 1) (View.freezeB (g := g1) (cs := (Ex.mk 8 0 ⟨#[]⟩ [a, b]).cells) (by simp))) ?_
   have hmm : (m.set g1 (.box (Ex.mk 8 0 ⟨#[]⟩ [a, b]).cells)).del g1 = m := by
    funext q
    unfold Mem.del
    by_cases h : q = g1
    ·rw [if_pos h, h, hg1]
    rw [if_neg h, Mem.set_other h]
   refine AWp.gen (fun st => st.slots 1 = .ref (Ex.mk 8 0 ⟨#[]⟩ [a, b]).cells /\ st.mem = m) ⟨by simp, by simpa using hmm⟩ ?_
   rintro st ⟨s1, sm⟩
   rw [Ex.cells_mk] at s1
   simp only [List.map_cons, List.map_nil] at s1
   (repeat refine qA ?_);refine rA ?_
   simp [s1]
   (repeat refine qA ?_);refine bA ?_
   (repeat refine qA ?_);refine rA ?_
   simp
   (repeat refine qA ?_);refine fA ?_
   (repeat refine qA ?_);refine rA ?_
   simp
   (repeat refine qA ?_);refine fA ?_
   (repeat refine qA ?_);refine rA ?_
   simp
   (repeat refine qA ?_);refine fA ?_
   refine kA ?_
   try simp
   (repeat refine qA ?_);refine AWp.regionX (fun _ => false) (fun j => [1, 3, 6, 8].contains j) [0, 1, 2, 3, 5, 6, 7, 8, 4, 9, 10, 11] [0, 1, 2, 3, 5, 6, 4, 7, 8, 9, 10, 11] 7 4 [0, 1, 2, 3, 4, 5, 6, 7, 8, 9, 10, 11] (by kernel_rfl) ?_ ?_
   ·simp [s1, ia, ib, ta, tb]
    refine wA ?_
    try simp [sm]
    refine ha hm ?_
    try simp [ib, tb]
    refine wA ?_
    try simp
    refine hb hm ?_
    try simp
    (repeat refine qA ?_);refine rA ?_
    try simp [s1]
    (repeat refine qA ?_);refine bA ?_
    (repeat refine qA ?_);refine rA ?_
    try simp
    (repeat refine qA ?_);refine fA ?_
    (repeat refine qA ?_);refine rA ?_
    simp
    (repeat refine qA ?_);refine fA ?_
    (repeat refine qA ?_);refine rA ?_
    simp
    (repeat refine qA ?_);refine fA ?_
    (repeat refine qA ?_);refine rA ?_
    simp
    (repeat refine qA ?_);refine fA ?_
    refine kA ?_
    try simp
    (repeat refine qA ?_);refine rA ?_
    simp [a1, a2, a3, a4]
    refine AWp.ret (post_retW rfl ⟨_, _, View.refl _ _, ?_⟩)
    simpa [Ex.pr, Ex.prs, prK, sm] using hK
   simp [s1, ia, ib, ta, tb]
   refine wA ?_
   try simp [sm]
   refine ha hm ?_
   try simp [ib, tb]
   refine wA ?_
   try simp
   refine hb hm ?_
   try simp
   (repeat refine qA ?_);refine rA ?_
   try simp [s1]
   (repeat refine qA ?_);refine bA ?_
   (repeat refine qA ?_);refine rA ?_
   try simp
   (repeat refine qA ?_);refine fA ?_
   (repeat refine qA ?_);refine rA ?_
   simp
   (repeat refine qA ?_);refine fA ?_
   (repeat refine qA ?_);refine rA ?_
   simp
   (repeat refine qA ?_);refine fA ?_
   (repeat refine qA ?_);refine rA ?_
   simp
   (repeat refine qA ?_);refine fA ?_
   refine kA ?_
   try simp
   (repeat refine qA ?_);refine rA ?_
   simp [a1, a2, a3, a4]
   refine AWp.ret (post_retW rfl ⟨_, _, View.refl _ _, ?_⟩)
   simpa [Ex.pr, Ex.prs, prK, sm] using hK
theorem c_impl_ExpText (e : Ex) (ht : e.tot <= 1048576) {T : TypeId} {m : Mem} (hm : m TB = some (tabBlk T)) {K : AV -> Mem -> Prop} (hK : ∀ m', Ext m m' -> K (.str e.txt) m') : WCall Tryz.prog 8 [e.av] m K := by
 have ho := c_impl_ExpOk e ht
 refine wcall_of Tryz.func8 (by kernel_rfl) rfl (by simp [Tryz.f8]) ?_
 (repeat refine qA ?_);refine rA ?_
 simp [Ex.av]
 intro g1 hg1
 have hgT : TB ≠ g1 := fun e => by rw [<- e, hm] at hg1; cases hg1
 refine AWp.gen (fun st => st.slots 1 = .ptr g1 0 /\ st.mem = m.set g1 (.box e.cells)) ⟨by simp, by simp⟩ ?_
 rintro st ⟨s1, sm⟩
 have w1 : st.mem g1 = some (.box e.cells) := by rw [sm]; exact set_same _ _ _
 have hT : st.mem TB = some (tabBlk T) := by rw [sm, Mem.set_other hgT]; exact hm
 have hE : Ext m st.mem := by rw [sm]; exact ext_set hg1 _
 clear sm
 have tk4 : List.take 4 e.cells = e.cells := List.take_of_length_le (by simp)
 (repeat refine qA ?_);refine raA ?_
 simp [s1, w1, tk4]
 refine oC' ho ?_
 simp
 cases h : e.ok with
 | false =>
  (repeat refine qA ?_);refine tA ?_
  (repeat refine qA ?_);refine rA ?_
  simp
  have hk := hK _ hE
  simp [Ex.txt, h] at hk
  exact AWp.ret (post_retW rfl ⟨_, _, View.refl _ _, by simpa using hk⟩)
 | true =>
  (repeat refine qA ?_);refine fA ?_
  refine kA ?_
  try simp
  obtain ⟨hg, hn, _⟩ := ok_ht h
  (repeat refine qA ?_);refine rA ?_
  simp [s1, w1, tk4]
  refine wA ?_
  try simp
  refine c_expText e.nodes e 1 (Nat.le_refl _) (by omega) hg hT ?_
  try simp
  have hk := hK _ hE
  simp [Ex.txt, h] at hk
  exact AWp.ret (post_retW rfl ⟨_, _, View.refl _ _, by simpa using hk⟩)
theorem lev_pos (k : Int) : 1 <= lev k := by unfold lev; split <;> (try omega); split <;> (try omega); split <;> omega
theorem c_l6Exp : ∀ (N : Nat) (e : Ex) (d : Nat), e.nodes <= N -> e.nodes <= 1000 -> e.good d = true -> PCall Tryz.prog 37 [e.av] (.str (txt e.pr)) := by
 intro N
 induction N with
 | zero =>
  intro e d hN
  obtain ⟨k, n, s, l⟩ := e
  rw [Ex.nodes] at hN
  omega
 | succ N ih =>
  intro e d hN hM hg
  have hz := (pr_len e.nodes e d (Nat.le_refl _) hg).1
  obtain ⟨_, hs⟩ := shape hg
  cases hs with
  | num n h0 h1 =>
   refine pO Tryz.func37 (by kernel_rfl) rfl (by simp [Tryz.f37]) ?_
   (repeat refine qA ?_);refine rA ?_
   simp [Ex.av]
   intro g1
   refine AWp.gen (fun st => st.slots 1 = .ptr g1 0 /\ st.mem g1 = some (.box (Ex.mk 1 n ⟨#[]⟩ []).cells)) ⟨by simp, by simp⟩ ?_
   rintro st ⟨s1, w1⟩
   rw [Ex.cells_mk] at w1
   simp only [List.map_cons, List.map_nil] at w1
   (repeat refine qA ?_);refine rA ?_
   simp [s1, w1]
   (repeat refine qA ?_);refine bA ?_
   (repeat refine qA ?_);refine rA ?_
   simp
   (repeat refine qA ?_);refine tA ?_
   (repeat refine qA ?_);refine raA ?_
   simp [s1, w1]
   refine oC' (c_spec_NumText n (by omega) (by omega)) ?_
   simp
   exact AWp.ret (pR1 rfl (by simp [Ex.pr, Ex.prs, prK, numB, txt]))
  | var s hn =>
   refine pO Tryz.func37 (by kernel_rfl) rfl (by simp [Tryz.f37]) ?_
   (repeat refine qA ?_);refine rA ?_
   simp [Ex.av]
   intro g1
   refine AWp.gen (fun st => st.slots 1 = .ptr g1 0 /\ st.mem g1 = some (.box (Ex.mk 2 0 s []).cells)) ⟨by simp, by simp⟩ ?_
   rintro st ⟨s1, w1⟩
   rw [Ex.cells_mk] at w1
   simp only [List.map_cons, List.map_nil] at w1
   (repeat refine qA ?_);refine rA ?_
   simp [s1, w1]
   (repeat refine qA ?_);refine bA ?_
   (repeat refine qA ?_);refine rA ?_
   simp
   (repeat refine qA ?_);refine fA ?_
   (repeat refine qA ?_);refine rA ?_
   simp
   (repeat refine qA ?_);refine tA ?_
   (repeat refine qA ?_);refine rA ?_
   simp [s1, w1]
   exact AWp.ret (pR1 rfl (by simp [Ex.pr, Ex.prs, prK, txt]))
  | at_ s a hn ha =>
   have hnn : a.nodes <= N /\ a.nodes <= 1000 := by simp only [Ex.nodes, Ex.nodess] at hN hM; omega
   have hza := (pr_len a.nodes a _ (Nat.le_refl _) ha).1
   have ha := ih a _ hnn.1 hnn.2 ha
   have hsl := name_len hn
   obtain ⟨w, rfl⟩ : ∃ w, s = txt w := ⟨s.data.toList, (mk_list s).symm⟩
   have hw : (txt w).data.toList = w := list_mk w
   rw [hw] at hsl
   have f1 : txt [91] = ⟨#[91]⟩ := rfl
   have f2 : txt [93] = ⟨#[93]⟩ := rfl
   have a1 := aT w [91] (by simp; omega)
   have a2 := aT (w ++ [91]) a.pr (by simp; omega)
   have a3 := aT (w ++ [91] ++ a.pr) [93] (by simp; omega)
   rw [f1] at a1
   rw [f2] at a3
   simp only [List.append_assoc, List.cons_append, List.nil_append] at a1 a2 a3
   have ia : ∀ m, idxA Tryz.prog m 24 (.lst false 4 [a.av]) (.int .i64 0) = some (.ref a.cells) := fun m => idx (y := a.av) es_24 (by simp)
   have ta : List.take 4 a.cells = a.cells := List.take_of_length_le (by simp)
   refine pO Tryz.func37 (by kernel_rfl) rfl (by simp [Tryz.f37]) ?_
   (repeat refine qA ?_);refine rA ?_
   simp [Ex.av]
   intro g1
   refine AWp.gen (fun st => st.slots 1 = .ptr g1 0 /\ st.mem g1 = some (.box (Ex.mk 3 0 (txt w) [a]).cells)) ⟨by simp, by simp⟩ ?_
   rintro st ⟨s1, w1⟩
   rw [Ex.cells_mk] at w1
   simp only [List.map_cons, List.map_nil] at w1
   (repeat refine qA ?_);refine rA ?_
   simp [s1, w1]
   (repeat refine qA ?_);refine bA ?_
   (repeat refine qA ?_);refine rA ?_
   simp
   (repeat refine qA ?_);refine fA ?_
   (repeat refine qA ?_);refine rA ?_
   simp
   (repeat refine qA ?_);refine fA ?_
   (repeat refine qA ?_);refine rA ?_
   simp
   (repeat refine qA ?_);refine tA ?_
   (repeat refine qA ?_);refine AWp.regionG (fun i => i == 7) (fun _ => false) [0, 1, 2, 3, 4, 5, 6, 7, 8, 9, 10] [0, 1, 2, 3, 4, 5, 6, 7, 8, 9, 10] (by kernel_rfl) ?_
   simp [s1, w1, ia, ta, a1]
   refine oC' ha ?_
   simp [a1, a2, a3]
   exact AWp.ret (pR1 rfl (by simp [Ex.pr, Ex.prs, prK, hw]))
  | two k a b k0 k1 ha hb =>
   have hnn : a.nodes <= N /\ a.nodes <= 1000 := by simp only [Ex.nodes, Ex.nodess] at hN hM; omega
   have hnm : b.nodes <= N /\ b.nodes <= 1000 := by simp only [Ex.nodes, Ex.nodess] at hN hM; omega
   have hza := (pr_len a.nodes a _ (Nat.le_refl _) ha).1
   have hzb := (pr_len b.nodes b _ (Nat.le_refl _) hb).1
   have ha := ih a _ hnn.1 hnn.2 ha
   have hb := ih b _ hnm.1 hnm.2 hb
   have ia : ∀ m, idxA Tryz.prog m 24 (.lst false 4 [a.av, b.av]) (.int .i64 0) = some (.ref a.cells) := fun m => idx (y := a.av) es_24 (by simp)
   have ib : ∀ m, idxA Tryz.prog m 24 (.lst false 4 [a.av, b.av]) (.int .i64 1) = some (.ref b.cells) := fun m => idx (y := b.av) es_24 (by simp)
   have ta : List.take 4 a.cells = a.cells := List.take_of_length_le (by simp)
   have tb : List.take 4 b.cells = b.cells := List.take_of_length_le (by simp)
   have hk : k = 4 ∨ k = 5 ∨ k = 6 ∨ k = 7 ∨ k = 8 := by omega
   clear hz hN hM hg k0 k1
   rcases hk with rfl | rfl | rfl | rfl | rfl
   ·refine pO Tryz.func37 (by kernel_rfl) rfl (by simp [Tryz.f37]) ?_
    (repeat refine qA ?_);refine rA ?_
    simp [Ex.av]
    intro g1
    refine AWp.gen (fun st => st.slots 1 = .ptr g1 0 /\ st.mem g1 = some (.box (Ex.mk 4 0 ⟨#[]⟩ [a, b]).cells)) ⟨by simp, by simp⟩ ?_
    rintro st ⟨s1, w1⟩
    rw [Ex.cells_mk] at w1
    simp only [List.map_cons, List.map_nil] at w1
    (repeat refine qA ?_);refine rA ?_
    simp [s1, w1]
    (repeat refine qA ?_);refine bA ?_
    (repeat refine qA ?_);refine rA ?_
    simp
    (repeat refine qA ?_);refine fA ?_
    (repeat refine qA ?_);refine rA ?_
    simp
    (repeat refine qA ?_);refine fA ?_
    (repeat refine qA ?_);refine rA ?_
    simp
    (repeat refine qA ?_);refine fA ?_
    (repeat refine qA ?_);refine rA ?_
    simp
    (repeat refine qA ?_);refine tA ?_
    have c1 := c_l6At a 1 (by omega) ha
    have c2 := c_l6At b 2 (by omega) hb
    have b1 : brkT (decide ((lev a.kind : Int) < 1)) a.pr = a.pr := by rw [show decide ((lev a.kind : Int) < 1) = false from decide_eq_false (by have := lev_pos a.kind; omega)]; rfl
    have b2 : decide ((lev b.kind : Int) < 2) = decide (lev b.kind < 2) := by simp only [decide_eq_decide]; omega
    rw [b1] at c1
    rw [b2] at c2
    have l1 := brkT_len (decide (lev a.kind < 1)) a.pr
    have l2 := brkT_len (decide (lev b.kind < 2)) b.pr
    have f1 : txt [32, 43, 32] = ⟨#[32, 43, 32]⟩ := rfl
    have a1 := aT (a.pr) [32, 43, 32] (by simp; omega)
    have a2 := aT (a.pr ++ [32, 43, 32]) (brkT (decide (lev b.kind < 2)) b.pr) (by simp; omega)
    rw [f1] at a1
    (repeat refine qA ?_);refine AWp.regionG (fun i => i == 4 || i == 10) (fun _ => false) [0, 1, 2, 3, 4, 5, 6, 7, 8, 9, 10, 11, 12] [0, 1, 2, 3, 4, 5, 6, 7, 8, 9, 10, 11, 12] (by kernel_rfl) ?_
    simp [s1, w1, ia, ib, ta, tb]
    refine oC' c1 ?_
    simp [s1, w1, ia, ib, ta, tb, a1]
    refine oC' c2 ?_
    simp [a1, a2]
    exact AWp.ret (pR1 rfl (by simp [Ex.pr, Ex.prs, prK]))
   ·refine pO Tryz.func37 (by kernel_rfl) rfl (by simp [Tryz.f37]) ?_
    (repeat refine qA ?_);refine rA ?_
    simp [Ex.av]
    intro g1
    refine AWp.gen (fun st => st.slots 1 = .ptr g1 0 /\ st.mem g1 = some (.box (Ex.mk 5 0 ⟨#[]⟩ [a, b]).cells)) ⟨by simp, by simp⟩ ?_
    rintro st ⟨s1, w1⟩
    rw [Ex.cells_mk] at w1
    simp only [List.map_cons, List.map_nil] at w1
    (repeat refine qA ?_);refine rA ?_
    simp [s1, w1]
    (repeat refine qA ?_);refine bA ?_
    (repeat refine qA ?_);refine rA ?_
    simp
    (repeat refine qA ?_);refine fA ?_
    (repeat refine qA ?_);refine rA ?_
    simp
    (repeat refine qA ?_);refine fA ?_
    (repeat refine qA ?_);refine rA ?_
    simp
    (repeat refine qA ?_);refine fA ?_
    (repeat refine qA ?_);refine rA ?_
    simp
    (repeat refine qA ?_);refine fA ?_
    (repeat refine qA ?_);refine rA ?_
    simp
    (repeat refine qA ?_);refine tA ?_
    have c1 := c_l6At a 1 (by omega) ha
    have c2 := c_l6At b 2 (by omega) hb
    have b1 : brkT (decide ((lev a.kind : Int) < 1)) a.pr = a.pr := by rw [show decide ((lev a.kind : Int) < 1) = false from decide_eq_false (by have := lev_pos a.kind; omega)]; rfl
    have b2 : decide ((lev b.kind : Int) < 2) = decide (lev b.kind < 2) := by simp only [decide_eq_decide]; omega
    rw [b1] at c1
    rw [b2] at c2
    have l1 := brkT_len (decide (lev a.kind < 1)) a.pr
    have l2 := brkT_len (decide (lev b.kind < 2)) b.pr
    have f1 : txt [32, 45, 32] = ⟨#[32, 45, 32]⟩ := rfl
    have a1 := aT (a.pr) [32, 45, 32] (by simp; omega)
    have a2 := aT (a.pr ++ [32, 45, 32]) (brkT (decide (lev b.kind < 2)) b.pr) (by simp; omega)
    rw [f1] at a1
    (repeat refine qA ?_);refine AWp.regionG (fun i => i == 4 || i == 10) (fun _ => false) [0, 1, 2, 3, 4, 5, 6, 7, 8, 9, 10, 11, 12] [0, 1, 2, 3, 4, 5, 6, 7, 8, 9, 10, 11, 12] (by kernel_rfl) ?_
    simp [s1, w1, ia, ib, ta, tb]
    refine oC' c1 ?_
    simp [s1, w1, ia, ib, ta, tb, a1]
    refine oC' c2 ?_
    simp [a1, a2]
    exact AWp.ret (pR1 rfl (by simp [Ex.pr, Ex.prs, prK]))
   ·refine pO Tryz.func37 (by kernel_rfl) rfl (by simp [Tryz.f37]) ?_
    (repeat refine qA ?_);refine rA ?_
    simp [Ex.av]
    intro g1
    refine AWp.gen (fun st => st.slots 1 = .ptr g1 0 /\ st.mem g1 = some (.box (Ex.mk 6 0 ⟨#[]⟩ [a, b]).cells)) ⟨by simp, by simp⟩ ?_
    rintro st ⟨s1, w1⟩
    rw [Ex.cells_mk] at w1
    simp only [List.map_cons, List.map_nil] at w1
    (repeat refine qA ?_);refine rA ?_
    simp [s1, w1]
    (repeat refine qA ?_);refine bA ?_
    (repeat refine qA ?_);refine rA ?_
    simp
    (repeat refine qA ?_);refine fA ?_
    (repeat refine qA ?_);refine rA ?_
    simp
    (repeat refine qA ?_);refine fA ?_
    (repeat refine qA ?_);refine rA ?_
    simp
    (repeat refine qA ?_);refine fA ?_
    (repeat refine qA ?_);refine rA ?_
    simp
    (repeat refine qA ?_);refine fA ?_
    (repeat refine qA ?_);refine rA ?_
    simp
    (repeat refine qA ?_);refine fA ?_
    (repeat refine qA ?_);refine rA ?_
    simp
    (repeat refine qA ?_);refine tA ?_
    have c1 := c_l6At a 2 (by omega) ha
    have c2 := c_l6At b 3 (by omega) hb
    have b1 : decide ((lev a.kind : Int) < 2) = decide (lev a.kind < 2) := by simp only [decide_eq_decide]; omega
    have b2 : decide ((lev b.kind : Int) < 3) = decide (lev b.kind < 3) := by simp only [decide_eq_decide]; omega
    rw [b1] at c1
    rw [b2] at c2
    have l1 := brkT_len (decide (lev a.kind < 2)) a.pr
    have l2 := brkT_len (decide (lev b.kind < 3)) b.pr
    have f1 : txt [32, 42, 32] = ⟨#[32, 42, 32]⟩ := rfl
    have a1 := aT (brkT (decide (lev a.kind < 2)) a.pr) [32, 42, 32] (by simp; omega)
    have a2 := aT (brkT (decide (lev a.kind < 2)) a.pr ++ [32, 42, 32]) (brkT (decide (lev b.kind < 3)) b.pr) (by simp; omega)
    rw [f1] at a1
    (repeat refine qA ?_);refine AWp.regionG (fun i => i == 4 || i == 10) (fun _ => false) [0, 1, 2, 3, 4, 5, 6, 7, 8, 9, 10, 11, 12] [0, 1, 2, 3, 4, 5, 6, 7, 8, 9, 10, 11, 12] (by kernel_rfl) ?_
    simp [s1, w1, ia, ib, ta, tb]
    refine oC' c1 ?_
    simp [s1, w1, ia, ib, ta, tb, a1]
    refine oC' c2 ?_
    simp [a1, a2]
    exact AWp.ret (pR1 rfl (by simp [Ex.pr, Ex.prs, prK]))
   ·refine pO Tryz.func37 (by kernel_rfl) rfl (by simp [Tryz.f37]) ?_
    (repeat refine qA ?_);refine rA ?_
    simp [Ex.av]
    intro g1
    refine AWp.gen (fun st => st.slots 1 = .ptr g1 0 /\ st.mem g1 = some (.box (Ex.mk 7 0 ⟨#[]⟩ [a, b]).cells)) ⟨by simp, by simp⟩ ?_
    rintro st ⟨s1, w1⟩
    rw [Ex.cells_mk] at w1
    simp only [List.map_cons, List.map_nil] at w1
    (repeat refine qA ?_);refine rA ?_
    simp [s1, w1]
    (repeat refine qA ?_);refine bA ?_
    (repeat refine qA ?_);refine rA ?_
    simp
    (repeat refine qA ?_);refine fA ?_
    (repeat refine qA ?_);refine rA ?_
    simp
    (repeat refine qA ?_);refine fA ?_
    (repeat refine qA ?_);refine rA ?_
    simp
    (repeat refine qA ?_);refine fA ?_
    (repeat refine qA ?_);refine rA ?_
    simp
    (repeat refine qA ?_);refine fA ?_
    (repeat refine qA ?_);refine rA ?_
    simp
    (repeat refine qA ?_);refine fA ?_
    (repeat refine qA ?_);refine rA ?_
    simp
    (repeat refine qA ?_);refine fA ?_
    (repeat refine qA ?_);refine rA ?_
    simp
    (repeat refine qA ?_);refine tA ?_
    have f1 : txt [109, 105, 110, 40] = ⟨#[109, 105, 110, 40]⟩ := rfl
    have f2 : txt [44, 32] = ⟨#[44, 32]⟩ := rfl
    have f3 : txt [41] = ⟨#[41]⟩ := rfl
    have a1 := aT [109, 105, 110, 40] a.pr (by simp; omega)
    have a2 := aT ([109, 105, 110, 40] ++ a.pr) [44, 32] (by simp; omega)
    have a3 := aT ([109, 105, 110, 40] ++ a.pr ++ [44, 32]) b.pr (by simp; omega)
    have a4 := aT ([109, 105, 110, 40] ++ a.pr ++ [44, 32] ++ b.pr) [41] (by simp; omega)
    rw [f1] at a1
    rw [f2] at a2
    rw [f3] at a4
    simp only [List.cons_append, List.nil_append, List.append_assoc] at a1 a2 a3 a4
    (repeat refine qA ?_);refine AWp.regionG (fun i => i == 4 || i == 11) (fun _ => false) [0, 1, 2, 3, 4, 5, 6, 7, 8, 9, 10, 11, 12, 13, 14] [0, 1, 2, 3, 4, 5, 6, 7, 8, 9, 10, 11, 12, 13, 14] (by kernel_rfl) ?_
    simp [s1, w1, ia, ib, ta, tb]
    refine oC' ha ?_
    simp [s1, w1, ia, ib, ta, tb, a1, a2]
    refine oC' hb ?_
    simp [a1, a2, a3, a4]
    exact AWp.ret (pR1 rfl (by simp [Ex.pr, Ex.prs, prK]))
   refine pO Tryz.func37 (by kernel_rfl) rfl (by simp [Tryz.f37]) ?_
   (repeat refine qA ?_);refine rA ?_
   simp [Ex.av]
   intro g1
   refine AWp.gen (fun st => st.slots 1 = .ptr g1 0 /\ st.mem g1 = some (.box (Ex.mk 8 0 ⟨#[]⟩ [a, b]).cells)) ⟨by simp, by simp⟩ ?_
   rintro st ⟨s1, w1⟩
   rw [Ex.cells_mk] at w1
   simp only [List.map_cons, List.map_nil] at w1
   (repeat refine qA ?_);refine rA ?_
   simp [s1, w1]
   (repeat refine qA ?_);refine bA ?_
   (repeat refine qA ?_);refine rA ?_
   simp
   (repeat refine qA ?_);refine fA ?_
   (repeat refine qA ?_);refine rA ?_
   simp
   (repeat refine qA ?_);refine fA ?_
   (repeat refine qA ?_);refine rA ?_
   simp
   (repeat refine qA ?_);refine fA ?_
   (repeat refine qA ?_);refine rA ?_
   simp
   (repeat refine qA ?_);refine fA ?_
   (repeat refine qA ?_);refine rA ?_
   simp
   (repeat refine qA ?_);refine fA ?_
   (repeat refine qA ?_);refine rA ?_
   simp
   (repeat refine qA ?_);refine fA ?_
   (repeat refine qA ?_);refine rA ?_
   simp
   (repeat refine qA ?_);refine fA ?_
   refine kA ?_
   try simp
   have f1 : txt [109, 97, 120, 40] = ⟨#[109, 97, 120, 40]⟩ := rfl
   have f2 : txt [44, 32] = ⟨#[44, 32]⟩ := rfl
   have f3 : txt [41] = ⟨#[41]⟩ := rfl
   have a1 := aT [109, 97, 120, 40] a.pr (by simp; omega)
   have a2 := aT ([109, 97, 120, 40] ++ a.pr) [44, 32] (by simp; omega)
   have a3 := aT ([109, 97, 120, 40] ++ a.pr ++ [44, 32]) b.pr (by simp; omega)
   have a4 := aT ([109, 97, 120, 40] ++ a.pr ++ [44, 32] ++ b.pr) [41] (by simp; omega)
   rw [f1] at a1
   rw [f2] at a2
   rw [f3] at a4
   simp only [List.cons_append, List.nil_append, List.append_assoc] at a1 a2 a3 a4
   (repeat refine qA ?_);refine AWp.regionG (fun i => i == 4 || i == 11) (fun _ => false) [0, 1, 2, 3, 4, 5, 6, 7, 8, 9, 10, 11, 12, 13, 14] [0, 1, 2, 3, 4, 5, 6, 7, 8, 9, 10, 11, 12, 13, 14] (by kernel_rfl) ?_
   simp [s1, w1, ia, ib, ta, tb]
   refine oC' ha ?_
   simp [s1, w1, ia, ib, ta, tb, a1, a2]
   refine oC' hb ?_
   simp [a1, a2, a3, a4]
   exact AWp.ret (pR1 rfl (by simp [Ex.pr, Ex.prs, prK]))
theorem c_spec_ExpText (e : Ex) (ht : e.tot <= 1048576) : PCall Tryz.prog 11 [e.av] (.str e.txt) := by
 have ho := xEO e ht
 refine pO Tryz.func11 (by kernel_rfl) rfl (by simp [Tryz.f11]) ?_
 (repeat refine qA ?_);refine rA ?_
 simp [Ex.av]
 intro g1
 refine AWp.gen (fun st => st.slots 1 = .ptr g1 0 /\ st.mem g1 = some (.box e.cells)) ⟨by simp, by simp⟩ ?_
 rintro st ⟨s1, w1⟩
 have tk4 : List.take 4 e.cells = e.cells := List.take_of_length_le (by simp)
 (repeat refine qA ?_);refine raA ?_
 simp [s1, w1, tk4]
 refine oC' ho ?_
 simp
 cases h : e.ok with
 | false =>
  (repeat refine qA ?_);refine tA ?_
  (repeat refine qA ?_);refine rA ?_
  simp
  exact AWp.ret (pR1 rfl (by simp [Ex.txt, h] <;> rfl))
 | true =>
  (repeat refine qA ?_);refine fA ?_
  refine kA ?_
  try simp
  obtain ⟨hg, hn, _⟩ := ok_ht h
  (repeat refine qA ?_);refine raA ?_
  simp [s1, w1, tk4]
  refine oC' (c_l6Exp e.nodes e 1 (Nat.le_refl _) (by omega) hg) ?_
  simp
  exact AWp.ret (pR1 rfl (by simp [Ex.txt, h]))
theorem prs_take {l : List Sm} {i : Nat} (h : i < l.length) (pad : List UInt8) : Sm.prs (l.take (i + 1)) pad = Sm.prs (l.take i) pad ++ l[i].pr pad := by
 rw [<- List.take_append_getElem h, prs_app]
 simp [Sm.prs]
theorem prs_split (l : List Sm) (i : Nat) (pad : List UInt8) : (Sm.prs (l.take i) pad).length <= (Sm.prs l pad).length := by
 have := congrArg List.length (prs_app pad (l.take i) (l.drop i))
 rw [List.take_append_drop, List.length_append] at this
 omega
theorem c_l6Body : ∀ (N : Nat) (l : List Sm) (d : Nat) (pad : List UInt8), Sm.sizes l <= N -> N <= 1000 -> Sm.rights l d = true -> pad.length <= 2 * d -> d <= 3 -> PCall Tryz.prog 39 [.lst false 19 (l.map Sm.av), .str (txt pad)] (.str (txt (Sm.prs l pad))) := by
 intro N
 induction N with
 | zero =>
  intro l d pad hN _ hR hp hd
  have hl : l = [] := by
   cases l with
   | nil => rfl
   | cons x l =>
    obtain ⟨k, s, a, e, lo, hi, b⟩ := x
    rw [Sm.sizes, Sm.size] at hN
    omega
  subst hl
  refine pO Tryz.func39 (by kernel_rfl) rfl (by simp [Tryz.f39]) ?_
  (repeat refine qA ?_);refine rA ?_
  simp
  (repeat refine qA ?_);refine rA ?_
  simp
  (repeat refine qA ?_);refine rA ?_
  simp
  (repeat refine qA ?_);refine AWp.block (AWp.rounds (fun q st => st.slots 0 = .lst false 19 [] /\ st.slots 5 = .str ⟨#[]⟩ /\ st.slots 6 = .int .i64 0) 0 ⟨by simp, by first | (simp; done) | rfl, by simp⟩ ?_)
  rintro RR q st hRR ⟨s0, s5, s6⟩
  (repeat refine qA ?_);refine rA ?_
  simp [s0, s6]
  (repeat refine qA ?_);refine fA ?_
  refine eA ?_
  try simp
  (repeat refine qA ?_);refine rA ?_
  simp [s5]
  exact AWp.ret (pR1 rfl (by simp [Sm.prs, txt]))
 | succ N ih =>
  intro l d pad hN hM hR hp hd
  have hz := (sm_len (N + 1)).2 l d pad hN hR hp hd
  have hln : l.length <= Sm.sizes l := by
   clear hN hR hz
   induction l with
   | nil => simp
   | cons x l ih2 =>
    have : 1 <= x.size := by obtain ⟨k, s, a, e, lo, hi, b⟩ := x; rw [Sm.size]; omega
    rw [Sm.sizes, List.length_cons]
    omega
  refine pO Tryz.func39 (by kernel_rfl) rfl (by simp [Tryz.f39]) ?_
  (repeat refine qA ?_);refine rA ?_
  simp
  (repeat refine qA ?_);refine rA ?_
  simp
  (repeat refine qA ?_);refine rA ?_
  simp
  (repeat refine qA ?_);refine AWp.block (AWp.rounds (fun q st => ∃ i : Nat, q = l.length - i /\ i <= l.length /\ st.slots 0 = .lst false 19 (l.map Sm.av) /\ st.slots 1 = .str (txt pad) /\ st.slots 5 = .str (txt (Sm.prs (l.take i) pad)) /\ st.slots 6 = .int .i64 i) l.length ⟨0, by simp, by simp, by simp, by simp, by first | (simp [Sm.prs, txt]; done) | (simp [Sm.prs, txt]; rfl), by simp⟩ ?_)
  rintro RR q st hRR ⟨i, rfl, hi, s0, s1, s5, s6⟩
  by_cases hbl : i < l.length
  ·have hx : ∀ m, idxA Tryz.prog m 30 (.lst false 19 (l.map Sm.av)) (.int .i64 i) = some (.ref l[i].cells) := fun m => idx (y := l[i].av) es_30 (by simp [List.getElem?_eq_getElem hbl])
   have hw := iA i (by omega)
   have hnx := prs_take hbl pad
   have hA := prs_split l i pad
   have hrx := rights_mem hR _ (List.getElem_mem hbl)
   have hmem := List.getElem_mem hbl
   generalize Sm.prs (l.take i) pad = A at *
   have hz2 : A.length <= 1100000 := by
    have := Nat.mul_le_mul_left 1100 (show Sm.sizes l <= 1000 by omega)
    omega
   (repeat refine qA ?_);refine rA ?_
   simp [s0, s6, hbl]
   (repeat refine qA ?_);refine tA ?_
   refine kA ?_
   try simp
   obtain ⟨M, hM2⟩ : ∃ M : St -> Prop, M = (fun st => st.slots 0 = .lst false 19 (l.map Sm.av) /\ st.slots 1 = .str (txt pad) /\ st.slots 5 = .str (txt (A ++ l[i].pr pad)) /\ st.slots 6 = .int .i64 i) := ⟨_, rfl⟩
   (repeat refine qA ?_);refine AWp.cutA M ?_ ?_
   ·(repeat refine qA ?_);refine bA ?_
    (repeat refine qA ?_);refine rA ?_
    simp [s0, s6, hx]
    intro g hgn
    have hcl : l[i].cells.length = 19 := by simp
    have hcd : List.drop 19 l[i].cells = [] := List.drop_eq_nil_of_le (by omega)
    have hct : List.take 19 l[i].cells = l[i].cells := List.take_of_length_le (by omega)
    refine AWp.gen (fun st => st.slots 0 = .lst false 19 (l.map Sm.av) /\ st.slots 1 = .str (txt pad) /\ st.slots 5 = .str (txt A) /\ st.slots 6 = .int .i64 i /\ st.slots 7 = .ptr g 0 /\ st.mem g = some (.box l[i].cells)) ⟨by simp [s0], by simp [s1], by simp [s5], by simp [s6], by simp, by simp [hcd, hct]⟩ ?_
    clear s0 s1 s5 s6 hcl hcd hct hx
    generalize l[i] = z at *
    rintro st ⟨s0, s1, s5, s6, s7, w7⟩
    have hM := hM2
    cases shapeS hrx with
    | set s e hs he =>
     obtain ⟨w, rfl⟩ : ∃ w, s = txt w := ⟨s.data.toList, (mk_list s).symm⟩
     have hwl : (txt w).data.toList = w := list_mk w
     have hsl := name_len hs
     rw [hwl] at hsl
     have ze := ok_len he
     obtain ⟨ge, ne, _⟩ := ok_ht he
     have ce := c_l6Exp e.nodes e 1 (Nat.le_refl _) (by omega) ge
     simp only [smSet, smPut, smFor, smPrint, Sm.cells_mk, zE, Ex.cells_mk, List.map_nil, List.cons_append, List.nil_append] at w7
     obtain ⟨x1, dx1⟩ : ∃ x, x = A ++ pad := ⟨_, rfl⟩
     have lx1 : x1.length = A.length + pad.length := by rw [dx1]; first | (simp; done) | (simp; omega)
     have ax1 : binA .add (.str (txt A)) (.str (txt pad)) = some (.str (txt x1)) := by rw [dx1]; exact aT A pad (by omega)
     obtain ⟨x2, dx2⟩ : ∃ x, x = x1 ++ w := ⟨_, rfl⟩
     have lx2 : x2.length = x1.length + w.length := by rw [dx2]; first | (simp; done) | (simp; omega)
     have ax2 : binA .add (.str (txt x1)) (.str (txt w)) = some (.str (txt x2)) := by rw [dx2]; exact aT x1 w (by omega)
     obtain ⟨x3, dx3⟩ : ∃ x, x = x2 ++ [32, 61, 32] := ⟨_, rfl⟩
     have lx3 : x3.length = x2.length + [32, 61, 32].length := by rw [dx3]; first | (simp; done) | (simp; omega)
     have kx3 : List.length ([32, 61, 32] : List UInt8) = 3 := rfl
     have ax3 : binA .add (.str (txt x2)) (.str (⟨#[32, 61, 32]⟩)) = some (.str (txt x3)) := by rw [dx3]; exact aT x2 [32, 61, 32] (by omega)
     obtain ⟨x4, dx4⟩ : ∃ x, x = x3 ++ e.pr := ⟨_, rfl⟩
     have lx4 : x4.length = x3.length + e.pr.length := by rw [dx4]; first | (simp; done) | (simp; omega)
     have ax4 : binA .add (.str (txt x3)) (.str (txt e.pr)) = some (.str (txt x4)) := by rw [dx4]; exact aT x3 e.pr (by omega)
     obtain ⟨x5, dx5⟩ : ∃ x, x = x4 ++ [59, 10] := ⟨_, rfl⟩
     have lx5 : x5.length = x4.length + [59, 10].length := by rw [dx5]; first | (simp; done) | (simp; omega)
     have kx5 : List.length ([59, 10] : List UInt8) = 2 := rfl
     have ax5 : binA .add (.str (txt x4)) (.str (⟨#[59, 10]⟩)) = some (.str (txt x5)) := by rw [dx5]; exact aT x4 [59, 10] (by omega)
     (repeat refine qA ?_);refine rA ?_
     simp [s7, w7]
     (repeat refine qA ?_);refine bA ?_
     (repeat refine qA ?_);refine rA ?_
     simp
     (repeat refine qA ?_);refine tA ?_
     (repeat refine qA ?_);refine AWp.regionG (fun i => i == 9) (fun _ => false) [0, 1, 2, 3, 4, 5, 6, 7, 8, 9, 10, 11, 12] [0, 1, 2, 3, 4, 5, 6, 7, 8, 9, 10, 11, 12] (by kernel_rfl) ?_
     simp [s0, s1, s5, s6, s7, w7, ax1, ax2, ax3, ax4, ax5]
     refine oC' (ce) ?_
     simp [s0, s1, s5, s6, s7, w7, ax1, ax2, ax3, ax4, ax5]
     subst hM
     refine ⟨by simp [s0], by simp [s1], ?_, by simp [s6]⟩
     simp
     rw [dx5, dx4, dx3, dx2, dx1]
     simp [smSet, hwl, Sm.pr, forT, toT, prT]
    | put s a e hs ha he =>
     obtain ⟨w, rfl⟩ : ∃ w, s = txt w := ⟨s.data.toList, (mk_list s).symm⟩
     have hwl : (txt w).data.toList = w := list_mk w
     have hsl := name_len hs
     rw [hwl] at hsl
     have za := ok_len ha
     obtain ⟨ga, na, _⟩ := ok_ht ha
     have ca := c_l6Exp a.nodes a 1 (Nat.le_refl _) (by omega) ga
     have ze := ok_len he
     obtain ⟨ge, ne, _⟩ := ok_ht he
     have ce := c_l6Exp e.nodes e 1 (Nat.le_refl _) (by omega) ge
     simp only [smSet, smPut, smFor, smPrint, Sm.cells_mk, zE, Ex.cells_mk, List.map_nil, List.cons_append, List.nil_append] at w7
     obtain ⟨x1, dx1⟩ : ∃ x, x = A ++ pad := ⟨_, rfl⟩
     have lx1 : x1.length = A.length + pad.length := by rw [dx1]; first | (simp; done) | (simp; omega)
     have ax1 : binA .add (.str (txt A)) (.str (txt pad)) = some (.str (txt x1)) := by rw [dx1]; exact aT A pad (by omega)
     obtain ⟨x2, dx2⟩ : ∃ x, x = x1 ++ w := ⟨_, rfl⟩
     have lx2 : x2.length = x1.length + w.length := by rw [dx2]; first | (simp; done) | (simp; omega)
     have ax2 : binA .add (.str (txt x1)) (.str (txt w)) = some (.str (txt x2)) := by rw [dx2]; exact aT x1 w (by omega)
     obtain ⟨x3, dx3⟩ : ∃ x, x = x2 ++ [91] := ⟨_, rfl⟩
     have lx3 : x3.length = x2.length + [91].length := by rw [dx3]; first | (simp; done) | (simp; omega)
     have kx3 : List.length ([91] : List UInt8) = 1 := rfl
     have ax3 : binA .add (.str (txt x2)) (.str (⟨#[91]⟩)) = some (.str (txt x3)) := by rw [dx3]; exact aT x2 [91] (by omega)
     obtain ⟨x4, dx4⟩ : ∃ x, x = x3 ++ a.pr := ⟨_, rfl⟩
     have lx4 : x4.length = x3.length + a.pr.length := by rw [dx4]; first | (simp; done) | (simp; omega)
     have ax4 : binA .add (.str (txt x3)) (.str (txt a.pr)) = some (.str (txt x4)) := by rw [dx4]; exact aT x3 a.pr (by omega)
     obtain ⟨x5, dx5⟩ : ∃ x, x = x4 ++ [93, 32, 61, 32] := ⟨_, rfl⟩
     have lx5 : x5.length = x4.length + [93, 32, 61, 32].length := by rw [dx5]; first | (simp; done) | (simp; omega)
     have kx5 : List.length ([93, 32, 61, 32] : List UInt8) = 4 := rfl
     have ax5 : binA .add (.str (txt x4)) (.str (⟨#[93, 32, 61, 32]⟩)) = some (.str (txt x5)) := by rw [dx5]; exact aT x4 [93, 32, 61, 32] (by omega)
     obtain ⟨x6, dx6⟩ : ∃ x, x = x5 ++ e.pr := ⟨_, rfl⟩
     have lx6 : x6.length = x5.length + e.pr.length := by rw [dx6]; first | (simp; done) | (simp; omega)
     have ax6 : binA .add (.str (txt x5)) (.str (txt e.pr)) = some (.str (txt x6)) := by rw [dx6]; exact aT x5 e.pr (by omega)
     obtain ⟨x7, dx7⟩ : ∃ x, x = x6 ++ [59, 10] := ⟨_, rfl⟩
     have lx7 : x7.length = x6.length + [59, 10].length := by rw [dx7]; first | (simp; done) | (simp; omega)
     have kx7 : List.length ([59, 10] : List UInt8) = 2 := rfl
     have ax7 : binA .add (.str (txt x6)) (.str (⟨#[59, 10]⟩)) = some (.str (txt x7)) := by rw [dx7]; exact aT x6 [59, 10] (by omega)
     (repeat refine qA ?_);refine rA ?_
     simp [s7, w7]
     (repeat refine qA ?_);refine bA ?_
     (repeat refine qA ?_);refine rA ?_
     simp
     (repeat refine qA ?_);refine fA ?_
     (repeat refine qA ?_);refine rA ?_
     simp
     (repeat refine qA ?_);refine tA ?_
     (repeat refine qA ?_);refine AWp.regionG (fun i => i == 9 || i == 14) (fun _ => false) [0, 1, 2, 3, 4, 5, 6, 7, 8, 9, 10, 11, 12, 13, 14, 15, 16, 17] [0, 1, 2, 3, 4, 5, 6, 7, 8, 9, 10, 11, 12, 13, 14, 15, 16, 17] (by kernel_rfl) ?_
     simp [s0, s1, s5, s6, s7, w7, ax1, ax2, ax3, ax4, ax5, ax6, ax7]
     refine oC' (ca) ?_
     simp [s0, s1, s5, s6, s7, w7, ax1, ax2, ax3, ax4, ax5, ax6, ax7]
     refine oC' (ce) ?_
     simp [s0, s1, s5, s6, s7, w7, ax1, ax2, ax3, ax4, ax5, ax6, ax7]
     subst hM
     refine ⟨by simp [s0], by simp [s1], ?_, by simp [s6]⟩
     simp
     rw [dx7, dx6, dx5, dx4, dx3, dx2, dx1]
     simp [smPut, hwl, Sm.pr, forT, toT, prT]
    | for_ s lo hi b hs hlo hhi hd3 hb3 =>
     obtain ⟨w, rfl⟩ : ∃ w, s = txt w := ⟨s.data.toList, (mk_list s).symm⟩
     have hwl : (txt w).data.toList = w := list_mk w
     have hsl := name_len hs
     rw [hwl] at hsl
     have zlo := ok_len hlo
     obtain ⟨glo, nlo, _⟩ := ok_ht hlo
     have clo := c_l6Exp lo.nodes lo 1 (Nat.le_refl _) (by omega) glo
     have zhi := ok_len hhi
     obtain ⟨ghi, nhi, _⟩ := ok_ht hhi
     have chi := c_l6Exp hi.nodes hi 1 (Nat.le_refl _) (by omega) ghi
     simp only [smSet, smPut, smFor, smPrint, Sm.cells_mk, zE, Ex.cells_mk, List.map_nil, List.cons_append, List.nil_append] at w7
     have hbz : Sm.sizes b <= N := by
      have := size_mem l _ hmem
      simp only [smFor, Sm.size] at this
      omega
     have hpl : (pad ++ [32, 32]).length <= 2 * (d + 1) := by simp; omega
     have zb := (sm_len N).2 b (d + 1) (pad ++ [32, 32]) hbz hb3 hpl (by omega)
     have cb := ih b (d + 1) (pad ++ [32, 32]) hbz (by omega) hb3 hpl (by omega)
     obtain ⟨B, hB⟩ : ∃ B, B = Sm.prs b (pad ++ [32, 32]) := ⟨_, rfl⟩
     rw [<- hB] at zb cb
     obtain ⟨pd, hpd⟩ : ∃ x, x = pad ++ [32, 32] := ⟨_, rfl⟩
     have apd : binA .add (.str (txt pad)) (.str ⟨#[32, 32]⟩) = some (.str (txt pd)) := by rw [hpd]; exact aT pad [32, 32] (by simp; omega)
     rw [<- hpd] at cb
     obtain ⟨x1, dx1⟩ : ∃ x, x = A ++ pad := ⟨_, rfl⟩
     have lx1 : x1.length = A.length + pad.length := by rw [dx1]; first | (simp; done) | (simp; omega)
     have ax1 : binA .add (.str (txt A)) (.str (txt pad)) = some (.str (txt x1)) := by rw [dx1]; exact aT A pad (by omega)
     obtain ⟨x2, dx2⟩ : ∃ x, x = x1 ++ [102, 111, 114, 32] := ⟨_, rfl⟩
     have lx2 : x2.length = x1.length + [102, 111, 114, 32].length := by rw [dx2]; first | (simp; done) | (simp; omega)
     have kx2 : List.length ([102, 111, 114, 32] : List UInt8) = 4 := rfl
     have ax2 : binA .add (.str (txt x1)) (.str (⟨#[102, 111, 114, 32]⟩)) = some (.str (txt x2)) := by rw [dx2]; exact aT x1 [102, 111, 114, 32] (by omega)
     obtain ⟨x3, dx3⟩ : ∃ x, x = x2 ++ w := ⟨_, rfl⟩
     have lx3 : x3.length = x2.length + w.length := by rw [dx3]; first | (simp; done) | (simp; omega)
     have ax3 : binA .add (.str (txt x2)) (.str (txt w)) = some (.str (txt x3)) := by rw [dx3]; exact aT x2 w (by omega)
     obtain ⟨x4, dx4⟩ : ∃ x, x = x3 ++ [32, 61, 32] := ⟨_, rfl⟩
     have lx4 : x4.length = x3.length + [32, 61, 32].length := by rw [dx4]; first | (simp; done) | (simp; omega)
     have kx4 : List.length ([32, 61, 32] : List UInt8) = 3 := rfl
     have ax4 : binA .add (.str (txt x3)) (.str (⟨#[32, 61, 32]⟩)) = some (.str (txt x4)) := by rw [dx4]; exact aT x3 [32, 61, 32] (by omega)
     obtain ⟨x5, dx5⟩ : ∃ x, x = x4 ++ lo.pr := ⟨_, rfl⟩
     have lx5 : x5.length = x4.length + lo.pr.length := by rw [dx5]; first | (simp; done) | (simp; omega)
     have ax5 : binA .add (.str (txt x4)) (.str (txt lo.pr)) = some (.str (txt x5)) := by rw [dx5]; exact aT x4 lo.pr (by omega)
     obtain ⟨x6, dx6⟩ : ∃ x, x = x5 ++ [32, 116, 111, 32] := ⟨_, rfl⟩
     have lx6 : x6.length = x5.length + [32, 116, 111, 32].length := by rw [dx6]; first | (simp; done) | (simp; omega)
     have kx6 : List.length ([32, 116, 111, 32] : List UInt8) = 4 := rfl
     have ax6 : binA .add (.str (txt x5)) (.str (⟨#[32, 116, 111, 32]⟩)) = some (.str (txt x6)) := by rw [dx6]; exact aT x5 [32, 116, 111, 32] (by omega)
     obtain ⟨x7, dx7⟩ : ∃ x, x = x6 ++ hi.pr := ⟨_, rfl⟩
     have lx7 : x7.length = x6.length + hi.pr.length := by rw [dx7]; first | (simp; done) | (simp; omega)
     have ax7 : binA .add (.str (txt x6)) (.str (txt hi.pr)) = some (.str (txt x7)) := by rw [dx7]; exact aT x6 hi.pr (by omega)
     obtain ⟨x8, dx8⟩ : ∃ x, x = x7 ++ [32, 123, 10] := ⟨_, rfl⟩
     have lx8 : x8.length = x7.length + [32, 123, 10].length := by rw [dx8]; first | (simp; done) | (simp; omega)
     have kx8 : List.length ([32, 123, 10] : List UInt8) = 3 := rfl
     have ax8 : binA .add (.str (txt x7)) (.str (⟨#[32, 123, 10]⟩)) = some (.str (txt x8)) := by rw [dx8]; exact aT x7 [32, 123, 10] (by omega)
     obtain ⟨x9, dx9⟩ : ∃ x, x = x8 ++ B := ⟨_, rfl⟩
     have lx9 : x9.length = x8.length + B.length := by rw [dx9]; first | (simp; done) | (simp; omega)
     have ax9 : binA .add (.str (txt x8)) (.str (txt B)) = some (.str (txt x9)) := by rw [dx9]; exact aT x8 B (by omega)
     obtain ⟨x10, dx10⟩ : ∃ x, x = x9 ++ pad := ⟨_, rfl⟩
     have lx10 : x10.length = x9.length + pad.length := by rw [dx10]; first | (simp; done) | (simp; omega)
     have ax10 : binA .add (.str (txt x9)) (.str (txt pad)) = some (.str (txt x10)) := by rw [dx10]; exact aT x9 pad (by omega)
     obtain ⟨x11, dx11⟩ : ∃ x, x = x10 ++ [125, 10] := ⟨_, rfl⟩
     have lx11 : x11.length = x10.length + [125, 10].length := by rw [dx11]; first | (simp; done) | (simp; omega)
     have kx11 : List.length ([125, 10] : List UInt8) = 2 := rfl
     have ax11 : binA .add (.str (txt x10)) (.str (⟨#[125, 10]⟩)) = some (.str (txt x11)) := by rw [dx11]; exact aT x10 [125, 10] (by omega)
     (repeat refine qA ?_);refine rA ?_
     simp [s7, w7]
     (repeat refine qA ?_);refine bA ?_
     (repeat refine qA ?_);refine rA ?_
     simp
     (repeat refine qA ?_);refine fA ?_
     (repeat refine qA ?_);refine rA ?_
     simp
     (repeat refine qA ?_);refine fA ?_
     (repeat refine qA ?_);refine rA ?_
     simp
     (repeat refine qA ?_);refine tA ?_
     (repeat refine qA ?_);refine AWp.regionG (fun i => i == 10 || i == 15 || i == 22) (fun _ => false) [0, 1, 2, 3, 4, 5, 6, 7, 8, 9, 10, 11, 12, 13, 14, 15, 16, 17, 18, 19, 20, 21, 22, 23, 24, 25, 26, 27] [0, 1, 2, 3, 4, 5, 6, 7, 8, 9, 10, 11, 12, 13, 14, 15, 16, 17, 18, 19, 20, 21, 22, 23, 24, 25, 26, 27] (by kernel_rfl) ?_
     simp [s0, s1, s5, s6, s7, w7, apd, ax1, ax2, ax3, ax4, ax5, ax6, ax7, ax8, ax9, ax10, ax11]
     refine oC' (clo) ?_
     simp [s0, s1, s5, s6, s7, w7, apd, ax1, ax2, ax3, ax4, ax5, ax6, ax7, ax8, ax9, ax10, ax11]
     refine oC' (chi) ?_
     simp [s0, s1, s5, s6, s7, w7, apd, ax1, ax2, ax3, ax4, ax5, ax6, ax7, ax8, ax9, ax10, ax11]
     refine oC' (cb) ?_
     simp [s0, s1, s5, s6, s7, w7, apd, ax1, ax2, ax3, ax4, ax5, ax6, ax7, ax8, ax9, ax10, ax11]
     subst hM
     refine ⟨by simp [s0], by simp [s1], ?_, by simp [s6]⟩
     simp
     rw [dx11, dx10, dx9, dx8, dx7, dx6, dx5, dx4, dx3, dx2, dx1]
     simp [smFor, hwl, hB, Sm.pr, forT, toT, prT]
    | print e he =>
     have ze := ok_len he
     obtain ⟨ge, ne, _⟩ := ok_ht he
     have ce := c_l6Exp e.nodes e 1 (Nat.le_refl _) (by omega) ge
     simp only [smSet, smPut, smFor, smPrint, Sm.cells_mk, zE, Ex.cells_mk, List.map_nil, List.cons_append, List.nil_append] at w7
     obtain ⟨x1, dx1⟩ : ∃ x, x = A ++ pad := ⟨_, rfl⟩
     have lx1 : x1.length = A.length + pad.length := by rw [dx1]; first | (simp; done) | (simp; omega)
     have ax1 : binA .add (.str (txt A)) (.str (txt pad)) = some (.str (txt x1)) := by rw [dx1]; exact aT A pad (by omega)
     obtain ⟨x2, dx2⟩ : ∃ x, x = x1 ++ [112, 114, 105, 110, 116, 32] := ⟨_, rfl⟩
     have lx2 : x2.length = x1.length + [112, 114, 105, 110, 116, 32].length := by rw [dx2]; first | (simp; done) | (simp; omega)
     have kx2 : List.length ([112, 114, 105, 110, 116, 32] : List UInt8) = 6 := rfl
     have ax2 : binA .add (.str (txt x1)) (.str (⟨#[112, 114, 105, 110, 116, 32]⟩)) = some (.str (txt x2)) := by rw [dx2]; exact aT x1 [112, 114, 105, 110, 116, 32] (by omega)
     obtain ⟨x3, dx3⟩ : ∃ x, x = x2 ++ e.pr := ⟨_, rfl⟩
     have lx3 : x3.length = x2.length + e.pr.length := by rw [dx3]; first | (simp; done) | (simp; omega)
     have ax3 : binA .add (.str (txt x2)) (.str (txt e.pr)) = some (.str (txt x3)) := by rw [dx3]; exact aT x2 e.pr (by omega)
     obtain ⟨x4, dx4⟩ : ∃ x, x = x3 ++ [59, 10] := ⟨_, rfl⟩
     have lx4 : x4.length = x3.length + [59, 10].length := by rw [dx4]; first | (simp; done) | (simp; omega)
     have kx4 : List.length ([59, 10] : List UInt8) = 2 := rfl
     have ax4 : binA .add (.str (txt x3)) (.str (⟨#[59, 10]⟩)) = some (.str (txt x4)) := by rw [dx4]; exact aT x3 [59, 10] (by omega)
     (repeat refine qA ?_);refine rA ?_
     simp [s7, w7]
     (repeat refine qA ?_);refine bA ?_
     (repeat refine qA ?_);refine rA ?_
     simp
     (repeat refine qA ?_);refine fA ?_
     (repeat refine qA ?_);refine rA ?_
     simp
     (repeat refine qA ?_);refine fA ?_
     (repeat refine qA ?_);refine rA ?_
     simp
     (repeat refine qA ?_);refine fA ?_
     (repeat refine qA ?_);refine raA ?_
     simp [s0, s1, s5, s6, s7, w7, ax1, ax2, ax3, ax4]
     refine oC' (ce) ?_
     simp [s0, s1, s5, s6, s7, w7, ax1, ax2, ax3, ax4]
     subst hM
     refine ⟨by simp [s0], by simp [s1], ?_, by simp [s6]⟩
     simp
     rw [dx4, dx3, dx2, dx1]
     simp [smPrint, Sm.pr, forT, toT, prT]
   clear s0 s1 s5 s6 hx
   intro st hst
   subst hM2
   obtain ⟨s0, s1, s5, s6⟩ := hst
   (repeat refine qA ?_);refine rA ?_
   simp [s6, hw]
   exact hRR _ (l.length - (i + 1)) (by omega) ⟨i + 1, rfl, by omega, by simp [s0], by simp [s1], by rw [hnx]; simpa using s5, by simp⟩
  have : i = l.length := by omega
  subst this
  (repeat refine qA ?_);refine rA ?_
  simp [s0, s6]
  (repeat refine qA ?_);refine fA ?_
  refine eA ?_
  try simp
  (repeat refine qA ?_);refine rA ?_
  simp [s5]
  exact AWp.ret (pR1 rfl (by simp))
end Go.T
