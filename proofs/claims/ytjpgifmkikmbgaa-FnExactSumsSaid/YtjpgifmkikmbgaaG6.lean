/- What the laws' copying and comparing functions compute. What is right: what the program and the reference compute. What is right: what the program and the reference compute. Expressions that are right: what the program computes. Expressions that are right: what the reference computes. Statements that are right: what the program and the reference compute. How many statements there are: what the program and the reference compute. Statements that are right, but for loops: what the program computes. Statements that are right: what the program computes. Statements that are right, but for loops: what the reference computes. Statements that are right: what the reference computes; StmtOk. Where a name is: what the program and the reference compute. Names put in order: what the reference computes. The names of statements and expressions: what the reference computes. Names of arrays, names apart, nested loops: what the reference computes. Programs that are right: what the reference computes. The library's functions on strings, as this program has them. Strings sorted, each once: what the program's library calls come to. Lists of names joined, put in order: what the program computes. What a function is told of, statement by statement, expression by expression. The names of statements and expressions: what the program computes. A list of names cloned; where an array is; are all of these arrays, is any: what the program computes. Programs that are right: what the program computes. Programs that are right: what the program computes, whole. Where all of a program stands: what the program and the reference compute. Bases, words, flags, slots, bars, registers: what the program and the reference compute. Where something of a program stands: what the program and the reference compute. The laws' functions, of where something of a program stands; programs as arguments. What the laws' measuring, copying and comparing functions compute, of machines. Machines that are right: what the program and the reference compute. Machines that are right: what the program and the reference compute; the law. Marks: what the program's marking functions compute. Rows marked: what the program's marking functions compute. -/
import Derived.Test.YtjpgifmkikmbgaaG5
import Derived.Test.YtjpgifmkikmbgaaG2
import Derived.Test.YtjpgifmkikmbgaaG3
import Derived.Shelf.Lay
import Derived.Ground.NamesProg
import Derived.Shelf.Sort.Plain
import Derived.Shelf.Slices.In.SortNone
import Derived.Shelf.Slices.CompactS
import Derived.Shelf.Spec.SlicesGrow
import Derived.WalkKit
import Derived.Ground.Names2Prog
import Derived.Shelf.Slices.Clone
import Derived.Test.YtjpgifmkikmbgaaG4
namespace Go.T
open Go Go.Proofs
set_option maxRecDepth 10000
set_option linter.unusedSimpArgs false
set_option linter.unusedVariables false
theorem c_toExp0 (k m : Int) (s : ByteArray) (l : List Ex) (hl : l.length ≤ 1048576) (h : ∀ x ∈ l, PCall Try.prog 61 [x.av] x.av) : PCall Try.prog 61 [(Ex.mk k m s l).av] (Ex.mk k m s l).av := by
  unfold Ex.av
  rw [Ex.cells_mk]
  refine pcall_of Try.func61 (by kernel_rfl) rfl (by simp [Try.f61]) ?_
  (repeat refine AWp.seq ?_); refine AWp.region noP (by kernel_rfl) ?_
  simp [set_at]
  intro g1 g2 h2
  (repeat refine AWp.seq ?_); refine AWp.region noP (by kernel_rfl) ?_
  simp [set_at]
  intro g3 h3
  have n21 : g2 ≠ g1 := fun e => by simp [e] at h2
  have m12 := n21.symm
  have n32 : g3 ≠ g2 := fun e => by simp [e] at h3
  have n31 : g3 ≠ g1 := fun e => by simp [e, m12] at h3
  have m23 := n32.symm
  have m13 := n31.symm
  (repeat refine AWp.seq ?_); refine AWp.region noP (by kernel_rfl) ?_
  simp [set_at, n21, n32, n31, m12, m23, m13]
  (repeat refine AWp.seq ?_); refine AWp.region noP (by kernel_rfl) ?_
  simp [set_at, n21, n32, n31, m12, m23, m13]
  (repeat refine AWp.seq ?_); refine AWp.region noP (by kernel_rfl) ?_
  simp [set_at, n21, n32, n31, m12, m23, m13]
  (repeat refine AWp.seq ?_); refine AWp.region noP (by kernel_rfl) ?_
  simp [set_at, n21, n32, n31, m12, m23, m13]
  refine aop_call _ _ _ _ _ _ _ _ (c_toExpS l hl h) ?_
  simp [set_at, n21, n32, n31, m12, m23, m13]
  (repeat refine AWp.seq ?_); refine AWp.region noP (by kernel_rfl) ?_
  simp [set_at, n21, n32, n31, m12, m23, m13]
  exact AWp.ret (post_cell (.inl rfl) rfl (by simp [set_at, n21, n32, n31, m12, m23, m13]))
theorem c_toExp (e : Ex) : e.tot ≤ 1048576 → PCall Try.prog 61 [e.av] e.av := by
  induction e using Ex.ind with | h k m s l h =>
  intro ht
  rw [Ex.tot_mk] at ht
  have hl := totL_len Ex.tot l
  exact c_toExp0 k m s l (by omega) (fun x hx => h x hx (by have := totL_mem Ex.tot hx; omega))
theorem c_toStmt0 (k : Int) (s : ByteArray) (a e lo hi : Ex) (b : List Sm) (ha : a.tot ≤ 1048576) (he : e.tot ≤ 1048576) (hlo : lo.tot ≤ 1048576) (hhi : hi.tot ≤ 1048576) (hl : b.length ≤ 1048576) (h : ∀ x ∈ b, PCall Try.prog 21 [x.av] x.av) : PCall Try.prog 21 [(Sm.mk k s a e lo hi b).av] (Sm.mk k s a e lo hi b).av := by
  unfold Sm.av
  rw [Sm.cells_mk]
  refine pcall_of Try.func21 (by kernel_rfl) rfl (by simp [Try.f21]) ?_
  (repeat refine AWp.seq ?_); refine AWp.region noP (by kernel_rfl) ?_
  simp [set_at]
  intro g1 g2 h2
  (repeat refine AWp.seq ?_); refine AWp.region noP (by kernel_rfl) ?_
  simp [set_at]
  intro g3 h3
  have n21 : g2 ≠ g1 := fun e => by simp [e] at h2
  have m12 := n21.symm
  have n32 : g3 ≠ g2 := fun e => by simp [e] at h3
  have n31 : g3 ≠ g1 := fun e => by simp [e, m12] at h3
  have m23 := n32.symm
  have m13 := n31.symm
  (repeat refine AWp.seq ?_); refine AWp.region noP (by kernel_rfl) ?_
  simp [set_at, n21, n32, n31, m12, m23, m13]
  (repeat refine AWp.seq ?_); refine AWp.region noP (by kernel_rfl) ?_
  simp [set_at, n21, n32, n31, m12, m23, m13]
  (repeat refine AWp.seq ?_); refine AWp.region noP (by kernel_rfl) ?_
  simp [set_at, n21, n32, n31, m12, m23, m13]
  refine aop_call _ _ _ _ _ _ _ _ (c_toExp a ha) ?_
  simp [set_at, n21, n32, n31, m12, m23, m13, Ex.av]
  (repeat refine AWp.seq ?_); refine AWp.region noP (by kernel_rfl) ?_
  simp [set_at, n21, n32, n31, m12, m23, m13]
  refine aop_call _ _ _ _ _ _ _ _ (c_toExp e he) ?_
  simp [set_at, n21, n32, n31, m12, m23, m13, Ex.av]
  (repeat refine AWp.seq ?_); refine AWp.region noP (by kernel_rfl) ?_
  simp [set_at, n21, n32, n31, m12, m23, m13]
  refine aop_call _ _ _ _ _ _ _ _ (c_toExp lo hlo) ?_
  simp [set_at, n21, n32, n31, m12, m23, m13, Ex.av]
  (repeat refine AWp.seq ?_); refine AWp.region noP (by kernel_rfl) ?_
  simp [set_at, n21, n32, n31, m12, m23, m13]
  refine aop_call _ _ _ _ _ _ _ _ (c_toExp hi hhi) ?_
  simp [set_at, n21, n32, n31, m12, m23, m13, Ex.av]
  (repeat refine AWp.seq ?_); refine AWp.region noP (by kernel_rfl) ?_
  simp [set_at, n21, n32, n31, m12, m23, m13]
  refine aop_call _ _ _ _ _ _ _ _ (c_toStmtS b hl h) ?_
  simp [set_at, n21, n32, n31, m12, m23, m13, Ex.av]
  (repeat refine AWp.seq ?_); refine AWp.region noP (by kernel_rfl) ?_
  simp [set_at, n21, n32, n31, m12, m23, m13, Ex.av]
  exact AWp.ret (post_cell (.inl rfl) rfl (by simp [set_at, n21, n32, n31, m12, m23, m13]))
theorem c_toStmt (e : Sm) : e.tot ≤ 1048576 → PCall Try.prog 21 [e.av] e.av := by
  induction e using Sm.ind with | h k s a e lo hi b h =>
  intro ht
  rw [Sm.tot_mk] at ht
  have hl := totL_len Sm.tot b
  exact c_toStmt0 k s a e lo hi b (by omega) (by omega) (by omega) (by omega) (by omega) (fun x hx => h x hx (by have := totL_mem Sm.tot hx; omega))
theorem c_eqExpS (l : List Ex) (hl : l.length ≤ 1048576) (h : ∀ x ∈ l, PCall Try.prog 65 [x.av, x.av] (.bool true)) :
    PCall Try.prog 94 [.lst false 4 (l.map Ex.av), .lst false 4 (l.map Ex.av)] (.bool true) := by
  refine pcall_of Try.func94 (by kernel_rfl) rfl (by simp [Try.f94]) ?_
  (repeat refine AWp.seq ?_); refine AWp.region noP (by kernel_rfl) ?_
  simp
  (repeat refine AWp.seq ?_); refine AWp.region noP (by kernel_rfl) ?_
  simp
  refine AWp.cond (b := false) (by simp) (fun h => by cases h) (fun _ => ?_)
  refine AWp.skip ?_
  simp
  (repeat refine AWp.seq ?_); refine AWp.region noP (by kernel_rfl) ?_
  simp
  (repeat refine AWp.seq ?_); refine AWp.block (AWp.rounds (fun m st => ∃ (i : Nat), m = l.length - i ∧ i ≤ l.length ∧ st.slots 0 = .lst false 4 (l.map Ex.av) ∧ st.slots 1 = .lst false 4 (l.map Ex.av) ∧ st.slots 5 = .int .i64 i) l.length ⟨0, by simp, by simp, by simp, by simp, by simp⟩ ?_)
  rintro R m st hR ⟨i, rfl, hi, s0, s1, s5⟩
  (repeat refine AWp.seq ?_); refine AWp.region noP (by kernel_rfl) ?_
  simp [s0, s5]
  refine AWp.cond (b := decide (i < l.length)) (by simp) (fun hb => ?_) (fun hb => ?_)
  · simp at hb
    have hq : l[i]? = some l[i] := List.getElem?_eq_getElem hb
    refine AWp.skip ?_
    simp
    (repeat refine AWp.seq ?_); refine AWp.block ?_; (repeat refine AWp.seq ?_); refine AWp.region allP (by kernel_rfl) ?_
    have hx1 : idxA Try.prog st.mem 59 (.lst false 4 (l.map Ex.av)) (.int .i64 i) = some (.ref l[i].cells) := idx (y := l[i].av) es_59 (by simp [hq])
    simp [s0, s1, s5, hx1]
    refine aop_call _ _ _ _ _ _ _ _ (h l[i] (List.getElem_mem _)) ?_
    simp
    refine AWp.cond (b := false) (by simp) (fun h => by cases h) (fun _ => ?_)
    refine AWp.skip ?_
    simp
    (repeat refine AWp.seq ?_); refine AWp.region noP (by kernel_rfl) ?_
    have hw : IntKind.wrap .i64 ((i : Int) + 1) = (i + 1 : Nat) := wrap64 (by omega) (by omega)
    simp [s5, hw]
    exact hR _ (l.length - (i + 1)) (by omega) ⟨i + 1, rfl, hb, by simp [s0], by simp [s1], by simp⟩
  · simp at hb
    refine AWp.exit ?_
    simp
    (repeat refine AWp.seq ?_); refine AWp.region noP (by kernel_rfl) ?_
    simp
    exact AWp.ret (post_ret1 rfl (by simp))
theorem c_eqStmtS (l : List Sm) (hl : l.length ≤ 1048576) (h : ∀ x ∈ l, PCall Try.prog 24 [x.av, x.av] (.bool true)) :
    PCall Try.prog 66 [.lst false 19 (l.map Sm.av), .lst false 19 (l.map Sm.av)] (.bool true) := by
  refine pcall_of Try.func66 (by kernel_rfl) rfl (by simp [Try.f66]) ?_
  (repeat refine AWp.seq ?_); refine AWp.region noP (by kernel_rfl) ?_
  simp
  (repeat refine AWp.seq ?_); refine AWp.region noP (by kernel_rfl) ?_
  simp
  refine AWp.cond (b := false) (by simp) (fun h => by cases h) (fun _ => ?_)
  refine AWp.skip ?_
  simp
  (repeat refine AWp.seq ?_); refine AWp.region noP (by kernel_rfl) ?_
  simp
  (repeat refine AWp.seq ?_); refine AWp.block (AWp.rounds (fun m st => ∃ (i : Nat), m = l.length - i ∧ i ≤ l.length ∧ st.slots 0 = .lst false 19 (l.map Sm.av) ∧ st.slots 1 = .lst false 19 (l.map Sm.av) ∧ st.slots 5 = .int .i64 i) l.length ⟨0, by simp, by simp, by simp, by simp, by simp⟩ ?_)
  rintro R m st hR ⟨i, rfl, hi, s0, s1, s5⟩
  (repeat refine AWp.seq ?_); refine AWp.region noP (by kernel_rfl) ?_
  simp [s0, s5]
  refine AWp.cond (b := decide (i < l.length)) (by simp) (fun hb => ?_) (fun hb => ?_)
  · simp at hb
    have hq : l[i]? = some l[i] := List.getElem?_eq_getElem hb
    refine AWp.skip ?_
    simp
    (repeat refine AWp.seq ?_); refine AWp.block ?_; (repeat refine AWp.seq ?_); refine AWp.region allP (by kernel_rfl) ?_
    have hx1 : idxA Try.prog st.mem 62 (.lst false 19 (l.map Sm.av)) (.int .i64 i) = some (.ref l[i].cells) := idx (y := l[i].av) es_62 (by simp [hq])
    simp [s0, s1, s5, hx1]
    refine aop_call _ _ _ _ _ _ _ _ (h l[i] (List.getElem_mem _)) ?_
    simp
    refine AWp.cond (b := false) (by simp) (fun h => by cases h) (fun _ => ?_)
    refine AWp.skip ?_
    simp
    (repeat refine AWp.seq ?_); refine AWp.region noP (by kernel_rfl) ?_
    have hw : IntKind.wrap .i64 ((i : Int) + 1) = (i + 1 : Nat) := wrap64 (by omega) (by omega)
    simp [s5, hw]
    exact hR _ (l.length - (i + 1)) (by omega) ⟨i + 1, rfl, hb, by simp [s0], by simp [s1], by simp⟩
  · simp at hb
    refine AWp.exit ?_
    simp
    (repeat refine AWp.seq ?_); refine AWp.region noP (by kernel_rfl) ?_
    simp
    exact AWp.ret (post_ret1 rfl (by simp))
theorem c_eqExp0 (k m : Int) (s : ByteArray) (l : List Ex) (hl : l.length ≤ 1048576) (h : ∀ x ∈ l, PCall Try.prog 65 [x.av, x.av] (.bool true)) : PCall Try.prog 65 [(Ex.mk k m s l).av, (Ex.mk k m s l).av] (.bool true) := by
  unfold Ex.av
  rw [Ex.cells_mk]
  refine pcall_of Try.func65 (by kernel_rfl) rfl (by simp [Try.f65]) ?_
  (repeat refine AWp.seq ?_); refine AWp.region noP (by kernel_rfl) ?_
  simp [set_at]
  intro g1 g2 h2
  have n21 : g2 ≠ g1 := fun e => by simp [e] at h2
  have m12 := n21.symm
  (repeat refine AWp.seq ?_); refine AWp.region noP (by kernel_rfl) ?_
  simp [set_at, n21, m12]
  refine AWp.cond (b := false) (by simp) (fun h => by cases h) (fun _ => ?_)
  refine AWp.skip ?_
  simp
  (repeat refine AWp.seq ?_); refine AWp.region noP (by kernel_rfl) ?_
  simp [set_at, n21, m12]
  refine AWp.cond (b := false) (by simp) (fun h => by cases h) (fun _ => ?_)
  refine AWp.skip ?_
  simp
  (repeat refine AWp.seq ?_); refine AWp.region noP (by kernel_rfl) ?_
  simp [set_at, n21, m12]
  refine AWp.cond (b := false) (by simp) (fun h => by cases h) (fun _ => ?_)
  refine AWp.skip ?_
  simp
  (repeat refine AWp.seq ?_); refine AWp.region allP (by kernel_rfl) ?_
  simp [set_at, n21, m12]
  refine aop_call _ _ _ _ _ _ _ _ (c_eqExpS l hl h) ?_
  simp [set_at, n21, m12]
  refine AWp.cond (b := false) (by simp) (fun h => by cases h) (fun _ => ?_)
  refine AWp.skip ?_
  simp
  (repeat refine AWp.seq ?_); refine AWp.region noP (by kernel_rfl) ?_
  simp
  exact AWp.ret (post_ret1 rfl (by simp))
theorem c_eqExp (e : Ex) : e.tot ≤ 1048576 → PCall Try.prog 65 [e.av, e.av] (.bool true) := by
  induction e using Ex.ind with | h k m s l h =>
  intro ht
  rw [Ex.tot_mk] at ht
  have hl := totL_len Ex.tot l
  exact c_eqExp0 k m s l (by omega) (fun x hx => h x hx (by have := totL_mem Ex.tot hx; omega))
theorem c_eqStmt0 (k : Int) (s : ByteArray) (a e lo hi : Ex) (b : List Sm) (ha : a.tot ≤ 1048576) (he : e.tot ≤ 1048576) (hlo : lo.tot ≤ 1048576) (hhi : hi.tot ≤ 1048576) (hl : b.length ≤ 1048576) (h : ∀ x ∈ b, PCall Try.prog 24 [x.av, x.av] (.bool true)) : PCall Try.prog 24 [(Sm.mk k s a e lo hi b).av, (Sm.mk k s a e lo hi b).av] (.bool true) := by
  unfold Sm.av
  rw [Sm.cells_mk]
  refine pcall_of Try.func24 (by kernel_rfl) rfl (by simp [Try.f24]) ?_
  (repeat refine AWp.seq ?_); refine AWp.region noP (by kernel_rfl) ?_
  simp [set_at]
  intro g1 g2 h2
  have n21 : g2 ≠ g1 := fun e => by simp [e] at h2
  have m12 := n21.symm
  (repeat refine AWp.seq ?_); refine AWp.region noP (by kernel_rfl) ?_
  simp [set_at, n21, m12]
  refine AWp.cond (b := false) (by simp) (fun h => by cases h) (fun _ => ?_)
  refine AWp.skip ?_
  simp
  (repeat refine AWp.seq ?_); refine AWp.region noP (by kernel_rfl) ?_
  simp [set_at, n21, m12]
  refine AWp.cond (b := false) (by simp) (fun h => by cases h) (fun _ => ?_)
  refine AWp.skip ?_
  simp
  (repeat refine AWp.seq ?_); refine AWp.region allP (by kernel_rfl) ?_
  simp [set_at, n21, m12]
  refine aop_call _ _ _ _ _ _ _ _ (c_eqExp a ha) ?_
  simp [set_at, n21, m12]
  refine AWp.cond (b := false) (by simp) (fun h => by cases h) (fun _ => ?_)
  refine AWp.skip ?_
  simp
  (repeat refine AWp.seq ?_); refine AWp.region allP (by kernel_rfl) ?_
  simp [set_at, n21, m12]
  refine aop_call _ _ _ _ _ _ _ _ (c_eqExp e he) ?_
  simp [set_at, n21, m12]
  refine AWp.cond (b := false) (by simp) (fun h => by cases h) (fun _ => ?_)
  refine AWp.skip ?_
  simp
  (repeat refine AWp.seq ?_); refine AWp.region allP (by kernel_rfl) ?_
  simp [set_at, n21, m12]
  refine aop_call _ _ _ _ _ _ _ _ (c_eqExp lo hlo) ?_
  simp [set_at, n21, m12]
  refine AWp.cond (b := false) (by simp) (fun h => by cases h) (fun _ => ?_)
  refine AWp.skip ?_
  simp
  (repeat refine AWp.seq ?_); refine AWp.region allP (by kernel_rfl) ?_
  simp [set_at, n21, m12]
  refine aop_call _ _ _ _ _ _ _ _ (c_eqExp hi hhi) ?_
  simp [set_at, n21, m12]
  refine AWp.cond (b := false) (by simp) (fun h => by cases h) (fun _ => ?_)
  refine AWp.skip ?_
  simp
  (repeat refine AWp.seq ?_); refine AWp.region allP (by kernel_rfl) ?_
  simp [set_at, n21, m12]
  refine aop_call _ _ _ _ _ _ _ _ (c_eqStmtS b hl h) ?_
  simp [set_at, n21, m12]
  refine AWp.cond (b := false) (by simp) (fun h => by cases h) (fun _ => ?_)
  refine AWp.skip ?_
  simp
  (repeat refine AWp.seq ?_); refine AWp.region noP (by kernel_rfl) ?_
  simp
  exact AWp.ret (post_ret1 rfl (by simp))
theorem c_eqStmt (e : Sm) : e.tot ≤ 1048576 → PCall Try.prog 24 [e.av, e.av] (.bool true) := by
  induction e using Sm.ind with | h k s a e lo hi b h =>
  intro ht
  rw [Sm.tot_mk] at ht
  have hl := totL_len Sm.tot b
  exact c_eqStmt0 k s a e lo hi b (by omega) (by omega) (by omega) (by omega) (by omega) (fun x hx => h x hx (by have := totL_mem Sm.tot hx; omega))
end Go.T
namespace Go.T
open Go Go.Proofs
set_option maxRecDepth 10000
set_option linter.unusedSimpArgs false
set_option linter.unusedVariables false
end Go.T
namespace Go.T
open Go Go.Proofs
set_option maxRecDepth 10000
set_option linter.unusedSimpArgs false
set_option linter.unusedVariables false
end Go.T
namespace Go.T
open Go Go.Proofs
set_option maxRecDepth 10000
set_option linter.unusedSimpArgs false
set_option linter.unusedVariables false
end Go.T
namespace Go.T
open Go Go.Proofs
set_option maxRecDepth 10000
set_option linter.unusedSimpArgs false
set_option linter.unusedVariables false
end Go.T
namespace Go.T
open Go Go.Proofs
set_option maxRecDepth 10000
set_option linter.unusedSimpArgs false
set_option linter.unusedVariables false
end Go.T
namespace Go.T
open Go Go.Proofs
set_option maxRecDepth 10000
set_option linter.unusedSimpArgs false
set_option linter.unusedVariables false
end Go.T
namespace Go.T
open Go Go.Proofs
set_option maxRecDepth 10000
set_option linter.unusedSimpArgs false
set_option linter.unusedVariables false
end Go.T
namespace Go.T
open Go Go.Proofs
set_option maxRecDepth 10000
set_option linter.unusedSimpArgs false
set_option linter.unusedVariables false
end Go.T
namespace Go.T
open Go Go.Proofs
set_option maxRecDepth 10000
set_option linter.unusedSimpArgs false
set_option linter.unusedVariables false
end Go.T
namespace Go.T
open Go Go.Proofs
set_option maxRecDepth 10000
set_option linter.unusedSimpArgs false
set_option linter.unusedVariables false
end Go.T
namespace Go.T
open Go Go.Proofs
set_option maxRecDepth 10000
set_option linter.unusedSimpArgs false
set_option linter.unusedVariables false
end Go.T
namespace Go.T
open Go Go.Proofs
set_option maxRecDepth 10000
set_option linter.unusedSimpArgs false
set_option linter.unusedVariables false
/-- A growing list of strings. -/
abbrev GS (m0 : Mem) (xs : List ByteArray) (v : AV) (m : Mem) : Prop := Grows 9 1 m0 (xs.map .str) v m
theorem GS.push {m0 m : Mem} {xs : List ByteArray} {v : AV} (h : GS m0 xs v m) (s : ByteArray) (hb : xs.length ≤ 16777216) {k : AV → Mem → Prop} (hk : ∀ v' m', GS m0 (xs ++ [s]) v' m' → k v' m') : appendW Try.prog m k #[57, 57] v (.lst true 1 [.str s]) := by
  refine Grows.append et_57 h (ys := [.str s]) rfl (by simp) (by simp; omega) (fun v' m' hg => hk v' m' ?_) _ rfl
  simpa [GS] using hg
theorem GS.app {m0 m : Mem} {xs : List ByteArray} {v : AV} (h : GS m0 xs v m) (f : Bool) (ys : List ByteArray) (hb : xs.length + ys.length ≤ 16777216) {k : AV → Mem → Prop} (hk : ∀ v' m', GS m0 (xs ++ ys) v' m' → k v' m') : appendW Try.prog m k #[57, 57] v (.lst f 1 (ys.map .str)) := by
  refine Grows.append et_57 h (ys := ys.map .str) rfl (by simp) (by simp; omega) (fun v' m' hg => hk v' m' ?_) _ rfl
  simpa [GS] using hg
theorem GS.ext {m0 m : Mem} {xs : List ByteArray} {v : AV} (h : GS m0 xs v m) : Ext m0 m := by
  cases h with
  | lit _ _ _ h => exact h
  | own _ _ _ _ _ _ _ h => exact h
theorem GS.view {m0 m : Mem} {xs : List ByteArray} {v : AV} (h : GS m0 xs v m) : View m v m0 (strs xs) := Grows.view h
def putInv (l : List ByteArray) (s : ByteArray) (i : Nat) (rest : Bool → List ByteArray) (b : Nat) (st : St) : Prop := ∃ (acc : List ByteArray) (done : Bool) (v : AV), st.slots 0 = .lst false 1 (l.map .str) ∧ st.slots 1 = .str s ∧ st.slots 5 = v ∧ GS (fun _ => none) acc v st.mem ∧
  st.slots 6 = .bool done ∧ st.slots 7 = .int .i64 i ∧ putS l s = acc ++ rest done ∧ acc.length ≤ b
theorem c_l4Put (l : List ByteArray) (s : ByteArray) (hl : l.length ≤ 8388600) : PCall Try.prog 110 [strs l, .str s] (strs (putS l s)) := by
  refine pcall_of Try.func110 (by kernel_rfl) rfl (by simp [Try.f110]) ?_
  (repeat refine AWp.seq ?_); refine AWp.region noP (by kernel_rfl) ?_
  try simp
  (repeat refine AWp.seq ?_); refine AWp.region noP (by kernel_rfl) ?_
  simp [strs]
  (repeat refine AWp.seq ?_); refine AWp.region noP (by kernel_rfl) ?_
  try simp
  (repeat refine AWp.seq ?_); refine AWp.region noP (by kernel_rfl) ?_
  try simp
  (repeat refine AWp.seq ?_); refine AWp.block (AWp.rounds (fun m st => ∃ (i : Nat), m = l.length - i ∧ i ≤ l.length ∧ putInv l s i (putGo s (l.drop i)) (2 * i) st) l.length
    ⟨0, by simp, by simp, [], false, .lst true 1 [], by (simp [strs]), by simp, by simp, .lit 1 _ (.inl rfl) (by simp; exact Ext.refl _), by simp, by simp, by simp [putS], by simp⟩ ?_)
  rintro R m st hR ⟨i, rfl, hi, acc, done, v, s0, s1, s5, hG, s6, s7, hr, ha⟩
  (repeat refine AWp.seq ?_); refine AWp.region noP (by kernel_rfl) ?_
  simp [s0, s7]
  (repeat refine AWp.seq ?_); refine AWp.cond (b := decide (i < l.length)) (by simp) (fun hb => ?_) (fun hb => ?_)
  · simp at hb
    have hg : l[i]? = some l[i] := List.getElem?_eq_getElem hb
    have hdr : l.drop i = l[i] :: l.drop (i + 1) := List.drop_eq_getElem_cons hb
    rw [hdr, putGo] at hr
    have hx : ∀ m, idxA Try.prog m 57 (.lst false 1 (l.map .str)) (.int .i64 i) = some (.ref [.str l[i]]) := fun m => idx (y := .str l[i]) es_57 (by simp [hg])
    have hw : IntKind.wrap .i64 ((i : Int) + 1) = (i + 1 : Nat) := wrap64 (by omega) (by omega)
    refine AWp.skip ?_
    try simp
    refine AWp.seq ?_; refine AWp.block ?_
    refine AWp.seq ?_
    refine AWp.cutA (putInv l s i (fun d => (if l[i] = s then [] else [l[i]]) ++ putGo s (l.drop (i + 1)) d) (2 * i + 1)) ?_ ?_
    · (repeat refine AWp.seq ?_); refine AWp.region noP (by kernel_rfl) ?_
      cases done with
      | true =>
        simp [s0, s1, s6, s7, hx]
        (repeat refine AWp.seq ?_); refine AWp.condF (by simp) ?_
        refine AWp.skip ?_
        try simp
        refine ⟨acc, true, v, by simp [s0], by simp [s1], by simp [s5], by simpa using hG, by simp [s6], by simp [s7], by simpa using hr, by omega⟩
      | false =>
        have hb0 : Op.bytesLess l[i].toList s.toList = blt l[i] s := rfl
        simp [s0, s1, s6, s7, hx, hb0]
        cases hbl : blt l[i] s
        · (repeat refine AWp.seq ?_); refine AWp.condT (by simp) ?_
          (repeat refine AWp.seq ?_); refine AWp.region noP (by kernel_rfl) ?_
          simp [s5, s1]
          refine hG.push s (by omega) fun v' m' hG' => ?_
          try simp
          (repeat refine AWp.seq ?_); refine AWp.region noP (by kernel_rfl) ?_
          try simp
          refine ⟨acc ++ [s], true, v', by simp [s0], by simp [s1], by simp, by simpa using hG', by simp, by simp [s7], ?_, by simp; omega⟩
          rw [hr, hbl]; simp
        · (repeat refine AWp.seq ?_); refine AWp.condF (by simp) ?_
          refine AWp.skip ?_
          try simp
          refine ⟨acc, false, v, by simp [s0], by simp [s1], by simp [s5], by simpa using hG, by simp [s6], by simp [s7], ?_, by omega⟩
          rw [hr, hbl]; simp
    clear s0 s1 s5 hG s6 s7 hr ha
    rintro st ⟨acc, done, v, s0, s1, s5, hG, s6, s7, hr, ha⟩
    (repeat refine AWp.seq ?_); refine AWp.region noP (by kernel_rfl) ?_
    simp [s0, s1, s7, hx]
    (repeat refine AWp.seq ?_); refine AWp.cond (b := !decide (l[i] = s)) (by simp) (fun he => ?_) (fun he => ?_)
    · simp at he
      (repeat refine AWp.seq ?_); refine AWp.region noP (by kernel_rfl) ?_
      simp [s0, s5, s7, hx]
      refine hG.push l[i] (by omega) fun v' m' hG' => ?_
      try simp
      (repeat refine AWp.seq ?_); refine AWp.region noP (by kernel_rfl) ?_
      simp [s7, hw]
      refine hR _ (l.length - (i + 1)) (by omega) ⟨i + 1, rfl, hb, acc ++ [l[i]], done, v', by simp [s0], by simp [s1], by simp, by simpa using hG', by simp [s6], by simp, ?_, by simp; omega⟩
      rw [hr, if_neg he]; simp
    · simp at he
      refine AWp.skip ?_
      try simp
      (repeat refine AWp.seq ?_); refine AWp.region noP (by kernel_rfl) ?_
      simp [s7, hw]
      refine hR _ (l.length - (i + 1)) (by omega) ⟨i + 1, rfl, hb, acc, done, v, by simp [s0], by simp [s1], by simp [s5], by simpa using hG, by simp [s6], by simp, ?_, by omega⟩
      rw [hr, if_pos he]; simp
  · simp at hb
    refine AWp.exit ?_
    try simp
    (repeat refine AWp.seq ?_); refine AWp.region noP (by kernel_rfl) ?_
    have hil : i = l.length := by omega
    subst hil
    simp [putGo] at hr
    simp [s6]
    cases done with
    | true =>
      (repeat refine AWp.seq ?_); refine AWp.condF (by simp) ?_
      refine AWp.skip ?_
      try simp
      (repeat refine AWp.seq ?_); refine AWp.region noP (by kernel_rfl) ?_
      simp [s5]
      simp at hr
      exact AWp.ret (post_retW rfl ⟨.lst false 1 (acc.map .str), _, by simpa [strs] using hG.view, by simp [hr]⟩)
    | false =>
      (repeat refine AWp.seq ?_); refine AWp.condT (by simp) ?_
      (repeat refine AWp.seq ?_); refine AWp.region noP (by kernel_rfl) ?_
      simp [s5, s1]
      refine hG.push s (by omega) fun v' m' hG' => ?_
      try simp
      (repeat refine AWp.seq ?_); refine AWp.region noP (by kernel_rfl) ?_
      try simp
      simp at hr
      exact AWp.ret (post_retW rfl ⟨.lst false 1 ((acc ++ [s]).map .str), _, by simpa [strs] using hG'.view, by simp [hr]⟩)
end Go.T
namespace Go.T
open Go Go.Proofs
set_option maxRecDepth 10000
set_option linter.unusedSimpArgs false
set_option linter.unusedVariables false
theorem push_le {out xs ys : List ByteArray} {B : Nat} (h : out.length + (xs ++ ys).length ≤ B) : (xs.foldl putS out).length + ys.length ≤ B := by
  have := fold_len xs out
  rw [List.length_append] at h
  omega
theorem c_l4Names0 (l : List Sm) (q : Int) (ht : totL Sm.tot l ≤ 1048576) (h : ∀ x ∈ l, ∀ out : List ByteArray, out.length + (Sm.namesL q x.body).length ≤ 8388600 → PCall Try.prog 86 [strs out, .lst false 19 (x.body.map Sm.av), .int .i64 q] (strs ((Sm.namesL q x.body).foldl putS out)))
    (out : List ByteArray) (hb : out.length + (Sm.namesL q l).length ≤ 8388600) : PCall Try.prog 86 [strs out, .lst false 19 (l.map Sm.av), .int .i64 q] (strs ((Sm.namesL q l).foldl putS out)) := by
  have hlen := totL_len Sm.tot l
  refine pcall_of Try.func86 (by kernel_rfl) rfl (by simp [Try.f86]) ?_
  (repeat refine AWp.seq ?_); refine AWp.region noP (by kernel_rfl) ?_
  simp
  (repeat refine AWp.seq ?_); refine AWp.region noP (by kernel_rfl) ?_
  simp
  (repeat refine AWp.seq ?_); refine AWp.block (AWp.rounds (fun m st => ∃ (i : Nat) (acc : List ByteArray), m = l.length - i ∧ i ≤ l.length ∧ st.slots 0 = strs acc ∧ st.slots 1 = .lst false 19 (l.map Sm.av) ∧ st.slots 2 = .int .i64 q ∧ st.slots 7 = .int .i64 i ∧
    (Sm.namesL q l).foldl putS out = (Sm.namesL q (l.drop i)).foldl putS acc ∧ acc.length + (Sm.namesL q (l.drop i)).length ≤ 8388600) l.length ⟨0, out, by simp, by simp, by simp, by simp, by simp, by simp, by simp, by simpa using hb⟩ ?_)
  rintro R m st hR ⟨i, acc, rfl, hi, s0, s1, s2, s7, hr, ha⟩
  (repeat refine AWp.seq ?_); refine AWp.region noP (by kernel_rfl) ?_
  simp [s1, s7]
  (repeat refine AWp.seq ?_); refine AWp.cond (b := decide (i < l.length)) (by simp) (fun hb => ?_) (fun hb => ?_)
  · simp at hb
    have hg : l[i]? = some l[i] := List.getElem?_eq_getElem hb
    have hdr : l.drop i = l[i] :: l.drop (i + 1) := List.drop_eq_getElem_cons hb
    have htm := totL_mem Sm.tot (List.getElem_mem hb)
    have htp := l[i].tot_parts
    rw [hdr] at ha hr
    rw [Sm.namesL, Sm.names_eq] at ha hr
    simp only [List.append_assoc] at ha hr
    have hx : idxA Try.prog st.mem 62 (.lst false 19 (l.map Sm.av)) (.int .i64 i) = some (.ref l[i].cells) := idx (y := l[i].av) es_62 (by simp [hg])
    have hx' : ∀ m, idxA Try.prog m 62 (.lst false 19 (l.map Sm.av)) (.int .i64 i) = some (.ref l[i].cells) := fun m => idx (y := l[i].av) es_62 (by simp [hg])
    have hw : IntKind.wrap .i64 ((i : Int) + 1) = (i + 1 : Nat) := wrap64 (by omega) (by omega)
    refine AWp.skip ?_
    simp
    refine AWp.seq ?_; refine AWp.block ?_
    refine AWp.seq ?_
    refine AWp.cutA (fun st => st.slots 0 = strs ((one (l[i].k = q) l[i].s).foldl putS acc) ∧ st.slots 1 = .lst false 19 (l.map Sm.av) ∧ st.slots 2 = .int .i64 q ∧ st.slots 7 = .int .i64 i) ?_ ?_
    · (repeat refine AWp.seq ?_); refine AWp.region noP (by kernel_rfl) ?_
      simp [s1, s2, s7, hx]
      (repeat refine AWp.seq ?_); refine AWp.cond (b := decide (l[i].k = q)) (by simp) (fun hk => ?_) (fun hk => ?_)
      · simp at hk
        (repeat refine AWp.seq ?_); refine AWp.region allP (by kernel_rfl) ?_
        simp [s0, s1, s7, hx]
        refine aop_call' (c_l4Put acc l[i].s (by omega)) ?_
        simp [one, hk, s1, s2, s7]
      · simp at hk
        refine AWp.skip ?_
        simp [one, hk, s0, s1, s2, s7]
    have ha1 := push_le ha
    rw [List.foldl_append] at hr
    generalize (one (l[i].k = q) l[i].s).foldl putS acc = acc1 at ha1 hr ⊢
    clear s0 s1 s2 s7 ha hx
    rintro st ⟨s0, s1, s2, s7⟩
    have ha2 := push_le ha1
    rw [List.length_append] at ha1
    rw [List.foldl_append] at hr
    (repeat refine AWp.seq ?_); refine AWp.region allP (by kernel_rfl) ?_
    simp [s0, s1, s2, s7, hx']
    refine aop_call' (h l[i] (List.getElem_mem _) acc1 (by omega)) ?_
    simp
    (repeat refine AWp.seq ?_); refine AWp.region noP (by kernel_rfl) ?_
    simp [s7, hw]
    exact hR _ (l.length - (i + 1)) (by omega) ⟨i + 1, _, rfl, hb, by simp, by simp [s1], by simp [s2], by simp, hr, ha2⟩
  · simp at hb
    refine AWp.exit ?_
    simp
    (repeat refine AWp.seq ?_); refine AWp.region noP (by kernel_rfl) ?_
    simp [s0]
    have : i = l.length := by omega
    subst this
    simp [Sm.namesL] at hr
    exact AWp.ret (post_ret1 rfl (by simp [hr]))
theorem c_l4NamesB (e : Sm) (q : Int) : e.tot ≤ 1048576 → ∀ out : List ByteArray, out.length + (Sm.namesL q e.body).length ≤ 8388600 → PCall Try.prog 86 [strs out, .lst false 19 (e.body.map Sm.av), .int .i64 q] (strs ((Sm.namesL q e.body).foldl putS out)) := by
  induction e using Sm.ind' with | h e h =>
  intro ht
  have := e.tot_body
  exact c_l4Names0 e.body q (by omega) (fun x hx => h x hx (by have := totL_mem Sm.tot hx; omega))
theorem c_l4Names (l : List Sm) (q : Int) (ht : totL Sm.tot l ≤ 1048576) (out : List ByteArray) (hb : out.length + (Sm.namesL q l).length ≤ 8388600) : PCall Try.prog 86 [strs out, .lst false 19 (l.map Sm.av), .int .i64 q] (strs ((Sm.namesL q l).foldl putS out)) :=
  c_l4Names0 l q ht (fun x hx => c_l4NamesB x q (by have := totL_mem Sm.tot hx; omega)) out hb
theorem c_spec_VarsOf (l : List Sm) (ht : totL Sm.tot l ≤ 1048576) : PCall Try.prog 59 [.lst false 19 (l.map Sm.av)] (strs (nameSet (Sm.namesL 1 l))) := by
  have hb : (Sm.namesL 1 l).length ≤ 8388600 := by have := Sm.namesL_len 1 l; have := Sm.tots_eq l; omega
  have c1 := c_l4Names l 1 ht [] (by simpa using hb)
  replace c1 := c1.arg (.cons (Le.lst true _ _) (.cons (Le.refl _) (.cons (Le.refl _) .nil)))
  refine pcall_of Try.func59 (by kernel_rfl) rfl (by simp [Try.f59]) ?_
  (repeat refine AWp.seq ?_); refine AWp.region noP (by kernel_rfl) ?_
  simp
  (repeat refine AWp.seq ?_); refine AWp.region allP (by kernel_rfl) ?_
  simp
  refine aop_call' c1 ?_
  simp
  exact AWp.ret (post_ret1 rfl (by simp [nameSet]))
end Go.T
namespace Go.T
open Go Go.Proofs
set_option maxRecDepth 10000
set_option linter.unusedSimpArgs false
set_option linter.unusedVariables false
end Go.T
namespace Go.T
open Go Go.Proofs
set_option maxRecDepth 10000
set_option linter.unusedSimpArgs false
set_option linter.unusedVariables false
end Go.T
namespace Go.Proofs
open Go.Shelf
shelf_lay Lays.n190 Nm 190 at Try as Try.laysSort -- 132
shelf_lay Lays.n194 Nm 194 at Try as Try.laysCompact -- 134
end Go.Proofs
namespace Go.Proofs
open Go.T
theorem clip_c (A : Option Addr) (n c : Nat) (w : World) (h : n ≤ c) : Calls Try.prog 133 #[.slice A n c] w fun e w' => e = .returned (.slice A n n) ∧ w' = w := by
  go_enter Try.func133, Try.ntmps133
  go_wp2
  go_ret
  exact ⟨rfl, rfl⟩
end Go.Proofs
namespace Go.T
open Go Go.Proofs Go.Sort
set_option maxRecDepth 10000
set_option linter.unusedSimpArgs false
set_option linter.unusedVariables false
theorem hb_Sort : HasBody Try.prog 132 := ⟨_, Try.func132, by kernel_rfl, rfl⟩
theorem hb_Compact : HasBody Try.prog 134 := ⟨_, Try.func134, by kernel_rfl, rfl⟩
theorem hb_Clip : HasBody Try.prog 133 := ⟨_, Try.func133, by kernel_rfl, rfl⟩
def sortL (xs : List ByteArray) : List ByteArray := ((xs.map toL).mergeSort fun x y => decide (x ≤ y)).map ofL
def compL (xs : List ByteArray) : List ByteArray := (Go.Lib.compact (xs.map toL)).map ofL
theorem map_toL_ofL (l : List (List UInt8)) : (l.map ofL).map toL = l := by rw [List.map_map]; exact List.map_id'' (fun x => toL_ofL x) l
theorem sortL_len (xs : List ByteArray) : (sortL xs).length = xs.length := by unfold sortL; simp
theorem comp_sort (xs : List ByteArray) : compL (sortL xs) = nameSet xs := by
  rw [← ordered_set]; unfold compL sortL; rw [map_toL_ofL]
theorem compact_le (zs : List (List UInt8)) : (Go.Lib.compact zs).length ≤ zs.length := by
  unfold Go.Lib.compact Go.Lib.compactUpTo
  rw [List.length_map]
  exact Nat.le_trans (List.length_filter_le _ _) (by simp)
theorem c_Sort {m : Mem} {g c : Nat} {xs : List ByteArray} (hg : m g = some (.arr 9 1 c (xs.map .str))) (hb : xs.length ≤ 16777216) {K : AV → Mem → Prop} (hK : K (.tup []) (m.set g (.arr 9 1 c ((sortL xs).map .str)))) : WCall Try.prog 132 [.own g xs.length c] m K := by
  refine WCall.row hb_Sort (ys := sortL xs) (zs := []) (u := .tuple #[]) hg rfl (by simp [sortL_len]) (fun _ _ => .tup .nil) (fun w hH hgs hkc => ?_) hK
  have h := Any.slices_Sort_string Try.laysSort g 0 c (xs.map toL) w hH hgs (by simp; omega)
  have h2 : Calls Try.prog 132 #[.slice (some ⟨g, 0, none⟩) (xs.map toL).length c] w _ := h
  rw [List.length_map] at h2
  refine calls_mono h2 ?_
  rintro e w' ⟨he, n, os, hw⟩
  refine ⟨he, n, os, ?_⟩
  rw [hw, List.append_nil]
  unfold sortL
  rw [map_toL_ofL]
theorem c_Compact {m : Mem} {g c : Nat} {xs : List ByteArray} (hg : m g = some (.arr 9 1 c (xs.map .str))) (hb : xs.length ≤ 16777216) {K : AV → Mem → Prop} (hK : K (.own g (compL xs).length c) (m.set g (.arr 9 1 c ((compL xs).map .str)))) : WCall Try.prog 134 [.own g xs.length c] m K := by
  have hle := compact_le (xs.map toL)
  have hl : (compL xs).length = (Go.Lib.compact (xs.map toL)).length := by unfold compL; simp
  refine WCall.row hb_Compact (ys := compL xs) (zs := List.replicate (xs.length - (compL xs).length) (ofL [])) (u := .slice (some ⟨g, 0, none⟩) (compL xs).length c) hg rfl (by simp at hle ⊢; omega) (fun _ _ => .own g _ c) (fun w hH hgs hkc => ?_) hK
  have h := Any.slices_Compact_string Try.laysCompact g 0 c (xs.map toL) w hH (by simp; omega) (by simpa using hkc)
  have h2 : Calls Try.prog 134 #[.slice (some ⟨g, 0, none⟩) (xs.map toL).length c] w _ := h
  rw [List.length_map] at h2
  refine calls_mono h2 ?_
  rintro e w' ⟨he, n, hw⟩
  refine ⟨by rw [he, hl], n, #[], ?_⟩
  rw [hw, grow_empty, List.map_append, List.map_replicate, toL_ofL, hl]
  unfold compL
  rw [map_toL_ofL]
theorem slice_of_lst {w : World} {S : Nat → Prop} {f : Nat} {v : Value} (h : Rep w S (.lst true f []) v) : ∃ A, v = .slice A 0 0 := by
  cases h with
  | lnil _ _ A c hc => exact ⟨A, by rw [hc rfl]⟩
  | lst _ _ b o c h1 h2 h3 h4 h5 => have := h4 rfl; simp at this; exact ⟨_, by rw [this]; rfl⟩
theorem c_Sort0 (f : Nat) : PCall Try.prog 132 [.lst true f []] (.tup []) :=
  PCall.same hb_Sort fun w S v h => by
    obtain ⟨A, rfl⟩ := slice_of_lst h
    exact ⟨_, .tup .nil, Any.slices_Sort_string_none Try.laysSort A 0 w⟩
theorem c_Compact0 (f : Nat) : PCall Try.prog 134 [.lst true f []] (.lst true f []) :=
  PCall.same hb_Compact fun w S v h => by
    obtain ⟨A, rfl⟩ := slice_of_lst h
    exact ⟨_, .lnil _ _ A 0 (fun _ => rfl), Any.slices_Compact_string_empty Try.laysCompact A 0 w⟩
theorem c_Clip (xs : List AV) (n : Nat) (hb : xs.length ≤ 16777216) : PCall Try.prog 133 [.lst false n xs] (.lst true n xs) := by
  refine ⟨hb_Clip, fun w S cargs m hm hargs => ?_⟩
  cases hargs with | @cons _ v _ vs hv ht =>
  cases ht
  have key : ∀ A l c, v = .slice A l c → l ≤ c → Rep w S (.lst true n xs) (.slice A l l) → Calls Try.prog 133 #[v] w fun e w' => ∃ v' S', e = .returned v' ∧ (∀ b, S b → S' b) ∧ (∀ b, S' b → S b ∨ w.heap.size ≤ b) ∧ MemRep w' S' m ∧ Rep w' S' (.lst true n xs) v' ∧ Keep (fun _ => False) w w' := by
    rintro A l c rfl hlc hrep
    refine calls_mono (clip_c A l c w hlc) ?_
    rintro e w' ⟨rfl, rfl⟩
    exact ⟨_, S, rfl, fun _ h => h, fun _ h => .inl h, hm, hrep, Keep.refl _ _⟩
  cases hv with
  | lnil _ _ A c hc => exact key A 0 c rfl (Nat.zero_le _) (.lnil _ _ A 0 (fun _ => rfl))
  | lst _ _ b o c h1 h2 h3 h4 h5 => exact key _ _ c rfl h3 (.lst true n b o _ h1 h2 (Nat.le_refl _) (fun _ => rfl) h5)
/-- A list of strings that grows: nil, or a row of its own. -/
def GO (m0 : Mem) (xs : List ByteArray) (v : AV) (m : Mem) : Prop := Ext m0 m ∧ ((xs = [] ∧ ∃ f, v = .lst true f []) ∨ ∃ g c, v = .own g xs.length c ∧ m g = some (.arr 9 1 c (xs.map .str)) ∧ m0 g = none)
theorem GO.gs {m0 m : Mem} {xs : List ByteArray} {v : AV} (h : GO m0 xs v m) : GS m0 xs v m := by
  obtain ⟨he, ⟨rfl, f, rfl⟩ | ⟨g, c, rfl, hg, h0⟩⟩ := h
  · exact .lit f m (.inr rfl) he
  · exact .own g c _ m (by simp) hg h0 he
theorem GO.ok {m0 m : Mem} {xs : List ByteArray} {v : AV} (h : GO m0 xs v m) : v.cells = [v] ∧ okCell v = true ∧ v ≠ .undef := by
  obtain ⟨he, ⟨rfl, f, rfl⟩ | ⟨g, c, rfl, hg, h0⟩⟩ := h
  · exact ⟨rfl, rfl, by simp⟩
  · exact ⟨rfl, rfl, by simp⟩
theorem GO.app {m0 m : Mem} {xs : List ByteArray} {v : AV} (h : GO m0 xs v m) (f : Bool) (ys : List ByteArray) (hb : xs.length + ys.length ≤ 16777216) {k : AV → Mem → Prop} (hk : ∀ v' m', GO m0 (xs ++ ys) v' m' → k v' m') : appendW Try.prog m k #[57, 57] v (.lst f 1 (ys.map .str)) := by
  have hT := et_57
  obtain ⟨z, hz, hzl⟩ := hT.zero
  unfold appendW
  simp only [List.getElem?_toArray, List.getElem?_cons_zero, List.getElem?_cons_succ, hT.int, hT.elem, hT.size, hT.byte, hz, srcA, true_and, if_true]
  refine ⟨hT.pos.1, hT.pos.2, hzl, ?_⟩
  obtain ⟨he, ⟨rfl, e, rfl⟩ | ⟨g, c, rfl, hg, h0⟩⟩ := h
  · refine ⟨.inr rfl, by simp at hb ⊢; omega, fun h0 => ?_, fun _ g c hg hle => ?_⟩
    · have : ys = [] := by simpa using h0
      subst this
      exact hk _ _ ⟨he, .inl ⟨rfl, e, rfl⟩⟩
    · refine hk _ _ ⟨he.set (he.none hg) _, .inr ⟨g, c, by simp, by simp [set_same], he.none hg⟩⟩
  · simp only [hg]
    refine ⟨trivial, trivial, trivial, by simp, by simp, by simp at hb ⊢; omega, fun g' c' hg' hle => ?_⟩
    have hg0 : m0 g' = none := by
      rcases hg' with rfl | h
      · exact h0
      · exact he.none h
    exact hk _ _ ⟨he.set hg0 _, .inr ⟨g', c', by simp, by simp [set_same], hg0⟩⟩
/-- A call that is told for no memory only answers. -/
theorem WCall.p {P : Program} {n : FuncId} {args : List AV} {r : AV} (hw : WCall P n args (fun _ => none) fun r' _ => r' = r) : PCall P n args r := by
  refine ⟨hw.1, fun w S cargs m hm hr => ?_⟩
  have hm0 : MemRep w S (fun _ => none) := ⟨(fun g b h => by cases h), fun b hb => ⟨rfl, (hm.apart b hb).2⟩⟩
  refine calls_mono (hw.2 w S cargs hm0 hr) ?_
  rintro e w' ⟨v, r', m', S', rfl, rfl, h1, h2, h3, h4, h5, h6⟩
  have hk : Keep (fun _ => False) w w' := h5.mono (fun b h => absurd rfl h)
  refine ⟨v, S', rfl, h1, fun b hb => (h2 b hb).imp id (fun h => h.elim (fun h => absurd rfl h) id), ⟨fun g b hg => ?_, fun b hb => ?_⟩, h4, hk⟩
  · have hlt := (hm.blk g b hg).lt
    exact (hm.blk g b hg).mono (fun b' hb' => hk.block b' (hm.apart b' hb').2 id) h1 (hk.block g hlt id)
  · refine ⟨?_, (h3.apart b hb).2⟩
    rcases h2 b hb with h | h | h
    · exact (hm.apart b h).1
    · exact absurd rfl h
    · cases hq : m b with
      | none => rfl
      | some x => have := (hm.blk b x hq).lt; omega
end Go.T
namespace Go.T
open Go Go.Proofs
set_option maxRecDepth 10000
set_option linter.unusedSimpArgs false
set_option linter.unusedVariables false
theorem GO.view {m0 m : Mem} {xs : List ByteArray} {v : AV} (h : GO m0 xs v m) : View m v m0 (strs xs) := h.gs.view
theorem GO.mono {m0 m1 m : Mem} {xs : List ByteArray} {v : AV} (h : GO m1 xs v m) (he : Ext m0 m1) : GO m0 xs v m := by
  obtain ⟨h1, h2⟩ := h
  refine ⟨fun g b hg => h1 g b (he g b hg), h2.imp id ?_⟩
  rintro ⟨g, c, a, b, h0⟩
  exact ⟨g, c, a, b, he.none h0⟩
theorem GO.fresh {m0 m : Mem} {xs : List ByteArray} {v : AV} (h : GO m0 xs v m) {g : Nat} (hg : m g = none) (b : Blk) : GO m0 xs v (m.set g b) := by
  obtain ⟨h1, h2⟩ := h
  refine ⟨h1.set (h1.none hg) b, h2.imp id ?_⟩
  rintro ⟨g', c, a, hb, h0⟩
  refine ⟨g', c, a, ?_, h0⟩
  rw [set_at, if_neg]
  · exact hb
  · rintro rfl; rw [hg] at hb; cases hb
theorem c_ordered {m0 m : Mem} {xs : List ByteArray} {v : AV} (h : GO m0 xs v m) (hb : xs.length ≤ 8388608) {K : AV → Mem → Prop} (hK : K (strs (nameSet xs)) m0) : WCall Try.prog 127 [v] m K := by
  refine wcall_of Try.func127 (by kernel_rfl) rfl (by simp [Try.f127]) ?_
  obtain ⟨he, ⟨rfl, f, rfl⟩ | ⟨g, c, rfl, hg, h0⟩⟩ := h
  · (repeat refine AWp.seq ?_); refine AWp.region noP (by kernel_rfl) ?_
    try simp
    (repeat refine AWp.seq ?_); refine AWp.region allP (by kernel_rfl) ?_
    try simp
    refine aop_call' (c_Sort0 f) ?_
    try simp
    (repeat refine AWp.seq ?_); refine AWp.region allP (by kernel_rfl) ?_
    try simp
    refine aop_call' (c_Compact0 f) ?_
    try simp
    refine aop_call' ((c_Clip [] f (by simp)).arg (.cons (Le.lst true f []) .nil)) ?_
    try simp
    refine AWp.ret (post_retW rfl ⟨strs [], m0, ?_, by simpa [nameSet] using hK⟩)
    try simp
    refine (View.forget he _).trans ?_
    intro w S u h1 h2
    exact ⟨S, fun _ h => h, fun _ h => .inl h, h1, Le.nil _ _ _ _ _ _ h2, fun g b h => by rw [h]; simp⟩
  · (repeat refine AWp.seq ?_); refine AWp.region noP (by kernel_rfl) ?_
    try simp
    (repeat refine AWp.seq ?_); refine AWp.region noP (by kernel_rfl) ?_
    try simp
    refine aop_wcall _ _ _ _ _ _ _ _ rfl (eval_func _ _) ?_
    refine c_Sort hg (by omega) ?_
    try simp
    (repeat refine AWp.seq ?_); refine AWp.region noP (by kernel_rfl) ?_
    try simp
    refine aop_wcall _ _ _ _ _ _ _ _ rfl (eval_func _ _) ?_
    have hl := sortL_len xs
    have hg2 : (m.set g (.arr 9 1 c ((sortL xs).map .str))) g = some (.arr 9 1 c ((sortL xs).map .str)) := set_same _ _ _
    have c2 := @c_Compact (m.set g (.arr 9 1 c ((sortL xs).map .str))) g c (sortL xs) hg2 (by omega)
    rw [hl, comp_sort] at c2
    refine c2 ?_
    try simp
    refine aop_wcall _ _ _ _ _ _ _ _ rfl (eval_func _ _) ?_
    have hlen := nameSet_len xs
    refine PCall.viewed (l := []) (l' := []) (c_Clip ((nameSet xs).map .str) 1 (by simp; omega)) (View.freeze (T := 9) (e := 1) (by simp) (by simp)) ?_
    try simp
    refine AWp.ret (post_retW rfl ⟨strs (nameSet xs), m0, ?_, hK⟩)
    try simp
    refine (View.forget (m' := m0) (fun k b hk => ?_) _).trans ?_
    · have hkg : k ≠ g := fun e => by rw [e, h0] at hk; cases hk
      simp only [Mem.del, set_at, if_neg hkg]
      exact he k b hk
    · intro w S u h1 h2
      exact ⟨S, fun _ h => h, fun _ h => .inl h, h1, Le.lst _ _ _ _ _ _ h2, fun g b h => by rw [h]; simp⟩
end Go.T
namespace Go.T
open Go Go.Proofs
set_option maxRecDepth 10000
set_option linter.unusedSimpArgs false
set_option linter.unusedVariables false
/-- A list of names that a function's own variable collects: the variable go, another variable gk that holds k. -/
def Col (m0 : Mem) (gk go : Nat) (q : Int) (xs : List ByteArray) (m : Mem) : Prop := m0 go = none ∧ m0 gk = some (.box [.int .i64 q]) ∧ ∃ v, m go = some (.box [v]) ∧ GO m0 xs v m
theorem Col.fresh {m0 m : Mem} {gk go : Nat} {q : Int} {xs : List ByteArray} (h : Col m0 gk go q xs m) {g : Nat} (hg : m g = none) (b : Blk) : Col m0 gk go q xs (m.set g b) := by
  obtain ⟨h1, h2, v, h3, h4⟩ := h
  refine ⟨h1, h2, v, ?_, h4.fresh hg b⟩
  rw [set_at, if_neg]
  · exact h3
  · rintro rfl; rw [hg] at h3; cases h3
theorem Col.ext {m0 m : Mem} {gk go : Nat} {q : Int} {xs : List ByteArray} (h : Col m0 gk go q xs m) : Ext m0 m := by
  obtain ⟨h1, h2, v, h3, h4⟩ := h
  exact h4.1
theorem Col.keep {m0 m : Mem} {gk go : Nat} {q : Int} {xs : List ByteArray} (h : Col m0 gk go q xs m) {g : Nat} (hg : m g = none) (b : Blk) : Col (m0.set g b) gk go q xs (m.set g b) := by
  obtain ⟨h1, h2, v, h3, h4, h5⟩ := h
  have hgo : go ≠ g := by rintro rfl; rw [hg] at h3; cases h3
  have hgk : gk ≠ g := by rintro rfl; have := h4 _ _ h2; rw [hg] at this; cases this
  refine ⟨by rw [set_at, if_neg hgo]; exact h1, by rw [set_at, if_neg hgk]; exact h2, v, by rw [set_at, if_neg hgo]; exact h3, fun k x hk => ?_, h5.imp id ?_⟩
  · rw [set_at] at hk ⊢
    by_cases e : k = g
    · rw [if_pos e] at hk ⊢; exact hk
    · rw [if_neg e] at hk ⊢; exact h4 k x hk
  · rintro ⟨g', c, a, hb, h0⟩
    have hne : g' ≠ g := by rintro rfl; rw [hg] at hb; cases hb
    exact ⟨g', c, a, by rw [set_at, if_neg hne]; exact hb, by rw [set_at, if_neg hne]; exact h0⟩
theorem Col.less {m0 m : Mem} {gk go : Nat} {q : Int} {xs : List ByteArray} {g : Nat} {b : Blk} (h : Col (m0.set g b) gk go q xs m) (h0 : m0 g = none) (hk : m0 gk = some (.box [.int .i64 q])) : Col m0 gk go q xs m := by
  obtain ⟨h1, h2, v, h3, h4⟩ := h
  have hgo : go ≠ g := by rintro rfl; rw [set_at, if_pos rfl] at h1; cases h1
  rw [set_at, if_neg hgo] at h1
  refine ⟨h1, hk, v, h3, h4.mono fun k x hkx => ?_⟩
  rw [set_at, if_neg]
  · exact hkx
  · rintro rfl; rw [h0] at hkx; cases hkx
/-- It takes one more. -/
theorem Col.push {m0 m : Mem} {gk go : Nat} {q : Int} {xs : List ByteArray} {v : AV} (h1 : m0 go = none) (h2 : m0 gk = some (.box [.int .i64 q])) (h3 : m go = some (.box [v])) (h4 : GO m0 xs v m) (s : ByteArray) (hb : xs.length ≤ 8388608) {k : AV → Mem → Prop}
    (hk : ∀ v' m', m' go = some (.box [v]) → v'.cells = [v'] → okCell v' = true → v' ≠ .undef → Col m0 gk go q (xs ++ [s]) (m'.set go (.box [v'])) → k v' m') : appendW Try.prog m k #[57, 57] v (.lst true 1 [.str s]) := by
  -- the box is no row, and what is taken is none of its
  have hE : Ext (m0.set go (.box [v])) m := fun g b hg => by
    rw [set_at] at hg
    by_cases e : g = go
    · subst e; rw [if_pos rfl] at hg; obtain rfl := Option.some.inj hg; exact h3
    · rw [if_neg e] at hg; exact h4.1 g b hg
  have h5 : GO (m0.set go (.box [v])) xs v m := by
    refine ⟨hE, h4.2.imp id ?_⟩
    rintro ⟨g, c, a, b, h0⟩
    refine ⟨g, c, a, b, ?_⟩
    rw [set_at, if_neg]
    · exact h0
    · rintro rfl; rw [h3] at b; cases b
  refine h5.app true [s] (by simp; omega) fun v' m' hG => ?_
  have hgo : m' go = some (.box [v]) := hG.1 go _ (set_same _ _ _)
  have hex : Ext m0 m' := fun g b hg => hG.1 g b (by
    rw [set_at, if_neg]
    · exact hg
    · rintro rfl; rw [h1] at hg; cases hg)
  obtain ⟨o1, o2, o3⟩ := hG.ok
  refine hk v' m' hgo o1 o2 o3 ⟨h1, h2, v', set_same _ _ _, hex.set h1 _, hG.2.imp id ?_⟩
  rintro ⟨g, c, a, b, h0⟩
  have hgn : g ≠ go := by rintro rfl; rw [hgo] at b; cases b
  refine ⟨g, c, a, by rw [set_at, if_neg hgn]; exact b, ?_⟩
  rw [set_at, if_neg hgn] at h0
  exact h0
theorem c_namesOf1 (x : Sm) {m0 m : Mem} {gk go : Nat} {q : Int} {xs : List ByteArray} (h : Col m0 gk go q xs m) (hb : xs.length ≤ 8388608) {K : AV → Mem → Prop} (hK : ∀ m', Col m0 gk go q (xs ++ one (x.k = q) x.s) m' → K (.tup []) m') :
    WCall Try.prog 126 [x.av, .ptr gk 0, .ptr go 0] m K := by
  refine wcall_of Try.func126 (by kernel_rfl) rfl (by simp [Try.f126]) ?_
  unfold Sm.av
  (repeat refine AWp.seq ?_); refine AWp.region noP (by kernel_rfl) ?_
  simp
  intro g hg
  have h' := h.fresh hg (.box x.cells)
  obtain ⟨h1, h2, v, h3, h4⟩ := h'
  have hgk : (m.set g (.box x.cells)) gk = some (.box [.int .i64 q]) := h4.1 gk _ h2
  have hgg : (m.set g (.box x.cells)) g = some (.box x.cells) := set_same _ _ _
  generalize m.set g (.box x.cells) = m1 at *
  (repeat refine AWp.seq ?_); refine AWp.region noP (by kernel_rfl) ?_
  simp [hgk, hgg]
  (repeat refine AWp.seq ?_); refine AWp.cond (b := decide (x.k = q)) (by simp) (fun hk => ?_) (fun hk => ?_)
  · simp at hk
    (repeat refine AWp.seq ?_); refine AWp.region noP (by kernel_rfl) ?_
    simp [h3, hgg]
    refine Col.push h1 h2 h3 h4 x.s hb fun v' m' hgo o1 o2 o3 hC => ?_
    simp [o1, o2, hgo]
    refine post_nrm0 rfl (hK _ ?_)
    have e : one (x.k = q) x.s = [x.s] := by simp [one, hk]
    rw [e]
    exact hC
  · simp at hk
    refine AWp.skip ?_
    try simp
    refine post_nrm0 rfl ?_
    have e : xs ++ one (x.k = q) x.s = xs := by simp [one, hk]
    refine hK _ ?_
    rw [e]
    exact ⟨h1, h2, v, by simpa using h3, by simpa using h4⟩
mutual
def Sm.walk (f : Sm → List ByteArray) : Sm → List ByteArray
  | .mk k s a e lo hi b => f (.mk k s a e lo hi b) ++ Sm.walkL f b
def Sm.walkL (f : Sm → List ByteArray) : List Sm → List ByteArray
  | [] => []
  | x :: l => x.walk f ++ Sm.walkL f l
end
theorem Sm.walk_eq (f : Sm → List ByteArray) (e : Sm) : e.walk f = f e ++ Sm.walkL f e.body := by cases e; rfl
def Step (n : FuncId) (gk go : Nat) (q : Int) (f : Sm → List ByteArray) : Prop := ∀ (x : Sm), x.tot ≤ 1048576 → ∀ (m0 m : Mem) (xs : List ByteArray), Col m0 gk go q xs m → xs.length + (f x).length ≤ 8388608 → ∀ K : AV → Mem → Prop, (∀ m', Col m0 gk go q (xs ++ f x) m' → K (.tup []) m') → WCall Try.prog n [x.av, .ptr gk 0, .ptr go 0] m K
theorem c_eachStmt0 {n : FuncId} {gk go : Nat} {q : Int} {f : Sm → List ByteArray} (hstep : Step n gk go q f) (l : List Sm) (ht : totL Sm.tot l ≤ 1048576)
    (h : ∀ x ∈ l, ∀ (m0 m : Mem) (xs : List ByteArray), Col m0 gk go q xs m → xs.length + (Sm.walkL f x.body).length ≤ 8388608 → ∀ K : AV → Mem → Prop, (∀ m', Col m0 gk go q (xs ++ Sm.walkL f x.body) m' → K (.tup []) m') → WCall Try.prog 125 [.lst false 19 (x.body.map Sm.av), .func (.func n) [.ptr gk 0, .ptr go 0]] m K)
    (m0 m : Mem) (xs : List ByteArray) (hC : Col m0 gk go q xs m) (hb : xs.length + (Sm.walkL f l).length ≤ 8388608) (K : AV → Mem → Prop) (hK : ∀ m', Col m0 gk go q (xs ++ Sm.walkL f l) m' → K (.tup []) m') :
    WCall Try.prog 125 [.lst false 19 (l.map Sm.av), .func (.func n) [.ptr gk 0, .ptr go 0]] m K := by
  have hlen := totL_len Sm.tot l
  refine wcall_of Try.func125 (by kernel_rfl) rfl (by simp [Try.f125]) ?_
  (repeat refine AWp.seq ?_); refine AWp.region noP (by kernel_rfl) ?_
  simp
  (repeat refine AWp.seq ?_); refine AWp.block (AWp.rounds (fun k st => ∃ (i : Nat) (ys : List ByteArray), k = l.length - i ∧ i ≤ l.length ∧ st.slots 6 = .lst false 19 (l.map Sm.av) ∧ st.slots 7 = .int .i64 l.length ∧ st.slots 8 = .int .i64 i ∧ st.slots 1 = .func (.func n) [.ptr gk 0, .ptr go 0] ∧ Col m0 gk go q ys st.mem ∧
    xs ++ Sm.walkL f l = ys ++ Sm.walkL f (l.drop i)) l.length ⟨0, xs, by simp, by simp, by simp, by simp, by simp, by simp, by simpa using hC, by simp⟩ ?_)
  rintro R k st hR ⟨i, ys, rfl, hi, s6, s7, s8, s1, hC, hr⟩
  (repeat refine AWp.seq ?_); refine AWp.region noP (by kernel_rfl) ?_
  simp [s6, s7, s8]
  (repeat refine AWp.seq ?_); refine AWp.cond (b := decide (i < l.length)) (by simp) (fun hb2 => ?_) (fun hb2 => ?_)
  · simp at hb2
    have hg : l[i]? = some l[i] := List.getElem?_eq_getElem hb2
    have hdr : l.drop i = l[i] :: l.drop (i + 1) := List.drop_eq_getElem_cons hb2
    have htm := totL_mem Sm.tot (List.getElem_mem hb2)
    have htb := l[i].tot_body
    rw [hdr, Sm.walkL, Sm.walk_eq] at hr
    have hll := congrArg List.length hr
    simp only [List.length_append] at hll
    have hx : ∀ m, idxA Try.prog m 62 (.lst false 19 (l.map Sm.av)) (.int .i64 i) = some (.ref l[i].cells) := fun m => idx (y := l[i].av) es_62 (by simp [hg])
    have hw : IntKind.wrap .i64 ((i : Int) + 1) = (i + 1 : Nat) := wrap64 (by omega) (by omega)
    refine AWp.skip ?_
    try simp
    (repeat refine AWp.seq ?_); refine AWp.block ?_; (repeat refine AWp.seq ?_); refine AWp.region noP (by kernel_rfl) ?_
    simp [s6, s8, hx]
    intro g hgf
    try simp [set_at, set_set]
    have hC1 := hC.keep hgf (.box l[i].cells)
    have hm0g : m0 g = none := hC.ext.none hgf
    have hm0k := hC.2.1
    have hgg : (st.mem.set g (.box l[i].cells)) g = some (.box l[i].cells) := set_same _ _ _
    generalize st.mem.set g (.box l[i].cells) = m1 at *
    (repeat refine AWp.seq ?_); refine AWp.region noP (by kernel_rfl) ?_
    simp [s1, hgg]
    refine aop_wcall _ _ _ _ _ _ _ _ rfl (n := n) (caps := [.ptr gk 0, .ptr go 0]) (by simp [s1]) ?_
    try simp [hgg]
    refine hstep l[i] (by omega) _ _ _ hC1 (by omega) _ fun m2 hC2 => ?_
    have hg2 : m2 g = some (.box l[i].cells) := hC2.ext g _ (set_same _ _ _)
    try simp
    (repeat refine AWp.seq ?_); refine AWp.region noP (by kernel_rfl) ?_
    simp [s1, hg2]
    refine aop_wcall _ _ _ _ _ _ _ _ rfl (eval_func _ _) ?_
    refine h l[i] (List.getElem_mem _) _ _ _ hC2 (by simp; omega) _ fun m3 hC3 => ?_
    try simp
    (repeat refine AWp.seq ?_); refine AWp.region noP (by kernel_rfl) ?_
    simp [s8, hw]
    refine hR _ (l.length - (i + 1)) (by omega) ⟨i + 1, _, rfl, hb2, by simp [s6], by simp [s7], by simp, by simp [s1], by simpa using hC3.less hm0g hm0k, ?_⟩
    rw [hr]; simp
  · simp at hb2
    refine AWp.exit ?_
    have : i = l.length := by omega
    subst this
    simp [Sm.walkL] at hr
    try simp
    exact post_nrm0 rfl (hK _ (by rw [hr]; exact hC))
theorem c_eachStmt {n : FuncId} {gk go : Nat} {q : Int} {f : Sm → List ByteArray} (hstep : Step n gk go q f) (l : List Sm) (ht : totL Sm.tot l ≤ 1048576) (m0 m : Mem) (xs : List ByteArray) (hC : Col m0 gk go q xs m) (hb : xs.length + (Sm.walkL f l).length ≤ 8388608) (K : AV → Mem → Prop) (hK : ∀ m', Col m0 gk go q (xs ++ Sm.walkL f l) m' → K (.tup []) m') :
    WCall Try.prog 125 [.lst false 19 (l.map Sm.av), .func (.func n) [.ptr gk 0, .ptr go 0]] m K := by
  have key : ∀ e : Sm, e.tot ≤ 1048576 → ∀ (m0 m : Mem) (xs : List ByteArray), Col m0 gk go q xs m → xs.length + (Sm.walkL f e.body).length ≤ 8388608 → ∀ K : AV → Mem → Prop, (∀ m', Col m0 gk go q (xs ++ Sm.walkL f e.body) m' → K (.tup []) m') → WCall Try.prog 125 [.lst false 19 (e.body.map Sm.av), .func (.func n) [.ptr gk 0, .ptr go 0]] m K := by
    intro e
    induction e using Sm.ind' with | h e h =>
    intro ht
    have := e.tot_body
    exact c_eachStmt0 hstep e.body (by omega) (fun x hx => h x hx (by have := totL_mem Sm.tot hx; omega))
  exact c_eachStmt0 hstep l ht (fun x hx => key x (by have := totL_mem Sm.tot hx; omega)) m0 m xs hC hb K hK
end Go.T
namespace Go.T
open Go Go.Proofs
set_option maxRecDepth 10000
set_option linter.unusedSimpArgs false
set_option linter.unusedVariables false
theorem c_namesOf1s {gk go : Nat} {q : Int} : Step 126 gk go q (fun x => one (x.k = q) x.s) := by
  intro x ht m0 m xs hC hb K hK
  exact c_namesOf1 x hC (by have := hb; omega) hK
mutual
theorem walk_names (q : Int) : ∀ e : Sm, e.walk (fun x => one (x.k = q) x.s) = e.names q
  | .mk k s a e lo hi b => by rw [Sm.walk, Sm.names, walk_namesL q b]; rfl
theorem walk_namesL (q : Int) : ∀ l : List Sm, Sm.walkL (fun x => one (x.k = q) x.s) l = Sm.namesL q l
  | [] => rfl
  | x :: l => by rw [Sm.walkL, Sm.namesL, walk_names q x, walk_namesL q l]
end
theorem c_namesOf (l : List Sm) (q : Int) (ht : totL Sm.tot l ≤ 1048576) : PCall Try.prog 112 [.lst false 19 (l.map Sm.av), .int .i64 q] (strs (nameSet (Sm.namesL q l))) := by
  have hb : (Sm.namesL q l).length ≤ 8388600 := by have := Sm.namesL_len q l; have := Sm.tots_eq l; omega
  refine pcall_of Try.func112 (by kernel_rfl) rfl (by simp [Try.f112]) ?_
  (repeat refine AWp.seq ?_); refine AWp.region noP (by kernel_rfl) ?_
  try simp
  intro gk
  (repeat refine AWp.seq ?_); refine AWp.region noP (by kernel_rfl) ?_
  try simp
  intro go hgo
  have hne : go ≠ gk := by rintro rfl; simp [set_at] at hgo
  have hC : Col (Mem.set (fun _ => none) gk (.box [.int .i64 q])) gk go q [] ((Mem.set (fun _ => none) gk (.box [.int .i64 q])).set go (.box [.lst true 0 []])) :=
    ⟨by simp [set_at, hne], by simp [set_at], .lst true 0 [], by simp [set_at], (Ext.refl _).set (by simp [set_at, hne]) _, .inl ⟨rfl, 0, rfl⟩⟩
  generalize (Mem.set (fun _ => none) gk (.box [.int .i64 q])).set go (.box [.lst true 0 []]) = m1 at *
  generalize (Mem.set (fun _ => none) gk (.box [.int .i64 q])) = m0 at *
  (repeat refine AWp.seq ?_); refine AWp.region noP (by kernel_rfl) ?_
  try simp
  refine aop_wcall _ _ _ _ _ _ _ _ rfl (eval_func _ _) ?_
  refine c_eachStmt c_namesOf1s l ht m0 _ [] (by simpa using hC) (by rw [walk_namesL]; simp; omega) _ fun m' hC' => ?_
  rw [walk_namesL, List.nil_append] at hC'
  obtain ⟨h1, h2, v, h3, h4⟩ := hC'
  try simp
  (repeat refine AWp.seq ?_); refine AWp.region noP (by kernel_rfl) ?_
  simp [h3]
  refine aop_wcall _ _ _ _ _ _ _ _ rfl (eval_func _ _) ?_
  refine c_ordered (m0 := m0) (xs := Sm.namesL q l) (by simpa using h4) (by omega) ?_
  try simp
  exact AWp.ret (post_ret1 rfl (by simp))
theorem c_impl_VarsOf (l : List Sm) (ht : totL Sm.tot l ≤ 1048576) : PCall Try.prog 92 [.lst false 19 (l.map Sm.av)] (strs (nameSet (Sm.namesL 1 l))) := by
  have c1 := c_namesOf l 1 ht
  refine pcall_of Try.func92 (by kernel_rfl) rfl (by simp [Try.f92]) ?_
  (repeat refine AWp.seq ?_); refine AWp.region noP (by kernel_rfl) ?_
  try simp
  (repeat refine AWp.seq ?_); refine AWp.region allP (by kernel_rfl) ?_
  try simp
  refine aop_call' c1 ?_
  try simp
  exact AWp.ret (post_ret1 rfl (by simp))
end Go.T
namespace Go.Proofs
open Go.Shelf
end Go.Proofs
namespace Go.T
open Go Go.Proofs Go.RowKit
set_option maxRecDepth 10000
set_option linter.unusedSimpArgs false
set_option linter.unusedVariables false
end Go.T
namespace Go.T
open Go Go.Proofs
set_option maxRecDepth 10000
set_option linter.unusedSimpArgs false
set_option linter.unusedVariables false
end Go.T
namespace Go.T
open Go Go.Proofs
set_option maxRecDepth 10000
set_option linter.unusedSimpArgs false
set_option linter.unusedVariables false
end Go.T
namespace Go.T
open Go Go.Proofs
set_option maxRecDepth 10000
set_option linter.unusedSimpArgs false
set_option linter.unusedVariables false
end Go.T
namespace Go.T
open Go Go.Proofs
set_option maxRecDepth 10000
set_option linter.unusedSimpArgs false
set_option linter.unusedVariables false
end Go.T
namespace Go.T
open Go Go.Proofs
set_option maxRecDepth 10000
set_option linter.unusedSimpArgs false
set_option linter.unusedVariables false
end Go.T
namespace Go.T
open Go Go.Proofs
set_option maxRecDepth 10000
set_option linter.unusedSimpArgs false
set_option linter.unusedVariables false
section
variable {H : Type} {enc : TypeId × Value → H} {W : World}
theorem o_Exp (fuel : Nat) : Opens enc Try.prog W 52 Ex.cells Ex.fit fuel := by
  induction fuel using Nat.strongRecOn with | ind fuel ih =>
  cases fuel with
  | zero => exact opens_zero
  | succ k =>
    have hL : Opens enc Try.prog W 50 (fun l : List Ex => [.lst false 4 (l.map Ex.av)]) (fun l => l.length ≤ most ∧ ∀ x ∈ l, x.fit) k := by
      cases k with
      | zero => exact opens_zero
      | succ j => exact opens_slice Try.underlying50 (n := 4) (elt := Ex.av) (by kernel_rfl) (by omega) (fun _ => rfl) Ex.cells_len (ih j (by omega))
    exact Opens.map (opens_struct Try.underlying52 (N := 4) (by kernel_rfl) (fields_cons (n := 1) rfl (by kernel_rfl) (opens_int Try.underlying3 _) (fields_cons (n := 1) rfl (by kernel_rfl) (opens_int Try.underlying3 _) (fields_cons (n := 1) rfl (by kernel_rfl) (opens_str Try.underlying9 _) (fields_cons (n := 1) rfl (by kernel_rfl) hL (fields_nil rfl))))))
      (fun x => Ex.mk x.1 x.2.1 x.2.2.1 x.2.2.2.1) fun x hx => ⟨(Ex.fit_mk _ _ _ _).2 ⟨hx.2.2.1, hx.2.2.2.1.1, hx.2.2.2.1.2⟩, by rw [Ex.cells_mk]; exact Les.refl _⟩
theorem o_Stmt (fuel : Nat) : Opens enc Try.prog W 55 Sm.cells Sm.fit fuel := by
  induction fuel using Nat.strongRecOn with | ind fuel ih =>
  cases fuel with
  | zero => exact opens_zero
  | succ k =>
    have hL : Opens enc Try.prog W 53 (fun l : List Sm => [.lst false 19 (l.map Sm.av)]) (fun l => l.length ≤ most ∧ ∀ x ∈ l, x.fit) k := by
      cases k with
      | zero => exact opens_zero
      | succ j => exact opens_slice Try.underlying53 (n := 19) (elt := Sm.av) (by kernel_rfl) (by omega) (fun _ => rfl) Sm.cells_len (ih j (by omega))
    exact Opens.map (opens_struct Try.underlying55 (N := 19) (by kernel_rfl) (fields_cons (n := 1) rfl (by kernel_rfl) (opens_int Try.underlying3 _) (fields_cons (n := 1) rfl (by kernel_rfl) (opens_str Try.underlying9 _) (fields_cons (n := 4) rfl (by kernel_rfl) (o_Exp k) (fields_cons (n := 4) rfl (by kernel_rfl) (o_Exp k)
      (fields_cons (n := 4) rfl (by kernel_rfl) (o_Exp k) (fields_cons (n := 4) rfl (by kernel_rfl) (o_Exp k) (fields_cons (n := 1) rfl (by kernel_rfl) hL (fields_nil rfl)))))))))
      (fun x => Sm.mk x.1 x.2.1 x.2.2.1 x.2.2.2.1 x.2.2.2.2.1 x.2.2.2.2.2.1 x.2.2.2.2.2.2.1) fun x hx => ⟨(Sm.fit_mk _ _ _ _ _ _ _).2 ⟨hx.2.1, hx.2.2.1, hx.2.2.2.1, hx.2.2.2.2.1, hx.2.2.2.2.2.1, hx.2.2.2.2.2.2.1.1, hx.2.2.2.2.2.2.1.2⟩, by rw [Sm.cells_mk]; exact Les.refl _⟩
end
end Go.T
namespace Go.T
open Go Go.Proofs
set_option maxRecDepth 10000
set_option linter.unusedSimpArgs false
set_option linter.unusedVariables false
end Go.T
namespace Go.T
open Go Go.Proofs
set_option maxRecDepth 10000
set_option linter.unusedSimpArgs false
set_option linter.unusedVariables false
end Go.T
namespace Go.T
open Go Go.Proofs
set_option maxRecDepth 10000
set_option linter.unusedSimpArgs false
set_option linter.unusedVariables false
section
variable {H : Type} {enc : TypeId × Value → H} {W : World}
end
end Go.T
namespace Go.T
open Go Go.Proofs
set_option maxRecDepth 10000
set_option linter.unusedSimpArgs false
set_option linter.unusedVariables false
theorem byte_add (x : Int) (h0 : 0 ≤ x) (h1 : x ≤ 9) : IntKind.wrap .u8 (48 + x) = 48 + x := by
  unfold IntKind.wrap
  simp [IntKind.bits, IntKind.signed]
  omega
theorem bytesOf_one (n : Int) : (bytesOf [n]).size = 1 := rfl
theorem c_markText (k : Int) (h0 : 0 < k) (h1 : k ≤ 4611686018427387904) : PCall Try.prog 69 [.int .i64 k] (.str (markT k)) := by
  obtain ⟨n, rfl⟩ := Int.eq_ofNat_of_zero_le (show 0 ≤ k by omega)
  refine pcall_of Try.func69 (by kernel_rfl) rfl (by simp [Try.f69]) ?_
  (repeat refine AWp.seq ?_); refine AWp.region noP (by kernel_rfl) ?_
  try simp
  (repeat refine AWp.seq ?_); refine AWp.region noP (by kernel_rfl) ?_
  try simp
  (repeat refine AWp.seq ?_); refine AWp.condF (by simp; omega) ?_
  refine AWp.skip ?_
  try simp
  (repeat refine AWp.seq ?_); refine AWp.region noP (by kernel_rfl) ?_
  try simp
  (repeat refine AWp.seq ?_); refine AWp.block (AWp.rounds (fun m st => ∃ (q : Nat) (out : ByteArray), m = q ∧ q + out.size ≤ n ∧ markU n ⟨#[]⟩ = markU q out ∧ st.slots 0 = .int .i64 q ∧ st.slots 3 = .str out) n ⟨n, ⟨#[]⟩, rfl, Nat.le_refl _, rfl, by simp, by simp⟩ ?_)
  rintro R m st hR ⟨q, out, rfl, hq, he, s0, s3⟩
  (repeat refine AWp.seq ?_); refine AWp.region noP (by kernel_rfl) ?_
  simp [s0]
  by_cases hz : m = 0
  · subst hz
    (repeat refine AWp.seq ?_); refine AWp.condF (by simp) ?_
    refine AWp.exit ?_
    try simp
    have hu : markU 0 out = out := by rw [markU, dif_pos rfl]
    rw [hu] at he
    have e2 : markT (n : Int) = ⟨#[109]⟩ ++ out := by unfold markT; rw [Int.toNat_natCast, he]
    (repeat refine AWp.seq ?_); refine AWp.region noP (by kernel_rfl) ?_
    have hadd : strA .add ⟨#[109]⟩ out = some (.str (⟨#[109]⟩ ++ out)) := if_pos (show (⟨#[109]⟩ : ByteArray).size + out.size ≤ 9223372036854775807 by have : (⟨#[109]⟩ : ByteArray).size = 1 := rfl; omega)
    simp [s3, hadd]
    exact AWp.ret (post_ret1 rfl (by simp [e2]))
  · have hm : (m : Int).tmod 10 = (m : Int) % 10 := Int.tmod_eq_emod_of_nonneg (by omega)
    have hd : (m : Int).tdiv 10 = (m : Int) / 10 := Int.tdiv_eq_ediv_of_nonneg (by omega)
    have w1 : IntKind.wrap .i64 (48 + (m : Int) % 10) = 48 + (m : Int) % 10 := wrap64 (by omega) (by omega)
    have w2 := byte_add ((m : Int) % 10) (by omega) (by omega)
    have w3 : IntKind.wrap .i64 ((m : Int) / 10) = (m : Int) / 10 := wrap64 (by omega) (by omega)
    have hs : (bytesOf [48 + (m : Int) % 10]).size + out.size ≤ 9223372036854775807 := by rw [bytesOf_one]; omega
    have e3 : markU m out = markU (m / 10) (bytesOf [48 + (m : Int) % 10] ++ out) := by rw [markU, dif_neg hz]; congr 3
    have hsz : (bytesOf [48 + (m : Int) % 10] ++ out).size = 1 + out.size := by rw [ByteArray.size_append, bytesOf_one]
    rw [e3] at he
    have hadd : strA .add (bytesOf [48 + (m : Int) % 10]) out = some (.str (bytesOf [48 + (m : Int) % 10] ++ out)) := if_pos hs
    generalize hnx : bytesOf [48 + (m : Int) % 10] ++ out = nx at *
    (repeat refine AWp.seq ?_); refine AWp.condT (by simp; omega) ?_
    refine AWp.skip ?_
    try simp
    (repeat refine AWp.seq ?_); refine AWp.block ?_
    (repeat refine AWp.seq ?_); refine AWp.region noP (by kernel_rfl) ?_
    simp [s0, s3, hm, w1, w2, numsA, hadd]
    (repeat refine AWp.seq ?_); refine AWp.region noP (by kernel_rfl) ?_
    simp [s0, hd, w3]
    exact hR _ (m / 10) (by omega) ⟨m / 10, nx, rfl, by omega, he, by simp, by simp⟩
end Go.T
namespace Go.T
open Go Go.Proofs
set_option maxRecDepth 10000
set_option linter.unusedSimpArgs false
set_option linter.unusedVariables false
def Ex.parts : Ex → List Ex
  | .mk _ _ _ l => l
/-- What marking rows of these comes to. -/
def MkExp (l : List Ex) : Prop := ∀ (m : Mem) (F : Nat → Prop) (v : AV) (f : Bool) (h : OwnT m F v (.lst f 4 (l.map Ex.av))) (k : Int) (h0 : 0 < k) (hb : k + (AV.cnts (l.map Ex.av) : Int) ≤ 4611686018427387904) (K : AV → Mem → Prop)
    (hK : ∀ m' (l' : List Ex), (∀ b, ¬ F b → m' b = m b) → OwnT m' F v (.lst false 4 (l'.map Ex.av)) → Held (l'.map Ex.av) k (k + (AV.cnts (l.map Ex.av) : Int)) → K (.int .i64 (k + (AV.cnts (l.map Ex.av) : Int))) m'), WCall Try.prog 95 [v, .int .i64 k] m K
theorem c_markExpS0 (l : List Ex) (hr : ∀ x ∈ l, MkExp x.parts) : MkExp l := by
  intro m F v f h k h0 hb K hK
  refine wcall_of Try.func95 (by kernel_rfl) rfl (by simp [Try.f95]) ?_
  rcases own_row h with ⟨f', e', rfl, hnil⟩ | ⟨g, n, c, rfl, hn, rfl⟩
  · have hl : l = [] := by simpa using hnil
    subst hl
    (repeat refine AWp.seq ?_); refine AWp.region noP (by kernel_rfl) ?_
    try simp
    (repeat refine AWp.seq ?_); refine AWp.region noP (by kernel_rfl) ?_
    try simp
    (repeat refine AWp.seq ?_); refine AWp.block (AWp.rounds (fun q st => q = 0 ∧ st.slots 0 = .lst f' e' [] ∧ st.slots 1 = .int .i64 k ∧ st.slots 5 = .int .i64 0 ∧ st.mem = m) 0 ⟨rfl, by simp, by simp, by simp, by simp⟩ ?_)
    rintro R q st hR ⟨rfl, s0, s1, s5, sm⟩
    (repeat refine AWp.seq ?_); refine AWp.region noP (by kernel_rfl) ?_
    simp [s0, s5]
    (repeat refine AWp.seq ?_); refine AWp.condF (by simp) ?_
    refine AWp.exit ?_
    try simp
    (repeat refine AWp.seq ?_); refine AWp.region noP (by kernel_rfl) ?_
    simp [s1]
    refine AWp.ret (post_retW rfl ⟨_, _, View.refl _ _, ?_⟩)
    have := hK m [] (fun _ _ => rfl) (.nil _ _ _) (by simpa [AV.cnts] using Held.nil k)
    simpa [AV.cnts, sm] using this
  obtain ⟨T, G, ys, hM, hy, hx⟩ := Marking.start h
  have hlen : l.length = n := by simpa using hx
  have hcl := cnts_len (f := Ex.av) (fun x => by cases x; simp [Ex.av, Ex.cells_mk, AV.cnt, AV.cnts]; try omega) l
  (repeat refine AWp.seq ?_); refine AWp.region noP (by kernel_rfl) ?_
  try simp
  (repeat refine AWp.seq ?_); refine AWp.region noP (by kernel_rfl) ?_
  try simp
  (repeat refine AWp.seq ?_); refine AWp.block (AWp.rounds (fun q st => ∃ (i : Nat) (ys : List AV) (ki : Int) (done : List Ex), q = n - i ∧ i ≤ n ∧ done.length = i ∧ ys.length = n ∧ st.slots 0 = .own g n c ∧ st.slots 1 = .int .i64 ki ∧ st.slots 5 = .int .i64 i ∧ Held (done.map Ex.av) k ki ∧ k ≤ ki ∧ ki + (AV.cnts ((l.drop i).map Ex.av) : Int) = k + (AV.cnts (l.map Ex.av) : Int) ∧ Marking st.mem m F g T 4 c G ys ((done ++ l.drop i).map Ex.av)) n ⟨0, ys, k, [], by simp, by simp, rfl, hy, by simp, by simp, by simp, .nil k, by omega, by simp, by simpa using hM⟩ ?_)
  clear hM hy ys
  rintro R q st hR ⟨i, ys, ki, done, rfl, hi, hdl, hy, s0, s1, s5, hH, hki, hcnt, hM⟩
  (repeat refine AWp.seq ?_); refine AWp.region noP (by kernel_rfl) ?_
  simp [s0, s5]
  (repeat refine AWp.seq ?_); refine AWp.cond (b := decide (i < n)) (by simp) (fun hlt => ?_) (fun hlt => ?_)
  rotate_left
  · simp at hlt
    have hin : i = n := by omega
    subst hin
    refine AWp.exit ?_
    try simp
    (repeat refine AWp.seq ?_); refine AWp.region noP (by kernel_rfl) ?_
    simp [s1]
    rw [List.drop_eq_nil_of_le (by omega)] at hcnt hM
    rw [List.append_nil] at hM
    have hke : ki = k + (AV.cnts (l.map Ex.av) : Int) := by simpa [AV.cnts] using hcnt
    subst hke
    refine AWp.ret (post_retW rfl ⟨_, _, View.refl _ _, ?_⟩)
    simp
    exact hK _ done hM.out (hM.done hy) hH
  simp at hlt
  have hil : i < l.length := by omega
  have hdr : l.drop i = l[i] :: l.drop (i + 1) := List.drop_eq_getElem_cons hil
  have hmem := List.getElem_mem hil
  have hwi : IntKind.wrap .i64 ((i : Int) + 1) = (i + 1 : Nat) := wrap64 (by omega) (by omega)
  rw [hdr] at hcnt hM
  rcases hx0 : l[i] with ⟨b0, b1, b2, b3⟩
  rw [hx0] at hcnt hM hmem
  have hat := at_done Ex.av done (Ex.mk b0 b1 b2 b3) (l.drop (i + 1)) hdl
  obtain ⟨B, cs0, hok, hal, I, hback⟩ := hM.into (i := i) (by omega) (cs := [.int .i64 b0, .int .i64 b1, .str b2, .lst false 4 (b3.map Ex.av)]) (by rw [hat]; simp [Ex.av, Ex.cells_mk])
  obtain ⟨a0, a1, a2, a3, rfl⟩ : ∃ a0 a1 a2 a3, cs0 = [a0, a1, a2, a3] := by
    match cs0, hal with
    | [a0, a1, a2, a3], _ => exact ⟨_, _, _, _, rfl⟩
  simp only [List.map_cons, AV.cnts, Ex.av, Ex.cells_mk, AV.cnt, List.cons_append, List.nil_append] at hcnt
  simp only [List.all_cons, List.all_nil, Bool.and_eq_true, Bool.and_true] at hok
  refine AWp.skip ?_
  try simp
  (repeat refine AWp.seq ?_); refine AWp.block ?_
  have hg := I.row
  have hx : idxA Try.prog st.mem 59 (.own g n c) (.int .i64 i) = some (.elt g 4 i 0) := idx_own es_59 hg (by simp [hy]) hlt
  have I2 := I.leaf 0 (x := .int .i64 (ki)) (own_int _ _)
  have hst := I.store (by omega) rfl 0 (by omega) (by omega) (x := .int .i64 (ki)) rfl
  simp only [List.set_cons_zero, List.set_cons_succ] at I2 hst
  (repeat refine AWp.seq ?_); refine AWp.cutA (fun u => u.slots 0 = .own g n c ∧ u.slots 1 = .int .i64 (ki) ∧ u.slots 5 = .int .i64 i ∧ InRow u.mem st.mem g T 4 c i ys B [.int .i64 (ki), a1, a2, a3] [.int .i64 (ki), .int .i64 b1, .str b2, .lst false 4 (b3.map Ex.av)]) ?_ ?_
  · refine AWp.region noP (by kernel_rfl) ?_
    simp [s0, s1, s5, hx, hst]
    exact I2
  clear hg hx hst I2 I
  rintro u0 ⟨s0, s1, s5, I⟩
  have hw : IntKind.wrap .i64 (ki + 1) = ki + 1 := wrap64 (by omega) (by omega)
  (repeat refine AWp.seq ?_); refine AWp.region noP (by kernel_rfl) ?_
  simp [s1, hw]
  clear hw
  have hg := I.row
  have hx : idxA Try.prog u0.mem 59 (.own g n c) (.int .i64 i) = some (.elt g 4 i 0) := idx_own es_59 hg (by simp [hy]) hlt
  have I2 := I.leaf 1 (x := .int .i64 (ki + 1)) (own_int _ _)
  have hst := I.store (by omega) rfl 1 (by omega) (by omega) (x := .int .i64 (ki + 1)) rfl
  simp only [List.set_cons_zero, List.set_cons_succ] at I2 hst
  (repeat refine AWp.seq ?_); refine AWp.cutA (fun u => u.slots 0 = .own g n c ∧ u.slots 1 = .int .i64 (ki + 1) ∧ u.slots 5 = .int .i64 i ∧ InRow u.mem st.mem g T 4 c i ys B [.int .i64 (ki), .int .i64 (ki + 1), a2, a3] [.int .i64 (ki), .int .i64 (ki + 1), .str b2, .lst false 4 (b3.map Ex.av)]) ?_ ?_
  · refine AWp.region noP (by kernel_rfl) ?_
    simp [s0, s1, s5, hx, hst]
    exact I2
  clear hg hx hst I2 I
  rintro u1 ⟨s0, s1, s5, I⟩
  have hw : IntKind.wrap .i64 (ki + 1 + 1) = ki + 1 + 1 := wrap64 (by omega) (by omega)
  (repeat refine AWp.seq ?_); refine AWp.region noP (by kernel_rfl) ?_
  simp [s1, hw]
  clear hw
  have hg := I.row
  have hx : idxA Try.prog u1.mem 59 (.own g n c) (.int .i64 i) = some (.elt g 4 i 0) := idx_own es_59 hg (by simp [hy]) hlt
  have I2 := I.leaf 2 (x := .str (markT (ki + 1 + 1))) (own_str _)
  have hst := I.store (by omega) rfl 2 (by omega) (by omega) (x := .str (markT (ki + 1 + 1))) rfl
  simp only [List.set_cons_zero, List.set_cons_succ] at I2 hst
  (repeat refine AWp.seq ?_); refine AWp.cutA (fun u => u.slots 0 = .own g n c ∧ u.slots 1 = .int .i64 (ki + 1 + 1) ∧ u.slots 5 = .int .i64 i ∧ InRow u.mem st.mem g T 4 c i ys B [.int .i64 (ki), .int .i64 (ki + 1), .str (markT (ki + 1 + 1)), a3] [.int .i64 (ki), .int .i64 (ki + 1), .str (markT (ki + 1 + 1)), .lst false 4 (b3.map Ex.av)]) ?_ ?_
  · refine AWp.region noP (by kernel_rfl) ?_
    simp [s0, s1, s5, hx, hst]
    refine aop_call' (c_markText (ki + 1 + 1) (by omega) (by omega)) ?_
    simp [s0, s1, s5, hx, hst]
    exact I2
  clear hg hx hst I2 I
  rintro u2 ⟨s0, s1, s5, I⟩
  have hw : IntKind.wrap .i64 (ki + 1 + 1 + 1) = ki + 1 + 1 + 1 := wrap64 (by omega) (by omega)
  (repeat refine AWp.seq ?_); refine AWp.region noP (by kernel_rfl) ?_
  simp [s1, hw]
  clear hw
  have hg := I.row
  have hx : idxA Try.prog u2.mem 59 (.own g n c) (.int .i64 i) = some (.elt g 4 i 0) := idx_own es_59 hg (by simp [hy]) hlt
  obtain ⟨A, x, hxo, hown, hupd⟩ := I.call (o := 3) (by simp)
  obtain rfl : .lst false 4 (b3.map Ex.av) = x := Option.some.inj hxo
  simp only [List.getElem_cons_succ, List.getElem_cons_zero] at hown hupd
  (repeat refine AWp.seq ?_); refine AWp.region noP (by kernel_rfl) ?_
  simp [s0, s1, s5, hx, hg, hy, hlt]
  refine aop_wcall _ _ _ _ _ _ _ _ rfl (eval_func _ _) ?_
  refine (show MkExp b3 from hr _ hmem) _ _ _ _ hown (ki + 1 + 1 + 1) (by omega) (by omega) _ fun m' l3 hout ho hh3 => ?_
  simp [s0, s1, s5]
  have I2 := hupd m' _ hout ho
  simp only [List.set_cons_zero, List.set_cons_succ] at I2
  clear hg hx I hupd hown hxo
  have I := I2
  have hnew : Ex.av (Ex.mk (ki) (ki + 1) (markT (ki + 1 + 1)) l3) = .agg [.int .i64 (ki), .int .i64 (ki + 1), .str (markT (ki + 1 + 1)), .lst false 4 (l3.map Ex.av)] := by simp [Ex.av, Ex.cells_mk]
  have hM2 := hback m' [.int .i64 (ki), .int .i64 (ki + 1), .str (markT (ki + 1 + 1)), a3] [.int .i64 (ki), .int .i64 (ki + 1), .str (markT (ki + 1 + 1)), .lst false 4 (l3.map Ex.av)] I (by simp [hok])
  rw [← hnew, set_done Ex.av done _ _ _ hdl] at hM2
  (repeat refine AWp.seq ?_); refine AWp.region noP (by kernel_rfl) ?_
  simp [s0, s1, s5, hwi]
  refine hR _ (n - (i + 1)) (by omega) ⟨i + 1, _, ki + 1 + 1 + 1 + (AV.cnts (b3.map Ex.av) : Int), done ++ [(Ex.mk (ki) (ki + 1) (markT (ki + 1 + 1)) l3)], rfl, by omega, by simp [hdl], ?_, by simp [s0, s1, s5], by simp [s0, s1, s5], by simp, ?_, by omega, by omega, by simpa using hM2⟩
  · simp [hy]
  · rw [List.map_append, List.map_cons, hnew]
    exact hH.append (.agg (.int (.int (.str (.lst hh3 (.nil _))))) (.nil _))
theorem mk_exp (e : Ex) : MkExp e.parts := by
  induction e using Ex.ind with | h k n s l h => exact c_markExpS0 l h
theorem c_markExpS (l : List Ex) : MkExp l := mk_exp (Ex.mk 0 0 ⟨#[]⟩ l)
end Go.T
