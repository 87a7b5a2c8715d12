/- Where all of a program stands, in plain Lean. -/
import Derived.Test.YtjpgifmkikmbgaaGreatD9
namespace Go.T
open Go
set_option linter.unusedSimpArgs false
set_option linter.unusedVariables false
def sumN : List Ar → Int
  | [] => 0
  | a :: l => a.n + sumN l
theorem sumN_app : ∀ a b : List Ar, sumN (a ++ b) = sumN a + sumN b
  | [], b => by simp [sumN]
  | x :: a, b => by simp only [List.cons_append, sumN, sumN_app a b]; omega
theorem sumN_succ (A : List Ar) (i : Nat) (h : i < A.length) : sumN (A.take (i + 1)) = sumN (A.take i) + A[i].n := by
  rw [List.take_add_one, List.getElem?_eq_getElem h, sumN_app]; simp [sumN]
theorem sumN_le : ∀ l : List Ar, (∀ a ∈ l, inR a.n 1 16 = true) → 0 ≤ sumN l ∧ sumN l ≤ 16 * l.length
  | [], _ => by simp [sumN]
  | a :: l, h => by
    have h1 := h a (List.mem_cons_self ..)
    have h2 := sumN_le l fun x hx => h x (List.mem_cons_of_mem _ hx)
    unfold inR at h1
    simp at h1
    simp only [sumN, List.length_cons]
    omega
theorem arrs_in : ∀ (A : List Ar) (pr : Option ByteArray), arrsFrom pr A = true → ∀ a ∈ A, inR a.n 1 16 = true
  | [], _, _, a, h => by cases h
  | x :: l, pr, h, a, ha => by
    have h' : (nameOk x.s && (inR x.n 1 16 && (pr.elim true (fun q => blt q x.s) && arrsFrom (some x.s) l))) = true := by cases pr <;> exact h
    simp only [Bool.and_eq_true] at h'
    rcases List.mem_cons.1 ha with rfl | ha
    · exact h'.2.1
    · exact arrs_in l _ h'.2.2.2 a ha
structure Pg.Fine (p : Pg) : Prop where
  arrs : p.arrs.length ≤ 4
  sizes : ∀ a ∈ p.arrs, inR a.n 1 16 = true
  vars : p.vars.length ≤ 6
  body : p.body.length ≤ 12
theorem Pg.fine {p : Pg} (h : p.ok = true) : p.Fine := by
  unfold Pg.ok Pg.head Pg.namesB at h
  simp only [Bool.and_eq_true, decide_eq_true_eq] at h
  obtain ⟨⟨h1, h2, h3, h4⟩, h5⟩ := h
  exact ⟨h2, arrs_in _ _ h1, h5.2.2.2.2.2.2.2, h3⟩
def Pg.size (p : Pg) : Int := sumN p.arrs
theorem Pg.Fine.take {p : Pg} (h : p.Fine) (k : Nat) : 0 ≤ sumN (p.arrs.take k) ∧ sumN (p.arrs.take k) ≤ 64 := by
  have h1 := sumN_le (p.arrs.take k) fun a ha => h.sizes a (List.mem_of_mem_take ha)
  have h2 : (p.arrs.take k).length ≤ 4 := by rw [List.length_take]; have := h.arrs; omega
  omega
theorem Pg.Fine.size {p : Pg} (h : p.Fine) : 0 ≤ p.size ∧ p.size ≤ 64 := by
  have := h.take p.arrs.length
  rwa [List.take_length] at this
def Pg.regs (p : Pg) : List ByteArray := nameSet (p.loops ++ p.vars)
theorem Pg.regs_fold (p : Pg) : p.loops.foldl putS p.vars = p.regs := by
  unfold Pg.vars
  rw [fold_set]
  unfold Pg.regs
  refine nameSet_ext fun x => ?_
  unfold Pg.vars
  simp only [List.mem_append, nameSet_mem]
  exact Or.comm
theorem Pg.regs_len (p : Pg) : p.regs.length ≤ p.loops.length + p.vars.length := by
  have := nameSet_len (p.loops ++ p.vars)
  rwa [List.length_append] at this
/-- Where all stands. -/
def Pg.lay (p : Pg) : List AV := [.lst false 2 (p.arrs.map Ar.av), .lst false 19 (p.body.map Sm.av), strs p.vars, strs p.regs, .int .i64 p.size]
/-- Where words begin that are no array's; -1: it is no program. -/
def Pg.v0 (p : Pg) : Int := if p.ok = true then p.size else -1
def Pg.f0 (p : Pg) : Int := if p.ok = true then p.size + p.vars.length else -1
end Go.T
