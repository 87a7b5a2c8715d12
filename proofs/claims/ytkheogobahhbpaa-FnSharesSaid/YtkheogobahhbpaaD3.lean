/- What is right, in plain Lean. -/
import Derived.Test.YtkheogobahhbpaaD2
namespace Go.T
open Go
def noS (s : ByteArray) : Bool := decide (s = ⟨#[]⟩)
/-- Is an expression as told, but for its parts? -/
def partsOk (k n : Int) (s : ByteArray) (len : Int) : Bool :=
  if k = 1 then inR n 0 999999 && noS s && decide (len = 0)
  else if k = 2 then nameOk s && decide (n = 0) && decide (len = 0)
  else if k = 3 then nameOk s && decide (n = 0) && decide (len = 1)
  else inR k 4 8 && decide (n = 0) && noS s && decide (len = 2)
/-- How many parts a kind has. -/
def partsN (k : Int) : Int := if k = 1 then 0 else if k = 2 then 0 else if k = 3 then 1 else if inR k 4 8 then 2 else -1
mutual
/-- Is an expression as told, so deep? -/
def Ex.good : Ex → Nat → Bool
  | .mk k n s l, d => decide (d ≤ 8) && partsOk k n s l.length && Ex.goods l (d + 1)
def Ex.goods : List Ex → Nat → Bool
  | [], _ => true
  | e :: l, d => e.good d && Ex.goods l d
end
mutual
def Ex.nodes : Ex → Nat
  | .mk _ _ _ l => 1 + Ex.nodess l
def Ex.nodess : List Ex → Nat
  | [] => 0
  | e :: l => e.nodes + Ex.nodess l
end
theorem Ex.nodess_eq : ∀ l, Ex.nodess l = sumL Ex.nodes l
  | [] => rfl
  | e :: l => by rw [Ex.nodess, Ex.nodess_eq l, sumL]
theorem sumL_le {X : Type} (f g : X → Nat) : ∀ l : List X, (∀ x ∈ l, f x ≤ 1 + g x) → sumL f l ≤ totL g l
  | [], _ => Nat.le_refl _
  | x :: l, h => by
    have h1 := h x (List.mem_cons_self ..)
    have h2 := sumL_le f g l (fun y hy => h y (List.mem_cons_of_mem _ hy))
    simp only [sumL, totL]; omega
theorem Ex.nodes_le (e : Ex) : e.nodes ≤ 1 + e.tot := by
  induction e using Ex.ind with | h k n s l h =>
  rw [Ex.tot_mk, Ex.nodes, Ex.nodess_eq]
  have := sumL_le Ex.nodes Ex.tot l h
  omega
theorem sumL_drop {X : Type} (f : X → Nat) (l : List X) (i : Nat) : sumL f (l.drop i) ≤ sumL f l := by
  induction l generalizing i with
  | nil => simp
  | cons x l ih =>
    cases i with
    | zero => simp
    | succ i => have := ih i; simp only [List.drop_succ_cons, sumL]; omega
def Ex.msr (e : Ex) (d : Nat) : Int := if e.good d then e.nodes else -1
def Ex.msrs (l : List Ex) (d : Nat) (q : Int) : Int := if Ex.goods l d then q + sumL Ex.nodes l else -1
theorem Ex.msrs_cons (e : Ex) (l : List Ex) (d : Nat) (q : Int) : Ex.msrs (e :: l) d q = if e.msr d < 0 then -1 else Ex.msrs l d (q + e.msr d) := by
  simp only [Ex.msrs, Ex.msr, Ex.goods, sumL]
  by_cases h1 : e.good d = true <;> by_cases h2 : Ex.goods l d = true <;> simp [h1, h2] <;> omega
theorem Ex.msr_mk (k n : Int) (s : ByteArray) (l : List Ex) (d : Nat) : (Ex.mk k n s l).msr d = if d ≤ 8 ∧ partsOk k n s l.length = true then Ex.msrs l (d + 1) 1 else -1 := by
  simp only [Ex.msr, Ex.msrs, Ex.good, Ex.nodes, Ex.nodess_eq]
  by_cases h : d ≤ 8 <;> by_cases h1 : partsOk k n s l.length = true <;> by_cases h2 : Ex.goods l (d + 1) = true <;> simp [h, h1, h2]
/-- Is an expression right? -/
def Ex.ok (e : Ex) : Bool := e.good 1 && decide (e.nodes ≤ 60)
end Go.T
