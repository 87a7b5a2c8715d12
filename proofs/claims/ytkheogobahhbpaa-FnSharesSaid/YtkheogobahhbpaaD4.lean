/- How the reference counts expressions, in plain Lean. -/
import Derived.Test.YtkheogobahhbpaaD3
namespace Go.T
open Go
mutual
def Ex.cnt : Ex → Nat → Int
  | .mk k n s l, d => if d ≤ 8 ∧ partsOk k n s l.length = true then Ex.cnts l (d + 1) 1 else 100
def Ex.cnts : List Ex → Nat → Int → Int
  | [], _, n => n
  | e :: l, d, n => if n ≤ 60 then Ex.cnts l d (n + e.cnt d) else n
end
theorem Ex.cnts_ge (l : List Ex) (h : ∀ x ∈ l, ∀ d, 0 ≤ x.cnt d) : ∀ d n, n ≤ Ex.cnts l d n := by
  induction l with
  | nil => intro d n; rw [Ex.cnts]; exact Int.le_refl _
  | cons e l ih =>
    intro d n
    rw [Ex.cnts]
    have h1 := h e (List.mem_cons_self ..) d
    have h2 := ih (fun x hx => h x (List.mem_cons_of_mem _ hx)) d (n + e.cnt d)
    split <;> omega
theorem Ex.cnt_pos (e : Ex) : ∀ d, 0 ≤ e.cnt d := by
  induction e using Ex.ind with | h k n s l h =>
  intro d
  rw [Ex.cnt]
  have := Ex.cnts_ge l h (d + 1) 1
  split <;> omega
theorem Ex.cnts_le (l : List Ex) (h : ∀ x ∈ l, ∀ d, x.cnt d ≤ 100 * x.nodes) : ∀ d n, Ex.cnts l d n ≤ n + 100 * sumL Ex.nodes l := by
  induction l with
  | nil => intro d n; rw [Ex.cnts]; simp [sumL]
  | cons e l ih =>
    intro d n
    rw [Ex.cnts, sumL]
    have h1 := h e (List.mem_cons_self ..) d
    have h2 := ih (fun x hx => h x (List.mem_cons_of_mem _ hx)) d (n + e.cnt d)
    split <;> omega
theorem Ex.cnt_le (e : Ex) : ∀ d, e.cnt d ≤ 100 * e.nodes := by
  induction e using Ex.ind with | h k n s l h =>
  intro d
  rw [Ex.cnt, Ex.nodes, Ex.nodess_eq]
  have := Ex.cnts_le l h (d + 1) 1
  split <;> omega
def Ex.Cnt (e : Ex) : Prop := ∀ d, (e.good d = true → (e.cnt d = e.nodes ∨ (60 < e.cnt d ∧ 60 < e.nodes))) ∧ (e.good d = false → 60 < e.cnt d)
theorem Ex.cnts_ok (l : List Ex) (h : ∀ x ∈ l, x.Cnt) : ∀ d (n : Int), 0 ≤ n → (Ex.goods l d = true → (Ex.cnts l d n = n + sumL Ex.nodes l ∨ (60 < Ex.cnts l d n ∧ 60 < n + sumL Ex.nodes l))) ∧ (Ex.goods l d = false → 60 < Ex.cnts l d n) := by
  induction l with
  | nil => intro d n hn; simp [Ex.cnts, Ex.goods, sumL]
  | cons e l ih =>
    intro d n hn
    have h1 := h e (List.mem_cons_self ..) d
    have hp := e.cnt_pos d
    have h2 := ih (fun x hx => h x (List.mem_cons_of_mem _ hx)) d (n + e.cnt d) (by omega)
    have h3 := Ex.cnts_ge l (fun x _ => x.cnt_pos) d (n + e.cnt d)
    rw [Ex.cnts, Ex.goods, sumL]
    by_cases hn60 : n ≤ 60
    · rw [if_pos hn60]
      by_cases g1 : e.good d = true <;> by_cases g2 : Ex.goods l d = true <;> simp [g1, g2] at h1 h2 ⊢ <;> omega
    · rw [if_neg hn60]
      by_cases g1 : e.good d = true <;> by_cases g2 : Ex.goods l d = true <;> simp [g1, g2] at h1 h2 ⊢ <;> omega
theorem Ex.cnt_ok (e : Ex) : e.Cnt := by
  induction e using Ex.ind with | h k n s l h =>
  intro d
  have h1 := Ex.cnts_ok l h (d + 1) 1 (by omega)
  rw [Ex.cnt, Ex.good, Ex.nodes, Ex.nodess_eq]
  by_cases a : d ≤ 8 <;> by_cases b : partsOk k n s l.length = true <;> by_cases c : Ex.goods l (d + 1) = true <;> simp [a, b, c] at h1 ⊢ <;> omega
theorem Ex.ok_cnt (e : Ex) : e.ok = decide (e.cnt 1 ≤ 60) := by
  have h := e.cnt_ok 1
  unfold Ex.ok
  by_cases g : e.good 1 = true <;> simp [g] at h ⊢
  · omega
  · omega
end Go.T
