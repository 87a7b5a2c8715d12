/- Statements that are right, in plain Lean. -/
import Derived.Test.YtkheogobahhbpaaD4
namespace Go.T
open Go
/-- Is it the zero expression? -/
def Ex.no : Ex → Bool
  | .mk k n s l => decide (k = 0) && decide (n = 0) && noS s && decide ((l.length : Int) = 0)
/-- Is a statement as told, but for its Body's parts? -/
def stHere (k : Int) (s : ByteArray) (a e lo hi : Ex) (len : Int) (d : Nat) : Bool :=
  if k = 1 then a.no && e.ok && lo.no && hi.no && nameOk s && decide (len = 0)
  else if k = 2 then a.ok && e.ok && lo.no && hi.no && nameOk s && decide (len = 0)
  else if k = 3 then a.no && e.no && lo.ok && hi.ok && nameOk s && decide (d < 3) && inR len 1 6
  else if k = 4 then a.no && e.ok && lo.no && hi.no && noS s && decide (len = 0)
  else false
mutual
def Sm.right : Sm → Nat → Bool
  | .mk k s a e lo hi b, d => stHere k s a e lo hi b.length d && (decide (k ≠ 3) || Sm.rights b (d + 1))
def Sm.rights : List Sm → Nat → Bool
  | [], _ => true
  | x :: l, d => x.right d && Sm.rights l d
end
mutual
def Sm.size : Sm → Nat
  | .mk _ _ _ _ _ _ b => 1 + Sm.sizes b
def Sm.sizes : List Sm → Nat
  | [] => 0
  | x :: l => x.size + Sm.sizes l
end
mutual
def Sm.cnt : Sm → Nat → Int
  | .mk k s a e lo hi b, d => if stHere k s a e lo hi b.length d = true then (if k = 3 then Sm.cnts b (d + 1) 1 else 1) else 100
def Sm.cnts : List Sm → Nat → Int → Int
  | [], _, n => n
  | x :: l, d, n => if n ≤ 40 then Sm.cnts l d (n + x.cnt d) else n
end
theorem Sm.sizes_eq : ∀ l, Sm.sizes l = sumL Sm.size l
  | [] => rfl
  | e :: l => by rw [Sm.sizes, Sm.sizes_eq l, sumL]
theorem Sm.cnts_ge (l : List Sm) (h : ∀ x ∈ l, ∀ d, 0 ≤ x.cnt d) : ∀ d n, n ≤ Sm.cnts l d n := by
  induction l with
  | nil => intro d n; rw [Sm.cnts]; exact Int.le_refl _
  | cons e l ih =>
    intro d n
    rw [Sm.cnts]
    have h1 := h e (List.mem_cons_self ..) d
    have h2 := ih (fun x hx => h x (List.mem_cons_of_mem _ hx)) d (n + e.cnt d)
    split <;> omega
theorem Sm.cnt_pos (e : Sm) : ∀ d, 0 ≤ e.cnt d := by
  induction e using Sm.ind with | h k s a e lo hi b h =>
  intro d
  rw [Sm.cnt]
  have := Sm.cnts_ge b h (d + 1) 1
  split <;> (try split) <;> omega
theorem Sm.cnts_le (l : List Sm) (h : ∀ x ∈ l, ∀ d, x.cnt d ≤ 100 * x.size) : ∀ d n, Sm.cnts l d n ≤ n + 100 * sumL Sm.size l := by
  induction l with
  | nil => intro d n; rw [Sm.cnts]; simp [sumL]
  | cons e l ih =>
    intro d n
    rw [Sm.cnts, sumL]
    have h1 := h e (List.mem_cons_self ..) d
    have h2 := ih (fun x hx => h x (List.mem_cons_of_mem _ hx)) d (n + e.cnt d)
    split <;> omega
theorem Sm.cnt_le (e : Sm) : ∀ d, e.cnt d ≤ 100 * e.size := by
  induction e using Sm.ind with | h k s a e lo hi b h =>
  intro d
  rw [Sm.cnt, Sm.size, Sm.sizes_eq]
  have := Sm.cnts_le b h (d + 1) 1
  split <;> (try split) <;> omega
theorem Sm.size_le (e : Sm) : e.size ≤ 1 + e.tot := by
  induction e using Sm.ind with | h k s a e lo hi b h =>
  rw [Sm.tot_mk, Sm.size, Sm.sizes_eq]
  have := sumL_le Sm.size Sm.tot b h
  omega
def Sm.Cnt (e : Sm) : Prop := ∀ d, (e.right d = true → (e.cnt d = e.size ∨ (40 < e.cnt d ∧ 40 < e.size))) ∧ (e.right d = false → 40 < e.cnt d)
theorem Sm.cnts_ok (l : List Sm) (h : ∀ x ∈ l, x.Cnt) : ∀ d (n : Int), 0 ≤ n → (Sm.rights l d = true → (Sm.cnts l d n = n + sumL Sm.size l ∨ (40 < Sm.cnts l d n ∧ 40 < n + sumL Sm.size l))) ∧ (Sm.rights l d = false → 40 < Sm.cnts l d n) := by
  induction l with
  | nil => intro d n hn; simp [Sm.cnts, Sm.rights, sumL]
  | cons e l ih =>
    intro d n hn
    have h1 := h e (List.mem_cons_self ..) d
    have hp := e.cnt_pos d
    have h2 := ih (fun x hx => h x (List.mem_cons_of_mem _ hx)) d (n + e.cnt d) (by omega)
    have h3 := Sm.cnts_ge l (fun x _ => x.cnt_pos) d (n + e.cnt d)
    rw [Sm.cnts, Sm.rights, sumL]
    by_cases hn60 : n ≤ 40
    · rw [if_pos hn60]
      by_cases g1 : e.right d = true <;> by_cases g2 : Sm.rights l d = true <;> simp [g1, g2] at h1 h2 ⊢ <;> omega
    · rw [if_neg hn60]
      by_cases g1 : e.right d = true <;> by_cases g2 : Sm.rights l d = true <;> simp [g1, g2] at h1 h2 ⊢ <;> omega
theorem Sm.cnt_ok (e : Sm) : e.Cnt := by
  induction e using Sm.ind with | h k s a e lo hi b h =>
  intro d
  have h1 := Sm.cnts_ok b h (d + 1) 1 (by omega)
  rw [Sm.cnt, Sm.right, Sm.size, Sm.sizes_eq]
  by_cases x : stHere k s a e lo hi b.length d = true
  · by_cases k3 : k = 3
    · rw [if_pos x, x]
      by_cases c : Sm.rights b (d + 1) = true <;> simp [k3, c] at h1 ⊢ <;> omega
    · have hb : b = [] := by
        unfold stHere at x
        rw [if_neg k3] at x
        have : (b.length : Int) = 0 := by
          split at x
          · simp at x; simp [x]
          · split at x
            · simp at x; simp [x]
            · split at x
              · simp at x; simp [x]
              · cases x
        exact List.eq_nil_of_length_eq_zero (by omega)
      rw [if_pos x, x]
      simp [k3, hb, sumL]
  · simp [x]
/-- Is a statement right? -/
def Sm.ok (e : Sm) : Bool := e.right 0 && decide (e.size ≤ 40)
theorem Sm.ok_cnt (e : Sm) : e.ok = decide (e.cnt 0 ≤ 40) := by
  have h := e.cnt_ok 0
  unfold Sm.ok
  by_cases g : e.right 0 = true <;> simp [g] at h ⊢ <;> omega
end Go.T
