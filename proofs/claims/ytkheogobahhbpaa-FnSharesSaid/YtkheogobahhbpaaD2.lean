/- Trees of the program's values, in plain Lean. -/
import Derived.Test.YtkheogobahhbpaaD1
namespace Go.T
open Go
inductive Ex where
  | mk (k n : Int) (s : ByteArray) (l : List Ex)
mutual
def Ex.cells : Ex → List AV
  | .mk k n s l => [.int .i64 k, .int .i64 n, .str s, .lst false 4 (Ex.avs l)]
def Ex.avs : List Ex → List AV
  | [] => []
  | e :: l => .agg e.cells :: Ex.avs l
end
def Ex.av (e : Ex) : AV := .agg e.cells
theorem Ex.avs_map : ∀ l, Ex.avs l = l.map Ex.av
  | [] => rfl
  | e :: l => by rw [Ex.avs, Ex.avs_map l]; rfl
theorem Ex.cells_mk (k n : Int) (s : ByteArray) (l : List Ex) : (Ex.mk k n s l).cells = [.int .i64 k, .int .i64 n, .str s, .lst false 4 (l.map Ex.av)] := by rw [Ex.cells, Ex.avs_map]
@[simp] theorem Ex.cells_len (e : Ex) : e.cells.length = 4 := by cases e; rw [Ex.cells_mk]; rfl
@[simp] theorem Ex.take (e : Ex) (r : List AV) : List.take 4 (e.cells ++ r) = e.cells := List.take_left' e.cells_len
@[simp] theorem Ex.takek (e : Ex) (r : List AV) (k : Nat) : List.take (k + 4) (e.cells ++ r) = e.cells ++ List.take k r := by rw [List.take_append, e.cells_len, List.take_of_length_le (by rw [e.cells_len]; omega)]; simp
@[simp] theorem Ex.take0 (e : Ex) : List.take 4 e.cells = e.cells := List.take_of_length_le (by rw [e.cells_len]; exact Nat.le_refl _)
@[simp] theorem Ex.drop (e : Ex) (r : List AV) (k : Nat) : List.drop (k + 4) (e.cells ++ r) = List.drop k r := by rw [List.drop_append, e.cells_len, List.drop_eq_nil_of_le (by rw [e.cells_len]; omega)]; simp
@[simp] theorem Ex.drop0 (e : Ex) (r : List AV) : List.drop 4 (e.cells ++ r) = r := List.drop_left' e.cells_len
@[simp] theorem Ex.cells_ok (e : Ex) : e.cells.all okCell = true := by cases e; rw [Ex.cells_mk]; rfl
mutual
/-- What holds of all parts holds of it. -/
theorem Ex.ind {M : Ex → Prop} (h : ∀ k n s l, (∀ x ∈ l, M x) → M (.mk k n s l)) : ∀ e, M e
  | .mk k n s l => h k n s l (Ex.inds h l)
theorem Ex.inds {M : Ex → Prop} (h : ∀ k n s l, (∀ x ∈ l, M x) → M (.mk k n s l)) : ∀ l : List Ex, ∀ x ∈ l, M x
  | [], x, hx => by cases hx
  | e :: l, x, hx => by
    have h1 := Ex.ind h e
    have h2 := Ex.inds h l
    rcases List.mem_cons.1 hx with rfl | hx
    · exact h1
    · exact h2 x hx
end
/-- How much it holds. -/
def totL {X : Type} (f : X → Nat) : List X → Nat
  | [] => 0
  | x :: l => 1 + f x + totL f l
mutual
def Ex.tot : Ex → Nat
  | .mk _ _ s l => s.size + Ex.tots l
def Ex.tots : List Ex → Nat
  | [] => 0
  | e :: l => 1 + e.tot + Ex.tots l
end
theorem Ex.tots_eq : ∀ l, Ex.tots l = totL Ex.tot l
  | [] => rfl
  | e :: l => by rw [Ex.tots, Ex.tots_eq l, totL]
theorem Ex.tot_mk (k n : Int) (s : ByteArray) (l : List Ex) : (Ex.mk k n s l).tot = s.size + totL Ex.tot l := by rw [Ex.tot, Ex.tots_eq]
def most : Nat := 9223372036854775807
mutual
/-- No string and no slice is longer than any can be. -/
def Ex.fit : Ex → Prop
  | .mk _ _ s l => s.size ≤ most ∧ l.length ≤ most ∧ Ex.fits l
def Ex.fits : List Ex → Prop
  | [] => True
  | e :: l => e.fit ∧ Ex.fits l
end
theorem Ex.fits_eq : ∀ l, Ex.fits l ↔ ∀ x ∈ l, x.fit
  | [] => by simp [Ex.fits]
  | e :: l => by simp [Ex.fits, Ex.fits_eq l]
theorem Ex.fit_mk (k n : Int) (s : ByteArray) (l : List Ex) : (Ex.mk k n s l).fit ↔ s.size ≤ most ∧ l.length ≤ most ∧ ∀ x ∈ l, x.fit := by rw [Ex.fit, Ex.fits_eq]

inductive Sm where
  | mk (k : Int) (s : ByteArray) (a e lo hi : Ex) (body : List Sm)
mutual
def Sm.cells : Sm → List AV
  | .mk k s a e lo hi b => .int .i64 k :: .str s :: (a.cells ++ (e.cells ++ (lo.cells ++ (hi.cells ++ [.lst false 19 (Sm.avs b)]))))
def Sm.avs : List Sm → List AV
  | [] => []
  | e :: l => .agg e.cells :: Sm.avs l
end
def Sm.av (e : Sm) : AV := .agg e.cells
theorem Sm.avs_map : ∀ l, Sm.avs l = l.map Sm.av
  | [] => rfl
  | e :: l => by rw [Sm.avs, Sm.avs_map l]; rfl
theorem Sm.cells_mk (k : Int) (s : ByteArray) (a e lo hi : Ex) (b : List Sm) : (Sm.mk k s a e lo hi b).cells = .int .i64 k :: .str s :: (a.cells ++ (e.cells ++ (lo.cells ++ (hi.cells ++ [.lst false 19 (b.map Sm.av)])))) := by rw [Sm.cells, Sm.avs_map]
@[simp] theorem Sm.cells_len (e : Sm) : e.cells.length = 19 := by cases e; rw [Sm.cells_mk]; simp [Ex.cells_len]
@[simp] theorem Sm.take (e : Sm) (r : List AV) : List.take 19 (e.cells ++ r) = e.cells := List.take_left' e.cells_len
@[simp] theorem Sm.takek (e : Sm) (r : List AV) (k : Nat) : List.take (k + 19) (e.cells ++ r) = e.cells ++ List.take k r := by rw [List.take_append, e.cells_len, List.take_of_length_le (by rw [e.cells_len]; omega)]; simp
@[simp] theorem Sm.take0 (e : Sm) : List.take 19 e.cells = e.cells := List.take_of_length_le (by rw [e.cells_len]; exact Nat.le_refl _)
@[simp] theorem Sm.drop (e : Sm) (r : List AV) (k : Nat) : List.drop (k + 19) (e.cells ++ r) = List.drop k r := by rw [List.drop_append, e.cells_len, List.drop_eq_nil_of_le (by rw [e.cells_len]; omega)]; simp
@[simp] theorem Sm.drop0 (e : Sm) (r : List AV) : List.drop 19 (e.cells ++ r) = r := List.drop_left' e.cells_len
@[simp] theorem Sm.cells_ok (e : Sm) : e.cells.all okCell = true := by cases e; rw [Sm.cells_mk]; simp only [List.all_cons, List.all_append, Ex.cells_ok]; rfl
mutual
theorem Sm.ind {M : Sm → Prop} (h : ∀ k s a e lo hi b, (∀ x ∈ b, M x) → M (.mk k s a e lo hi b)) : ∀ e, M e
  | .mk k s a e lo hi b => h k s a e lo hi b (Sm.inds h b)
theorem Sm.inds {M : Sm → Prop} (h : ∀ k s a e lo hi b, (∀ x ∈ b, M x) → M (.mk k s a e lo hi b)) : ∀ l : List Sm, ∀ x ∈ l, M x
  | [], x, hx => by cases hx
  | e :: l, x, hx => by
    have h1 := Sm.ind h e
    have h2 := Sm.inds h l
    rcases List.mem_cons.1 hx with rfl | hx
    · exact h1
    · exact h2 x hx
end
mutual
def Sm.tot : Sm → Nat
  | .mk _ s a e lo hi b => s.size + (a.tot + (e.tot + (lo.tot + (hi.tot + Sm.tots b))))
def Sm.tots : List Sm → Nat
  | [] => 0
  | e :: l => 1 + e.tot + Sm.tots l
end
theorem Sm.tots_eq : ∀ l, Sm.tots l = totL Sm.tot l
  | [] => rfl
  | e :: l => by rw [Sm.tots, Sm.tots_eq l, totL]
theorem Sm.tot_mk (k : Int) (s : ByteArray) (a e lo hi : Ex) (b : List Sm) : (Sm.mk k s a e lo hi b).tot = s.size + (a.tot + (e.tot + (lo.tot + (hi.tot + totL Sm.tot b)))) := by rw [Sm.tot, Sm.tots_eq]
mutual
def Sm.fit : Sm → Prop
  | .mk _ s a e lo hi b => s.size ≤ most ∧ a.fit ∧ e.fit ∧ lo.fit ∧ hi.fit ∧ b.length ≤ most ∧ Sm.fits b
def Sm.fits : List Sm → Prop
  | [] => True
  | e :: l => e.fit ∧ Sm.fits l
end
theorem Sm.fits_eq : ∀ l, Sm.fits l ↔ ∀ x ∈ l, x.fit
  | [] => by simp [Sm.fits]
  | e :: l => by simp [Sm.fits, Sm.fits_eq l]
theorem Sm.fit_mk (k : Int) (s : ByteArray) (a e lo hi : Ex) (b : List Sm) : (Sm.mk k s a e lo hi b).fit ↔ s.size ≤ most ∧ a.fit ∧ e.fit ∧ lo.fit ∧ hi.fit ∧ b.length ≤ most ∧ ∀ x ∈ b, x.fit := by rw [Sm.fit, Sm.fits_eq]

structure Ar where
  s : ByteArray
  n : Int
def Ar.cells (a : Ar) : List AV := [.str a.s, .int .i64 a.n]
def Ar.av (a : Ar) : AV := .agg a.cells
def Ar.tot (a : Ar) : Nat := a.s.size
def Ar.fit (a : Ar) : Prop := a.s.size ≤ most
@[simp] theorem Ar.cells_len (e : Ar) : e.cells.length = 2 := rfl
@[simp] theorem Ar.take0 (e : Ar) : List.take 2 e.cells = e.cells := rfl
@[simp] theorem Ar.cells_ok (e : Ar) : e.cells.all okCell = true := rfl
structure Pg where
  arrs : List Ar
  body : List Sm
def Pg.cells (p : Pg) : List AV := [.lst false 2 (p.arrs.map Ar.av), .lst false 19 (p.body.map Sm.av)]
def Pg.av (p : Pg) : AV := .agg p.cells
def Pg.tot (p : Pg) : Nat := totL Ar.tot p.arrs + totL Sm.tot p.body
def Pg.fit (p : Pg) : Prop := p.arrs.length ≤ most ∧ (∀ x ∈ p.arrs, x.fit) ∧ p.body.length ≤ most ∧ ∀ x ∈ p.body, x.fit
@[simp] theorem Pg.cells_len (e : Pg) : e.cells.length = 2 := rfl
@[simp] theorem Pg.take0 (e : Pg) : List.take 2 e.cells = e.cells := rfl
@[simp] theorem Pg.cells_ok (e : Pg) : e.cells.all okCell = true := rfl

/-- What is left of n behind t; -1 where it is too much. -/
def szr (t : Nat) (n : Int) : Int := if (t : Int) ≤ n then n - t else -1
theorem szr_neg {t : Nat} {n : Int} (h : n < t) : szr t n = -1 := by unfold szr; rw [if_neg (by omega)]
theorem szr_pos {t : Nat} {n : Int} (h : (t : Int) ≤ n) : szr t n = n - t := by unfold szr; rw [if_pos h]
theorem szr_add (a b : Nat) (n : Int) : szr (a + b) n = if szr a n < 0 then -1 else szr b (szr a n) := by
  unfold szr; split <;> split <;> (try split) <;> omega
theorem totL_len {X : Type} (f : X → Nat) : ∀ l, l.length ≤ totL f l
  | [] => Nat.zero_le _
  | x :: l => by have := totL_len f l; simp only [totL, List.length_cons]; omega
theorem totL_mem {X : Type} (f : X → Nat) : ∀ {l} {x}, x ∈ l → f x < totL f l
  | y :: l, x, h => by
    simp only [totL]
    rcases List.mem_cons.1 h with rfl | h
    · omega
    · have := totL_mem f h; omega
def sumL {X : Type} (f : X → Nat) : List X → Nat
  | [] => 0
  | x :: l => f x + sumL f l
theorem totL_sum {X : Type} (f : X → Nat) : ∀ l, totL f l = l.length + sumL f l
  | [] => rfl
  | x :: l => by simp only [totL, sumL, totL_sum f l, List.length_cons]; omega
end Go.T
