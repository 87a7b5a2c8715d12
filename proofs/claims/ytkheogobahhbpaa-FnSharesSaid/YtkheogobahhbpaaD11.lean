/- Straight sums and boxes as trees; what they are from and to, in plain Lean. -/
import Derived.Test.YtkheogobahhbpaaD7
import Derived.Test.YtkheogobahhbpaaD6
import Derived.Test.YtkheogobahhbpaaD3
namespace Go.T
open Go
set_option linter.unusedSimpArgs false
set_option linter.unusedVariables false
structure Tm where
  s : ByteArray
  n : Int
def Tm.cells (t : Tm) : List AV := [.str t.s, .int .i64 t.n]
def Tm.av (t : Tm) : AV := .agg t.cells
@[simp] theorem Tm.cells_len (e : Tm) : e.cells.length = 2 := rfl
@[simp] theorem Tm.take0 (e : Tm) : List.take 2 e.cells = e.cells := rfl
@[simp] theorem Tm.cells_ok (e : Tm) : e.cells.all okCell = true := rfl
def Tm.tot (t : Tm) : Nat := t.s.size
def Tm.fit (t : Tm) : Prop := t.s.size ≤ most
structure Af where
  c : Int
  t : List Tm
def tms (l : List Tm) : AV := .lst false 2 (l.map Tm.av)
def Af.cells (a : Af) : List AV := [.int .i64 a.c, tms a.t]
def Af.av (a : Af) : AV := .agg a.cells
@[simp] theorem Af.cells_len (e : Af) : e.cells.length = 2 := rfl
@[simp] theorem Af.take0 (e : Af) : List.take 2 e.cells = e.cells := rfl
@[simp] theorem Af.cells_ok (e : Af) : e.cells.all okCell = true := rfl
def Af.tot (a : Af) : Nat := totL Tm.tot a.t
def Af.fit (a : Af) : Prop := a.t.length ≤ most ∧ ∀ x ∈ a.t, x.fit
structure Rg where
  s : ByteArray
  lo : Int
  hi : Int
def Rg.cells (r : Rg) : List AV := [.str r.s, .int .i64 r.lo, .int .i64 r.hi]
def Rg.av (r : Rg) : AV := .agg r.cells
@[simp] theorem Rg.cells_len (e : Rg) : e.cells.length = 3 := rfl
@[simp] theorem Rg.take0 (e : Rg) : List.take 3 e.cells = e.cells := rfl
@[simp] theorem Rg.cells_ok (e : Rg) : e.cells.all okCell = true := rfl
def Rg.tot (r : Rg) : Nat := r.s.size
def Rg.fit (r : Rg) : Prop := r.s.size ≤ most
def rgs (l : List Rg) : AV := .lst false 3 (l.map Rg.av)
/-- A place's row of a right sum. -/
def rowOk (l : List Tm) (i : Nat) : Bool :=
  match l[i]? with
  | some t => nameOk t.s && (decide (t.n ≠ 0) && (inR t.n (-100000) 100000 && (match i with
    | 0 => true
    | k + 1 => match l[k]? with | some p => blt p.s t.s | none => true)))
  | none => true
def rowsOk (l : List Tm) (n : Nat) : Bool := (List.range n).all (rowOk l)
theorem rowsOk_succ (l : List Tm) (n : Nat) : rowsOk l (n + 1) = (rowsOk l n && rowOk l n) := by
  unfold rowsOk; rw [List.range_succ, List.all_append]; simp
theorem rowsOk_bad {l : List Tm} {i : Nat} (h : rowOk l i = false) (hi : i < l.length) : rowsOk l l.length = false := by
  unfold rowsOk
  rw [List.all_eq_false]
  exact ⟨i, by simpa using hi, by simp [h]⟩
def Af.ok (a : Af) : Bool := rowsOk a.t a.t.length && inR a.c (-100000) 100000
theorem Af.ok_row {a : Af} (h : a.ok = true) {t : Tm} (ht : t ∈ a.t) : nameOk t.s = true ∧ t.n ≠ 0 ∧ -100000 ≤ t.n ∧ t.n ≤ 100000 := by
  unfold Af.ok rowsOk at h
  rw [Bool.and_eq_true, List.all_eq_true] at h
  obtain ⟨i, hi, rfl⟩ := List.getElem_of_mem ht
  have := h.1 i (by simpa using hi)
  unfold rowOk at this
  rw [List.getElem?_eq_getElem hi] at this
  simp only [Bool.and_eq_true, inR, decide_eq_true_eq] at this
  exact ⟨this.1, this.2.1, this.2.2.1.1, this.2.2.1.2⟩
theorem Af.ok_c {a : Af} (h : a.ok = true) : -100000 ≤ a.c ∧ a.c ≤ 100000 := by
  unfold Af.ok at h
  rw [Bool.and_eq_true] at h
  simpa [inR] using h.2
/-- How often a name is asked. -/
def coef : List Tm → ByteArray → Int
  | [], _ => 0
  | t :: l, s => if t.s = s then t.n else coef l s
def rest (l : List Tm) (s : ByteArray) : List Tm := l.filter fun t => decide (t.s ≠ s)
theorem rest_len (l : List Tm) (s : ByteArray) : (rest l s).length ≤ l.length := List.length_filter_le _ _
def rgAt (l : List Rg) (s : ByteArray) : Int := at_ (l.map Rg.s) s
def boxRow (l : List Rg) (i : Nat) : Bool :=
  match l[i]? with
  | some r => nameOk r.s && (inR r.lo (-10000) 10000 && (inR r.hi (-10000) 10000 && decide (rgAt l r.s = i)))
  | none => true
def boxRows (l : List Rg) (n : Nat) : Bool := (List.range n).all (boxRow l)
theorem boxRows_succ (l : List Rg) (n : Nat) : boxRows l (n + 1) = (boxRows l n && boxRow l n) := by
  unfold boxRows; rw [List.range_succ, List.all_append]; simp
theorem boxRows_bad {l : List Rg} {i : Nat} (h : boxRow l i = false) (hi : i < l.length) : boxRows l l.length = false := by
  unfold boxRows
  rw [List.all_eq_false]
  exact ⟨i, by simpa using hi, by simp [h]⟩
def boxOk (l : List Rg) : Bool := boxRows l l.length && decide (l.length ≤ 8)
def upOk (l : List Rg) : Bool := l.all fun r => decide (r.lo ≤ r.hi)
def full (l : List Rg) : Bool := upOk l && boxOk l
theorem full_row {l : List Rg} (h : full l = true) {r : Rg} (hr : r ∈ l) : -10000 ≤ r.lo ∧ r.lo ≤ r.hi ∧ r.hi ≤ 10000 := by
  unfold full upOk boxOk boxRows at h
  simp only [Bool.and_eq_true, List.all_eq_true] at h
  have h1 := h.1 r hr
  obtain ⟨i, hi, rfl⟩ := List.getElem_of_mem hr
  have h2 := h.2.1 i (by simpa using hi)
  unfold boxRow at h2
  rw [List.getElem?_eq_getElem hi] at h2
  simp only [Bool.and_eq_true, inR, decide_eq_true_eq] at h1 h2
  omega
/-- The range of a name; what is none has none. -/
def rgOf (l : List Rg) (s : ByteArray) : Option Rg := if rgAt l s < 0 then none else l[(rgAt l s).toNat]?
theorem rgAt_get {l : List Rg} {s : ByteArray} (h : ¬ rgAt l s < 0) : ∃ i : Nat, ∃ hi : i < l.length, rgAt l s = i ∧ rgOf l s = some l[i] := by
  have h1 := idxAt_lt s (l.map Rg.s) 0
  unfold rgAt at_ at h
  refine ⟨(rgAt l s).toNat, ?_, ?_, ?_⟩
  · unfold rgAt at_
    rcases h1 with ⟨h2, h3⟩ | ⟨h2, h3⟩
    · simp at h3; omega
    · omega
  · unfold rgAt at_; omega
  · unfold rgOf
    rw [if_neg (show ¬ rgAt l s < 0 from h)]
    exact List.getElem?_eq_getElem _
/-- The least and the greatest that terms are; none where one has no range. -/
def spanL (box : List Rg) : List Tm → Option (Int × Int)
  | [] => some (0, 0)
  | t :: l => match rgOf box t.s, spanL box l with
    | some r, some (x, y) => some (min (t.n * r.lo) (t.n * r.hi) + x, max (t.n * r.lo) (t.n * r.hi) + y)
    | _, _ => none
/-- Where a sum is from and to. -/
def Af.ends (a : Af) (box : List Rg) : Int × Int × Bool :=
  if a.ok = true ∧ full box = true then
    match spanL box a.t with
    | some (x, y) => (a.c + x, a.c + y, true)
    | none => (0, 0, false)
  else (0, 0, false)
theorem mul_min {n a b : Int} (h : a ≤ b) : min (n * a) (n * b) = if n > 0 then n * a else n * b := by
  by_cases hn : n > 0
  · rw [if_pos hn, Int.min_eq_left (Int.mul_le_mul_of_nonneg_left h (by omega))]
  · rw [if_neg hn, Int.min_eq_right (Int.mul_le_mul_of_nonpos_left (by omega) h)]
theorem mul_max {n a b : Int} (h : a ≤ b) : max (n * a) (n * b) = if n > 0 then n * b else n * a := by
  by_cases hn : n > 0
  · rw [if_pos hn, Int.max_eq_right (Int.mul_le_mul_of_nonneg_left h (by omega))]
  · rw [if_neg hn, Int.max_eq_left (Int.mul_le_mul_of_nonpos_left (by omega) h)]
theorem mul_small {a b A B : Int} (h1 : -A ≤ a) (h2 : a ≤ A) (h3 : -B ≤ b) (h4 : b ≤ B) (hA : 0 ≤ A) : -(A * B) ≤ a * b ∧ a * b ≤ A * B := by
  have h : (a * b).natAbs ≤ A.natAbs * B.natAbs := by rw [Int.natAbs_mul]; exact Nat.mul_le_mul (by omega) (by omega)
  have e : ((A.natAbs * B.natAbs : Nat) : Int) = A * B := by
    rw [Int.natCast_mul, Int.natAbs_of_nonneg hA, Int.natAbs_of_nonneg (by omega)]
  omega
theorem term_small {n x : Int} (h1 : -100000 ≤ n) (h2 : n ≤ 100000) (h3 : -10000 ≤ x) (h4 : x ≤ 10000) : -1000000000 ≤ n * x ∧ n * x ≤ 1000000000 := by
  have := mul_small h1 h2 h3 h4 (by omega)
  omega
theorem spanL_small {box : List Rg} (hb : full box = true) : ∀ (l : List Tm), (∀ t ∈ l, -100000 ≤ t.n ∧ t.n ≤ 100000) → ∀ x y, spanL box l = some (x, y) →
    -(1000000000 * (l.length : Int)) ≤ x ∧ x ≤ 1000000000 * (l.length : Int) ∧ -(1000000000 * (l.length : Int)) ≤ y ∧ y ≤ 1000000000 * (l.length : Int)
  | [], _, x, y, h => by simp [spanL] at h; obtain ⟨rfl, rfl⟩ := h; simp
  | t :: l, ht, x, y, h => by
    unfold spanL at h
    split at h
    · rename_i r x' y' hr hl
      have ih := spanL_small hb l (fun u hu => ht u (List.mem_cons_of_mem _ hu)) x' y' hl
      have h1 := ht t (List.mem_cons_self ..)
      have hm : r ∈ box := by
        unfold rgOf at hr
        split at hr
        · cases hr
        · exact List.mem_of_getElem? hr
      have h2 := full_row hb hm
      have h3 := term_small h1.1 h1.2 (show -10000 ≤ r.lo by omega) (show r.lo ≤ 10000 by omega)
      have h4 := term_small h1.1 h1.2 (show -10000 ≤ r.hi by omega) (show r.hi ≤ 10000 by omega)
      simp only [Option.some.injEq, Prod.mk.injEq] at h
      obtain ⟨rfl, rfl⟩ := h
      simp only [List.length_cons, Int.natCast_add]
      omega
    · cases h
theorem Af.ends_small {a : Af} {box : List Rg} (hl : a.t.length ≤ 1048576) : -2000000000000000 ≤ (a.ends box).1 ∧ (a.ends box).1 ≤ 2000000000000000 ∧ -2000000000000000 ≤ (a.ends box).2.1 ∧ (a.ends box).2.1 ≤ 2000000000000000 := by
  unfold Af.ends
  split
  · rename_i h
    split
    · rename_i x y hs
      have h1 := spanL_small h.2 a.t (fun t ht => by have := Af.ok_row h.1 ht; omega) x y hs
      have h2 := Af.ok_c h.1
      simp only
      omega
    · simp
  · simp
/-- Two's remainder of 32 bits. -/
def wr32 (n : Int) : Int := IntKind.wrap .i32 n
def gcdW (a b : Int) : Int := (Nat.gcd (wr32 a).natAbs (wr32 b).natAbs : Nat)
def gcdL (n : Int) (l : List Tm) : Int := l.foldl (fun n t => gcdW n t.n) n
def gcdMeet (f g : Af) : Bool := f.ok && (g.ok && (let n := gcdL 0 (f.t ++ g.t); if n = 0 then decide (f.c = g.c) else decide ((f.c - g.c).tmod n = 0)))
def rngMeet (f g : Af) (box : List Rg) : Bool := (f.ends box).2.2 && ((g.ends box).2.2 && (decide ((f.ends box).1 ≤ (g.ends box).2.1) && decide ((g.ends box).1 ≤ (f.ends box).2.1)))
def near (n lo hi i : Int) : Bool := inR (n * i) lo hi || inR (-n * i) lo hi
/-- Is one from i on, up to so many? -/
def anyNear (n lo hi : Int) (i : Int) : Nat → Bool
  | 0 => false
  | k + 1 => near n lo hi i || anyNear n lo hi (i + 1) k
def mayMeet (f g : Af) (s : ByteArray) (box : List Rg) : Bool :=
  gcdMeet f g && (rngMeet f g box && (
    let n := coef f.t s
    if n = 0 ∨ n ≠ coef g.t s then true else
      match rgOf box s with
      | none => true
      | some r =>
        let x := (Af.mk f.c (rest f.t s)).ends box
        let y := (Af.mk g.c (rest g.t s)).ends box
        anyNear n (y.1 - x.2.1) (y.2.1 - x.1) 1 (r.hi - r.lo).toNat))
/-- A sum without a name is right where it was so: not asked for, since 'ends' looks itself. -/
theorem coef_small {l : List Tm} (h : ∀ t ∈ l, -100000 ≤ t.n ∧ t.n ≤ 100000) (s : ByteArray) : -100000 ≤ coef l s ∧ coef l s ≤ 100000 := by
  induction l with
  | nil => simp [coef]
  | cons t l ih =>
    unfold coef
    split
    · exact h t (List.mem_cons_self ..)
    · exact ih fun u hu => h u (List.mem_cons_of_mem _ hu)
end Go.T
