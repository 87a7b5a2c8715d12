/- Straight sums and boxes as trees; what they are from and to, in plain Lean. A program done by one hand, in plain Lean. An argument that is a slice. How much a run leaves, in plain Lean. How often a name is set and asked, and how a word is used in a loop, in plain Lean. More about words in loops, in plain Lean. Code of expressions, in plain Lean. -/
import Derived.Test.YtfikgphnjndgdaaGreatG3
import Derived.Test.YtfikgphnjndgdaaGreatG4
import Derived.Test.YtfikgphnjndgdaaGreatG2
import Derived.WideShapes
namespace Go.T
open Go
set_option linter.unusedSimpArgs false
set_option linter.unusedVariables false
structure Tm where
  s : ByteArray
  n : Int
def Tm.cells (t : Tm) : List AV := [.str t.s, .int .i64 t.n]
def Tm.av (t : Tm) : AV := .agg t.cells
@[simp] theorem Tm.cells_len (e : Tm) : e.cells.length = 2 := rfl
@[simp] theorem Tm.take0 (e : Tm) : List.take 2 e.cells = e.cells := rfl
@[simp] theorem Tm.cells_ok (e : Tm) : e.cells.all okCell = true := rfl
def Tm.tot (t : Tm) : Nat := t.s.size
def Tm.fit (t : Tm) : Prop := t.s.size ≤ most
structure Af where
  c : Int
  t : List Tm
def tms (l : List Tm) : AV := .lst false 2 (l.map Tm.av)
def Af.cells (a : Af) : List AV := [.int .i64 a.c, tms a.t]
def Af.av (a : Af) : AV := .agg a.cells
@[simp] theorem Af.cells_len (e : Af) : e.cells.length = 2 := rfl
@[simp] theorem Af.take0 (e : Af) : List.take 2 e.cells = e.cells := rfl
@[simp] theorem Af.cells_ok (e : Af) : e.cells.all okCell = true := rfl
def Af.tot (a : Af) : Nat := totL Tm.tot a.t
def Af.fit (a : Af) : Prop := a.t.length ≤ most ∧ ∀ x ∈ a.t, x.fit
structure Rg where
  s : ByteArray
  lo : Int
  hi : Int
def Rg.cells (r : Rg) : List AV := [.str r.s, .int .i64 r.lo, .int .i64 r.hi]
def Rg.av (r : Rg) : AV := .agg r.cells
@[simp] theorem Rg.cells_len (e : Rg) : e.cells.length = 3 := rfl
@[simp] theorem Rg.take0 (e : Rg) : List.take 3 e.cells = e.cells := rfl
@[simp] theorem Rg.cells_ok (e : Rg) : e.cells.all okCell = true := rfl
def Rg.tot (r : Rg) : Nat := r.s.size
def Rg.fit (r : Rg) : Prop := r.s.size ≤ most
/-- A place's row of a right sum. -/
def rowOk (l : List Tm) (i : Nat) : Bool :=
  match l[i]? with
  | some t => nameOk t.s && (decide (t.n ≠ 0) && (inR t.n (-100000) 100000 && (match i with
    | 0 => true
    | k + 1 => match l[k]? with | some p => blt p.s t.s | none => true)))
  | none => true
def rowsOk (l : List Tm) (n : Nat) : Bool := (List.range n).all (rowOk l)
def Af.ok (a : Af) : Bool := rowsOk a.t a.t.length && inR a.c (-100000) 100000
def rest (l : List Tm) (s : ByteArray) : List Tm := l.filter fun t => decide (t.s ≠ s)
def rgAt (l : List Rg) (s : ByteArray) : Int := at_ (l.map Rg.s) s
def boxRow (l : List Rg) (i : Nat) : Bool :=
  match l[i]? with
  | some r => nameOk r.s && (inR r.lo (-10000) 10000 && (inR r.hi (-10000) 10000 && decide (rgAt l r.s = i)))
  | none => true
def boxRows (l : List Rg) (n : Nat) : Bool := (List.range n).all (boxRow l)
def boxOk (l : List Rg) : Bool := boxRows l l.length && decide (l.length ≤ 8)
def upOk (l : List Rg) : Bool := l.all fun r => decide (r.lo ≤ r.hi)
def full (l : List Rg) : Bool := upOk l && boxOk l
/-- The range of a name; what is none has none. -/
def rgOf (l : List Rg) (s : ByteArray) : Option Rg := if rgAt l s < 0 then none else l[(rgAt l s).toNat]?
/-- The least and the greatest that terms are; none where one has no range. -/
def spanL (box : List Rg) : List Tm → Option (Int × Int)
  | [] => some (0, 0)
  | t :: l => match rgOf box t.s, spanL box l with
    | some r, some (x, y) => some (min (t.n * r.lo) (t.n * r.hi) + x, max (t.n * r.lo) (t.n * r.hi) + y)
    | _, _ => none
/-- Where a sum is from and to. -/
def Af.ends (a : Af) (box : List Rg) : Int × Int × Bool :=
  if a.ok = true ∧ full box = true then
    match spanL box a.t with
    | some (x, y) => (a.c + x, a.c + y, true)
    | none => (0, 0, false)
  else (0, 0, false)
theorem mul_small {a b A B : Int} (h1 : -A ≤ a) (h2 : a ≤ A) (h3 : -B ≤ b) (h4 : b ≤ B) (hA : 0 ≤ A) : -(A * B) ≤ a * b ∧ a * b ≤ A * B := by
  have h : (a * b).natAbs ≤ A.natAbs * B.natAbs := by rw [Int.natAbs_mul]; exact Nat.mul_le_mul (by omega) (by omega)
  have e : ((A.natAbs * B.natAbs : Nat) : Int) = A * B := by
    rw [Int.natCast_mul, Int.natAbs_of_nonneg hA, Int.natAbs_of_nonneg (by omega)]
  omega
/-- Two's remainder of 32 bits. -/
def wr32 (n : Int) : Int := IntKind.wrap .i32 n
/-- Sums of words. -/
def addW (a b : Int) : Int := wr32 (wr32 a + wr32 b)
def subW (a b : Int) : Int := wr32 (wr32 a - wr32 b)
def mulW (a b : Int) : Int := wr32 (wr32 a * wr32 b)
end Go.T
namespace Go.T
open Go
set_option linter.unusedSimpArgs false
set_option linter.unusedVariables false
/-- What a runner has: arrays, names' values, what is printed, how it ended, fuel, what is bound. -/
structure RS where
  A : List (List Int)
  V : List Int
  O : List Int
  nd : Int
  fu : Nat
  B : List (ByteArray × Int)
def bnd (B : List (ByteArray × Int)) (s : ByteArray) : Option Int := (B.reverse.find? fun b => decide (b.1 = s)).map (·.2)
def nameR (ns : List ByteArray) (V : List Int) (B : List (ByteArray × Int)) (s : ByteArray) : Int :=
  match bnd B s with
  | some n => n
  | none => if 0 ≤ at_ ns s ∧ at_ ns s < V.length then V.getD (at_ ns s).toNat 0 else 0
def placeR (an : List ByteArray) (A : List (List Int)) (s : ByteArray) (i : Int) : Option (Nat × Nat) :=
  if 0 ≤ at_ an s ∧ at_ an s < A.length ∧ 0 ≤ i ∧ i < (A.getD (at_ an s).toNat []).length then some ((at_ an s).toNat, i.toNat) else none
def opR (k a b : Int) : Int := if k = 4 then addW a b else if k = 5 then subW a b else if k = 6 then mulW a b else if k = 7 then min a b else max a b
mutual
def Ex.ev (nm : ByteArray → Int) (pl : ByteArray → Int → Option Int) : Ex → Option Int
  | .mk k n s l => if k = 1 then some n else if k = 2 then some (nm s) else match Ex.evs nm pl l with
    | [r] => r.bind (pl s)
    | [r, q] => r.bind fun a => q.map fun b => opR k a b
    | _ => none
def Ex.evs (nm : ByteArray → Int) (pl : ByteArray → Int → Option Int) : List Ex → List (Option Int)
  | [] => []
  | e :: l => e.ev nm pl :: Ex.evs nm pl l
end
def RS.nm (σ : RS) (ns : List ByteArray) : ByteArray → Int := nameR ns σ.V σ.B
def RS.pl (σ : RS) (an : List ByteArray) (s : ByteArray) (i : Int) : Option Int := (placeR an σ.A s i).map fun q => (σ.A.getD q.1 []).getD q.2 0
def RS.ev (σ : RS) (an ns : List ByteArray) (e : Ex) : Option Int := e.ev (σ.nm ns) (σ.pl an)
def RS.burn (σ : RS) : RS := if σ.fu = 0 then { σ with nd := 2 } else { σ with fu := σ.fu - 1 }
def RS.trap (σ : RS) : RS := { σ with nd := 1 }
def RS.setA (σ : RS) (k j : Nat) (x : Int) : RS := { σ with A := σ.A.set k ((σ.A.getD k []).set j x) }
/-- A loop's rounds. -/
def loopR (body : RS → RS) (s : ByteArray) (hi : Int) : Nat → Int → RS → RS
  | 0, _, σ => σ
  | k + 1, n, σ =>
    if n ≤ hi then
      if σ.burn.nd ≠ 0 then σ.burn
      else
        let τ := { body { σ.burn with B := σ.B ++ [(s, n)] } with B := σ.B }
        if τ.nd ≠ 0 then τ else loopR body s hi k (IntKind.wrap .i64 (n + 1)) τ
    else σ
/-- A statement, behind its fuel. -/
def doneR (an ns : List ByteArray) (body : RS → RS) : Sm → RS → RS
  | .mk k s a e lo hi _, σ =>
    if k = 3 then match σ.ev an ns lo with
      | none => σ.trap
      | some l => match σ.ev an ns hi with
        | none => σ.trap
        | some h => loopR body s h (σ.fu + 1) l σ
    else if k = 2 then match σ.ev an ns a with
      | none => σ.trap
      | some i => match σ.ev an ns e with
        | none => σ.trap
        | some n => match placeR an σ.A s i with
          | none => σ.trap
          | some q => σ.setA q.1 q.2 n
    else match σ.ev an ns e with
      | none => σ.trap
      | some n => if k = 1 then { σ with V := σ.V.set (at_ ns s).toNat n } else { σ with O := σ.O ++ [n] }
theorem doneR_for {an ns : List ByteArray} {body : RS → RS} {k : Int} {s : ByteArray} {a e lo hi : Ex} {b : List Sm} {σ : RS} (h : k = 3) : doneR an ns body (.mk k s a e lo hi b) σ = match σ.ev an ns lo with
    | none => σ.trap
    | some l => match σ.ev an ns hi with
      | none => σ.trap
      | some h => loopR body s h (σ.fu + 1) l σ := by
  unfold doneR
  exact if_pos h
theorem doneR_put {an ns : List ByteArray} {body : RS → RS} {k : Int} {s : ByteArray} {a e lo hi : Ex} {b : List Sm} {σ : RS} (h3 : k ≠ 3) (h : k = 2) : doneR an ns body (.mk k s a e lo hi b) σ = match σ.ev an ns a with
    | none => σ.trap
    | some i => match σ.ev an ns e with
      | none => σ.trap
      | some n => match placeR an σ.A s i with
        | none => σ.trap
        | some q => σ.setA q.1 q.2 n := by
  unfold doneR
  exact (if_neg h3).trans (if_pos h)
theorem doneR_val {an ns : List ByteArray} {body : RS → RS} {k : Int} {s : ByteArray} {a e lo hi : Ex} {b : List Sm} {σ : RS} (h3 : k ≠ 3) (h2 : k ≠ 2) : doneR an ns body (.mk k s a e lo hi b) σ = match σ.ev an ns e with
    | none => σ.trap
    | some n => if k = 1 then { σ with V := σ.V.set (at_ ns s).toNat n } else { σ with O := σ.O ++ [n] } := by
  unfold doneR
  exact (if_neg h3).trans (if_neg h2)
def stmtR (an ns : List ByteArray) (body : RS → RS) (x : Sm) (σ : RS) : RS := if σ.burn.nd ≠ 0 then σ.burn else doneR an ns body x σ.burn
def Sm.bd : Sm → List Sm
  | .mk _ _ _ _ _ _ b => b
/-- Statements, one behind the other; nothing is done behind an end. -/
def allR (an ns : List ByteArray) : Nat → List Sm → RS → RS
  | 0, _, σ => σ
  | d + 1, l, σ => l.foldl (fun σ x => if σ.nd ≠ 0 then σ else stmtR an ns (allR an ns d x.bd) x σ) σ
theorem loopR_B {body : RS → RS} (h : ∀ σ, (body σ).B = σ.B) (s : ByteArray) (hi : Int) : ∀ (k : Nat) (n : Int) (σ : RS), (loopR body s hi k n σ).B = σ.B
  | 0, _, _ => rfl
  | k + 1, n, σ => by
    have hb : σ.burn.B = σ.B := by unfold RS.burn; split <;> rfl
    unfold loopR
    split
    · split
      · exact hb
      · dsimp only
        split
        · rfl
        · rw [loopR_B h s hi k]
    · rfl
theorem doneR_B {an ns : List ByteArray} {body : RS → RS} (h : ∀ σ, (body σ).B = σ.B) (x : Sm) (σ : RS) : (doneR an ns body x σ).B = σ.B := by
  cases x with | mk k s a e lo hi b =>
  unfold doneR
  repeat' split
  all_goals first | rfl | exact loopR_B h _ _ _ _ _
theorem stmtR_B {an ns : List ByteArray} {body : RS → RS} (h : ∀ σ, (body σ).B = σ.B) (x : Sm) (σ : RS) : (stmtR an ns body x σ).B = σ.B := by
  have hb : σ.burn.B = σ.B := by unfold RS.burn; split <;> rfl
  unfold stmtR
  split
  · exact hb
  · rw [doneR_B h, hb]
theorem allR_B {an ns : List ByteArray} : ∀ (d : Nat) (l : List Sm) (σ : RS), (allR an ns d l σ).B = σ.B
  | 0, _, _ => rfl
  | d + 1, l, σ => by
    unfold allR
    induction l generalizing σ with
    | nil => rfl
    | cons x l ih =>
      rw [List.foldl_cons, ih]
      split
      · rfl
      · exact stmtR_B (fun σ => allR_B d _ σ) x σ
theorem burn_fu (σ : RS) : σ.burn.fu ≤ σ.fu := by unfold RS.burn; split <;> simp
theorem loopR_fu {body : RS → RS} (h : ∀ σ, (body σ).fu ≤ σ.fu) (s : ByteArray) (hi : Int) : ∀ (k : Nat) (n : Int) (σ : RS), (loopR body s hi k n σ).fu ≤ σ.fu
  | 0, _, _ => Nat.le_refl _
  | k + 1, n, σ => by
    have hb := burn_fu σ
    have h1 : (body { σ.burn with B := σ.B ++ [(s, n)] }).fu ≤ σ.fu := Nat.le_trans (h _) hb
    unfold loopR
    split
    · split
      · exact hb
      · dsimp only
        split
        · exact h1
        · exact Nat.le_trans (loopR_fu h s hi k _ _) h1
    · exact Nat.le_refl _
theorem doneR_fu {an ns : List ByteArray} {body : RS → RS} (h : ∀ σ, (body σ).fu ≤ σ.fu) (x : Sm) (σ : RS) : (doneR an ns body x σ).fu ≤ σ.fu := by
  cases x with | mk k s a e lo hi b =>
  unfold doneR
  repeat' split
  all_goals first | exact Nat.le_refl _ | exact loopR_fu h _ _ _ _ _
theorem stmtR_fu {an ns : List ByteArray} {body : RS → RS} (h : ∀ σ, (body σ).fu ≤ σ.fu) (x : Sm) (σ : RS) : (stmtR an ns body x σ).fu ≤ σ.fu := by
  unfold stmtR
  split
  · exact burn_fu σ
  · exact Nat.le_trans (doneR_fu h x _) (burn_fu σ)
theorem allR_fu {an ns : List ByteArray} : ∀ (d : Nat) (l : List Sm) (σ : RS), (allR an ns d l σ).fu ≤ σ.fu
  | 0, _, _ => Nat.le_refl _
  | d + 1, l, σ => by
    unfold allR
    induction l generalizing σ with
    | nil => exact Nat.le_refl _
    | cons x l ih =>
      rw [List.foldl_cons]
      refine Nat.le_trans (ih _) ?_
      split
      · exact Nat.le_refl _
      · exact stmtR_fu (fun σ => allR_fu d _ σ) x σ
end Go.T
namespace Go.T
open Go
set_option linter.unusedSimpArgs false
set_option linter.unusedVariables false
end Go.T
namespace Go.T
open Go
set_option linter.unusedSimpArgs false
set_option linter.unusedVariables false
/-- As many rows, as long; no more printed than fuel was there. -/
structure Stay (c : Nat) (σ τ : RS) : Prop where
  A : τ.A.map List.length = σ.A.map List.length
  V : τ.V.length = σ.V.length
  O : τ.O.length + τ.fu ≤ σ.O.length + σ.fu + c
theorem Stay.refl (σ : RS) : Stay 0 σ σ := ⟨rfl, rfl, Nat.le_refl _⟩
theorem Stay.trans {c d : Nat} {σ τ υ : RS} (h : Stay c σ τ) (k : Stay d τ υ) : Stay (c + d) σ υ := ⟨k.A.trans h.A, k.V.trans h.V, by have := h.O; have := k.O; omega⟩
theorem Stay.up {c d : Nat} {σ τ : RS} (h : Stay c σ τ) (hd : c ≤ d) : Stay d σ τ := ⟨h.A, h.V, by have := h.O; omega⟩
theorem burn_stay (σ : RS) : Stay 0 σ σ.burn := by
  unfold RS.burn
  split
  · exact ⟨rfl, rfl, Nat.le_refl _⟩
  · exact ⟨rfl, rfl, by simp only; omega⟩
theorem setA_stay (σ : RS) (k j : Nat) (x : Int) : Stay 0 σ (σ.setA k j x) := by
  refine ⟨?_, rfl, Nat.le_refl _⟩
  unfold RS.setA
  simp only
  apply List.ext_getElem
  · simp
  · intro i h1 h2
    simp only [List.getElem_map, List.getElem_set]
    split
    · rename_i hk
      subst hk
      simp at h2
      simp [List.getD_eq_getElem?_getD, List.getElem?_eq_getElem h2]
    · rfl
theorem loopR_stay {body : RS → RS} (h : ∀ σ, Stay 0 σ (body σ)) (s : ByteArray) (hi : Int) : ∀ (k : Nat) (n : Int) (σ : RS), Stay 0 σ (loopR body s hi k n σ)
  | 0, _, σ => Stay.refl σ
  | k + 1, n, σ => by
    have hb := burn_stay σ
    have h1 := h { σ.burn with B := σ.B ++ [(s, n)] }
    have h2 : Stay 0 σ { body { σ.burn with B := σ.B ++ [(s, n)] } with B := σ.B } := ⟨h1.A.trans hb.A, h1.V.trans hb.V, by have := h1.O; have := hb.O; simp only at *; omega⟩
    unfold loopR
    split
    · split
      · exact hb
      · dsimp only
        split
        · exact h2
        · exact (h2.trans (loopR_stay h s hi k _ _)).up (by omega)
    · exact Stay.refl σ
theorem doneR_stay {an ns : List ByteArray} {body : RS → RS} (h : ∀ σ, Stay 0 σ (body σ)) (x : Sm) (σ : RS) : Stay 1 σ (doneR an ns body x σ) := by
  cases x with | mk k s a e lo hi b =>
  have ht : Stay 1 σ σ.trap := ⟨rfl, rfl, Nat.le_succ _⟩
  unfold doneR
  repeat' split
  all_goals first
    | exact ht
    | exact (loopR_stay h _ _ _ _ _).up (by omega)
    | exact (setA_stay _ _ _ _).up (by omega)
    | exact ⟨rfl, by simp, by simp only; omega⟩
    | exact ⟨rfl, rfl, by simp; omega⟩
theorem stmtR_stay {an ns : List ByteArray} {body : RS → RS} (h : ∀ σ, Stay 0 σ (body σ)) (x : Sm) (σ : RS) : Stay 0 σ (stmtR an ns body x σ) := by
  unfold stmtR
  by_cases h0 : σ.fu = 0
  · have e : σ.burn = { σ with nd := 2 } := by unfold RS.burn; rw [if_pos h0]
    rw [if_pos (by rw [e]; simp)]
    exact burn_stay σ
  · split
    · exact burn_stay σ
    · have hd := doneR_stay (an := an) (ns := ns) h x σ.burn
      have hb := burn_stay σ
      have e : σ.burn.fu = σ.fu - 1 ∧ σ.burn.O = σ.O := by unfold RS.burn; rw [if_neg h0]; exact ⟨rfl, rfl⟩
      exact ⟨hd.A.trans hb.A, hd.V.trans hb.V, by have := hd.O; rw [e.1, e.2] at this; omega⟩
theorem allR_stay {an ns : List ByteArray} : ∀ (d : Nat) (l : List Sm) (σ : RS), Stay 0 σ (allR an ns d l σ)
  | 0, _, σ => Stay.refl σ
  | d + 1, l, σ => by
    unfold allR
    induction l generalizing σ with
    | nil => exact Stay.refl σ
    | cons x l ih =>
      rw [List.foldl_cons]
      split
      · exact ih σ
      · exact ((stmtR_stay (fun σ => allR_stay d _ σ) x σ).trans (ih _)).up (by omega)
end Go.T
namespace Go.T
open Go
set_option linter.unusedSimpArgs false
set_option linter.unusedVariables false
mutual
def Ex.asks (q : ByteArray) : Ex → Nat
  | .mk k _ s l => (if k = 2 ∧ s = q then 1 else 0) + Ex.askss q l
def Ex.askss (q : ByteArray) : List Ex → Nat
  | [] => 0
  | x :: l => x.asks q + Ex.askss q l
end
mutual
def Sm.asks (q : ByteArray) : Sm → Nat
  | .mk _ _ a e lo hi b => a.asks q + (e.asks q + (lo.asks q + (hi.asks q + Sm.askss q b)))
def Sm.askss (q : ByteArray) : List Sm → Nat
  | [] => 0
  | x :: l => x.asks q + Sm.askss q l
end
end Go.T
namespace Go.T
open Go
set_option linter.unusedSimpArgs false
set_option linter.unusedVariables false
@[simp] theorem Sm.loadEK (e : Sm) (n : Nat) : loadC n false (List.drop 6 e.cells) = some (.int .i64 e.e.k) := by
  cases e with | mk k s a e lo hi b => cases a; cases e; rw [Sm.cells_mk, Ex.cells_mk, Ex.cells_mk]; rfl
@[simp] theorem Sm.loadEL (e : Sm) (n : Nat) : loadC n false (List.drop 9 e.cells) = some (.lst false 4 (e.e.l.map Ex.av)) := by
  cases e with | mk k s a e lo hi b => cases a; cases e; rw [Sm.cells_mk, Ex.cells_mk, Ex.cells_mk]; rfl
end Go.T
namespace Go.T
open Go
set_option linter.unusedSimpArgs false
set_option linter.unusedVariables false
structure In where
  op : Int
  a : Int
  b : Int
def In.cells (i : In) : List AV := [.int .i64 i.op, .int .i64 i.a, .int .i64 i.b]
def In.av (i : In) : AV := .agg i.cells
@[simp] theorem In.cells_len (i : In) : i.cells.length = 3 := rfl
@[simp] theorem In.take0 (i : In) : List.take 3 i.cells = i.cells := rfl
@[simp] theorem Ex.loadN (e : Ex) (n : Nat) : loadC n false e.cells.tail = some (.int .i64 e.n) := by cases e; rw [Ex.cells_mk]; rfl
mutual
/-- Told of expressions, the outer one behind its parts. -/
def Ex.fold {σ : Type} (f : σ → Ex → σ) : σ → Ex → σ
  | a, .mk k n s l => f (Ex.folds f a l) (.mk k n s l)
def Ex.folds {σ : Type} (f : σ → Ex → σ) : σ → List Ex → σ
  | a, [] => a
  | a, x :: l => Ex.folds f (Ex.fold f a x) l
end
def Pg.arrN (p : Pg) (k : Nat) : Int := ((p.arrs[k]?).map Ar.n).getD 0
abbrev Gs := List In × Bool
def Gs.put (a : Gs) (op x y : Int) : Gs := (a.1 ++ [⟨op, x, y⟩], a.2)
/-- An instruction of an array. -/
def Gs.arr (p : Pg) (a : Gs) (op : Int) (s : ByteArray) : Gs := if at_ p.arrNames s < 0 then (a.1, true) else a.put op (sumN (p.arrs.take (at_ p.arrNames s).toNat)) (p.arrN (at_ p.arrNames s).toNat)
def Gs.made (a : Gs) : List In := if a.2 = true then [] else a.1
mutual
theorem Ex.fold_len {f : Gs → Ex → Gs} (h : ∀ a e, (f a e).1.length ≤ a.1.length + 1 ∧ a.1.length ≤ (f a e).1.length) : ∀ (e : Ex) (a : Gs), (Ex.fold f a e).1.length ≤ a.1.length + 1 + e.tot ∧ a.1.length ≤ (Ex.fold f a e).1.length
  | .mk k n s l, a => by
    rw [Ex.fold, Ex.tot]
    have h1 := Ex.folds_len h l a
    have h2 := h (Ex.folds f a l) (.mk k n s l)
    omega
theorem Ex.folds_len {f : Gs → Ex → Gs} (h : ∀ a e, (f a e).1.length ≤ a.1.length + 1 ∧ a.1.length ≤ (f a e).1.length) : ∀ (l : List Ex) (a : Gs), (Ex.folds f a l).1.length ≤ a.1.length + Ex.tots l ∧ a.1.length ≤ (Ex.folds f a l).1.length
  | [], a => by rw [Ex.folds, Ex.tots]; omega
  | e :: l, a => by
    rw [Ex.folds, Ex.tots]
    have h1 := Ex.fold_len h e a
    have h2 := Ex.folds_len h l (Ex.fold f a e)
    omega
end
end Go.T
