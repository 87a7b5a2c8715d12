/- Machines as trees, in plain Lean. -/
import Derived.Test.YtkheogobahhbpaaD2
namespace Go.T
open Go
set_option linter.unusedSimpArgs false
set_option linter.unusedVariables false
def ints (l : List Int) : AV := .lst false 1 (l.map (AV.int .i64))
structure Pu where
  at_ : Int
  n : Int
def Pu.cells (p : Pu) : List AV := [.int .i64 p.at_, .int .i64 p.n]
def Pu.av (p : Pu) : AV := .agg p.cells
@[simp] theorem Pu.cells_len (e : Pu) : e.cells.length = 2 := rfl
@[simp] theorem Pu.take0 (e : Pu) : List.take 2 e.cells = e.cells := rfl
@[simp] theorem Pu.cells_ok (e : Pu) : e.cells.all okCell = true := rfl
structure Hd where
  pc : Int
  stack : List Int
  regs : List Int
  shelf : List Pu
  here : Bool
  done : Bool
def Hd.cells (h : Hd) : List AV := [.int .i64 h.pc, ints h.stack, ints h.regs, .lst false 2 (h.shelf.map Pu.av), .bool h.here, .bool h.done]
def Hd.av (h : Hd) : AV := .agg h.cells
@[simp] theorem Hd.cells_len (e : Hd) : e.cells.length = 6 := rfl
@[simp] theorem Hd.take0 (e : Hd) : List.take 6 e.cells = e.cells := rfl
@[simp] theorem Hd.cells_ok (e : Hd) : e.cells.all okCell = true := rfl
def Hd.tot (h : Hd) : Nat := h.stack.length + (h.regs.length + h.shelf.length)
def Hd.fit (h : Hd) : Prop := h.stack.length ≤ most ∧ h.regs.length ≤ most ∧ h.shelf.length ≤ most
structure Mc where
  mem : List Int
  hands : List Hd
  out : List Int
  trap : Bool
def Mc.cells (m : Mc) : List AV := [ints m.mem, .lst false 6 (m.hands.map Hd.av), ints m.out, .bool m.trap]
def Mc.av (m : Mc) : AV := .agg m.cells
@[simp] theorem Mc.cells_len (e : Mc) : e.cells.length = 4 := rfl
@[simp] theorem Mc.take0 (e : Mc) : List.take 4 e.cells = e.cells := rfl
@[simp] theorem Mc.cells_ok (e : Mc) : e.cells.all okCell = true := rfl
def Mc.tot (m : Mc) : Nat := m.mem.length + (totL Hd.tot m.hands + m.out.length)
def Mc.fit (m : Mc) : Prop := m.mem.length ≤ most ∧ m.hands.length ≤ most ∧ (∀ x ∈ m.hands, x.fit) ∧ m.out.length ≤ most
/-- What a hand sees: what its shelf has, the youngest first, else what the memory has. -/
def seenUp (shelf : List Pu) (at_ : Int) (d : Int) : Nat → Int
  | 0 => d
  | i + 1 => match shelf[i]? with
    | some p => if p.at_ = at_ then p.n else seenUp shelf at_ d i
    | none => seenUp shelf at_ d i
end Go.T
