/- Parts of trees. -/
import Derived.Test.YtjpgifmkikmbgaaD7
namespace Go.T
open Go
set_option linter.unusedSimpArgs false
set_option linter.unusedVariables false
def Ex.k : Ex → Int | .mk k _ _ _ => k
def Ex.n : Ex → Int | .mk _ n _ _ => n
def Ex.s : Ex → ByteArray | .mk _ _ s _ => s
def Ex.l : Ex → List Ex | .mk _ _ _ l => l
@[simp] theorem Ex.loadK (e : Ex) (n : Nat) : loadC n false e.cells = some (.int .i64 e.k) := by cases e; rw [Ex.cells_mk]; rfl
@[simp] theorem Ex.loadS (e : Ex) (n : Nat) : loadC n false (List.drop 2 e.cells) = some (.str e.s) := by cases e; rw [Ex.cells_mk]; rfl
@[simp] theorem Ex.dropL (e : Ex) : List.drop 3 e.cells = [.lst false 4 (e.l.map Ex.av)] := by cases e; rw [Ex.cells_mk]; rfl
theorem Ex.pre_eq (q : Int) (e : Ex) : e.pre q = one (e.k = q) e.s ++ Ex.pres q e.l := by cases e; rfl
theorem Ex.post_eq (q : Int) (e : Ex) : e.post q = Ex.posts q e.l ++ one (e.k = q) e.s := by cases e; rfl
theorem Ex.tot_l (e : Ex) : e.tot = e.s.size + totL Ex.tot e.l := by cases e; rw [Ex.tot_mk]; rfl
theorem Ex.len_l (e : Ex) : e.l.length ≤ e.tot := by have := totL_len Ex.tot e.l; have := e.tot_l; omega
def Sm.k : Sm → Int | .mk k _ _ _ _ _ _ => k
def Sm.s : Sm → ByteArray | .mk _ s _ _ _ _ _ => s
def Sm.a : Sm → Ex | .mk _ _ a _ _ _ _ => a
def Sm.e : Sm → Ex | .mk _ _ _ e _ _ _ => e
def Sm.lo : Sm → Ex | .mk _ _ _ _ lo _ _ => lo
def Sm.hi : Sm → Ex | .mk _ _ _ _ _ hi _ => hi
def Sm.body : Sm → List Sm | .mk _ _ _ _ _ _ b => b
@[simp] theorem Sm.loadK (e : Sm) (n : Nat) : loadC n false e.cells = some (.int .i64 e.k) := by cases e; rw [Sm.cells_mk]; rfl
@[simp] theorem Sm.loadS (e : Sm) (n : Nat) : loadC n false e.cells.tail = some (.str e.s) := by cases e; rw [Sm.cells_mk]; rfl
@[simp] theorem Sm.takeA (e : Sm) : List.take 4 (List.drop 2 e.cells) = e.a.cells := by cases e; rw [Sm.cells_mk]; simp [Sm.a]
@[simp] theorem Sm.takeE (e : Sm) : List.take 4 (List.drop 6 e.cells) = e.e.cells := by cases e; rw [Sm.cells_mk]; simp [Sm.e]
@[simp] theorem Sm.takeLo (e : Sm) : List.take 4 (List.drop 10 e.cells) = e.lo.cells := by cases e; rw [Sm.cells_mk]; simp [Sm.lo]
@[simp] theorem Sm.takeHi (e : Sm) : List.take 4 (List.drop 14 e.cells) = e.hi.cells := by cases e; rw [Sm.cells_mk]; simp [Sm.hi]
@[simp] theorem Sm.drop18 (e : Sm) : List.drop 18 e.cells = [.lst false 19 (e.body.map Sm.av)] := by cases e; rw [Sm.cells_mk]; simp [Sm.body]
theorem Sm.size_body (e : Sm) : e.size = 1 + sumL Sm.size e.body := by cases e; rw [Sm.size, Sm.sizes_eq]; rfl
theorem Sm.tot_parts (e : Sm) : e.tot = e.s.size + (e.a.tot + (e.e.tot + (e.lo.tot + (e.hi.tot + totL Sm.tot e.body)))) := by cases e; rw [Sm.tot_mk]; rfl
theorem Sm.tot_body (e : Sm) : totL Sm.tot e.body ≤ e.tot := by rw [e.tot_parts]; omega
theorem Sm.names_eq (q : Int) (e : Sm) : e.names q = one (e.k = q) e.s ++ Sm.namesL q e.body := by cases e; rfl
theorem Sm.exps_eq (f : Ex → List ByteArray) (e : Sm) : e.exps f = f e.a ++ (f e.e ++ (f e.lo ++ (f e.hi ++ Sm.expsL f e.body))) := by cases e; rfl
theorem Sm.nest_eq (e : Sm) (ns : List ByteArray) : e.nest ns = (decide (e.k ≠ 3) || (!has ns e.s && Sm.nests e.body (ns ++ [e.s]))) := by cases e; rfl
/-- By what holds of the parts. -/
theorem Sm.ind' {M : Sm → Prop} (h : ∀ e, (∀ x ∈ e.body, M x) → M e) (e : Sm) : M e := Sm.ind (M := M) (fun k s a e lo hi b hb => h (.mk k s a e lo hi b) hb) e
theorem Ex.ind' {M : Ex → Prop} (h : ∀ e, (∀ x ∈ e.l, M x) → M e) (e : Ex) : M e := Ex.ind (M := M) (fun k n s l hl => h (.mk k n s l) hl) e
theorem Ar.mk_cells (a : Ar) : a.cells = [.str a.s, .int .i64 a.n] := rfl
end Go.T
