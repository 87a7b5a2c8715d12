/- A framework of trees over the model: values as trees, a partial memory, and what a world has to do with them. -/
import Derived.Tactics
import Derived.Below
import Derived.KernelRfl
namespace Go.T

/-- A value as a tree. 'lst': a slice whose cells nobody writes any more (full: its capacity is its length; e: an element's cells, where there is one). 'ref': the address of cells that nobody writes any more, told by what they hold. 'ptr': a place in a block that may be written. 'own': a slice from the head of such a block on. 'elt': the address of a cell of an element in it. -/
inductive AV where
  | undef
  | int (k : IntKind) (n : Int)
  | bool (b : Bool)
  | str (s : ByteArray)
  | agg (cs : List AV)
  | tup (vs : List AV)
  | func (fn : Fn) (cs : List AV)
  | nilp
  | lst (full : Bool) (e : Nat) (xs : List AV)
  | ref (cs : List AV)
  | ptr (g : Nat) (o : Nat)
  | own (g : Nat) (n c : Nat)
  | elt (g : Nat) (e i o : Nat)
  deriving Inhabited

/-- The cells of a value. -/
def AV.cells : AV → List AV
  | .agg cs => cs
  | v => [v]

/-- The cells of values, one behind the other. -/
def flat (xs : List AV) : List AV := xs.flatMap AV.cells

/-- A block that may be written: a variable, or an array with room for c elements of type T, of e cells each, of which the first are xs. -/
inductive Blk where
  | box (cs : List AV)
  | arr (T : TypeId) (e c : Nat) (xs : List AV)
  deriving Inhabited

abbrev Mem := Nat → Option Blk

def Mem.set (m : Mem) (g : Nat) (b : Blk) : Mem := fun k => if k = g then some b else m k
def Mem.del (m : Mem) (g : Nat) : Mem := fun k => if k = g then none else m k
theorem Mem.set_same (m : Mem) (g : Nat) (b : Blk) : m.set g b g = some b := by simp [Mem.set]
theorem Mem.set_other {m : Mem} {g k : Nat} {b : Blk} (h : k ≠ g) : m.set g b k = m k := by simp [Mem.set, h]

mutual
inductive Rep (w : World) (S : Nat → Prop) : AV → Value → Prop
  | undef (v : Value) : Rep w S .undef v
  | int (k : IntKind) (n : Int) : Rep w S (.int k n) (.int k n)
  | bool (b : Bool) : Rep w S (.bool b) (.bool b)
  | str (s : ByteArray) : Rep w S (.str s) (.string s)
  | agg {cs : List AV} {vs : List Value} : Reps w S cs vs → Rep w S (.agg cs) (.agg vs.toArray)
  | tup {cs : List AV} {vs : List Value} : Reps w S cs vs → Rep w S (.tup cs) (.tuple vs.toArray)
  | func (fn : Fn) {cs : List AV} {vs : List Value} : Reps w S cs vs → Rep w S (.func fn cs) (.func fn #[] vs.toArray)
  | nilp : Rep w S .nilp (.pointer none)
  | lnil (full : Bool) (e : Nat) (A : Option Addr) (c : Nat) : (full = true → c = 0) → Rep w S (.lst full e []) (.slice A 0 c)
  | lst (full : Bool) {xs : List AV} (e b o c : Nat) : S b → (∀ x ∈ xs, x.cells.length = e) → xs.length ≤ c → (full = true → c = xs.length) → Cells w S b o (flat xs) → Rep w S (.lst full e xs) (.slice (some ⟨b, o, none⟩) xs.length c)
  | ref {cs : List AV} (b o : Nat) : S b → Cells w S b o cs → Rep w S (.ref cs) (.pointer (some ⟨b, o, none⟩))
  | ptr (g o : Nat) : Rep w S (.ptr g o) (.pointer (some ⟨g, o, none⟩))
  | own (g n c : Nat) : Rep w S (.own g n c) (.slice (some ⟨g, 0, none⟩) n c)
  | elt (g e i o : Nat) : Rep w S (.elt g e i o) (.pointer (some ⟨g, i * e + o, none⟩))
inductive Reps (w : World) (S : Nat → Prop) : List AV → List Value → Prop
  | nil : Reps w S [] []
  | cons {a : AV} {v : Value} {as : List AV} {vs : List Value} : Rep w S a v → Reps w S as vs → Reps w S (a :: as) (v :: vs)
inductive Cells (w : World) (S : Nat → Prop) : Nat → Nat → List AV → Prop
  | nil (b o : Nat) : Cells w S b o []
  | cons {b o : Nat} {a : AV} {v : Value} {as : List AV} : w.cell? ⟨b, o, none⟩ = some v → Rep w S a v → Cells w S b (o + 1) as → Cells w S b o (a :: as)
end

theorem cell_same {w w' : World} {b : Nat} (h : w'.heap[b]? = w.heap[b]?) (o : Nat) : w'.cell? ⟨b, o, none⟩ = w.cell? ⟨b, o, none⟩ := by
  simp only [World.cell?, h]

/-- What is stable reads as it did. -/
def Stays (S : Nat → Prop) (w w' : World) : Prop := ∀ b, S b → w'.heap[b]? = w.heap[b]?

section
variable {w w' : World} {S S' : Nat → Prop}
mutual
theorem Rep.mono (hw : Stays S w w') (hS : ∀ b, S b → S' b) {a : AV} {v : Value} : Rep w S a v → Rep w' S' a v
  | .undef v => .undef v
  | .int k n => .int k n
  | .bool b => .bool b
  | .str s => .str s
  | .agg h => .agg (Reps.mono hw hS h)
  | .tup h => .tup (Reps.mono hw hS h)
  | .func fn h => .func fn (Reps.mono hw hS h)
  | .nilp => .nilp
  | .lnil full e A c h => .lnil full e A c h
  | .lst full e b o c hb he hc hf h => .lst full e b o c (hS b hb) he hc hf (Cells.mono hw hS hb h)
  | .ref b o hb h => .ref b o (hS b hb) (Cells.mono hw hS hb h)
  | .ptr g o => .ptr g o
  | .own g n c => .own g n c
  | .elt g e i o => .elt g e i o
theorem Reps.mono (hw : Stays S w w') (hS : ∀ b, S b → S' b) {as : List AV} {vs : List Value} : Reps w S as vs → Reps w' S' as vs
  | .nil => .nil
  | .cons h t => .cons (Rep.mono hw hS h) (Reps.mono hw hS t)
theorem Cells.mono (hw : Stays S w w') (hS : ∀ b, S b → S' b) {b o : Nat} {as : List AV} (hb : S b) : Cells w S b o as → Cells w' S' b o as
  | .nil b o => .nil b o
  | .cons hc h t => .cons ((cell_same (hw b hb) o).trans hc) (Rep.mono hw hS h) (Cells.mono hw hS hb t)
end
end

section
variable {w : World} {S : Nat → Prop}
theorem Reps.length {as : List AV} {vs : List Value} (h : Reps w S as vs) : as.length = vs.length := by
  induction as generalizing vs with
  | nil => cases h; rfl
  | cons a as ih => cases h with | cons h t => simp [ih t]
theorem Reps.get {as : List AV} {vs : List Value} (h : Reps w S as vs) (i : Nat) : (∀ a, as[i]? = some a → ∃ v, vs[i]? = some v ∧ Rep w S a v) := by
  induction as generalizing vs i with
  | nil => intro a ha; simp at ha
  | cons a as ih =>
    cases h with
    | cons h t =>
      intro x hx
      cases i with
      | zero => simp at hx; subst hx; exact ⟨_, rfl, h⟩
      | succ i => simp at hx; simpa using ih t i x hx
theorem Reps.append {as bs : List AV} {vs us : List Value} (h : Reps w S as vs) (k : Reps w S bs us) : Reps w S (as ++ bs) (vs ++ us) := by
  induction as generalizing vs with
  | nil => cases h; exact k
  | cons a as ih => cases h with | cons h t => exact .cons h (ih t)
theorem Reps.take {as : List AV} {vs : List Value} (h : Reps w S as vs) (n : Nat) : Reps w S (as.take n) (vs.take n) := by
  induction as generalizing vs n with
  | nil => cases h; simp; exact .nil
  | cons a as ih =>
    cases h with
    | cons h t =>
      cases n with
      | zero => simp; exact .nil
      | succ n => simpa using Reps.cons h (ih t n)
theorem Reps.drop {as : List AV} {vs : List Value} (h : Reps w S as vs) (n : Nat) : Reps w S (as.drop n) (vs.drop n) := by
  induction as generalizing vs n with
  | nil => cases h; simp; exact .nil
  | cons a as ih =>
    cases h with
    | cons h t =>
      cases n with
      | zero => simpa using Reps.cons h t
      | succ n => simpa using ih t n
theorem Reps.split {as bs : List AV} {vs : List Value} (h : Reps w S (as ++ bs) vs) : ∃ us ws, vs = us ++ ws ∧ Reps w S as us ∧ Reps w S bs ws := by
  refine ⟨vs.take as.length, vs.drop as.length, (List.take_append_drop _ _).symm, ?_, ?_⟩
  · have := h.take as.length; simpa using this
  · have := h.drop as.length; simpa using this
theorem Reps.set {as : List AV} {vs : List Value} (h : Reps w S as vs) (i : Nat) {a : AV} {v : Value} (ha : Rep w S a v) : Reps w S (as.set i a) (vs.set i v) := by
  induction as generalizing vs i with
  | nil => cases h; simp; exact .nil
  | cons x as ih =>
    cases h with
    | cons h t =>
      cases i with
      | zero => simpa using Reps.cons ha t
      | succ i => simpa using Reps.cons h (ih t i)
/-- A value's cells. -/
theorem Rep.cells {a : AV} {v : Value} (h : Rep w S a v) (hu : a ≠ .undef) : Reps w S a.cells v.cells.toList := by
  cases h with
  | undef => exact absurd rfl hu
  | agg h => simpa [AV.cells, Value.cells] using h
  | tup h => simpa [AV.cells, Value.cells] using Reps.cons (.tup h) .nil
  | func fn h => simpa [AV.cells, Value.cells] using Reps.cons (.func fn h) .nil
  | int k n => simpa [AV.cells, Value.cells] using Reps.cons (.int k n) .nil
  | bool b => simpa [AV.cells, Value.cells] using Reps.cons (.bool b) .nil
  | str s => simpa [AV.cells, Value.cells] using Reps.cons (.str s) .nil
  | nilp => simpa [AV.cells, Value.cells] using Reps.cons .nilp .nil
  | lnil f e A c hf => simpa [AV.cells, Value.cells] using Reps.cons (.lnil f e A c hf) .nil
  | lst f e b o c h1 h2 h3 h4 h5 => simpa [AV.cells, Value.cells] using Reps.cons (.lst f e b o c h1 h2 h3 h4 h5) .nil
  | ref b o h1 h2 => simpa [AV.cells, Value.cells] using Reps.cons (.ref b o h1 h2) .nil
  | ptr g o => simpa [AV.cells, Value.cells] using Reps.cons (.ptr g o) .nil
  | own g n c => simpa [AV.cells, Value.cells] using Reps.cons (.own g n c) .nil
  | elt g e i o => simpa [AV.cells, Value.cells] using Reps.cons (.elt g e i o) .nil
theorem Cells.get {b o : Nat} {as : List AV} (h : Cells w S b o as) (i : Nat) : (∀ a, as[i]? = some a → ∃ v, w.cell? ⟨b, o + i, none⟩ = some v ∧ Rep w S a v) := by
  induction as generalizing o i with
  | nil => intro a ha; simp at ha
  | cons a as ih =>
    cases h with
    | cons hc h t =>
      intro x hx
      cases i with
      | zero => simp at hx; subst hx; exact ⟨_, hc, h⟩
      | succ i =>
        simp at hx
        obtain ⟨v, hv, hr⟩ := ih t i x hx
        exact ⟨v, by rw [← hv]; congr 2; omega, hr⟩
theorem Cells.drop {b o : Nat} {as : List AV} (h : Cells w S b o as) (n : Nat) : Cells w S b (o + n) (as.drop n) := by
  induction as generalizing o n with
  | nil => simp; exact .nil _ _
  | cons a as ih =>
    cases h with
    | cons hc h t =>
      cases n with
      | zero => simpa using Cells.cons hc h t
      | succ n => have := ih t n; simpa [Nat.add_assoc, Nat.add_comm 1 n] using this
theorem Cells.take {b o : Nat} {as : List AV} (h : Cells w S b o as) (n : Nat) : Cells w S b o (as.take n) := by
  induction as generalizing o n with
  | nil => simp; exact .nil _ _
  | cons a as ih =>
    cases h with
    | cons hc h t =>
      cases n with
      | zero => simp; exact .nil _ _
      | succ n => simpa using Cells.cons hc h (ih t n)
/-- Cells of a block whose cells are told. -/
theorem Cells.of_block {b : Nat} {cs : Array Value} {T : TypeId} {f : Nat × Nat} (hb : w.heap[b]? = some (.cells cs T f)) {as : List AV} {vs : List Value} (h : Reps w S as vs) :
    ∀ o, (∀ i v, vs[i]? = some v → cs[o + i]? = some v) → Cells w S b o as := by
  induction as generalizing vs with
  | nil => intro o _; exact .nil _ _
  | cons a as ih =>
    cases h with
    | @cons _ v _ vs h t =>
      intro o hv
      refine .cons (v := v) ?_ h (ih t (o + 1) (fun i u hu => ?_))
      · have := hv 0 v rfl
        simp only [World.cell?, hb]
        simpa using this
      · have := hv (i + 1) u (by simpa using hu)
        rw [← this]; congr 1; omega
end

/-- What the memory tells of the world's blocks. -/
def BlkRep (w : World) (S : Nat → Prop) (g : Nat) : Blk → Prop
  | .box cs => ∃ T vs, w.heap[g]? = some (.cells (List.toArray vs) T (0, 0)) ∧ Reps w S cs vs
  | .arr T e c xs => ∃ vs us, w.heap[g]? = some (.cells (List.toArray (vs ++ us)) T (0, 0)) ∧ Reps w S (flat xs) vs ∧ (vs ++ us).length = c * e ∧ (∀ x ∈ xs, x.cells.length = e) ∧ xs.length ≤ c

structure MemRep (w : World) (S : Nat → Prop) (m : Mem) : Prop where
  blk : ∀ g b, m g = some b → BlkRep w S g b
  apart : ∀ b, S b → m b = none ∧ b < w.heap.size

theorem BlkRep.mono {w w' : World} {S S' : Nat → Prop} {g : Nat} {b : Blk} (hw : Stays S w w') (hS : ∀ b, S b → S' b) (hg : w'.heap[g]? = w.heap[g]?) (h : BlkRep w S g b) : BlkRep w' S' g b := by
  cases b with
  | box cs => obtain ⟨T, vs, h1, h2⟩ := h; exact ⟨T, vs, hg.trans h1, h2.mono hw hS⟩
  | arr T e c xs => obtain ⟨vs, us, h1, h2, h3⟩ := h; exact ⟨vs, us, hg.trans h1, h2.mono hw hS, h3⟩
theorem BlkRep.lt {w : World} {S : Nat → Prop} {g : Nat} {b : Blk} (h : BlkRep w S g b) : g < w.heap.size := by
  cases b with
  | box cs => obtain ⟨T, vs, h1, h2⟩ := h; exact (Array.getElem?_eq_some_iff.1 h1).1
  | arr T e c xs => obtain ⟨vs, us, h1, h2, h3⟩ := h; exact (Array.getElem?_eq_some_iff.1 h1).1

end Go.T
