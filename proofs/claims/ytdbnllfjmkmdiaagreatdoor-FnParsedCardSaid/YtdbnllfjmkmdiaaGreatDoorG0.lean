/- Parts of the proof of FnParsed: A framework of trees over the model: values as trees, a partial memory, and what a world has to do with them. -/
import Derived.Tactics
import Derived.Below
import Derived.KernelRfl
import Derived.Laws.StructEq
import Derived.Laws.BytesString
set_option linter.unusedSimpArgs false
set_option linter.unusedVariables false
namespace Go.T
inductive AV where
 | undef
 | int (k : IntKind) (n : Int)
 | bool (b : Bool)
 | str (s : ByteArray)
 | agg (cs : List AV)
 | tup (vs : List AV)
 | func (fn : Fn) (cs : List AV)
 | nilp
 | lst (full : Bool) (e : Nat) (xs : List AV)
 | ref (cs : List AV)
 | ptr (g : Nat) (o : Nat)
 | own (g : Nat) (n c : Nat)
 | elt (g : Nat) (e i o : Nat)
 deriving Inhabited
def AV.cells : AV -> List AV
 | .agg cs => cs
 | v => [v]
def flat (xs : List AV) : List AV := xs.flatMap AV.cells
inductive Blk where
 | box (cs : List AV)
 | arr (T : TypeId) (e c : Nat) (xs : List AV)
 | raw (T : TypeId) (vs : List Value)
 deriving Inhabited
abbrev Mem := Nat -> Option Blk
def Mem.set (m : Mem) (g : Nat) (b : Blk) : Mem := fun k => if k = g then some b else m k
def Mem.del (m : Mem) (g : Nat) : Mem := fun k => if k = g then none else m k
theorem Mem.set_same (m : Mem) (g : Nat) (b : Blk) : m.set g b g = some b := by simp [Mem.set]
theorem Mem.so {m : Mem} {g k : Nat} {b : Blk} (h : k ≠ g) : m.set g b k = m k := by simp [Mem.set, h]
mutual
inductive Rep (w : World) (S : Nat -> Prop) : AV -> Value -> Prop
 | undef (v : Value) : Rep w S .undef v
 | int (k : IntKind) (n : Int) : Rep w S (.int k n) (.int k n)
 | bool (b : Bool) : Rep w S (.bool b) (.bool b)
 | str (s : ByteArray) : Rep w S (.str s) (.string s)
 | agg {cs : List AV} {vs : List Value} : Reps w S cs vs -> Rep w S (.agg cs) (.agg vs.toArray)
 | tup {cs : List AV} {vs : List Value} : Reps w S cs vs -> Rep w S (.tup cs) (.tuple vs.toArray)
 | func (fn : Fn) {cs : List AV} {vs : List Value} : Reps w S cs vs -> Rep w S (.func fn cs) (.func fn #[] vs.toArray)
 | nilp : Rep w S .nilp (.pointer none)
 | lnil (full : Bool) (e : Nat) (A : Option Addr) (c : Nat) : (full = true -> c = 0) -> Rep w S (.lst full e []) (.slice A 0 c)
 | lst (full : Bool) {xs : List AV} (e b o c : Nat) : S b -> (∀ x ∈ xs, x.cells.length = e) -> xs.length <= c -> (full = true -> c = xs.length) -> Cells w S b o (flat xs) -> Rep w S (.lst full e xs) (.slice (some ⟨b, o, none⟩) xs.length c)
 | ref {cs : List AV} (b o : Nat) : S b -> Cells w S b o cs -> Rep w S (.ref cs) (.pointer (some ⟨b, o, none⟩))
 | ptr (g o : Nat) : Rep w S (.ptr g o) (.pointer (some ⟨g, o, none⟩))
 | own (g n c : Nat) : Rep w S (.own g n c) (.slice (some ⟨g, 0, none⟩) n c)
 | elt (g e i o : Nat) : Rep w S (.elt g e i o) (.pointer (some ⟨g, i * e + o, none⟩))
inductive Reps (w : World) (S : Nat -> Prop) : List AV -> List Value -> Prop
 | nil : Reps w S [] []
 | cons {a : AV} {v : Value} {as : List AV} {vs : List Value} : Rep w S a v -> Reps w S as vs -> Reps w S (a :: as) (v :: vs)
inductive Cells (w : World) (S : Nat -> Prop) : Nat -> Nat -> List AV -> Prop
 | nil (b o : Nat) : Cells w S b o []
 | cons {b o : Nat} {a : AV} {v : Value} {as : List AV} : w.cell? ⟨b, o, none⟩ = some v -> Rep w S a v -> Cells w S b (o + 1) as -> Cells w S b o (a :: as)
end
theorem zyd {w w' : World} {b : Nat} (h : w'.heap[b]? = w.heap[b]?) (o : Nat) : w'.cell? ⟨b, o, none⟩ = w.cell? ⟨b, o, none⟩ := by
 simp only [World.cell?, h]
def Stays (S : Nat -> Prop) (w w' : World) : Prop := ∀ b, S b -> w'.heap[b]? = w.heap[b]?
section
variable {w w' : World} {S S' : Nat -> Prop}
mutual
theorem Rep.mono (hw : Stays S w w') (hS : ∀ b, S b -> S' b) {a : AV} {v : Value} : Rep w S a v -> Rep w' S' a v
 | .undef v => .undef v
 | .int k n => .int k n
 | .bool b => .bool b
 | .str s => .str s
 | .agg h => .agg (Reps.mono hw hS h)
 | .tup h => .tup (Reps.mono hw hS h)
 | .func fn h => .func fn (Reps.mono hw hS h)
 | .nilp => .nilp
 | .lnil full e A c h => .lnil full e A c h
 | .lst full e b o c hb he hc hf h => .lst full e b o c (hS b hb) he hc hf (Cells.mono hw hS hb h)
 | .ref b o hb h => .ref b o (hS b hb) (Cells.mono hw hS hb h)
 | .ptr g o => .ptr g o
 | .own g n c => .own g n c
 | .elt g e i o => .elt g e i o
theorem Reps.mono (hw : Stays S w w') (hS : ∀ b, S b -> S' b) {as : List AV} {vs : List Value} : Reps w S as vs -> Reps w' S' as vs
 | .nil => .nil
 | .cons h t => .cons (Rep.mono hw hS h) (Reps.mono hw hS t)
theorem Cells.mono (hw : Stays S w w') (hS : ∀ b, S b -> S' b) {b o : Nat} {as : List AV} (hb : S b) : Cells w S b o as -> Cells w' S' b o as
 | .nil b o => .nil b o
 | .cons hc h t => .cons ((zyd (hw b hb) o).trans hc) (Rep.mono hw hS h) (Cells.mono hw hS hb t)
end
end
section
variable {w : World} {S : Nat -> Prop}
theorem Reps.length {as : List AV} {vs : List Value} (h : Reps w S as vs) : as.length = vs.length := by
 induction as generalizing vs with
 | nil => cases h; rfl
 | cons a as ih => cases h with | cons h t => simp [ih t]
theorem Reps.get {as : List AV} {vs : List Value} (h : Reps w S as vs) (i : Nat) : (∀ a, as[i]? = some a -> ∃ v, vs[i]? = some v /\ Rep w S a v) := by
 induction as generalizing vs i with
 | nil => intro a ha; simp at ha
 | cons a as ih =>
  cases h with
  | cons h t =>
   intro x hx;cases i with
   | zero => simp at hx; subst hx; exact ⟨_, rfl, h⟩
   | succ i => simp at hx; simpa using ih t i x hx
theorem Reps.append {as bs : List AV} {vs us : List Value} (h : Reps w S as vs) (k : Reps w S bs us) : Reps w S (as ++ bs) (vs ++ us) := by
 induction as generalizing vs with
 | nil => cases h; exact k
 | cons a as ih => cases h with | cons h t => exact .cons h (ih t)
theorem Reps.take {as : List AV} {vs : List Value} (h : Reps w S as vs) (n : Nat) : Reps w S (as.take n) (vs.take n) := by
 induction as generalizing vs n with
 | nil => cases h; simp; exact .nil
 | cons a as ih =>
  cases h with
  | cons h t =>
   cases n with
   | zero => simp; exact .nil
   | succ n => simpa using Reps.cons h (ih t n)
theorem Reps.drop {as : List AV} {vs : List Value} (h : Reps w S as vs) (n : Nat) : Reps w S (as.drop n) (vs.drop n) := by
 induction as generalizing vs n with
 | nil => cases h; simp; exact .nil
 | cons a as ih =>
  cases h with
  | cons h t =>
   cases n with
   | zero => simpa using Reps.cons h t
   | succ n => simpa using ih t n
theorem Reps.split {as bs : List AV} {vs : List Value} (h : Reps w S (as ++ bs) vs) : ∃ us ws, vs = us ++ ws /\ Reps w S as us /\ Reps w S bs ws := by
 refine ⟨vs.take as.length, vs.drop as.length, (List.take_append_drop _ _).symm, ?_, ?_⟩
 ·have := h.take as.length; simpa using this
 have := h.drop as.length; simpa using this
theorem Reps.set {as : List AV} {vs : List Value} (h : Reps w S as vs) (i : Nat) {a : AV} {v : Value} (ha : Rep w S a v) : Reps w S (as.set i a) (vs.set i v) := by
 induction as generalizing vs i with
 | nil => cases h; simp; exact .nil
 | cons x as ih =>
  cases h with
  | cons h t =>
   cases i with
   | zero => simpa using Reps.cons ha t
   | succ i => simpa using Reps.cons h (ih t i)
theorem Rep.cells {a : AV} {v : Value} (h : Rep w S a v) (hu : a ≠ .undef) : Reps w S a.cells v.cells.toList := by
 cases h with
 | undef => exact absurd rfl hu
 | agg h => simpa [AV.cells, Value.cells] using h
 | tup h => simpa [AV.cells, Value.cells] using Reps.cons (.tup h) .nil
 | func fn h => simpa [AV.cells, Value.cells] using Reps.cons (.func fn h) .nil
 | int k n => simpa [AV.cells, Value.cells] using Reps.cons (.int k n) .nil
 | bool b => simpa [AV.cells, Value.cells] using Reps.cons (.bool b) .nil
 | str s => simpa [AV.cells, Value.cells] using Reps.cons (.str s) .nil
 | nilp => simpa [AV.cells, Value.cells] using Reps.cons .nilp .nil
 | lnil f e A c hf => simpa [AV.cells, Value.cells] using Reps.cons (.lnil f e A c hf) .nil
 | lst f e b o c h1 h2 h3 h4 h5 => simpa [AV.cells, Value.cells] using Reps.cons (.lst f e b o c h1 h2 h3 h4 h5) .nil
 | ref b o h1 h2 => simpa [AV.cells, Value.cells] using Reps.cons (.ref b o h1 h2) .nil
 | ptr g o => simpa [AV.cells, Value.cells] using Reps.cons (.ptr g o) .nil
 | own g n c => simpa [AV.cells, Value.cells] using Reps.cons (.own g n c) .nil
 | elt g e i o => simpa [AV.cells, Value.cells] using Reps.cons (.elt g e i o) .nil
theorem Cells.get {b o : Nat} {as : List AV} (h : Cells w S b o as) (i : Nat) : (∀ a, as[i]? = some a -> ∃ v, w.cell? ⟨b, o + i, none⟩ = some v /\ Rep w S a v) := by
 induction as generalizing o i with
 | nil => intro a ha; simp at ha
 | cons a as ih =>
  cases h with
  | cons hc h t =>
   intro x hx;cases i with
   | zero => simp at hx; subst hx; exact ⟨_, hc, h⟩
   | succ i =>
    simp at hx;obtain ⟨v, hv, hr⟩ := ih t i x hx;exact ⟨v, by rw [<- hv]; congr 2; omega, hr⟩
theorem Cells.drop {b o : Nat} {as : List AV} (h : Cells w S b o as) (n : Nat) : Cells w S b (o + n) (as.drop n) := by
 induction as generalizing o n with
 | nil => simp; exact .nil _ _
 | cons a as ih =>
  cases h with
  | cons hc h t =>
   cases n with
   | zero => simpa using Cells.cons hc h t
   | succ n => have := ih t n; simpa [Nat.add_assoc, Nat.add_comm 1 n] using this
theorem Cells.take {b o : Nat} {as : List AV} (h : Cells w S b o as) (n : Nat) : Cells w S b o (as.take n) := by
 induction as generalizing o n with
 | nil => simp; exact .nil _ _
 | cons a as ih =>
  cases h with
  | cons hc h t =>
   cases n with
   | zero => simp; exact .nil _ _
   | succ n => simpa using Cells.cons hc h (ih t n)
theorem Cells.of_block {b : Nat} {cs : Array Value} {T : TypeId} {f : Nat × Nat} (hb : w.heap[b]? = some (.cells cs T f)) {as : List AV} {vs : List Value} (h : Reps w S as vs) :
  ∀ o, (∀ i v, vs[i]? = some v -> cs[o + i]? = some v) -> Cells w S b o as := by
 induction as generalizing vs with
 | nil => intro o _; exact .nil _ _
 | cons a as ih =>
  cases h with
  | @cons _ v _ vs h t =>
   intro o hv;refine .cons (v := v) ?_ h (ih t (o + 1) (fun i u hu => ?_))
   ·have := hv 0 v rfl;simp only [World.cell?, hb];simpa using this
   have := hv (i + 1) u (by simpa using hu);rw [<- this]; congr 1; omega
end
def ypa (w : World) (S : Nat -> Prop) (g : Nat) : Blk -> Prop
 | .box cs => ∃ T vs, w.heap[g]? = some (.cells (List.toArray vs) T (0, 0)) /\ Reps w S cs vs
 | .arr T e c xs => ∃ vs us, w.heap[g]? = some (.cells (List.toArray (vs ++ us)) T (0, 0)) /\ Reps w S (flat xs) vs /\ (vs ++ us).length = c * e /\ (∀ x ∈ xs, x.cells.length = e) /\ xs.length <= c
 | .raw T vs => w.heap[g]? = some (.cells (List.toArray vs) T (0, 0))
structure zva (w : World) (S : Nat -> Prop) (m : Mem) : Prop where
 blk : ∀ g b, m g = some b -> ypa w S g b
 apart : ∀ b, S b -> m b = none /\ b < w.heap.size
theorem ypa.mono {w w' : World} {S S' : Nat -> Prop} {g : Nat} {b : Blk} (hw : Stays S w w') (hS : ∀ b, S b -> S' b) (hg : w'.heap[g]? = w.heap[g]?) (h : ypa w S g b) : ypa w' S' g b := by
 cases b with
 | box cs => obtain ⟨T, vs, h1, h2⟩ := h; exact ⟨T, vs, hg.trans h1, h2.mono hw hS⟩
 | arr T e c xs => obtain ⟨vs, us, h1, h2, h3⟩ := h; exact ⟨vs, us, hg.trans h1, h2.mono hw hS, h3⟩
 | raw T vs => exact hg.trans h
theorem ypa.lt {w : World} {S : Nat -> Prop} {g : Nat} {b : Blk} (h : ypa w S g b) : g < w.heap.size := by
 cases b with
 | box cs => obtain ⟨T, vs, h1, h2⟩ := h; exact (Array.getElem?_eq_some_iff.1 h1).1
 | arr T e c xs => obtain ⟨vs, us, h1, h2, h3⟩ := h; exact (Array.getElem?_eq_some_iff.1 h1).1
 | raw T vs => exact (Array.getElem?_eq_some_iff.1 h).1
end Go.T
namespace Go.T
open Go
def yGb : Value -> AV
 | .int k n => .int k n
 | .bool b => .bool b
 | .string s => .str s
 | .slice none 0 0 => .lst true 0 []
 | .pointer none => .nilp
 | _ => .undef
def wKa : Value -> AV
 | .agg cs => .agg (cs.toList.map yGb)
 | v => yGb v
structure St where
 sl : Nat -> AV
 mem : Mem
def St.eval (s : St) : Operand -> AV
 | .tmp t => s.sl t
 | .const v => wKa v
 | .func f => .func (.func f) []
 | .global _ => .undef
theorem yHb (w : World) (S : Nat -> Prop) (v : Value) : Rep w S (yGb v) v := by
 unfold yGb;split <;> first | exact .int _ _ | exact .bool _ | exact .str _ | exact .lnil _ _ _ _ (fun _ => rfl) | exact .nilp | exact .undef _
theorem zoc (w : World) (S : Nat -> Prop) (l : List Value) : Reps w S (l.map yGb) l := by
 induction l with
 | nil => exact .nil
 | cons v l ih => exact .cons (yHb w S v) ih
theorem x0b (w : World) (S : Nat -> Prop) (v : Value) : Rep w S (wKa v) v := by
 unfold wKa;split
 ·rename_i cs; simpa using Rep.agg (zoc w S cs.toList)
 exact yHb w S _
def xta (P : Program) (t : TypeId) : Option Bool := (P.underlying t).map fun | .struct _ | .array .. => true | _ => false
def szT (P : Program) (t : TypeId) : Option Nat := (P.info? t).map (·.size)
def y2a (P : Program) (t : TypeId) : Option TypeId := match P.underlying t with | some (.slice e) => some e | _ => none
def zDa (P : Program) (t : TypeId) (f : Nat) : Option (Nat × Nat × Bool) :=
 match P.underlying t with
 | some (.struct fs) => match fs[f]? with
  | some fl => match szT P fl.type, xta P fl.type with
   | some n, some b => some (fl.offset, n, b)
   | _, _ => none
  | none => none
 | _ => none
def zRa (P : Program) (t : TypeId) : Option (Nat × Bool) := match szT P t, xta P t with | some n, some b => some (n, b) | _, _ => none
def xHa (n : Nat) (b : Bool) (cs : List AV) : Option AV := if b then (if n <= cs.length then some (.agg (cs.take n)) else none) else cs[0]?
section run
variable {P : Program} {w : World} {S : Nat -> Prop}
theorem zEa {α β : Type} {x : Sem α} {f : α -> Sem β} {w w' : World} {a : α} (h : x.run P w = .ok a w') : (x >>= f).run P w = (f a).run P w' := by rw [Sem.run_bind, h]; rfl
theorem zna {t : TypeId} {d : TypeDesc} (h : P.underlying t = some d) (w : World) : (underlying t).run P w = .ok d w := by
 simp only [underlying, Sem.run_bind, run_program, Result.andThen_ok, h, Sem.run_pure]
theorem xIa {t : TypeId} {i : TypeInfo} (h : P.info? t = some i) (w : World) : (typeInfo t).run P w = .ok i w := by
 simp only [typeInfo, Sem.run_bind, run_program, Result.andThen_ok, h, Sem.run_pure]
theorem z7a {t : TypeId} {n : Nat} (h : szT P t = some n) (w : World) : (sizeOf t).run P w = .ok n w := by
 unfold szT at h;cases hi : P.info? t with
 | none => rw [hi] at h; cases h
 | some i =>
  rw [hi] at h;have h' : i.size = n := by simpa using h
  simp only [sizeOf, Sem.run_bind, xIa hi w, Result.andThen_ok, Sem.run_pure, h']
theorem ylb {t : TypeId} {b : Bool} (h : xta P t = some b) (w : World) : (isAgg t).run P w = .ok b w := by
 unfold xta at h;cases hu : P.underlying t with
 | none => rw [hu] at h; cases h
 | some d =>
  rw [hu] at h;simp only [Option.map_some, Option.some.injEq] at h;simp only [isAgg, Sem.run_bind, zna hu w, Result.andThen_ok];subst h;cases d <;> rfl
theorem wvc {t : TypeId} {n : Nat} {b : Bool} (h : zRa P t = some (n, b)) : szT P t = some n /\ xta P t = some b := by
 unfold zRa at h;cases h1 : szT P t with
 | none => rw [h1] at h; simp at h
 | some n' =>
  cases h2 : xta P t with
  | none => rw [h1, h2] at h; simp at h
  | some b' => rw [h1, h2] at h; simp at h; obtain ⟨rfl, rfl⟩ := h; exact ⟨rfl, rfl⟩
theorem wqd {a : Addr} {v : Value} (h : w.cell? a = some v) : (load a).run P w = .ok v w := by
 rw [run_load, h]
theorem xWa (b o i : Nat) : (⟨b, o, none⟩ : Addr).add i = ⟨b, o + i, none⟩ := by
 unfold Addr.add; split
 ·rename_i h; subst h; rfl
 rfl
theorem x1b {b o : Nat} : ∀ (n i : Nat) (acc : Array Value) (vs : List Value), vs.length = n -> (∀ j v, vs[j]? = some v -> w.cell? ⟨b, o + (i + j), none⟩ = some v) ->
  (loadCellsFrom ⟨b, o, none⟩ i n acc).run P w = .ok (acc ++ vs.toArray) w
 | 0, i, acc, vs, hl, _ => by
  have : vs = [] := List.eq_nil_of_length_eq_zero hl;subst this;simp [loadCellsFrom]
 | n + 1, i, acc, [], hl, _ => by simp at hl
 | n + 1, i, acc, v :: vs, hl, h => by
  unfold loadCellsFrom;have h0 : w.cell? ((⟨b, o, none⟩ : Addr).add i) = some v := by rw [xWa]; exact h 0 v rfl
  rw [zEa (wqd h0), x1b n (i + 1) (acc.push v) vs (by simpa using hl) (fun j u hu => by
   have := h (j + 1) u (by simpa using hu);rw [<- this]; congr 2; omega)]
  simp
theorem wPa {b o : Nat} (n : Nat) (vs : List Value) (hl : vs.length = n) (h : ∀ j v, vs[j]? = some v -> w.cell? ⟨b, o + j, none⟩ = some v) :
  (loadCells ⟨b, o, none⟩ n).run P w = .ok vs.toArray w := by
 unfold loadCells;rw [x1b n 0 #[] vs hl (fun j v hv => by simpa using h j v hv)];simp
theorem yIb {t : TypeId} {n : Nat} {b : Bool} (ht : zRa P t = some (n, b)) {g o : Nat} {cs : List AV} (hc : Cells w S g o cs) {v : AV} (hv : xHa n b cs = some v) :
  ∃ u, (loadVar t ⟨g, o, none⟩).run P w = .ok u w /\ Rep w S v u := by
 obtain ⟨hs, ha⟩ := wvc ht;unfold loadVar;rw [zEa (ylb ha w)];unfold xHa at hv;cases b with
 | false =>
  simp only [Bool.false_eq_true, if_false] at hv ⊢;obtain ⟨u, hu, hr⟩ := hc.get 0 v hv;exact ⟨u, wqd (by simpa using hu), hr⟩
 | true =>
  simp only [if_true] at hv ⊢;by_cases hn : n <= cs.length
  ·rw [if_pos hn] at hv;obtain rfl := Option.some.inj hv;have ht := hc.take n;have key : ∀ (as : List AV) (o : Nat), Cells w S g o as -> ∃ vs, Reps w S as vs /\ ∀ j v, vs[j]? = some v -> w.cell? ⟨g, o + j, none⟩ = some v := by
    intro as
    induction as with
    | nil => intro o _; exact ⟨[], .nil, fun j v h => by simp at h⟩
    | cons a as ih =>
     intro o h;cases h with
     | @cons _ _ _ v _ h1 h2 h3 =>
      obtain ⟨vs, r, hv⟩ := ih (o + 1) h3;refine ⟨v :: vs, .cons h2 r, fun j u hu => ?_⟩;cases j with
      | zero => simp at hu; subst hu; simpa using h1
      | succ j => have := hv j u (by simpa using hu); rw [<- this]; congr 2; omega
   obtain ⟨vs, r, hcell⟩ := key _ _ ht;have hl : vs.length = n := by rw [<- r.length, List.length_take]; omega
   rw [zEa (z7a hs w), zEa (wPa n vs hl hcell)];exact ⟨_, rfl, .agg r⟩
  rw [if_neg hn] at hv; cases hv
end run
def shA (op : BinOp) (k : IntKind) (a b : Int) : Option AV :=
  match op with
  | .shl => if b < 0 then none else some (.int k (k.wrap (a * 2 ^ (min b.toNat k.bits))))
  | .shr => if b < 0 then none else some (.int k (a.fdiv (2 ^ (min b.toNat k.bits))))
  | _ => none
def xFb (op : BinOp) (k : IntKind) (a b : Int) : Option AV :=
  match op with
  | .add => some (.int k (k.wrap (a + b)))
  | .sub => some (.int k (k.wrap (a - b)))
  | .mul => some (.int k (k.wrap (a * b)))
  | .quo => if b = 0 then none else some (.int k (k.wrap (a.tdiv b)))
  | .rem => if b = 0 then none else some (.int k (a.tmod b))
  | .eql => some (.bool (a == b))
  | .neq => some (.bool (a != b))
  | .lss => some (.bool (a < b))
  | .leq => some (.bool (a <= b))
  | .gtr => some (.bool (a > b))
  | .geq => some (.bool (a ≥ b))
  | .and => some (.int k (k.wrap ((BitVec.ofInt k.bits a &&& BitVec.ofInt k.bits b).toNat)))
  | .or => some (.int k (k.wrap ((BitVec.ofInt k.bits a ||| BitVec.ofInt k.bits b).toNat)))
  | .xor => some (.int k (k.wrap ((BitVec.ofInt k.bits a ^^^ BitVec.ofInt k.bits b).toNat)))
  | .shl => if b < 0 then none else some (.int k (k.wrap (a * 2 ^ (min b.toNat k.bits))))
  | .shr => if b < 0 then none else some (.int k (a.fdiv (2 ^ (min b.toNat k.bits))))
  | _ => none
def zwd (op : BinOp) (a b : ByteArray) : Option AV :=
  match op with
  | .add => if a.size + b.size <= 9223372036854775807 then some (.str (a ++ b)) else none
  | .eql => some (.bool (a.toList == b.toList))
  | .neq => some (.bool !(a.toList == b.toList))
  | .lss => some (.bool (Op.bytesLess a.toList b.toList))
  | .leq => some (.bool (Op.bytesLess a.toList b.toList || a.toList == b.toList))
  | .gtr => some (.bool !(Op.bytesLess a.toList b.toList || a.toList == b.toList))
  | .geq => some (.bool !(Op.bytesLess a.toList b.toList))
  | _ => none
def yia (op : BinOp) : AV -> AV -> Option AV
  | .int k a, .int k' b => if k = k' then xFb op k a b else shA op k a b
  | .str a, .str b => zwd op a b
  | _, _ => none
theorem wwc {P : Program} {w : World} {S : Nat -> Prop} {op : BinOp} {T : TypeId} {a b v : AV} {x y : Value} (xo yo : Operand) (ha : Rep w S a x) (hb : Rep w S b y) (h : yia op a b = some v) :
    ∃ u, ((do eqGuard op T xo yo x y; binOp op T x y) : Sem Value).run P w = .ok u w /\ Rep w S v u := by
  have hg : ∀ x y : Value, (match x, y with | .nilIface, .nilIface => False | .agg _, .agg _ => False | _, _ => True) -> (eqGuard op T xo yo x y).run P w = .ok () w := by
    intro x y hxy;unfold eqGuard;cases op <;> simp <;> (cases x <;> cases y <;> first | exact hxy.elim | rfl)
  unfold yia at h;split at h
  · rename_i k m k' n
    cases ha; cases hb;rw [zEa (hg _ _ trivial)];split at h
    · rename_i hk
      subst hk;cases op <;> simp [xFb] at h <;> first
        | (subst h; refine ⟨_, ?_, .int _ _⟩; simp [binOp, Op.intArith, Op.intDiv, Op.intBits, Op.intCmp]; done)
        | (subst h; refine ⟨_, ?_, .bool _⟩; simp [binOp, Op.intArith, Op.intDiv, Op.intBits, Op.intCmp]; done)
        | (obtain ⟨h0, rfl⟩ := h; refine ⟨_, ?_, .int _ _⟩; simp [binOp, Op.intArith, Op.intDiv, Op.intBits, Op.intCmp, Op.shift, h0]; done)
        | (obtain ⟨h0, rfl⟩ := h; refine ⟨_, ?_, .int _ _⟩; simp [binOp, Op.shift]; omega)
    · rename_i hk
      cases op <;> simp [shA] at h <;> (obtain ⟨h0, rfl⟩ := h; refine ⟨_, ?_, .int _ _⟩; simp [binOp, Op.shift]; omega)
  · rename_i s t
    cases ha; cases hb;rw [zEa (hg _ _ trivial)];cases op <;> simp [zwd] at h <;> first
      | (subst h; refine ⟨_, ?_, .bool _⟩; simp [binOp, Op.stringOp]; done)
      | (obtain ⟨h0, rfl⟩ := h; refine ⟨_, ?_, .str _⟩; simp [binOp, Op.stringOp]; omega)
  · cases h
def y4e (P : Program) (T : TypeId) : AV -> AV -> Option Bool
  | .int k a, .int k' b => if k = k' then (match P.underlying T with | some (.int _) => some (a == b) | _ => none) else none
  | .str a, .str b => match P.underlying T with | some .string => some (a.toList == b.toList) | _ => none
  | .bool a, .bool b => match P.underlying T with | some .bool => some (a == b) | _ => none
  | _, _ => none
def zTe (P : Program) (xs ys : List AV) : List Field -> Option Bool
  | [] => some true
  | f :: fs => if f.name ≠ "_" then
      match xta P f.type, xs[f.offset]?, ys[f.offset]? with
      | some false, some a, some b => match y4e P f.type a b with
        | some r => if r = true then zTe P xs ys fs else some false
        | none => none
      | _, _, _ => none
    else zTe P xs ys fs
theorem wxc {P : Program} {w : World} {S : Nat -> Prop} {T : TypeId} {a b : AV} {x y : Value} {t : Bool} (d : Nat) (ha : Rep w S a x) (hb : Rep w S b y) (h : y4e P T a b = some t) :
    (Op.equalIn (d + 1) T x y).run P w = .ok t w := by
  unfold y4e at h;split at h
  · cases ha; cases hb
    split at h
    · rename_i hk
      subst hk;split at h
      · rename_i hu
        cases h;exact run_equalIn_int w d T _ _ _ _ hu
      · cases h
    · cases h
  · cases ha; cases hb
    split at h
    · rename_i hu
      cases h;exact run_equalIn_string w d T _ _ hu
    · cases h
  · cases ha; cases hb
    split at h
    · rename_i hu
      cases h;exact run_equalIn_bool' w d T _ _ hu
    · cases h
  · cases h
theorem zGb {P : Program} {w : World} {S : Nat -> Prop} {xs ys : List AV} {vs us : List Value} (d : Nat) (hx : Reps w S xs vs) (hy : Reps w S ys us) : ∀ (fs : List Field) {t : Bool}, zTe P xs ys fs = some t ->
    (Op.eqFields (d + 1) vs.toArray us.toArray fs).run P w = .ok t w
  | [], t, h => by cases h; rfl
  | f :: fs, t, h => by
    unfold zTe at h;unfold Op.eqFields;by_cases hn : f.name ≠ "_"
    · rw [if_pos hn] at h ⊢
      split at h
      · rename_i a b hag hxa hya
        obtain ⟨u, hu, hru⟩ := hx.get _ _ hxa;obtain ⟨u', hu', hru'⟩ := hy.get _ _ hya;have p1 : (part f.type vs.toArray f.offset).run P w = .ok u w := by
          unfold part;rw [zEa (ylb hag w)];simp [hu]
        have p2 : (part f.type us.toArray f.offset).run P w = .ok u' w := by
          unfold part;rw [zEa (ylb hag w)];simp [hu']
        split at h
        · rename_i r hr
          have p3 := wxc d hru hru' hr;rw [zEa p1, zEa p2, zEa p3];cases r with
          | true => simpa using zGb d hx hy fs (by simpa using h)
          | false => simp at h; subst h; rfl
        · cases h
      · cases h
    · rw [if_neg hn] at h ⊢
      exact zGb d hx hy fs h
def eqA (P : Program) (T : TypeId) : AV -> AV -> Option Bool
  | .bool a, .bool b => match P.underlying T with | some .bool => some (a == b) | _ => none
  | .nilp, .nilp => match P.underlying T with | some (.pointer _) => some true | _ => none
  | .nilp, .ptr _ _ | .ptr _ _, .nilp | .nilp, .elt _ _ _ _ | .elt _ _ _ _, .nilp | .nilp, .ref _ | .ref _, .nilp => match P.underlying T with | some (.pointer _) => some false | _ => none
  | .agg xs, .agg ys => if P.eqGuardType P.depth T = false /\ P.stoodInHeld T = false then (match P.underlying T with | some (.struct fs) => zTe P xs ys fs.toList | _ => none) else none
  | _, _ => none
def eqO (P : Program) (op : BinOp) (T : TypeId) (a b : AV) : Option AV :=
  match op with
  | .eql => (eqA P T a b).map .bool
  | .neq => (eqA P T a b).map fun t => .bool !t
  | _ => none
theorem wyc {P : Program} {w : World} {S : Nat -> Prop} {T : TypeId} {a b : AV} {x y : Value} {t : Bool} (d : Nat) (ha : Rep w S a x) (hb : Rep w S b y) (h : eqA P T a b = some t) :
    (Op.equalIn (d + 2) T x y).run P w = .ok t w := by
  unfold eqA at h;split at h <;> first
    | (cases h; done)
    | (cases ha; cases hb
       split at h <;> cases h
       rename_i hu
       show (Op.equalIn (d + 1 + 1) T _ _).run P w = _;generalize d + 1 = e;simp [Op.equalIn, zna hu]; done)
    | (cases ha with | agg hx => cases hb with | agg hy =>
       split at h
       · rename_i hc
         split at h
         · rename_i fs hu
           have ef : P.fieldsOf T = fs := by unfold Program.fieldsOf; rw [hu]
           rw [run_equalIn_struct w (d + 1) T _ _ (by rw [ef]; exact hu) hc.2, ef];exact zGb d hx hy _ h
         · cases h
       · cases h)
theorem xsd {P : Program} {w : World} {S : Nat -> Prop} {T : TypeId} {a b : AV} {x y : Value} {t : Bool} (ha : Rep w S a x) (hb : Rep w S b y) (h : eqA P T a b = some t) (op : BinOp) (xo yo : Operand) :
    (eqGuard op T xo yo x y).run P w = .ok () w /\ (op = .eql -> binOp op T x y = (do pure (.bool (<- Op.equal T x y)))) /\ (op = .neq -> binOp op T x y = (do pure (.bool (!(<- Op.equal T x y))))) := by
  unfold eqA at h;split at h <;> first
    | (cases h; done)
    | (cases ha; cases hb
       refine ⟨?_, ?_, ?_⟩
       · unfold eqGuard; cases op <;> rfl
       · rintro rfl; rfl
       · rintro rfl; rfl)
    | (cases ha with | agg hx => cases hb with | agg hy =>
       split at h
       · rename_i hc
         refine ⟨run_eqGuard_agg w op T xo yo _ _ hc.1, ?_, ?_⟩
         · rintro rfl; rfl
         · rintro rfl; rfl
       · cases h)
theorem zzd {P : Program} {w : World} {S : Nat -> Prop} {op : BinOp} {T : TypeId} {a b v : AV} {x y : Value} (xo yo : Operand) (ha : Rep w S a x) (hb : Rep w S b y) (h : eqO P op T a b = some v) :
    ∃ u, ((do eqGuard op T xo yo x y; binOp op T x y) : Sem Value).run P w = .ok u w /\ Rep w S v u := by
  unfold eqO at h;cases ht : eqA P T a b with
  | none => rw [ht] at h; cases op <;> cases h
  | some t =>
    rw [ht] at h;obtain ⟨h1, h2, h3⟩ := xsd ha hb ht op xo yo;have h4 : (Op.equal T x y).run P w = .ok t w := wyc 9998 ha hb ht;rw [zEa h1];cases op <;> first
      | (cases h; done)
      | (obtain rfl := Option.some.inj h; rw [h2 rfl, zEa h4]; exact ⟨_, rfl, .bool _⟩)
      | (obtain rfl := Option.some.inj h; rw [h3 rfl, zEa h4]; exact ⟨_, rfl, .bool _⟩)
def unA (op : UnOp) : AV -> Option AV
  | .int k n => match op with | .neg => some (.int k (k.wrap (0 - n))) | _ => none
  | .bool b => match op with | .not => some (.bool !b) | _ => none
  | _ => none
def yJb : List AV -> Option (List Int)
  | [] => some []
  | .int .u8 n :: l => (yJb l).map (n :: ·)
  | _ => none
def yKb (ns : List Int) : ByteArray := ns.foldl (fun r n => r.push (UInt8.ofNat n.toNat)) ByteArray.empty
def wzc (P : Program) (src dst : TypeId) : AV -> Option AV
  | .int _ n => match P.underlying src, P.underlying dst with | some (.int _), some (.int k) => some (.int k (k.wrap n)) | _, _ => none
  | .str s => match P.underlying src, P.underlying dst with | some .string, some .string => some (.str s) | _, _ => none
  | .lst _ e xs => match P.underlying src, P.underlying dst with
    | some (.slice el), some .string => match P.underlying el with
      | some (.int .u8) => if e = 1 then (yJb xs).map fun ns => .str (yKb ns) else none
      | _ => none
    | _, _ => none
  | _ => none
def x2b (P : Program) (T : TypeId) (f : Nat) : AV -> Option AV
  | .agg cs => match zDa P T f with | some (o, n, b) => xHa n b (cs.drop o) | none => none
  | _ => none
def yLb (P : Program) (T : TypeId) (f : Nat) (x : AV) : Option AV :=
  match zDa P T f with
  | some (o, n, _) => if n = 0 then none else match x with
    | .ptr g k => some (.ptr g (k + o))
    | .elt g e i k => some (.elt g e i (k + o))
    | .ref cs => some (.ref (cs.drop o))
    | _ => none
  | none => none
def y3a (P : Program) (m : Mem) (T : TypeId) (x : AV) : Option AV :=
  match zRa P T with
  | some (n, b) => match x with
    | .ref cs => xHa n b cs
    | .ptr g o => match m g with | some (.box cs) => xHa n b (cs.drop o) | _ => none
    | .elt g e i o => match m g with | some (.arr _ e' _ xs) => if e = e' then match xs[i]? with | some x => xHa n b (x.cells.drop o) | none => none else none | _ => none
    | _ => none
  | none => none
def esz (P : Program) (T : TypeId) : Option Nat := match y2a P T with | some e => szT P e | none => none
def xxe (P : Program) (T : TypeId) : Option (Nat × Nat) := match P.underlying T with | some (.array n e) => (szT P e).map fun z => (n, z) | _ => none
def yga (P : Program) (m : Mem) (T : TypeId) (x : AV) (i : AV) : Option AV :=
  match i with
  | .int _ k => if k < 0 then none else match esz P T with
    | some n => match x with
      | .lst _ e xs => if e = n then (match xs[k.toNat]? with | some y => some (.ref y.cells) | none => none) else none
      | .own g l _ => match m g with | some (.arr _ e _ xs) => if xs.length = l /\ k.toNat < l /\ e = n then some (.elt g e k.toNat 0) else none | _ => none
      | _ => none
    | none => match xxe P T with
      | some (n, z) => if k < n then (match x with | .ptr g o => some (.ptr g (o + k.toNat * z)) | .ref cs => some (.ref (cs.drop (k.toNat * z))) | _ => none) else none
      | none => none
  | _ => none
def xXa (P : Program) (T : TypeId) : AV -> AV -> Option AV
  | .str s, .int _ k => match P.underlying T with | some .string => (if k < 0 then none else match s[k.toNat]? with | some b => some (.int .u8 b.toNat) | none => none) | _ => none
  | .agg cs, .int _ k => match P.underlying T with
    | some (.array n e) => if 0 <= k /\ k < n then (match szT P e, xta P e with | some z, some b => xHa z b (cs.drop (k.toNat * z)) | _, _ => none) else none
    | _ => none
  | _, _ => none
def xld (P : Program) (T : Option TypeId) : AV -> Option AV
  | .str s => match T.bind P.underlying with | some .string => some (.int .i64 s.size) | _ => none
  | .lst _ _ xs => match T.bind P.underlying with | some (.slice _) => some (.int .i64 xs.length) | _ => none
  | .own _ n _ => match T.bind P.underlying with | some (.slice _) => some (.int .i64 n) | _ => none
  | _ => none
def w2d : AV -> AV -> Option AV
  | .int k x, .int _ y => some (.int k (if y > x then y else x))
  | _, _ => none
def w3d : AV -> AV -> Option AV
  | .int k x, .int _ y => some (.int k (if y < x then y else x))
  | _, _ => none
def zAd (f : AV -> AV -> Option AV) : AV -> List AV -> Option AV
  | x, [] => some x
  | x, y :: l => match f x y with | some z => zAd f z l | none => none
def z5a (d : Nat) (y : Nat) : Option AV -> Option Nat
  | none => some d
  | some (.int _ k) => if k < 0 then none else if k.toNat <= y then some k.toNat else none
  | _ => none
def yQa (P : Program) (T : TypeId) (x : AV) (lo hi : Option AV) : Option AV :=
  match x with
  | .str s => match P.underlying T with
    | some .string => match z5a s.size s.size hi with
      | some h => match z5a 0 h lo with | some l => some (.str (s.extract l h)) | none => none
      | none => none
    | _ => none
  | .lst _ e xs => match esz P T with
    | some n => if e = n then (match z5a xs.length xs.length hi with
      | some h => match z5a 0 h lo with | some l => some (.lst false e ((xs.take h).drop l)) | none => none
      | none => none) else none
    | none => none
  | .own g n c => match esz P T with
    | some _ => (match z5a n c hi with
      | some h => match z5a 0 h lo with | some 0 => some (.own g h c) | _ => none
      | none => none)
    | none => none
  | _ => none
section
variable {P : Program} {w : World} {S : Nat -> Prop} {m : Mem}
theorem zBd {op : UnOp} {a v : AV} {x : Value} (ha : Rep w S a x) (h : unA op a = some v) : ∃ u, (Op.unary op x).run P w = .ok u w /\ Rep w S v u := by
  unfold unA at h;split at h
  · cases ha
    split at h <;> cases h
    exact ⟨_, rfl, .int _ _⟩
  · cases ha
    split at h <;> cases h
    exact ⟨_, rfl, .bool _⟩
  · cases h
theorem wAc {xs : List AV} {ns : List Int} (h : yJb xs = some ns) {vs : List Value} (hr : Reps w S xs vs) : vs = ns.map (Value.int .u8) := by
  induction xs generalizing ns vs with
  | nil => cases h; cases hr; rfl
  | cons x xs ih =>
    cases hr with | cons h1 h2 =>
    cases h1 <;> (try (simp [yJb] at h; done))
    rename_i k n
    cases k <;> (try (simp [yJb] at h; done))
    simp only [yJb, Option.map_eq_some_iff] at h;obtain ⟨ms, hm, rfl⟩ := h;rw [ih hm h2]; rfl
theorem wBc {xs : List AV} {ns : List Int} (h : yJb xs = some ns) : flat xs = xs /\ xs.length = ns.length := by
  induction xs generalizing ns with
  | nil => cases h; exact ⟨rfl, rfl⟩
  | cons x xs ih =>
    cases x <;> (try (simp [yJb] at h; done))
    rename_i k n
    cases k <;> (try (simp [yJb] at h; done))
    simp only [yJb, Option.map_eq_some_iff] at h;obtain ⟨ms, hm, rfl⟩ := h;have := ih hm;refine ⟨?_, by simp [this.2]⟩;simp only [flat, List.flatMap_cons] at this ⊢;rw [this.1]; rfl
theorem yLc {src dst : TypeId} {a v : AV} {x : Value} (ha : Rep w S a x) (h : wzc P src dst a = some v) : ∃ u, (convert src dst x).run P w = .ok u w /\ Rep w S v u := by
  unfold wzc at h;split at h
  · cases ha
    split at h
    · rename_i h1 h2
      cases h;refine ⟨_, ?_, .int _ _⟩;unfold convert;rw [zEa (zna h1 w), zEa (zna h2 w)];rfl
    · cases h
  · cases ha
    split at h
    · rename_i h1 h2
      cases h;refine ⟨_, ?_, .str _⟩;unfold convert;rw [zEa (zna h1 w), zEa (zna h2 w)];rfl
    · cases h
  · split at h
    · rename_i el h1 h2
      split at h
      · rename_i h3
        split at h
        · rename_i he
          rw [Option.map_eq_some_iff] at h;obtain ⟨ns, hns, rfl⟩ := h;refine ⟨.string (yKb ns), ?_, .str _⟩;cases ha with
          | lnil _ _ A c hc =>
            cases hns;rw [run_convert_bytes_string w src dst el A 0 c h1 h3 h2];cases A with
            | none => simp [Conv.bytesToString, Sem.run_pure, yKb]
            | some a =>
              have hl : (loadCells a 0).run P w = .ok (([] : List Int).map (Value.int .u8)).toArray w := by simp [loadCells, loadCellsFrom, Sem.run_pure]
              rw [run_bytesToString w a 0 c [] hl]; rfl
          | lst _ _ b o c k1 k2 k3 k4 k5 =>
            have hf := wBc hns;rw [hf.1] at k5;have key : ∀ (as : List AV) (o : Nat), Cells w S b o as -> ∃ vs, Reps w S as vs /\ ∀ j v, vs[j]? = some v -> w.cell? ⟨b, o + j, none⟩ = some v := by
              intro as
              induction as with
              | nil => intro o _; exact ⟨[], .nil, fun j v h => by simp at h⟩
              | cons a as ih =>
                intro o h;cases h with
                | @cons _ _ _ v _ h1 h2 h3 =>
                  obtain ⟨vs, r, hv⟩ := ih (o + 1) h3;refine ⟨v :: vs, .cons h2 r, fun j u hu => ?_⟩;cases j with
                  | zero => simp at hu; subst hu; simpa using h1
                  | succ j => have := hv j u (by simpa using hu); rw [<- this]; congr 2; omega
            obtain ⟨vs, hr, hv⟩ := key _ _ k5;have hvs := wAc hns hr;subst hvs;have hl := wPa (P := P) (w := w) (b := b) (o := o) _ (ns.map (Value.int .u8)) rfl hv;rw [run_convert_bytes_string w src dst el _ _ c h1 h3 h2];rw [List.length_map, <- hf.2] at hl;rw [run_bytesToString w _ _ c ns hl]; rfl
        · cases h
      · cases h
    · cases h
  · cases h
theorem yMb {T : TypeId} {f o n : Nat} {b : Bool} (h : zDa P T f = some (o, n, b)) :
    ∃ fs fl, P.underlying T = some (.struct fs) /\ fs[f]? = some fl /\ fl.offset = o /\ szT P fl.type = some n /\ xta P fl.type = some b := by
  unfold zDa at h;split at h
  · rename_i fs hu
    split at h
    · rename_i fl hf
      split at h
      · rename_i n' b' h1 h2
        simp only [Option.some.injEq, Prod.mk.injEq] at h;obtain ⟨rfl, rfl, rfl⟩ := h;exact ⟨fs, fl, hu, hf, rfl, h1, h2⟩
      · cases h
    · cases h
  · cases h
theorem x3b {T : TypeId} {n o : Nat} {b : Bool} (hs : szT P T = some n) (hb : xta P T = some b) {cs : List AV} {vs : List Value} (hr : Reps w S cs vs) {v : AV} (h : xHa n b (cs.drop o) = some v) :
    ∃ u, (part T vs.toArray o).run P w = .ok u w /\ Rep w S v u := by
  unfold part;rw [zEa (ylb hb w)];unfold xHa at h;cases b with
  | false =>
    simp only [Bool.false_eq_true, if_false] at h ⊢;have h' : cs[o]? = some v := by simpa using h
    obtain ⟨u, hu, hv⟩ := hr.get o v h';refine ⟨u, ?_, hv⟩;simp [hu]
  | true =>
    simp only [if_true] at h ⊢;split at h
    · rename_i hn
      obtain rfl := Option.some.inj h;rw [zEa (z7a hs w)];refine ⟨_, rfl, ?_⟩;have := (hr.drop o).take n;have e : vs.toArray.extract o (o + n) = ((vs.drop o).take n).toArray := by
        simp
      rw [e];exact .agg this
    · cases h
theorem zpc {T : TypeId} {f : Nat} {a v : AV} {x : Value} (ha : Rep w S a x) (h : x2b P T f a = some v) : ∃ u, (Instr.field T x f).run P w = .ok u w /\ Rep w S v u := by
  unfold x2b at h;split at h
  · cases ha with
    | agg hr =>
      split at h
      · rename_i o n b hf
        obtain ⟨fs, fl, hu, hfl, rfl, hs, hb⟩ := yMb hf;obtain ⟨u, h1, h2⟩ := x3b hs hb hr h;refine ⟨u, ?_, h2⟩;unfold Instr.field;rw [zEa (zna hu w)];simp only [hfl, asAgg];exact h1
      · cases h
  · cases h
theorem zqc {T : TypeId} {f : Nat} {a v : AV} {x : Value} (ha : Rep w S a x) (h : yLb P T f a = some v) : ∃ u, (Instr.fieldAt T x f).run P w = .ok u w /\ Rep w S v u := by
  unfold yLb at h;split at h
  · rename_i o n b hf
    obtain ⟨fs, fl, hu, hfl, rfl, hs, hb⟩ := yMb hf;split at h
    · cases h
    · rename_i hn
      have key : ∀ g k, x = .pointer (some ⟨g, k, none⟩) -> (Instr.fieldAt T x f).run P w = .ok (.pointer (some ⟨g, k + fl.offset, none⟩)) w := by
        rintro g k rfl;unfold Instr.fieldAt;rw [zEa (zna hu w)];simp only [hfl, Instr.sureAddr];simp [fieldPlace, z7a hs, hn, xWa]
      split at h
      · cases ha; obtain rfl := Option.some.inj h; exact ⟨_, key _ _ rfl, .ptr _ _⟩
      · cases ha; obtain rfl := Option.some.inj h; exact ⟨_, key _ _ rfl, by rw [Nat.add_assoc]; exact .elt _ _ _ _⟩
      · cases ha with
        | ref g k hg hc => obtain rfl := Option.some.inj h; exact ⟨_, key _ _ rfl, .ref _ _ hg (hc.drop _)⟩
      · cases h
  · cases h
theorem zCd {e : Nat} : ∀ {xs : List AV}, (∀ x ∈ xs, x.cells.length = e) -> ∀ {i : Nat} {x : AV}, xs[i]? = some x -> ∀ {j : Nat} {c : AV}, x.cells[j]? = some c -> (flat xs)[i * e + j]? = some c
  | [], _, i, x, hx, _, _, _ => by simp at hx
  | y :: xs, he, i, x, hx, j, c, hc => by
    have hy : y.cells.length = e := he y (by simp);show (y.cells ++ flat xs)[i * e + j]? = some c;cases i with
    | zero =>
      simp at hx; subst hx;have : j < y.cells.length := (List.getElem?_eq_some_iff.1 hc).1;rw [List.getElem?_append_left (by omega)];simpa using hc
    | succ i =>
      have h := zCd (fun z hz => he z (by simp [hz])) (show xs[i]? = some x by simpa using hx) hc;rw [List.getElem?_append_right (by rw [hy, Nat.add_mul]; omega), hy];rw [<- h]; congr 1; rw [Nat.add_mul]; omega
theorem Cells.elem {e b o : Nat} {xs : List AV} (he : ∀ x ∈ xs, x.cells.length = e) (hc : Cells w S b o (flat xs)) {i : Nat} {x : AV} (hx : xs[i]? = some x) : Cells w S b (o + i * e) x.cells := by
  have key : ∀ (as : List AV) (o' : Nat), (∀ j a, as[j]? = some a -> ∃ v, w.cell? ⟨b, o' + j, none⟩ = some v /\ Rep w S a v) -> Cells w S b o' as := by
    intro as
    induction as with
    | nil => intro o' _; exact .nil _ _
    | cons a as ih =>
      intro o' h;obtain ⟨v, hv, hr⟩ := h 0 a rfl;refine .cons (by simpa using hv) hr (ih (o' + 1) (fun j x hx => ?_));obtain ⟨v, hv, hr⟩ := h (j + 1) x (by simpa using hx);exact ⟨v, by rw [<- hv]; congr 2; omega, hr⟩
  refine key _ _ (fun j a ha => ?_);obtain ⟨v, hv, hr⟩ := hc.get (i * e + j) a (zCd he hx ha);exact ⟨v, by rw [<- hv]; congr 2; omega, hr⟩
theorem wva {e : Nat} : ∀ {xs : List AV}, (∀ x ∈ xs, x.cells.length = e) -> (flat xs).length = xs.length * e
  | [], _ => by simp [flat]
  | y :: xs, he => by
    have := wva (xs := xs) (fun z hz => he z (by simp [hz]));show (y.cells ++ flat xs).length = _;rw [List.length_append, this, he y (by simp)];simp [Nat.add_mul]; omega
theorem yNb {T : TypeId} {a v : AV} {x : Value} (hm : zva w S m) (ha : Rep w S a x) (h : y3a P m T a = some v) : ∃ u, (Instr.loadAt T x).run P w = .ok u w /\ Rep w S v u := by
  unfold y3a at h;split at h
  · rename_i n b ht
    split at h
    · cases ha with
      | ref g k hg hc =>
        obtain ⟨u, h1, h2⟩ := yIb ht hc h;exact ⟨u, by simpa [Instr.loadAt, Instr.sureAddr] using h1, h2⟩
    · cases ha
      split at h
      · rename_i cs hg
        obtain ⟨T', vs, hb, hr⟩ := hm.blk _ _ hg;have hc := (Cells.of_block hb hr 0 (fun i v hv => by simpa using hv)).drop;obtain ⟨u, h1, h2⟩ := yIb ht (hc _) h;exact ⟨u, by simpa [Instr.loadAt, Instr.sureAddr] using h1, h2⟩
      · cases h
    · cases ha
      split at h
      · rename_i e' c xs hg
        obtain ⟨vs, us, hb, hr, hl, he, hle⟩ := hm.blk _ _ hg;split at h
        · rename_i hee
          subst hee;split at h
          · rename_i y hy
            have hc := Cells.of_block hb hr 0 (fun i v hv => by
              have : i < vs.length := (List.getElem?_eq_some_iff.1 hv).1;simp [List.getElem?_append_left this, hv])
            have hc' := ((Cells.elem he hc hy).drop);obtain ⟨u, h1, h2⟩ := yIb ht (hc' _) h;refine ⟨u, ?_, h2⟩;simpa [Instr.loadAt, Instr.sureAddr] using h1
          · cases h
        · cases h
      · cases h
    · cases h
  · cases h
theorem ymb {T : TypeId} {n : Nat} (h : esz P T = some n) : ∃ e, P.underlying T = some (.slice e) /\ szT P e = some n := by
  unfold esz y2a at h;split at h
  · rename_i e he
    split at he
    · rename_i e' hu; cases he; exact ⟨_, hu, h⟩
    · cases he
  · cases h
theorem zDd {T : TypeId} {n z : Nat} (h : xxe P T = some (n, z)) : ∃ e, P.underlying T = some (.array n e) /\ szT P e = some z := by
  unfold xxe at h;split at h
  · rename_i n' e hu
    obtain ⟨k, hk, he⟩ := Option.map_eq_some_iff.1 h;cases he;exact ⟨e, hu, hk⟩
  · cases h
theorem wCc {T : TypeId} {a i v : AV} {x y : Value} (hm : zva w S m) (ha : Rep w S a x) (hi : Rep w S i y) (h : yga P m T a i = some v) : ∃ u, (Instr.indexAt T x y).run P w = .ok u w /\ Rep w S v u := by
  unfold yga at h;split at h
  · cases hi
    rename_i ik k
    split at h
    · cases h
    · rename_i hk
      split at h
      · rename_i n hn
        obtain ⟨e, hu, hs⟩ := ymb hn;have key : ∀ (g o l c : Nat), x = .slice (some ⟨g, o, none⟩) l c -> k.toNat < l -> (Instr.indexAt T x (.int ik k)).run P w = .ok (.pointer (some ⟨g, o + k.toNat * n, none⟩)) w := by
          rintro g o l c rfl hkl;have h1 : 0 <= k /\ k < (l : Int) := by omega
          simp [Instr.indexAt, asIntOf, zna hu, z7a hs, h1.1, h1.2, xWa]
        split at h
        · split at h
          · rename_i hen
            subst hen;split at h
            · rename_i z hz
              obtain rfl := Option.some.inj h;have hlt := (List.getElem?_eq_some_iff.1 hz).1;cases ha with
              | lnil f e A c hf => simp at hz
              | lst f e b o c hb he hle hf hc => exact ⟨_, key b o _ c rfl hlt, .ref _ _ hb (Cells.elem he hc hz)⟩
            · cases h
          · cases h
        · split at h
          · rename_i e' c' xs hg
            split at h
            · rename_i hcond
              obtain ⟨h1, h2, h3⟩ := hcond;obtain rfl := Option.some.inj h;cases ha;subst h3;exact ⟨_, key _ 0 _ _ rfl h2, by simpa using Rep.elt _ _ _ 0⟩
            · cases h
          · cases h
        · cases h
      · split at h
        · rename_i n z hn
          obtain ⟨e, hu, hs⟩ := zDd hn;split at h
          · rename_i hlt
            have key : ∀ (g o : Nat), x = .pointer (some ⟨g, o, none⟩) -> (Instr.indexAt T x (.int ik k)).run P w = .ok (.pointer (some ⟨g, o + k.toNat * z, none⟩)) w := by
              rintro g o rfl;have h1 : 0 <= k /\ k < (n : Int) := by omega
              simp [Instr.indexAt, asIntOf, zna hu, z7a hs, h1.1, h1.2, xWa, Instr.sureAddr]
            split at h
            · obtain rfl := Option.some.inj h
              cases ha;exact ⟨_, key _ _ rfl, .ptr _ _⟩
            · obtain rfl := Option.some.inj h
              cases ha with
              | ref b o hb hc => exact ⟨_, key _ _ rfl, .ref _ _ hb (hc.drop _)⟩
            · cases h
          · cases h
        · cases h
  · cases h
theorem yMc {T : TypeId} {a i v : AV} {x y : Value} (ha : Rep w S a x) (hi : Rep w S i y) (h : xXa P T a i = some v) : ∃ u, (Instr.index T x y).run P w = .ok u w /\ Rep w S v u := by
  unfold xXa at h;split at h
  · rename_i s ik k
    cases ha; cases hi;split at h
    · rename_i hu
      split at h
      · cases h
      · rename_i hk
        split at h
        · rename_i b hb
          obtain rfl := Option.some.inj h;refine ⟨_, ?_, .int _ _⟩;have hk' : (0 : Int) <= k := Int.not_lt.1 hk;simp [Instr.index, asIntOf, zna hu, hk', hb]
        · cases h
    · cases h
  · rename_i cs ik k
    cases ha with | agg hr => cases hi; split at h
                              · rename_i n e hu
                                split at h
                                · rename_i hk
                                  split at h
                                  · rename_i z b hz hb
                                    obtain ⟨u, h1, h2⟩ := x3b hz hb hr h;refine ⟨u, ?_, h2⟩;simp [Instr.index, asIntOf, zna hu, hk.1, hk.2, z7a hz, h1]
                                  · cases h
                                · cases h
                              · cases h
  · cases h
theorem wDc {T : Option TypeId} {ty : TypeId} {ts : Array TypeId} (hT : ts[0]? = T) {a v : AV} {x : Value} (ha : Rep w S a x) (h : xld P T a = some v) : ∃ u, (Builtin.len_ ts ty #[x]).run P w = .ok u w /\ Rep w S v u := by
  unfold xld at h;split at h
  · cases ha
    split at h
    · rename_i hu
      cases T with
      | none => simp at hu
      | some t =>
        obtain rfl := Option.some.inj h;exact ⟨_, by simp [Builtin.len_, hT, zna (show P.underlying t = _ from hu), goInt], .int _ _⟩
    · cases h
  · split at h
    · rename_i hu
      cases T with
      | none => simp at hu
      | some t =>
        obtain rfl := Option.some.inj h;cases ha with
        | lnil f e A c hf => exact ⟨_, by simp [Builtin.len_, hT, zna (show P.underlying t = _ from hu), goInt], .int _ _⟩
        | lst f e b o c hb he hle hf hc => exact ⟨_, by simp [Builtin.len_, hT, zna (show P.underlying t = _ from hu), goInt], .int _ _⟩
    · cases h
  · cases ha
    split at h
    · rename_i hu
      cases T with
      | none => simp at hu
      | some t =>
        obtain rfl := Option.some.inj h;exact ⟨_, by simp [Builtin.len_, hT, zna (show P.underlying t = _ from hu), goInt], .int _ _⟩
    · cases h
  · cases h
def yOb (w : World) (S : Nat -> Prop) : Option AV -> Option Value -> Prop
  | none, none => True
  | some b, some x => Rep w S b x
  | _, _ => False
theorem x4b {d y z : Nat} {b : AV} (h : z5a d y (some b) = some z) : ∃ k n, b = .int k n /\ 0 <= n /\ n.toNat <= y /\ z = n.toNat := by
  cases b with
  | int k n =>
    simp only [z5a] at h;by_cases h0 : n < 0
    · rw [if_pos h0] at h; cases h
    · rw [if_neg h0] at h
      by_cases h1 : n.toNat <= y
      · rw [if_pos h1] at h; exact ⟨k, n, rfl, by omega, h1, (Option.some.inj h).symm⟩
      · rw [if_neg h1] at h; cases h
  | _ => simp [z5a] at h
theorem xYa {w : World} {d y z : Nat} {b : AV} {x : Value} {code : BoundsCode} (hb : Rep w S b x) (h : z5a d y (some b) = some z) (y' : Nat) (hy : y <= y') :
    (Instr.sliceBound x y' code).run P w = .ok z w := by
  obtain ⟨k, n, rfl, h0, h1, rfl⟩ := x4b h;cases hb;have h2 : n <= (y' : Int) := by omega
  simp [Instr.sliceBound, asIntOf, h0, h2]
theorem zrc {d y z : Nat} {b : Option AV} (hd : d <= y) (h : z5a d y b = some z) : z <= y := by
  cases b with
  | none => simp [z5a] at h; omega
  | some b => obtain ⟨k, n, rfl, h0, h1, rfl⟩ := x4b h; exact h1
theorem z5b {isS : Bool} {len cap l h : Nat} {lo hi : Option AV} {xlo xhi : Option Value} (hlo : yOb w S lo xlo) (hhi : yOb w S hi xhi) (h1 : z5a len len hi = some h) (h2 : z5a 0 h lo = some l) (hc : len <= cap) :
    (Instr.sliceBounds isS len cap xlo xhi none).run P w = .ok (l, h, cap) w := by
  unfold Instr.sliceBounds;have e1 : ∀ code, (match xhi with | some v => Instr.sliceBound v cap code | none => pure len : Sem Nat).run P w = .ok h w := by
    intro code;cases hi with
    | none => cases xhi with
      | none => simp [z5a] at h1; subst h1; rfl
      | some v => exact hhi.elim
    | some b => cases xhi with
      | none => exact hhi.elim
      | some v => exact xYa (P := P) hhi h1 cap hc
  have e2 : ∀ code, (match xlo with | some v => Instr.sliceBound v h code | none => pure 0 : Sem Nat).run P w = .ok l w := by
    intro code;cases lo with
    | none => cases xlo with
      | none => simp [z5a] at h2; subst h2; rfl
      | some v => exact hlo.elim
    | some b => cases xlo with
      | none => exact hlo.elim
      | some v => exact xYa (P := P) hlo h2 h (Nat.le_refl _)
  cases xhi <;> cases xlo <;> simp at e1 e2 ⊢ <;> simp [e1, e2]
theorem yeb {isS : Bool} {len cap l h : Nat} {lo hi : Option AV} {xlo xhi : Option Value} (hlo : yOb w S lo xlo) (hhi : yOb w S hi xhi) (h1 : z5a len cap hi = some h) (h2 : z5a 0 h lo = some l) :
    (Instr.sliceBounds isS len cap xlo xhi none).run P w = .ok (l, h, cap) w := by
  unfold Instr.sliceBounds;have e1 : ∀ code, (match xhi with | some v => Instr.sliceBound v cap code | none => pure len : Sem Nat).run P w = .ok h w := by
    intro code;cases hi with
    | none => cases xhi with
      | none => simp [z5a] at h1; subst h1; rfl
      | some v => exact hhi.elim
    | some b => cases xhi with
      | none => exact hhi.elim
      | some v => exact xYa (P := P) hhi h1 cap (Nat.le_refl _)
  have e2 : ∀ code, (match xlo with | some v => Instr.sliceBound v h code | none => pure 0 : Sem Nat).run P w = .ok l w := by
    intro code;cases lo with
    | none => cases xlo with
      | none => simp [z5a] at h2; subst h2; rfl
      | some v => exact hlo.elim
    | some b => cases xlo with
      | none => exact hlo.elim
      | some v => exact xYa (P := P) hlo h2 h (Nat.le_refl _)
  cases xhi <;> cases xlo <;> simp at e1 e2 ⊢ <;> simp [e1, e2]
theorem zEd {e : Nat} {xs : List AV} (he : ∀ x ∈ xs, x.cells.length = e) (n : Nat) : flat (xs.take n) = (flat xs).take (n * e) := by
  induction xs generalizing n with
  | nil => simp [flat]
  | cons y xs ih =>
    cases n with
    | zero => simp [flat]
    | succ n =>
      have hy : y.cells.length = e := he y (by simp);show y.cells ++ flat (xs.take n) = (y.cells ++ flat xs).take ((n + 1) * e);have h1 : (n + 1) * e = n * e + e := by rw [Nat.add_mul, Nat.one_mul]
      have h2 : y.cells.take (n * e + e) = y.cells := List.take_of_length_le (by rw [hy]; exact Nat.le_add_left _ _);rw [ih (fun z hz => he z (by simp [hz])), List.take_append, hy, h1, h2, Nat.add_sub_cancel]
theorem zFd {e : Nat} {xs : List AV} (he : ∀ x ∈ xs, x.cells.length = e) (n : Nat) : flat (xs.drop n) = (flat xs).drop (n * e) := by
  induction xs generalizing n with
  | nil => simp [flat]
  | cons y xs ih =>
    cases n with
    | zero => simp
    | succ n =>
      have hy : y.cells.length = e := he y (by simp);show flat (xs.drop n) = (y.cells ++ flat xs).drop ((n + 1) * e);have h1 : (n + 1) * e = n * e + e := by rw [Nat.add_mul, Nat.one_mul]
      have h2 : y.cells.drop (n * e + e) = [] := List.drop_of_length_le (by rw [hy]; exact Nat.le_add_left _ _);rw [ih (fun z hz => he z (by simp [hz])), List.drop_append, hy, h1, h2, Nat.add_sub_cancel, List.nil_append]
theorem zsc {T : TypeId} {a v : AV} {x : Value} {lo hi : Option AV} {xlo xhi : Option Value} (ha : Rep w S a x) (hlo : yOb w S lo xlo) (hhi : yOb w S hi xhi) (h : yQa P T a lo hi = some v) :
    ∃ u, (Instr.sliceAt T x xlo xhi none).run P w = .ok u w /\ Rep w S v u := by
  unfold yQa at h;split at h
  · rename_i s
    cases ha;split at h
    · rename_i hu
      split at h
      · rename_i hh hb1
        split at h
        · rename_i l hb2
          obtain rfl := Option.some.inj h;refine ⟨_, ?_, .str _⟩;unfold Instr.sliceAt;rw [zEa (zna hu w)];unfold Instr.slice;rw [zEa (zna hu w)];simp [z5b (P := P) (isS := false) hlo hhi hb1 hb2 (Nat.le_refl _)]
        · cases h
      · cases h
    · cases h
  · rename_i full e xs
    split at h
    · rename_i n hn
      obtain ⟨el, hu, hs⟩ := ymb hn;split at h
      · rename_i hen
        subst hen;split at h
        · rename_i hh hb1
          split at h
          · rename_i l hb2
            obtain rfl := Option.some.inj h;have hlen : hh <= xs.length := zrc (Nat.le_refl _) hb1;have hll : l <= hh := zrc (Nat.zero_le _) hb2;have key : ∀ A c, x = .slice A xs.length c -> xs.length <= c -> (Instr.sliceAt T x xlo xhi none).run P w = .ok (.slice (if c = l then A else A.map (·.add (l * e))) (hh - l) (c - l)) w := by
              rintro A c rfl hc;unfold Instr.sliceAt;rw [zEa (zna hu w)];unfold Instr.slice;rw [zEa (zna hu w)];simp [z5b (P := P) (isS := true) hlo hhi hb1 hb2 hc, z7a hs]
            cases ha with
            | lnil f e A c hf =>
              have h0 : hh = 0 := by simpa using hlen
              have h1 : l = 0 := by omega
              subst h0 h1;refine ⟨_, key A c rfl (by simp), ?_⟩;simpa using Rep.lnil false _ _ _ (fun h => by cases h)
            | lst f e b o c hb he hle hf hc =>
              refine ⟨_, key _ c rfl hle, ?_⟩;have hlen2 : ((xs.take hh).drop l).length = hh - l := by simp; omega
              by_cases hz : hh = l
              · have : (xs.take hh).drop l = [] := List.eq_nil_of_length_eq_zero (by omega)
                rw [this, hz, Nat.sub_self];exact .lnil false _ _ _ (fun h => by cases h)
              · have hcl : c ≠ l := by omega
                rw [if_neg hcl];have he2 : ∀ y ∈ (xs.take hh).drop l, y.cells.length = e := fun y hy => he y (List.mem_of_mem_take (List.mem_of_mem_drop hy));rw [<- hlen2];show Rep w S _ (.slice (some ((⟨b, o, none⟩ : Addr).add (l * e))) _ _);rw [xWa];refine .lst false e b _ _ hb he2 (by rw [hlen2]; omega) (fun h => by cases h) ?_;rw [zFd (fun y hy => he y (List.mem_of_mem_take hy)), zEd he];exact (hc.take _).drop _
          · cases h
        · cases h
      · cases h
    · cases h
  · rename_i g n c
    cases ha;split at h
    · rename_i z hz
      obtain ⟨el, hu, hs⟩ := ymb hz;split at h
      · rename_i hh hb1
        split at h
        · rename_i hb2
          obtain rfl := Option.some.inj h;refine ⟨.slice (some ⟨g, 0, none⟩) hh c, ?_, .own _ _ _⟩;unfold Instr.sliceAt;rw [zEa (zna hu w)];unfold Instr.slice;rw [zEa (zna hu w)];simp [yeb (P := P) (isS := true) hlo hhi hb1 hb2, z7a hs, xWa]
        · cases h
      · cases h
    · cases h
  · cases h
end
section
variable {P : Program} {w : World} {S : Nat -> Prop} {m : Mem}
def zHb (place : Nat -> Option (Nat × Nat)) (cells : List AV) : List (Nat × AV) -> Option (List AV)
 | [] => some cells
 | (i, v) :: rest => match place i with
  | none => none
  | some (off, size) => match v with
   | .undef => none
   | v => if v.cells.length = size then (if off + size <= cells.length then zHb place (cells.take off ++ v.cells ++ cells.drop (off + size)) rest else none) else none
theorem ztc (l : List Value) : ∀ (off k : Nat) (cs : Array Value), off + k + l.length <= cs.size ->
  ((l.zipIdx k).foldl (fun cs (x : Value × Nat) => cs.setIfInBounds (off + x.2) x.1) cs).toList = cs.toList.take (off + k) ++ l ++ cs.toList.drop (off + k + l.length) := by
 induction l with
 | nil => intro off k cs h; simp
 | cons v l ih =>
  intro off k cs h;simp only [List.zipIdx_cons, List.foldl_cons];rw [ih off (k + 1) _ (by simp at h ⊢; omega)];simp only [Array.toList_setIfInBounds, List.length_cons] at *;have h1 : off + k < cs.toList.length := by simp; omega
  have h2 : (cs.toList.set (off + k) v).take (off + (k + 1)) = cs.toList.take (off + k) ++ [v] := by
   rw [<- Nat.add_assoc, List.take_add_one, List.take_set_of_le (by omega)];congr 1;simp [h1, List.getElem?_set];simpa using h1
  have h3 : (cs.toList.set (off + k) v).drop (off + (k + 1) + l.length) = cs.toList.drop (off + k + (l.length + 1)) := by
   rw [List.drop_set_of_lt (by omega)]; congr 1; omega
  rw [h2, h3]; simp
theorem x5b (place : Nat -> Option (Nat × Nat)) : ∀ (parts : List (Nat × AV)) (vparts : List (Nat × Value)) (cells : List AV) (vcells : List Value) (out : List AV), Reps w S cells vcells ->
  (parts.length = vparts.length /\ ∀ (j i : Nat) (a : AV), parts[j]? = some (i, a) -> ∃ v, vparts[j]? = some (i, v) /\ Rep w S a v) -> zHb place cells parts = some out ->
  ∃ vout : List Value, Instr.fill place vcells.toArray vparts = some vout.toArray /\ Reps w S out vout := by
 intro parts
 induction parts with
 | nil =>
  intro vparts cells vcells out hc hp h;have : vparts = [] := List.eq_nil_of_length_eq_zero (by simpa using hp.1.symm);subst this;simp only [zHb, Option.some.injEq] at h;subst h;exact ⟨vcells, rfl, hc⟩
 | cons p parts ih =>
  intro vparts cells vcells out hc hp h;obtain ⟨i, a⟩ := p;cases vparts with
  | nil => simp at hp
  | cons q vparts =>
   obtain ⟨v, hv, ha⟩ := hp.2 0 i a rfl;simp only [List.getElem?_cons_zero, Option.some.injEq] at hv;subst hv;simp only [zHb] at h;split at h
   ·cases h
   rename_i off size hpl
   split at h
   ·cases h
   rename_i hund
   split at h
   ·rename_i hsz
    split at h
    ·rename_i hoff
     have hcl := ha.cells hund;have hvl : v.cells.size = size := by have := hcl.length; simp at this; omega
     have hlen := hc.length;have hr : Reps w S (cells.take off ++ a.cells ++ cells.drop (off + size)) (vcells.take off ++ v.cells.toList ++ vcells.drop (off + size)) := ((hc.take off).append hcl).append (hc.drop _);obtain ⟨vout, h1, h2⟩ := ih vparts _ _ out hr ⟨by have := hp.1; simpa using this, fun j i' a' hj => by have := hp.2 (j + 1) i' a' (by simpa using hj); simpa using this⟩ h;refine ⟨vout, ?_, h2⟩;simp only [Instr.fill, hpl];rw [if_neg (by simp; omega)];have hf := ztc v.cells.toList off 0 vcells.toArray (by simp; omega);have he : (v.cells.zipIdx.foldl (fun cs (x : Value × Nat) => cs.setIfInBounds (off + x.2) x.1) vcells.toArray) = (vcells.take off ++ v.cells.toList ++ vcells.drop (off + size)).toArray := by
      apply Array.ext';rw [<- Array.foldl_toList, Array.toList_zipIdx, hf];simp [hvl]
     exact (congrArg (fun z => Instr.fill place z vparts) he).trans h1
    cases h
   cases h
def ySa (P : Program) (T : TypeId) : Option (List (Nat × Nat)) :=
 match P.underlying T with
 | some (.struct fs) => fs.toList.mapM fun f => (szT P f.type).map fun n => (f.offset, n)
 | some (.array n e) => (szT P e).map fun k => (List.range n).map fun i => (i * k, k)
 | _ => none
def yha (P : Program) (T : TypeId) : Option AV := match P.info? T with | some i => i.zero.map wKa | none => none
def zuc (P : Program) (T : TypeId) (parts : List (Nat × AV)) : Option AV :=
 match ySa P T, yha P T with
 | some pl, some z => match z with
  | .undef => none
  | z => (zHb (fun i => pl[i]?) z.cells parts).map .agg
 | _, _ => none
theorem xvc {α β : Type} (f : α -> Sem β) (g : α -> Option β) (hf : ∀ a b, g a = some b -> (f a).run P w = .ok b w) : ∀ (l : List α) (r : List β), l.mapM g = some r -> (l.mapM f).run P w = .ok r w
 | [], r, h => by simp at h; subst h; rfl
 | a :: l, r, h => by
  rw [List.mapM_cons] at h ⊢;cases ha : g a with
  | none => rw [ha] at h; cases h
  | some b =>
   rw [ha] at h;cases hl : l.mapM g with
   | none => rw [hl] at h; cases h
   | some bs =>
    rw [hl] at h;simp at h;subst h;rw [zEa (hf a b ha), zEa (xvc f g hf l bs hl)];rfl
theorem x6b {T : TypeId} {z : AV} (h : yha P T = some z) : ∃ v, (zeroValue T).run P w = .ok v w /\ Rep w S z v := by
 unfold yha at h;split at h
 ·rename_i i hi
  cases hz : i.zero with
  | none => rw [hz] at h; cases h
  | some v =>
   rw [hz] at h;simp only [Option.map_some, Option.some.injEq] at h;subst h;refine ⟨v, ?_, x0b w S v⟩;simp [zeroValue, xIa hi, hz]
 cases h
theorem x7b {p p' : Nat -> Option (Nat × Nat)} (h : ∀ i x, p i = some x -> p' i = some x) : ∀ (parts : List (Nat × AV)) (cells out : List AV), zHb p cells parts = some out -> zHb p' cells parts = some out
 | [], cells, out, hf => hf
 | (i, v) :: rest, cells, out, hf => by
  simp only [zHb] at hf ⊢;cases hp : p i with
  | none => rw [hp] at hf; cases hf
  | some x =>
   obtain ⟨off, size⟩ := x;rw [hp] at hf;rw [h i _ hp];simp only at hf ⊢;cases v with
   | undef => cases hf
   | _ =>
    simp only at hf ⊢;split at hf
    ·rename_i h1
     rw [if_pos h1];split at hf
     ·rename_i h2
      rw [if_pos h2];exact x7b h rest _ _ hf
     cases hf
    cases hf
theorem zvc {T : TypeId} {parts : List (Nat × AV)} {vparts : Array (Nat × Value)} {v : AV} (hp : parts.length = vparts.size /\ ∀ (j i : Nat) (a : AV), parts[j]? = some (i, a) -> ∃ v, vparts.toList[j]? = some (i, v) /\ Rep w S a v) (h : zuc P T parts = some v) :
  ∃ u, (Instr.build T vparts).run P w = .ok u w /\ Rep w S v u := by
 unfold zuc at h;split at h
 ·rename_i pl z h1 h2
  split at h
  ·cases h
  rename_i hund
  obtain ⟨zv, hz, hzr⟩ := x6b (w := w) (S := S) h2;cases hf : zHb (fun i => pl[i]?) z.cells parts with
  | none => rw [hf] at h; cases h
  | some out =>
   rw [hf] at h;simp only [Option.map_some, Option.some.injEq] at h;subst h;unfold ySa at h1;split at h1
   ·rename_i fs hu
    obtain ⟨vout, e1, e2⟩ := x5b (w := w) (S := S) (fun i => pl[i]?) parts vparts.toList z.cells zv.cells.toList out (hzr.cells hund) ⟨by simpa using hp.1, hp.2⟩ hf;have hm := xvc (P := P) (w := w) (fun f : Field => do pure (f.offset, <- sizeOf f.type)) (fun f => (szT P f.type).map fun n => (f.offset, n)) (fun f b hb => by
     cases hs : szT P f.type with
     | none => rw [hs] at hb; cases hb
     | some n => rw [hs] at hb; simp at hb; subst hb; simp [z7a hs]) fs.toList pl h1
    refine ⟨.agg vout.toArray, ?_, .agg e2⟩;unfold Instr.build;simp only [map_eq_pure_bind, Sem.run_bind, hz, Result.andThen_ok, zna hu, Sem.run_pure];rw [<- Array.toArray_toList (xs := fs), List.mapM_toArray];simp only [Sem.run_map, hm, Result.andThen_ok];have e3 : Instr.fill (fun i => pl[i]?) zv.cells vparts.toList = some vout.toArray := by simpa using e1
    simp [e3]
   ·rename_i n e hu
    obtain ⟨k, hk, rfl⟩ := Option.map_eq_some_iff.1 h1;have hf2 := x7b (p' := fun i => some (i * k, k)) (fun i x hx => by
     obtain ⟨h1, h2⟩ := List.getElem?_eq_some_iff.1 hx;simp at h2;rw [<- h2]) parts z.cells out hf
    obtain ⟨vout, e1, e2⟩ := x5b (w := w) (S := S) (fun i => some (i * k, k)) parts vparts.toList z.cells zv.cells.toList out (hzr.cells hund) ⟨by simpa using hp.1, hp.2⟩ hf2;refine ⟨.agg vout.toArray, ?_, .agg e2⟩;unfold Instr.build;simp only [map_eq_pure_bind, Sem.run_bind, hz, Result.andThen_ok, zna hu, Sem.run_pure, z7a hk];have e3 : Instr.fill (fun i => some (i * k, k)) zv.cells vparts.toList = some vout.toArray := by simpa using e1
    simp [e3]
   cases h1
 cases h
def yGa (P : Program) (m : Mem) (ev : Operand -> AV) : Op -> Option AV
 | .move x | .assign x => some (ev x)
 | .pick c a b => match ev c with | .bool t => some (if t then ev a else ev b) | _ => none
 | .binOp op T x y _ => match yia op (ev x) (ev y) with | some v => some v | none => eqO P op T (ev x) (ev y)
 | .unOp op _ x => unA op (ev x)
 | .convert src dst x => wzc P src dst (ev x)
 | .nilCheck x => match ev x with
  | .ptr g o => some (.ptr g o)
  | .ref cs => some (.ref cs)
  | .elt g e i o => some (.elt g e i o)
  | .func (.func f) cs => some (.func (.func f) cs)
  | _ => none
 | .fieldAddr T x f => yLb P T f (ev x)
 | .field T x f => x2b P T f (ev x)
 | .load T a => y3a P m T (ev a)
 | .indexAddr T x i => yga P m T (ev x) (ev i)
 | .index T x i => xXa P T (ev x) (ev i)
 | .slice T x lo hi none => yQa P T (ev x) (lo.map ev) (hi.map ev)
 | .extract t i => match ev t with | .tup vs => vs[i]? | _ => none
 | .makeFunc fn first caps => if first.size = 0 then some (.func fn (caps.toList.map ev)) else none
 | .build T parts => zuc P T (parts.toList.map fun p => (p.1, ev p.2))
 | .call c => match c.callee with
  | .builtin .len => match c.args.toList with | [x] => xld P c.argTypes[0]? (ev x) | _ => none
  | .builtin .max => match c.args.toList with | x :: l => zAd w2d (ev x) (l.map ev) | [] => none
  | .builtin .min => match c.args.toList with | x :: l => zAd w3d (ev x) (l.map ev) | [] => none
  | _ => none
 | _ => none
theorem wEc {a b v : AV} {x y : Value} (ha : Rep w S a x) (hb : Rep w S b y) (h : w2d a b = some v) : ∃ u, (Builtin.max2 x y).run P w = .ok u w /\ Rep w S v u := by
 unfold w2d at h;split at h
 ·cases ha; cases hb;obtain rfl := Option.some.inj h;exact ⟨_, rfl, .int _ _⟩
 cases h
theorem wFc {a b v : AV} {x y : Value} (ha : Rep w S a x) (hb : Rep w S b y) (h : w3d a b = some v) : ∃ u, (Builtin.min2 x y).run P w = .ok u w /\ Rep w S v u := by
 unfold w3d at h;split at h
 ·cases ha; cases hb;obtain rfl := Option.some.inj h;exact ⟨_, rfl, .int _ _⟩
 cases h
theorem wQa {f : AV -> AV -> Option AV} {F : Value -> Value -> Sem Value} (hf : ∀ a b v x y, Rep w S a x -> Rep w S b y -> f a b = some v -> ∃ u, (F x y).run P w = .ok u w /\ Rep w S v u) :
  ∀ (l : List AV) (xs : List Value) (a v : AV) (x : Value), Reps w S l xs -> Rep w S a x -> zAd f a l = some v -> ∃ u, (xs.foldlM F x).run P w = .ok u w /\ Rep w S v u
 | [], xs, a, v, x, hl, ha, h => by
  cases hl;obtain rfl := Option.some.inj h;exact ⟨x, rfl, ha⟩
 | b :: l, xs, a, v, x, hl, ha, h => by
  cases hl with
  | cons hb hl =>
   simp only [zAd] at h;split at h
   ·rename_i z hz
    obtain ⟨u, h1, h2⟩ := hf _ _ _ _ _ ha hb hz;obtain ⟨u', h3, h4⟩ := wQa hf l _ z v u hl h2 h;refine ⟨u', ?_, h4⟩;rw [List.foldlM_cons, zEa h1]; exact h3
   cases h
theorem w6a (ev : Operand -> AV) (ρ : Operand -> Value) (hev : ∀ x, Rep w S (ev x) (ρ x)) : ∀ l : List Operand, Reps w S (l.map ev) (l.map ρ)
 | [] => .nil
 | x :: l => .cons (hev x) (w6a ev ρ hev l)
theorem zGd (ev : Operand -> AV) (ρ : Operand -> Value) (hev : ∀ x, Rep w S (ev x) (ρ x)) (o : Option Operand) : yOb w S (o.map ev) (o.map ρ) := by
 cases o with
 | none => trivial
 | some x => exact hev x
theorem xZa {x : Sem Value} {u : Value} {w' : World} (h : x.run P w = .ok u w') : ((do pure (.value (<- x))) : Sem Next).run P w = .ok (.value u) w' := by
 rw [zEa h]; rfl
theorem wGc (hm : zva w S m) {ev : Operand -> AV} {ρ : Operand -> Value} (hev : ∀ x, Rep w S (ev x) (ρ x)) (o : Oper) {v : AV} (h : yGa P m ev o.op = some v) :
  ∃ u, (execOp ρ o).run P w = .ok (.value u) w /\ Rep w S v u := by
 unfold execOp;cases hop : o.op with
 | move x => rw [hop] at h; obtain rfl := Option.some.inj h; exact ⟨_, rfl, hev x⟩
 | assign x => rw [hop] at h; obtain rfl := Option.some.inj h; exact ⟨_, rfl, hev x⟩
 | pick c a b =>
  rw [hop] at h;simp only [yGa] at h;have hc := hev c;split at h
  ·rename_i t ht
   rw [ht] at hc;generalize hx : ρ c = x at hc;cases hc;obtain rfl := Option.some.inj h;cases t
   ·exact ⟨ρ b, by simp [hx, asBool], hev b⟩
   exact ⟨ρ a, by simp [hx, asBool], hev a⟩
  cases h
 | binOp op T x y ty =>
  rw [hop] at h;simp only [yGa] at h;split at h
  ·rename_i v' hv
   obtain rfl := Option.some.inj h;obtain ⟨u, h1, h2⟩ := wwc (P := P) (T := T) x y (hev x) (hev y) hv;exact ⟨u, xZa h1, h2⟩
  obtain ⟨u, h1, h2⟩ := zzd (P := P) (T := T) x y (hev x) (hev y) h;exact ⟨u, xZa h1, h2⟩
 | unOp op T x =>
  rw [hop] at h;obtain ⟨u, h1, h2⟩ := zBd (P := P) (hev x) h;exact ⟨u, xZa h1, h2⟩
 | convert src dst x =>
  rw [hop] at h;obtain ⟨u, h1, h2⟩ := yLc (P := P) (hev x) h;exact ⟨u, xZa h1, h2⟩
 | nilCheck x =>
  rw [hop] at h;simp only [yGa] at h;have hc := hev x;split at h
  ·rename_i g o' ht
   rw [ht] at hc;generalize hx : ρ x = y at hc;cases hc;obtain rfl := Option.some.inj h;exact ⟨_, by simp [hx], .ptr _ _⟩
  ·rename_i cs ht
   rw [ht] at hc;generalize hx : ρ x = y at hc;cases hc with
   | ref b o' h1 h2 =>
    obtain rfl := Option.some.inj h;exact ⟨_, by simp [hx], .ref _ _ h1 h2⟩
  ·rename_i g e i o' ht
   rw [ht] at hc;generalize hx : ρ x = y at hc;cases hc;obtain rfl := Option.some.inj h;exact ⟨_, by simp [hx], .elt _ _ _ _⟩
  ·rename_i f cs ht
   rw [ht] at hc;generalize hx : ρ x = y at hc;cases hc with
   | func fn hr =>
    obtain rfl := Option.some.inj h;exact ⟨_, by simp [hx], .func _ hr⟩
  cases h
 | fieldAddr T x f =>
  rw [hop] at h;obtain ⟨u, h1, h2⟩ := zqc (P := P) (hev x) h;exact ⟨u, xZa h1, h2⟩
 | field T x f =>
  rw [hop] at h;obtain ⟨u, h1, h2⟩ := zpc (P := P) (hev x) h;exact ⟨u, xZa h1, h2⟩
 | load T a =>
  rw [hop] at h;obtain ⟨u, h1, h2⟩ := yNb (P := P) hm (hev a) h;exact ⟨u, xZa h1, h2⟩
 | indexAddr T x i =>
  rw [hop] at h;obtain ⟨u, h1, h2⟩ := wCc (P := P) hm (hev x) (hev i) h;exact ⟨u, xZa h1, h2⟩
 | index T x i =>
  rw [hop] at h;obtain ⟨u, h1, h2⟩ := yMc (P := P) (hev x) (hev i) h;exact ⟨u, xZa h1, h2⟩
 | slice T x lo hi mx =>
  rw [hop] at h;cases mx with
  | some _ => cases h
  | none =>
   obtain ⟨u, h1, h2⟩ := zsc (P := P) (hev x) (zGd ev ρ hev lo) (zGd ev ρ hev hi) h;exact ⟨u, xZa h1, h2⟩
 | extract t i =>
  rw [hop] at h;simp only [yGa] at h;have hc := hev t;split at h
  ·rename_i vs ht
   rw [ht] at hc;generalize hx : ρ t = y at hc;cases hc with
   | tup hr =>
    obtain ⟨u, h1, h2⟩ := hr.get i v h;exact ⟨u, by simp [hx, Instr.extract, h1], h2⟩
  cases h
 | makeFunc fn first caps =>
  rw [hop] at h;simp only [yGa] at h;split at h
  ·rename_i hf
   obtain rfl := Option.some.inj h;obtain rfl : first = #[] := Array.size_eq_zero_iff.1 hf;have e : caps.map ρ = (caps.toList.map ρ).toArray := by apply Array.ext'; simp
   refine ⟨.func fn #[] (caps.map ρ), by simp [Instr.makeFunc], ?_⟩;rw [e];exact Rep.func fn (w6a ev ρ hev caps.toList)
  cases h
 | build T parts =>
  rw [hop] at h;obtain ⟨u, h1, h2⟩ := zvc (P := P) (w := w) (S := S) (vparts := parts.map fun (i, x) => (i, ρ x)) ⟨by simp, fun j i a hj => by
   simp only [List.getElem?_map] at hj;cases hq : parts.toList[j]? with
   | none => rw [hq] at hj; cases hj
   | some q =>
    rw [hq] at hj;simp at hj;obtain ⟨rfl, rfl⟩ := hj;exact ⟨ρ q.2, by simp at hq; simp [hq], hev _⟩⟩ h
  exact ⟨u, xZa h1, h2⟩
 | call c =>
  rw [hop] at h;simp only [yGa] at h;cases hcal : c.callee with
  | builtin b =>
   rw [hcal] at h;cases b with
   | len =>
    simp only at h;split at h
    ·rename_i x hx
     obtain ⟨u, h1, h2⟩ := wDc (P := P) (ty := o.type) (ts := c.argTypes) rfl (hev x) h;refine ⟨u, ?_, h2⟩;have hargs : c.args.map ρ = #[ρ x] := by apply Array.ext'; simp [hx]
     simp [resolve, hcal, invoke, builtin, hargs, h1]
    cases h
   | max =>
    simp only at h;split at h
    ·rename_i x l hx
     obtain ⟨u, h1, h2⟩ := wQa (P := P) (fun a b v x y ha hb hv => wEc (P := P) ha hb hv) _ _ _ _ _ (w6a ev ρ hev l) (hev x) h;refine ⟨u, ?_, h2⟩;have hargs : (c.args.map ρ).toList = ρ x :: l.map ρ := by simp [hx]
     have h3 : (Builtin.max_ c.argTypes o.type (c.args.map ρ)).run P w = .ok u w := by unfold Builtin.max_; rw [hargs]; exact h1
     simp [resolve, hcal, invoke, builtin, h3]
    cases h
   | min =>
    simp only at h;split at h
    ·rename_i x l hx
     obtain ⟨u, h1, h2⟩ := wQa (P := P) (fun a b v x y ha hb hv => wFc (P := P) ha hb hv) _ _ _ _ _ (w6a ev ρ hev l) (hev x) h;refine ⟨u, ?_, h2⟩;have hargs : (c.args.map ρ).toList = ρ x :: l.map ρ := by simp [hx]
     have h3 : (Builtin.min_ c.argTypes o.type (c.args.map ρ)).run P w = .ok u w := by unfold Builtin.min_; rw [hargs]; exact h1
     simp [resolve, hcal, invoke, builtin, h3]
    cases h
   | _ => cases h
  | value f => rw [hcal] at h; cases h
  | invoke r n => rw [hcal] at h; cases h
 | _ => rw [hop] at h; cases h
end
end Go.T
