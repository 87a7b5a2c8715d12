/- States, what a world has to do with them, calls; operations that write. -/
import Derived.Test.YtkheogobahhbpaaT5
namespace Go.T
open Go
set_option linter.unusedSimpArgs false
set_option linter.unusedVariables false

def St.put (s : St) (d : Option Tmp) (v : AV) : St :=
  match d with
  | some d => { s with slots := fun t => if t = d then v else s.slots t }
  | none => s

/-- What is not in D is as it was. -/
structure Keep (D : Nat → Prop) (w w' : World) : Prop where
  os : w'.os = w.os
  tape : w'.tape = w.tape
  output : w'.output = w.output
  size : w.heap.size ≤ w'.heap.size
  block : ∀ b, b < w.heap.size → ¬ D b → w'.heap[b]? = w.heap[b]?
theorem Keep.refl (D : Nat → Prop) (w : World) : Keep D w w := ⟨rfl, rfl, rfl, Nat.le_refl _, fun _ _ _ => rfl⟩
theorem Keep.trans {D D' : Nat → Prop} {a b c : World} (h : Keep D a b) (k : Keep D' b c) (hd : ∀ g, D' g → D g ∨ a.heap.size ≤ g) : Keep D a c :=
  ⟨k.os.trans h.os, k.tape.trans h.tape, k.output.trans h.output, Nat.le_trans h.size k.size, fun b hb hn =>
    (k.block b (Nat.lt_of_lt_of_le hb h.size) (fun hd' => (hd b hd').elim hn (fun hle => absurd hb (by omega)))).trans (h.block b hb hn)⟩
theorem Keep.drew {D : Nat → Prop} {a b : World} (h : Keep D a b) (n : Nat) : Keep D a { b with drawn := n } := ⟨h.os, h.tape, h.output, h.size, h.block⟩

structure Ctx where
  w0 : World
  D0 : Nat → Prop
  S0 : Nat → Prop

/-- What is stable was so, or is the call's own. -/
def SIn (C : Ctx) (S : Nat → Prop) : Prop := (∀ b, C.S0 b → S b) ∧ ∀ b, S b → C.S0 b ∨ C.D0 b ∨ C.w0.heap.size ≤ b

structure Rel (C : Ctx) (s : St) (a : Act) (w : World) : Prop where
  ex : ∃ S, SIn C S ∧ MemRep w S s.mem ∧ ∀ t, Rep w S (s.slots t) (a.tmps.getD t undef)
  defers : a.defers = []
  keep : Keep C.D0 C.w0 w
  dom : ∀ g b, s.mem g = some b → C.D0 g ∨ C.w0.heap.size ≤ g

theorem eval_rep {S : Nat → Prop} {s : St} {a : Act} {w : World} (h : ∀ t, Rep w S (s.slots t) (a.tmps.getD t undef)) (x : Operand) : Rep w S (s.eval x) (a.eval x) := by
  cases x with
  | tmp t => exact h t
  | const v => exact constA_rep w S v
  | global g => exact .undef _
  | func f => exact .func (.func f) .nil
theorem put_rep {S : Nat → Prop} {w : World} {s : St} {a : Act} (h : ∀ t, Rep w S (s.slots t) (a.tmps.getD t undef)) {d : Option Tmp} (hd : ∀ t, d = some t → t < a.tmps.size) {v : AV} {u : Value} (hv : Rep w S v u) :
    ∀ t, Rep w S ((s.put d v).slots t) ((a.put d u).tmps.getD t undef) := by
  intro t
  cases d with
  | none => exact h t
  | some d =>
    have hlt := hd d rfl
    simp only [St.put, Act.put]
    by_cases e : t = d
    · subst e
      simp only [if_true]
      have : (a.tmps.setIfInBounds t u).getD t undef = u := by simp [Array.getD, hlt]
      rw [this]; exact hv
    · simp only [if_neg e]
      have : (a.tmps.setIfInBounds d u).getD t undef = a.tmps.getD t undef := by
        rw [Array.getD_eq_getD_getElem?, Array.getD_eq_getD_getElem?, Array.getElem?_setIfInBounds_ne (Ne.symm e)]
      rw [this]; exact h t
theorem put_defers (a : Act) (d : Option Tmp) (u : Value) : (a.put d u).defers = a.defers := by cases d <;> rfl
theorem put_size (a : Act) (d : Option Tmp) (u : Value) : (a.put d u).tmps.size = a.tmps.size := by cases d <;> simp [Act.put]
theorem put_mem (s : St) (d : Option Tmp) (v : AV) : (s.put d v).mem = s.mem := by cases d <;> rfl
def St.withMem (s : St) (m : Mem) : St := { s with mem := m }
theorem withMem_put (s : St) (m : Mem) (d : Option Tmp) (v : AV) : (s.withMem m).put d v = (s.put d v).withMem m := by cases d <;> rfl

/-- One operation behind which S' is stable and the memory m': the relation goes on. -/
theorem Rel.step {C : Ctx} {s : St} {a : Act} {w w' : World} {S S' : Nat → Prop} {m' : Mem} (h : Rel C s a w) (hS0 : SIn C S) (hslots : ∀ t, Rep w S (s.slots t) (a.tmps.getD t undef))
    (hSS : ∀ b, S b → S' b) (hup : ∀ b, S' b → S b ∨ s.mem b ≠ none ∨ w.heap.size ≤ b) (hst : Stays S w w') (hm : MemRep w' S' m') (hk : Keep (fun g => s.mem g ≠ none) w w') (hdom : ∀ g b, m' g = some b → s.mem g ≠ none ∨ w.heap.size ≤ g)
    {d : Option Tmp} (hd : ∀ t, d = some t → t < a.tmps.size) {v : AV} {u : Value} (hv : Rep w' S' v u) : Rel C ((s.put d v).withMem m') (a.put d u) w' := by
  have hD : ∀ g, s.mem g ≠ none → C.D0 g ∨ C.w0.heap.size ≤ g := fun g hg => by
    cases hgb : s.mem g with
    | none => exact absurd hgb hg
    | some b => exact h.dom g b hgb
  refine ⟨⟨S', ⟨fun b hb => hSS b (hS0.1 b hb), fun b hb => ?_⟩, hm, ?_⟩, by rw [put_defers]; exact h.defers, h.keep.trans hk hD, fun g b hg => ?_⟩
  · rcases hup b hb with h1 | h1 | h1
    · exact hS0.2 b h1
    · exact .inr (hD b h1)
    · exact .inr (.inr (Nat.le_trans h.keep.size h1))
  · exact put_rep (fun t => (hslots t).mono hst hSS) hd hv
  · rcases hdom g b hg with h1 | h1
    · exact hD g h1
    · exact .inr (Nat.le_trans h.keep.size h1)

/-- A function with a body of its own. -/
def HasBody (P : Program) (n : FuncId) : Prop := ∃ fn, P.funcs[n]? = some fn ∧ (fn.name == "runtime.NumGoroutine") = false ∧ fn.body.isNone = false
/-- A call that answers r and leaves the memory as it is. -/
def PCall (P : Program) (n : FuncId) (args : List AV) (r : AV) : Prop :=
  HasBody P n ∧ ∀ w S cargs m, MemRep w S m → Reps w S args cargs →
    Calls P n cargs.toArray w fun e w' => ∃ v S', e = .returned v ∧ (∀ b, S b → S' b) ∧ (∀ b, S' b → S b ∨ w.heap.size ≤ b) ∧ MemRep w' S' m ∧ Rep w' S' r v ∧ Keep (fun _ => False) w w'
/-- A call, and what may be behind it. -/
def WCall (P : Program) (n : FuncId) (args : List AV) (m : Mem) (k : AV → Mem → Prop) : Prop :=
  HasBody P n ∧ ∀ w S cargs, MemRep w S m → Reps w S args cargs →
    Calls P n cargs.toArray w fun e w' => ∃ v r m' S', e = .returned v ∧ k r m' ∧ (∀ b, S b → S' b) ∧ (∀ b, S' b → S b ∨ m b ≠ none ∨ w.heap.size ≤ b) ∧ MemRep w' S' m' ∧ Rep w' S' r v ∧ Keep (fun g => m g ≠ none) w w' ∧ (∀ g b, m' g = some b → m g ≠ none ∨ w.heap.size ≤ g)

theorem calls_mono {P : Program} {n : FuncId} {args : Array Value} {w : World} {R R' : Ending → World → Prop} (h : Calls P n args w R) (hr : ∀ e w', R e w' → R' e w') : Calls P n args w R' :=
  fun cs => let ⟨e, w', fr, r, c, f, l⟩ := h cs; ⟨e, w', fr, hr _ _ r, c, f, l⟩
theorem Keep.mono {D D' : Nat → Prop} {w w' : World} (h : Keep D w w') (hd : ∀ b, D b → D' b) : Keep D' w w' := ⟨h.os, h.tape, h.output, h.size, fun b hb hn => h.block b hb (fun hdb => hn (hd b hdb))⟩
theorem PCall.w {P : Program} {n : FuncId} {args : List AV} {r : AV} (h : PCall P n args r) {m : Mem} {k : AV → Mem → Prop} (hk : k r m) : WCall P n args m k :=
  ⟨h.1, fun w S cargs hm hr => calls_mono (h.2 w S cargs m hm hr) fun e w' ⟨v, S', he, h1, h1b, h2, h3, h4⟩ =>
    ⟨v, r, m, S', he, hk, h1, (fun b hb => (h1b b hb).imp id .inr), h2, h3, h4.mono (fun _ h => h.elim), fun g b hg => .inl (by rw [hg]; simp)⟩⟩
theorem WCall.mono {P : Program} {n : FuncId} {args : List AV} {m : Mem} {k k' : AV → Mem → Prop} (h : WCall P n args m k) (hk : ∀ r m', k r m' → k' r m') : WCall P n args m k' :=
  ⟨h.1, fun w S cargs hm hr => calls_mono (h.2 w S cargs hm hr) fun e w' ⟨v, r, m', S', he, h1, h2⟩ => ⟨v, r, m', S', he, hk _ _ h1, h2⟩⟩

/-- What lies in one cell. -/
def okCell : AV → Bool
  | .undef | .agg _ | .tup _ => false
  | _ => true

/-- The cells of a store put into a block. -/
def storeA (m : Mem) (a : AV) (x : AV) : Option Mem :=
  match a with
  | .ptr g o => match m g with
    | some (.box cs) => if o + x.cells.length ≤ cs.length then some (m.set g (.box (cs.take o ++ x.cells ++ cs.drop (o + x.cells.length)))) else none
    | _ => none
  | .elt g e i o => match m g with
    | some (.arr T e' c xs) => if e = e' then match xs[i]? with
      | some y => if o = 0 ∧ x.cells.length = e then some (m.set g (.arr T e c (xs.set i x)))
        else match y with
          | .agg cs => if o + x.cells.length ≤ e then some (m.set g (.arr T e c (xs.set i (.agg (cs.take o ++ x.cells ++ cs.drop (o + x.cells.length)))))) else none
          | _ => none
      | none => none else none
    | _ => none
  | _ => none

/-- The elements of a literal, all told, in order. -/
def literalA (n : Nat) (parts : List (Nat × AV)) : Option (List AV) :=
  if parts.map (·.1) = List.range parts.length ∧ parts.all (fun p => (match p.2 with | .undef => false | _ => true) && (p.2.cells.length == n)) = true then some (parts.map (·.2)) else none

def zeroE (P : Program) (T : TypeId) : Option AV := match zeroT P T with | some .undef => none | z => z

/-- What a slice holds, where its elements have n cells. -/
def srcA (m : Mem) (n : Nat) : AV → Option (List AV)
  | .lst _ e xs => if e = n then some xs else if xs.isEmpty then some [] else none
  | .own g l _ => match m g with
    | some (.arr _ e _ xs) => if xs.length = l ∧ e = n then some xs else none
    | _ => none
  | _ => none
def bytesT (P : Program) (t : TypeId) : Option Nat := (P.info? t).map (·.bytes)
/-- Is a type's underlying one a whole number? -/
def isIntT (P : Program) (t : TypeId) : Option Bool := (P.underlying t).map fun | .int _ => true | _ => false

/-- What an append may come to: the elements, in this array or in a new one. -/
def appendW (P : Program) (m : Mem) (k : AV → Mem → Prop) (ts : Array TypeId) (s x : AV) : Prop :=
  match ts[0]?, ts[1]? with
  | some T, some U => isIntT P U = some false ∧ match elemT P T with
    | some E => match szT P E, bytesT P E, zeroE P E with
      | some n, some b, some z => n ≠ 0 ∧ b ≠ 0 ∧ z.cells.length = n ∧ match srcA m n x with
        | some ys => match s with
          | .lst true e xs => (e = n ∨ xs = []) ∧ (2 * (xs.length + ys.length) + 1024) * b ≤ 281474976710656 ∧
              (ys = [] → k (.lst true e xs) m) ∧ (ys ≠ [] → ∀ g c, m g = none → xs.length + ys.length ≤ c → k (.own g (xs.length + ys.length) c) (m.set g (.arr E n c (xs ++ ys))))
          | .own g l c => match m g with
            | some (.arr E' e c' xs) => E' = E ∧ e = n ∧ c' = c ∧ xs.length = l ∧ (∀ y ∈ ys, y.cells.all okCell = true) ∧ (2 * (xs.length + ys.length) + 1024) * b ≤ 281474976710656 ∧
              ∀ g' c', (g' = g ∨ m g' = none) → xs.length + ys.length ≤ c' → k (.own g' (xs.length + ys.length) c') (m.set g' (.arr E n c' (xs ++ ys)))
            | _ => False
          | _ => False
        | none => False
      | _, _, _ => False
    | none => False
  | _, _ => False

/-- What an operation that acts may come to. p: a call is told as one that only answers. -/
def WT (P : Program) (p : Bool) (m : Mem) (ev : Operand → AV) (k : AV → Mem → Prop) : Op → Prop
  | .alloc T => match zeroE P T with | some z => ∀ g, m g = none → k (.ptr g 0) (m.set g (.box z.cells)) | none => False
  | .box _ x => match ev x with | .undef => False | v => ∀ g, m g = none → k (.ptr g 0) (m.set g (.box v.cells))
  | .store T a x => match ev x with
    | .undef => False
    | v => match szT P T with
      | some n => v.cells.length = n ∧ v.cells.all okCell = true ∧ match storeA m (ev a) v with | some m' => k .undef m' | none => False
      | none => False
  | .buildSlice T len parts => match esz P T with
    | some n => len = parts.size ∧ len * n ≤ 16777216 ∧ n ≠ 0 ∧ (match elemT P T with | some E => (zeroE P E).isSome = true | none => False) ∧
      match literalA n (parts.toList.map fun q => (q.1, ev q.2)) with | some xs => k (.lst true n xs) m | none => False
    | none => False
  | .call c => match c.callee with
    | .value f => match ev f with
      | .func (.func n) caps =>
        if p then ∃ r, PCall P n (c.args.toList.map ev ++ caps) r ∧ k r m
        else WCall P n (c.args.toList.map ev ++ caps) m k
      | _ => False
    | .builtin .append => match c.args.toList with
      | [s, x] => appendW P m k c.argTypes (ev s) (ev x)
      | _ => False
    | _ => False
  | .makeSlice T l c => match ev l, ev c with
    | .int _ n, .int _ n' => match elemT P T with
      | some E => match szT P E, bytesT P E, zeroE P E with
        | some e, some b, some z => n = n' ∧ 0 ≤ n ∧ n * b ≤ 281474976710656 ∧ e ≠ 0 ∧ z.cells.length = e ∧ n ≤ 9223372036854775807 ∧
          ∀ g, m g = none → k (.own g n.toNat n.toNat) (m.set g (.arr E e n.toNat (List.replicate n.toNat z)))
        | _, _, _ => False
      | none => False
    | _, _ => False
  | _ => False
end Go.T
