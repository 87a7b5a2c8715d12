/- Parts of the proof of FnParsed: States, what a world has to do with them, calls. -/
import Derived.Test.YtdbnllfjmkmdiaaGreatDoorG0
import Derived.Laws.CopyRow
set_option linter.unusedSimpArgs false
set_option linter.unusedVariables false
namespace Go.T
open Go
def St.put (s : St) (d : Option Tmp) (v : AV) : St :=
 match d with
 | some d => { s with sl := fun t => if t = d then v else s.sl t }
 | none => s
structure Keep (D : Nat -> Prop) (w w' : World) : Prop where
 os : w'.os = w.os
 tape : w'.tape = w.tape
 output : w'.output = w.output
 size : w.heap.size <= w'.heap.size
 block : ∀ b, b < w.heap.size -> ¬ D b -> w'.heap[b]? = w.heap[b]?
theorem Keep.refl (D : Nat -> Prop) (w : World) : Keep D w w := ⟨rfl, rfl, rfl, Nat.le_refl _, fun _ _ _ => rfl⟩
theorem Keep.trans {D D' : Nat -> Prop} {a b c : World} (h : Keep D a b) (k : Keep D' b c) (hd : ∀ g, D' g -> D g ∨ a.heap.size <= g) : Keep D a c :=
 ⟨k.os.trans h.os, k.tape.trans h.tape, k.output.trans h.output, Nat.le_trans h.size k.size, fun b hb hn =>
  (k.block b (Nat.lt_of_lt_of_le hb h.size) (fun hd' => (hd b hd').elim hn (fun hle => absurd hb (by omega)))).trans (h.block b hb hn)⟩
theorem Keep.drew {D : Nat -> Prop} {a b : World} (h : Keep D a b) (n : Nat) : Keep D a { b with drawn := n } := ⟨h.os, h.tape, h.output, h.size, h.block⟩
structure Ctx where
 w0 : World
 D0 : Nat -> Prop
 S0 : Nat -> Prop
def SIn (C : Ctx) (S : Nat -> Prop) : Prop := (∀ b, C.S0 b -> S b) /\ ∀ b, S b -> C.S0 b ∨ C.D0 b ∨ C.w0.heap.size <= b
structure Rel (C : Ctx) (s : St) (a : Act) (w : World) : Prop where
 ex : ∃ S, SIn C S /\ zva w S s.mem /\ ∀ t, Rep w S (s.sl t) (a.tmps.getD t undef)
 defers : a.defers = []
 keep : Keep C.D0 C.w0 w
 dom : ∀ g b, s.mem g = some b -> C.D0 g ∨ C.w0.heap.size <= g
theorem ynb {S : Nat -> Prop} {s : St} {a : Act} {w : World} (h : ∀ t, Rep w S (s.sl t) (a.tmps.getD t undef)) (x : Operand) : Rep w S (s.eval x) (a.eval x) := by
 cases x with
 | tmp t => exact h t
 | const v => exact x0b w S v
 | global g => exact .undef _
 | func f => exact .func (.func f) .nil
theorem w4d {S : Nat -> Prop} {w : World} {s : St} {a : Act} (h : ∀ t, Rep w S (s.sl t) (a.tmps.getD t undef)) {d : Option Tmp} (hd : ∀ t, d = some t -> t < a.tmps.size) {v : AV} {u : Value} (hv : Rep w S v u) :
  ∀ t, Rep w S ((s.put d v).sl t) ((a.put d u).tmps.getD t undef) := by
 intro t;cases d with
 | none => exact h t
 | some d =>
  have hlt := hd d rfl;simp only [St.put, Act.put];by_cases e : t = d
  ·subst e;simp only [if_true];have : (a.tmps.setIfInBounds t u).getD t undef = u := by simp [Array.getD, hlt]
   rw [this]; exact hv
  simp only [if_neg e];have : (a.tmps.setIfInBounds d u).getD t undef = a.tmps.getD t undef := by
   rw [Array.getD_eq_getD_getElem?, Array.getD_eq_getD_getElem?, Array.getElem?_setIfInBounds_ne (Ne.symm e)]
  rw [this]; exact h t
theorem wHc (a : Act) (d : Option Tmp) (u : Value) : (a.put d u).defers = a.defers := by cases d <;> rfl
theorem yob (a : Act) (d : Option Tmp) (u : Value) : (a.put d u).tmps.size = a.tmps.size := by cases d <;> simp [Act.put]
theorem zIb (s : St) (d : Option Tmp) (v : AV) : (s.put d v).mem = s.mem := by cases d <;> rfl
def St.withMem (s : St) (m : Mem) : St := { s with mem := m }
theorem xka (s : St) (m : Mem) (d : Option Tmp) (v : AV) : (s.withMem m).put d v = (s.put d v).withMem m := by cases d <;> rfl
theorem Rel.step {C : Ctx} {s : St} {a : Act} {w w' : World} {S S' : Nat -> Prop} {m' : Mem} (h : Rel C s a w) (hS0 : SIn C S) (hslots : ∀ t, Rep w S (s.sl t) (a.tmps.getD t undef))
  (hSS : ∀ b, S b -> S' b) (hup : ∀ b, S' b -> S b ∨ s.mem b ≠ none ∨ w.heap.size <= b) (hst : Stays S w w') (hm : zva w' S' m') (hk : Keep (fun g => s.mem g ≠ none) w w') (hdom : ∀ g b, m' g = some b -> s.mem g ≠ none ∨ w.heap.size <= g)
  {d : Option Tmp} (hd : ∀ t, d = some t -> t < a.tmps.size) {v : AV} {u : Value} (hv : Rep w' S' v u) : Rel C ((s.put d v).withMem m') (a.put d u) w' := by
 have hD : ∀ g, s.mem g ≠ none -> C.D0 g ∨ C.w0.heap.size <= g := fun g hg => by
  cases hgb : s.mem g with
  | none => exact absurd hgb hg
  | some b => exact h.dom g b hgb
 refine ⟨⟨S', ⟨fun b hb => hSS b (hS0.1 b hb), fun b hb => ?_⟩, hm, ?_⟩, by rw [wHc]; exact h.defers, h.keep.trans hk hD, fun g b hg => ?_⟩
 ·rcases hup b hb with h1 | h1 | h1
  ·exact hS0.2 b h1
  ·exact .inr (hD b h1)
  exact .inr (.inr (Nat.le_trans h.keep.size h1))
 ·exact w4d (fun t => (hslots t).mono hst hSS) hd hv
 rcases hdom g b hg with h1 | h1
 ·exact hD g h1
 exact .inr (Nat.le_trans h.keep.size h1)
def y8a (P : Program) (n : FuncId) : Prop := ∃ fn, P.funcs[n]? = some fn /\ (fn.name == "runtime.NumGoroutine") = false /\ fn.body.isNone = false
def zca (P : Program) (n : FuncId) (args : List AV) (r : AV) : Prop :=
 y8a P n /\ ∀ w S cargs m, zva w S m -> Reps w S args cargs ->
  Calls P n cargs.toArray w fun e w' => ∃ v S', e = .returned v /\ (∀ b, S b -> S' b) /\ (∀ b, S' b -> S b ∨ w.heap.size <= b) /\ zva w' S' m /\ Rep w' S' r v /\ Keep (fun _ => False) w w'
def zka (P : Program) (n : FuncId) (args : List AV) (m : Mem) (k : AV -> Mem -> Prop) : Prop :=
 y8a P n /\ ∀ w S cargs, zva w S m -> Reps w S args cargs ->
  Calls P n cargs.toArray w fun e w' => ∃ v r m' S', e = .returned v /\ k r m' /\ (∀ b, S b -> S' b) /\ (∀ b, S' b -> S b ∨ m b ≠ none ∨ w.heap.size <= b) /\ zva w' S' m' /\ Rep w' S' r v /\ Keep (fun g => m g ≠ none) w w' /\ (∀ g b, m' g = some b -> m g ≠ none ∨ w.heap.size <= g)
theorem zma {P : Program} {n : FuncId} {args : Array Value} {w : World} {R R' : Ending -> World -> Prop} (h : Calls P n args w R) (hr : ∀ e w', R e w' -> R' e w') : Calls P n args w R' :=
 fun cs => let ⟨e, w', fr, r, c, f, l⟩ := h cs; ⟨e, w', fr, hr _ _ r, c, f, l⟩
theorem Keep.mono {D D' : Nat -> Prop} {w w' : World} (h : Keep D w w') (hd : ∀ b, D b -> D' b) : Keep D' w w' := ⟨h.os, h.tape, h.output, h.size, fun b hb hn => h.block b hb (fun hdb => hn (hd b hdb))⟩
theorem zca.w {P : Program} {n : FuncId} {args : List AV} {r : AV} (h : zca P n args r) {m : Mem} {k : AV -> Mem -> Prop} (hk : k r m) : zka P n args m k :=
 ⟨h.1, fun w S cargs hm hr => zma (h.2 w S cargs m hm hr) fun e w' ⟨v, S', he, h1, h1b, h2, h3, h4⟩ =>
  ⟨v, r, m, S', he, hk, h1, (fun b hb => (h1b b hb).imp id .inr), h2, h3, h4.mono (fun _ h => h.elim), fun g b hg => .inl (by rw [hg]; simp)⟩⟩
theorem zka.mono {P : Program} {n : FuncId} {args : List AV} {m : Mem} {k k' : AV -> Mem -> Prop} (h : zka P n args m k) (hk : ∀ r m', k r m' -> k' r m') : zka P n args m k' :=
 ⟨h.1, fun w S cargs hm hr => zma (h.2 w S cargs hm hr) fun e w' ⟨v, r, m', S', he, h1, h2⟩ => ⟨v, r, m', S', he, hk _ _ h1, h2⟩⟩
def zya : AV -> Bool
 | .undef | .agg _ | .tup _ => false
 | _ => true
def zKa (m : Mem) (a : AV) (x : AV) : Option Mem :=
 match a with
 | .ptr g o => match m g with
  | some (.box cs) => if o + x.cells.length <= cs.length then some (m.set g (.box (cs.take o ++ x.cells ++ cs.drop (o + x.cells.length)))) else none
  | _ => none
 | .elt g e i o => match m g with
  | some (.arr T e' c xs) => if e = e' then match xs[i]? with
   | some y => if o = 0 /\ x.cells.length = e then some (m.set g (.arr T e c (xs.set i x)))
    else match y with
     | .agg cs => if o + x.cells.length <= e then some (m.set g (.arr T e c (xs.set i (.agg (cs.take o ++ x.cells ++ cs.drop (o + x.cells.length)))))) else none
     | _ => none
   | none => none else none
  | _ => none
 | _ => none
def zda (n : Nat) (parts : List (Nat × AV)) : Option (List AV) :=
 if parts.map (·.1) = List.range parts.length /\ parts.all (fun p => (match p.2 with | .undef => false | _ => true) && (p.2.cells.length == n)) = true then some (parts.map (·.2)) else none
def zMa (P : Program) (T : TypeId) : Option AV := match yha P T with | some .undef => none | z => z
def wwa (m : Mem) (n : Nat) : AV -> Option (List AV)
 | .lst _ e xs => if e = n then some xs else if xs.isEmpty then some [] else none
 | .own g l _ => match m g with
  | some (.arr _ e _ xs) => if xs.length = l /\ e = n then some xs else none
  | _ => none
 | _ => none
def xua (P : Program) (t : TypeId) : Option Nat := (P.info? t).map (·.bytes)
def xva (P : Program) (t : TypeId) : Option Bool := (P.underlying t).map fun | .int _ => true | _ => false
def zNa (P : Program) (m : Mem) (k : AV -> Mem -> Prop) (ts : Array TypeId) (s x : AV) : Prop :=
 match ts[0]?, ts[1]? with
 | some T, some U => xva P U = some false /\ match y2a P T with
  | some E => match szT P E, xua P E, zMa P E with
   | some n, some b, some z => n ≠ 0 /\ b ≠ 0 /\ z.cells.length = n /\ match wwa m n x with
    | some ys => match s with
     | .lst true e xs => (e = n ∨ xs = []) /\ (2 * (xs.length + ys.length) + 1024) * b <= 281474976710656 /\
       (ys = [] -> k (.lst true e xs) m) /\ (ys ≠ [] -> ∀ g c, m g = none -> xs.length + ys.length <= c -> k (.own g (xs.length + ys.length) c) (m.set g (.arr E n c (xs ++ ys))))
     | .own g l c => match m g with
      | some (.arr E' e c' xs) => E' = E /\ e = n /\ c' = c /\ xs.length = l /\ (∀ y ∈ ys, y.cells.all zya = true) /\ (2 * (xs.length + ys.length) + 1024) * b <= 281474976710656 /\
       ∀ g' c', (g' = g ∨ m g' = none) -> xs.length + ys.length <= c' -> k (.own g' (xs.length + ys.length) c') (m.set g' (.arr E n c' (xs ++ ys)))
      | _ => False
     | _ => False
    | none => False
   | _, _, _ => False
  | none => False
 | _, _ => False
def WT (P : Program) (p : Bool) (m : Mem) (ev : Operand -> AV) (k : AV -> Mem -> Prop) : Op -> Prop
 | .alloc T => match zMa P T with | some z => ∀ g, m g = none -> k (.ptr g 0) (m.set g (.box z.cells)) | none => False
 | .box _ x => match ev x with | .undef => False | v => ∀ g, m g = none -> k (.ptr g 0) (m.set g (.box v.cells))
 | .store T a x => match ev x with
  | .undef => False
  | v => match szT P T with
   | some n => v.cells.length = n /\ v.cells.all zya = true /\ match zKa m (ev a) v with | some m' => k .undef m' | none => False
   | none => False
 | .buildSlice T len parts => match esz P T with
  | some n => len = parts.size /\ len * n <= 16777216 /\ n ≠ 0 /\ (match y2a P T with | some E => (zMa P E).isSome = true | none => False) /\
   match zda n (parts.toList.map fun q => (q.1, ev q.2)) with | some xs => k (.lst true n xs) m | none => False
  | none => False
 | .call c => match c.callee with
  | .value f => match ev f with
   | .func (.func n) caps =>
    if p then ∃ r, zca P n (c.args.toList.map ev ++ caps) r /\ k r m
    else zka P n (c.args.toList.map ev ++ caps) m k
   | _ => False
  | .builtin .append => match c.args.toList with
   | [s, x] => zNa P m k c.argTypes (ev s) (ev x)
   | _ => False
  | _ => False
 | .makeSlice T l c => match ev l, ev c with
  | .int _ n, .int _ n' => match y2a P T with
   | some E => match szT P E, xua P E, zMa P E with
    | some e, some b, some z => n = n' /\ 0 <= n /\ n * b <= 281474976710656 /\ e ≠ 0 /\ z.cells.length = e /\ n <= 9223372036854775807 /\
     ∀ g, m g = none -> k (.own g n.toNat n.toNat) (m.set g (.arr E e n.toNat (List.replicate n.toNat z)))
    | _, _, _ => False
   | none => False
  | _, _ => False
 | _ => False
section
variable {P : Program}
def Outs (P : Program) (w : World) (S : Nat -> Prop) (m : Mem) (x : Result Next) (k : AV -> Mem -> Prop) : Prop :=
 ∃ v u m' w' S', (x = .ok (.value u) w' ∨ (x = .ok .skip w' /\ u = undef)) /\ k v m' /\ ((∀ b, S b -> S' b) /\ ∀ b, S' b -> S b ∨ w.heap.size <= b) /\ Stays S w w' /\ zva w' S' m' /\ Keep (fun g => m g ≠ none) w w' /\ (∀ g b, m' g = some b -> m g ≠ none ∨ w.heap.size <= g) /\ Rep w' S' v u
def z6b (w : World) (o : Obj) : World := { w with heap := w.heap.push o }
theorem w7a (w : World) (o : Obj) (b : Nat) (h : b < w.heap.size) : (z6b w o).heap[b]? = w.heap[b]? := by
 show (w.heap.push o)[b]? = _;rw [Array.getElem?_push, if_neg (by omega)]
theorem x0a (w : World) (o : Obj) : (z6b w o).heap[w.heap.size]? = some o := by
 show (w.heap.push o)[w.heap.size]? = _;rw [Array.getElem?_push, if_pos rfl]
theorem w8a (w : World) (o : Obj) : (z6b w o).heap.size = w.heap.size + 1 := Array.size_push _
theorem yja {w : World} {S : Nat -> Prop} {m : Mem} (hm : zva w S m) (o : Obj) : Stays S w (z6b w o) := fun b hb => w7a w o b (hm.apart b hb).2
theorem xla (D : Nat -> Prop) (w : World) (o : Obj) : Keep D w (z6b w o) := ⟨rfl, rfl, rfl, by rw [w8a]; omega, fun b hb _ => w7a w o b hb⟩
theorem xga {w : World} {S : Nat -> Prop} {m : Mem} (hm : zva w S m) (o : Obj) {b : Blk} (hb : ypa (z6b w o) S w.heap.size b) : zva (z6b w o) S (m.set w.heap.size b) := by
 refine ⟨fun g c hg => ?_, fun b' hb' => ?_⟩
 ·by_cases e : g = w.heap.size
  ·subst e; rw [Mem.set_same] at hg; obtain rfl := Option.some.inj hg; exact hb
  rw [Mem.so e] at hg;have h := hm.blk g c hg;exact h.mono (yja hm o) (fun _ h => h) (w7a w o g h.lt)
 have h := hm.apart b' hb';refine ⟨?_, by rw [w8a]; omega⟩;rw [Mem.so (by omega)]; exact h.1
theorem xJa {w : World} {S : Nat -> Prop} {m : Mem} (hm : zva w S m) : m w.heap.size = none := by
 cases h : m w.heap.size with
 | none => rfl
 | some b => exact absurd (hm.blk _ _ h).lt (by omega)
theorem xwc {w : World} {S : Nat -> Prop} {m : Mem} (hm : zva w S m) {T : TypeId} {v : AV} {u : Value} (hv : Rep w S v u) (hu : v ≠ .undef) {k : AV -> Mem -> Prop} (hk : ∀ g, m g = none -> k (.ptr g 0) (m.set g (.box v.cells)))
  {x : Sem Value} (hx : x.run P w = .ok (.pointer (some ⟨w.heap.size, 0, none⟩)) (z6b w (.cells u.cells T))) : Outs P w S m (((do pure (.value (<- x))) : Sem Next).run P w) k := by
 refine ⟨.ptr w.heap.size 0, _, m.set w.heap.size (.box v.cells), z6b w (.cells u.cells T), S, .inl (xZa hx), hk _ (xJa hm), ⟨fun _ h => h, fun _ h => .inl h⟩, yja hm _, xga hm _ ?_, xla _ _ _, ?_, .ptr _ _⟩
 ·refine ⟨T, u.cells.toList, ?_, (hv.cells hu).mono (yja hm _) (fun _ h => h)⟩;rw [x0a]
 intro g b hg;by_cases e : g = w.heap.size
 ·exact .inr (by omega)
 rw [Mem.so e] at hg; exact .inl (by rw [hg]; simp)
theorem xha {w : World} {S : Nat -> Prop} {T : TypeId} {z : AV} (h : zMa P T = some z) : z ≠ .undef /\ ∃ v, (zeroValue T).run P w = .ok v w /\ Rep w S z v := by
 unfold zMa at h;split at h
 ·cases h
 rename_i hz
 refine ⟨?_, x6b h⟩;rintro rfl; exact hz h
theorem wIc {w : World} {S : Nat -> Prop} {a : AV} {v : Value} (h : Rep w S a v) (ha : zya a = true) : v.oneCell' = true := by
 cases h <;> first | rfl | (cases ha; done)
theorem yPb {w : World} {S : Nat -> Prop} {as : List AV} {vs : List Value} (h : Reps w S as vs) (ha : as.all zya = true) : ∀ v ∈ vs, v.oneCell' = true := by
 induction as generalizing vs with
 | nil => cases h; simp
 | cons a as ih =>
  cases h with
  | cons h t =>
   simp only [List.all_cons, Bool.and_eq_true] at ha;intro v hv;rcases List.mem_cons.1 hv with rfl | hv
   ·exact wIc h ha.1
   exact ih t ha.2 v hv
theorem yQb {w : World} {T : TypeId} {g o : Nat} {u : Value} {cur : Array Value} {t : TypeId} (hs : szT P T = some u.cells.size) (hg : w.heap[g]? = some (.cells cur t (0, 0))) (hl : o + u.cells.size <= cur.size) (h1 : ∀ v ∈ u.cells.toList, v.oneCell' = true) :
  (Instr.storeAt T (.pointer (some ⟨g, o, none⟩)) u).run P w = .ok () (w.setRow g (cur.toList.take o ++ u.cells.toList ++ cur.toList.drop (o + u.cells.size)).toArray) := by
 have h := run_storeCells_at P g o t u.cells.toList 0 cur w hg (by simpa using hl) h1;simp only [Instr.storeAt, Instr.sureAddr, pure_bind, storeVar, Sem.run_bind, z7a hs, Result.andThen_ok];rw [if_neg (by simp)];simpa using h
theorem zJb {w : World} {S : Nat -> Prop} {m : Mem} (hm : zva w S m) {g : Nat} {b0 b : Blk} (hg0 : m g = some b0) {cs : Array Value} (hb : ypa (w.setRow g cs) S g b) : zva (w.setRow g cs) S (m.set g b) /\ Stays S w (w.setRow g cs) := by
 have hst : Stays S w (w.setRow g cs) := fun b' hb' => setRow_other w g b' cs (by rintro rfl; have := (hm.apart _ hb').1; rw [hg0] at this; cases this);refine ⟨⟨fun k c hk => ?_, fun b' hb' => ?_⟩, hst⟩
 ·by_cases e : k = g
  ·subst e; rw [Mem.set_same] at hk; obtain rfl := Option.some.inj hk; exact hb
  rw [Mem.so e] at hk;exact (hm.blk k c hk).mono hst (fun _ h => h) (setRow_other w g k cs e)
 have h := hm.apart b' hb';refine ⟨?_, by rw [setRow_size]; exact h.2⟩;rw [Mem.so (by rintro rfl; rw [hg0] at h; cases h.1)]; exact h.1
theorem z7e {x : Sem Unit} {w w' : World} (h : x.run P w = .ok () w') : ((do x; pure .skip) : Sem Next).run P w = .ok .skip w' := by
 rw [zEa h]; rfl
theorem ypb {e : Nat} : ∀ {xs : List AV}, (∀ x ∈ xs, x.cells.length = e) -> ∀ {i : Nat} {y : AV}, i < xs.length -> y.cells.length = e -> flat (xs.set i y) = (flat xs).take (i * e) ++ y.cells ++ (flat xs).drop (i * e + e)
 | [], _, i, y, hi, _ => by simp at hi
 | x :: xs, he, i, y, hi, hy => by
  have hx : x.cells.length = e := he x (by simp);cases i with
  | zero =>
   show y.cells ++ flat xs = (x.cells ++ flat xs).take (0 * e) ++ y.cells ++ (x.cells ++ flat xs).drop (0 * e + e);simp [<- hx]
  | succ i =>
   have ih := ypb (xs := xs) (fun z hz => he z (by simp [hz])) (i := i) (y := y) (by simpa using hi) hy;show x.cells ++ flat (xs.set i y) = (x.cells ++ flat xs).take ((i + 1) * e) ++ y.cells ++ (x.cells ++ flat xs).drop ((i + 1) * e + e);have h1 : (i + 1) * e = e + i * e := by rw [Nat.add_mul, Nat.one_mul, Nat.add_comm]
   have h2 : x.cells.take (e + i * e) = x.cells := List.take_of_length_le (by omega);have h3 : x.cells.drop (e + (i * e + e)) = [] := List.drop_of_length_le (by omega);have h4 : e + i * e + e = e + (i * e + e) := by omega
   rw [ih, h1, h4, List.take_append, List.drop_append, h2, h3, hx, Nat.add_sub_cancel_left, Nat.add_sub_cancel_left];simp
theorem w5d {w : World} {S : Nat -> Prop} {e : Nat} {xs : List AV} {vs : List Value} (h : Reps w S (flat xs) vs) (he : ∀ x ∈ xs, x.cells.length = e) {i : Nat} (hi : i < xs.length) : i * e + e <= vs.length := by
 have h1 := wva he;have h2 := h.length;have h3 : (i + 1) * e <= xs.length * e := Nat.mul_le_mul_right e hi;rw [Nat.add_mul, Nat.one_mul] at h3;omega
theorem yNc {w : World} {S : Nat -> Prop} {m m' : Mem} (hm : zva w S m) {T : TypeId} {a x : AV} {va vx : Value} (ha : Rep w S a va) (hx : Rep w S x vx) (hu : x ≠ .undef) (hs : szT P T = some x.cells.length) (hok : x.cells.all zya = true)
  (h : zKa m a x = some m') {k : AV -> Mem -> Prop} (hk : k .undef m') : Outs P w S m (((do Instr.storeAt T va vx; pure .skip) : Sem Next).run P w) k := by
 have hxc := hx.cells hu;have hlen : x.cells.length = vx.cells.size := by simpa using hxc.length
 rw [hlen] at hs;have h1 := yPb hxc hok;cases a with
 | ptr g o =>
  cases ha;simp only [zKa] at h;split at h
  ·rename_i cs hg
   split at h
   ·rename_i hle
    obtain rfl := Option.some.inj h;obtain ⟨t, vs, hb, hr⟩ := hm.blk _ _ hg;have hvl := hr.length;have hrun := yQb (P := P) (o := o) hs hb (by simp; omega) h1;obtain ⟨hm', hst⟩ := zJb hm (b := .box (cs.take o ++ x.cells ++ cs.drop (o + x.cells.length))) hg (cs := (vs.take o ++ vx.cells.toList ++ vs.drop (o + vx.cells.size)).toArray) ⟨t, _, by rw [setRow_heap _ _ _ _ _ _ hb], by
     have hst : Stays S w (w.setRow g (vs.take o ++ vx.cells.toList ++ vs.drop (o + vx.cells.size)).toArray) := fun b' hb' => setRow_other w g b' _ (by rintro rfl; have := (hm.apart _ hb').1; rw [hg] at this; cases this);have := (((hr.take o).append hxc).append (hr.drop (o + vx.cells.size))).mono hst (fun _ h => h)
     rwa [hlen]⟩
    refine ⟨.undef, undef, _, _, S, .inr ⟨z7e (by simpa using hrun), rfl⟩, hk, ⟨fun _ h => h, fun _ h => .inl h⟩, hst, hm', ⟨rfl, rfl, rfl, by simp, fun b hb hn => setRow_other _ _ _ _ (by rintro rfl; exact hn (by rw [hg]; simp))⟩, ?_, .undef _⟩;intro g' b' hg';by_cases e : g' = g
    ·subst e; exact .inl (by rw [hg]; simp)
    rw [Mem.so e] at hg'; exact .inl (by rw [hg']; simp)
   cases h
  cases h
 | elt g e i o =>
  cases ha;simp only [zKa] at h;split at h
  ·rename_i t e' c xs hg
   split at h
   ·rename_i hee
    subst hee;split at h
    ·rename_i y hy
     have hi := (List.getElem?_eq_some_iff.1 hy).1;obtain ⟨vs, us, hb, hr, hlv, he, hle⟩ := hm.blk _ _ hg;have hye : y.cells.length = e := he y (List.mem_of_getElem? hy);have hcell := w5d hr he hi
     -- the common end: an element turned into z, the cells from o on written
     have fin : ∀ z : AV, z.cells.length = e -> o + x.cells.length <= e -> flat (xs.set i z) = (flat xs).take (i * e + o) ++ x.cells ++ (flat xs).drop (i * e + o + x.cells.length) ->
       m' = m.set g (.arr t e c (xs.set i z)) -> Outs P w S m (((do Instr.storeAt T (.pointer (some ⟨g, i * e + o, none⟩)) vx; pure .skip) : Sem Next).run P w) k := by
      rintro z hz hoe hfl rfl;have hrun := yQb (P := P) (o := i * e + o) hs hb (by simp; omega) h1;have hst : Stays S w (w.setRow g (((vs ++ us).take (i * e + o)) ++ vx.cells.toList ++ (vs ++ us).drop (i * e + o + vx.cells.size)).toArray) := fun b' hb' => setRow_other w g b' _ (by rintro rfl; have := (hm.apart _ hb').1; rw [hg] at this; cases this);have e1 : ((vs ++ us).take (i * e + o)) ++ vx.cells.toList ++ (vs ++ us).drop (i * e + o + vx.cells.size) = (vs.take (i * e + o) ++ vx.cells.toList ++ vs.drop (i * e + o + vx.cells.size)) ++ us := by
       rw [List.take_append_of_le_length (by omega), List.drop_append_of_le_length (by omega)];simp
      obtain ⟨hm', hst⟩ := zJb hm (b := .arr t e c (xs.set i z)) hg (cs := (((vs ++ us).take (i * e + o)) ++ vx.cells.toList ++ (vs ++ us).drop (i * e + o + vx.cells.size)).toArray) ⟨vs.take (i * e + o) ++ vx.cells.toList ++ vs.drop (i * e + o + vx.cells.size), us, by rw [setRow_heap _ _ _ _ _ _ hb, e1], by
       rw [hfl, hlen];exact (((hr.take _).append hxc).append (hr.drop _)).mono hst (fun _ h => h), by
       rw [<- hlv]; simp; omega, by
       intro q hq;rcases List.mem_or_eq_of_mem_set hq with hq | rfl
       ·exact he q hq
       exact hz, by simpa using hle⟩
      refine ⟨.undef, undef, _, _, S, .inr ⟨z7e (by simpa using hrun), rfl⟩, hk, ⟨fun _ h => h, fun _ h => .inl h⟩, hst, hm', ⟨rfl, rfl, rfl, by simp, fun b hb hn => setRow_other _ _ _ _ (by rintro rfl; exact hn (by rw [hg]; simp))⟩, ?_, .undef _⟩;intro g' b' hg';by_cases e : g' = g
      ·subst e; exact .inl (by rw [hg]; simp)
      rw [Mem.so e] at hg'; exact .inl (by rw [hg']; simp)
     split at h
     ·rename_i hcond
      obtain ⟨rfl, hxe⟩ := hcond;refine fin x hxe (by omega) ?_ (Option.some.inj h).symm;rw [ypb he hi hxe, hxe]; simp
     split at h
     ·rename_i cs
      split at h
      ·rename_i hoe
       have hcs : cs.length = e := hye;have hz : (AV.agg (cs.take o ++ x.cells ++ cs.drop (o + x.cells.length))).cells.length = e := by
        show (cs.take o ++ x.cells ++ cs.drop (o + x.cells.length)).length = e;simp only [List.length_append, List.length_take, List.length_drop]; omega
       refine fin _ hz hoe ?_ (Option.some.inj h).symm;rw [ypb he hi hz];have hyy : xs[i] = .agg cs := by have := List.getElem?_eq_getElem hi; rw [this] at hy; exact Option.some.inj hy
       have hself := ypb he hi hye;have hxs : xs.set i (.agg cs) = xs := by rw [<- hyy]; exact List.set_getElem_self hi
       rw [hxs] at hself;have hfl := wva he;have hrl := hr.length;have hlt : ((flat xs).take (i * e)).length = i * e := by rw [List.length_take]; omega
       generalize hA : (flat xs).take (i * e) = A at *;generalize hB : (flat xs).drop (i * e + e) = B at *;have hself' : flat xs = A ++ (cs ++ B) := by rw [<- List.append_assoc]; exact hself
       have q1 : (flat xs).take (i * e + o) = A ++ cs.take o := by
        rw [hself', List.take_append, hlt, List.take_of_length_le (by omega), Nat.add_sub_cancel_left, List.take_append_of_le_length (by omega)]
       have q2 : (flat xs).drop (i * e + o + x.cells.length) = cs.drop (o + x.cells.length) ++ B := by
        have h5 : i * e + o + x.cells.length = i * e + (o + x.cells.length) := by omega
        rw [hself', h5, List.drop_append, hlt, List.drop_of_length_le (by omega), Nat.add_sub_cancel_left, List.drop_append_of_le_length (by omega), List.nil_append]
       rw [q1, q2];simp [AV.cells]
      cases h
     cases h
    cases h
   cases h
  cases h
 | _ => cases h
end
section
variable {P : Program}
theorem wLb {w : World} {S : Nat -> Prop} {m : Mem} (hm : zva w S m) (o : Obj) : zva (z6b w o) (fun b => S b ∨ b = w.heap.size) m :=
 ⟨fun g c hg => (hm.blk g c hg).mono (yja hm o) (fun _ h => .inl h) (w7a w o g (hm.blk g c hg).lt), fun b hb => by
  rcases hb with hb | rfl
  ·exact ⟨(hm.apart b hb).1, by rw [w8a]; have := (hm.apart b hb).2; omega⟩
  ·exact ⟨xJa hm, by rw [w8a]; omega⟩⟩
theorem xia {T E : TypeId} (h : y2a P T = some E) : P.underlying T = some (.slice E) := by
 unfold y2a at h;split at h
 ·rename_i e hu; obtain rfl := Option.some.inj h; exact hu
 ·cases h
theorem zKb (f : Nat -> Value) : Array.map f (Array.range 0) = #[] := by
 apply Array.eq_empty_of_size_eq_zero; simp
theorem wMb {e : Nat} : ∀ (xs : List Value) (k : Nat) (pre post : List Value), (∀ x ∈ xs, x.cells.size = e) -> pre.length = k * e -> post.length = xs.length * e ->
  Instr.fill (fun i => some (i * e, e)) (pre ++ post).toArray ((xs.zipIdx k).map fun x => (x.2, x.1)) = some (pre ++ (xs.flatMap fun x => x.cells.toList)).toArray
 | [], k, pre, post, _, hp, hq => by
  have : post = [] := List.eq_nil_of_length_eq_zero (by simpa using hq);subst this;simp [Instr.fill]
 | x :: xs, k, pre, post, he, hp, hq => by
  have hx := he x (by simp);simp only [List.zipIdx_cons, List.map_cons, Instr.fill];have hq' : post.length = e + xs.length * e := by rw [hq]; simp [Nat.add_mul]; omega
  rw [if_neg (by simp; omega)];have hf := ztc x.cells.toList (k * e) 0 (pre ++ post).toArray (by simp; omega);have hxl : x.cells.toList.length = e := by simpa using hx
  have h1 : (pre ++ post).take (k * e + 0) = pre := by rw [Nat.add_zero, <- hp]; simp
  have h2 : (pre ++ post).drop (k * e + 0 + x.cells.toList.length) = post.drop e := by rw [Nat.add_zero, hxl, <- hp]; simp
  have he' : (x.cells.zipIdx.foldl (fun cs (x : Value × Nat) => cs.setIfInBounds (k * e + x.2) x.1) (pre ++ post).toArray) = ((pre ++ x.cells.toList) ++ post.drop e).toArray := by
   apply Array.ext';rw [<- Array.foldl_toList, Array.toList_zipIdx, hf];show List.take (k * e + 0) (pre ++ post) ++ _ ++ List.drop (k * e + 0 + x.cells.toList.length) (pre ++ post) = _;rw [h1, h2]
  have ih := wMb (e := e) xs (k + 1) (pre ++ x.cells.toList) (post.drop e) (fun y hy => he y (by simp [hy])) (by simp [hp, hx, Nat.add_mul]) (by rw [List.length_drop]; omega);refine (congrArg (fun z => Instr.fill (fun i => some (i * e, e)) z ((xs.zipIdx (k + 1)).map fun x => (x.2, x.1))) he').trans ?_;rw [ih]; simp
theorem z7b {n : Nat} {parts : List (Nat × AV)} {xs : List AV} (h : zda n parts = some xs) :
  xs = parts.map (·.2) /\ parts = (xs.zipIdx 0).map (fun x => (x.2, x.1)) /\ (∀ x ∈ xs, x.cells.length = n /\ x ≠ .undef) := by
 unfold zda at h;split at h
 ·rename_i hc
  obtain ⟨h1, h2⟩ := hc;obtain rfl := Option.some.inj h;refine ⟨rfl, ?_, ?_⟩
  ·apply List.ext_getElem
   ·simp
   ·intro i h3 h4;have h5 : (parts.map (·.1))[i]'(by simpa using h3) = (List.range parts.length)[i]'(by simpa using h3) := by simp [h1]
    simp at h5;simp;exact Prod.ext h5 rfl
  ·intro x hx;obtain ⟨p, hp, rfl⟩ := List.mem_map.1 hx;have := List.all_eq_true.1 h2 p hp;simp only [Bool.and_eq_true, beq_iff_eq] at this;refine ⟨this.2, ?_⟩;intro hu;rw [hu] at this;simp at this
 ·cases h
theorem yRb {w : World} {S : Nat -> Prop} : ∀ {xs : List AV} {vs : List Value}, Reps w S xs vs -> (∀ x ∈ xs, x ≠ .undef) -> Reps w S (flat xs) (vs.flatMap fun v => v.cells.toList)
 | [], vs, h, _ => by cases h; exact .nil
 | x :: xs, vs, h, hu => by
  cases h with
  | cons h t => exact (h.cells (hu x (by simp))).append (yRb t (fun y hy => hu y (by simp [hy])))
theorem xxc {ev : Operand -> AV} {ρ : Operand -> Value} {w : World} {S : Nat -> Prop} (hev : ∀ x, Rep w S (ev x) (ρ x)) (parts : List (Nat × Operand)) : Reps w S (parts.map fun q => ev q.2) (parts.map fun q => ρ q.2) := by
 induction parts with
 | nil => exact .nil
 | cons p l ih => exact .cons (hev p.2) ih
theorem yfb {w : World} {S : Nat -> Prop} {m : Mem} (hm : zva w S m) {T E : TypeId} {n : Nat} (hE : y2a P T = some E) (hn : szT P E = some n) {parts : Array (Nat × Operand)} {ev : Operand -> AV} {ρ : Operand -> Value}
  (hev : ∀ x, Rep w S (ev x) (ρ x)) {xs : List AV} (hl : zda n (parts.toList.map fun q => (q.1, ev q.2)) = some xs) (hlim : parts.size * n <= 16777216) (hn0 : n ≠ 0) {z : AV} (hz : zMa P E = some z) {k : AV -> Mem -> Prop} (hk : k (.lst true n xs) m) :
  Outs P w S m (((do pure (.value (<- Instr.buildSlice T parts.size (parts.map fun (i, x) => (i, ρ x))))) : Sem Next).run P w) k := by
 obtain ⟨hxs, hparts, hall⟩ := z7b hl;have hlen : xs.length = parts.size := by rw [hxs]; simp
 obtain ⟨hzu, zv, hzr, hzrep⟩ := xha (w := w) (S := S) hz;have hxe : xs = parts.toList.map fun q => ev q.2 := by rw [hxs]; simp
 have hreps : Reps w S xs (parts.toList.map fun q => ρ q.2) := by rw [hxe]; exact xxc hev _
 generalize hvs : (parts.toList.map fun q => ρ q.2) = vs at *;have hvp : (parts.map fun (i, x) => (i, ρ x)).toList = (vs.zipIdx 0).map fun x => (x.2, x.1) := by
  have h1 : parts.toList.map (fun q => q.1) = List.range parts.size := by
   unfold zda at hl;split at hl
   ·rename_i hc; have := hc.1; simpa [List.map_map, Function.comp_def] using this
   ·cases hl
  apply List.ext_getElem
  ·simp [<- hvs]
  ·intro i h3 h4;have h5 : (parts.toList.map (fun q => q.1))[i]'(by simpa using h3) = (List.range parts.size)[i]'(by simpa using h3) := by simp only [h1]
   simp at h5;simp [<- hvs, h5]
 have hsz : ∀ v ∈ vs, v.cells.size = n := by
  intro v hv;obtain ⟨i, hi, hvi⟩ := List.getElem_of_mem hv;have hl2 := hreps.length;have hxi : xs[i]? = some (xs[i]'(by omega)) := List.getElem?_eq_getElem (by omega);obtain ⟨u, hu1, hu2⟩ := hreps.get i _ hxi;have : u = v := by rw [List.getElem?_eq_getElem hi, hvi] at hu1; exact (Option.some.inj hu1).symm
  subst this;have h3 := hall _ (List.mem_of_getElem? hxi);have h4 := (hu2.cells h3.2).length;simp at h4; omega
 have hfill := wMb (e := n) vs 0 [] ((Array.range (parts.size * n)).map (zv.cells[· % zv.cells.size]!)).toList hsz (by simp) (by simp [<- hreps.length, hlen]);simp only [List.nil_append] at hfill;have hrun : (Instr.buildSlice T parts.size (parts.map fun (i, x) => (i, ρ x))).run P w = .ok (.slice (some ⟨w.heap.size, 0, none⟩) parts.size parts.size) (z6b w (.cells (vs.flatMap fun v => v.cells.toList).toArray E)) := by
  unfold Instr.buildSlice;rw [zEa (zna (xia hE) w)];simp only [Sem.run_bind, z7a hn, Result.andThen_ok];rw [if_neg (by omega)];by_cases h0 : parts.size * n = 0
  ·have hp0 : parts.size = 0 := by
    rcases Nat.mul_eq_zero.1 h0 with h | h
    ·exact h
    ·exact absurd h hn0
   have hv0 : vs = [] := by
    have := hreps.length;exact List.eq_nil_of_length_eq_zero (by omega)
   subst hv0;have hpe : parts = #[] := Array.size_eq_zero_iff.1 hp0;subst hpe;simp [Instr.fill, newRow, z6b, run_newObj, zKb]
  ·rw [if_neg h0];simp only [Sem.run_bind, hzr, Result.andThen_ok, Sem.run_pure];have hf2 : Instr.fill (fun i => some (i * n, n)) (Array.map (fun x => zv.cells[x % zv.cells.size]!) (Array.range (parts.size * n))) (parts.map fun (i, x) => (i, ρ x)).toList = some (vs.flatMap fun v => v.cells.toList).toArray := by
    rw [hvp]; rw [Array.toArray_toList] at hfill; exact hfill
   simp only [hf2, newRow, Sem.run_bind, run_newObj, Result.andThen_ok, Sem.run_pure];rfl
 refine ⟨_, _, m, _, fun b => S b ∨ b = w.heap.size, .inl (xZa hrun), hk, ⟨fun b h => .inl h, fun b h => h.imp id (fun e => by omega)⟩, yja hm _, wLb hm _, xla _ _ _, fun g b hg => .inl (by rw [hg]; simp), ?_⟩;rw [<- hlen];have hst := yja (w := w) hm (.cells (vs.flatMap fun v => v.cells.toList).toArray E);exact .lst true n w.heap.size 0 _ (.inr rfl) (fun x hx => (hall x hx).1) (Nat.le_refl _) (fun _ => rfl)
  (Cells.of_block (x0a w _) ((yRb hreps (fun x hx => (hall x hx).2)).mono hst (fun _ h => .inl h)) 0 (fun i v hv => by simpa using hv))
theorem xHb {w : World} {S : Nat -> Prop} {m : Mem} (hm : zva w S m) {T E : TypeId} {n : Nat} (hE : y2a P T = some E) (hn : szT P E = some n) {parts : Array (Nat × Operand)} {ev : Operand -> AV} {ρ : Operand -> Value}
  (hev : ∀ x, Rep w S (ev x) (ρ x)) {xs : List AV} (hl : zda n (parts.toList.map fun q => (q.1, ev q.2)) = some xs) (hlim : parts.size * n <= 16777216) (hn0 : n ≠ 0) {z : AV} (hz : zMa P E = some z) :
  ∃ vs : List Value, Reps w S xs vs /\ (∀ x ∈ xs, x.cells.length = n /\ x ≠ .undef) /\ (∀ v ∈ vs, v.cells.size = n) /\ xs.length = parts.size /\ (Instr.buildSlice T parts.size (parts.map fun (i, x) => (i, ρ x))).run P w = .ok (.slice (some ⟨w.heap.size, 0, none⟩) parts.size parts.size) (z6b w (.cells (vs.flatMap fun v => v.cells.toList).toArray E)) := by
 obtain ⟨hxs, hparts, hall⟩ := z7b hl;have hlen : xs.length = parts.size := by rw [hxs]; simp
 obtain ⟨hzu, zv, hzr, hzrep⟩ := xha (w := w) (S := S) hz;have hxe : xs = parts.toList.map fun q => ev q.2 := by rw [hxs]; simp
 have hreps : Reps w S xs (parts.toList.map fun q => ρ q.2) := by rw [hxe]; exact xxc hev _
 generalize hvs : (parts.toList.map fun q => ρ q.2) = vs at *;have hvp : (parts.map fun (i, x) => (i, ρ x)).toList = (vs.zipIdx 0).map fun x => (x.2, x.1) := by
  have h1 : parts.toList.map (fun q => q.1) = List.range parts.size := by
   unfold zda at hl;split at hl
   ·rename_i hc; have := hc.1; simpa [List.map_map, Function.comp_def] using this
   ·cases hl
  apply List.ext_getElem
  ·simp [<- hvs]
  ·intro i h3 h4;have h5 : (parts.toList.map (fun q => q.1))[i]'(by simpa using h3) = (List.range parts.size)[i]'(by simpa using h3) := by simp only [h1]
   simp at h5;simp [<- hvs, h5]
 have hsz : ∀ v ∈ vs, v.cells.size = n := by
  intro v hv;obtain ⟨i, hi, hvi⟩ := List.getElem_of_mem hv;have hl2 := hreps.length;have hxi : xs[i]? = some (xs[i]'(by omega)) := List.getElem?_eq_getElem (by omega);obtain ⟨u, hu1, hu2⟩ := hreps.get i _ hxi;have : u = v := by rw [List.getElem?_eq_getElem hi, hvi] at hu1; exact (Option.some.inj hu1).symm
  subst this;have h3 := hall _ (List.mem_of_getElem? hxi);have h4 := (hu2.cells h3.2).length;simp at h4; omega
 have hfill := wMb (e := n) vs 0 [] ((Array.range (parts.size * n)).map (zv.cells[· % zv.cells.size]!)).toList hsz (by simp) (by simp [<- hreps.length, hlen]);simp only [List.nil_append] at hfill;have hrun : (Instr.buildSlice T parts.size (parts.map fun (i, x) => (i, ρ x))).run P w = .ok (.slice (some ⟨w.heap.size, 0, none⟩) parts.size parts.size) (z6b w (.cells (vs.flatMap fun v => v.cells.toList).toArray E)) := by
  unfold Instr.buildSlice;rw [zEa (zna (xia hE) w)];simp only [Sem.run_bind, z7a hn, Result.andThen_ok];rw [if_neg (by omega)];by_cases h0 : parts.size * n = 0
  ·have hp0 : parts.size = 0 := by
    rcases Nat.mul_eq_zero.1 h0 with h | h
    ·exact h
    ·exact absurd h hn0
   have hv0 : vs = [] := by
    have := hreps.length;exact List.eq_nil_of_length_eq_zero (by omega)
   subst hv0;have hpe : parts = #[] := Array.size_eq_zero_iff.1 hp0;subst hpe;simp [Instr.fill, newRow, z6b, run_newObj, zKb]
  ·rw [if_neg h0];simp only [Sem.run_bind, hzr, Result.andThen_ok, Sem.run_pure];have hf2 : Instr.fill (fun i => some (i * n, n)) (Array.map (fun x => zv.cells[x % zv.cells.size]!) (Array.range (parts.size * n))) (parts.map fun (i, x) => (i, ρ x)).toList = some (vs.flatMap fun v => v.cells.toList).toArray := by
    rw [hvp]; rw [Array.toArray_toList] at hfill; exact hfill
   simp only [hf2, newRow, Sem.run_bind, run_newObj, Result.andThen_ok, Sem.run_pure];rfl
 exact ⟨vs, hreps, hall, hsz, hlen, hrun⟩
theorem xIb {w : World} {S : Nat -> Prop} {m : Mem} (hm : zva w S m) {T E : TypeId} {n : Nat} (hE : y2a P T = some E) (hn : szT P E = some n) {parts : Array (Nat × Operand)} {ev : Operand -> AV} {ρ : Operand -> Value}
  (hev : ∀ x, Rep w S (ev x) (ρ x)) {xs : List AV} (hl : zda n (parts.toList.map fun q => (q.1, ev q.2)) = some xs) (hlim : parts.size * n <= 16777216) (hn0 : n ≠ 0) {z : AV} (hz : zMa P E = some z) {k : AV -> Mem -> Prop} (hk : ∀ g, m g = none -> k (.own g parts.size parts.size) (m.set g (.arr E n parts.size xs))) :
  Outs P w S m (((do pure (.value (<- Instr.buildSlice T parts.size (parts.map fun (i, x) => (i, ρ x))))) : Sem Next).run P w) k := by
 obtain ⟨vs, hreps, hall, hsz, hlen, hrun⟩ := xHb hm hE hn hev hl hlim hn0 hz;have hst := yja (w := w) hm (.cells (vs.flatMap fun v => v.cells.toList).toArray E);refine ⟨_, _, m.set w.heap.size (.arr E n parts.size xs), _, S, .inl (xZa hrun), hk _ (xJa hm), ⟨fun _ h => h, fun _ h => .inl h⟩, hst, xga hm _ ?_, xla _ _ _, fun g b hg => ?_, .own _ _ _⟩
 ·have hr := (yRb hreps (fun x hx => (hall x hx).2)).mono hst (fun _ h => h);refine ⟨vs.flatMap fun v => v.cells.toList, [], by rw [x0a]; simp, hr, ?_, fun x hx => (hall x hx).1, by omega⟩;have h1 := hr.length;have h2 : (flat xs).length = xs.length * n := by
   have : ∀ l : List AV, (∀ x ∈ l, x.cells.length = n) -> (flat l).length = l.length * n := fun l => by
    induction l with
    | nil => intro _; simp [flat]
    | cons x l ih =>
     intro hl;have := ih fun y hy => hl y (List.mem_cons_of_mem _ hy);have hx := hl x (List.mem_cons_self ..);show (x.cells ++ flat l).length = _;rw [List.length_append, this, hx, List.length_cons, Nat.add_mul, Nat.one_mul, Nat.add_comm]
   exact this xs fun x hx => (hall x hx).1
  simp only [List.append_nil];rw [<- h1, h2, hlen]
 ·by_cases e : g = w.heap.size
  ·exact .inr (by omega)
  ·rw [Mem.so e] at hg; exact .inl (by rw [hg]; simp)
theorem zwc {T : TypeId} {n b : Nat} (h1 : szT P T = some n) (h2 : xua P T = some b) : ∃ i, P.info? T = some i /\ i.size = n /\ i.bytes = b := by
 unfold szT at h1; unfold xua at h2;cases hi : P.info? T with
 | none => rw [hi] at h1; cases h1
 | some i =>
  rw [hi] at h1 h2;exact ⟨i, rfl, by simpa using h1, by simpa using h2⟩
theorem wJc {w : World} {S : Nat -> Prop} {z : AV} {zv : Value} (h : Reps w S z.cells zv.cells.toList) (hz : z.cells.length ≠ 0) (k : Nat) : Reps w S (flat (List.replicate k z)) ((Array.range (k * zv.cells.size)).map (zv.cells[· % zv.cells.size]!)).toList := by
 have hl : z.cells.length = zv.cells.size := by simpa using h.length
 have key : ∀ k, ((Array.range (k * zv.cells.size)).map (zv.cells[· % zv.cells.size]!)).toList = (List.replicate k zv.cells.toList).flatten := by
  intro k
  induction k with
  | zero => simp
  | succ k ih =>
   rw [List.replicate_succ', List.flatten_append];have h1 : (Array.range ((k + 1) * zv.cells.size)).toList = (Array.range (k * zv.cells.size)).toList ++ (List.range zv.cells.size).map (k * zv.cells.size + ·) := by
    rw [Array.toList_range, Array.toList_range, Nat.add_mul, Nat.one_mul, List.range_add]
   rw [Array.toList_map, h1, List.map_append, <- Array.toList_map, ih];congr 1;simp only [List.map_map, List.flatten_cons, List.flatten_nil, List.append_nil];apply List.ext_getElem
   ·simp
   ·intro i h3 h4;simp at h3 h4;simp [Nat.mul_comm k, Nat.mul_add_mod, Nat.mod_eq_of_lt h4, h4]
 rw [key]
 induction k with
 | zero => exact .nil
 | succ k ih =>
  rw [List.replicate_succ, List.replicate_succ, List.flatten_cons];exact h.append ih
theorem xja (w : World) (E : TypeId) (cs : Array Value) : (newRow E cs).run P w = .ok ⟨w.heap.size, 0, none⟩ (z6b w (.cells cs E)) := by
 simp only [newRow, Sem.run_bind, run_newObj, Result.andThen_ok, Sem.run_pure]; rfl
theorem ySb {w : World} {S : Nat -> Prop} {m : Mem} (hm : zva w S m) {T E : TypeId} {e b : Nat} (hE : y2a P T = some E) (hs : szT P E = some e) (hb : xua P E = some b) {z : AV} (hz : zMa P E = some z) (hze : z.cells.length = e) (he0 : e ≠ 0) {kn kc : IntKind} {n : Int} (h0 : 0 <= n) (hlim : n * b <= 281474976710656) (hmax : n <= 9223372036854775807)
  {k : AV -> Mem -> Prop} (hk : ∀ g, m g = none -> k (.own g n.toNat n.toNat) (m.set g (.arr E e n.toNat (List.replicate n.toNat z)))) :
  Outs P w S m (((do pure (.value (<- Instr.makeSlice T (.int kn n) (.int kc n)))) : Sem Next).run P w) k := by
 obtain ⟨i, hi, his, hib⟩ := zwc hs hb;obtain ⟨hzu, zv, hzr, hzrep⟩ := xha (w := w) (S := S) hz;have hzc := hzrep.cells hzu;have hzl : zv.cells.size = e := by have := hzc.length; simp at this; omega
 have hw : IntKind.i64.wrap n = n := by
  simp only [IntKind.wrap, IntKind.bits, IntKind.signed];simp; omega
 have hcs : ∃ cs : Array Value, (Instr.makeSlice T (.int kn n) (.int kc n)).run P w = .ok (.slice (some ⟨w.heap.size, 0, none⟩) n.toNat n.toNat) (z6b w (.cells cs E)) /\ cs = (Array.range (n.toNat * zv.cells.size)).map (zv.cells[· % zv.cells.size]!) := by
  refine ⟨_, ?_, rfl⟩;unfold Instr.makeSlice;rw [zEa (zna (xia hE) w)];simp only [Sem.run_bind, asInt, asIntOf, pure_bind, Sem.run_pure, Result.andThen_ok, xIa hi, hib, hw];have c1 : (n < 0 || (b : Int) * n > 281474976710656) = false := by
   rw [Bool.or_eq_false_iff];exact ⟨decide_eq_false (by omega), decide_eq_false (by rw [Int.mul_comm]; omega)⟩
  have c2 : ((n < 0 || (b : Int) * n > 2 ^ 48) || (n < 0 : Bool) || (n > n : Bool)) = false := by
   have : (2 : Int) ^ 48 = 281474976710656 := by decide
   rw [this, c1]; simp; omega
  simp only [c2, Bool.false_eq_true, if_false, Sem.run_bind, run_askRoom, Result.andThen_ok, z7a hs];by_cases hz0 : n.toNat * e = 0
  ·have : n.toNat = 0 := by
    rcases Nat.mul_eq_zero.1 hz0 with h | h
    ·exact h
    ·exact absurd h he0
   rw [if_pos hz0];simp only [Sem.run_pure, Result.andThen_ok, hz0, this, hzl, Sem.run_bind, xja, Nat.zero_mul, zKb]
  ·rw [if_neg hz0];simp only [Sem.run_bind, hzr, Result.andThen_ok, Sem.run_pure, xja, hzl]
 obtain ⟨cs, hrun, rfl⟩ := hcs;have hst := yja hm (.cells ((Array.range (n.toNat * zv.cells.size)).map (zv.cells[· % zv.cells.size]!)) E);refine ⟨_, _, _, _, S, .inl (xZa hrun), hk _ (xJa hm), ⟨fun _ h => h, fun _ h => .inl h⟩, hst, xga hm _ ?_, xla _ _ _, ?_, .own _ _ _⟩
 ·refine ⟨_, [], by rw [x0a, List.append_nil], (wJc hzc (by omega) n.toNat).mono hst (fun _ h => h), by simp [hzl], ?_, by simp⟩;intro x hx;rw [(List.mem_replicate.1 hx).2]; exact hze
 ·intro g c hg;by_cases h : g = w.heap.size
  ·exact .inr (by omega)
  ·rw [Mem.so h] at hg; exact .inl (by rw [hg]; simp)
end
section
variable {P : Program}
theorem x8b {w : World} {S : Nat -> Prop} {m : Mem} (hm : zva w S m) {n : Nat} (hn : n ≠ 0) {x : AV} {v : Value} (hx : Rep w S x v) {ys : List AV} (h : wwa m n x = some ys) :
  ∃ A c vs, v = .slice A ys.length c /\ Reps w S (flat ys) vs /\ vs.length = ys.length * n /\ (∀ y ∈ ys, y.cells.length = n) /\ (ys ≠ [] -> ∃ b o, A = some ⟨b, o, none⟩ /\ ∀ j u, vs[j]? = some u -> w.cell? ⟨b, o + j, none⟩ = some u) := by
 have key : ∀ b (as : List AV) (o : Nat), Cells w S b o as -> ∃ vs, Reps w S as vs /\ ∀ j v, vs[j]? = some v -> w.cell? ⟨b, o + j, none⟩ = some v := by
  intro g as
  induction as with
  | nil => intro o _; exact ⟨[], .nil, fun j v h => by simp at h⟩
  | cons a as ih =>
   intro o h;cases h with
   | @cons _ _ _ v _ h1 h2 h3 =>
    obtain ⟨vs, r, hv⟩ := ih (o + 1) h3;refine ⟨v :: vs, .cons h2 r, fun j u hu => ?_⟩;cases j with
    | zero => simp at hu; subst hu; simpa using h1
    | succ j => have := hv j u (by simpa using hu); rw [<- this]; congr 2; omega
 cases x with
 | lst f e xs =>
  simp only [wwa] at h;have hys : ys = xs /\ (e = n ∨ xs = []) := by
   split at h
   ·rename_i he; obtain rfl := Option.some.inj h; exact ⟨rfl, .inl he⟩
   split at h
   ·rename_i hempty; obtain rfl := Option.some.inj h
    have : xs = [] := List.isEmpty_iff.1 hempty;exact ⟨this.symm, .inr this⟩
   cases h
  obtain ⟨rfl, hen⟩ := hys;cases hx with
  | lnil f e A c hf => exact ⟨A, c, [], rfl, .nil, by simp, (fun _ h => by cases h), fun h => absurd rfl h⟩
  | lst f e b o c hb he hle hf hc =>
   obtain ⟨vs, hr, hv⟩ := key b _ o hc;rcases hen with rfl | rfl
   ·exact ⟨_, c, vs, rfl, hr, by rw [<- hr.length, wva he], he, fun _ => ⟨b, o, rfl, hv⟩⟩
   refine ⟨_, c, [], rfl, .nil, by simp, (fun _ h => by cases h), fun h => absurd rfl h⟩
 | own g l c =>
  simp only [wwa] at h;split at h
  ·rename_i T e c' xs hg
   split at h
   ·rename_i hc
    obtain ⟨h1, rfl⟩ := hc;obtain rfl := Option.some.inj h;obtain ⟨vs, us, hb, hr, hl, he, hle⟩ := hm.blk _ _ hg;cases hx;refine ⟨_, c, vs, by rw [h1], hr, by rw [<- hr.length, wva he], he, fun _ => ⟨g, 0, rfl, fun j u hu => ?_⟩⟩;have : j < vs.length := (List.getElem?_eq_some_iff.1 hu).1;simp [World.cell?, hb, List.getElem?_append_left this, hu]
   cases h
  cases h
 | _ => cases h
theorem wLa {w : World} {n : Nat} {ys : List AV} {A : Option Addr} {c : Nat} {vs : List Value} (hl : vs.length = ys.length * n) (hc : ys ≠ [] -> ∃ b o, A = some ⟨b, o, none⟩ /\ ∀ j u, vs[j]? = some u -> w.cell? ⟨b, o + j, none⟩ = some u) :
  (Builtin.firstCells n ys.length (.slice A ys.length c)).run P w = .ok vs.toArray w := by
 cases ys with
 | nil =>
  have : vs = [] := List.eq_nil_of_length_eq_zero (by simpa using hl);subst this;cases A with
  | none => rfl
  | some a => simp [Builtin.firstCells, loadCells, loadCellsFrom]
 | cons y ys =>
  obtain ⟨b, o, rfl, hv⟩ := hc (by simp);exact wPa _ vs hl hv
theorem zxc (newLen : Nat) : ∀ (r c B : Nat), newLen + newLen / 4 + 200 <= B -> c <= B -> Builtin.growBy newLen r c <= B
 | 0, c, B, _, hc => hc
 | r + 1, c, B, hB, hc => by
  unfold Builtin.growBy;split
  ·exact hc
  exact zxc newLen r _ B hB (by omega)
theorem wKc (need cap : Nat) (h : cap < need) : Builtin.nextslicecap need cap <= 2 * need + 1024 := by
 unfold Builtin.nextslicecap;split
 ·omega
 split
 ·omega
 exact zxc need 4 cap _ (by omega) (by omega)
theorem xJb (z : Array Value) (n : Nat) : (Builtin.zeroCells z n).size = n * z.size := by simp [Builtin.zeroCells]
theorem zHd {U : TypeId} (hI : xva P U = some false) : ∃ d, P.underlying U = some d /\ (d matches .int _) = false := by
 unfold xva at hI;cases hd : P.underlying U with
 | none => rw [hd] at hI; cases hI
 | some d =>
  rw [hd] at hI;refine ⟨d, rfl, ?_⟩;clear hd;cases d <;> first | rfl | (cases hI; done)
theorem yOc {w : World} {ts : Array TypeId} {ty T U E : TypeId} {n b : Nat} {zv : Value} (hT : ts[0]? = some T) (hU : ts[1]? = some U) (hI : xva P U = some false) (hE : P.underlying T = some (.slice E)) {i : TypeInfo} (hi : P.info? E = some i) (hn : i.size = n) (hb : i.bytes = b)
  (hz : ∀ w, (zeroValue E).run P w = .ok zv w) (hzs : zv.cells.size = n) {xs ys : List AV} {A A' : Option Addr} {c c' : Nat} {vx vy : List Value}
  (hx : ∀ w' : World, (∀ a, w'.cell? a = w.cell? a) -> (Builtin.firstCells n xs.length (.slice A xs.length c)).run P w' = .ok vx.toArray w') (hy : ∀ w' : World, (∀ a, w'.cell? a = w.cell? a) -> (Builtin.firstCells n ys.length (.slice A' ys.length c')).run P w' = .ok vy.toArray w')
  (hlim : (2 * (xs.length + ys.length) + 1024) * b <= 281474976710656) (hlt : c < xs.length + ys.length) (hbig : xs.length + ys.length <= 9223372036854775807) (hc : xs.length <= c) :
  ∃ nc w1 z, xs.length + ys.length <= nc /\ w1 = { w with drawn := w.drawn + 1 } /\ z.length = (nc - (xs.length + ys.length)) * n /\
   (Builtin.append_ ts ty #[.slice A xs.length c, .slice A' ys.length c']).run P w = .ok (.slice (some ⟨w.heap.size, 0, none⟩) (xs.length + ys.length) nc) (z6b w1 (.cells (vx ++ vy ++ z).toArray E)) := by
 obtain ⟨d, hd, hzeros⟩ := zHd hI;have hs : szT P E = some n := by simp [szT, hi, hn]
 refine ⟨(Question.appendCap (xs.length + ys.length) c E).cut (w.tape w.drawn (Question.appendCap (xs.length + ys.length) c E)), { w with drawn := w.drawn + 1 },
  (Builtin.zeroCells zv.cells ((Question.appendCap (xs.length + ys.length) c E).cut (w.tape w.drawn (Question.appendCap (xs.length + ys.length) c E)) - (xs.length + ys.length))).toList, by simp [Question.cut], rfl, by simp [xJb, hzs], ?_⟩
 have g0 : ¬ (xs.length + ys.length <= c) := by omega
 have hnc := wKc (xs.length + ys.length) c hlt;have g2 : ¬ (Builtin.nextslicecap (xs.length + ys.length) c * i.bytes > 2 ^ 48) := by
  rw [hb];have h1 := Nat.mul_le_mul_right b hnc;have h2 : (2 : Nat) ^ 48 = 281474976710656 := by decide
  omega
 have g1 : ∀ p : Prop, ¬ (((xs.length + ys.length : Nat) : Int) > IntKind.i64.max /\ p) := by
  rintro p ⟨h, _⟩;have h2 : IntKind.i64.max = 9223372036854775807 := by decide
  omega
 have hx1 := hx { w with drawn := w.drawn + 1 } (fun _ => rfl);have hy1 := hy { w with drawn := w.drawn + 1 } (fun _ => rfl);have hz1 := hz { w with drawn := w.drawn + 1 };unfold Builtin.append_;cases d
 case int => cases hzeros
 all_goals
  simp only [hT, hU, List.getElem?_toArray, List.getElem?_cons_zero, List.getElem?_cons_succ, Sem.run_bind, zna hE, Result.andThen_ok, z7a hs, zna hd, Sem.run_pure, Bool.false_eq_true, if_false, Builtin.lenOf,
   if_neg g0, xIa hi, Sem.run_ite, if_neg (g1 _), if_neg g2, run_choose, Question.forced, run_askRoom, hx1, hy1, hz1, xja, Bool.not_false, if_true]
  simp;congr 2;apply Array.ext';simp
theorem yTb {w : World} {ts : Array TypeId} {ty T U E : TypeId} {n : Nat} (hT : ts[0]? = some T) (hU : ts[1]? = some U) (hI : xva P U = some false) (hE : P.underlying T = some (.slice E)) (hs : szT P E = some n)
  {l : Nat} {ys : List AV} {A A' : Option Addr} {c c' : Nat} {vy : List Value} {w' : World} (hy : (Builtin.firstCells n ys.length (.slice A' ys.length c')).run P w = .ok vy.toArray w)
  (hst : (match A with | some a => storeCells (a.add (l * n)) vy | none => pure () : Sem Unit).run P w = .ok () w') (hle : l + ys.length <= c) :
  (Builtin.append_ ts ty #[.slice A l c, .slice A' ys.length c']).run P w = .ok (.slice A (l + ys.length) c) w' := by
 obtain ⟨d, hd, hzeros⟩ := zHd hI;unfold Builtin.append_;cases d
 case int => cases hzeros
 all_goals
  simp only [hT, hU, List.getElem?_toArray, List.getElem?_cons_zero, List.getElem?_cons_succ, Sem.run_bind, zna hE, Result.andThen_ok, z7a hs, zna hd, Sem.run_pure, Bool.false_eq_true, if_false, Builtin.lenOf,
   if_pos hle, Bool.not_false, if_true, hy]
  cases A with
  | none =>
   simp at hst;subst hst;rfl
  | some a =>
   simp only at hst;simp only [Sem.run_bind, hst, Result.andThen_ok, Sem.run_pure]
theorem yTa {w : World} {S : Nat -> Prop} {m : Mem} (hm : zva w S m) (n : Nat) : zva { w with drawn := n } S m :=
 ⟨fun g b hg => ypa.mono (w := w) (fun _ _ => rfl) (fun _ h => h) rfl (hm.blk g b hg), fun b hb => hm.apart b hb⟩
theorem wha {xs ys : List AV} : flat (xs ++ ys) = flat xs ++ flat ys := by simp [flat]
theorem wNb {w : World} {S : Nat -> Prop} {m : Mem} (hm : zva w S m) {ts : Array TypeId} {ty : TypeId} {s x : AV} {vs vx : Value} (hs : Rep w S s vs) (hx : Rep w S x vx) {k : AV -> Mem -> Prop} (h : zNa P m k ts s x) :
  Outs P w S m (((do pure (.value (<- Builtin.append_ ts ty #[vs, vx]))) : Sem Next).run P w) k := by
 unfold zNa at h;split at h
 ·rename_i T U hT hU
  obtain ⟨hI, h⟩ := h;split at h
  ·rename_i E hE
   split at h
   ·rename_i n b z hsz hby hz
    obtain ⟨hn0, hb0, hzl, h⟩ := h;split at h
    ·rename_i ys hys
     obtain ⟨i, hi, hin, hib⟩ := zwc hsz hby
     have hzu : z ≠ .undef := (xha (w := w) (S := S) hz).1;obtain ⟨zv, hzr, hzrep⟩ : ∃ zv, (∀ w, (zeroValue E).run P w = .ok zv w) /\ Reps w S z.cells zv.cells.toList := by
      obtain ⟨v, hv, hr⟩ := (xha (w := w) (S := S) hz).2;refine ⟨v, fun w' => ?_, hr.cells hzu⟩;unfold zMa yha at hz;cases hi' : P.info? E with
      | none => rw [hi'] at hz; cases hz
      | some i' =>
       rw [hi'] at hz;cases hq : i'.zero with
       | none => simp [hq] at hz
       | some q =>
        have h1 : ∀ w, (zeroValue E).run P w = .ok q w := fun w => by simp [zeroValue, xIa hi', hq]
        have h2 := h1 w;rw [hv] at h2;obtain rfl : v = q := by injection h2
        exact h1 w'
     have hzs : zv.cells.size = n := by have := hzrep.length; simp at this; omega
     obtain ⟨A', c', vy, rfl, hry, hvyl, hey, hcy⟩ := x8b hm hn0 hx hys;have hyrun : ∀ w' : World, (∀ a, w'.cell? a = w.cell? a) -> (Builtin.firstCells n ys.length (.slice A' ys.length c')).run P w' = .ok vy.toArray w' := fun w' hw' =>
      wLa hvyl (fun hne => by obtain ⟨b, o, h1, h2⟩ := hcy hne; exact ⟨b, o, h1, fun j u hu => by rw [hw']; exact h2 j u hu⟩)
     -- the new array
     have grow : ∀ (xs : List AV) (A : Option Addr) (c : Nat) (vxs : List Value), Reps w S (flat xs) vxs -> vxs.length = xs.length * n -> (∀ y ∈ xs, y.cells.length = n) -> (xs ≠ [] -> ∃ b o, A = some ⟨b, o, none⟩ /\ ∀ j u, vxs[j]? = some u -> w.cell? ⟨b, o + j, none⟩ = some u) -> xs.length <= c ->
       (2 * (xs.length + ys.length) + 1024) * b <= 281474976710656 -> c < xs.length + ys.length -> xs.length + ys.length <= 9223372036854775807 ->
       (∀ g nc, m g = none -> xs.length + ys.length <= nc -> k (.own g (xs.length + ys.length) nc) (m.set g (.arr E n nc (xs ++ ys)))) ->
       Outs P w S m (((do pure (.value (<- Builtin.append_ ts ty #[.slice A xs.length c, .slice A' ys.length c']))) : Sem Next).run P w) k := by
      intro xs A c vxs hrx hvl hex hcx hxc hlim hlt hbig hk;have hxrun : ∀ w' : World, (∀ a, w'.cell? a = w.cell? a) -> (Builtin.firstCells n xs.length (.slice A xs.length c)).run P w' = .ok vxs.toArray w' := fun w' hw' =>
       wLa hvl (fun hne => by obtain ⟨b, o, h1, h2⟩ := hcx hne; exact ⟨b, o, h1, fun j u hu => by rw [hw']; exact h2 j u hu⟩)
      obtain ⟨nc, w1, zz, hnc, rfl, hzz, hrun⟩ := yOc (P := P) (ty := ty) hT hU hI (xia hE) hi hin hib hzr hzs hxrun hyrun hlim hlt hbig hxc;have hm1 := yTa hm (w.drawn + 1);have hst : Stays S w (z6b { w with drawn := w.drawn + 1 } (.cells (vxs ++ vy ++ zz).toArray E)) := fun b hb => w7a _ _ b (hm.apart b hb).2;refine ⟨_, _, _, _, S, .inl (xZa hrun), hk w.heap.size nc (xJa hm) hnc, ⟨fun _ h => h, fun _ h => .inl h⟩, hst, xga hm1 _ ?_, (by have hk := xla (fun g => m g ≠ none) { w with drawn := w.drawn + 1 } (.cells (vxs ++ vy ++ zz).toArray E); exact ⟨hk.os, hk.tape, hk.output, hk.size, hk.block⟩), ?_, .own _ _ _⟩
      ·refine ⟨vxs ++ vy, zz, x0a _ _, by rw [wha]; exact (hrx.mono hst (fun _ h => h)).append (hry.mono hst (fun _ h => h)), ?_, ?_, by simpa using hnc⟩
       ·simp only [List.length_append, hvl, hvyl, hzz];rw [<- Nat.add_mul, <- Nat.add_mul]; congr 1; omega
       intro y hy;rcases List.mem_append.1 hy with hy | hy
       ·exact hex y hy
       exact hey y hy
      intro g b hg;by_cases h : g = w.heap.size
      ·exact .inr (by omega)
      rw [Mem.so h] at hg; exact .inl (by rw [hg]; simp)
     split at h
     ·rename_i e xs
      obtain ⟨hen, hlim, hk0, hk1⟩ := h;by_cases hy0 : ys = []
      ·subst hy0;have hv0 : vy = [] := List.eq_nil_of_length_eq_zero (by simpa using hvyl);subst hv0;have same : ∀ A c, vs = .slice A xs.length c -> xs.length <= c -> Outs P w S m (((do pure (.value (<- Builtin.append_ ts ty #[vs, .slice A' ([] : List AV).length c']))) : Sem Next).run P w) k := by
        rintro A c rfl hc;have hrun := yTb (P := P) (ty := ty) (w' := w) (A := A) (c := c) (l := xs.length) hT hU hI (xia hE) hsz (hyrun w (fun _ => rfl)) (by cases A <;> rfl) (by simpa using hc)
        exact ⟨_, _, m, w, S, .inl (xZa hrun), hk0 rfl, ⟨fun _ h => h, fun _ h => .inl h⟩, fun _ _ => rfl, hm, Keep.refl _ _, fun g b hg => .inl (by rw [hg]; simp), by simpa using hs⟩
       cases hs with
       | lnil f e A c hf => exact same A c rfl (by simp)
       | lst f e b o c hb he hle hf hc => exact same _ c rfl hle
      have hbig : xs.length + ys.length <= 9223372036854775807 := by
       have := Nat.mul_le_mul_left (2 * (xs.length + ys.length) + 1024) (Nat.pos_of_ne_zero hb0);omega
      have hypos : 0 < ys.length := List.length_pos_iff.2 hy0;have hsrc : wwa m n (.lst true e xs) = some xs := by
       simp only [wwa];rcases hen with rfl | rfl
       ·rw [if_pos rfl]
       split <;> rfl
      obtain ⟨A, c, vxs, rfl, h1, h2, h3, h4⟩ := x8b hm hn0 hs hsrc;have hc : c = xs.length := by
       generalize hv : Value.slice A xs.length c = v at hs;cases hs with
       | lnil f e A c hf => injection hv with _ _ h5; rw [h5, hf rfl]; rfl
       | lst f e b o c hb he hle hf hc => injection hv with _ _ h5; rw [h5, hf rfl]
      exact grow xs A c vxs h1 h2 h3 h4 (by omega) hlim (by omega) hbig (hk1 hy0)
     ·rename_i g l c
      split at h
      ·rename_i E' e c0 xs hg
       obtain ⟨rfl, rfl, rfl, rfl, hok, hlim, hk⟩ := h;obtain ⟨vxs, us, hbk, hrx, hlv, hex, hxc⟩ := hm.blk _ _ hg;have hvxl : vxs.length = xs.length * e := by rw [<- hrx.length, wva hex]
       cases hs;by_cases hfit : xs.length + ys.length <= c0
       ·have hmul : (xs.length + ys.length) * e <= c0 * e := Nat.mul_le_mul_right e hfit;rw [Nat.add_mul] at hmul;have hlv' : vxs.length + us.length = c0 * e := by simpa using hlv
        have hvl2 : vy.length <= us.length := by omega
        have h1c : ∀ v ∈ vy, v.oneCell' = true := by
         refine yPb hry ?_;rw [List.all_eq_true];intro a ha;obtain ⟨y, hy, hay⟩ := List.mem_flatMap.1 ha;exact List.all_eq_true.1 (hok y hy) a hay
        have hstore := run_storeCells_at P g (xs.length * e) E' vy 0 _ w hbk (by simp; omega) h1c;have e1 : (vxs ++ us).take (xs.length * e) ++ vy ++ (vxs ++ us).drop (xs.length * e + vy.length) = (vxs ++ vy) ++ us.drop vy.length := by
         rw [List.take_append_of_le_length (by omega), List.take_of_length_le (by omega), List.drop_append, List.drop_of_length_le (by omega), hvxl, Nat.add_sub_cancel_left];simp
        have hrun := yTb (P := P) (ty := ty) (w' := w.setRow g ((vxs ++ vy) ++ us.drop vy.length).toArray) (A := some ⟨g, 0, none⟩) (c := c0) (l := xs.length) hT hU hI (xia hE) hsz (hyrun w (fun _ => rfl)) (by
         simp only [xWa, Nat.zero_add];rw [<- e1]; simpa using hstore) hfit
        obtain ⟨hm', hst⟩ := zJb hm (b := .arr E' e c0 (xs ++ ys)) hg (cs := ((vxs ++ vy) ++ us.drop vy.length).toArray) ⟨vxs ++ vy, us.drop vy.length, by rw [setRow_heap _ _ _ _ _ _ hbk], by
         have hst : Stays S w (w.setRow g ((vxs ++ vy) ++ us.drop vy.length).toArray) := fun b' hb' => setRow_other w g b' _ (by rintro rfl; have := (hm.apart _ hb').1; rw [hg] at this; cases this);rw [wha]; exact (hrx.append hry).mono hst (fun _ h => h), by simp; omega, by
         intro y hy;rcases List.mem_append.1 hy with hy | hy
         ·exact hex y hy
         exact hey y hy, by simpa using hfit⟩
        refine ⟨_, _, _, _, S, .inl (xZa hrun), hk g c0 (.inl rfl) hfit, ⟨fun _ h => h, fun _ h => .inl h⟩, hst, hm', ⟨rfl, rfl, rfl, by simp, fun b hb hn => setRow_other _ _ _ _ (by rintro rfl; exact hn (by rw [hg]; simp))⟩, ?_, .own _ _ _⟩;intro g' b' hg';by_cases e : g' = g
        ·subst e; exact .inl (by rw [hg]; simp)
        rw [Mem.so e] at hg'; exact .inl (by rw [hg']; simp)
       have hbig : xs.length + ys.length <= 9223372036854775807 := by
        have := Nat.mul_le_mul_left (2 * (xs.length + ys.length) + 1024) (Nat.pos_of_ne_zero hb0);omega
       refine grow xs (some ⟨g, 0, none⟩) c0 vxs hrx hvxl hex (fun _ => ⟨g, 0, rfl, fun j u hu => ?_⟩) hxc hlim (by omega) hbig (fun g' nc hg' hnc => hk g' nc (.inr hg') hnc);have : j < vxs.length := (List.getElem?_eq_some_iff.1 hu).1;simp [World.cell?, hbk, List.getElem?_append_left this, hu]
      exact h.elim
     exact h.elim
    exact h.elim
   exact h.elim
  exact h.elim
 exact h.elim
end
section
variable {P : Program}
def AOp (P : Program) (p : Bool) (o : Oper) (s : St) (K : St -> Prop) : Prop :=
 match yGa P s.mem s.eval o.op with
 | some v => K (s.put o.dst v)
 | none => WT P p s.mem s.eval (fun v m' => K ((s.put o.dst v).withMem m')) o.op
def xKa (C : Ctx) (K : St -> Prop) (N : Nat) (next : Act -> World -> Prop) : Prop := ∀ s a w, K s -> Rel C s a w -> a.tmps.size = N -> next a w
theorem Outs.go {C : Ctx} {s : St} {a : Act} {w : World} {S : Nat -> Prop} (h : Rel C s a w) (hS0 : SIn C S) (hslots : ∀ t, Rep w S (s.sl t) (a.tmps.getD t undef)) {o : Oper} (hd : ∀ t, o.dst = some t -> t < a.tmps.size) {K : St -> Prop}
  (hout : Outs P w S s.mem ((execOp a.eval o).run P w) (fun v m' => K ((s.put o.dst v).withMem m'))) {next : Act -> World -> Prop} {Q : Exit -> Act -> World -> Prop} (hn : xKa C K a.tmps.size next) : o.wp P a w next Q := by
 obtain ⟨v, u, m', w', S', hrun, hk, hSS, hst, hm', hkeep, hdom, hv⟩ := hout;have hrel := h.step hS0 hslots hSS.1 (fun b hb => (hSS.2 b hb).imp id .inr) hst hm' hkeep hdom hd hv;have hnext := hn _ _ _ hk hrel (yob _ _ _);unfold Oper.wp;rcases hrun with hrun | ⟨hrun, rfl⟩
 ·rw [hrun]; exact hnext
 rw [hrun]; exact hnext
theorem xtd {C : Ctx} {s : St} {a : Act} {w : World} (h : Rel C s a w) {p : Bool} {o : Oper} (hd : ∀ t, o.dst = some t -> t < a.tmps.size) {K : St -> Prop}
  (hk : WT P p s.mem s.eval (fun v m' => K ((s.put o.dst v).withMem m')) o.op) {next : Act -> World -> Prop} {Q : Exit -> Act -> World -> Prop} (hn : xKa C K a.tmps.size next) : o.wp P a w next Q := by
 obtain ⟨S, hS0, hm, hslots⟩ := h.ex;have hev := ynb hslots;cases hop : o.op with
 | alloc T =>
  rw [hop] at hk;simp only [WT] at hk;split at hk
  ·rename_i z hz
   obtain ⟨hzu, zv, hzr, hzrep⟩ := xha (w := w) (S := S) hz;refine Outs.go h hS0 hslots hd ?_ hn;have hx : (Instr.alloc T true (.tuple #[])).run P w = .ok (.pointer (some ⟨w.heap.size, 0, none⟩)) (z6b w (.cells zv.cells T)) := by
    unfold Instr.alloc;rw [zEa hzr];simp only [newVar, Sem.run_bind, xja, Result.andThen_ok, Sem.run_pure]
   have := xwc (k := fun v m' => K ((s.put o.dst v).withMem m')) hm hzrep hzu hk hx;simpa [execOp, hop] using this
  exact hk.elim
 | box T x =>
  rw [hop] at hk;simp only [WT] at hk;split at hk
  ·exact hk.elim
  rename_i hu
  refine Outs.go h hS0 hslots hd ?_ hn;have hx : (Instr.box T (a.eval x)).run P w = .ok (.pointer (some ⟨w.heap.size, 0, none⟩)) (z6b w (.cells (a.eval x).cells T)) := by
   simp only [Instr.box, newVar, Sem.run_bind, xja, Result.andThen_ok, Sem.run_pure]
  have := xwc (k := fun v m' => K ((s.put o.dst v).withMem m')) hm (hev x) hu hk hx;simpa [execOp, hop] using this
 | store T ad x =>
  rw [hop] at hk;simp only [WT] at hk;split at hk
  ·exact hk.elim
  rename_i hu
  split at hk
  ·rename_i n hn'
   obtain ⟨h1, h2, hk⟩ := hk;split at hk
   ·rename_i m' hm'
    refine Outs.go h hS0 hslots hd ?_ hn;have := yNc (P := P) (k := fun v m' => K ((s.put o.dst v).withMem m')) hm (hev ad) (hev x) hu (by rw [h1]; exact hn') h2 hm' hk;simpa [execOp, hop] using this
   exact hk.elim
  exact hk.elim
 | buildSlice T len parts =>
  rw [hop] at hk;simp only [WT] at hk;split at hk
  ·rename_i n hn'
   obtain ⟨rfl, hlim, hn0, hz, hk⟩ := hk;obtain ⟨E, hu, hsE⟩ := ymb hn';have hE : y2a P T = some E := by simp [y2a, hu]
   rw [hE] at hz;obtain ⟨z, hz⟩ := Option.isSome_iff_exists.1 hz;split at hk
   ·rename_i xs hxs
    refine Outs.go h hS0 hslots hd ?_ hn;have := yfb (P := P) (k := fun v m' => K ((s.put o.dst v).withMem m')) hm hE hsE hev hxs hlim hn0 hz hk;simpa [execOp, hop] using this
   exact hk.elim
  exact hk.elim
 | makeSlice T l c =>
  rw [hop] at hk;simp only [WT] at hk;split at hk
  ·rename_i kn n kc n' hl hc
   split at hk
   ·rename_i E hE
    split at hk
    ·rename_i e b z h1 h2 h3
     obtain ⟨rfl, h0, hlim, he0, hze, hmax, hk⟩ := hk;refine Outs.go h hS0 hslots hd ?_ hn;have hvl := hev l; have hvc := hev c;rw [hl] at hvl; rw [hc] at hvc;generalize hql : a.eval l = ql at hvl;generalize hqc : a.eval c = qc at hvc;cases hvl; cases hvc;have := ySb (P := P) (k := fun v m' => K ((s.put o.dst v).withMem m')) (kn := kn) (kc := kc) hm hE h1 h2 h3 hze he0 h0 hlim hmax hk;simpa [execOp, hop, hql, hqc] using this
    exact hk.elim
   exact hk.elim
  exact hk.elim
 | call c =>
  rw [hop] at hk;simp only [WT] at hk;cases hcal : c.callee with
  | builtin b =>
   rw [hcal] at hk;cases b with
   | append =>
    simp only at hk;split at hk
    ·rename_i x y hxy
     refine Outs.go h hS0 hslots hd ?_ hn;have := wNb (P := P) (ty := o.type) (k := fun v m' => K ((s.put o.dst v).withMem m')) hm (hev x) (hev y) hk;have hargs : c.args.map a.eval = #[a.eval x, a.eval y] := by apply Array.ext'; simp [hxy]
     simpa [execOp, hop, resolve, hcal, invoke, builtin, hargs] using this
    exact hk.elim
   | _ => exact hk.elim
  | value f =>
   rw [hcal] at hk;simp only at hk;split at hk
   ·rename_i n caps hf
    have hvf := hev f;rw [hf] at hvf;generalize hqf : a.eval f = qf at hvf;cases hvf with
    | func fn hcaps =>
     rename_i vcaps
     have hreps : Reps w S (c.args.toList.map s.eval ++ caps) (c.args.toList.map a.eval ++ vcaps) := (w6a s.eval a.eval hev _).append hcaps;have hW : zka P n (c.args.toList.map s.eval ++ caps) s.mem (fun v m' => K ((s.put o.dst v).withMem m')) := by
      split at hk
      ·obtain ⟨r, h1, h2⟩ := hk; exact h1.w h2
      exact hk
     obtain ⟨⟨fn', hfn, hname, hbody⟩, hW⟩ := hW;have hcall := hW w S _ hm hreps;have hrun : (execOp a.eval o).run P w = .ok (.enter n (c.args.toList.map a.eval ++ vcaps).toArray) w := by
      have hargs : c.args.map a.eval ++ vcaps.toArray = (c.args.toList.map a.eval ++ vcaps).toArray := by apply Array.ext'; simp
      have hcf : ∀ args, (callFunc n args).run P w = .ok (.enter n args) w := by
       intro args;simp only [callFunc, Sem.run_bind, run_program, Result.andThen_ok, hfn, hname, hbody, Bool.false_eq_true, if_false, Sem.run_pure]
      simp only [execOp, hop, resolve, hcal, hqf, Deferred.ofValue, pure_bind, invoke];rw [show (#[] ++ c.args.map a.eval ++ vcaps.toArray) = (c.args.toList.map a.eval ++ vcaps).toArray from by rw [Array.empty_append]; exact hargs]
      exact hcf _
     unfold Oper.wp;rw [hrun];refine zma hcall ?_;rintro e w' ⟨v, r, m', S', rfl, hk', hSS, hup, hm', hv, hkeep, hdom⟩;have hst : Stays S w w' := fun b hb => hkeep.block b (hm.apart b hb).2 (fun h => h (hm.apart b hb).1);exact hn _ _ _ hk' (h.step hS0 hslots hSS hup hst hm' hkeep hdom hd hv) (yob _ _ _)
   exact hk.elim
  | invoke r nm => rw [hcal] at hk; exact hk.elim
 | _ => rw [hop] at hk; exact hk.elim
end
section
variable {P : Program}
theorem yUb {C : Ctx} {s : St} {a : Act} {w : World} (h : Rel C s a w) {p : Bool} {o : Oper} (hd : ∀ t, o.dst = some t -> t < a.tmps.size) {K : St -> Prop}
  (hk : AOp P p o s K) {next : Act -> World -> Prop} {Q : Exit -> Act -> World -> Prop} (hn : xKa C K a.tmps.size next) : o.wp P a w next Q := by
 unfold AOp at hk;split at hk
 ·rename_i v hv
  obtain ⟨S, hS0, hm, hslots⟩ := h.ex;obtain ⟨u, hrun, hr⟩ := wGc hm (ynb hslots) o hv;refine Outs.go (P := P) h hS0 hslots hd ⟨v, u, s.mem, w, S, .inl hrun, ?_, ⟨fun _ h => h, fun _ h => .inl h⟩, fun _ _ => rfl, hm, Keep.refl _ _, fun g b hg => .inl (by rw [hg]; simp), hr⟩ hn;have e : (s.put o.dst v).withMem s.mem = s.put o.dst v := by cases o.dst <;> rfl
  show K ((s.put o.dst v).withMem s.mem);rw [e]; exact hk
 exact xtd h hd hk hn
def zGa (ops : Array Oper) (o : Oper) (s : St) : Option Bool :=
 match o.guard with
 | none => some true
 | some (j, want) => match (ops[j]?).bind (·.dst) with
  | some d => match s.sl d with
   | .bool b => some (b == want)
   | .tup [] => some false
   | _ => none
  | none => none
def wRa (P : Program) (p : Nat -> Bool) (ops : Array Oper) (K : St -> Prop) : List Nat -> St -> Prop
 | [], s => K s
 | i :: l, s => match ops[i]? with
  | none => wRa P p ops K l s
  | some o => match zGa ops o s with
   | some true => AOp P (p i) o s (wRa P p ops K l)
   | some false => wRa P p ops K l (s.put o.dst (.tup []))
   | none => False
theorem xwa {C : Ctx} {s : St} {a : Act} {w : World} (h : Rel C s a w) {ops : Array Oper} {o : Oper} (hb : ∀ (j : Nat) (d : Tmp), (ops[j]?).bind (·.dst) = some d -> d < a.tmps.size) {b : Bool} (hw : zGa ops o s = some b) : Region.wanted o (yielded ops a.tmps) = b := by
 obtain ⟨S, hS0, hm, hslots⟩ := h.ex;unfold zGa at hw;unfold Region.wanted;split at hw
 ·rename_i hg
  rw [hg]; obtain rfl := Option.some.inj hw; rfl
 rename_i j want hg
 rw [hg];simp only;split at hw
 ·rename_i d hdd
  have hlt := hb j d hdd;have hs := hslots d;have hget : a.tmps[d]? = some (a.tmps.getD d undef) := by simp [Array.getD, hlt]
  have hy : yielded ops a.tmps j = (match (some (a.tmps.getD d undef) : Option Value) with | some (.bool b) => some b | _ => none) := by
   unfold yielded;rw [hdd];simp only [Option.bind_some, hget];rfl
  rw [hy];split at hw
  ·rename_i b' hsl
   rw [hsl] at hs;generalize a.tmps.getD d undef = q at hs;cases hs;obtain rfl := Option.some.inj hw;cases b' <;> cases want <;> rfl
  ·rename_i hsl
   rw [hsl] at hs;generalize a.tmps.getD d undef = q at hs;cases hs with
   | tup hr =>
    cases hr;obtain rfl := Option.some.inj hw;rfl
  cases hw
 cases hw
theorem xLa {C : Ctx} {ops : Array Oper} {N : Nat} (hb : ∀ (j : Nat) (d : Tmp), (ops[j]?).bind (·.dst) = some d -> d < N) {p : Nat -> Bool} {K : St -> Prop} {Q : Exit -> Act -> World -> Prop} (hQ : xKa C K N (Q .normal)) :
  ∀ (l : List Nat) (s : St) (a : Act) (w : World), Rel C s a w -> a.tmps.size = N -> wRa P p ops K l s -> wpOps P ops Q l a w
 | [], s, a, w, h, hN, hk => hQ s a w hk h hN
 | i :: l, s, a, w, h, hN, hk => by
  simp only [wRa] at hk;simp only [wpOps];cases ho : ops[i]? with
  | none =>
   rw [ho] at hk;exact xLa hb hQ l s a w h hN hk
  | some o =>
   rw [ho] at hk;simp only at hk ⊢;have hd : ∀ t, o.dst = some t -> t < a.tmps.size := fun t ht => by rw [hN]; exact hb i t (by rw [ho]; exact ht)
   split at hk
   ·rename_i hw
    rw [xwa h (by rw [hN]; exact hb) hw, if_pos rfl];refine .inl (yUb h hd hk ?_);intro s' a' w' hk' h' hN';exact xLa hb hQ l s' a' w' h' (by omega) hk'
   ·rename_i hw
    rw [xwa h (by rw [hN]; exact hb) hw, if_neg (by decide)];refine xLa hb hQ l _ _ _ ?_ (by rw [yob]; exact hN) hk;obtain ⟨S, hS0, hm, hslots⟩ := h.ex;have hu : Rep w S (.tup []) undef := Rep.tup .nil;have e : (s.put o.dst (.tup [])).withMem s.mem = s.put o.dst (.tup []) := by cases o.dst <;> rfl
    rw [<- e];exact h.step hS0 hslots (fun _ h => h) (fun _ h => .inl h) (fun _ _ => rfl) hm (Keep.refl _ _) (fun g b hg => .inl (by rw [hg]; simp)) hd hu
   exact hk.elim
end
end Go.T
