/- Names in order, in plain Lean. Parts of trees. Sorted, and each once: what the library's functions say, and the names in order. The library's calls on a row of strings, told of trees. Calls that read a table of the library's: the table's block is told as a block of the memory that nobody writes; strconv.Itoa; the end of such a law. Numbers as text: what is read digit by digit is the library's numeral. Machines as trees, in plain Lean. Straight sums and boxes as trees; what they are from and to, in plain Lean. Tokens: what a text is cut into, in plain Lean. What is read of tokens, in plain Lean: expressions. Where all of a program stands, in plain Lean. Trees whose rows may all be written; they are lent to calls that only read. Rows that are marked: what a mark says; cells of one's own rows written one by one. -/
import Derived.Test.YtdbnllfjmkmdiaaGreatDoorG3
import Derived.Lib.SlicesCompact
import Derived.Laws.Strings
import Derived.Sort.Grow
import Derived.Sort.EncStr
import Derived.Test.YtdbnllfjmkmdiaaGreatDoorG2
import Derived.Lib.LaidTab
import Derived.Lib.ItoaNum
import Derived.Deep.Draws
import Derived.Lib.Bytealg
set_option linter.unusedSimpArgs false
set_option linter.unusedVariables false
namespace Go.T
open Go
theorem bl_irrefl : ∀ x, Op.bytesLess x x = false
 | [] => rfl
 | a :: x => by simp [Op.bytesLess, bl_irrefl x]
theorem u8_tri {a b : UInt8} (h1 : ¬ a < b) (h2 : a ≠ b) : b < a := by
 rw [UInt8.lt_iff_toNat_lt] at *
 have : a.toNat ≠ b.toNat := fun h => h2 (UInt8.toNat_inj.1 h)
 omega
theorem u8_trans {a b c : UInt8} (h1 : a < b) (h2 : b < c) : a < c := by
 rw [UInt8.lt_iff_toNat_lt] at *
 omega
theorem bl_trans : ∀ x y z, Op.bytesLess x y = true → Op.bytesLess y z = true → Op.bytesLess x z = true
 | _, [], [], h, k => by simp [Op.bytesLess] at k
 | [], _ :: _, [], h, k => by simp [Op.bytesLess] at k
 | _ :: _, _ :: _, [], h, k => by simp [Op.bytesLess] at k
 | [], _, _ :: _, h, k => by simp [Op.bytesLess]
 | _ :: _, [], _ :: _, h, k => by simp [Op.bytesLess] at h
 | a :: x, b :: y, c :: z, h, k => by
  simp only [Op.bytesLess, Bool.or_eq_true, decide_eq_true_eq, Bool.and_eq_true, beq_iff_eq] at h k ⊢
  rcases h with h | ⟨rfl, h⟩
  ·rcases k with k | ⟨rfl, k⟩
   ·exact .inl (u8_trans h k)
   ·exact .inl h
  ·rcases k with k | ⟨rfl, k⟩
   ·exact .inl k
   ·exact .inr ⟨rfl, bl_trans x y z h k⟩
theorem bl_tri : ∀ x y, x ≠ y → Op.bytesLess x y = false → Op.bytesLess y x = true
 | [], [], h, _ => absurd rfl h
 | [], _ :: _, _, k => by simp [Op.bytesLess] at k
 | _ :: _, [], _, _ => by simp [Op.bytesLess]
 | a :: x, b :: y, h, k => by
  simp only [Op.bytesLess, Bool.or_eq_false_iff, decide_eq_false_iff_not, Bool.and_eq_false_imp, beq_iff_eq] at k
  simp only [Op.bytesLess, Bool.or_eq_true, decide_eq_true_eq, Bool.and_eq_true, beq_iff_eq]
  by_cases hab : a = b
  ·subst hab
   exact .inr ⟨rfl, bl_tri x y (fun e => h (by rw [e])) (k.2 rfl)⟩
  ·exact .inl (u8_tri k.1 hab)
/-- '<' of strings. -/
def blt (x y : ByteArray) : Bool := Op.bytesLess x.toList y.toList
theorem blt_irrefl (x : ByteArray) : blt x x = false := bl_irrefl _
theorem blt_trans {x y z : ByteArray} (h : blt x y = true) (k : blt y z = true) : blt x z = true := bl_trans _ _ _ h k
theorem blt_tri {x y : ByteArray} (h : x ≠ y) (k : blt x y = false) : blt y x = true := by
 refine bl_tri _ _ (fun e => h ?_) k
 have := bytes_beq x y
 rw [e] at this
 simpa using this
theorem blt_ne {x y : ByteArray} (h : blt x y = true) : x ≠ y := fun e => by rw [e, blt_irrefl] at h; cases h
def Asc (l : List ByteArray) : Prop := l.Pairwise fun x y => blt x y = true
theorem asc_ext : ∀ {l m : List ByteArray}, Asc l → Asc m → (∀ x, x ∈ l ↔ x ∈ m) → l = m
 | [], [], _, _, _ => rfl
 | [], y :: m, _, _, h => by have := (h y).2 (List.mem_cons_self ..); cases this
 | x :: l, [], _, _, h => by have := (h x).1 (List.mem_cons_self ..); cases this
 | x :: l, y :: m, hl, hm, h => by
  obtain ⟨h1, h2⟩ := List.pairwise_cons.1 hl
  obtain ⟨k1, k2⟩ := List.pairwise_cons.1 hm
  have e : x = y := by
   rcases List.mem_cons.1 ((h x).1 (List.mem_cons_self ..)) with e | hx
   ·exact e
   rcases List.mem_cons.1 ((h y).2 (List.mem_cons_self ..)) with e | hy
   ·exact e.symm
   have := blt_trans (h1 y hy) (k1 x hx)
   rw [blt_irrefl] at this; cases this
  subst e
  congr 1
  refine asc_ext h2 k2 fun z => ?_
  have hz := h z
  simp only [List.mem_cons] at hz
  constructor
  ·intro hzl
   rcases hz.1 (.inr hzl) with e | hzm
   ·subst e; have := h1 z hzl; rw [blt_irrefl] at this; cases this
   ·exact hzm
  ·intro hzm
   rcases hz.2 (.inr hzm) with e | hzl
   ·subst e; have := k1 z hzm; rw [blt_irrefl] at this; cases this
   ·exact hzl
/-- A name put in order, if it is not there. -/
def putGo (s : ByteArray) : List ByteArray → Bool → List ByteArray
 | [], done => if done = true then [] else [s]
 | x :: l, done => (if done = false ∧ blt x s = false then [s] else []) ++ ((if x = s then [] else [x]) ++ putGo s l (done || !blt x s))
def putS (l : List ByteArray) (s : ByteArray) : List ByteArray := putGo s l false
theorem putGo_done (s : ByteArray) : ∀ l, (∀ x ∈ l, x ≠ s) → putGo s l true = l
 | [], _ => rfl
 | x :: l, h => by
  have h1 := h x (List.mem_cons_self ..)
  have h2 := putGo_done s l fun y hy => h y (List.mem_cons_of_mem _ hy)
  simp [putGo, h1, h2]
theorem putS_mem (s : ByteArray) : ∀ l, Asc l → (∀ x, x ∈ putGo s l false ↔ x = s ∨ x ∈ l) ∧ Asc (putGo s l false)
 | [], _ => by simp [putGo, Asc]
 | x :: l, h => by
  obtain ⟨h1, h2⟩ := List.pairwise_cons.1 h
  have ih := putS_mem s l h2
  cases hx : blt x s with
  | true =>
   have hne : x ≠ s := blt_ne hx
   have e : putGo s (x :: l) false = x :: putGo s l false := by simp [putGo, hx, hne]
   rw [e]
   refine ⟨fun y => ?_, .cons (fun y hy => ?_) ih.2⟩
   ·simp only [List.mem_cons, ih.1 y]; constructor
    ·rintro (h | h | h)
     ·exact .inr (.inl h)
     ·exact .inl h
     ·exact .inr (.inr h)
    ·rintro (h | h | h)
     ·exact .inr (.inl h)
     ·exact .inl h
     ·exact .inr (.inr h)
   ·rcases (ih.1 y).1 hy with rfl | hy
    ·exact hx
    ·exact h1 y hy
  | false =>
   have hl : ∀ y ∈ l, y ≠ s := by
    intro y hy e
    subst e
    have := h1 y hy
    rw [hx] at this; cases this
   have e : putGo s (x :: l) false = s :: ((if x = s then [] else [x]) ++ l) := by simp [putGo, hx, putGo_done s l hl]
   rw [e]
   by_cases hxs : x = s
   ·subst hxs
    simp
    exact h
   ·simp only [if_neg hxs]
    have hsx := blt_tri hxs hx
    refine ⟨fun y => by simp, .cons (fun y hy => ?_) h⟩
    rcases List.mem_cons.1 hy with rfl | hy
    ·exact hsx
    ·exact blt_trans hsx (h1 y hy)
theorem putS_len (s : ByteArray) : ∀ l done, (putGo s l done).length ≤ l.length + 1 ∧ (done = true → (putGo s l done).length ≤ l.length)
 | [], done => by cases done <;> simp [putGo]
 | x :: l, done => by
  have h1 := putS_len s l (done || !blt x s)
  cases done with
  | true =>
   simp only [putGo, Bool.true_or] at h1 ⊢
   have := h1.2 trivial
   simp only [List.length_append, List.length_cons]
   split <;> split <;> simp_all <;> omega
  | false =>
   cases hx : blt x s with
   | true =>
    simp only [putGo, hx, Bool.false_or, Bool.not_true] at h1 ⊢
    simp only [List.length_append, List.length_cons]
    have := h1.1
    refine ⟨?_, fun h => by cases h⟩
    split <;> split <;> simp_all <;> omega
   | false =>
    simp only [putGo, hx, Bool.false_or, Bool.not_false] at h1 ⊢
    simp only [List.length_append, List.length_cons]
    have := h1.2 trivial
    refine ⟨?_, fun h => by cases h⟩
    split <;> split <;> simp_all <;> omega
theorem fold_len : ∀ (xs l : List ByteArray), (xs.foldl putS l).length ≤ l.length + xs.length
 | [], l => Nat.le_refl _
 | x :: xs, l => by
  have h1 := fold_len xs (putS l x)
  have h2 := (putS_len x l false).1
  simp only [List.foldl_cons, List.length_cons]
  unfold putS at h1 ⊢
  omega
theorem fold_mem : ∀ (xs l : List ByteArray), Asc l → (∀ x, x ∈ xs.foldl putS l ↔ x ∈ l ∨ x ∈ xs) ∧ Asc (xs.foldl putS l)
 | [], l, h => by simpa using h
 | y :: xs, l, h => by
  obtain ⟨h1, h2⟩ := putS_mem y l h
  obtain ⟨k1, k2⟩ := fold_mem xs (putS l y) h2
  refine ⟨fun x => ?_, k2⟩
  rw [List.foldl_cons, k1 x]
  unfold putS
  rw [h1 x, List.mem_cons]
  constructor
  ·rintro ((h | h) | h)
   ·exact .inr (.inl h)
   ·exact .inl h
   ·exact .inr (.inr h)
  ·rintro (h | h | h)
   ·exact .inl (.inr h)
   ·exact .inl (.inl h)
   ·exact .inr h
/-- The names of a list, in order, each once. -/
def nameSet (xs : List ByteArray) : List ByteArray := xs.foldl putS []
theorem nameSet_mem (xs : List ByteArray) (x : ByteArray) : x ∈ nameSet xs ↔ x ∈ xs := by
 have := (fold_mem xs [] .nil).1 x
 simpa [nameSet] using this
theorem nameSet_asc (xs : List ByteArray) : Asc (nameSet xs) := (fold_mem xs [] .nil).2
theorem nameSet_len (xs : List ByteArray) : (nameSet xs).length ≤ xs.length := by have := fold_len xs []; simpa [nameSet] using this
theorem nameSet_ext {xs ys : List ByteArray} (h : ∀ x, x ∈ xs ↔ x ∈ ys) : nameSet xs = nameSet ys :=
 asc_ext (nameSet_asc xs) (nameSet_asc ys) fun x => by rw [nameSet_mem, nameSet_mem]; exact h x
/-- The names of expressions of a kind: the outer one first, or last. -/
def one (c : Prop) [Decidable c] (s : ByteArray) : List ByteArray := if c then [s] else []
mutual
def Ex.pre (q : Int) : Ex → List ByteArray
 | .mk k _ s l => one (k = q) s ++ Ex.pres q l
def Ex.pres (q : Int) : List Ex → List ByteArray
 | [] => []
 | x :: l => x.pre q ++ Ex.pres q l
end
mutual
def Ex.post (q : Int) : Ex → List ByteArray
 | .mk k _ s l => Ex.posts q l ++ one (k = q) s
def Ex.posts (q : Int) : List Ex → List ByteArray
 | [] => []
 | x :: l => x.post q ++ Ex.posts q l
end
mutual
theorem Ex.pre_post (q : Int) (x : ByteArray) : ∀ e : Ex, x ∈ e.pre q ↔ x ∈ e.post q
 | .mk k n s l => by
  rw [Ex.pre, Ex.post, List.mem_append, List.mem_append, Ex.pres_posts q x l]
  exact Or.comm
theorem Ex.pres_posts (q : Int) (x : ByteArray) : ∀ l : List Ex, x ∈ Ex.pres q l ↔ x ∈ Ex.posts q l
 | [] => Iff.rfl
 | e :: l => by rw [Ex.pres, Ex.posts, List.mem_append, List.mem_append, Ex.pre_post q x e, Ex.pres_posts q x l]
end
mutual
def Sm.names (q : Int) : Sm → List ByteArray
 | .mk k s _ _ _ _ b => one (k = q) s ++ Sm.namesL q b
def Sm.namesL (q : Int) : List Sm → List ByteArray
 | [] => []
 | x :: l => x.names q ++ Sm.namesL q l
end
mutual
def Sm.exps (f : Ex → List ByteArray) : Sm → List ByteArray
 | .mk _ _ a e lo hi b => f a ++ (f e ++ (f lo ++ (f hi ++ Sm.expsL f b)))
def Sm.expsL (f : Ex → List ByteArray) : List Sm → List ByteArray
 | [] => []
 | x :: l => x.exps f ++ Sm.expsL f l
end
mutual
theorem Sm.exps_iff {f g : Ex → List ByteArray} {x : ByteArray} (h : ∀ e, x ∈ f e ↔ x ∈ g e) : ∀ s : Sm, x ∈ s.exps f ↔ x ∈ s.exps g
 | .mk k s a e lo hi b => by simp only [Sm.exps, List.mem_append, h, Sm.expsL_iff h b]
theorem Sm.expsL_iff {f g : Ex → List ByteArray} {x : ByteArray} (h : ∀ e, x ∈ f e ↔ x ∈ g e) : ∀ l : List Sm, x ∈ Sm.expsL f l ↔ x ∈ Sm.expsL g l
 | [] => Iff.rfl
 | s :: l => by simp only [Sm.expsL, List.mem_append, Sm.exps_iff h s, Sm.expsL_iff h l]
end
theorem asked_same (q : Int) (l : List Sm) : nameSet (Sm.expsL (Ex.post q) l) = nameSet (Sm.expsL (Ex.pre q) l) :=
 nameSet_ext fun x => Sm.expsL_iff (fun e => (Ex.pre_post q x e).symm) l
-- how long these are
theorem one_len (c : Prop) [Decidable c] (s : ByteArray) : (one c s).length ≤ 1 := by unfold one; split <;> simp
mutual
theorem Ex.pre_len (q : Int) : ∀ e : Ex, (e.pre q).length ≤ 1 + e.tot
 | .mk k n s l => by
  rw [Ex.pre, Ex.tot, List.length_append]
  have := Ex.pres_len q l
  have := one_len (k = q) s
  omega
theorem Ex.pres_len (q : Int) : ∀ l : List Ex, (Ex.pres q l).length ≤ Ex.tots l
 | [] => Nat.zero_le _
 | e :: l => by
  rw [Ex.pres, Ex.tots, List.length_append]
  have := Ex.pre_len q e
  have := Ex.pres_len q l
  omega
end
mutual
theorem Ex.post_len (q : Int) : ∀ e : Ex, (e.post q).length ≤ 1 + e.tot
 | .mk k n s l => by
  rw [Ex.post, Ex.tot, List.length_append]
  have := Ex.posts_len q l
  have := one_len (k = q) s
  omega
theorem Ex.posts_len (q : Int) : ∀ l : List Ex, (Ex.posts q l).length ≤ Ex.tots l
 | [] => Nat.zero_le _
 | e :: l => by
  rw [Ex.posts, Ex.tots, List.length_append]
  have := Ex.post_len q e
  have := Ex.posts_len q l
  omega
end
mutual
theorem Sm.names_len (q : Int) : ∀ e : Sm, (e.names q).length ≤ 1 + e.tot
 | .mk k s a e lo hi b => by
  rw [Sm.names, Sm.tot, List.length_append]
  have := Sm.namesL_len q b
  have := one_len (k = q) s
  omega
theorem Sm.namesL_len (q : Int) : ∀ l : List Sm, (Sm.namesL q l).length ≤ Sm.tots l
 | [] => Nat.zero_le _
 | e :: l => by
  rw [Sm.namesL, Sm.tots, List.length_append]
  have := Sm.names_len q e
  have := Sm.namesL_len q l
  omega
end
mutual
theorem Sm.exps_len {f : Ex → List ByteArray} (hf : ∀ e, (f e).length ≤ 1 + e.tot) : ∀ e : Sm, (e.exps f).length ≤ 4 * (1 + e.tot)
 | .mk k s a e lo hi b => by
  simp only [Sm.exps, Sm.tot, List.length_append]
  have := Sm.expsL_len hf b
  have := hf a
  have := hf e
  have := hf lo
  have := hf hi
  omega
theorem Sm.expsL_len {f : Ex → List ByteArray} (hf : ∀ e, (f e).length ≤ 1 + e.tot) : ∀ l : List Sm, (Sm.expsL f l).length ≤ 4 * Sm.tots l
 | [] => Nat.zero_le _
 | e :: l => by
  rw [Sm.expsL, Sm.tots, List.length_append]
  have := Sm.exps_len hf e
  have := Sm.expsL_len hf l
  omega
end
-- is no loop's name that of one it is in?
mutual
def Sm.nest : Sm → List ByteArray → Bool
 | .mk k s _ _ _ _ b, ns => decide (k ≠ 3) || (!has ns s && Sm.nests b (ns ++ [s]))
def Sm.nests : List Sm → List ByteArray → Bool
 | [], _ => true
 | x :: l, ns => x.nest ns && Sm.nests l ns
end
/-- Are arrays as told, behind one whose name is told? -/
def arrsFrom : Option ByteArray → List Ar → Bool
 | _, [] => true
 | p, a :: l => nameOk a.s && (inR a.n 1 16 && ((match p with | none => true | some q => blt q a.s) && arrsFrom (some a.s) l))
/-- Where a name is first; -1: nowhere. -/
def idxAt : Nat → List ByteArray → ByteArray → Int
 | _, [], _ => -1
 | i, x :: l, s => if x = s then i else idxAt (i + 1) l s
def at_ (l : List ByteArray) (s : ByteArray) : Int := idxAt 0 l s
theorem idxAt_has (s : ByteArray) : ∀ l i, (0 ≤ idxAt i l s ↔ has l s = true)
 | [], i => by simp [idxAt, has]
 | x :: l, i => by
  have ih := idxAt_has s l (i + 1)
  unfold has at ih ⊢
  by_cases h : x = s
  ·simp [idxAt, h]
  ·simp only [idxAt, if_neg h, List.any_cons, h, decide_false, Bool.false_or]
   exact ih
def Pg.arrNames (p : Pg) : List ByteArray := p.arrs.map Ar.s
def Pg.isArr (p : Pg) (s : ByteArray) : Bool := has p.arrNames s
def Pg.vars (p : Pg) : List ByteArray := nameSet (Sm.namesL 1 p.body)
def Pg.loops (p : Pg) : List ByteArray := nameSet (Sm.namesL 3 p.body)
def Pg.puts (p : Pg) : List ByteArray := nameSet (Sm.namesL 2 p.body)
def Pg.asked (p : Pg) (q : Int) : List ByteArray := nameSet (Sm.expsL (Ex.pre q) p.body)
def Pg.head (p : Pg) : Bool := arrsFrom none p.arrs && (decide (p.arrs.length ≤ 4) && (decide (p.body.length ≤ 12) && (decide (sumL Sm.size p.body ≤ 40) && p.body.all Sm.ok)))
def Pg.namesB (p : Pg) : Bool := p.puts.all p.isArr && ((p.asked 3).all p.isArr && (!p.vars.any p.isArr && (!p.loops.any p.isArr && (!(p.asked 2).any p.isArr && (!p.loops.any (fun x => has p.vars x) && (Sm.nests p.body [] && decide (p.vars.length ≤ 6)))))))
/-- Is a program right? -/
def Pg.ok (p : Pg) : Bool := p.head && p.namesB
end Go.T
namespace Go.T
open Go
def Ex.k : Ex → Int | .mk k _ _ _ => k
def Ex.n : Ex → Int | .mk _ n _ _ => n
def Ex.s : Ex → ByteArray | .mk _ _ s _ => s
def Ex.l : Ex → List Ex | .mk _ _ _ l => l
@[simp] theorem Ex.loadK (e : Ex) (n : Nat) : loadC n false e.cells = some (.int .i64 e.k) := by cases e; rw [Ex.cells_mk]; rfl
@[simp] theorem Ex.loadS (e : Ex) (n : Nat) : loadC n false (List.drop 2 e.cells) = some (.str e.s) := by cases e; rw [Ex.cells_mk]; rfl
@[simp] theorem Ex.dropL (e : Ex) : List.drop 3 e.cells = [.lst false 4 (e.l.map Ex.av)] := by cases e; rw [Ex.cells_mk]; rfl
theorem Ex.pre_eq (q : Int) (e : Ex) : e.pre q = one (e.k = q) e.s ++ Ex.pres q e.l := by cases e; rfl
theorem Ex.post_eq (q : Int) (e : Ex) : e.post q = Ex.posts q e.l ++ one (e.k = q) e.s := by cases e; rfl
theorem Ex.tot_l (e : Ex) : e.tot = e.s.size + totL Ex.tot e.l := by cases e; rw [Ex.tot_mk]; rfl
theorem Ex.len_l (e : Ex) : e.l.length ≤ e.tot := by have := totL_len Ex.tot e.l; have := e.tot_l; omega
def Sm.k : Sm → Int | .mk k _ _ _ _ _ _ => k
def Sm.s : Sm → ByteArray | .mk _ s _ _ _ _ _ => s
def Sm.a : Sm → Ex | .mk _ _ a _ _ _ _ => a
def Sm.e : Sm → Ex | .mk _ _ _ e _ _ _ => e
def Sm.lo : Sm → Ex | .mk _ _ _ _ lo _ _ => lo
def Sm.hi : Sm → Ex | .mk _ _ _ _ _ hi _ => hi
def Sm.body : Sm → List Sm | .mk _ _ _ _ _ _ b => b
@[simp] theorem Sm.loadK (e : Sm) (n : Nat) : loadC n false e.cells = some (.int .i64 e.k) := by cases e; rw [Sm.cells_mk]; rfl
@[simp] theorem Sm.loadS (e : Sm) (n : Nat) : loadC n false e.cells.tail = some (.str e.s) := by cases e; rw [Sm.cells_mk]; rfl
@[simp] theorem Sm.takeA (e : Sm) : List.take 4 (List.drop 2 e.cells) = e.a.cells := by cases e; rw [Sm.cells_mk]; simp [Sm.a]
@[simp] theorem Sm.takeE (e : Sm) : List.take 4 (List.drop 6 e.cells) = e.e.cells := by cases e; rw [Sm.cells_mk]; simp [Sm.e]
@[simp] theorem Sm.takeLo (e : Sm) : List.take 4 (List.drop 10 e.cells) = e.lo.cells := by cases e; rw [Sm.cells_mk]; simp [Sm.lo]
@[simp] theorem Sm.takeHi (e : Sm) : List.take 4 (List.drop 14 e.cells) = e.hi.cells := by cases e; rw [Sm.cells_mk]; simp [Sm.hi]
@[simp] theorem Sm.drop18 (e : Sm) : List.drop 18 e.cells = [.lst false 19 (e.body.map Sm.av)] := by cases e; rw [Sm.cells_mk]; simp [Sm.body]
theorem Sm.size_body (e : Sm) : e.size = 1 + sumL Sm.size e.body := by cases e; rw [Sm.size, Sm.sizes_eq]; rfl
theorem Sm.tot_parts (e : Sm) : e.tot = e.s.size + (e.a.tot + (e.e.tot + (e.lo.tot + (e.hi.tot + totL Sm.tot e.body)))) := by cases e; rw [Sm.tot_mk]; rfl
theorem Sm.tot_body (e : Sm) : totL Sm.tot e.body ≤ e.tot := by rw [e.tot_parts]; omega
theorem Sm.names_eq (q : Int) (e : Sm) : e.names q = one (e.k = q) e.s ++ Sm.namesL q e.body := by cases e; rfl
theorem Sm.exps_eq (f : Ex → List ByteArray) (e : Sm) : e.exps f = f e.a ++ (f e.e ++ (f e.lo ++ (f e.hi ++ Sm.expsL f e.body))) := by cases e; rfl
theorem Sm.nest_eq (e : Sm) (ns : List ByteArray) : e.nest ns = (decide (e.k ≠ 3) || (!has ns e.s && Sm.nests e.body (ns ++ [e.s]))) := by cases e; rfl
/-- By what holds of the parts. -/
theorem Sm.ind' {M : Sm → Prop} (h : ∀ e, (∀ x ∈ e.body, M x) → M e) (e : Sm) : M e := Sm.ind (M := M) (fun k s a e lo hi b hb => h (.mk k s a e lo hi b) hb) e
theorem Ex.ind' {M : Ex → Prop} (h : ∀ e, (∀ x ∈ e.l, M x) → M e) (e : Ex) : M e := Ex.ind (M := M) (fun k n s l hl => h (.mk k n s l) hl) e
end Go.T
namespace Go.T
open Go
theorem bl_lt : ∀ (x y : List UInt8), Op.bytesLess x y = decide (x < y)
 | [], [] => by simp [Op.bytesLess]
 | _ :: _, [] => by simp [Op.bytesLess]
 | [], _ :: _ => by simp [Op.bytesLess]
 | a :: x, b :: y => by
  rw [Op.bytesLess, bl_lt x y]
  simp only [List.cons_lt_cons_iff]
  by_cases h1 : a < b <;> by_cases h2 : a = b <;> by_cases h3 : x < y <;> simp [h1, h2, h3]
/-- A string's bytes, and back. -/
def toL (s : ByteArray) : List UInt8 := s.data.toList
def ofL (l : List UInt8) : ByteArray := ⟨l.toArray⟩
theorem ofL_toL (s : ByteArray) : ofL (toL s) = s := rfl
theorem toL_ofL (l : List UInt8) : toL (ofL l) = l := by simp [toL, ofL]
theorem toList_eq (s : ByteArray) : s.toList = toL s := Go.ByteArray.toList_eq s
theorem blt_lt (x y : ByteArray) : blt x y = decide (toL x < toL y) := by
 unfold blt
 rw [toList_eq, toList_eq, bl_lt]
theorem sorted_le (zs : List (List UInt8)) : (zs.mergeSort fun x y => decide (x ≤ y)).Pairwise fun x y => x ≤ y := by
 have := List.pairwise_mergeSort (le := fun x y : List UInt8 => decide (x ≤ y)) (fun a b c h1 h2 => by simp only [decide_eq_true_eq] at *; exact List.le_trans h1 h2) (fun a b => by simp only [Bool.or_eq_true, decide_eq_true_eq]; exact List.le_total a b) zs
 exact this.imp fun h => by simpa using h
theorem compact_asc (zs : List (List UInt8)) (h : zs.Pairwise fun x y => x ≤ y) : (Go.Lib.compact zs).Pairwise (fun x y => x < y) ∧ ∀ x, x ∈ Go.Lib.compact zs ↔ x ∈ zs := by
 unfold Go.Lib.compact Go.Lib.compactUpTo
 have hget : ∀ j, j < zs.length → zs.toArray[j]! = zs[j]! := fun j hj => by simp
 have hle : ∀ i j, i ≤ j → j < zs.length → zs[i]! ≤ zs[j]! := fun i j hij hj => by
  rw [getElem!_pos zs i (by omega), getElem!_pos zs j hj]
  rcases Nat.lt_or_eq_of_le hij with hlt | rfl
  ·exact List.pairwise_iff_getElem.1 h i j (by omega) hj hlt
  ·exact List.le_refl _
 refine ⟨?_, fun x => ?_⟩
 ·rw [List.pairwise_map]
  refine List.Pairwise.imp_of_mem ?_ (List.Pairwise.filter _ (List.pairwise_lt_range (n := zs.length)))
  intro a b ha hb hab
  obtain ⟨ha1, ha2⟩ := List.mem_filter.1 ha
  obtain ⟨hb1, hb2⟩ := List.mem_filter.1 hb
  have hbl := List.mem_range.1 hb1
  unfold Go.Lib.keeps at hb2
  simp only [decide_eq_true_eq] at hb2
  rcases hb2 with rfl | hb2
  ·omega
  rw [hget b hbl, hget (b - 1) (by omega)] at hb2
  rw [hget a (by omega), hget b hbl]
  have h1 := hle a (b - 1) (by omega) (by omega)
  have h2 := hle (b - 1) b (by omega) hbl
  have h3 : zs[b - 1]! < zs[b]! := by
   refine Classical.byContradiction fun hn => hb2 ?_
   exact List.le_antisymm (List.not_lt.1 hn) h2
  refine Classical.byContradiction fun hn => ?_
  have h4 := List.le_trans (List.not_lt.1 hn) h1
  exact absurd h3 (List.not_lt.2 h4)
 ·simp only [List.mem_map, List.mem_filter, List.mem_range]
  constructor
  ·rintro ⟨j, ⟨hj, _⟩, rfl⟩
   rw [hget j hj, getElem!_pos zs j hj]
   exact List.getElem_mem hj
  ·intro hx
   obtain ⟨j, hj, rfl⟩ := List.getElem_of_mem hx
   have key : ∀ j, j < zs.length → ∃ a, (a < zs.length ∧ Go.Lib.keeps zs.toArray a = true) ∧ zs.toArray[a]! = zs[j]! := by
    intro j
    induction j with
    | zero => intro hj; exact ⟨0, ⟨hj, by simp [Go.Lib.keeps]⟩, hget 0 hj⟩
    | succ j ih =>
     intro hj
     by_cases hk : Go.Lib.keeps zs.toArray (j + 1) = true
     ·exact ⟨j + 1, ⟨hj, hk⟩, hget _ hj⟩
     ·obtain ⟨a, ha, he⟩ := ih (by omega)
      refine ⟨a, ha, he.trans ?_⟩
      unfold Go.Lib.keeps at hk
      simp only [decide_eq_true_eq, not_or, Nat.add_one_sub_one] at hk
      have := Classical.not_not.1 hk.2
      rw [hget _ hj, hget _ (by omega)] at this
      exact this.symm
   obtain ⟨a, ha, he⟩ := key j hj
   exact ⟨a, ha, by rw [he, getElem!_pos zs j hj]⟩
/-- What 'ordered' computes. -/
theorem ordered_set (xs : List ByteArray) : (Go.Lib.compact ((xs.map toL).mergeSort fun x y => decide (x ≤ y))).map ofL = nameSet xs := by
 obtain ⟨h1, h2⟩ := compact_asc _ (sorted_le (xs.map toL))
 refine asc_ext ?_ (nameSet_asc xs) fun x => ?_
 ·unfold Asc
  rw [List.pairwise_map]
  refine h1.imp fun {a b} hab => ?_
  rw [blt_lt, toL_ofL, toL_ofL]
  simpa using hab
 ·rw [nameSet_mem, List.mem_map]
  constructor
  ·rintro ⟨a, ha, rfl⟩
   have := (List.mergeSort_perm (xs.map toL) _).mem_iff.1 ((h2 a).1 ha)
   obtain ⟨y, hy, rfl⟩ := List.mem_map.1 this
   rwa [ofL_toL]
  ·intro hx
   exact ⟨toL x, (h2 _).2 ((List.mergeSort_perm (xs.map toL) _).mem_iff.2 (List.mem_map_of_mem hx)), ofL_toL x⟩
end Go.T
namespace Go.T
open Go Go.Sort Go.Proofs
section
variable {P : Program}
theorem reps_strs {w : World} {S : Nat → Prop} : ∀ {xs : List ByteArray} {vs : List Value}, Reps w S (flat (xs.map .str)) vs → vs = xs.map Value.string
 | [], vs, h => by cases h; rfl
 | x :: xs, vs, h => by
  simp only [List.map_cons, flat, List.flatMap_cons, AV.cells, List.cons_append, List.nil_append] at h
  cases h with
  | cons h t =>
   cases h
   rw [reps_strs (xs := xs) t]
   rfl
theorem strs_reps (w : World) (S : Nat → Prop) : ∀ xs : List ByteArray, Reps w S (flat (xs.map .str)) (xs.map Value.string)
 | [] => .nil
 | x :: xs => by
  simp only [List.map_cons, flat, List.flatMap_cons, AV.cells, List.cons_append, List.nil_append]
  exact .cons (.str x) (strs_reps w S xs)
theorem putRow_at {w : World} {g : Nat} {vs us : List Value} {T : TypeId} {d : Array (List UInt8)} (hb : w.heap[g]? = some (.cells (vs ++ us).toArray T (0, 0))) (hl : d.size = vs.length) (q : Nat) (os : Array Obj) :
  (grow (putRow encStr (Sort.ahead w q) g 0 d) os).heap[g]? = some (.cells (d.toList.map encStr ++ us).toArray T (0, 0)) ∧ (∀ b, b ≠ g → b < w.heap.size → (grow (putRow encStr (Sort.ahead w q) g 0 d) os).heap[b]? = w.heap[b]?) ∧ Keep (fun b => b = g) w (grow (putRow encStr (Sort.ahead w q) g 0 d) os) := by
 have hg : g < w.heap.size := (Array.getElem?_eq_some_iff.1 hb).1
 have hsz : (putRow encStr (Sort.ahead w q) g 0 d).heap.size = w.heap.size := by simp [putRow, mapBlock, Sort.ahead]
 have hne : ∀ b, b ≠ g → b < w.heap.size → (grow (putRow encStr (Sort.ahead w q) g 0 d) os).heap[b]? = w.heap[b]? := by
  intro b hbg hbs
  rw [heap_grow_old _ _ (by rw [hsz]; exact hbs)]
  simp only [putRow, mapBlock, Sort.ahead, Array.getElem?_modify]
  rw [if_neg (fun h => hbg h.symm)]
 refine ⟨?_, hne, rfl, rfl, rfl, by rw [size_grow, hsz]; omega, fun b hb hn => hne b hn hb⟩
 rw [heap_grow_old _ _ (by rw [hsz]; exact hg)]
 simp only [putRow, mapBlock, Sort.ahead, Array.getElem?_modify, if_true, hb, Option.map_some, onCells]
 congr 2
 apply Array.ext_getElem?
 intro k
 simp only [putCells, Array.getElem?_mapIdx, List.getElem?_toArray]
 by_cases hk : k < d.size
 ·rw [List.getElem?_append_left (by omega), List.getElem?_append_left (by simp; omega)]
  rw [List.getElem?_eq_getElem (by omega)]
  simp [hk]
 ·rw [List.getElem?_append_right (by omega), List.getElem?_append_right (by simp; omega)]
  have h1 : ∀ x, (if 0 ≤ k ∧ k < 0 + d.size then encStr d[k - 0]! else x) = x := fun x => if_neg (by omega)
  simp only [h1]
  simp [hl]
/-- A call that turns a row's strings. -/
theorem WCall.row {n : FuncId} (hB : HasBody P n) {m : Mem} {g k c : Nat} {T : TypeId} {xs ys zs : List ByteArray} {r : AV} {u : Value} (hg : m g = some (.arr T 1 c (xs.map .str))) (hk : xs.length = k)
  (hlen : ys.length + zs.length = xs.length) (hr : ∀ w S, Rep w S r u)
  (hc : ∀ w, Holds encStr w g 0 (xs.map toL).toArray → g < w.heap.size → k ≤ c → Calls P n #[.slice (some ⟨g, 0, none⟩) k c] w fun e w' => e = .returned u ∧ ∃ q os, w' = grow (putRow encStr (Sort.ahead w q) g 0 ((ys ++ zs).map toL).toArray) os)
  {K : AV → Mem → Prop} (hK : K r (m.set g (.arr T 1 c (ys.map .str)))) : WCall P n [.own g k c] m K := by
 refine ⟨hB, fun w S cargs hm hargs => ?_⟩
 cases hargs with | @cons _ v _ vs hv ht =>
 cases ht
 cases hv
 obtain ⟨vs, us, hb, hreps, hl, he, hle⟩ := hm.blk g _ hg
 have hvs := reps_strs hreps
 subst hvs
 have hgs : g < w.heap.size := (Array.getElem?_eq_some_iff.1 hb).1
 have hle' : xs.length ≤ c := by simpa using hle
 have hH : Holds encStr w g 0 (xs.map toL).toArray := by
  intro j hj
  simp at hj
  constructor
  ·simp only [World.cell?, hb]
   simp [hj, encStr, toL]
   rw [List.getElem?_append_left (by simpa using hj), List.getElem?_map, List.getElem?_eq_getElem hj]
   rfl
  ·simp only [World.frozen?, hb]
   simp
 refine calls_mono (hc w hH hgs (by omega)) ?_
 rintro e w' ⟨he', q, os, hw'⟩
 subst hw'
 have hsz : (((ys ++ zs).map toL).toArray).size = (xs.map Value.string).length := by simp; omega
 obtain ⟨h1, h2, h3⟩ := putRow_at hb hsz q os
 have hnS : ∀ b, S b → b ≠ g := fun b hb h => by rw [h] at hb; have := (hm.apart g hb).1; rw [hg] at this; cases this
 have hst : Stays S w (grow (putRow encStr (Sort.ahead w q) g 0 ((ys ++ zs).map toL).toArray) os) := fun b hb => h2 b (hnS b hb) (hm.apart b hb).2
 refine ⟨u, r, _, S, he', hK, fun _ h => h, fun _ h => .inl h, ⟨fun g' b hb' => ?_, fun b hb' => ⟨?_, ?_⟩⟩, hr _ _, h3.mono (fun b h => by rw [h, hg]; simp), fun g' b hb' => ?_⟩
 ·rw [set_at] at hb'
  by_cases hgg : g' = g
  ·subst hgg
   rw [if_pos rfl] at hb'
   obtain rfl := Option.some.inj hb'
   refine ⟨ys.map Value.string, zs.map Value.string ++ us, ?_, strs_reps _ _ ys, ?_, fun x hx => ?_, ?_⟩
   ·rw [h1]
    congr 2
    have e : ((ys ++ zs).map toL).toArray.toList.map encStr = ys.map Value.string ++ zs.map Value.string := by
     simp [encStr, toL, Function.comp_def]
    rw [e, List.append_assoc]
   ·simp at hl ⊢; omega
   ·obtain ⟨y, _, rfl⟩ := List.mem_map.1 hx; rfl
   ·simp; omega
  ·rw [if_neg hgg] at hb'
   exact (hm.blk g' b hb').mono hst (fun _ h => h) (h2 g' hgg (hm.blk g' b hb').lt)
 ·rw [set_at, if_neg (hnS b hb')]; exact (hm.apart b hb').1
 ·have := (hm.apart b hb').2
  exact Nat.lt_of_lt_of_le this h3.size
 ·rw [set_at] at hb'
  by_cases hgg : g' = g
  ·subst hgg; exact .inl (by rw [hg]; simp)
  ·rw [if_neg hgg] at hb'
   exact .inl (by rw [hb']; simp)
/-- A call that answers and leaves the world as it was. -/
theorem PCall.same {n : FuncId} (hB : HasBody P n) {a r : AV} (h : ∀ w S v, Rep w S a v → ∃ u, Rep w S r u ∧ Calls P n #[v] w fun e w' => e = .returned u ∧ w' = w) : PCall P n [a] r := by
 refine ⟨hB, fun w S cargs m hm hargs => ?_⟩
 cases hargs with | @cons _ v _ vs hv ht =>
 cases ht
 obtain ⟨u, hu, hc⟩ := h w S v hv
 refine calls_mono hc ?_
 rintro e w' ⟨rfl, rfl⟩
 exact ⟨u, S, rfl, fun _ h => h, fun _ h => .inl h, hm, hu, Keep.refl _ _⟩
end
end Go.T
namespace Go.T
open Go Go.Sort Go.Proofs Go.RowKit Go.ChangeShapes
theorem View.freezeB {m : Mem} {g : Nat} {cs : List AV} (hg : m g = some (.box cs)) : View m (.ptr g 0) (m.del g) (.ref cs) := fun w S v h1 h2 => by
 obtain ⟨T, vs, hb, hr⟩ := h1.blk g _ hg
 have hSS : ∀ b, S b → S b ∨ b = g := fun b hb => .inl hb
 refine ⟨fun b => S b ∨ b = g, hSS, fun b hb => hb.imp id (fun h => by rw [h, hg]; simp), ⟨fun g' b' hg' => ?_, fun b hb' => ?_⟩, ?_, fun g' b' hg' => ?_⟩
 ·unfold Mem.del at hg'
  split at hg'
  ·cases hg'
  ·exact (h1.blk g' b' hg').mono (fun _ _ => rfl) hSS rfl
 ·rcases hb' with hb' | rfl
  ·refine ⟨?_, (h1.apart b hb').2⟩
   unfold Mem.del
   split
   ·rfl
   ·exact (h1.apart b hb').1
  ·exact ⟨by simp [Mem.del], (Array.getElem?_eq_some_iff.1 hb).1⟩
 ·cases h2
  exact .ref g 0 (.inr rfl) (Cells.of_block hb (hr.mono (fun _ _ => rfl) hSS) 0 (fun i v hv => by simpa using hv))
 ·unfold Mem.del at hg'
  split at hg'
  ·cases hg'
  ·rw [hg']; simp
theorem AWp.gen {P : Program} {N : Nat} {c : Code} {Q : Exit → St → Prop} {s : St} (F : St → Prop) (hF : F s) (h : ∀ s, F s → AWp P N c Q s) : AWp P N c Q s := h s hF
def intsA (k : IntKind) (zs : List Int) : List AV := zs.map (.int k)
theorem reps_ints {w : World} {S : Nat → Prop} {k : IntKind} : ∀ {zs : List Int} {vs : List Value}, Reps w S (intsA k zs) vs → vs = zs.map (Value.int k)
 | [], vs, h => by cases h; rfl
 | x :: xs, vs, h => by
  unfold intsA at h
  simp only [List.map_cons] at h
  cases h with
  | cons h t =>
   cases h
   rw [reps_ints (zs := xs) t]
   rfl
theorem ints_reps (w : World) (S : Nat → Prop) (k : IntKind) : ∀ zs : List Int, Reps w S (intsA k zs) (zs.map (Value.int k))
 | [] => .nil
 | x :: xs => .cons (.int k x) (ints_reps w S k xs)
/-- The table as a block. -/
def tabBlk (T : TypeId) : Blk := .arr T 1 20 (intsA .u64 Lib.pow10Tab)
theorem flat_ints (k : IntKind) : ∀ zs : List Int, flat (intsA k zs) = intsA k zs
 | [] => rfl
 | z :: zs => by
  have := flat_ints k zs
  unfold flat intsA at *
  simp only [List.map_cons, List.flatMap_cons, this]
  rfl
theorem tab_row {w : World} {S : Nat → Prop} {g : Nat} {T : TypeId} (h : BlkRep w S g (tabBlk T)) : w.heap[g]? = some (.cells (Lib.pow10Tab.map (Value.int .u64)).toArray T (0, 0)) := by
 obtain ⟨vs, us, h1, h2, h3, h4, h5⟩ := h
 rw [flat_ints] at h2
 have := reps_ints h2
 subst this
 have hu : us = [] := by
  apply List.eq_nil_of_length_eq_zero
  simp [Lib.pow10Tab_length] at h3
  simpa using h3
 subst hu
 rw [h1, List.append_nil]
theorem tab_is {P : Program} {w : World} {S : Nat → Prop} {m : Mem} {g : Nat} {T : TypeId} {name : String} (hg : P.globalNamed name = some g) (hm : MemRep w S m) (h : m g = some (tabBlk T)) : Lib.TabIs P w name .u64 Lib.pow10Tab := by
 have h1 := tab_row (hm.blk g _ h)
 unfold Lib.TabIs World.var?
 rw [hg]
 simp only [Option.bind_some, h1]
theorem wc_itoa {P : Program} {f g : Nat} {T : TypeId} (hbod : HasBody P f) (hg : P.globalNamed "internal/strconv.uint64pow10" = some g)
  (hc : ∀ (n : Int) (h0 : -9223372036854775808 ≤ n) (h1 : n ≤ 9223372036854775807) (w : World) (htab : Lib.TabIs P w "internal/strconv.uint64pow10" .u64 Lib.pow10Tab), Calls P f #[.int .i64 n] w fun e w' => e = .returned (.string ⟨(Lib.itoa n).toArray⟩) ∧ ∃ k os, w' = grow (w.drewN k) os)
  (n : Int) (h0 : -9223372036854775808 ≤ n) (h1 : n ≤ 9223372036854775807) {m : Mem} (hm : m g = some (tabBlk T)) {k : AV → Mem → Prop} (hk : k (.str ⟨(Lib.itoa n).toArray⟩) m) : WCall P f [.int .i64 n] m k := by
 refine ⟨hbod, fun w S cargs hmr hr => ?_⟩
 cases hr with
 | cons hx hnil =>
 cases hnil
 cases hx
 refine calls_mono (hc n h0 h1 w (tab_is hg hmr hm)) ?_
 rintro e w' ⟨he, q, os, hw⟩
 subst hw
 have hsame : ∀ b, b < w.heap.size → (grow (w.drewN q) os).heap[b]? = w.heap[b]? := fun b hb => heap_grow_old (w.drewN q) os hb
 have hst : Stays S w (grow (w.drewN q) os) := fun b hb => hsame b (hmr.apart b hb).2
 have hsz : w.heap.size ≤ (grow (w.drewN q) os).heap.size := by
  rw [size_grow]
  exact Nat.le_add_right _ _
 refine ⟨_, _, m, S, he, hk, fun _ h => h, fun _ h => .inl h, ⟨fun g b hb => (hmr.blk g b hb).mono hst (fun _ h => h) (hsame g (hmr.blk g b hb).lt), fun b hb => ⟨(hmr.apart b hb).1, Nat.lt_of_lt_of_le (hmr.apart b hb).2 hsz⟩⟩, .str _, ⟨rfl, rfl, rfl, hsz, fun b hb _ => hsame b hb⟩, fun g b hb => .inl (by rw [hb]; simp)⟩
/-- The memory that holds the table alone. -/
def tabMem (g : Nat) (T : TypeId) : Mem := fun k => if k = g then some (tabBlk T) else none
/-- What was there ahead of the call, but for the table. -/
def OldBut (W : World) (g : Nat) : Nat → Prop := fun b => b < W.heap.size ∧ b ≠ g
/-- The table's block, out of the row's own condition. -/
theorem tab_blk {P : Program} {W : World} {g : Nat} {t e : TypeId} {rest : List (String × DataW Unit)}
  (hg : P.globalNamed "internal/strconv.uint64pow10" = some g) (hty : (P.globals[g]?).map (·.type) = some t) (ht : P.underlying t = some (.array 20 e)) (he : P.underlying e = some (.int .u64)) (hce : P.cellsOf e = 1) (hct : P.cellsOf t = 20)
  (h : laidMet P (("internal/strconv.uint64pow10", Lib.tabData .u64 Lib.pow10Tab) :: rest) W) (S : Nat → Prop) : ∃ T, BlkRep W S g (tabBlk T) := by
 have htab : Lib.TabIs P W "internal/strconv.uint64pow10" .u64 Lib.pow10Tab := Lib.tabIs_of_head hg hty ht he hce hct h
 obtain ⟨ps, ⟨g', t', cs, fuel, p, q, hg', ht', hvar, hd, hq, rfl⟩, hnd, hrows⟩ := h
 obtain rfl := Option.some.inj (hg.symm.trans hg')
 have hcs : cs = (Lib.pow10Tab.map (Value.int .u64)).toArray := Option.some.inj (hvar.symm.trans htab)
 obtain ⟨⟨c, T, hb⟩, _⟩ := hrows g 0 (by
  rw [hcs]
  refine List.mem_append_left _ (List.mem_append_left _ ?_)
  simp [MemPlace.row, Lib.pow10Tab_length])
 unfold Lib.TabIs World.var? at htab
 rw [hg] at htab
 simp only [Option.bind_some, hb] at htab
 obtain rfl := Option.some.inj htab
 refine ⟨T, Lib.pow10Tab.map (Value.int .u64), [], ?_, ?_, by simp [Lib.pow10Tab_length], fun x hx => ?_, by simp [intsA, Lib.pow10Tab_length]⟩
 ·rw [List.append_nil]
  exact hb
 ·rw [flat_ints]
  exact ints_reps _ _ _ _
 ·obtain ⟨z, _, rfl⟩ := List.mem_map.1 hx
  rfl
theorem law_ends_tab {P : Program} {W : World} {n g : Nat} {T : TypeId} {args : List AV} {cargs : Array Value} (hb : BlkRep W (OldBut W g) g (tabBlk T)) (h : WCall P n args (tabMem g T) fun r m' => r = .bool true ∧ m' g = some (tabBlk T)) (hr : Reps W (OldBut W g) args cargs.toList) : Calls P n cargs W fun e W' => e = .returned (.bool true) ∧ Below W.heap.size W W' := by
 have hm : MemRep W (OldBut W g) (tabMem g T) := by
  refine ⟨fun k b h => ?_, fun b hb => ⟨by simp [tabMem, hb.2], hb.1⟩⟩
  unfold tabMem at h
  by_cases e : k = g
  ·rw [if_pos e] at h
   obtain rfl := Option.some.inj h
   rw [e]; exact hb
  ·rw [if_neg e] at h; cases h
 have := h.2 W (OldBut W g) cargs.toList hm hr
 rw [Array.toArray_toList] at this
 refine calls_mono this ?_
 rintro e W' ⟨v, r, m', S', he, ⟨rfl, htb⟩, h1, h2, h3, h4, h5, h6⟩
 subst he
 cases h4
 refine ⟨rfl, ⟨h5.os, h5.tape, h5.output, h5.size, fun k hk => ?_⟩⟩
 by_cases hkg : k = g
 ·rw [hkg, tab_row hb, tab_row (h3.blk _ _ htb)]
 ·exact h5.block k hk (by simp [tabMem, hkg])
end Go.T
namespace Go.T
open Go Go.Proofs
/-- A number's text. -/
def numB (n : Int) : ByteArray := ⟨(Lib.itoa n).toArray⟩
theorem size_mk (a : List UInt8) : (⟨a.toArray⟩ : ByteArray).size = a.length := by simp [ByteArray.size]
end Go.T
namespace Go.T
open Go
def ints (l : List Int) : AV := .lst false 1 (l.map (AV.int .i64))
structure Pu where
 at_ : Int
 n : Int
def Pu.cells (p : Pu) : List AV := [.int .i64 p.at_, .int .i64 p.n]
def Pu.av (p : Pu) : AV := .agg p.cells
@[simp] theorem Pu.cells_len (e : Pu) : e.cells.length = 2 := rfl
@[simp] theorem Pu.take0 (e : Pu) : List.take 2 e.cells = e.cells := rfl
@[simp] theorem Pu.cells_ok (e : Pu) : e.cells.all okCell = true := rfl
structure Hd where
 pc : Int
 stack : List Int
 regs : List Int
 shelf : List Pu
 here : Bool
 done : Bool
def Hd.cells (h : Hd) : List AV := [.int .i64 h.pc, ints h.stack, ints h.regs, .lst false 2 (h.shelf.map Pu.av), .bool h.here, .bool h.done]
def Hd.av (h : Hd) : AV := .agg h.cells
@[simp] theorem Hd.cells_len (e : Hd) : e.cells.length = 6 := rfl
@[simp] theorem Hd.take0 (e : Hd) : List.take 6 e.cells = e.cells := rfl
@[simp] theorem Hd.cells_ok (e : Hd) : e.cells.all okCell = true := rfl
def Hd.tot (h : Hd) : Nat := h.stack.length + (h.regs.length + h.shelf.length)
def Hd.fit (h : Hd) : Prop := h.stack.length ≤ most ∧ h.regs.length ≤ most ∧ h.shelf.length ≤ most
structure Mc where
 mem : List Int
 hands : List Hd
 out : List Int
 trap : Bool
def Mc.cells (m : Mc) : List AV := [ints m.mem, .lst false 6 (m.hands.map Hd.av), ints m.out, .bool m.trap]
def Mc.av (m : Mc) : AV := .agg m.cells
@[simp] theorem Mc.cells_len (e : Mc) : e.cells.length = 4 := rfl
@[simp] theorem Mc.take0 (e : Mc) : List.take 4 e.cells = e.cells := rfl
@[simp] theorem Mc.cells_ok (e : Mc) : e.cells.all okCell = true := rfl
def Mc.tot (m : Mc) : Nat := m.mem.length + (totL Hd.tot m.hands + m.out.length)
def Mc.fit (m : Mc) : Prop := m.mem.length ≤ most ∧ m.hands.length ≤ most ∧ (∀ x ∈ m.hands, x.fit) ∧ m.out.length ≤ most
end Go.T
namespace Go.T
open Go
structure Tm where
 s : ByteArray
 n : Int
def Tm.cells (t : Tm) : List AV := [.str t.s, .int .i64 t.n]
def Tm.av (t : Tm) : AV := .agg t.cells
@[simp] theorem Tm.cells_len (e : Tm) : e.cells.length = 2 := rfl
@[simp] theorem Tm.take0 (e : Tm) : List.take 2 e.cells = e.cells := rfl
@[simp] theorem Tm.cells_ok (e : Tm) : e.cells.all okCell = true := rfl
def Tm.tot (t : Tm) : Nat := t.s.size
def Tm.fit (t : Tm) : Prop := t.s.size ≤ most
structure Af where
 c : Int
 t : List Tm
def tms (l : List Tm) : AV := .lst false 2 (l.map Tm.av)
def Af.cells (a : Af) : List AV := [.int .i64 a.c, tms a.t]
def Af.av (a : Af) : AV := .agg a.cells
@[simp] theorem Af.cells_len (e : Af) : e.cells.length = 2 := rfl
@[simp] theorem Af.take0 (e : Af) : List.take 2 e.cells = e.cells := rfl
@[simp] theorem Af.cells_ok (e : Af) : e.cells.all okCell = true := rfl
def Af.tot (a : Af) : Nat := totL Tm.tot a.t
def Af.fit (a : Af) : Prop := a.t.length ≤ most ∧ ∀ x ∈ a.t, x.fit
structure Rg where
 s : ByteArray
 lo : Int
 hi : Int
def Rg.cells (r : Rg) : List AV := [.str r.s, .int .i64 r.lo, .int .i64 r.hi]
def Rg.av (r : Rg) : AV := .agg r.cells
@[simp] theorem Rg.cells_len (e : Rg) : e.cells.length = 3 := rfl
@[simp] theorem Rg.take0 (e : Rg) : List.take 3 e.cells = e.cells := rfl
@[simp] theorem Rg.cells_ok (e : Rg) : e.cells.all okCell = true := rfl
def Rg.tot (r : Rg) : Nat := r.s.size
def Rg.fit (r : Rg) : Prop := r.s.size ≤ most
/-- A place's row of a right sum. -/
def rowOk (l : List Tm) (i : Nat) : Bool :=
 match l[i]? with
 | some t => nameOk t.s && (decide (t.n ≠ 0) && (inR t.n (-100000) 100000 && (match i with
  | 0 => true
  | k + 1 => match l[k]? with | some p => blt p.s t.s | none => true)))
 | none => true
def rowsOk (l : List Tm) (n : Nat) : Bool := (List.range n).all (rowOk l)
def Af.ok (a : Af) : Bool := rowsOk a.t a.t.length && inR a.c (-100000) 100000
def rest (l : List Tm) (s : ByteArray) : List Tm := l.filter fun t => decide (t.s ≠ s)
def rgAt (l : List Rg) (s : ByteArray) : Int := at_ (l.map Rg.s) s
def boxRow (l : List Rg) (i : Nat) : Bool :=
 match l[i]? with
 | some r => nameOk r.s && (inR r.lo (-10000) 10000 && (inR r.hi (-10000) 10000 && decide (rgAt l r.s = i)))
 | none => true
def boxRows (l : List Rg) (n : Nat) : Bool := (List.range n).all (boxRow l)
def boxOk (l : List Rg) : Bool := boxRows l l.length && decide (l.length ≤ 8)
def upOk (l : List Rg) : Bool := l.all fun r => decide (r.lo ≤ r.hi)
def full (l : List Rg) : Bool := upOk l && boxOk l
end Go.T
namespace Go.T
open Go
/-- A token. -/
structure Tk where
 k : Int
 s : ByteArray
 n : Int
def Tk.cells (t : Tk) : List AV := [.int .i64 t.k, .str t.s, .int .i64 t.n]
def Tk.av (t : Tk) : AV := .agg t.cells
def figure (c : UInt8) : Bool := inR c.toNat 48 57
def marksL : List UInt8 := [59, 61, 91, 93, 40, 41, 123, 125, 43, 45, 42, 44]
/-- What figures come to. -/
def valD (l : List UInt8) : Nat := l.foldl (fun n c => n * 10 + (c.toNat - 48)) 0
def numD (l : List UInt8) : Option Int :=
 if l.length ≤ 10 ∧ l ≠ [] ∧ l.all figure = true ∧ (l.length = 1 ∨ l.head? ≠ some 48) ∧ valD l ≤ 2147483647 then some (valD l) else none
/-- The token that a text begins with, and what is behind it. -/
def tokD : List UInt8 → Option (Tk × List UInt8)
 | [] => none
 | c :: l =>
  if small c then
   if kept ⟨((c :: l).takeWhile small).toArray⟩ then some (⟨3, ⟨((c :: l).takeWhile small).toArray⟩, 0⟩, (c :: l).dropWhile small)
   else if nameOk ⟨((c :: l).takeWhile small).toArray⟩ then some (⟨1, ⟨((c :: l).takeWhile small).toArray⟩, 0⟩, (c :: l).dropWhile small) else none
  else if figure c then match numD ((c :: l).takeWhile figure) with
   | some n => if n ≤ 999999 then some (⟨2, ⟨#[]⟩, n⟩, (c :: l).dropWhile figure) else none
   | none => none
  else if marksL.contains c then some (⟨4, ⟨#[c]⟩, 0⟩, l) else none
def blank (c : UInt8) : Bool := decide (c = 32) || decide (c = 10)
/-- The tokens of a text, behind n that came; fuel: the text's length. -/
def lexD : Nat → Nat → List UInt8 → Option (List Tk)
 | _, _, [] => some []
 | 0, _, _ :: _ => none
 | k + 1, n, c :: l =>
  if blank c then lexD k n l
  else match tokD (c :: l) with
   | none => none
   | some (t, r) => if 600 ≤ n then none else (lexD k (n + 1) r).map (t :: ·)
def lex (s : ByteArray) : Option (List Tk) := if 3000 < s.size then none else lexD s.size 0 s.data.toList
theorem valD_snoc (l : List UInt8) (c : UInt8) : valD (l ++ [c]) = valD l * 10 + (c.toNat - 48) := by simp [valD]
theorem figure_le {c : UInt8} (h : figure c = true) : 48 ≤ c.toNat ∧ c.toNat ≤ 57 := by
 unfold figure inR at h
 simp at h
 omega
theorem ofNat_fig {c : UInt8} (h : figure c = true) : UInt8.ofNat (48 + (c.toNat - 48)) = c := by
 have := figure_le h
 rw [show 48 + (c.toNat - 48) = c.toNat by omega]
 simp
theorem snoc_ind {α : Type} {p : List α → Prop} (h0 : p []) (h1 : ∀ l x, p l → p (l ++ [x])) : ∀ l, p l := by
 intro l
 have : ∀ r : List α, p r.reverse := by
  intro r
  induction r with
  | nil => exact h0
  | cons x r ih => rw [List.reverse_cons]; exact h1 _ _ ih
 rw [← List.reverse_reverse l]
 exact this _
theorem valD_lt : ∀ l : List UInt8, l.all figure = true → valD l < 10 ^ l.length := by
 refine snoc_ind (by intro _; simp [valD]) fun l c ih h => ?_
 rw [List.all_append, Bool.and_eq_true] at h
 have h1 := ih h.1
 have h2 := figure_le (c := c) (by simpa using h.2)
 rw [valD_snoc, List.length_append, List.length_singleton, Nat.pow_succ]
 omega
theorem dec_head : ∀ u : Nat, u ≠ 0 → (Lib.decDigits u).head? ≠ some 48 := by
 intro u
 induction u using Nat.strongRecOn with
 | _ u ih =>
  intro hu
  rw [Lib.decDigits]
  split
  ·rename_i h
   simp only [List.head?_cons, ne_eq, Option.some.injEq]
   intro e
   have := congrArg UInt8.toNat e
   simp at this
   omega
  ·rename_i h
   have h1 := ih (u / 10) (by omega) (by omega)
   have hne : Lib.decDigits (u / 10) ≠ [] := by
    rw [Lib.decDigits]
    split <;> simp
   cases hd : Lib.decDigits (u / 10) with
   | nil => exact absurd hd hne
   | cons x l => rw [hd] at h1; simpa using h1
theorem dec_val : ∀ l : List UInt8, l ≠ [] → l.all figure = true → l.head? ≠ some 48 → Lib.decDigits (valD l) = l := by
 refine snoc_ind (fun h => absurd rfl h) fun l c ih _ h hh => ?_
 rw [List.all_append, Bool.and_eq_true] at h
 have hc : figure c = true := by simpa using h.2
 have hc2 := figure_le hc
 rw [valD_snoc]
 cases l with
 | nil =>
  rw [Lib.decDigits, dif_pos (by simp [valD]; omega)]
  simp only [valD, List.foldl_nil, Nat.zero_mul, Nat.zero_add, List.nil_append]
  rw [ofNat_fig hc]
 | cons x l =>
  have hx : (x :: l).head? ≠ some 48 := by simpa using hh
  have h1 := ih (by simp) h.1 hx
  have h0 : valD (x :: l) ≠ 0 := by
   intro e
   rw [e, Lib.decDigits, dif_pos (by omega)] at h1
   have e2 := (List.cons.inj h1).1
   exact hx (by rw [List.head?_cons, ← e2]; rfl)
  rw [Lib.decDigits, dif_neg (by omega)]
  rw [show (valD (x :: l) * 10 + (c.toNat - 48)) / 10 = valD (x :: l) by omega, show (valD (x :: l) * 10 + (c.toNat - 48)) % 10 = c.toNat - 48 by omega, h1, ofNat_fig hc]
theorem dec_iff {l : List UInt8} (h0 : l ≠ []) (h : l.all figure = true) : Lib.decDigits (valD l) = l ↔ (l.length = 1 ∨ l.head? ≠ some 48) := by
 constructor
 ·intro e
  by_cases hh : l.head? = some 48
  ·left
   by_cases hv : valD l = 0
   ·rw [hv, Lib.decDigits, dif_pos (by omega)] at e
    rw [← e]; rfl
   ·exact absurd (by rw [e]; exact hh) (dec_head _ hv)
  ·exact .inr hh
 ·intro hd
  by_cases hh : l.head? = some 48
  ·have hl : l.length = 1 := hd.resolve_right (fun h => h hh)
   match l, hl with
   | [c], _ =>
    have : c = 48 := by simpa using hh
    subst this
    rw [show valD [48] = 0 from rfl, Lib.decDigits, dif_pos (by omega)]
    rfl
  ·exact dec_val l h0 h hh
theorem numB_iff {l : List UInt8} (h0 : l ≠ []) (h : l.all figure = true) : numB (valD l) = ⟨l.toArray⟩ ↔ (l.length = 1 ∨ l.head? ≠ some 48) := by
 rw [← dec_iff h0 h]
 unfold numB Lib.itoa
 rw [if_neg (by omega)]
 simp
theorem extract_list (s : ByteArray) (a b : Nat) : s.extract a b = ⟨((s.data.toList.take b).drop a).toArray⟩ := by
 apply ByteArray.ext
 rw [ByteArray.data_extract]
 apply Array.ext'
 simp [List.extract_eq_take_drop, List.drop_take]
theorem list_mk (l : List UInt8) : (⟨l.toArray⟩ : ByteArray).data.toList = l := by simp
theorem takeW_append {α : Type} (p : α → Bool) : ∀ (l : List α) (i : Nat), (∀ x ∈ l.take i, p x = true) → l.takeWhile p = l.take i ++ (l.drop i).takeWhile p
 | [], i, _ => by simp
 | x :: l, 0, _ => by simp
 | x :: l, i + 1, h => by
  have h1 : p x = true := h x (by simp)
  have h2 := takeW_append p l i fun y hy => h y (by simp [hy])
  simp [List.takeWhile_cons, h1, h2]
theorem dropW_drop {α : Type} (p : α → Bool) : ∀ l : List α, l.dropWhile p = l.drop (l.takeWhile p).length
 | [] => rfl
 | x :: l => by
  by_cases h : p x = true
  ·simp [List.dropWhile_cons, List.takeWhile_cons, h, dropW_drop p l]
  ·simp [List.dropWhile_cons, List.takeWhile_cons, h]
theorem takeW_take {α : Type} (p : α → Bool) : ∀ l : List α, l.take (l.takeWhile p).length = l.takeWhile p
 | [] => rfl
 | x :: l => by
  by_cases h : p x = true
  ·simp [List.takeWhile_cons, h, takeW_take p l]
  ·simp [List.takeWhile_cons, h]
theorem idxB_ge : ∀ (l : List UInt8) (c : UInt8), -1 ≤ Lib.indexByte l c
 | [], c => by show (-1 : Int) ≤ -1; omega
 | b :: l, c => by
  have ih := idxB_ge l c
  have e : Lib.indexByte (b :: l) c = if b == c then 0 else if Lib.indexByte l c == -1 then -1 else Lib.indexByte l c + 1 := rfl
  rw [e]
  split
  ·omega
  ·split
   ·omega
   ·omega
theorem marks_has : ∀ (l : List UInt8) (c : UInt8), decide (0 ≤ Lib.indexByte l c) = l.contains c
 | [], c => rfl
 | b :: l, c => by
  have ih := marks_has l c
  have hge := idxB_ge l c
  have e : Lib.indexByte (b :: l) c = if b == c then 0 else if Lib.indexByte l c == -1 then -1 else Lib.indexByte l c + 1 := rfl
  rw [List.contains_cons, ← ih, e]
  by_cases hb : b = c
  ·subst hb; simp
  ·have hb2 : (b == c) = false := by simpa using hb
   have hb3 : (c == b) = false := by simpa using Ne.symm hb
   rw [hb2, hb3, Bool.false_or]
   simp only [Bool.false_eq_true, if_false]
   split
   ·rename_i h
    have h : Lib.indexByte l c = -1 := by simpa using h
    rw [h]
   ·rename_i h
    have h : Lib.indexByte l c ≠ -1 := by simpa using h
    simp only [decide_eq_decide]
    omega
end Go.T
namespace Go.T
open Go
def Tk.is (t : Tk) (k : Int) (s : ByteArray) : Bool := decide (t.k = k) && decide (t.s = s)
def ch (c : UInt8) : ByteArray := ⟨#[c]⟩
/-- A sign is taken. -/
def tkS (k : Int) (s : ByteArray) : List Tk → Option (List Tk)
 | [] => none
 | t :: r => if t.is k s then some r else none
abbrev PE := List Tk → Option (Ex × List Tk)
def two (k : Int) (a b : Ex) : Ex := .mk k 0 ⟨#[]⟩ [a, b]
def minB : ByteArray := ⟨#[109, 105, 110]⟩
def maxB : ByteArray := ⟨#[109, 97, 120]⟩
/-- Two in brackets. -/
def pairP (sub : PE) (k : Int) : PE := fun ts =>
 (tkS 4 (ch 40) ts).bind fun t1 => (sub t1).bind fun (a, t2) => (tkS 4 (ch 44) t2).bind fun t3 => (sub t3).bind fun (b, t4) => (tkS 4 (ch 41) t4).bind fun t5 => some (two k a b, t5)
def atomP (sub : PE) : PE
 | [] => none
 | t :: r =>
  if t.k = 2 then some (.mk 1 t.n ⟨#[]⟩ [], r)
  else if t.k = 1 then match tkS 4 (ch 91) r with
   | none => some (.mk 2 0 t.s [], r)
   | some r1 => (sub r1).bind fun (e, r2) => (tkS 4 (ch 93) r2).bind fun r3 => some (.mk 3 0 t.s [e], r3)
  else if t.is 4 (ch 40) then (sub r).bind fun (e, r1) => (tkS 4 (ch 41) r1).bind fun r2 => some (e, r2)
  else if t.is 3 minB then pairP sub 7 r
  else if t.is 3 maxB then pairP sub 8 r
  else none
def mulsP (sub : PE) : Nat → Ex → PE
 | 0, e, ts => some (e, ts)
 | k + 1, e, ts => match tkS 4 (ch 42) ts with
  | none => some (e, ts)
  | some r => (atomP sub r).bind fun (x, r1) => mulsP sub k (two 6 e x) r1
def mulP (sub : PE) : PE := fun ts => (atomP sub ts).bind fun (e, r) => mulsP sub r.length e r
def addsP (sub : PE) : Nat → Ex → PE
 | 0, e, ts => some (e, ts)
 | k + 1, e, ts => match tkS 4 (ch 43) ts with
  | some r => (mulP sub r).bind fun (x, r1) => addsP sub k (two 4 e x) r1
  | none => match tkS 4 (ch 45) ts with
   | some r => (mulP sub r).bind fun (x, r1) => addsP sub k (two 5 e x) r1
   | none => some (e, ts)
/-- A sum, so many deep at most. -/
def sumP : Nat → PE
 | 0 => fun _ => none
 | d + 1 => fun ts => (mulP (sumP d) ts).bind fun (e, r) => addsP (sumP d) r.length e r
end Go.T
namespace Go.T
open Go
def sumN : List Ar → Int
 | [] => 0
 | a :: l => a.n + sumN l
theorem sumN_le : ∀ l : List Ar, (∀ a ∈ l, inR a.n 1 16 = true) → 0 ≤ sumN l ∧ sumN l ≤ 16 * l.length
 | [], _ => by simp [sumN]
 | a :: l, h => by
  have h1 := h a (List.mem_cons_self ..)
  have h2 := sumN_le l fun x hx => h x (List.mem_cons_of_mem _ hx)
  unfold inR at h1
  simp at h1
  simp only [sumN, List.length_cons]
  omega
theorem arrs_in : ∀ (A : List Ar) (pr : Option ByteArray), arrsFrom pr A = true → ∀ a ∈ A, inR a.n 1 16 = true
 | [], _, _, a, h => by cases h
 | x :: l, pr, h, a, ha => by
  have h' : (nameOk x.s && (inR x.n 1 16 && (pr.elim true (fun q => blt q x.s) && arrsFrom (some x.s) l))) = true := by cases pr <;> exact h
  simp only [Bool.and_eq_true] at h'
  rcases List.mem_cons.1 ha with rfl | ha
  ·exact h'.2.1
  ·exact arrs_in l _ h'.2.2.2 a ha
structure Pg.Fine (p : Pg) : Prop where
 arrs : p.arrs.length ≤ 4
 sizes : ∀ a ∈ p.arrs, inR a.n 1 16 = true
 vars : p.vars.length ≤ 6
 body : p.body.length ≤ 12
theorem Pg.fine {p : Pg} (h : p.ok = true) : p.Fine := by
 unfold Pg.ok Pg.head Pg.namesB at h
 simp only [Bool.and_eq_true, decide_eq_true_eq] at h
 obtain ⟨⟨h1, h2, h3, h4⟩, h5⟩ := h
 exact ⟨h2, arrs_in _ _ h1, h5.2.2.2.2.2.2.2, h3⟩
def Pg.size (p : Pg) : Int := sumN p.arrs
theorem Pg.Fine.take {p : Pg} (h : p.Fine) (k : Nat) : 0 ≤ sumN (p.arrs.take k) ∧ sumN (p.arrs.take k) ≤ 64 := by
 have h1 := sumN_le (p.arrs.take k) fun a ha => h.sizes a (List.mem_of_mem_take ha)
 have h2 : (p.arrs.take k).length ≤ 4 := by rw [List.length_take]; have := h.arrs; omega
 omega
theorem Pg.Fine.size {p : Pg} (h : p.Fine) : 0 ≤ p.size ∧ p.size ≤ 64 := by
 have := h.take p.arrs.length
 rwa [List.take_length] at this
def Pg.regs (p : Pg) : List ByteArray := nameSet (p.loops ++ p.vars)
/-- Where words begin that are no array's; -1: it is no program. -/
def Pg.v0 (p : Pg) : Int := if p.ok = true then p.size else -1
end Go.T
namespace Go.T
open Go
mutual
/-- A tree that may be written: its blocks, the value, what it looks like. -/
inductive OwnT (m : Mem) : (Nat → Prop) → AV → AV → Prop
 | int {F : Nat → Prop} (k : IntKind) (n : Int) : OwnT m F (.int k n) (.int k n)
 | bool {F : Nat → Prop} (b : Bool) : OwnT m F (.bool b) (.bool b)
 | str {F : Nat → Prop} (s : ByteArray) : OwnT m F (.str s) (.str s)
 | nil {F : Nat → Prop} (f : Bool) (e e' : Nat) : OwnT m F (.lst f e []) (.lst false e' [])
 | own {F G : Nat → Prop} {g n c e : Nat} {T : TypeId} {ys xs : List AV} : m g = some (.arr T e c ys) → ys.length = n → OwnTs m G ys xs → ¬ G g → (∀ b, G b → F b) → F g → OwnT m F (.own g n c) (.lst false e xs)
 | agg {F : Nat → Prop} {as xs : List AV} : OwnTs m F as xs → as.all okCell = true → OwnT m F (.agg as) (.agg xs)
inductive OwnTs (m : Mem) : (Nat → Prop) → List AV → List AV → Prop
 | nil {F : Nat → Prop} : OwnTs m F [] []
 | cons {F A B : Nat → Prop} {a x : AV} {as xs : List AV} : OwnT m A a x → OwnTs m B as xs → (∀ g, A g → ¬ B g) → (∀ g, A g → F g) → (∀ g, B g → F g) → OwnTs m F (a :: as) (x :: xs)
end
mutual
theorem OwnT.len {m : Mem} {F : Nat → Prop} {a x : AV} : OwnT m F a x → a.cells.length = x.cells.length
 | .int _ _ => rfl
 | .bool _ => rfl
 | .str _ => rfl
 | .nil _ _ _ => rfl
 | .own _ _ _ _ _ _ => rfl
 | .agg h _ => OwnTs.len h
theorem OwnTs.len {m : Mem} {F : Nat → Prop} {as xs : List AV} : OwnTs m F as xs → as.length = xs.length
 | .nil => rfl
 | .cons _ h _ _ _ => by simp [OwnTs.len h]
end
theorem OwnTs.size {m : Mem} {F : Nat → Prop} {as xs : List AV} {e : Nat} (h : OwnTs m F as xs) (he : ∀ a ∈ as, a.cells.length = e) : ∀ x ∈ xs, x.cells.length = e := by
 induction as generalizing F xs with
 | nil => cases h; exact fun x hx => by cases hx
 | cons a as ih =>
  cases h with | cons h1 h2 _ _ _ =>
  intro x hx
  rcases List.mem_cons.1 hx with rfl | hx
  ·rw [← h1.len]; exact he _ (List.mem_cons_self ..)
  ·exact ih h2 (fun y hy => he y (List.mem_cons_of_mem _ hy)) x hx
mutual
theorem OwnT.up {m : Mem} {F F' : Nat → Prop} {a x : AV} (hF : ∀ g, F g → F' g) : OwnT m F a x → OwnT m F' a x
 | .int k n => .int k n
 | .bool b => .bool b
 | .str s => .str s
 | .nil f e e' => .nil f e e'
 | .own h1 h2 h3 h4 h5 h6 => .own h1 h2 h3 h4 (fun b hb => hF b (h5 b hb)) (hF _ h6)
 | .agg h k => .agg (OwnTs.up hF h) k
theorem OwnTs.up {m : Mem} {F F' : Nat → Prop} {as xs : List AV} (hF : ∀ g, F g → F' g) : OwnTs m F as xs → OwnTs m F' as xs
 | .nil => .nil
 | .cons h1 h2 h3 h4 h5 => .cons h1 h2 h3 (fun g hg => hF g (h4 g hg)) (fun g hg => hF g (h5 g hg))
end
mutual
/-- The same under a memory that has the same blocks there. -/
theorem OwnT.mem {m m' : Mem} {F : Nat → Prop} {a x : AV} (hm : ∀ g, F g → m' g = m g) : OwnT m F a x → OwnT m' F a x
 | .int k n => .int k n
 | .bool b => .bool b
 | .str s => .str s
 | .nil f e e' => .nil f e e'
 | .own h1 h2 h3 h4 h5 h6 => .own ((hm _ h6).trans h1) h2 (OwnTs.mem (fun b hb => hm b (h5 b hb)) h3) h4 h5 h6
 | .agg h k => .agg (OwnTs.mem hm h) k
theorem OwnTs.mem {m m' : Mem} {F : Nat → Prop} {as xs : List AV} (hm : ∀ g, F g → m' g = m g) : OwnTs m F as xs → OwnTs m' F as xs
 | .nil => .nil
 | .cons h1 h2 h3 h4 h5 => .cons (OwnT.mem (fun g hg => hm g (h4 g hg)) h1) (OwnTs.mem (fun g hg => hm g (h5 g hg)) h2) h3 h4 h5
end
mutual
/-- A tree has a footprint of blocks that are there. -/
theorem OwnT.dom {m : Mem} {F : Nat → Prop} {a x : AV} : OwnT m F a x → ∃ G : Nat → Prop, OwnT m G a x ∧ (∀ g, G g → F g) ∧ ∀ g, G g → m g ≠ none
 | .int k n => ⟨fun _ => False, .int k n, fun _ h => h.elim, fun _ h => h.elim⟩
 | .bool b => ⟨fun _ => False, .bool b, fun _ h => h.elim, fun _ h => h.elim⟩
 | .str s => ⟨fun _ => False, .str s, fun _ h => h.elim, fun _ h => h.elim⟩
 | .nil f e e' => ⟨fun _ => False, .nil f e e', fun _ h => h.elim, fun _ h => h.elim⟩
 | @OwnT.own _ _ G g n c e T ys xs h1 h2 h3 h4 h5 h6 =>
  let ⟨G', k1, k2, k3⟩ := OwnTs.dom h3
  ⟨fun b => G' b ∨ b = g, .own h1 h2 k1 (fun h => h4 (k2 _ h)) (fun b hb => .inl hb) (.inr rfl), fun b hb => hb.elim (fun h => h5 b (k2 b h)) (fun h => h ▸ h6), fun b hb => hb.elim (k3 b) (fun h => by rw [h, h1]; simp)⟩
 | .agg h k => let ⟨G', k1, k2, k3⟩ := OwnTs.dom h; ⟨G', .agg k1 k, k2, k3⟩
theorem OwnTs.dom {m : Mem} {F : Nat → Prop} {as xs : List AV} : OwnTs m F as xs → ∃ G : Nat → Prop, OwnTs m G as xs ∧ (∀ g, G g → F g) ∧ ∀ g, G g → m g ≠ none
 | .nil => ⟨fun _ => False, .nil, fun _ h => h.elim, fun _ h => h.elim⟩
 | .cons h1 h2 h3 h4 h5 =>
  let ⟨A, a1, a2, a3⟩ := OwnT.dom h1
  let ⟨B, b1, b2, b3⟩ := OwnTs.dom h2
  ⟨fun g => A g ∨ B g, .cons a1 b1 (fun g hA hB => h3 g (a2 g hA) (b2 g hB)) (fun g h => .inl h) (fun g h => .inr h), fun g h => h.elim (fun h => h4 g (a2 g h)) (fun h => h5 g (b2 g h)), fun g h => h.elim (a3 g) (b3 g)⟩
end
section
variable {w : World} {S G : Nat → Prop} {m : Mem}
mutual
/-- Read as what it looks like, its blocks not being written. -/
theorem OwnT.rep (hm : MemRep w S m) {F : Nat → Prop} (hG : ∀ g, F g → G g) {a x : AV} : OwnT m F a x → (∀ v, Rep w S a v → Rep w (fun b => S b ∨ G b) x v) ∧ (∀ vs, Reps w S a.cells vs → Reps w (fun b => S b ∨ G b) x.cells vs)
 | .int k n => ⟨fun v h => h.mono (fun _ _ => rfl) (fun _ h => .inl h), fun vs h => h.mono (fun _ _ => rfl) (fun _ h => .inl h)⟩
 | .bool b => ⟨fun v h => h.mono (fun _ _ => rfl) (fun _ h => .inl h), fun vs h => h.mono (fun _ _ => rfl) (fun _ h => .inl h)⟩
 | .str s => ⟨fun v h => h.mono (fun _ _ => rfl) (fun _ h => .inl h), fun vs h => h.mono (fun _ _ => rfl) (fun _ h => .inl h)⟩
 | .nil f e e' => by
  have key : ∀ v, Rep w S (.lst f e []) v → Rep w (fun b => S b ∨ G b) (.lst false e' []) v := fun v h => by
   cases h with
   | lnil _ _ A c hc => exact .lnil _ _ A c (fun h => by cases h)
   | lst _ _ b o c h1 h2 h3 h4 h5 => exact .lnil _ _ _ c (fun h => by cases h)
  exact ⟨key, fun vs h => by
   cases h with | cons h1 h2 => cases h2; exact .cons (key _ h1) .nil⟩
 | @OwnT.own _ _ G' g n c e T ys xs h1 h2 h3 h4 h5 h6 => by
  have key : ∀ v, Rep w S (.own g n c) v → Rep w (fun b => S b ∨ G b) (.lst false e xs) v := fun v h => by
   obtain ⟨vs, us, hb, hr, hl, he, hle⟩ := hm.blk g _ h1
   have hf := (OwnTs.rep hm (fun b hb => hG b (h5 b hb)) h3).2 vs hr
   cases h
   have hn : n = xs.length := h2.symm.trans h3.len
   subst hn
   exact .lst false e g 0 c (.inr (hG g h6)) (h3.size he) (by rw [← h3.len]; exact hle) (fun h => by cases h) (Cells.of_block hb hf 0 (fun i v hv => by
    have : i < vs.length := (List.getElem?_eq_some_iff.1 hv).1
    simp [List.getElem?_append_left this, hv]))
  exact ⟨key, fun vs h => by
   cases h with | cons h1 h2 => cases h2; exact .cons (key _ h1) .nil⟩
 | .agg h _ => ⟨fun v hv => by cases hv with | agg hr => exact .agg ((OwnTs.rep hm hG h).1 _ hr), fun vs hr => (OwnTs.rep hm hG h).1 vs hr⟩
theorem OwnTs.rep (hm : MemRep w S m) {F : Nat → Prop} (hG : ∀ g, F g → G g) {as xs : List AV} : OwnTs m F as xs → (∀ vs, Reps w S as vs → Reps w (fun b => S b ∨ G b) xs vs) ∧ (∀ vs, Reps w S (flat as) vs → Reps w (fun b => S b ∨ G b) (flat xs) vs)
 | .nil => ⟨fun vs h => by cases h; exact .nil, fun vs h => by cases h; exact .nil⟩
 | .cons h1 h2 _ h4 h5 => by
  have r1 := OwnT.rep hm (fun g hg => hG g (h4 g hg)) h1
  have r2 := OwnTs.rep hm (fun g hg => hG g (h5 g hg)) h2
  refine ⟨fun vs h => by cases h with | cons k1 k2 => exact .cons (r1.1 _ k1) (r2.1 _ k2), fun vs h => ?_⟩
  simp only [flat, List.flatMap_cons] at h ⊢
  obtain ⟨us, ws, rfl, k1, k2⟩ := h.split
  exact (r1.2 _ k1).append (r2.2 _ k2)
end
end
open Classical in
/-- The memory without some blocks. -/
noncomputable def Mem.without (m : Mem) (F : Nat → Prop) : Mem := fun g => if F g then none else m g
theorem memRep_without {w : World} {S F : Nat → Prop} {m : Mem} (hm : MemRep w S m) (hF : ∀ g, F g → m g ≠ none) : MemRep w (fun b => S b ∨ F b) (m.without F) := by
 refine ⟨fun g b hg => ?_, fun b hb => ?_⟩
 ·unfold Mem.without at hg
  split at hg
  ·cases hg
  ·exact (hm.blk g b hg).mono (fun _ _ => rfl) (fun _ h => .inl h) rfl
 ·unfold Mem.without
  rcases hb with hb | hb
  ·refine ⟨?_, (hm.apart b hb).2⟩
   split
   ·rfl
   ·exact (hm.apart b hb).1
  ·refine ⟨if_pos hb, ?_⟩
   cases hq : m b with
   | none => exact absurd hq (hF b hb)
   | some x => exact (hm.blk b x hq).lt
theorem OwnT.view {m : Mem} {F : Nat → Prop} {a x : AV} (h : OwnT m F a x) : ∃ m', View m a m' x ∧ ∀ g, ¬ F g → m' g = m g := by
 obtain ⟨G, h1, h2, h3⟩ := h.dom
 refine ⟨m.without G, fun w S v hm hv => ⟨fun b => S b ∨ G b, fun _ h => .inl h, fun b hb => hb.imp id (h3 b), memRep_without hm h3, (h1.rep hm (fun _ h => h)).1 v hv, fun g b hg => ?_⟩, fun g hg => if_neg fun h => hg (h2 g h)⟩
 unfold Mem.without at hg
 split at hg
 ·cases hg
 ·rw [hg]; simp
/-- Arguments seen as others, some blocks not being written. -/
def Lent (m : Mem) (F : Nat → Prop) (as xs : List AV) : Prop := (∀ g, F g → m g ≠ none) ∧ ∀ w S vs, MemRep w S m → Reps w S as vs → Reps w (fun b => S b ∨ F b) xs vs
theorem Lent.nil (m : Mem) : Lent m (fun _ => False) [] [] := ⟨fun _ h => h.elim, fun w S vs _ h => by cases h; exact .nil⟩
theorem Lent.same {m : Mem} {F : Nat → Prop} {as xs : List AV} (h : Lent m F as xs) (a : AV) : Lent m F (a :: as) (a :: xs) :=
 ⟨h.1, fun w S vs hm hr => by cases hr with | cons k1 k2 => exact .cons (k1.mono (fun _ _ => rfl) (fun _ h => .inl h)) (h.2 w S _ hm k2)⟩
theorem Lent.own {m : Mem} {F A : Nat → Prop} {as xs : List AV} (h : Lent m F as xs) {a x : AV} (ha : OwnT m A a x) : ∃ F', Lent m F' (a :: as) (x :: xs) := by
 obtain ⟨G, h1, h2, h3⟩ := ha.dom
 refine ⟨fun b => F b ∨ G b, fun g hg => hg.elim (h.1 g) (h3 g), fun w S vs hm hr => ?_⟩
 cases hr with | cons k1 k2 =>
 exact .cons (((h1.rep hm (G := fun b => F b ∨ G b) (fun _ h => .inr h)).1 _ k1)) ((h.2 w S _ hm k2).mono (fun _ _ => rfl) (fun b hb => hb.imp id .inl))
theorem Lent.all {m : Mem} (as : List AV) : Lent m (fun _ => False) as as := by
 induction as with
 | nil => exact .nil m
 | cons a as ih => exact ih.same a
/-- What tells nothing of blocks that are not written. -/
def solidC : AV → Bool
 | .int .. | .bool _ | .str _ | .nilp | .ptr .. | .own .. | .elt .. | .lst _ _ [] => true
 | _ => false
def solid : AV → Bool
 | .agg cs => cs.all solidC
 | .tup cs => cs.all solidC
 | a => solidC a
theorem solidC_rep {w w' : World} {S S' : Nat → Prop} {a : AV} {v : Value} (ha : solidC a = true) (h : Rep w S a v) : Rep w' S' a v := by
 cases h <;> first | exact .int _ _ | exact .bool _ | exact .str _ | exact .nilp | exact .ptr _ _ | exact .own _ _ _ | exact .elt _ _ _ _ | exact .lnil _ _ _ _ ‹_› | (cases ha; done) | skip
 rename_i f xs e b o c h1 h2 h3 h4 h5
 cases xs with
 | nil => exact .lnil _ _ _ _ h4
 | cons x xs => cases ha
theorem solidC_reps {w w' : World} {S S' : Nat → Prop} {as : List AV} {vs : List Value} (ha : as.all solidC = true) (h : Reps w S as vs) : Reps w' S' as vs := by
 induction as generalizing vs with
 | nil => cases h; exact .nil
 | cons a as ih =>
  cases h with | cons h t =>
  rw [List.all_cons, Bool.and_eq_true] at ha
  exact .cons (solidC_rep ha.1 h) (ih ha.2 t)
theorem solid_rep {w w' : World} {S S' : Nat → Prop} {a : AV} {v : Value} (ha : solid a = true) (h : Rep w S a v) : Rep w' S' a v := by
 cases a with
 | agg cs => cases h with | agg hr => exact .agg (solidC_reps ha hr)
 | tup cs => cases h with | tup hr => exact .tup (solidC_reps ha hr)
 | _ => exact solidC_rep ha h
def solidB : Blk → Prop
 | .box cs => cs.all solidC = true
 | .arr _ _ _ xs => (flat xs).all solidC = true
theorem solidB_rep {w w' : World} {S S' : Nat → Prop} {g : Nat} {b : Blk} (hb : solidB b) (hg : w'.heap[g]? = w.heap[g]?) (h : BlkRep w S g b) : BlkRep w' S' g b := by
 cases b with
 | box cs => obtain ⟨T, vs, h1, h2⟩ := h; exact ⟨T, vs, hg.trans h1, solidC_reps hb h2⟩
 | arr T e c xs => obtain ⟨vs, us, h1, h2, h3⟩ := h; exact ⟨vs, us, hg.trans h1, solidC_reps hb h2, h3⟩
theorem OwnT.solidc {m : Mem} {F : Nat → Prop} {a x : AV} (h : OwnT m F a x) (ha : okCell a = true) : solidC a = true := by
 cases h <;> first | rfl | cases ha
theorem OwnTs.solidc {m : Mem} {F : Nat → Prop} {as xs : List AV} (h : OwnTs m F as xs) (ha : as.all okCell = true) : as.all solidC = true := by
 induction as generalizing F xs with
 | nil => rfl
 | cons a as ih =>
  cases h with | cons h1 h2 _ _ _ =>
  rw [List.all_cons, Bool.and_eq_true] at ha ⊢
  exact ⟨h1.solidc ha.1, ih h2 ha.2⟩
theorem OwnT.cells_solid {m : Mem} {F : Nat → Prop} {a x : AV} (h : OwnT m F a x) : a.cells.all solidC = true := by
 cases h with
 | agg h k => exact h.solidc k
 | _ => rfl
theorem OwnT.solid {m : Mem} {F : Nat → Prop} {a x : AV} (h : OwnT m F a x) : solid a = true := by
 cases h with
 | agg h k => exact h.solidc k
 | _ => rfl
theorem OwnTs.flat_solid {m : Mem} {F : Nat → Prop} {as xs : List AV} (h : OwnTs m F as xs) : (flat as).all solidC = true := by
 induction as generalizing F xs with
 | nil => rfl
 | cons a as ih =>
  cases h with | cons h1 h2 _ _ _ =>
  simp only [flat, List.flatMap_cons, List.all_append, Bool.and_eq_true]
  exact ⟨h1.cells_solid, ih h2⟩
mutual
theorem OwnT.doms {m : Mem} {F : Nat → Prop} {a x : AV} : OwnT m F a x → ∃ G : Nat → Prop, OwnT m G a x ∧ (∀ g, G g → F g) ∧ ∀ g, G g → ∃ b, m g = some b ∧ solidB b
 | .int k n => ⟨fun _ => False, .int k n, fun _ h => h.elim, fun _ h => h.elim⟩
 | .bool b => ⟨fun _ => False, .bool b, fun _ h => h.elim, fun _ h => h.elim⟩
 | .str s => ⟨fun _ => False, .str s, fun _ h => h.elim, fun _ h => h.elim⟩
 | .nil f e e' => ⟨fun _ => False, .nil f e e', fun _ h => h.elim, fun _ h => h.elim⟩
 | @OwnT.own _ _ G g n c e T ys xs h1 h2 h3 h4 h5 h6 =>
  let ⟨G', k1, k2, k3⟩ := OwnTs.doms h3
  ⟨fun b => G' b ∨ b = g, .own h1 h2 k1 (fun h => h4 (k2 _ h)) (fun b hb => .inl hb) (.inr rfl), fun b hb => hb.elim (fun h => h5 b (k2 b h)) (fun h => h ▸ h6), fun b hb => hb.elim (k3 b) (fun h => ⟨.arr T e c ys, h ▸ h1, h3.flat_solid⟩)⟩
 | .agg h k => let ⟨G', k1, k2, k3⟩ := OwnTs.doms h; ⟨G', .agg k1 k, k2, k3⟩
theorem OwnTs.doms {m : Mem} {F : Nat → Prop} {as xs : List AV} : OwnTs m F as xs → ∃ G : Nat → Prop, OwnTs m G as xs ∧ (∀ g, G g → F g) ∧ ∀ g, G g → ∃ b, m g = some b ∧ solidB b
 | .nil => ⟨fun _ => False, .nil, fun _ h => h.elim, fun _ h => h.elim⟩
 | .cons h1 h2 h3 h4 h5 =>
  let ⟨A, a1, a2, a3⟩ := OwnT.doms h1
  let ⟨B, b1, b2, b3⟩ := OwnTs.doms h2
  ⟨fun g => A g ∨ B g, .cons a1 b1 (fun g hA hB => h3 g (a2 g hA) (b2 g hB)) (fun g h => .inl h) (fun g h => .inr h), fun g h => h.elim (fun h => h4 g (a2 g h)) (fun h => h5 g (b2 g h)), fun g h => h.elim (a3 g) (b3 g)⟩
end
def Mem.join (m m1 : Mem) : Mem := fun g => match m g with | some b => some b | none => m1 g
theorem join_ext (m m1 : Mem) : Ext m (m.join m1) := fun g b h => by unfold Mem.join; rw [h]
/-- A call that only answers, of what is lent to it. -/
theorem PCall.lend {P : Program} {n : FuncId} {args args' : List AV} {r : AV} {m : Mem} {F : Nat → Prop} (h : PCall P n args' r) (hl : Lent m F args args') (hr : solid r = true) {K : AV → Mem → Prop} (hK : K r m) : WCall P n args m K := by
 refine ⟨h.1, fun w S cargs hm ha => calls_mono (h.2 w _ cargs _ (memRep_without hm hl.1) (hl.2 w S cargs hm ha)) ?_⟩
 rintro e w' ⟨v, S', he, h1, h2, h3, h4, h5⟩
 refine ⟨v, r, m, S, he, hK, fun _ h => h, fun _ h => .inl h, ⟨fun g b hg => ?_, fun b hb => ⟨(hm.apart b hb).1, Nat.lt_of_lt_of_le (hm.apart b hb).2 h5.size⟩⟩, solid_rep hr h4, h5.mono (fun _ h => h.elim), fun g b hg => .inl (by rw [hg]; simp)⟩
 exact (hm.blk g b hg).mono (fun b' hb' => h5.block b' (hm.apart b' hb').2 id) (fun _ h => h) (h5.block g (hm.blk g b hg).lt id)
/-- A call whose answer is its own: what it looks like. -/
def OwnR (x : AV) (r : AV) (m : Mem) : Prop := ∃ F : Nat → Prop, OwnT m F r x ∧ solid r = true ∧ ∀ g b, m g = some b → solidB b
def OCall (P : Program) (n : FuncId) (args : List AV) (x : AV) : Prop := WCall P n args (fun _ => none) (OwnR x)
theorem WCall.lend {P : Program} {n : FuncId} {args args' : List AV} {m : Mem} {F : Nat → Prop} {Q K : AV → Mem → Prop} (h : WCall P n args' (fun _ => none) Q) (hl : Lent m F args args')
  (hQ : ∀ r m1, Q r m1 → (∀ g, m1 g ≠ none → m g = none) → solid r = true ∧ (∀ g b, m1 g = some b → solidB b) ∧ K r (m.join m1)) : WCall P n args m K := by
 have hm0 : ∀ {w S}, MemRep w S m → MemRep w (fun b => S b ∨ F b) (fun _ => none) := fun hm => ⟨fun g b h => (by cases h), fun b hb => ⟨rfl, ((memRep_without hm hl.1).apart b hb).2⟩⟩
 refine ⟨h.1, fun w S cargs hm ha => calls_mono (h.2 w _ cargs (hm0 hm) (hl.2 w S cargs hm ha)) ?_⟩
 rintro e w' ⟨v, r, m1, S', he, hq, h1, h2, h3, h4, h5, h6⟩
 have hk : Keep (fun _ => False) w w' := h5.mono (fun b h => absurd rfl h)
 have hnew : ∀ g, m1 g ≠ none → w.heap.size ≤ g := fun g hg => by
  cases hq : m1 g with
  | none => exact absurd hq hg
  | some b => exact (h6 g b hq).elim (fun h => absurd rfl h) id
 have hfree : ∀ g, m1 g ≠ none → m g = none := fun g hg => by
  cases hq : m g with
  | none => rfl
  | some b => have := (hm.blk g b hq).lt; have := hnew g hg; omega
 obtain ⟨s1, s2, hK⟩ := hQ r m1 hq hfree
 refine ⟨v, r, m.join m1, S, he, hK, fun _ h => h, fun _ h => .inl h, ⟨fun g b hg => ?_, fun b hb => ⟨?_, Nat.lt_of_lt_of_le (hm.apart b hb).2 hk.size⟩⟩, solid_rep s1 h4, hk.mono (fun _ h => h.elim), fun g b hg => ?_⟩
 ·unfold Mem.join at hg
  cases hq : m g with
  | some b' =>
   rw [hq] at hg
   obtain rfl := Option.some.inj hg
   exact (hm.blk g _ hq).mono (fun b' hb' => hk.block b' (hm.apart b' hb').2 id) (fun _ h => h) (hk.block g (hm.blk g _ hq).lt id)
  | none =>
   rw [hq] at hg
   exact solidB_rep (s2 g b hg) rfl (h3.blk g b hg)
 ·unfold Mem.join
  rw [(hm.apart b hb).1]
  simp only
  cases hq : m1 b with
  | none => rfl
  | some x => have := hnew b (by rw [hq]; simp); have := (hm.apart b hb).2; omega
 ·unfold Mem.join at hg
  cases hq : m g with
  | some b' => exact .inl (by simp)
  | none =>
   rw [hq] at hg
   have hg2 : m1 g = some b := hg
   exact .inr (hnew g (by rw [hg2]; simp))
theorem OCall.lend {P : Program} {n : FuncId} {args args' : List AV} {x : AV} {m : Mem} {F : Nat → Prop} {K : AV → Mem → Prop} (h : OCall P n args' x) (hl : Lent m F args args')
  (hK : ∀ r m' (G : Nat → Prop), Ext m m' → OwnT m' G r x → (∀ g, G g → m g = none) → solid r = true → (∀ g b, m' g = some b → m g = some b ∨ solidB b) → K r m') : WCall P n args m K := by
 refine WCall.lend h hl fun r m1 hq hfree => ?_
 obtain ⟨F1, k1, k2, k3⟩ := hq
 obtain ⟨G, g1, g2, g3⟩ := k1.dom
 refine ⟨k2, k3, hK r _ G (join_ext m m1) (g1.mem fun g hg => ?_) (fun g hg => hfree g (g3 g hg)) k2 fun g b hb => ?_⟩
 ·unfold Mem.join; rw [hfree g (g3 g hg)]
 ·unfold Mem.join at hb
  cases hq : m g with
  | some b' => rw [hq] at hb; exact .inl hb
  | none => rw [hq] at hb; exact .inr (k3 g b hb)
open Classical in
/-- What is given back is its own; the rest of the memory is left. -/
theorem OwnT.ret {m : Mem} {F : Nat → Prop} {a x : AV} (h : OwnT m F a x) : ∃ r m1, View m a m1 r ∧ OwnR x r m1 := by
 obtain ⟨G, g1, g2, g3⟩ := h.doms
 refine ⟨a, fun g => if G g then m g else none, View.forget (fun g b hb => ?_) a, G, g1.mem (fun g hg => if_pos hg), h.solid, fun g b hb => ?_⟩
 ·try simp only at hb
  split at hb
  ·exact hb
  ·cases hb
 ·try simp only at hb
  split at hb
  ·rename_i hg
   obtain ⟨b', h1, h2⟩ := g3 g hg
   rw [h1] at hb
   cases hb
   exact h2
  ·cases hb
/-- Cells of values that may be written. -/
theorem OwnTs.append {m : Mem} {F A B : Nat → Prop} {as xs bs ys : List AV} (h : OwnTs m A as xs) (k : OwnTs m B bs ys) (hd : ∀ g, A g → ¬ B g) (hA : ∀ g, A g → F g) (hB : ∀ g, B g → F g) : OwnTs m F (as ++ bs) (xs ++ ys) := by
 induction as generalizing A F xs with
 | nil => cases h; exact k.up hB
 | cons a as ih =>
  cases h with | @cons _ A1 A2 _ _ _ _ h1 h2 h3 h4 h5 =>
  exact .cons h1 (ih (F := fun g => A2 g ∨ B g) h2 (fun g hg => hd g (h5 g hg)) (fun g h => .inl h) (fun g h => .inr h)) (fun g hg hq => hq.elim (h3 g hg) (hd g (h4 g hg))) (fun g hg => hA g (h4 g hg)) (fun g hg => hg.elim (fun h => hA g (h5 g h)) (hB g))
theorem OwnTs.snoc {m : Mem} {A B : Nat → Prop} {as xs : List AV} {b y : AV} (h : OwnTs m A as xs) (k : OwnT m B b y) (hd : ∀ g, A g → ¬ B g) : OwnTs m (fun g => A g ∨ B g) (as ++ [b]) (xs ++ [y]) :=
 h.append (.cons (F := B) k (.nil (F := fun _ => False)) (fun _ _ h => h) (fun _ h => h) (fun _ h => h.elim)) hd (fun _ h => .inl h) (fun _ h => .inr h)
/-- One of many: what is before it, itself, what is behind it. -/
theorem OwnTs.at {m : Mem} {F : Nat → Prop} {as xs : List AV} (h : OwnTs m F as xs) {i : Nat} (hi : i < as.length) : ∃ (A B C : Nat → Prop) (x : AV), xs[i]? = some x ∧ OwnT m B as[i] x ∧ (∀ g, A g → ¬ B g) ∧ (∀ g, A g → F g) ∧ (∀ g, B g → F g) ∧
  ∀ (m' : Mem) (a' x' : AV) (B' : Nat → Prop), (∀ g, A g → m' g = m g) → OwnT m' B' a' x' → (∀ g, B' g → B g) → OwnTs m' F (as.set i a') (xs.set i x') := by
 induction as generalizing F xs i with
 | nil => simp at hi
 | cons a as ih =>
  cases h with | @cons _ A1 A2 _ x _ xs h1 h2 h3 h4 h5 =>
  cases i with
  | zero => exact ⟨A2, A1, A2, x, rfl, h1, fun g hg hq => h3 g hq hg, h5, h4, fun m' a' x' B' hm k hB => .cons (k.up hB) (h2.mem fun g hg => hm g hg) h3 h4 h5⟩
  | succ i =>
   obtain ⟨A, B, C, y, e1, e2, e3, e4, e5, e6⟩ := ih h2 (by simpa using hi)
   refine ⟨fun g => A1 g ∨ A g, B, C, y, by simpa using e1, e2, fun g hg hq => hg.elim (fun h => h3 g h (e5 g hq)) (fun h => e3 g h hq), fun g hg => hg.elim (h4 g) (fun h => h5 g (e4 g h)), fun g hg => h5 g (e5 g hg), fun m' a' x' B' hm k hB => ?_⟩
   exact .cons (h1.mem fun g hg => hm g (.inl hg)) (e6 m' a' x' B' (fun g hg => hm g (.inr hg)) k hB) h3 h4 h5
theorem OwnT.okc {m : Mem} {F : Nat → Prop} {a : AV} {f : Bool} {e : Nat} {xs : List AV} (h : OwnT m F a (.lst f e xs)) : okCell a = true ∧ a.cells = [a] ∧ a ≠ .undef := by
 cases h <;> exact ⟨rfl, rfl, by simp⟩
end Go.T
namespace Go.T
open Go
/-- What a mark of a number says, but for its first letter. -/
def markU (k : Nat) (out : ByteArray) : ByteArray := if h : k = 0 then out else markU (k / 10) (bytesOf [((48 + k % 10 : Nat) : Int)] ++ out)
termination_by k
decreasing_by omega
def markT (k : Int) : ByteArray := ⟨#[109]⟩ ++ markU k.toNat ⟨#[]⟩
mutual
/-- How many marks a value takes. -/
def AV.cnt : AV → Nat
 | .int .. => 1
 | .bool _ => 1
 | .str _ => 1
 | .lst _ _ xs => AV.cnts xs
 | .agg cs => AV.cnts cs
 | _ => 0
def AV.cnts : List AV → Nat
 | [] => 0
 | a :: as => a.cnt + AV.cnts as
end
theorem cnts_append (as bs : List AV) : AV.cnts (as ++ bs) = AV.cnts as + AV.cnts bs := by
 induction as with
 | nil => simp [AV.cnts]
 | cons a as ih => simp only [List.cons_append, AV.cnts, ih]; omega
/-- Marked from a number on, up to one. -/
inductive Held : List AV → Int → Int → Prop
 | nil (k : Int) : Held [] k k
 | int {as : List AV} {k k' : Int} : Held as (k + 1) k' → Held (.int .i64 k :: as) k k'
 | str {as : List AV} {k k' : Int} : Held as (k + 1) k' → Held (.str (markT k) :: as) k k'
 | bool {as : List AV} {k k' : Int} : Held as (k + 1) k' → Held (.bool (decide (k.tmod 3 = 0)) :: as) k k'
 | lst {f : Bool} {e : Nat} {xs as : List AV} {k k1 k' : Int} : Held xs k k1 → Held as k1 k' → Held (.lst f e xs :: as) k k'
 | agg {cs as : List AV} {k k1 k' : Int} : Held cs k k1 → Held as k1 k' → Held (.agg cs :: as) k k'
theorem Held.append {as bs : List AV} {k k1 k' : Int} (h : Held as k k1) (h2 : Held bs k1 k') : Held (as ++ bs) k k' := by
 induction h with
 | nil => exact h2
 | int _ ih => exact .int (ih h2)
 | str _ ih => exact .str (ih h2)
 | bool _ ih => exact .bool (ih h2)
 | lst h1 _ _ ih => exact .lst h1 (ih h2)
 | agg h1 _ _ ih => exact .agg h1 (ih h2)
theorem Held.count {as : List AV} {k k' : Int} (h : Held as k k') : k' = k + AV.cnts as := by
 induction h with
 | nil => simp [AV.cnts]
 | int _ ih => simp only [AV.cnts, AV.cnt]; omega
 | str _ ih => simp only [AV.cnts, AV.cnt]; omega
 | bool _ ih => simp only [AV.cnts, AV.cnt]; omega
 | lst _ _ ih1 ih => simp only [AV.cnts, AV.cnt]; omega
 | agg _ _ ih1 ih => simp only [AV.cnts, AV.cnt]; omega
/-- One element of a row in writing: the others do not change. -/
structure InRow (m m0 : Mem) (g : Nat) (T : TypeId) (e c i : Nat) (ys : List AV) (B : Nat → Prop) (as xs : List AV) : Prop where
 row : m g = some (.arr T e c (ys.set i (.agg as)))
 tree : OwnTs m B as xs
 out : ∀ b, b ≠ g → ¬ B b → m b = m0 b
 free : ¬ B g
theorem OwnTs.leafs {m : Mem} {F : Nat → Prop} {as xs : List AV} (h : OwnTs m F as xs) (o : Nat) {x : AV} (hx : ∀ F, OwnT m F x x) : OwnTs m F (as.set o x) (xs.set o x) := by
 induction as generalizing F xs o with
 | nil => cases h; exact .nil
 | cons a as ih =>
  cases h with | cons h1 h2 h3 h4 h5 =>
  cases o with
  | zero => exact .cons (hx _) h2 h3 h4 h5
  | succ o => exact .cons h1 (ih h2 o) h3 h4 h5
/-- A cell that holds no row is written. -/
theorem InRow.leaf {m m0 : Mem} {g : Nat} {T : TypeId} {e c i : Nat} {ys : List AV} {B : Nat → Prop} {as xs : List AV} (h : InRow m m0 g T e c i ys B as xs) (o : Nat) {x : AV} (hx : ∀ m F, OwnT m F x x) :
  InRow (m.set g (.arr T e c (ys.set i (.agg (as.set o x))))) m0 g T e c i ys B (as.set o x) (xs.set o x) := by
 refine ⟨set_same _ _ _, (h.tree.mem fun b hb => ?_).leafs o (hx _), fun b hb hB => ?_, h.free⟩
 ·rw [set_at, if_neg]; rintro rfl; exact h.free hb
 ·rw [set_at, if_neg hb]; exact h.out b hb hB
theorem set_set_list {α : Type} (l : List α) (i : Nat) (a b : α) : (l.set i a).set i b = l.set i b := by simp
theorem InRow.store {m m0 : Mem} {g : Nat} {T : TypeId} {e c i : Nat} {ys : List AV} {B : Nat → Prop} {as xs : List AV} (h : InRow m m0 g T e c i ys B as xs) (hi : i < ys.length) (he : as.length = e) (o : Nat) (ho : o < e) (h1 : 1 < e) {x : AV} (hx : x.cells = [x]) :
  storeA m (.elt g e i o) x = some (m.set g (.arr T e c (ys.set i (.agg (as.set o x))))) := by
 have hg : (ys.set i (AV.agg as))[i]? = some (.agg as) := by simp [hi]
 unfold storeA
 simp only [h.row, if_true, hg, hx, List.length_cons, List.length_nil, Nat.zero_add]
 rw [if_neg (by omega), if_pos (by omega), set_set_list]
 congr 5
 rw [List.set_eq_take_append_cons_drop, if_pos (by omega)]
 simp
/-- A cell that is a row is written by a call. -/
theorem InRow.call {m m0 : Mem} {g : Nat} {T : TypeId} {e c i : Nat} {ys : List AV} {B : Nat → Prop} {as xs : List AV} (h : InRow m m0 g T e c i ys B as xs) {o : Nat} (ho : o < as.length) : ∃ (A : Nat → Prop) (x : AV), xs[o]? = some x ∧ OwnT m A as[o] x ∧
  ∀ m' x', (∀ b, ¬ A b → m' b = m b) → OwnT m' A as[o] x' → InRow m' m0 g T e c i ys B as (xs.set o x') := by
 obtain ⟨A, A', C, x, e1, e2, e3, e4, e5, e6⟩ := h.tree.at ho
 refine ⟨A', x, e1, e2, fun m' x' hm k => ⟨?_, ?_, fun b hb hB => ?_, h.free⟩⟩
 ·rw [hm g (fun hg => h.free (e5 g hg))]; exact h.row
 ·have := e6 m' as[o] x' A' (fun b hb => hm b (e3 b hb)) k (fun _ h => h)
  simpa using this
 ·rw [hm b (fun hA => hB (e5 b hA))]; exact h.out b hb hB
/-- A row in writing: the first elements are marked. -/
structure Marking (m m0 : Mem) (F : Nat → Prop) (g : Nat) (T : TypeId) (e c : Nat) (G : Nat → Prop) (ys xs : List AV) : Prop where
 row : m g = some (.arr T e c ys)
 tree : OwnTs m G ys xs
 free : ¬ G g
 sub : ∀ b, G b → F b
 mine : F g
 out : ∀ b, ¬ F b → m b = m0 b
theorem Marking.start {m : Mem} {F : Nat → Prop} {g n c e : Nat} {xs : List AV} (h : OwnT m F (.own g n c) (.lst false e xs)) : ∃ T G ys, Marking m m F g T e c G ys xs ∧ ys.length = n ∧ xs.length = n := by
 cases h with
 | @own _ G _ _ _ _ T ys _ h1 h2 h3 h4 h5 h6 => exact ⟨T, G, ys, ⟨h1, h3, h4, h5, h6, fun _ _ => rfl⟩, h2, h3.len ▸ h2⟩
theorem Marking.done {m m0 : Mem} {F : Nat → Prop} {g c e : Nat} {T : TypeId} {G : Nat → Prop} {ys xs : List AV} (h : Marking m m0 F g T e c G ys xs) {n : Nat} (hn : ys.length = n) : OwnT m F (.own g n c) (.lst false e xs) := .own h.row hn h.tree h.free h.sub h.mine
/-- Into an element, and out of it. -/
theorem Marking.into {m m0 : Mem} {F : Nat → Prop} {g c e : Nat} {T : TypeId} {G : Nat → Prop} {ys xs : List AV} (h : Marking m m0 F g T e c G ys xs) {i : Nat} (hi : i < ys.length) {cs : List AV} (hx : xs[i]? = some (.agg cs)) :
  ∃ (B : Nat → Prop) (as : List AV), as.all okCell = true ∧ as.length = cs.length ∧ InRow m m g T e c i ys B as cs ∧
   ∀ m' as' cs', InRow m' m g T e c i ys B as' cs' → as'.all okCell = true → Marking m' m0 F g T e c G (ys.set i (.agg as')) (xs.set i (.agg cs')) := by
 obtain ⟨A, B, C, x, e1, e2, e3, e4, e5, e6⟩ := h.tree.at hi
 rw [hx] at e1
 obtain rfl := Option.some.inj e1
 generalize hy : ys[i] = y at e2
 cases e2 with
 | agg h1 h2 =>
  rename_i as
  have hset : ys.set i (.agg as) = ys := by rw [← hy]; simp
  refine ⟨B, as, h2, h1.len, ⟨by rw [hset]; exact h.row, h1, fun _ _ _ => rfl, fun hg => h.free (e5 g hg)⟩, fun m' as' cs' k1 k2 => ⟨k1.row, ?_, h.free, h.sub, h.mine, fun b hb => ?_⟩⟩
  ·exact e6 m' _ _ B (fun b hb => k1.out b (fun (hbg : b = g) => h.free (hbg ▸ e4 b hb)) (e3 b hb)) (.agg k1.tree k2) (fun _ h => h)
  ·rw [k1.out b (fun (hbg : b = g) => hb (hbg ▸ h.mine)) (fun hB => hb (h.sub b (e5 b hB)))]; exact h.out b hb
/-- A row of leaves is written. -/
theorem Marking.leaf {m m0 : Mem} {F : Nat → Prop} {g c e : Nat} {T : TypeId} {G : Nat → Prop} {ys xs : List AV} (h : Marking m m0 F g T e c G ys xs) {i : Nat} {x : AV} (hx : ∀ m F, OwnT m F x x) :
  Marking (m.set g (.arr T e c (ys.set i x))) m0 F g T e c G (ys.set i x) (xs.set i x) := by
 refine ⟨set_same _ _ _, (h.tree.mem fun b hb => ?_).leafs i (hx _), h.free, h.sub, h.mine, fun b hb => ?_⟩
 ·rw [set_at, if_neg]; rintro rfl; exact h.free hb
 ·rw [set_at, if_neg (fun (hbg : b = g) => hb (hbg ▸ h.mine))]; exact h.out b hb
theorem own_int (k : IntKind) (n : Int) : ∀ m F, OwnT m F (.int k n) (.int k n) := fun _ _ => .int k n
theorem own_str (s : ByteArray) : ∀ m F, OwnT m F (.str s) (.str s) := fun _ _ => .str s
theorem own_row {m : Mem} {F : Nat → Prop} {v : AV} {f : Bool} {e : Nat} {xs : List AV} (h : OwnT m F v (.lst f e xs)) : (∃ f' e', v = .lst f' e' [] ∧ xs = []) ∨ ∃ g n c, v = .own g n c ∧ n = xs.length ∧ f = false := by
 cases h with
 | nil f' e' _ => exact .inl ⟨_, _, rfl, rfl⟩
 | own h1 h2 h3 _ _ _ => exact .inr ⟨_, _, _, rfl, h2 ▸ h3.len, rfl⟩
theorem cnts_len {α : Type} {f : α → AV} (h : ∀ x, 1 ≤ (f x).cnt) (l : List α) : l.length ≤ AV.cnts (l.map f) := by
 induction l with
 | nil => simp
 | cons x l ih =>
  have := h x
  simp only [List.map_cons, List.length_cons, AV.cnts]
  omega
theorem at_done {α : Type} (f : α → AV) (done : List α) (x : α) (r : List α) {i : Nat} (h : done.length = i) : ((done ++ x :: r).map f)[i]? = some (f x) := by
 subst h
 simp
theorem set_done {α : Type} (f : α → AV) (done : List α) (x y : α) (r : List α) {i : Nat} (h : done.length = i) : ((done ++ x :: r).map f).set i (f y) = ((done ++ [y]) ++ r).map f := by
 subst h
 simp
end Go.T
