/- Names in order, in plain Lean. -/
import Derived.Test.YtkheogobahhbpaaD5
namespace Go.T
open Go
set_option linter.unusedSimpArgs false
set_option linter.unusedVariables false
theorem bl_irrefl : ∀ x, Op.bytesLess x x = false
  | [] => rfl
  | a :: x => by simp [Op.bytesLess, bl_irrefl x]
theorem u8_tri {a b : UInt8} (h1 : ¬ a < b) (h2 : a ≠ b) : b < a := by
  rw [UInt8.lt_iff_toNat_lt] at *
  have : a.toNat ≠ b.toNat := fun h => h2 (UInt8.toNat_inj.1 h)
  omega
theorem u8_trans {a b c : UInt8} (h1 : a < b) (h2 : b < c) : a < c := by
  rw [UInt8.lt_iff_toNat_lt] at *
  omega
theorem bl_trans : ∀ x y z, Op.bytesLess x y = true → Op.bytesLess y z = true → Op.bytesLess x z = true
  | _, [], [], h, k => by simp [Op.bytesLess] at k
  | [], _ :: _, [], h, k => by simp [Op.bytesLess] at k
  | _ :: _, _ :: _, [], h, k => by simp [Op.bytesLess] at k
  | [], _, _ :: _, h, k => by simp [Op.bytesLess]
  | _ :: _, [], _ :: _, h, k => by simp [Op.bytesLess] at h
  | a :: x, b :: y, c :: z, h, k => by
    simp only [Op.bytesLess, Bool.or_eq_true, decide_eq_true_eq, Bool.and_eq_true, beq_iff_eq] at h k ⊢
    rcases h with h | ⟨rfl, h⟩
    · rcases k with k | ⟨rfl, k⟩
      · exact .inl (u8_trans h k)
      · exact .inl h
    · rcases k with k | ⟨rfl, k⟩
      · exact .inl k
      · exact .inr ⟨rfl, bl_trans x y z h k⟩
theorem bl_tri : ∀ x y, x ≠ y → Op.bytesLess x y = false → Op.bytesLess y x = true
  | [], [], h, _ => absurd rfl h
  | [], _ :: _, _, k => by simp [Op.bytesLess] at k
  | _ :: _, [], _, _ => by simp [Op.bytesLess]
  | a :: x, b :: y, h, k => by
    simp only [Op.bytesLess, Bool.or_eq_false_iff, decide_eq_false_iff_not, Bool.and_eq_false_imp, beq_iff_eq] at k
    simp only [Op.bytesLess, Bool.or_eq_true, decide_eq_true_eq, Bool.and_eq_true, beq_iff_eq]
    by_cases hab : a = b
    · subst hab
      exact .inr ⟨rfl, bl_tri x y (fun e => h (by rw [e])) (k.2 rfl)⟩
    · exact .inl (u8_tri k.1 hab)
/-- '<' of strings. -/
def blt (x y : ByteArray) : Bool := Op.bytesLess x.toList y.toList
theorem blt_irrefl (x : ByteArray) : blt x x = false := bl_irrefl _
theorem blt_trans {x y z : ByteArray} (h : blt x y = true) (k : blt y z = true) : blt x z = true := bl_trans _ _ _ h k
theorem blt_tri {x y : ByteArray} (h : x ≠ y) (k : blt x y = false) : blt y x = true := by
  refine bl_tri _ _ (fun e => h ?_) k
  have := bytes_beq x y
  rw [e] at this
  simpa using this
theorem blt_ne {x y : ByteArray} (h : blt x y = true) : x ≠ y := fun e => by rw [e, blt_irrefl] at h; cases h
def Asc (l : List ByteArray) : Prop := l.Pairwise fun x y => blt x y = true
theorem asc_ext : ∀ {l m : List ByteArray}, Asc l → Asc m → (∀ x, x ∈ l ↔ x ∈ m) → l = m
  | [], [], _, _, _ => rfl
  | [], y :: m, _, _, h => by have := (h y).2 (List.mem_cons_self ..); cases this
  | x :: l, [], _, _, h => by have := (h x).1 (List.mem_cons_self ..); cases this
  | x :: l, y :: m, hl, hm, h => by
    obtain ⟨h1, h2⟩ := List.pairwise_cons.1 hl
    obtain ⟨k1, k2⟩ := List.pairwise_cons.1 hm
    have e : x = y := by
      rcases List.mem_cons.1 ((h x).1 (List.mem_cons_self ..)) with e | hx
      · exact e
      rcases List.mem_cons.1 ((h y).2 (List.mem_cons_self ..)) with e | hy
      · exact e.symm
      have := blt_trans (h1 y hy) (k1 x hx)
      rw [blt_irrefl] at this; cases this
    subst e
    congr 1
    refine asc_ext h2 k2 fun z => ?_
    have hz := h z
    simp only [List.mem_cons] at hz
    constructor
    · intro hzl
      rcases hz.1 (.inr hzl) with e | hzm
      · subst e; have := h1 z hzl; rw [blt_irrefl] at this; cases this
      · exact hzm
    · intro hzm
      rcases hz.2 (.inr hzm) with e | hzl
      · subst e; have := k1 z hzm; rw [blt_irrefl] at this; cases this
      · exact hzl
/-- A name put in order, if it is not there. -/
def putGo (s : ByteArray) : List ByteArray → Bool → List ByteArray
  | [], done => if done = true then [] else [s]
  | x :: l, done => (if done = false ∧ blt x s = false then [s] else []) ++ ((if x = s then [] else [x]) ++ putGo s l (done || !blt x s))
def putS (l : List ByteArray) (s : ByteArray) : List ByteArray := putGo s l false
theorem putGo_done (s : ByteArray) : ∀ l, (∀ x ∈ l, x ≠ s) → putGo s l true = l
  | [], _ => rfl
  | x :: l, h => by
    have h1 := h x (List.mem_cons_self ..)
    have h2 := putGo_done s l fun y hy => h y (List.mem_cons_of_mem _ hy)
    simp [putGo, h1, h2]
theorem putS_mem (s : ByteArray) : ∀ l, Asc l → (∀ x, x ∈ putGo s l false ↔ x = s ∨ x ∈ l) ∧ Asc (putGo s l false)
  | [], _ => by simp [putGo, Asc]
  | x :: l, h => by
    obtain ⟨h1, h2⟩ := List.pairwise_cons.1 h
    have ih := putS_mem s l h2
    cases hx : blt x s with
    | true =>
      have hne : x ≠ s := blt_ne hx
      have e : putGo s (x :: l) false = x :: putGo s l false := by simp [putGo, hx, hne]
      rw [e]
      refine ⟨fun y => ?_, .cons (fun y hy => ?_) ih.2⟩
      · simp only [List.mem_cons, ih.1 y]; constructor
        · rintro (h | h | h)
          · exact .inr (.inl h)
          · exact .inl h
          · exact .inr (.inr h)
        · rintro (h | h | h)
          · exact .inr (.inl h)
          · exact .inl h
          · exact .inr (.inr h)
      · rcases (ih.1 y).1 hy with rfl | hy
        · exact hx
        · exact h1 y hy
    | false =>
      have hl : ∀ y ∈ l, y ≠ s := by
        intro y hy e
        subst e
        have := h1 y hy
        rw [hx] at this; cases this
      have e : putGo s (x :: l) false = s :: ((if x = s then [] else [x]) ++ l) := by simp [putGo, hx, putGo_done s l hl]
      rw [e]
      by_cases hxs : x = s
      · subst hxs
        simp
        exact h
      · simp only [if_neg hxs]
        have hsx := blt_tri hxs hx
        refine ⟨fun y => by simp, .cons (fun y hy => ?_) h⟩
        rcases List.mem_cons.1 hy with rfl | hy
        · exact hsx
        · exact blt_trans hsx (h1 y hy)
theorem putS_len (s : ByteArray) : ∀ l done, (putGo s l done).length ≤ l.length + 1 ∧ (done = true → (putGo s l done).length ≤ l.length)
  | [], done => by cases done <;> simp [putGo]
  | x :: l, done => by
    have h1 := putS_len s l (done || !blt x s)
    cases done with
    | true =>
      simp only [putGo, Bool.true_or] at h1 ⊢
      have := h1.2 trivial
      simp only [List.length_append, List.length_cons]
      split <;> split <;> simp_all <;> omega
    | false =>
      cases hx : blt x s with
      | true =>
        simp only [putGo, hx, Bool.false_or, Bool.not_true] at h1 ⊢
        simp only [List.length_append, List.length_cons]
        have := h1.1
        refine ⟨?_, fun h => by cases h⟩
        split <;> split <;> simp_all <;> omega
      | false =>
        simp only [putGo, hx, Bool.false_or, Bool.not_false] at h1 ⊢
        simp only [List.length_append, List.length_cons]
        have := h1.2 trivial
        refine ⟨?_, fun h => by cases h⟩
        split <;> split <;> simp_all <;> omega
theorem fold_len : ∀ (xs l : List ByteArray), (xs.foldl putS l).length ≤ l.length + xs.length
  | [], l => Nat.le_refl _
  | x :: xs, l => by
    have h1 := fold_len xs (putS l x)
    have h2 := (putS_len x l false).1
    simp only [List.foldl_cons, List.length_cons]
    unfold putS at h1 ⊢
    omega
theorem fold_mem : ∀ (xs l : List ByteArray), Asc l → (∀ x, x ∈ xs.foldl putS l ↔ x ∈ l ∨ x ∈ xs) ∧ Asc (xs.foldl putS l)
  | [], l, h => by simpa using h
  | y :: xs, l, h => by
    obtain ⟨h1, h2⟩ := putS_mem y l h
    obtain ⟨k1, k2⟩ := fold_mem xs (putS l y) h2
    refine ⟨fun x => ?_, k2⟩
    rw [List.foldl_cons, k1 x]
    unfold putS
    rw [h1 x, List.mem_cons]
    constructor
    · rintro ((h | h) | h)
      · exact .inr (.inl h)
      · exact .inl h
      · exact .inr (.inr h)
    · rintro (h | h | h)
      · exact .inl (.inr h)
      · exact .inl (.inl h)
      · exact .inr h
/-- The names of a list, in order, each once. -/
def nameSet (xs : List ByteArray) : List ByteArray := xs.foldl putS []
theorem nameSet_mem (xs : List ByteArray) (x : ByteArray) : x ∈ nameSet xs ↔ x ∈ xs := by
  have := (fold_mem xs [] .nil).1 x
  simpa [nameSet] using this
theorem nameSet_asc (xs : List ByteArray) : Asc (nameSet xs) := (fold_mem xs [] .nil).2
theorem nameSet_len (xs : List ByteArray) : (nameSet xs).length ≤ xs.length := by have := fold_len xs []; simpa [nameSet] using this
theorem nameSet_ext {xs ys : List ByteArray} (h : ∀ x, x ∈ xs ↔ x ∈ ys) : nameSet xs = nameSet ys :=
  asc_ext (nameSet_asc xs) (nameSet_asc ys) fun x => by rw [nameSet_mem, nameSet_mem]; exact h x
theorem fold_set {xs ys : List ByteArray} : ys.foldl putS (nameSet xs) = nameSet (xs ++ ys) := by unfold nameSet; rw [List.foldl_append]

/-- The names of expressions of a kind: the outer one first, or last. -/
def one (c : Prop) [Decidable c] (s : ByteArray) : List ByteArray := if c then [s] else []
mutual
def Ex.pre (q : Int) : Ex → List ByteArray
  | .mk k _ s l => one (k = q) s ++ Ex.pres q l
def Ex.pres (q : Int) : List Ex → List ByteArray
  | [] => []
  | x :: l => x.pre q ++ Ex.pres q l
end
mutual
def Ex.post (q : Int) : Ex → List ByteArray
  | .mk k _ s l => Ex.posts q l ++ one (k = q) s
def Ex.posts (q : Int) : List Ex → List ByteArray
  | [] => []
  | x :: l => x.post q ++ Ex.posts q l
end
mutual
theorem Ex.pre_post (q : Int) (x : ByteArray) : ∀ e : Ex, x ∈ e.pre q ↔ x ∈ e.post q
  | .mk k n s l => by
    rw [Ex.pre, Ex.post, List.mem_append, List.mem_append, Ex.pres_posts q x l]
    exact Or.comm
theorem Ex.pres_posts (q : Int) (x : ByteArray) : ∀ l : List Ex, x ∈ Ex.pres q l ↔ x ∈ Ex.posts q l
  | [] => Iff.rfl
  | e :: l => by rw [Ex.pres, Ex.posts, List.mem_append, List.mem_append, Ex.pre_post q x e, Ex.pres_posts q x l]
end
mutual
def Sm.names (q : Int) : Sm → List ByteArray
  | .mk k s _ _ _ _ b => one (k = q) s ++ Sm.namesL q b
def Sm.namesL (q : Int) : List Sm → List ByteArray
  | [] => []
  | x :: l => x.names q ++ Sm.namesL q l
end
mutual
def Sm.exps (f : Ex → List ByteArray) : Sm → List ByteArray
  | .mk _ _ a e lo hi b => f a ++ (f e ++ (f lo ++ (f hi ++ Sm.expsL f b)))
def Sm.expsL (f : Ex → List ByteArray) : List Sm → List ByteArray
  | [] => []
  | x :: l => x.exps f ++ Sm.expsL f l
end
mutual
theorem Sm.exps_iff {f g : Ex → List ByteArray} {x : ByteArray} (h : ∀ e, x ∈ f e ↔ x ∈ g e) : ∀ s : Sm, x ∈ s.exps f ↔ x ∈ s.exps g
  | .mk k s a e lo hi b => by simp only [Sm.exps, List.mem_append, h, Sm.expsL_iff h b]
theorem Sm.expsL_iff {f g : Ex → List ByteArray} {x : ByteArray} (h : ∀ e, x ∈ f e ↔ x ∈ g e) : ∀ l : List Sm, x ∈ Sm.expsL f l ↔ x ∈ Sm.expsL g l
  | [] => Iff.rfl
  | s :: l => by simp only [Sm.expsL, List.mem_append, Sm.exps_iff h s, Sm.expsL_iff h l]
end
theorem asked_same (q : Int) (l : List Sm) : nameSet (Sm.expsL (Ex.post q) l) = nameSet (Sm.expsL (Ex.pre q) l) :=
  nameSet_ext fun x => Sm.expsL_iff (fun e => (Ex.pre_post q x e).symm) l
-- how long these are
theorem one_len (c : Prop) [Decidable c] (s : ByteArray) : (one c s).length ≤ 1 := by unfold one; split <;> simp
mutual
theorem Ex.pre_len (q : Int) : ∀ e : Ex, (e.pre q).length ≤ 1 + e.tot
  | .mk k n s l => by
    rw [Ex.pre, Ex.tot, List.length_append]
    have := Ex.pres_len q l
    have := one_len (k = q) s
    omega
theorem Ex.pres_len (q : Int) : ∀ l : List Ex, (Ex.pres q l).length ≤ Ex.tots l
  | [] => Nat.zero_le _
  | e :: l => by
    rw [Ex.pres, Ex.tots, List.length_append]
    have := Ex.pre_len q e
    have := Ex.pres_len q l
    omega
end
mutual
theorem Ex.post_len (q : Int) : ∀ e : Ex, (e.post q).length ≤ 1 + e.tot
  | .mk k n s l => by
    rw [Ex.post, Ex.tot, List.length_append]
    have := Ex.posts_len q l
    have := one_len (k = q) s
    omega
theorem Ex.posts_len (q : Int) : ∀ l : List Ex, (Ex.posts q l).length ≤ Ex.tots l
  | [] => Nat.zero_le _
  | e :: l => by
    rw [Ex.posts, Ex.tots, List.length_append]
    have := Ex.post_len q e
    have := Ex.posts_len q l
    omega
end
mutual
theorem Sm.names_len (q : Int) : ∀ e : Sm, (e.names q).length ≤ 1 + e.tot
  | .mk k s a e lo hi b => by
    rw [Sm.names, Sm.tot, List.length_append]
    have := Sm.namesL_len q b
    have := one_len (k = q) s
    omega
theorem Sm.namesL_len (q : Int) : ∀ l : List Sm, (Sm.namesL q l).length ≤ Sm.tots l
  | [] => Nat.zero_le _
  | e :: l => by
    rw [Sm.namesL, Sm.tots, List.length_append]
    have := Sm.names_len q e
    have := Sm.namesL_len q l
    omega
end
mutual
theorem Sm.exps_len {f : Ex → List ByteArray} (hf : ∀ e, (f e).length ≤ 1 + e.tot) : ∀ e : Sm, (e.exps f).length ≤ 4 * (1 + e.tot)
  | .mk k s a e lo hi b => by
    simp only [Sm.exps, Sm.tot, List.length_append]
    have := Sm.expsL_len hf b
    have := hf a
    have := hf e
    have := hf lo
    have := hf hi
    omega
theorem Sm.expsL_len {f : Ex → List ByteArray} (hf : ∀ e, (f e).length ≤ 1 + e.tot) : ∀ l : List Sm, (Sm.expsL f l).length ≤ 4 * Sm.tots l
  | [] => Nat.zero_le _
  | e :: l => by
    rw [Sm.expsL, Sm.tots, List.length_append]
    have := Sm.exps_len hf e
    have := Sm.expsL_len hf l
    omega
end
-- is no loop's name that of one it is in?
mutual
def Sm.nest : Sm → List ByteArray → Bool
  | .mk k s _ _ _ _ b, ns => decide (k ≠ 3) || (!has ns s && Sm.nests b (ns ++ [s]))
def Sm.nests : List Sm → List ByteArray → Bool
  | [], _ => true
  | x :: l, ns => x.nest ns && Sm.nests l ns
end
/-- Are arrays as told, behind one whose name is told? -/
def arrsFrom : Option ByteArray → List Ar → Bool
  | _, [] => true
  | p, a :: l => nameOk a.s && (inR a.n 1 16 && ((match p with | none => true | some q => blt q a.s) && arrsFrom (some a.s) l))
/-- Where a name is first; -1: nowhere. -/
def idxAt : Nat → List ByteArray → ByteArray → Int
  | _, [], _ => -1
  | i, x :: l, s => if x = s then i else idxAt (i + 1) l s
def at_ (l : List ByteArray) (s : ByteArray) : Int := idxAt 0 l s
theorem idxAt_has (s : ByteArray) : ∀ l i, (0 ≤ idxAt i l s ↔ has l s = true)
  | [], i => by simp [idxAt, has]
  | x :: l, i => by
    have ih := idxAt_has s l (i + 1)
    unfold has at ih ⊢
    by_cases h : x = s
    · simp [idxAt, h]
    · simp only [idxAt, if_neg h, List.any_cons, h, decide_false, Bool.false_or]
      exact ih
theorem idxAt_lt (s : ByteArray) : ∀ l (i : Nat), -1 ≤ idxAt i l s ∧ idxAt i l s < i + l.length ∨ l = [] ∧ idxAt i l s = -1
  | [], i => by simp [idxAt]
  | x :: l, i => by
    have ih := idxAt_lt s l (i + 1)
    refine .inl ?_
    by_cases h : x = s
    · simp [idxAt, h]; omega
    · simp only [idxAt, if_neg h, List.length_cons]
      rcases ih with ih | ⟨rfl, ih⟩
      · omega
      · rw [ih]; simp; omega
def Pg.arrNames (p : Pg) : List ByteArray := p.arrs.map Ar.s
def Pg.isArr (p : Pg) (s : ByteArray) : Bool := has p.arrNames s
def Pg.vars (p : Pg) : List ByteArray := nameSet (Sm.namesL 1 p.body)
def Pg.loops (p : Pg) : List ByteArray := nameSet (Sm.namesL 3 p.body)
def Pg.puts (p : Pg) : List ByteArray := nameSet (Sm.namesL 2 p.body)
def Pg.asked (p : Pg) (q : Int) : List ByteArray := nameSet (Sm.expsL (Ex.pre q) p.body)
def Pg.head (p : Pg) : Bool := arrsFrom none p.arrs && (decide (p.arrs.length ≤ 4) && (decide (p.body.length ≤ 12) && (decide (sumL Sm.size p.body ≤ 40) && p.body.all Sm.ok)))
def Pg.namesB (p : Pg) : Bool := p.puts.all p.isArr && ((p.asked 3).all p.isArr && (!p.vars.any p.isArr && (!p.loops.any p.isArr && (!(p.asked 2).any p.isArr && (!p.loops.any (fun x => has p.vars x) && (Sm.nests p.body [] && decide (p.vars.length ≤ 6)))))))
/-- Is a program right? -/
def Pg.ok (p : Pg) : Bool := p.head && p.namesB
end Go.T
