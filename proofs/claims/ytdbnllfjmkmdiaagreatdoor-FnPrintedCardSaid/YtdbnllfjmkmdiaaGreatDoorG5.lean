/- Tokens: what a text is cut into, in plain Lean. What is read of tokens, in plain Lean: expressions. Where all of a program stands, in plain Lean. Trees whose rows may all be written; they are lent to calls that only read. Rows that are marked: what a mark says; cells of one's own rows written one by one. Copies that are one's own: structs put together field by field; what comes of a call seen otherwise. What is done to a memory by calls of one's own; rows of one's own that grow. Boxes and trees of one's own that stand at once; what marks are, in one form. Rows that boxes hold: they grow, they are not written any more. Rows of leaves that grow and are cut. What reading leaves, and how large it is; what tokens look like. In plain Lean. Runs of a parser, put together, in plain Lean. What is read of tokens, in plain Lean: statements, programs. Arrays put in order, in plain Lean. -/
import Derived.Test.YtdbnllfjmkmdiaaGreatDoorG4
import Derived.Test.YtdbnllfjmkmdiaaGreatDoorG3
import Derived.Lib.Bytealg
set_option linter.unusedSimpArgs false
set_option linter.unusedVariables false
namespace Go.T
open Go
structure Tk where
 k : Int
 s : ByteArray
 n : Int
def Tk.cells (t : Tk) : List AV := [.int .i64 t.k, .str t.s, .int .i64 t.n]
def Tk.av (t : Tk) : AV := .agg t.cells
def figure (c : UInt8) : Bool := inR c.toNat 48 57
def marksL : List UInt8 := [59, 61, 91, 93, 40, 41, 123, 125, 43, 45, 42, 44]
def valD (l : List UInt8) : Nat := l.foldl (fun n c => n * 10 + (c.toNat - 48)) 0
def numD (l : List UInt8) : Option Int :=
 if l.length <= 10 /\ l ≠ [] /\ l.all figure = true /\ (l.length = 1 ∨ l.head? ≠ some 48) /\ valD l <= 2147483647 then some (valD l) else none
def tokD : List UInt8 -> Option (Tk × List UInt8)
 | [] => none
 | c :: l =>
  if small c then
   if kept ⟨((c :: l).takeWhile small).toArray⟩ then some (⟨3, ⟨((c :: l).takeWhile small).toArray⟩, 0⟩, (c :: l).dropWhile small)
   else if nameOk ⟨((c :: l).takeWhile small).toArray⟩ then some (⟨1, ⟨((c :: l).takeWhile small).toArray⟩, 0⟩, (c :: l).dropWhile small) else none
  else if figure c then match numD ((c :: l).takeWhile figure) with
   | some n => if n <= 999999 then some (⟨2, ⟨#[]⟩, n⟩, (c :: l).dropWhile figure) else none
   | none => none
  else if marksL.contains c then some (⟨4, ⟨#[c]⟩, 0⟩, l) else none
def blank (c : UInt8) : Bool := decide (c = 32) || decide (c = 10)
def lexD : Nat -> Nat -> List UInt8 -> Option (List Tk)
 | _, _, [] => some []
 | 0, _, _ :: _ => none
 | k + 1, n, c :: l =>
  if blank c then lexD k n l
  else match tokD (c :: l) with
   | none => none
   | some (t, r) => if 600 <= n then none else (lexD k (n + 1) r).map (t :: ·)
def lex (s : ByteArray) : Option (List Tk) := if 3000 < s.size then none else lexD s.size 0 s.data.toList
theorem valD_snoc (l : List UInt8) (c : UInt8) : valD (l ++ [c]) = valD l * 10 + (c.toNat - 48) := by simp [valD]
theorem figure_le {c : UInt8} (h : figure c = true) : 48 <= c.toNat /\ c.toNat <= 57 := by
 unfold figure inR at h
 simp at h
 omega
theorem ofNat_fig {c : UInt8} (h : figure c = true) : UInt8.ofNat (48 + (c.toNat - 48)) = c := by
 have := figure_le h
 rw [show 48 + (c.toNat - 48) = c.toNat by omega]
 simp
theorem snoc_ind {α : Type} {p : List α -> Prop} (h0 : p []) (h1 : ∀ l x, p l -> p (l ++ [x])) : ∀ l, p l := by
 intro l
 have : ∀ r : List α, p r.reverse := by
  intro r
  induction r with
  | nil => exact h0
  | cons x r ih => rw [List.reverse_cons]; exact h1 _ _ ih
 rw [<- List.reverse_reverse l]
 exact this _
theorem valD_lt : ∀ l : List UInt8, l.all figure = true -> valD l < 10 ^ l.length := by
 refine snoc_ind (by intro _; simp [valD]) fun l c ih h => ?_
 rw [List.all_append, Bool.and_eq_true] at h
 have h1 := ih h.1
 have h2 := figure_le (c := c) (by simpa using h.2)
 rw [valD_snoc, List.length_append, List.length_singleton, Nat.pow_succ]
 omega
theorem dec_head : ∀ u : Nat, u ≠ 0 -> (Lib.decDigits u).head? ≠ some 48 := by
 intro u
 induction u using Nat.strongRecOn with
 | _ u ih =>
  intro hu
  rw [Lib.decDigits]
  split
  ·rename_i h
   simp only [List.head?_cons, ne_eq, Option.some.injEq]
   intro e
   have := congrArg UInt8.toNat e
   simp at this
   omega
  rename_i h
  have h1 := ih (u / 10) (by omega) (by omega)
  have hne : Lib.decDigits (u / 10) ≠ [] := by
   rw [Lib.decDigits]
   split <;> simp
  cases hd : Lib.decDigits (u / 10) with
  | nil => exact absurd hd hne
  | cons x l => rw [hd] at h1; simpa using h1
theorem dec_val : ∀ l : List UInt8, l ≠ [] -> l.all figure = true -> l.head? ≠ some 48 -> Lib.decDigits (valD l) = l := by
 refine snoc_ind (fun h => absurd rfl h) fun l c ih _ h hh => ?_
 rw [List.all_append, Bool.and_eq_true] at h
 have hc : figure c = true := by simpa using h.2
 have hc2 := figure_le hc
 rw [valD_snoc]
 cases l with
 | nil =>
  rw [Lib.decDigits, dif_pos (by simp [valD]; omega)]
  simp only [valD, List.foldl_nil, Nat.zero_mul, Nat.zero_add, List.nil_append]
  rw [ofNat_fig hc]
 | cons x l =>
  have hx : (x :: l).head? ≠ some 48 := by simpa using hh
  have h1 := ih (by simp) h.1 hx
  have h0 : valD (x :: l) ≠ 0 := by
   intro e
   rw [e, Lib.decDigits, dif_pos (by omega)] at h1
   have e2 := (List.cons.inj h1).1
   exact hx (by rw [List.head?_cons, <- e2]; rfl)
  rw [Lib.decDigits, dif_neg (by omega)]
  rw [show (valD (x :: l) * 10 + (c.toNat - 48)) / 10 = valD (x :: l) by omega, show (valD (x :: l) * 10 + (c.toNat - 48)) % 10 = c.toNat - 48 by omega, h1, ofNat_fig hc]
theorem dec_iff {l : List UInt8} (h0 : l ≠ []) (h : l.all figure = true) : Lib.decDigits (valD l) = l <-> (l.length = 1 ∨ l.head? ≠ some 48) := by
 constructor
 ·intro e
  by_cases hh : l.head? = some 48
  ·left
   by_cases hv : valD l = 0
   ·rw [hv, Lib.decDigits, dif_pos (by omega)] at e
    rw [<- e]; rfl
   exact absurd (by rw [e]; exact hh) (dec_head _ hv)
  exact .inr hh
 intro hd
 by_cases hh : l.head? = some 48
 ·have hl : l.length = 1 := hd.resolve_right (fun h => h hh)
  match l, hl with
  | [c], _ =>
   have : c = 48 := by simpa using hh
   subst this
   rw [show valD [48] = 0 from rfl, Lib.decDigits, dif_pos (by omega)]
   rfl
 exact dec_val l h0 h hh
theorem numB_iff {l : List UInt8} (h0 : l ≠ []) (h : l.all figure = true) : numB (valD l) = ⟨l.toArray⟩ <-> (l.length = 1 ∨ l.head? ≠ some 48) := by
 rw [<- dec_iff h0 h]
 unfold numB Lib.itoa
 rw [if_neg (by omega)]
 simp
theorem extract_list (s : ByteArray) (a b : Nat) : s.extract a b = ⟨((s.data.toList.take b).drop a).toArray⟩ := by
 apply ByteArray.ext
 rw [ByteArray.data_extract]
 apply Array.ext'
 simp [List.extract_eq_take_drop, List.drop_take]
theorem list_mk (l : List UInt8) : (⟨l.toArray⟩ : ByteArray).data.toList = l := by simp
theorem mk_list (s : ByteArray) : (⟨s.data.toList.toArray⟩ : ByteArray) = s := by cases s; simp
theorem takeW_append {α : Type} (p : α -> Bool) : ∀ (l : List α) (i : Nat), (∀ x ∈ l.take i, p x = true) -> l.takeWhile p = l.take i ++ (l.drop i).takeWhile p
 | [], i, _ => by simp
 | x :: l, 0, _ => by simp
 | x :: l, i + 1, h => by
  have h1 : p x = true := h x (by simp)
  have h2 := takeW_append p l i fun y hy => h y (by simp [hy])
  simp [List.takeWhile_cons, h1, h2]
theorem dropW_drop {α : Type} (p : α -> Bool) : ∀ l : List α, l.dropWhile p = l.drop (l.takeWhile p).length
 | [] => rfl
 | x :: l => by
  by_cases h : p x = true
  ·simp [List.dropWhile_cons, List.takeWhile_cons, h, dropW_drop p l]
  simp [List.dropWhile_cons, List.takeWhile_cons, h]
theorem idxB_ge : ∀ (l : List UInt8) (c : UInt8), -1 <= Lib.indexByte l c
 | [], c => by show (-1 : Int) <= -1; omega
 | b :: l, c => by
  have ih := idxB_ge l c
  have e : Lib.indexByte (b :: l) c = if b == c then 0 else if Lib.indexByte l c == -1 then -1 else Lib.indexByte l c + 1 := rfl
  rw [e]
  split
  ·omega
  split
  ·omega
  omega
theorem marks_has : ∀ (l : List UInt8) (c : UInt8), decide (0 <= Lib.indexByte l c) = l.contains c
 | [], c => rfl
 | b :: l, c => by
  have ih := marks_has l c
  have hge := idxB_ge l c
  have e : Lib.indexByte (b :: l) c = if b == c then 0 else if Lib.indexByte l c == -1 then -1 else Lib.indexByte l c + 1 := rfl
  rw [List.contains_cons, <- ih, e]
  by_cases hb : b = c
  ·subst hb; simp
  have hb2 : (b == c) = false := by simpa using hb
  have hb3 : (c == b) = false := by simpa using Ne.symm hb
  rw [hb2, hb3, Bool.false_or]
  simp only [Bool.false_eq_true, if_false]
  split
  ·rename_i h
   have h : Lib.indexByte l c = -1 := by simpa using h
   rw [h]
  rename_i h
  have h : Lib.indexByte l c ≠ -1 := by simpa using h
  simp only [decide_eq_decide]
  omega
def Tk.is (t : Tk) (k : Int) (s : ByteArray) : Bool := decide (t.k = k) && decide (t.s = s)
def ch (c : UInt8) : ByteArray := ⟨#[c]⟩
def tkS (k : Int) (s : ByteArray) : List Tk -> Option (List Tk)
 | [] => none
 | t :: r => if t.is k s then some r else none
abbrev PE := List Tk -> Option (Ex × List Tk)
def two (k : Int) (a b : Ex) : Ex := .mk k 0 ⟨#[]⟩ [a, b]
def minB : ByteArray := ⟨#[109, 105, 110]⟩
def maxB : ByteArray := ⟨#[109, 97, 120]⟩
def pairP (sub : PE) (k : Int) : PE := fun ts =>
 (tkS 4 (ch 40) ts).bind fun t1 => (sub t1).bind fun (a, t2) => (tkS 4 (ch 44) t2).bind fun t3 => (sub t3).bind fun (b, t4) => (tkS 4 (ch 41) t4).bind fun t5 => some (two k a b, t5)
def atomP (sub : PE) : PE
 | [] => none
 | t :: r =>
  if t.k = 2 then some (.mk 1 t.n ⟨#[]⟩ [], r)
  else if t.k = 1 then match tkS 4 (ch 91) r with
   | none => some (.mk 2 0 t.s [], r)
   | some r1 => (sub r1).bind fun (e, r2) => (tkS 4 (ch 93) r2).bind fun r3 => some (.mk 3 0 t.s [e], r3)
  else if t.is 4 (ch 40) then (sub r).bind fun (e, r1) => (tkS 4 (ch 41) r1).bind fun r2 => some (e, r2)
  else if t.is 3 minB then pairP sub 7 r
  else if t.is 3 maxB then pairP sub 8 r
  else none
def mulsP (sub : PE) : Nat -> Ex -> PE
 | 0, e, ts => some (e, ts)
 | k + 1, e, ts => match tkS 4 (ch 42) ts with
  | none => some (e, ts)
  | some r => (atomP sub r).bind fun (x, r1) => mulsP sub k (two 6 e x) r1
def mulP (sub : PE) : PE := fun ts => (atomP sub ts).bind fun (e, r) => mulsP sub r.length e r
def addsP (sub : PE) : Nat -> Ex -> PE
 | 0, e, ts => some (e, ts)
 | k + 1, e, ts => match tkS 4 (ch 43) ts with
  | some r => (mulP sub r).bind fun (x, r1) => addsP sub k (two 4 e x) r1
  | none => match tkS 4 (ch 45) ts with
   | some r => (mulP sub r).bind fun (x, r1) => addsP sub k (two 5 e x) r1
   | none => some (e, ts)
def sumP : Nat -> PE
 | 0 => fun _ => none
 | d + 1 => fun ts => (mulP (sumP d) ts).bind fun (e, r) => addsP (sumP d) r.length e r
def parseE (s : ByteArray) : Option Ex := match lex s with
 | none => none
 | some ts => match sumP 30 ts with
  | some (e, []) => if e.ok = true then some e else none
  | _ => none
def sumN : List Ar -> Int
 | [] => 0
 | a :: l => a.n + sumN l
theorem sumN_le : ∀ l : List Ar, (∀ a ∈ l, inR a.n 1 16 = true) -> 0 <= sumN l /\ sumN l <= 16 * l.length
 | [], _ => by simp [sumN]
 | a :: l, h => by
  have h1 := h a (List.mem_cons_self ..)
  have h2 := sumN_le l fun x hx => h x (List.mem_cons_of_mem _ hx)
  unfold inR at h1
  simp at h1
  simp only [sumN, List.length_cons]
  omega
structure Pg.Fine (p : Pg) : Prop where
 arrs : p.arrs.length <= 4
 sizes : ∀ a ∈ p.arrs, inR a.n 1 16 = true
 vars : p.vars.length <= 6
 body : p.body.length <= 12
theorem Pg.Fine.take {p : Pg} (h : p.Fine) (k : Nat) : 0 <= sumN (p.arrs.take k) /\ sumN (p.arrs.take k) <= 64 := by
 have h1 := sumN_le (p.arrs.take k) fun a ha => h.sizes a (List.mem_of_mem_take ha)
 have h2 : (p.arrs.take k).length <= 4 := by rw [List.length_take]; have := h.arrs; omega
 omega
mutual
inductive OwnT (m : Mem) : (Nat -> Prop) -> AV -> AV -> Prop
 | int {F : Nat -> Prop} (k : IntKind) (n : Int) : OwnT m F (.int k n) (.int k n)
 | bool {F : Nat -> Prop} (b : Bool) : OwnT m F (.bool b) (.bool b)
 | str {F : Nat -> Prop} (s : ByteArray) : OwnT m F (.str s) (.str s)
 | nil {F : Nat -> Prop} (f : Bool) (e e' : Nat) : OwnT m F (.lst f e []) (.lst false e' [])
 | own {F G : Nat -> Prop} {g n c e : Nat} {T : TypeId} {ys xs : List AV} : m g = some (.arr T e c ys) -> ys.length = n -> OwnTs m G ys xs -> ¬ G g -> (∀ b, G b -> F b) -> F g -> OwnT m F (.own g n c) (.lst false e xs)
 | agg {F : Nat -> Prop} {as xs : List AV} : OwnTs m F as xs -> as.all okCell = true -> OwnT m F (.agg as) (.agg xs)
inductive OwnTs (m : Mem) : (Nat -> Prop) -> List AV -> List AV -> Prop
 | nil {F : Nat -> Prop} : OwnTs m F [] []
 | cons {F A B : Nat -> Prop} {a x : AV} {as xs : List AV} : OwnT m A a x -> OwnTs m B as xs -> (∀ g, A g -> ¬ B g) -> (∀ g, A g -> F g) -> (∀ g, B g -> F g) -> OwnTs m F (a :: as) (x :: xs)
end
mutual
theorem OwnT.len {m : Mem} {F : Nat -> Prop} {a x : AV} : OwnT m F a x -> a.cells.length = x.cells.length
 | .int _ _ => rfl
 | .bool _ => rfl
 | .str _ => rfl
 | .nil _ _ _ => rfl
 | .own _ _ _ _ _ _ => rfl
 | .agg h _ => OwnTs.len h
theorem OwnTs.len {m : Mem} {F : Nat -> Prop} {as xs : List AV} : OwnTs m F as xs -> as.length = xs.length
 | .nil => rfl
 | .cons _ h _ _ _ => by simp [OwnTs.len h]
end
theorem OwnTs.size {m : Mem} {F : Nat -> Prop} {as xs : List AV} {e : Nat} (h : OwnTs m F as xs) (he : ∀ a ∈ as, a.cells.length = e) : ∀ x ∈ xs, x.cells.length = e := by
 induction as generalizing F xs with
 | nil => cases h; exact fun x hx => by cases hx
 | cons a as ih =>
  cases h with | cons h1 h2 _ _ _ =>
  intro x hx
  rcases List.mem_cons.1 hx with rfl | hx
  ·rw [<- h1.len]; exact he _ (List.mem_cons_self ..)
  exact ih h2 (fun y hy => he y (List.mem_cons_of_mem _ hy)) x hx
mutual
theorem OwnT.up {m : Mem} {F F' : Nat -> Prop} {a x : AV} (hF : ∀ g, F g -> F' g) : OwnT m F a x -> OwnT m F' a x
 | .int k n => .int k n
 | .bool b => .bool b
 | .str s => .str s
 | .nil f e e' => .nil f e e'
 | .own h1 h2 h3 h4 h5 h6 => .own h1 h2 h3 h4 (fun b hb => hF b (h5 b hb)) (hF _ h6)
 | .agg h k => .agg (OwnTs.up hF h) k
theorem OwnTs.up {m : Mem} {F F' : Nat -> Prop} {as xs : List AV} (hF : ∀ g, F g -> F' g) : OwnTs m F as xs -> OwnTs m F' as xs
 | .nil => .nil
 | .cons h1 h2 h3 h4 h5 => .cons h1 h2 h3 (fun g hg => hF g (h4 g hg)) (fun g hg => hF g (h5 g hg))
end
mutual
theorem OwnT.mem {m m' : Mem} {F : Nat -> Prop} {a x : AV} (hm : ∀ g, F g -> m' g = m g) : OwnT m F a x -> OwnT m' F a x
 | .int k n => .int k n
 | .bool b => .bool b
 | .str s => .str s
 | .nil f e e' => .nil f e e'
 | .own h1 h2 h3 h4 h5 h6 => .own ((hm _ h6).trans h1) h2 (OwnTs.mem (fun b hb => hm b (h5 b hb)) h3) h4 h5 h6
 | .agg h k => .agg (OwnTs.mem hm h) k
theorem OwnTs.mem {m m' : Mem} {F : Nat -> Prop} {as xs : List AV} (hm : ∀ g, F g -> m' g = m g) : OwnTs m F as xs -> OwnTs m' F as xs
 | .nil => .nil
 | .cons h1 h2 h3 h4 h5 => .cons (OwnT.mem (fun g hg => hm g (h4 g hg)) h1) (OwnTs.mem (fun g hg => hm g (h5 g hg)) h2) h3 h4 h5
end
mutual
theorem OwnT.dom {m : Mem} {F : Nat -> Prop} {a x : AV} : OwnT m F a x -> ∃ G : Nat -> Prop, OwnT m G a x /\ (∀ g, G g -> F g) /\ ∀ g, G g -> m g ≠ none
 | .int k n => ⟨fun _ => False, .int k n, fun _ h => h.elim, fun _ h => h.elim⟩
 | .bool b => ⟨fun _ => False, .bool b, fun _ h => h.elim, fun _ h => h.elim⟩
 | .str s => ⟨fun _ => False, .str s, fun _ h => h.elim, fun _ h => h.elim⟩
 | .nil f e e' => ⟨fun _ => False, .nil f e e', fun _ h => h.elim, fun _ h => h.elim⟩
 | @OwnT.own _ _ G g n c e T ys xs h1 h2 h3 h4 h5 h6 =>
  let ⟨G', k1, k2, k3⟩ := OwnTs.dom h3
  ⟨fun b => G' b ∨ b = g, .own h1 h2 k1 (fun h => h4 (k2 _ h)) (fun b hb => .inl hb) (.inr rfl), fun b hb => hb.elim (fun h => h5 b (k2 b h)) (fun h => h ▸ h6), fun b hb => hb.elim (k3 b) (fun h => by rw [h, h1]; simp)⟩
 | .agg h k => let ⟨G', k1, k2, k3⟩ := OwnTs.dom h; ⟨G', .agg k1 k, k2, k3⟩
theorem OwnTs.dom {m : Mem} {F : Nat -> Prop} {as xs : List AV} : OwnTs m F as xs -> ∃ G : Nat -> Prop, OwnTs m G as xs /\ (∀ g, G g -> F g) /\ ∀ g, G g -> m g ≠ none
 | .nil => ⟨fun _ => False, .nil, fun _ h => h.elim, fun _ h => h.elim⟩
 | .cons h1 h2 h3 h4 h5 =>
  let ⟨A, a1, a2, a3⟩ := OwnT.dom h1
  let ⟨B, b1, b2, b3⟩ := OwnTs.dom h2
  ⟨fun g => A g ∨ B g, .cons a1 b1 (fun g hA hB => h3 g (a2 g hA) (b2 g hB)) (fun g h => .inl h) (fun g h => .inr h), fun g h => h.elim (fun h => h4 g (a2 g h)) (fun h => h5 g (b2 g h)), fun g h => h.elim (a3 g) (b3 g)⟩
end
section
variable {w : World} {S G : Nat -> Prop} {m : Mem}
mutual
theorem OwnT.rep (hm : MemRep w S m) {F : Nat -> Prop} (hG : ∀ g, F g -> G g) {a x : AV} : OwnT m F a x -> (∀ v, Rep w S a v -> Rep w (fun b => S b ∨ G b) x v) /\ (∀ vs, Reps w S a.cells vs -> Reps w (fun b => S b ∨ G b) x.cells vs)
 | .int k n => ⟨fun v h => h.mono (fun _ _ => rfl) (fun _ h => .inl h), fun vs h => h.mono (fun _ _ => rfl) (fun _ h => .inl h)⟩
 | .bool b => ⟨fun v h => h.mono (fun _ _ => rfl) (fun _ h => .inl h), fun vs h => h.mono (fun _ _ => rfl) (fun _ h => .inl h)⟩
 | .str s => ⟨fun v h => h.mono (fun _ _ => rfl) (fun _ h => .inl h), fun vs h => h.mono (fun _ _ => rfl) (fun _ h => .inl h)⟩
 | .nil f e e' => by
  have key : ∀ v, Rep w S (.lst f e []) v -> Rep w (fun b => S b ∨ G b) (.lst false e' []) v := fun v h => by
   cases h with
   | lnil _ _ A c hc => exact .lnil _ _ A c (fun h => by cases h)
   | lst _ _ b o c h1 h2 h3 h4 h5 => exact .lnil _ _ _ c (fun h => by cases h)
  exact ⟨key, fun vs h => by
   cases h with | cons h1 h2 => cases h2; exact .cons (key _ h1) .nil⟩
 | @OwnT.own _ _ G' g n c e T ys xs h1 h2 h3 h4 h5 h6 => by
  have key : ∀ v, Rep w S (.own g n c) v -> Rep w (fun b => S b ∨ G b) (.lst false e xs) v := fun v h => by
   obtain ⟨vs, us, hb, hr, hl, he, hle⟩ := hm.blk g _ h1
   have hf := (OwnTs.rep hm (fun b hb => hG b (h5 b hb)) h3).2 vs hr
   cases h
   have hn : n = xs.length := h2.symm.trans h3.len
   subst hn
   exact .lst false e g 0 c (.inr (hG g h6)) (h3.size he) (by rw [<- h3.len]; exact hle) (fun h => by cases h) (Cells.of_block hb hf 0 (fun i v hv => by
    have : i < vs.length := (List.getElem?_eq_some_iff.1 hv).1
    simp [List.getElem?_append_left this, hv]))
  exact ⟨key, fun vs h => by
   cases h with | cons h1 h2 => cases h2; exact .cons (key _ h1) .nil⟩
 | .agg h _ => ⟨fun v hv => by cases hv with | agg hr => exact .agg ((OwnTs.rep hm hG h).1 _ hr), fun vs hr => (OwnTs.rep hm hG h).1 vs hr⟩
theorem OwnTs.rep (hm : MemRep w S m) {F : Nat -> Prop} (hG : ∀ g, F g -> G g) {as xs : List AV} : OwnTs m F as xs -> (∀ vs, Reps w S as vs -> Reps w (fun b => S b ∨ G b) xs vs) /\ (∀ vs, Reps w S (flat as) vs -> Reps w (fun b => S b ∨ G b) (flat xs) vs)
 | .nil => ⟨fun vs h => by cases h; exact .nil, fun vs h => by cases h; exact .nil⟩
 | .cons h1 h2 _ h4 h5 => by
  have r1 := OwnT.rep hm (fun g hg => hG g (h4 g hg)) h1
  have r2 := OwnTs.rep hm (fun g hg => hG g (h5 g hg)) h2
  refine ⟨fun vs h => by cases h with | cons k1 k2 => exact .cons (r1.1 _ k1) (r2.1 _ k2), fun vs h => ?_⟩
  simp only [flat, List.flatMap_cons] at h ⊢
  obtain ⟨us, ws, rfl, k1, k2⟩ := h.split
  exact (r1.2 _ k1).append (r2.2 _ k2)
end
end
open Classical in
noncomputable def Mem.without (m : Mem) (F : Nat -> Prop) : Mem := fun g => if F g then none else m g
theorem memRep_without {w : World} {S F : Nat -> Prop} {m : Mem} (hm : MemRep w S m) (hF : ∀ g, F g -> m g ≠ none) : MemRep w (fun b => S b ∨ F b) (m.without F) := by
 refine ⟨fun g b hg => ?_, fun b hb => ?_⟩
 ·unfold Mem.without at hg
  split at hg
  ·cases hg
  exact (hm.blk g b hg).mono (fun _ _ => rfl) (fun _ h => .inl h) rfl
 unfold Mem.without
 rcases hb with hb | hb
 ·refine ⟨?_, (hm.apart b hb).2⟩
  split
  ·rfl
  exact (hm.apart b hb).1
 refine ⟨if_pos hb, ?_⟩
 cases hq : m b with
 | none => exact absurd hq (hF b hb)
 | some x => exact (hm.blk b x hq).lt
def Lent (m : Mem) (F : Nat -> Prop) (as xs : List AV) : Prop := (∀ g, F g -> m g ≠ none) /\ ∀ w S vs, MemRep w S m -> Reps w S as vs -> Reps w (fun b => S b ∨ F b) xs vs
theorem Lent.nil (m : Mem) : Lent m (fun _ => False) [] [] := ⟨fun _ h => h.elim, fun w S vs _ h => by cases h; exact .nil⟩
theorem Lent.same {m : Mem} {F : Nat -> Prop} {as xs : List AV} (h : Lent m F as xs) (a : AV) : Lent m F (a :: as) (a :: xs) :=
 ⟨h.1, fun w S vs hm hr => by cases hr with | cons k1 k2 => exact .cons (k1.mono (fun _ _ => rfl) (fun _ h => .inl h)) (h.2 w S _ hm k2)⟩
theorem Lent.own {m : Mem} {F A : Nat -> Prop} {as xs : List AV} (h : Lent m F as xs) {a x : AV} (ha : OwnT m A a x) : ∃ F', Lent m F' (a :: as) (x :: xs) := by
 obtain ⟨G, h1, h2, h3⟩ := ha.dom
 refine ⟨fun b => F b ∨ G b, fun g hg => hg.elim (h.1 g) (h3 g), fun w S vs hm hr => ?_⟩
 cases hr with | cons k1 k2 =>
 exact .cons (((h1.rep hm (G := fun b => F b ∨ G b) (fun _ h => .inr h)).1 _ k1)) ((h.2 w S _ hm k2).mono (fun _ _ => rfl) (fun b hb => hb.imp id .inl))
def solidC : AV -> Bool
 | .int .. | .bool _ | .str _ | .nilp | .ptr .. | .own .. | .elt .. | .lst _ _ [] => true
 | _ => false
def solid : AV -> Bool
 | .agg cs => cs.all solidC
 | .tup cs => cs.all solidC
 | a => solidC a
theorem solidC_rep {w w' : World} {S S' : Nat -> Prop} {a : AV} {v : Value} (ha : solidC a = true) (h : Rep w S a v) : Rep w' S' a v := by
 cases h <;> first | exact .int _ _ | exact .bool _ | exact .str _ | exact .nilp | exact .ptr _ _ | exact .own _ _ _ | exact .elt _ _ _ _ | exact .lnil _ _ _ _ ‹_› | (cases ha; done) | skip
 rename_i f xs e b o c h1 h2 h3 h4 h5
 cases xs with
 | nil => exact .lnil _ _ _ _ h4
 | cons x xs => cases ha
theorem solidC_reps {w w' : World} {S S' : Nat -> Prop} {as : List AV} {vs : List Value} (ha : as.all solidC = true) (h : Reps w S as vs) : Reps w' S' as vs := by
 induction as generalizing vs with
 | nil => cases h; exact .nil
 | cons a as ih =>
  cases h with | cons h t =>
  rw [List.all_cons, Bool.and_eq_true] at ha
  exact .cons (solidC_rep ha.1 h) (ih ha.2 t)
theorem solid_rep {w w' : World} {S S' : Nat -> Prop} {a : AV} {v : Value} (ha : solid a = true) (h : Rep w S a v) : Rep w' S' a v := by
 cases a with
 | agg cs => cases h with | agg hr => exact .agg (solidC_reps ha hr)
 | tup cs => cases h with | tup hr => exact .tup (solidC_reps ha hr)
 | _ => exact solidC_rep ha h
theorem PCall.lend {P : Program} {n : FuncId} {args args' : List AV} {r : AV} {m : Mem} {F : Nat -> Prop} (h : PCall P n args' r) (hl : Lent m F args args') (hr : solid r = true) {K : AV -> Mem -> Prop} (hK : K r m) : WCall P n args m K := by
 refine ⟨h.1, fun w S cargs hm ha => calls_mono (h.2 w _ cargs _ (memRep_without hm hl.1) (hl.2 w S cargs hm ha)) ?_⟩
 rintro e w' ⟨v, S', he, h1, h2, h3, h4, h5⟩
 refine ⟨v, r, m, S, he, hK, fun _ h => h, fun _ h => .inl h, ⟨fun g b hg => ?_, fun b hb => ⟨(hm.apart b hb).1, Nat.lt_of_lt_of_le (hm.apart b hb).2 h5.size⟩⟩, solid_rep hr h4, h5.mono (fun _ h => h.elim), fun g b hg => .inl (by rw [hg]; simp)⟩
 exact (hm.blk g b hg).mono (fun b' hb' => h5.block b' (hm.apart b' hb').2 id) (fun _ h => h) (h5.block g (hm.blk g b hg).lt id)
theorem OwnTs.append {m : Mem} {F A B : Nat -> Prop} {as xs bs ys : List AV} (h : OwnTs m A as xs) (k : OwnTs m B bs ys) (hd : ∀ g, A g -> ¬ B g) (hA : ∀ g, A g -> F g) (hB : ∀ g, B g -> F g) : OwnTs m F (as ++ bs) (xs ++ ys) := by
 induction as generalizing A F xs with
 | nil => cases h; exact k.up hB
 | cons a as ih =>
  cases h with | @cons _ A1 A2 _ _ _ _ h1 h2 h3 h4 h5 =>
  exact .cons h1 (ih (F := fun g => A2 g ∨ B g) h2 (fun g hg => hd g (h5 g hg)) (fun g h => .inl h) (fun g h => .inr h)) (fun g hg hq => hq.elim (h3 g hg) (hd g (h4 g hg))) (fun g hg => hA g (h4 g hg)) (fun g hg => hg.elim (fun h => hA g (h5 g h)) (hB g))
theorem OwnTs.snoc {m : Mem} {A B : Nat -> Prop} {as xs : List AV} {b y : AV} (h : OwnTs m A as xs) (k : OwnT m B b y) (hd : ∀ g, A g -> ¬ B g) : OwnTs m (fun g => A g ∨ B g) (as ++ [b]) (xs ++ [y]) :=
 h.append (.cons (F := B) k (.nil (F := fun _ => False)) (fun _ _ h => h) (fun _ h => h) (fun _ h => h.elim)) hd (fun _ h => .inl h) (fun _ h => .inr h)
theorem OwnT.okc {m : Mem} {F : Nat -> Prop} {a : AV} {f : Bool} {e : Nat} {xs : List AV} (h : OwnT m F a (.lst f e xs)) : okCell a = true /\ a.cells = [a] /\ a ≠ .undef := by
 cases h <;> exact ⟨rfl, rfl, by simp⟩
end Go.T
namespace Go.T
open Go
set_option linter.unnecessarySimpa false
theorem WCall.view {P : Program} {n : FuncId} {args : List AV} {m : Mem} {Q K : AV -> Mem -> Prop} (h : WCall P n args m Q) (hv : ∀ r m', Q r m' -> ∃ r' m'', View m' r m'' r' /\ K r' m'') : WCall P n args m K :=
 ⟨h.1, fun w S cargs hm hr => calls_mono (h.2 w S cargs hm hr) (by
  rintro e w' ⟨v, r, m', S', he, hq, h1, h2, h3, h4, h5, h6⟩
  obtain ⟨r', m'', hvw, hk⟩ := hv r m' hq
  obtain ⟨S2, k1, k2, k3, k4, k5⟩ := hvw w' S' v h3 h4
  have hdom : ∀ b, m' b ≠ none -> m b ≠ none ∨ w.heap.size <= b := fun b hb => by
   cases hq2 : m' b with
   | none => exact absurd hq2 hb
   | some x => exact h6 b x hq2
  refine ⟨v, r', m'', S2, he, hk, fun b hb => k1 b (h1 b hb), fun b hb => ?_, k3, k4, h5, fun g b hg => hdom g (k5 g b hg)⟩
  rcases k2 b hb with h | h
  ·exact h2 b h
  exact .inr (hdom b h))⟩
theorem own_agg {m : Mem} {F : Nat -> Prop} {r : AV} {xs : List AV} (h : OwnT m F r (.agg xs)) : ∃ as, r = .agg as /\ OwnTs m F as xs /\ as.all okCell = true := by
 cases h with | agg h k => exact ⟨_, rfl, h, k⟩
theorem ext_set {m : Mem} {g : Nat} (hg : m g = none) (b : Blk) : Ext m (m.set g b) := (Ext.refl m).set hg b
theorem Ext.trans {a b c : Mem} (h : Ext a b) (k : Ext b c) : Ext a c := fun g x hx => k g x (h g x hx)
end Go.T
namespace Go.T
open Go
def Gr (T : TypeId) (e : Nat) (m0 : Mem) (xs : List AV) (v : AV) (m : Mem) : Prop := Ext m0 m /\ ((xs = [] /\ ∃ f, v = .lst true f []) ∨ ∃ g c, v = .own g xs.length c /\ m g = some (.arr T e c xs) /\ m0 g = none)
theorem Gr.gs {T : TypeId} {e : Nat} {m0 m : Mem} {xs : List AV} {v : AV} (h : Gr T e m0 xs v m) : Grows T e m0 xs v m := by
 obtain ⟨hE, ⟨rfl, f, rfl⟩ | ⟨g, c, rfl, h1, h2⟩⟩ := h
 ·exact .lit f m (.inr rfl) hE
 exact .own g c _ m rfl h1 h2 hE
theorem Gr.start {T : TypeId} {e : Nat} (m : Mem) (f : Nat) : Gr T e m [] (.lst true f []) m := ⟨Ext.refl m, .inl ⟨rfl, f, rfl⟩⟩
theorem Gr.fresh {T : TypeId} {e : Nat} {m0 m : Mem} {xs : List AV} {v : AV} (h : Gr T e m0 xs v m) {g : Nat} (hg : m g = none) (b : Blk) : Gr T e m0 xs v (m.set g b) := by
 obtain ⟨hE, h⟩ := h
 refine ⟨hE.trans (ext_set hg b), h.imp id ?_⟩
 rintro ⟨g', c, h1, h2, h3⟩
 refine ⟨g', c, h1, ?_, h3⟩
 rw [set_at, if_neg]
 ·exact h2
 rintro rfl; rw [hg] at h2; cases h2
theorem Gr.app {P : Program} {T E : TypeId} {n b : Nat} (hT : ElemT P T E n b) {m0 m : Mem} {xs ys : List AV} {v x : AV} (h : Gr E n m0 xs v m) (hx : srcA m n x = some ys) (hok : ∀ y ∈ ys, y.cells.all okCell = true) (hb : (2 * (xs.length + ys.length) + 1024) * b <= 281474976710656)
  {k : AV -> Mem -> Prop} (hk : ∀ v' m', Gr E n m0 (xs ++ ys) v' m' -> (∀ g cs, m g = some (.box cs) -> m' g = some (.box cs)) -> k v' m') : appendW P m k #[T, T] v x := by
 obtain ⟨z, hz, hzl⟩ := hT.zero
 unfold appendW
 simp only [List.getElem?_toArray, List.getElem?_cons_zero, List.getElem?_cons_succ, hT.int, hT.elem, hT.size, hT.byte, hz, hx, true_and]
 refine ⟨hT.pos.1, hT.pos.2, hzl, ?_⟩
 have hset : ∀ (g' : Nat) (bl : Blk), (∀ cs, m g' ≠ some (.box cs)) -> ∀ g cs, m g = some (.box cs) -> (m.set g' bl) g = some (.box cs) := fun g' bl hg' g cs hgc => by
  rw [set_at, if_neg]
  ·exact hgc
  rintro rfl; exact hg' cs hgc
 obtain ⟨hE, ⟨rfl, f, rfl⟩ | ⟨g, c, rfl, h1, h2⟩⟩ := h
 ·refine ⟨.inr rfl, by simpa using hb, fun h0 => ?_, fun _ g c hg hle => ?_⟩
  ·refine hk _ _ ⟨hE, .inl ⟨?_, f, rfl⟩⟩ (fun _ _ h => h)
   simpa using h0
  refine hk _ _ ⟨hE.set (hE.none hg) _, .inr ⟨g, c, by simp, by simp [set_same], hE.none hg⟩⟩ (hset _ _ fun cs h => by rw [hg] at h; cases h)
 simp only [h1]
 refine ⟨trivial, trivial, trivial, trivial, hok, hb, fun g' c' hg' hle => ?_⟩
 have hg0 : m0 g' = none := by
  rcases hg' with rfl | h
  ·exact h2
  exact hE.none h
 refine hk _ _ ⟨hE.set hg0 _, .inr ⟨g', c', by simp, set_same _ _ _, hg0⟩⟩ (hset _ _ fun cs h => ?_)
 rcases hg' with rfl | hn
 ·rw [h1] at h; cases h
 rw [hn] at h; cases h
theorem Gr.view {T : TypeId} {e : Nat} {m0 m : Mem} {xs : List AV} {v : AV} (h : Gr T e m0 xs v m) : View m v m0 (.lst false e xs) := h.gs.view
end Go.T
namespace Go.T
open Go
variable {m m' : Mem} {bs : List (Nat × List AV)} {ts : List ((Nat -> Prop) × AV × AV)}
theorem OwnTs.split {F : Nat -> Prop} : ∀ {as bs xs : List AV}, OwnTs m F (as ++ bs) xs -> ∃ (A B : Nat -> Prop) (us ws : List AV), xs = us ++ ws /\ us.length = as.length /\ OwnTs m A as us /\ OwnTs m B bs ws /\ (∀ g, A g -> ¬ B g) /\ (∀ g, A g -> F g) /\ ∀ g, B g -> F g
 | [], bs, xs, h => ⟨fun _ => False, F, [], xs, rfl, rfl, .nil, h, fun _ h => h.elim, fun _ h => h.elim, fun _ h => h⟩
 | a :: as, bs, xs, h => by
  cases h with | @cons _ A1 A2 _ x _ xs h1 h2 h3 h4 h5 =>
  obtain ⟨A, B, us, ws, rfl, hl, k1, k2, k3, k4, k5⟩ := OwnTs.split (as := as) (bs := bs) h2
  exact ⟨fun g => A1 g ∨ A g, B, x :: us, ws, rfl, by simp [hl], .cons h1 k1 (fun g hg hq => h3 g hg (k4 g hq)) (fun g h => .inl h) (fun g h => .inr h), k2, fun g hg hq => hg.elim (fun h => h3 g h (k5 g hq)) (fun h => k3 g h hq), fun g hg => hg.elim (h4 g) (fun h => h5 g (k4 g h)), fun g hg => h5 g (k5 g hg)⟩
end Go.T
namespace Go.T
open Go
variable {m m' : Mem}
end Go.T
namespace Go.T
open Go
theorem Sees.freezeIn {s : St} {gm i g n c e : Nat} {T : TypeId} {xs cs : List AV} (h1 : s.mem gm = some (.box cs)) (h2 : cs[i]? = some (.own g n c)) (h3 : s.mem g = some (.arr T e c xs)) (h4 : xs.length = n) : Sees s ⟨s.slots, (s.mem.del g).set gm (.box (cs.set i (.lst false e xs)))⟩ := fun w S f hm hs => by
 have hne : g ≠ gm := by rintro rfl; rw [h1] at h3; cases h3
 obtain ⟨vs, us, hb, hr, hl, he, hle⟩ := hm.blk g _ h3
 obtain ⟨T', ws, hb', hr'⟩ := hm.blk gm _ h1
 have hSS : ∀ b, S b -> S b ∨ b = g := fun b hb => .inl hb
 have hst : Stays S w w := fun _ _ => rfl
 refine ⟨fun b => S b ∨ b = g, hSS, fun b hb => hb.imp id (fun h => by rw [h, h3]; simp), ⟨fun g' b hg' => ?_, fun b hb => ?_⟩, fun t => (hs t).mono hst hSS, fun g' b hg' => ?_⟩
 ·by_cases hgm : g' = gm
  ·subst hgm
   simp only [set_same, Option.some.injEq] at hg'
   subst hg'
   obtain ⟨v, hv, hrv⟩ := hr'.get i _ h2
   refine ⟨T', ws, hb', ?_⟩
   have hset := (hr'.mono hst hSS).set i (a := .lst false e xs) (v := v) ?_
   ·have : ws.set i v = ws := by
     apply List.ext_getElem?
     intro j
     by_cases hj : j = i
     ·subst hj
      have hlt := (List.getElem?_eq_some_iff.1 hv).1
      rw [List.getElem?_set_self hlt, hv]
     rw [List.getElem?_set_ne (Ne.symm hj)]
    rw [this] at hset
    exact hset
   cases hrv
   subst h4
   exact .lst false e g 0 c (.inr rfl) he hle (fun h => by cases h) (Cells.of_block hb (hr.mono hst hSS) 0 (fun i v hv => by
    have : i < vs.length := (List.getElem?_eq_some_iff.1 hv).1
    simp [List.getElem?_append_left this, hv]))
  dsimp only at hg'
  rw [Mem.set_other hgm] at hg'
  unfold Mem.del at hg'
  split at hg'
  ·cases hg'
  exact (hm.blk g' b hg').mono hst hSS rfl
 ·rcases hb with hb | rfl
  ·refine ⟨?_, (hm.apart b hb).2⟩
   have := (hm.apart b hb).1
   dsimp only
   rw [set_at]
   split
   ·rename_i e; subst e; rw [h1] at this; cases this
   unfold Mem.del; split
   ·rfl
   exact this
  refine ⟨?_, (Array.getElem?_eq_some_iff.1 hb).1⟩
  dsimp only
  rw [Mem.set_other hne]
  simp [Mem.del]
 by_cases hgm : g' = gm
 ·subst hgm; rw [h1]; simp
 dsimp only at hg'
 rw [Mem.set_other hgm] at hg'
 unfold Mem.del at hg'
 split at hg'
 ·cases hg'
 rw [hg']; simp
theorem Sees.boxLe {s : St} {gm : Nat} {cs cs' : List AV} (h1 : s.mem gm = some (.box cs)) (h : Les cs cs') : Sees s ⟨s.slots, s.mem.set gm (.box cs')⟩ := fun w S f hm hs => by
 refine ⟨S, fun _ h => h, fun _ h => .inl h, ⟨fun g b hg => ?_, fun b hb => ?_⟩, hs, fun g b hg => ?_⟩
 ·by_cases hgm : g = gm
  ·subst hgm
   simp only [set_same, Option.some.injEq] at hg
   subst hg
   obtain ⟨T, vs, k1, k2⟩ := hm.blk g _ h1
   exact ⟨T, vs, k1, h.reps k2⟩
  dsimp only at hg; rw [Mem.set_other hgm] at hg; exact hm.blk g b hg
 ·refine ⟨?_, (hm.apart b hb).2⟩
  dsimp only
  rw [set_at]
  split
  ·rename_i e; subst e; have := (hm.apart b hb).1; rw [h1] at this; cases this
  exact (hm.apart b hb).1
 by_cases hgm : g = gm
 ·subst hgm; rw [h1]; simp
 dsimp only at hg; rw [Mem.set_other hgm] at hg; rw [hg]; simp
end Go.T
namespace Go.T
end Go.T
namespace Go.T
@[simp] theorem cells_ref (cs : List AV) : (AV.ref cs).cells = [.ref cs] := (_root_.id rfl)
@[simp] theorem cells_nilp : AV.nilp.cells = [.nilp] := (_root_.id rfl)
@[simp] theorem cells_elt (g e i o : Nat) : (AV.elt g e i o).cells = [.elt g e i o] := (_root_.id rfl)
end Go.T
namespace Go.T
open Go
structure Tk.fine (t : Tk) : Prop where
 mark : t.k = 4 -> t.s.size = 1
 word : t.k = 3 -> kept t.s = true
 len : t.s.size <= 6
 num : 0 <= t.n /\ t.n <= 999999
def Tk.w (t : Tk) : Nat := t.s.size + 2
def W (ts : List Tk) : Nat := (ts.map Tk.w).sum
theorem W_cons (t : Tk) (ts : List Tk) : W (t :: ts) = t.s.size + 2 + W ts := by simp [W, Tk.w]
theorem W_le : ∀ ts : List Tk, (∀ t ∈ ts, t.fine) -> W ts <= 8 * ts.length
 | [], _ => by simp [W]
 | t :: ts, h => by
  have h1 := W_le ts fun x hx => h x (List.mem_cons_of_mem _ hx)
  have h2 := (h t (List.mem_cons_self ..)).len
  rw [W_cons, List.length_cons]
  omega
def Fit (f : PE) : Prop := ∀ ts e r, f ts = some (e, r) -> r <:+ ts /\ r.length < ts.length /\ e.tot + W r <= W ts
theorem tkS_some {k : Int} {s : ByteArray} {ts r : List Tk} (h : tkS k s ts = some r) : ∃ t, ts = t :: r /\ t.is k s = true := by
 cases ts with
 | nil => cases h
 | cons t l =>
  simp only [tkS] at h
  split at h
  ·rename_i hi
   cases h
   exact ⟨t, rfl, hi⟩
  cases h
theorem suf_cons {t : Tk} {r ts : List Tk} (h : t :: r <:+ ts) : r <:+ ts := (List.suffix_cons t r).trans h
theorem tot_two (k : Int) (a b : Ex) : (two k a b).tot = a.tot + b.tot + 2 := by
 unfold two
 rw [Ex.tot_mk]
 simp only [totL]
 have : (⟨#[]⟩ : ByteArray).size = 0 := rfl
 omega
theorem pair_fit {sub : PE} (hs : Fit sub) {k : Int} {ts : List Tk} {e : Ex} {r : List Tk} (h : pairP sub k ts = some (e, r)) : r <:+ ts /\ r.length < ts.length /\ e.tot + W r <= W ts := by
 simp only [pairP] at h
 obtain ⟨t1, h1, h⟩ := Option.bind_eq_some_iff.1 h
 obtain ⟨⟨a, t2⟩, h2, h⟩ := Option.bind_eq_some_iff.1 h
 obtain ⟨t3, h3, h⟩ := Option.bind_eq_some_iff.1 h
 obtain ⟨⟨b, t4⟩, h4, h⟩ := Option.bind_eq_some_iff.1 h
 obtain ⟨t5, h5, h⟩ := Option.bind_eq_some_iff.1 h
 cases h
 obtain ⟨x1, rfl, _⟩ := tkS_some h1
 obtain ⟨p1, p2, p3⟩ := hs _ _ _ h2
 obtain ⟨x3, rfl, _⟩ := tkS_some h3
 obtain ⟨q1, q2, q3⟩ := hs _ _ _ h4
 try dsimp only at q1 q2 q3
 obtain ⟨x5, rfl, _⟩ := tkS_some h5
 simp only [List.length_cons, W_cons, tot_two] at *
 exact ⟨(suf_cons q1).trans ((suf_cons p1).trans (List.suffix_cons _ _)), by omega, by omega⟩
theorem atom_fit {sub : PE} (hs : Fit sub) : Fit (atomP sub) := by
 intro ts e r h
 cases ts with
 | nil => cases h
 | cons t l =>
  simp only [atomP] at h
  split at h
  ·cases h
   refine ⟨List.suffix_cons _ _, by simp, ?_⟩
   rw [Ex.tot_mk, W_cons]
   simp only [totL]
   have : (⟨#[]⟩ : ByteArray).size = 0 := rfl
   omega
  split at h
  ·split at h
   ·cases h
    refine ⟨List.suffix_cons _ _, by simp, ?_⟩
    rw [Ex.tot_mk, W_cons]
    simp only [totL]
    omega
   rename_i r1 h1
   obtain ⟨⟨a, t2⟩, h2, h⟩ := Option.bind_eq_some_iff.1 h
   obtain ⟨t3, h3, h⟩ := Option.bind_eq_some_iff.1 h
   cases h
   obtain ⟨x1, rfl, _⟩ := tkS_some h1
   obtain ⟨p1, p2, p3⟩ := hs _ _ _ h2
   obtain ⟨x3, rfl, _⟩ := tkS_some h3
   simp only [List.length_cons, W_cons, Ex.tot_mk, totL] at *
   exact ⟨(suf_cons p1).trans ((List.suffix_cons _ _).trans (List.suffix_cons _ _)), by omega, by omega⟩
  split at h
  ·obtain ⟨⟨a, t2⟩, h2, h⟩ := Option.bind_eq_some_iff.1 h
   obtain ⟨t3, h3, h⟩ := Option.bind_eq_some_iff.1 h
   cases h
   obtain ⟨p1, p2, p3⟩ := hs _ _ _ h2
   obtain ⟨x3, rfl, _⟩ := tkS_some h3
   simp only [List.length_cons, W_cons] at *
   exact ⟨(suf_cons p1).trans (List.suffix_cons _ _), by omega, by omega⟩
  split at h
  ·obtain ⟨p1, p2, p3⟩ := pair_fit hs h
   simp only [List.length_cons, W_cons]
   exact ⟨p1.trans (List.suffix_cons _ _), by omega, by omega⟩
  split at h
  ·obtain ⟨p1, p2, p3⟩ := pair_fit hs h
   simp only [List.length_cons, W_cons]
   exact ⟨p1.trans (List.suffix_cons _ _), by omega, by omega⟩
  cases h
theorem muls_fit {sub : PE} (hs : Fit sub) : ∀ (k : Nat) (e : Ex) (ts : List Tk) (e' : Ex) (r : List Tk), mulsP sub k e ts = some (e', r) -> r <:+ ts /\ r.length <= ts.length /\ e'.tot + W r <= e.tot + W ts
 | 0, e, ts, e', r, h => by cases h; exact ⟨List.suffix_refl _, Nat.le_refl _, Nat.le_refl _⟩
 | k + 1, e, ts, e', r, h => by
  simp only [mulsP] at h
  split at h
  ·cases h; exact ⟨List.suffix_refl _, Nat.le_refl _, Nat.le_refl _⟩
  rename_i r1 h1
  obtain ⟨⟨a, t2⟩, h2, h⟩ := Option.bind_eq_some_iff.1 h
  obtain ⟨x1, rfl, _⟩ := tkS_some h1
  obtain ⟨p1, p2, p3⟩ := atom_fit hs _ _ _ h2
  obtain ⟨q1, q2, q3⟩ := muls_fit hs k _ _ _ _ h
  try dsimp only at q1 q2 q3
  simp only [List.length_cons, W_cons, tot_two] at *
  exact ⟨q1.trans (p1.trans (List.suffix_cons _ _)), by omega, by omega⟩
theorem mul_fit {sub : PE} (hs : Fit sub) : Fit (mulP sub) := by
 intro ts e r h
 simp only [mulP] at h
 obtain ⟨⟨a, t2⟩, h2, h⟩ := Option.bind_eq_some_iff.1 h
 obtain ⟨p1, p2, p3⟩ := atom_fit hs _ _ _ h2
 obtain ⟨q1, q2, q3⟩ := muls_fit hs _ _ _ _ _ h
 try dsimp only at q1 q2 q3
 exact ⟨q1.trans p1, by omega, by omega⟩
theorem adds_fit {sub : PE} (hs : Fit sub) : ∀ (k : Nat) (e : Ex) (ts : List Tk) (e' : Ex) (r : List Tk), addsP sub k e ts = some (e', r) -> r <:+ ts /\ r.length <= ts.length /\ e'.tot + W r <= e.tot + W ts
 | 0, e, ts, e', r, h => by cases h; exact ⟨List.suffix_refl _, Nat.le_refl _, Nat.le_refl _⟩
 | k + 1, e, ts, e', r, h => by
  simp only [addsP] at h
  have one : ∀ (op : Int) (r1 : List Tk) (x1 : Tk), ts = x1 :: r1 -> ((mulP sub r1).bind fun (x, r2) => addsP sub k (two op e x) r2) = some (e', r) -> r <:+ ts /\ r.length <= ts.length /\ e'.tot + W r <= e.tot + W ts := by
   rintro op r1 x1 rfl h
   obtain ⟨⟨a, t2⟩, h2, h⟩ := Option.bind_eq_some_iff.1 h
   obtain ⟨p1, p2, p3⟩ := mul_fit hs _ _ _ h2
   obtain ⟨q1, q2, q3⟩ := adds_fit hs k _ _ _ _ h
   try dsimp only at q1 q2 q3
   simp only [List.length_cons, W_cons, tot_two] at *
   exact ⟨q1.trans (p1.trans (List.suffix_cons _ _)), by omega, by omega⟩
  split at h
  ·rename_i r1 h1
   obtain ⟨x1, hx, _⟩ := tkS_some h1
   exact one 4 r1 x1 hx h
  split at h
  ·rename_i r1 h1
   obtain ⟨x1, hx, _⟩ := tkS_some h1
   exact one 5 r1 x1 hx h
  cases h; exact ⟨List.suffix_refl _, Nat.le_refl _, Nat.le_refl _⟩
theorem sum_fit : ∀ d, Fit (sumP d)
 | 0 => fun ts e r h => by cases h
 | d + 1 => fun ts e r h => by
  simp only [sumP] at h
  obtain ⟨⟨a, t2⟩, h2, h⟩ := Option.bind_eq_some_iff.1 h
  obtain ⟨p1, p2, p3⟩ := mul_fit (sum_fit d) _ _ _ h2
  obtain ⟨q1, q2, q3⟩ := adds_fit (sum_fit d) _ _ _ _ _ h
  try dsimp only at q1 q2 q3
  exact ⟨q1.trans p1, by omega, by omega⟩
theorem kept_len {s : ByteArray} (h : kept s = true) : 2 <= s.size /\ s.size <= 6 := by
 unfold kept has at h
 rw [List.any_eq_true] at h
 obtain ⟨x, hx, he⟩ := h
 have : x = s := by simpa using he
 subst this
 simp [keptL] at hx
 rcases hx with rfl | rfl | rfl | rfl | rfl | rfl <;> exact ⟨by decide, by decide⟩
theorem is_mark {t : Tk} (h : t.fine) (c : UInt8) : ((decide (t.k = 4) || decide (t.k = 3)) && decide (t.s = ch c)) = t.is 4 (ch c) := by
 unfold Tk.is
 by_cases h3 : t.k = 3
 ·have h1 := kept_len (h.word h3)
  have h2 : ¬ t.s = ch c := by
   intro e
   rw [e] at h1
   have : (ch c).size = 1 := rfl
   omega
  simp [h2]
 simp [h3]
theorem is_word {t : Tk} (h : t.fine) {s : ByteArray} (hs : 2 <= s.size) : ((decide (t.k = 4) || decide (t.k = 3)) && decide (t.s = s)) = t.is 3 s := by
 unfold Tk.is
 by_cases h4 : t.k = 4
 ·have h1 := h.mark h4
  have h2 : ¬ t.s = s := by
   intro e
   rw [e] at h1
   omega
  simp [h2]
 simp [h4]
theorem nameOk_len {s : ByteArray} (h : nameOk s = true) : s.size <= 6 := by
 unfold nameOk inR at h
 simp at h
 omega
theorem tokD_fine {L : List UInt8} {t : Tk} {r : List UInt8} (h : tokD L = some (t, r)) : t.fine := by
 cases L with
 | nil => cases h
 | cons c l =>
  simp only [tokD] at h
  split at h
  ·split at h
   ·rename_i hk
    cases h
    exact ⟨fun h => (by cases h), fun _ => hk, (kept_len hk).2, by simp, by simp⟩
   split at h
   ·rename_i hn
    cases h
    exact ⟨fun h => (by cases h), fun h => (by cases h), nameOk_len hn, by simp, by simp⟩
   cases h
  split at h
  ·split at h
   ·rename_i n hq
    split at h
    ·rename_i h9
     cases h
     have h0 : 0 <= n := by
      unfold numD at hq
      split at hq
      ·have := Option.some.inj hq; omega
      cases hq
     exact ⟨fun h => (by cases h), fun h => (by cases h), by show (0 : Nat) <= 6; omega, h0, h9⟩
    cases h
   cases h
  split at h
  ·cases h
   exact ⟨fun _ => rfl, fun h => (by cases h), by show (1 : Nat) <= 6; omega, by simp, by simp⟩
  cases h
theorem lexD_fine : ∀ (k n : Nat) (l : List UInt8) (ts : List Tk), lexD k n l = some ts -> n <= 600 -> (∀ t ∈ ts, t.fine) /\ n + ts.length <= 600
 | k, n, [], ts, h, hn => by
  have : ts = [] := by cases k <;> (unfold lexD at h; exact (Option.some.inj h).symm)
  subst this
  exact ⟨fun t h => (by cases h), by simpa using hn⟩
 | 0, n, c :: l, ts, h, hn => by cases h
 | k + 1, n, c :: l, ts, h, hn => by
  simp only [lexD] at h
  split at h
  ·exact lexD_fine k n l ts h hn
  split at h
  ·cases h
  rename_i t r ht
  split at h
  ·cases h
  rename_i h6
  obtain ⟨ts', h1, rfl⟩ := Option.map_eq_some_iff.1 h
  obtain ⟨p1, p2⟩ := lexD_fine k (n + 1) r ts' h1 (by omega)
  refine ⟨fun x hx => ?_, by simp only [List.length_cons]; omega⟩
  rcases List.mem_cons.1 hx with rfl | hx
  ·exact tokD_fine ht
  exact p1 x hx
theorem lex_fine {s : ByteArray} {ts : List Tk} (h : lex s = some ts) : (∀ t ∈ ts, t.fine) /\ ts.length <= 600 := by
 unfold lex at h
 split at h
 ·cases h
 have := lexD_fine _ _ _ _ h (by omega)
 exact ⟨this.1, by omega⟩
structure Run1 {α : Type} (g : List Tk -> Option (α × List Tk)) (T : List Tk) (a : Nat) (bad : Bool) (x : α) (a' : Nat) (bad' : Bool) : Prop where
 good : ∀ x0 r, bad = false -> g (T.drop a) = some (x0, r) -> x = x0 /\ bad' = false /\ T.drop a' = r
 ill : bad = true ∨ g (T.drop a) = none -> bad' = true
theorem Run1.bind {α β : Type} {g : List Tk -> Option (α × List Tk)} {h : α -> List Tk -> Option (β × List Tk)} {T : List Tk} {a a1 a2 : Nat} {b b1 b2 : Bool} {x : α} {y : β} (h1 : Run1 g T a b x a1 b1) (h2 : Run1 (h x) T a1 b1 y a2 b2) :
  Run1 (fun ts => (g ts).bind fun p => h p.1 p.2) T a b y a2 b2 := by
 refine ⟨fun y0 r hb he => ?_, fun hi => ?_⟩
 ·obtain ⟨⟨x0, r0⟩, e1, e2⟩ := Option.bind_eq_some_iff.1 he
  obtain ⟨rfl, hb1, hd⟩ := h1.good x0 r0 hb e1
  exact h2.good y0 r hb1 (by rw [hd]; exact e2)
 refine h2.ill ?_
 by_cases hb : b = true
 ·exact .inl (h1.ill (.inl hb))
 have hb : b = false := by simpa using hb
 have hn := hi.resolve_left (by simp [hb])
 cases hg : g (T.drop a) with
 | none => exact .inl (h1.ill (.inr hg))
 | some p =>
  obtain ⟨x0, r0⟩ := p
  obtain ⟨rfl, hb1, hd⟩ := h1.good x0 r0 hb hg
  right
  rw [hd]
  simpa [hg] using hn
theorem Run1.pure {α : Type} (x : α) (T : List Tk) (a : Nat) (b : Bool) : Run1 (fun ts => some (x, ts)) T a b x a b :=
 ⟨fun x0 r hb he => by cases he; exact ⟨rfl, hb, rfl⟩, fun h => h.resolve_right (by simp)⟩
theorem Run1.eq {α : Type} {g g' : List Tk -> Option (α × List Tk)} {T : List Tk} {a a' : Nat} {b b' : Bool} {x : α} (h : Run1 g T a b x a' b') (e : ∀ ts, g' ts = g ts) : Run1 g' T a b x a' b' := by
 have : g' = g := funext e
 rw [this]; exact h
theorem Run1.bad {α : Type} (g : List Tk -> Option (α × List Tk)) (T : List Tk) (a a' : Nat) (x : α) : Run1 g T a true x a' true := ⟨fun _ _ h => (by cases h), fun _ => rfl⟩
def tkR (s : ByteArray) : List Tk -> Option (Unit × List Tk) := fun ts => (tkS 4 s ts).map fun r => ((), r)
theorem pair_run {sub : PE} {T : List Tk} {a a1 a2 a3 a4 a5 : Nat} {b b1 b2 b3 b4 b5 : Bool} {x y : Ex} (k : Int) (h1 : Run1 (tkR (ch 40)) T a b () a1 b1) (h2 : Run1 sub T a1 b1 x a2 b2) (h3 : Run1 (tkR (ch 44)) T a2 b2 () a3 b3) (h4 : Run1 sub T a3 b3 y a4 b4) (h5 : Run1 (tkR (ch 41)) T a4 b4 () a5 b5) :
  Run1 (pairP sub k) T a b (two k x y) a5 b5 := by
 have p5 := h5.bind (h := fun _ ts => some (two k x y, ts)) (Run1.pure _ T a5 b5)
 have p4 := h4.bind (h := fun y ts => (tkR (ch 41) ts).bind fun p => some (two k x y, p.2)) p5
 have p3 := h3.bind (h := fun _ ts => (sub ts).bind fun q => (tkR (ch 41) q.2).bind fun p => some (two k x q.1, p.2)) p4
 have p2 := h2.bind (h := fun x ts => (tkR (ch 44) ts).bind fun o => (sub o.2).bind fun q => (tkR (ch 41) q.2).bind fun p => some (two k x q.1, p.2)) p3
 have p1 := h1.bind (h := fun _ ts => (sub ts).bind fun n => (tkR (ch 44) n.2).bind fun o => (sub o.2).bind fun q => (tkR (ch 41) q.2).bind fun p => some (two k n.1 q.1, p.2)) p2
 exact p1.eq fun ts => by simp only [pairP, tkR, Option.bind_map, Function.comp_def]
def paren (sub : PE) : PE := fun ts => (sub ts).bind fun p => (tkS 4 (ch 41) p.2).bind fun r => some (p.1, r)
theorem paren_run {sub : PE} {T : List Tk} {a a1 a2 : Nat} {b b1 b2 : Bool} {x : Ex} (h1 : Run1 sub T a b x a1 b1) (h2 : Run1 (tkR (ch 41)) T a1 b1 () a2 b2) : Run1 (paren sub) T a b x a2 b2 := by
 have p2 := h2.bind (h := fun _ ts => some (x, ts)) (Run1.pure _ T a2 b2)
 have p1 := h1.bind (h := fun x ts => (tkR (ch 41) ts).bind fun p => some (x, p.2)) p2
 exact p1.eq fun ts => by simp only [paren, tkR, Option.bind_map, Function.comp_def]
def plc (sub : PE) (s : ByteArray) : PE := fun ts => (sub ts).bind fun p => (tkS 4 (ch 93) p.2).bind fun r => some (.mk 3 0 s [p.1], r)
theorem plc_run {sub : PE} {T : List Tk} {a a1 a2 : Nat} {b b1 b2 : Bool} {x : Ex} (s : ByteArray) (h1 : Run1 sub T a b x a1 b1) (h2 : Run1 (tkR (ch 93)) T a1 b1 () a2 b2) : Run1 (plc sub s) T a b (.mk 3 0 s [x]) a2 b2 := by
 have p2 := h2.bind (h := fun _ ts => some (Ex.mk 3 0 s [x], ts)) (Run1.pure _ T a2 b2)
 have p1 := h1.bind (h := fun x ts => (tkR (ch 93) ts).bind fun p => some (Ex.mk 3 0 s [x], p.2)) p2
 exact p1.eq fun ts => by simp only [plc, tkR, Option.bind_map, Function.comp_def]
theorem Run1.cons {α : Type} {g g' : List Tk -> Option (α × List Tk)} {T : List Tk} {a a' : Nat} {b' : Bool} {x : α} (hlt : a < T.length) (h : Run1 g T (a + 1) false x a' b') (e : ∀ l, g' (T[a] :: l) = g l) : Run1 g' T a false x a' b' := by
 have hd : T.drop a = T[a] :: T.drop (a + 1) := List.drop_eq_getElem_cons hlt
 refine ⟨fun x0 r hb he => h.good x0 r rfl ?_, fun hi => h.ill (hi.imp_right fun hn => ?_)⟩
 ·rw [hd, e] at he; exact he
 rw [hd, e] at hn; exact hn
theorem tkR_run {T : List Tk} (hT : ∀ t ∈ T, t.fine) {a : Nat} (ha : a <= T.length) {bad : Bool} (c : UInt8) (t : Tk) (ht : t = if bad = true then ⟨0, ⟨#[]⟩, 0⟩ else (T[a]?).getD ⟨0, ⟨#[]⟩, 0⟩) :
  Run1 (tkR (ch c)) T a bad () (if ((decide (t.k = 4) || decide (t.k = 3)) && decide (t.s = ch c)) = true then a + 1 else a) (!((decide (t.k = 4) || decide (t.k = 3)) && decide (t.s = ch c))) := by
 cases bad with
 | true =>
  subst ht
  simp
  exact Run1.bad _ _ _ _ _
 | false =>
  by_cases hlt : a < T.length
  ·have ht2 : t = T[a] := by rw [ht, List.getElem?_eq_getElem hlt]; rfl
   subst ht2
   rw [is_mark (hT _ (List.getElem_mem hlt))]
   have hd : T.drop a = T[a] :: T.drop (a + 1) := List.drop_eq_getElem_cons hlt
   cases hi : T[a].is 4 (ch c) with
   | true =>
    refine ⟨fun x0 r _ he => ?_, fun h => ?_⟩
    ·rw [hd] at he
     simp only [tkR, tkS, hi, if_true, Option.map_some, Option.some.injEq, Prod.mk.injEq] at he
     exact ⟨rfl, rfl, he.2⟩
    have h := h.resolve_left (by simp)
    rw [hd] at h
    simp [tkR, tkS, hi] at h
   | false =>
    refine ⟨fun x0 r _ he => ?_, fun _ => rfl⟩
    rw [hd] at he
    simp [tkR, tkS, hi] at he
  have ht2 : t = ⟨0, ⟨#[]⟩, 0⟩ := by rw [ht, List.getElem?_eq_none (by omega)]; rfl
  subst ht2
  have hd : T.drop a = [] := List.drop_eq_nil_of_le (by omega)
  refine ⟨fun x0 r _ he => ?_, fun _ => by simp⟩
  rw [hd] at he
  simp [tkR, tkS] at he
theorem atom_none {sub : PE} {T : List Tk} {a : Nat} {t : Tk} (hlt : a < T.length) (ht : t = T[a]) (h2 : t.k ≠ 2) (h1 : t.k ≠ 1) (h4 : t.is 4 (ch 40) = false) (h5 : t.is 3 minB = false) (h6 : t.is 3 maxB = false) : atomP sub (T.drop a) = none := by
 rw [List.drop_eq_getElem_cons hlt, <- ht]
 simp only [atomP, if_neg h2, if_neg h1, h4, h5, h6, Bool.false_eq_true, if_false]
def mulsL (sub : PE) (e : Ex) : PE := fun ts => mulsP sub ts.length e ts
def addsL (sub : PE) (e : Ex) : PE := fun ts => addsP sub ts.length e ts
theorem muls_fuel {sub : PE} (hs : Fit sub) : ∀ (k j : Nat) (e : Ex) (ts : List Tk), ts.length <= k -> ts.length <= j -> mulsP sub k e ts = mulsP sub j e ts
 | k, j, e, [], _, _ => by cases k <;> cases j <;> rfl
 | 0, j, e, t :: l, h, _ => by simp at h
 | k + 1, 0, e, t :: l, _, h => by simp at h
 | k + 1, j + 1, e, t :: l, h1, h2 => by
  simp only [mulsP]
  cases hq : tkS 4 (ch 42) (t :: l) with
  | none => rfl
  | some r =>
   obtain ⟨t', hx, _⟩ := tkS_some hq
   cases hx
   simp only
   cases ha : atomP sub l with
   | none => rfl
   | some p =>
    obtain ⟨x, r1⟩ := p
    have hf := (atom_fit hs _ _ _ ha).2.1
    simp only [Option.bind_some]
    simp only [List.length_cons] at h1 h2
    exact muls_fuel hs k j _ r1 (by omega) (by omega)
theorem adds_fuel {sub : PE} (hs : Fit sub) : ∀ (k j : Nat) (e : Ex) (ts : List Tk), ts.length <= k -> ts.length <= j -> addsP sub k e ts = addsP sub j e ts
 | k, j, e, [], _, _ => by cases k <;> cases j <;> rfl
 | 0, j, e, t :: l, h, _ => by simp at h
 | k + 1, 0, e, t :: l, _, h => by simp at h
 | k + 1, j + 1, e, t :: l, h1, h2 => by
  have one : ∀ op : Int, ((mulP sub l).bind fun (x, r1) => addsP sub k (two op e x) r1) = (mulP sub l).bind fun (x, r1) => addsP sub j (two op e x) r1 := by
   intro op
   cases ha : mulP sub l with
   | none => rfl
   | some p =>
    obtain ⟨x, r1⟩ := p
    have hf := (mul_fit hs _ _ _ ha).2.1
    simp only [Option.bind_some]
    simp only [List.length_cons] at h1 h2
    exact adds_fuel hs k j _ r1 (by omega) (by omega)
  simp only [addsP]
  cases hq : tkS 4 (ch 43) (t :: l) with
  | some r =>
   obtain ⟨t', hx, _⟩ := tkS_some hq
   cases hx
   exact one 4
  | none =>
   simp only
   cases hq2 : tkS 4 (ch 45) (t :: l) with
   | none => rfl
   | some r =>
    obtain ⟨t', hx, _⟩ := tkS_some hq2
    cases hx
    exact one 5
theorem muls_cons {sub : PE} (hs : Fit sub) (e : Ex) (t : Tk) (l : List Tk) : mulsL sub e (t :: l) = if t.is 4 (ch 42) = true then (atomP sub l).bind fun p => mulsL sub (two 6 e p.1) p.2 else some (e, t :: l) := by
 unfold mulsL
 rw [List.length_cons]
 simp only [mulsP, tkS]
 by_cases h2 : t.is 4 (ch 42) = true
 ·simp only [if_pos h2]
  cases ha : atomP sub l with
  | none => rfl
  | some p =>
   obtain ⟨x, r1⟩ := p
   have hf := (atom_fit hs _ _ _ ha).2.1
   simp only [Option.bind_some]
   exact muls_fuel hs _ _ _ _ (by omega) (Nat.le_refl _)
 simp only [if_neg h2]
theorem adds_cons {sub : PE} (hs : Fit sub) (e : Ex) (t : Tk) (l : List Tk) : addsL sub e (t :: l) = if t.is 4 (ch 43) = true then (mulP sub l).bind fun p => addsL sub (two 4 e p.1) p.2 else if t.is 4 (ch 45) = true then (mulP sub l).bind fun p => addsL sub (two 5 e p.1) p.2 else some (e, t :: l) := by
 have one : ∀ op : Int, ((mulP sub l).bind fun (x, r1) => addsP sub l.length (two op e x) r1) = (mulP sub l).bind fun p => addsP sub p.2.length (two op e p.1) p.2 := by
  intro op
  cases ha : mulP sub l with
  | none => rfl
  | some p =>
   obtain ⟨x, r1⟩ := p
   have hf := (mul_fit hs _ _ _ ha).2.1
   simp only [Option.bind_some]
   exact adds_fuel hs _ _ _ _ (by omega) (Nat.le_refl _)
 unfold addsL
 rw [List.length_cons]
 simp only [addsP, tkS]
 by_cases h1 : t.is 4 (ch 43) = true
 ·simp only [if_pos h1]; exact one 4
 simp only [if_neg h1]
 by_cases h2 : t.is 4 (ch 45) = true
 ·simp only [if_pos h2]; exact one 5
 simp only [if_neg h2]
theorem muls_nil (sub : PE) (e : Ex) : mulsL sub e [] = some (e, []) := rfl
theorem adds_nil (sub : PE) (e : Ex) : addsL sub e [] = some (e, []) := rfl
def notM (T : List Tk) (a : Nat) (c : UInt8) : Prop := ∀ h : a < T.length, T[a].is 4 (ch c) = false
theorem muls_exit {sub : PE} (hs : Fit sub) (e : Ex) {T : List Tk} {a : Nat} {b : Bool} (h : b = true ∨ notM T a 42) : Run1 (mulsL sub e) T a b e a b := by
 refine ⟨fun x0 r hb he => ?_, fun hi => ?_⟩
 ·have hn := h.resolve_left (by simp [hb])
  by_cases hlt : a < T.length
  ·rw [List.drop_eq_getElem_cons hlt, muls_cons hs, if_neg (by rw [hn hlt]; simp), <- List.drop_eq_getElem_cons hlt] at he
   cases he
   exact ⟨rfl, hb, rfl⟩
  have hd : T.drop a = [] := List.drop_eq_nil_of_le (by omega)
  rw [hd, muls_nil] at he
  cases he
  exact ⟨rfl, hb, hd⟩
 rcases h with h | hn
 ·exact h
 refine hi.resolve_right ?_
 by_cases hlt : a < T.length
 ·rw [List.drop_eq_getElem_cons hlt, muls_cons hs, if_neg (by rw [hn hlt]; simp)]; simp
 rw [List.drop_eq_nil_of_le (by omega), muls_nil]; simp
theorem adds_exit {sub : PE} (hs : Fit sub) (e : Ex) {T : List Tk} {a : Nat} {b : Bool} (h : b = true ∨ (notM T a 43 /\ notM T a 45)) : Run1 (addsL sub e) T a b e a b := by
 refine ⟨fun x0 r hb he => ?_, fun hi => ?_⟩
 ·have hn := h.resolve_left (by simp [hb])
  by_cases hlt : a < T.length
  ·rw [List.drop_eq_getElem_cons hlt, adds_cons hs, if_neg (by rw [hn.1 hlt]; simp), if_neg (by rw [hn.2 hlt]; simp), <- List.drop_eq_getElem_cons hlt] at he
   cases he
   exact ⟨rfl, hb, rfl⟩
  have hd : T.drop a = [] := List.drop_eq_nil_of_le (by omega)
  rw [hd, adds_nil] at he
  cases he
  exact ⟨rfl, hb, hd⟩
 rcases h with h | hn
 ·exact h
 refine hi.resolve_right ?_
 by_cases hlt : a < T.length
 ·rw [List.drop_eq_getElem_cons hlt, adds_cons hs, if_neg (by rw [hn.1 hlt]; simp), if_neg (by rw [hn.2 hlt]; simp)]; simp
 rw [List.drop_eq_nil_of_le (by omega), adds_nil]; simp
theorem muls_step {sub : PE} (hs : Fit sub) {e x y : Ex} {T : List Tk} {a a1 a2 : Nat} {b1 b2 : Bool} (hlt : a < T.length) (hm : T[a].is 4 (ch 42) = true) (h1 : Run1 (atomP sub) T (a + 1) false x a1 b1) (h2 : Run1 (mulsL sub (two 6 e x)) T a1 b1 y a2 b2) : Run1 (mulsL sub e) T a false y a2 b2 := by
 have h3 := h1.bind (h := fun x => mulsL sub (two 6 e x)) h2
 have hd : T.drop a = T[a] :: T.drop (a + 1) := List.drop_eq_getElem_cons hlt
 have e1 : mulsL sub e (T.drop a) = (atomP sub (T.drop (a + 1))).bind fun p => mulsL sub (two 6 e p.1) p.2 := by rw [hd, muls_cons hs, if_pos hm]
 exact ⟨fun x0 r hb he => h3.good x0 r rfl (by rw [<- e1]; exact he), fun hi => h3.ill (hi.imp_right fun hn => by rw [<- e1]; exact hn)⟩
theorem adds_step {sub : PE} (hs : Fit sub) {e x y : Ex} {T : List Tk} {a a1 a2 : Nat} {b1 b2 : Bool} (hlt : a < T.length) {op : Int} (hm : (T[a].is 4 (ch 43) = true /\ op = 4) ∨ (T[a].is 4 (ch 43) = false /\ T[a].is 4 (ch 45) = true /\ op = 5)) (h1 : Run1 (mulP sub) T (a + 1) false x a1 b1) (h2 : Run1 (addsL sub (two op e x)) T a1 b1 y a2 b2) : Run1 (addsL sub e) T a false y a2 b2 := by
 have h3 := h1.bind (h := fun x => addsL sub (two op e x)) h2
 have hd : T.drop a = T[a] :: T.drop (a + 1) := List.drop_eq_getElem_cons hlt
 have e1 : addsL sub e (T.drop a) = (mulP sub (T.drop (a + 1))).bind fun p => addsL sub (two op e p.1) p.2 := by
  rw [hd, adds_cons hs]
  rcases hm with ⟨hm, rfl⟩ | ⟨hm, hm2, rfl⟩
  ·rw [if_pos hm]
  rw [if_neg (by simp [hm]), if_pos hm2]
 exact ⟨fun x0 r hb he => h3.good x0 r rfl (by rw [<- e1]; exact he), fun hi => h3.ill (hi.imp_right fun hn => by rw [<- e1]; exact hn)⟩
theorem mul_run {sub : PE} {x y : Ex} {T : List Tk} {a a1 a2 : Nat} {b b1 b2 : Bool} (h1 : Run1 (atomP sub) T a b x a1 b1) (h2 : Run1 (mulsL sub x) T a1 b1 y a2 b2) : Run1 (mulP sub) T a b y a2 b2 :=
 (h1.bind (h := fun x => mulsL sub x) h2).eq fun ts => rfl
theorem sum_run {d : Nat} {x y : Ex} {T : List Tk} {a a1 a2 : Nat} {b b1 b2 : Bool} (h1 : Run1 (mulP (sumP d)) T a b x a1 b1) (h2 : Run1 (addsL (sumP d) x) T a1 b1 y a2 b2) : Run1 (sumP (d + 1)) T a b y a2 b2 :=
 (h1.bind (h := fun x => addsL (sumP d) x) h2).eq fun ts => rfl
theorem Run1.lt {g : PE} (hf : Fit g) {T : List Tk} {a a' : Nat} {b : Bool} {x : Ex} (h : Run1 g T a b x a' false) (ha : a' <= T.length) : T.length - a' < T.length - a := by
 have hb : b = false := by
  cases b with
  | false => rfl
  | true => have := h.ill (.inl rfl); cases this
 cases hg : g (T.drop a) with
 | none => have := h.ill (.inr hg); cases this
 | some p =>
  obtain ⟨x0, r⟩ := p
  obtain ⟨_, _, hd⟩ := h.good x0 r hb hg
  have h1 := (hf _ _ _ hg).2.1
  have h2 := congrArg List.length hd
  simp at h1 h2
  omega
def forB : ByteArray := ⟨#[102, 111, 114]⟩
def printB : ByteArray := ⟨#[112, 114, 105, 110, 116]⟩
def toB : ByteArray := ⟨#[116, 111]⟩
def arrayB : ByteArray := ⟨#[97, 114, 114, 97, 121]⟩
def zE : Ex := .mk 0 0 ⟨#[]⟩ []
abbrev PA (α : Type) := List Tk -> Option (α × List Tk)
def pureP {α : Type} (x : α) : PA α := fun ts => some (x, ts)
def bindP {α β : Type} (g : PA α) (h : α -> PA β) : PA β := fun ts => (g ts).bind fun p => h p.1 p.2
theorem bindP_some {α β : Type} {g : PA α} {h : α -> PA β} {ts r : List Tk} {y : β} : bindP g h ts = some (y, r) <-> ∃ x r1, g ts = some (x, r1) /\ h x r1 = some (y, r) := by
 unfold bindP
 rw [Option.bind_eq_some_iff]
 constructor
 ·rintro ⟨⟨x, r1⟩, h1, h2⟩; exact ⟨x, r1, h1, h2⟩
 rintro ⟨x, r1, h1, h2⟩; exact ⟨(x, r1), h1, h2⟩
def kpR (s : ByteArray) : PA Unit := fun ts => (tkS 3 s ts).map fun r => ((), r)
def nmP : PA ByteArray
 | [] => none
 | t :: r => if t.k = 1 then some (t.s, r) else none
def numP : PA Int
 | [] => none
 | t :: r => if t.k = 2 then some (t.n, r) else none
def exP : PE := sumP 30
def smSet (s : ByteArray) (e : Ex) : Sm := .mk 1 s zE e zE zE []
def smPut (s : ByteArray) (a e : Ex) : Sm := .mk 2 s a e zE zE []
def smFor (s : ByteArray) (lo hi : Ex) (b : List Sm) : Sm := .mk 3 s zE zE lo hi b
def smPrint (e : Ex) : Sm := .mk 4 ⟨#[]⟩ zE e zE zE []
def exEnd (c : UInt8) : PE := bindP exP fun e => bindP (tkR (ch c)) fun _ => pureP e
def setP (s : ByteArray) : PA Sm := bindP (tkR (ch 61)) fun _ => bindP (exEnd 59) fun e => pureP (smSet s e)
def putP (s : ByteArray) : PA Sm := bindP (exEnd 93) fun a => bindP (tkR (ch 61)) fun _ => bindP (exEnd 59) fun e => pureP (smPut s a e)
def asgP (s : ByteArray) : PA Sm := fun ts => match tkS 4 (ch 91) ts with
 | some r => putP s r
 | none => setP s ts
def prnP : PA Sm := bindP (exEnd 59) fun e => pureP (smPrint e)
def plainP : PA Sm := fun ts => match tkS 3 printB ts with
 | some r => prnP r
 | none => bindP nmP asgP ts
def bodyP (sub : PA Sm) : Nat -> List Sm -> PA (List Sm)
 | 0, _, _ => none
 | k + 1, l, ts => match tkS 4 (ch 125) ts with
  | some r => some (l, r)
  | none => (sub ts).bind fun p => bodyP sub k (l ++ [p.1]) p.2
def bodyL (sub : PA Sm) (l : List Sm) : PA (List Sm) := fun ts => bodyP sub (ts.length + 1) l ts
def loopP (sub : PA Sm) : PA Sm := bindP nmP fun s => bindP (tkR (ch 61)) fun _ => bindP exP fun lo => bindP (kpR toB) fun _ => bindP exP fun hi => bindP (tkR (ch 123)) fun _ => bindP (bodyL sub []) fun b => pureP (smFor s lo hi b)
def stmtP : Nat -> PA Sm
 | 0 => fun ts => match tkS 3 forB ts with
  | some _ => none
  | none => plainP ts
 | d + 1 => fun ts => match tkS 3 forB ts with
  | some r => loopP (stmtP d) r
  | none => plainP ts
def restP (sub : PA Sm) : Nat -> List Sm -> List Tk -> Option (List Sm × List Tk)
 | _, l, [] => some (l, [])
 | 0, _, _ :: _ => none
 | k + 1, l, t :: ts => (sub (t :: ts)).bind fun p => restP sub k (l ++ [p.1]) p.2
def restL (sub : PA Sm) (l : List Sm) : PA (List Sm) := fun ts => restP sub ts.length l ts
def arrP : PA Ar := bindP nmP fun s => bindP numP fun n => bindP (tkR (ch 59)) fun _ => pureP ⟨s, n⟩
def arrsP : Nat -> List Ar -> PA (List Ar)
 | 0, l, ts => some (l, ts)
 | k + 1, l, ts => match tkS 3 arrayB ts with
  | none => some (l, ts)
  | some r => (arrP r).bind fun p => arrsP k (l ++ [p.1]) p.2
def arrsL (l : List Ar) : PA (List Ar) := fun ts => arrsP ts.length l ts
def insR (l : List Ar) (a : Ar) : List Ar := (l.reverse.dropWhile fun x => blt a.s x.s).reverse ++ a :: (l.reverse.takeWhile fun x => blt a.s x.s).reverse
def sortA (l : List Ar) : List Ar := l.foldl insR []
def parseW (sub : PA Sm) (s : ByteArray) : Option Pg := match lex s with
 | none => none
 | some ts => match bindP (arrsL []) (fun as => bindP (restL sub []) fun b => pureP (Pg.mk (sortA as) b)) ts with
  | some (p, _) => if p.ok = true then some p else none
  | none => none
def parse (s : ByteArray) : Option Pg := parseW (stmtP 3) s
-- the two ways to read
theorem rights_mem : ∀ {l : List Sm} {d : Nat}, Sm.rights l d = true -> ∀ x ∈ l, x.right d = true
 | [], _, _, x, hx => by cases hx
 | y :: l, d, h, x, hx => by
  rw [Sm.rights, Bool.and_eq_true] at h
  rcases List.mem_cons.1 hx with rfl | hx
  ·exact h.1
  exact rights_mem h.2 x hx
theorem takeW_app {α : Type} (p : α -> Bool) : ∀ (l r : List α), (∀ x ∈ l, p x = true) -> (∀ x r', r = x :: r' -> p x = false) -> (l ++ r).takeWhile p = l /\ (l ++ r).dropWhile p = r
 | [], [], _, _ => ⟨rfl, rfl⟩
 | [], x :: r, _, h => by
  have := h x r rfl
  simp [List.takeWhile_cons, List.dropWhile_cons, this]
 | x :: l, r, h1, h2 => by
  have h := takeW_app p l r (fun y hy => h1 y (by simp [hy])) h2
  have hx := h1 x (by simp)
  simp [List.takeWhile_cons, List.dropWhile_cons, hx, h.1, h.2]
theorem ins_done {P Q : List Ar} {a : Ar} (hQ : ∀ q ∈ Q, blt a.s q.s = true) (hP : ∀ x, P.getLast? = some x -> blt a.s x.s = false) : insR (P ++ Q) a = P ++ a :: Q := by
 unfold insR
 have := takeW_app (fun x : Ar => blt a.s x.s) Q.reverse P.reverse (fun x hx => hQ x (List.mem_reverse.1 hx)) fun x r' hr => hP x (by rw [List.getLast?_eq_head?_reverse, hr]; rfl)
 rw [List.reverse_append, this.1, this.2, List.reverse_reverse, List.reverse_reverse]
theorem insR_len (l : List Ar) (a : Ar) : (insR l a).length = l.length + 1 := by
 unfold insR
 have := congrArg List.length (List.takeWhile_append_dropWhile (p := fun x : Ar => blt a.s x.s) (l := l.reverse))
 simp only [List.length_append, List.length_reverse, List.length_cons] at this ⊢
 omega
theorem sort_len (l : List Ar) : (sortA l).length = l.length := by
 have : ∀ (l r : List Ar), (l.foldl insR r).length = r.length + l.length := by
  intro l
  induction l with
  | nil => intro r; simp
  | cons x l ih => intro r; rw [List.foldl_cons, ih, insR_len, List.length_cons]; omega
 have := this l []
 simpa [sortA] using this
theorem sort_snoc (l : List Ar) (a : Ar) : sortA (l ++ [a]) = insR (sortA l) a := by simp [sortA]
theorem sort_ok {xs as : List Ar} (hl : xs.length = as.length) (h : as.length < 20 -> xs = sortA as) (b : List Sm) : (Pg.mk xs b).ok = (Pg.mk (sortA as) b).ok /\ ((Pg.mk xs b).ok = true -> xs = sortA as) := by
 by_cases hn : as.length < 20
 ·rw [h hn]; exact ⟨rfl, fun _ => rfl⟩
 have key : ∀ ys : List Ar, 4 < ys.length -> (Pg.mk ys b).ok = false := by
  intro ys hy
  unfold Pg.ok Pg.head
  have : decide (ys.length <= 4) = false := by simp; omega
  simp only [this, Bool.false_and, Bool.and_false]
 have h1 := key xs (by omega)
 have h2 := key (sortA as) (by rw [sort_len]; omega)
 rw [h1, h2]
 exact ⟨rfl, fun h => by cases h⟩
end Go.T
