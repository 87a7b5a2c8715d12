/- Parts of the proof of FnParsed: Tokens: what a text is cut into, in plain Lean. -/
import Derived.Test.YtdbnllfjmkmdiaaGreatDoorG4
import Derived.Test.YtdbnllfjmkmdiaaGreatDoorG3
import Derived.Lib.Bytealg
set_option linter.unusedSimpArgs false
set_option linter.unusedVariables false
namespace Go.T
open Go
structure Tk where
 k : Int
 s : ByteArray
 n : Int
def Tk.cells (t : Tk) : List AV := [.int .i64 t.k, .str t.s, .int .i64 t.n]
def Tk.av (t : Tk) : AV := .agg t.cells
def figure (c : UInt8) : Bool := inR c.toNat 48 57
def yqa : List UInt8 := [59, 61, 91, 93, 40, 41, 123, 125, 43, 45, 42, 44]
def yVa (l : List UInt8) : Nat := l.foldl (fun n c => n * 10 + (c.toNat - 48)) 0
def woa (l : List UInt8) : Option Int :=
 if l.length <= 10 /\ l ≠ [] /\ l.all figure = true /\ (l.length = 1 ∨ l.head? ≠ some 48) /\ yVa l <= 2147483647 then some (yVa l) else none
def zhb : List UInt8 -> Option (Tk × List UInt8)
 | [] => none
 | c :: l =>
  if small c then
   if kept ⟨((c :: l).takeWhile small).toArray⟩ then some (⟨3, ⟨((c :: l).takeWhile small).toArray⟩, 0⟩, (c :: l).dropWhile small)
   else if zxa ⟨((c :: l).takeWhile small).toArray⟩ then some (⟨1, ⟨((c :: l).takeWhile small).toArray⟩, 0⟩, (c :: l).dropWhile small) else none
  else if figure c then match woa ((c :: l).takeWhile figure) with
   | some n => if n <= 999999 then some (⟨2, ⟨#[]⟩, n⟩, (c :: l).dropWhile figure) else none
   | none => none
  else if yqa.contains c then some (⟨4, ⟨#[c]⟩, 0⟩, l) else none
def blank (c : UInt8) : Bool := decide (c = 32) || decide (c = 10)
def ytb : Nat -> Nat -> List UInt8 -> Option (List Tk)
 | _, _, [] => some []
 | 0, _, _ :: _ => none
 | k + 1, n, c :: l =>
  if blank c then ytb k n l
  else match zhb (c :: l) with
   | none => none
   | some (t, r) => if 600 <= n then none else (ytb k (n + 1) r).map (t :: ·)
def lex (s : ByteArray) : Option (List Tk) := if 3000 < s.size then none else ytb s.size 0 s.data.toList
theorem zib (l : List UInt8) (c : UInt8) : yVa (l ++ [c]) = yVa l * 10 + (c.toNat - 48) := by simp [yVa]
theorem xRa {c : UInt8} (h : figure c = true) : 48 <= c.toNat /\ c.toNat <= 57 := by
 unfold figure inR at h;simp at h;omega
theorem zPc {c : UInt8} (h : figure c = true) : UInt8.ofNat (48 + (c.toNat - 48)) = c := by
 have := xRa h;rw [show 48 + (c.toNat - 48) = c.toNat by omega];simp
theorem xPc {α : Type} {p : List α -> Prop} (h0 : p []) (h1 : ∀ l x, p l -> p (l ++ [x])) : ∀ l, p l := by
 intro l;have : ∀ r : List α, p r.reverse := by
  intro r
  induction r with
  | nil => exact h0
  | cons x r ih => rw [List.reverse_cons]; exact h1 _ _ ih
 rw [<- List.reverse_reverse l];exact this _
theorem y0c : ∀ l : List UInt8, l.all figure = true -> yVa l < 10 ^ l.length := by
 refine xPc (by intro _; simp [yVa]) fun l c ih h => ?_;rw [List.all_append, Bool.and_eq_true] at h;have h1 := ih h.1;have h2 := xRa (c := c) (by simpa using h.2);rw [zib, List.length_append, List.length_singleton, Nat.pow_succ];omega
theorem xNd : ∀ u : Nat, u ≠ 0 -> (Lib.decDigits u).head? ≠ some 48 := by
 intro u
 induction u using Nat.strongRecOn with
 | _ u ih =>
  intro hu;rw [Lib.decDigits];split
  ·rename_i h
   simp only [List.head?_cons, ne_eq, Option.some.injEq];intro e;have := congrArg UInt8.toNat e;simp at this;omega
  rename_i h
  have h1 := ih (u / 10) (by omega) (by omega);have hne : Lib.decDigits (u / 10) ≠ [] := by
   rw [Lib.decDigits];split <;> simp
  cases hd : Lib.decDigits (u / 10) with
  | nil => exact absurd hd hne
  | cons x l => rw [hd] at h1; simpa using h1
theorem zie : ∀ l : List UInt8, l ≠ [] -> l.all figure = true -> l.head? ≠ some 48 -> Lib.decDigits (yVa l) = l := by
 refine xPc (fun h => absurd rfl h) fun l c ih _ h hh => ?_;rw [List.all_append, Bool.and_eq_true] at h;have hc : figure c = true := by simpa using h.2
 have hc2 := xRa hc;rw [zib];cases l with
 | nil =>
  rw [Lib.decDigits, dif_pos (by simp [yVa]; omega)];simp only [yVa, List.foldl_nil, Nat.zero_mul, Nat.zero_add, List.nil_append];rw [zPc hc]
 | cons x l =>
  have hx : (x :: l).head? ≠ some 48 := by simpa using hh
  have h1 := ih (by simp) h.1 hx;have h0 : yVa (x :: l) ≠ 0 := by
   intro e;rw [e, Lib.decDigits, dif_pos (by omega)] at h1;have e2 := (List.cons.inj h1).1;exact hx (by rw [List.head?_cons, <- e2]; rfl)
  rw [Lib.decDigits, dif_neg (by omega)];rw [show (yVa (x :: l) * 10 + (c.toNat - 48)) / 10 = yVa (x :: l) by omega, show (yVa (x :: l) * 10 + (c.toNat - 48)) % 10 = c.toNat - 48 by omega, h1, zPc hc]
theorem z8d {l : List UInt8} (h0 : l ≠ []) (h : l.all figure = true) : Lib.decDigits (yVa l) = l <-> (l.length = 1 ∨ l.head? ≠ some 48) := by
 constructor
 ·intro e;by_cases hh : l.head? = some 48
  ·left;by_cases hv : yVa l = 0
   ·rw [hv, Lib.decDigits, dif_pos (by omega)] at e;rw [<- e]; rfl
   exact absurd (by rw [e]; exact hh) (xNd _ hv)
  exact .inr hh
 intro hd;by_cases hh : l.head? = some 48
 ·have hl : l.length = 1 := hd.resolve_right (fun h => h hh)
  match l, hl with
  | [c], _ =>
   have : c = 48 := by simpa using hh
   subst this;rw [show yVa [48] = 0 from rfl, Lib.decDigits, dif_pos (by omega)]
   rfl
 exact zie l h0 h hh
theorem xOd {l : List UInt8} (h0 : l ≠ []) (h : l.all figure = true) : xNc (yVa l) = ⟨l.toArray⟩ <-> (l.length = 1 ∨ l.head? ≠ some 48) := by
 rw [<- z8d h0 h];unfold xNc Lib.itoa;rw [if_neg (by omega)];simp
theorem xxa (s : ByteArray) (a b : Nat) : s.extract a b = ⟨((s.data.toList.take b).drop a).toArray⟩ := by
 apply ByteArray.ext;rw [ByteArray.data_extract];apply Array.ext';simp [List.extract_eq_take_drop, List.drop_take]
theorem yDa (l : List UInt8) : (⟨l.toArray⟩ : ByteArray).data.toList = l := by simp
theorem y9a (s : ByteArray) : (⟨s.data.toList.toArray⟩ : ByteArray) = s := by cases s; simp
theorem xya {α : Type} (p : α -> Bool) : ∀ (l : List α) (i : Nat), (∀ x ∈ l.take i, p x = true) -> l.takeWhile p = l.take i ++ (l.drop i).takeWhile p
 | [], i, _ => by simp
 | x :: l, 0, _ => by simp
 | x :: l, i + 1, h => by
  have h1 : p x = true := h x (by simp);have h2 := xya p l i fun y hy => h y (by simp [hy]);simp [List.takeWhile_cons, h1, h2]
theorem wib {α : Type} (p : α -> Bool) : ∀ l : List α, l.dropWhile p = l.drop (l.takeWhile p).length
 | [] => rfl
 | x :: l => by
  by_cases h : p x = true
  ·simp [List.dropWhile_cons, List.takeWhile_cons, h, wib p l]
  simp [List.dropWhile_cons, List.takeWhile_cons, h]
theorem zOb {α : Type} (p : α -> Bool) : ∀ l : List α, l.take (l.takeWhile p).length = l.takeWhile p
 | [] => rfl
 | x :: l => by
  by_cases h : p x = true
  ·simp [List.takeWhile_cons, h, zOb p l]
  simp [List.takeWhile_cons, h]
theorem z9d : ∀ (l : List UInt8) (c : UInt8), -1 <= Lib.indexByte l c
 | [], c => by show (-1 : Int) <= -1; omega
 | b :: l, c => by
  have ih := z9d l c;have e : Lib.indexByte (b :: l) c = if b == c then 0 else if Lib.indexByte l c == -1 then -1 else Lib.indexByte l c + 1 := rfl
  rw [e];split
  ·omega
  split
  ·omega
  omega
theorem zQc : ∀ (l : List UInt8) (c : UInt8), decide (0 <= Lib.indexByte l c) = l.contains c
 | [], c => rfl
 | b :: l, c => by
  have ih := zQc l c;have hge := z9d l c;have e : Lib.indexByte (b :: l) c = if b == c then 0 else if Lib.indexByte l c == -1 then -1 else Lib.indexByte l c + 1 := rfl
  rw [List.contains_cons, <- ih, e];by_cases hb : b = c
  ·subst hb; simp
  have hb2 : (b == c) = false := by simpa using hb
  have hb3 : (c == b) = false := by simpa using Ne.symm hb
  rw [hb2, hb3, Bool.false_or];simp only [Bool.false_eq_true, if_false];split
  ·rename_i h
   have h : Lib.indexByte l c = -1 := by simpa using h
   rw [h]
  rename_i h
  have h : Lib.indexByte l c ≠ -1 := by simpa using h
  simp only [decide_eq_decide];omega
def Tk.is (t : Tk) (k : Int) (s : ByteArray) : Bool := decide (t.k = k) && decide (t.s = s)
def ch (c : UInt8) : ByteArray := ⟨#[c]⟩
def tkS (k : Int) (s : ByteArray) : List Tk -> Option (List Tk)
 | [] => none
 | t :: r => if t.is k s then some r else none
abbrev PE := List Tk -> Option (Ex × List Tk)
def two (k : Int) (a b : Ex) : Ex := .mk k 0 ⟨#[]⟩ [a, b]
def wjb : ByteArray := ⟨#[109, 105, 110]⟩
def xGb : ByteArray := ⟨#[109, 97, 120]⟩
def y1b (sub : PE) (k : Int) : PE := fun ts =>
 (tkS 4 (ch 40) ts).bind fun t1 => (sub t1).bind fun (a, t2) => (tkS 4 (ch 44) t2).bind fun t3 => (sub t3).bind fun (b, t4) => (tkS 4 (ch 41) t4).bind fun t5 => some (two k a b, t5)
def yda (sub : PE) : PE
 | [] => none
 | t :: r =>
  if t.k = 2 then some (.mk 1 t.n ⟨#[]⟩ [], r)
  else if t.k = 1 then match tkS 4 (ch 91) r with
   | none => some (.mk 2 0 t.s [], r)
   | some r1 => (sub r1).bind fun (e, r2) => (tkS 4 (ch 93) r2).bind fun r3 => some (.mk 3 0 t.s [e], r3)
  else if t.is 4 (ch 40) then (sub r).bind fun (e, r1) => (tkS 4 (ch 41) r1).bind fun r2 => some (e, r2)
  else if t.is 3 wjb then y1b sub 7 r
  else if t.is 3 xGb then y1b sub 8 r
  else none
def zPb (sub : PE) : Nat -> Ex -> PE
 | 0, e, ts => some (e, ts)
 | k + 1, e, ts => match tkS 4 (ch 42) ts with
  | none => some (e, ts)
  | some r => (yda sub r).bind fun (x, r1) => zPb sub k (two 6 e x) r1
def zjb (sub : PE) : PE := fun ts => (yda sub ts).bind fun (e, r) => zPb sub r.length e r
def xSa (sub : PE) : Nat -> Ex -> PE
 | 0, e, ts => some (e, ts)
 | k + 1, e, ts => match tkS 4 (ch 43) ts with
  | some r => (zjb sub r).bind fun (x, r1) => xSa sub k (two 4 e x) r1
  | none => match tkS 4 (ch 45) ts with
   | some r => (zjb sub r).bind fun (x, r1) => xSa sub k (two 5 e x) r1
   | none => some (e, ts)
def yPa : Nat -> PE
 | 0 => fun _ => none
 | d + 1 => fun ts => (zjb (yPa d) ts).bind fun (e, r) => xSa (yPa d) r.length e r
def yJa (s : ByteArray) : Option Ex := match lex s with
 | none => none
 | some ts => match yPa 30 ts with
  | some (e, []) => if e.ok = true then some e else none
  | _ => none
def zje : List Ar -> Int
 | [] => 0
 | a :: l => a.n + zje l
theorem yad : ∀ l : List Ar, (∀ a ∈ l, inR a.n 1 16 = true) -> 0 <= zje l /\ zje l <= 16 * l.length
 | [], _ => by simp [zje]
 | a :: l, h => by
  have h1 := h a (List.mem_cons_self ..);have h2 := yad l fun x hx => h x (List.mem_cons_of_mem _ hx);unfold inR at h1;simp at h1;simp only [zje, List.length_cons];omega
structure Pg.Fine (p : Pg) : Prop where
 arrs : p.arrs.length <= 4
 sizes : ∀ a ∈ p.arrs, inR a.n 1 16 = true
 vars : p.vars.length <= 6
 body : p.body.length <= 12
theorem Pg.Fine.take {p : Pg} (h : p.Fine) (k : Nat) : 0 <= zje (p.arrs.take k) /\ zje (p.arrs.take k) <= 64 := by
 have h1 := yad (p.arrs.take k) fun a ha => h.sizes a (List.mem_of_mem_take ha);have h2 : (p.arrs.take k).length <= 4 := by rw [List.length_take]; have := h.arrs; omega
 omega
mutual
inductive z6a (m : Mem) : (Nat -> Prop) -> AV -> AV -> Prop
 | int {F : Nat -> Prop} (k : IntKind) (n : Int) : z6a m F (.int k n) (.int k n)
 | bool {F : Nat -> Prop} (b : Bool) : z6a m F (.bool b) (.bool b)
 | str {F : Nat -> Prop} (s : ByteArray) : z6a m F (.str s) (.str s)
 | nil {F : Nat -> Prop} (f : Bool) (e e' : Nat) : z6a m F (.lst f e []) (.lst false e' [])
 | own {F G : Nat -> Prop} {g n c e : Nat} {T : TypeId} {ys xs : List AV} : m g = some (.arr T e c ys) -> ys.length = n -> zBa m G ys xs -> ¬ G g -> (∀ b, G b -> F b) -> F g -> z6a m F (.own g n c) (.lst false e xs)
 | agg {F : Nat -> Prop} {as xs : List AV} : zBa m F as xs -> as.all zya = true -> z6a m F (.agg as) (.agg xs)
inductive zBa (m : Mem) : (Nat -> Prop) -> List AV -> List AV -> Prop
 | nil {F : Nat -> Prop} : zBa m F [] []
 | cons {F A B : Nat -> Prop} {a x : AV} {as xs : List AV} : z6a m A a x -> zBa m B as xs -> (∀ g, A g -> ¬ B g) -> (∀ g, A g -> F g) -> (∀ g, B g -> F g) -> zBa m F (a :: as) (x :: xs)
end
mutual
theorem z6a.len {m : Mem} {F : Nat -> Prop} {a x : AV} : z6a m F a x -> a.cells.length = x.cells.length
 | .int _ _ => rfl
 | .bool _ => rfl
 | .str _ => rfl
 | .nil _ _ _ => rfl
 | .own _ _ _ _ _ _ => rfl
 | .agg h _ => zBa.len h
theorem zBa.len {m : Mem} {F : Nat -> Prop} {as xs : List AV} : zBa m F as xs -> as.length = xs.length
 | .nil => rfl
 | .cons _ h _ _ _ => by simp [zBa.len h]
end
theorem zBa.size {m : Mem} {F : Nat -> Prop} {as xs : List AV} {e : Nat} (h : zBa m F as xs) (he : ∀ a ∈ as, a.cells.length = e) : ∀ x ∈ xs, x.cells.length = e := by
 induction as generalizing F xs with
 | nil => cases h; exact fun x hx => by cases hx
 | cons a as ih =>
  cases h with | cons h1 h2 _ _ _ =>
  intro x hx;rcases List.mem_cons.1 hx with rfl | hx
  ·rw [<- h1.len]; exact he _ (List.mem_cons_self ..)
  exact ih h2 (fun y hy => he y (List.mem_cons_of_mem _ hy)) x hx
mutual
theorem z6a.up {m : Mem} {F F' : Nat -> Prop} {a x : AV} (hF : ∀ g, F g -> F' g) : z6a m F a x -> z6a m F' a x
 | .int k n => .int k n
 | .bool b => .bool b
 | .str s => .str s
 | .nil f e e' => .nil f e e'
 | .own h1 h2 h3 h4 h5 h6 => .own h1 h2 h3 h4 (fun b hb => hF b (h5 b hb)) (hF _ h6)
 | .agg h k => .agg (zBa.up hF h) k
theorem zBa.up {m : Mem} {F F' : Nat -> Prop} {as xs : List AV} (hF : ∀ g, F g -> F' g) : zBa m F as xs -> zBa m F' as xs
 | .nil => .nil
 | .cons h1 h2 h3 h4 h5 => .cons h1 h2 h3 (fun g hg => hF g (h4 g hg)) (fun g hg => hF g (h5 g hg))
end
mutual
theorem z6a.mem {m m' : Mem} {F : Nat -> Prop} {a x : AV} (hm : ∀ g, F g -> m' g = m g) : z6a m F a x -> z6a m' F a x
 | .int k n => .int k n
 | .bool b => .bool b
 | .str s => .str s
 | .nil f e e' => .nil f e e'
 | .own h1 h2 h3 h4 h5 h6 => .own ((hm _ h6).trans h1) h2 (zBa.mem (fun b hb => hm b (h5 b hb)) h3) h4 h5 h6
 | .agg h k => .agg (zBa.mem hm h) k
theorem zBa.mem {m m' : Mem} {F : Nat -> Prop} {as xs : List AV} (hm : ∀ g, F g -> m' g = m g) : zBa m F as xs -> zBa m' F as xs
 | .nil => .nil
 | .cons h1 h2 h3 h4 h5 => .cons (z6a.mem (fun g hg => hm g (h4 g hg)) h1) (zBa.mem (fun g hg => hm g (h5 g hg)) h2) h3 h4 h5
end
mutual
theorem z6a.dom {m : Mem} {F : Nat -> Prop} {a x : AV} : z6a m F a x -> ∃ G : Nat -> Prop, z6a m G a x /\ (∀ g, G g -> F g) /\ ∀ g, G g -> m g ≠ none
 | .int k n => ⟨fun _ => False, .int k n, fun _ h => h.elim, fun _ h => h.elim⟩
 | .bool b => ⟨fun _ => False, .bool b, fun _ h => h.elim, fun _ h => h.elim⟩
 | .str s => ⟨fun _ => False, .str s, fun _ h => h.elim, fun _ h => h.elim⟩
 | .nil f e e' => ⟨fun _ => False, .nil f e e', fun _ h => h.elim, fun _ h => h.elim⟩
 | @z6a.own _ _ G g n c e T ys xs h1 h2 h3 h4 h5 h6 =>
  let ⟨G', k1, k2, k3⟩ := zBa.dom h3
  ⟨fun b => G' b ∨ b = g, .own h1 h2 k1 (fun h => h4 (k2 _ h)) (fun b hb => .inl hb) (.inr rfl), fun b hb => hb.elim (fun h => h5 b (k2 b h)) (fun h => h ▸ h6), fun b hb => hb.elim (k3 b) (fun h => by rw [h, h1]; simp)⟩
 | .agg h k => let ⟨G', k1, k2, k3⟩ := zBa.dom h; ⟨G', .agg k1 k, k2, k3⟩
theorem zBa.dom {m : Mem} {F : Nat -> Prop} {as xs : List AV} : zBa m F as xs -> ∃ G : Nat -> Prop, zBa m G as xs /\ (∀ g, G g -> F g) /\ ∀ g, G g -> m g ≠ none
 | .nil => ⟨fun _ => False, .nil, fun _ h => h.elim, fun _ h => h.elim⟩
 | .cons h1 h2 h3 h4 h5 =>
  let ⟨A, a1, a2, a3⟩ := z6a.dom h1
  let ⟨B, b1, b2, b3⟩ := zBa.dom h2
  ⟨fun g => A g ∨ B g, .cons a1 b1 (fun g hA hB => h3 g (a2 g hA) (b2 g hB)) (fun g h => .inl h) (fun g h => .inr h), fun g h => h.elim (fun h => h4 g (a2 g h)) (fun h => h5 g (b2 g h)), fun g h => h.elim (a3 g) (b3 g)⟩
end
section
variable {w : World} {S G : Nat -> Prop} {m : Mem}
mutual
theorem z6a.rep (hm : zva w S m) {F : Nat -> Prop} (hG : ∀ g, F g -> G g) {a x : AV} : z6a m F a x -> (∀ v, Rep w S a v -> Rep w (fun b => S b ∨ G b) x v) /\ (∀ vs, Reps w S a.cells vs -> Reps w (fun b => S b ∨ G b) x.cells vs)
 | .int k n => ⟨fun v h => h.mono (fun _ _ => rfl) (fun _ h => .inl h), fun vs h => h.mono (fun _ _ => rfl) (fun _ h => .inl h)⟩
 | .bool b => ⟨fun v h => h.mono (fun _ _ => rfl) (fun _ h => .inl h), fun vs h => h.mono (fun _ _ => rfl) (fun _ h => .inl h)⟩
 | .str s => ⟨fun v h => h.mono (fun _ _ => rfl) (fun _ h => .inl h), fun vs h => h.mono (fun _ _ => rfl) (fun _ h => .inl h)⟩
 | .nil f e e' => by
  have key : ∀ v, Rep w S (.lst f e []) v -> Rep w (fun b => S b ∨ G b) (.lst false e' []) v := fun v h => by
   cases h with
   | lnil _ _ A c hc => exact .lnil _ _ A c (fun h => by cases h)
   | lst _ _ b o c h1 h2 h3 h4 h5 => exact .lnil _ _ _ c (fun h => by cases h)
  exact ⟨key, fun vs h => by
   cases h with | cons h1 h2 => cases h2; exact .cons (key _ h1) .nil⟩
 | @z6a.own _ _ G' g n c e T ys xs h1 h2 h3 h4 h5 h6 => by
  have key : ∀ v, Rep w S (.own g n c) v -> Rep w (fun b => S b ∨ G b) (.lst false e xs) v := fun v h => by
   obtain ⟨vs, us, hb, hr, hl, he, hle⟩ := hm.blk g _ h1;have hf := (zBa.rep hm (fun b hb => hG b (h5 b hb)) h3).2 vs hr;cases h;have hn : n = xs.length := h2.symm.trans h3.len;subst hn;exact .lst false e g 0 c (.inr (hG g h6)) (h3.size he) (by rw [<- h3.len]; exact hle) (fun h => by cases h) (Cells.of_block hb hf 0 (fun i v hv => by
    have : i < vs.length := (List.getElem?_eq_some_iff.1 hv).1;simp [List.getElem?_append_left this, hv]))
  exact ⟨key, fun vs h => by
   cases h with | cons h1 h2 => cases h2; exact .cons (key _ h1) .nil⟩
 | .agg h _ => ⟨fun v hv => by cases hv with | agg hr => exact .agg ((zBa.rep hm hG h).1 _ hr), fun vs hr => (zBa.rep hm hG h).1 vs hr⟩
theorem zBa.rep (hm : zva w S m) {F : Nat -> Prop} (hG : ∀ g, F g -> G g) {as xs : List AV} : zBa m F as xs -> (∀ vs, Reps w S as vs -> Reps w (fun b => S b ∨ G b) xs vs) /\ (∀ vs, Reps w S (flat as) vs -> Reps w (fun b => S b ∨ G b) (flat xs) vs)
 | .nil => ⟨fun vs h => by cases h; exact .nil, fun vs h => by cases h; exact .nil⟩
 | .cons h1 h2 _ h4 h5 => by
  have r1 := z6a.rep hm (fun g hg => hG g (h4 g hg)) h1;have r2 := zBa.rep hm (fun g hg => hG g (h5 g hg)) h2;refine ⟨fun vs h => by cases h with | cons k1 k2 => exact .cons (r1.1 _ k1) (r2.1 _ k2), fun vs h => ?_⟩
  simp only [flat, List.flatMap_cons] at h ⊢;obtain ⟨us, ws, rfl, k1, k2⟩ := h.split;exact (r1.2 _ k1).append (r2.2 _ k2)
end
end
open Classical in
noncomputable def Mem.without (m : Mem) (F : Nat -> Prop) : Mem := fun g => if F g then none else m g
theorem wNa {w : World} {S F : Nat -> Prop} {m : Mem} (hm : zva w S m) (hF : ∀ g, F g -> m g ≠ none) : zva w (fun b => S b ∨ F b) (m.without F) := by
 refine ⟨fun g b hg => ?_, fun b hb => ?_⟩
 ·unfold Mem.without at hg;split at hg
  ·cases hg
  exact (hm.blk g b hg).mono (fun _ _ => rfl) (fun _ h => .inl h) rfl
 unfold Mem.without;rcases hb with hb | hb
 ·refine ⟨?_, (hm.apart b hb).2⟩;split
  ·rfl
  exact (hm.apart b hb).1
 refine ⟨if_pos hb, ?_⟩;cases hq : m b with
 | none => exact absurd hq (hF b hb)
 | some x => exact (hm.blk b x hq).lt
theorem z6a.view {m : Mem} {F : Nat -> Prop} {a x : AV} (h : z6a m F a x) : ∃ m', View m a m' x /\ ∀ g, ¬ F g -> m' g = m g := by
 obtain ⟨G, h1, h2, h3⟩ := h.dom;refine ⟨m.without G, fun w S v hm hv => ⟨fun b => S b ∨ G b, fun _ h => .inl h, fun b hb => hb.imp id (h3 b), wNa hm h3, (h1.rep hm (fun _ h => h)).1 v hv, fun g b hg => ?_⟩, fun g hg => if_neg fun h => hg (h2 g h)⟩;unfold Mem.without at hg;split at hg
 ·cases hg
 rw [hg]; simp
def Lent (m : Mem) (F : Nat -> Prop) (as xs : List AV) : Prop := (∀ g, F g -> m g ≠ none) /\ ∀ w S vs, zva w S m -> Reps w S as vs -> Reps w (fun b => S b ∨ F b) xs vs
theorem Lent.nil (m : Mem) : Lent m (fun _ => False) [] [] := ⟨fun _ h => h.elim, fun w S vs _ h => by cases h; exact .nil⟩
theorem Lent.own {m : Mem} {F A : Nat -> Prop} {as xs : List AV} (h : Lent m F as xs) {a x : AV} (ha : z6a m A a x) : ∃ F', Lent m F' (a :: as) (x :: xs) := by
 obtain ⟨G, h1, h2, h3⟩ := ha.dom;refine ⟨fun b => F b ∨ G b, fun g hg => hg.elim (h.1 g) (h3 g), fun w S vs hm hr => ?_⟩;cases hr with | cons k1 k2 =>
 exact .cons (((h1.rep hm (G := fun b => F b ∨ G b) (fun _ h => .inr h)).1 _ k1)) ((h.2 w S _ hm k2).mono (fun _ _ => rfl) (fun b hb => hb.imp id .inl))
def zRc : AV -> Bool
 | .int .. | .bool _ | .str _ | .nilp | .ptr .. | .own .. | .elt .. | .lst _ _ [] => true
 | _ => false
def solid : AV -> Bool
 | .agg cs => cs.all zRc
 | .tup cs => cs.all zRc
 | a => zRc a
theorem wkb {w w' : World} {S S' : Nat -> Prop} {a : AV} {v : Value} (ha : zRc a = true) (h : Rep w S a v) : Rep w' S' a v := by
 cases h <;> first | exact .int _ _ | exact .bool _ | exact .str _ | exact .nilp | exact .ptr _ _ | exact .own _ _ _ | exact .elt _ _ _ _ | exact .lnil _ _ _ _ ‹_› | (cases ha; done) | skip
 rename_i f xs e b o c h1 h2 h3 h4 h5
 cases xs with
 | nil => exact .lnil _ _ _ _ h4
 | cons x xs => cases ha
theorem y2b {w w' : World} {S S' : Nat -> Prop} {as : List AV} {vs : List Value} (ha : as.all zRc = true) (h : Reps w S as vs) : Reps w' S' as vs := by
 induction as generalizing vs with
 | nil => cases h; exact .nil
 | cons a as ih =>
  cases h with | cons h t =>
  rw [List.all_cons, Bool.and_eq_true] at ha;exact .cons (wkb ha.1 h) (ih ha.2 t)
theorem ybd {w w' : World} {S S' : Nat -> Prop} {a : AV} {v : Value} (ha : solid a = true) (h : Rep w S a v) : Rep w' S' a v := by
 cases a with
 | agg cs => cases h with | agg hr => exact .agg (y2b ha hr)
 | tup cs => cases h with | tup hr => exact .tup (y2b ha hr)
 | _ => exact wkb ha h
theorem zca.lend {P : Program} {n : FuncId} {args args' : List AV} {r : AV} {m : Mem} {F : Nat -> Prop} (h : zca P n args' r) (hl : Lent m F args args') (hr : solid r = true) {K : AV -> Mem -> Prop} (hK : K r m) : zka P n args m K := by
 refine ⟨h.1, fun w S cargs hm ha => zma (h.2 w _ cargs _ (wNa hm hl.1) (hl.2 w S cargs hm ha)) ?_⟩;rintro e w' ⟨v, S', he, h1, h2, h3, h4, h5⟩;refine ⟨v, r, m, S, he, hK, fun _ h => h, fun _ h => .inl h, ⟨fun g b hg => ?_, fun b hb => ⟨(hm.apart b hb).1, Nat.lt_of_lt_of_le (hm.apart b hb).2 h5.size⟩⟩, ybd hr h4, h5.mono (fun _ h => h.elim), fun g b hg => .inl (by rw [hg]; simp)⟩;exact (hm.blk g b hg).mono (fun b' hb' => h5.block b' (hm.apart b' hb').2 id) (fun _ h => h) (h5.block g (hm.blk g b hg).lt id)
theorem zBa.append {m : Mem} {F A B : Nat -> Prop} {as xs bs ys : List AV} (h : zBa m A as xs) (k : zBa m B bs ys) (hd : ∀ g, A g -> ¬ B g) (hA : ∀ g, A g -> F g) (hB : ∀ g, B g -> F g) : zBa m F (as ++ bs) (xs ++ ys) := by
 induction as generalizing A F xs with
 | nil => cases h; exact k.up hB
 | cons a as ih =>
  cases h with | @cons _ A1 A2 _ _ _ _ h1 h2 h3 h4 h5 =>
  exact .cons h1 (ih (F := fun g => A2 g ∨ B g) h2 (fun g hg => hd g (h5 g hg)) (fun g h => .inl h) (fun g h => .inr h)) (fun g hg hq => hq.elim (h3 g hg) (hd g (h4 g hg))) (fun g hg => hA g (h4 g hg)) (fun g hg => hg.elim (fun h => hA g (h5 g h)) (hB g))
theorem zBa.snoc {m : Mem} {A B : Nat -> Prop} {as xs : List AV} {b y : AV} (h : zBa m A as xs) (k : z6a m B b y) (hd : ∀ g, A g -> ¬ B g) : zBa m (fun g => A g ∨ B g) (as ++ [b]) (xs ++ [y]) :=
 h.append (.cons (F := B) k (.nil (F := fun _ => False)) (fun _ _ h => h) (fun _ h => h) (fun _ h => h.elim)) hd (fun _ h => .inl h) (fun _ h => .inr h)
theorem z6a.okc {m : Mem} {F : Nat -> Prop} {a : AV} {f : Bool} {e : Nat} {xs : List AV} (h : z6a m F a (.lst f e xs)) : zya a = true /\ a.cells = [a] /\ a ≠ .undef := by
 cases h <;> exact ⟨rfl, rfl, by simp⟩
end Go.T
namespace Go.T
open Go
set_option linter.unnecessarySimpa false
theorem zka.view {P : Program} {n : FuncId} {args : List AV} {m : Mem} {Q K : AV -> Mem -> Prop} (h : zka P n args m Q) (hv : ∀ r m', Q r m' -> ∃ r' m'', View m' r m'' r' /\ K r' m'') : zka P n args m K :=
 ⟨h.1, fun w S cargs hm hr => zma (h.2 w S cargs hm hr) (by
  rintro e w' ⟨v, r, m', S', he, hq, h1, h2, h3, h4, h5, h6⟩;obtain ⟨r', m'', hvw, hk⟩ := hv r m' hq;obtain ⟨S2, k1, k2, k3, k4, k5⟩ := hvw w' S' v h3 h4;have hdom : ∀ b, m' b ≠ none -> m b ≠ none ∨ w.heap.size <= b := fun b hb => by
   cases hq2 : m' b with
   | none => exact absurd hq2 hb
   | some x => exact h6 b x hq2
  refine ⟨v, r', m'', S2, he, hk, fun b hb => k1 b (h1 b hb), fun b hb => ?_, k3, k4, h5, fun g b hg => hdom g (k5 g b hg)⟩;rcases k2 b hb with h | h
  ·exact h2 b h
  exact .inr (hdom b h))⟩
theorem zke {m : Mem} {F : Nat -> Prop} {r : AV} {xs : List AV} (h : z6a m F r (.agg xs)) : ∃ as, r = .agg as /\ zBa m F as xs /\ as.all zya = true := by
 cases h with | agg h k => exact ⟨_, rfl, h, k⟩
theorem zFa {m : Mem} {g : Nat} (hg : m g = none) (b : Blk) : Ext m (m.set g b) := (Ext.refl m).set hg b
theorem Ext.trans {a b c : Mem} (h : Ext a b) (k : Ext b c) : Ext a c := fun g x hx => k g x (h g x hx)
end Go.T
namespace Go.T
open Go
def Gr (T : TypeId) (e : Nat) (m0 : Mem) (xs : List AV) (v : AV) (m : Mem) : Prop := Ext m0 m /\ ((xs = [] /\ ∃ f, v = .lst true f []) ∨ ∃ g c, v = .own g xs.length c /\ m g = some (.arr T e c xs) /\ m0 g = none)
theorem Gr.gs {T : TypeId} {e : Nat} {m0 m : Mem} {xs : List AV} {v : AV} (h : Gr T e m0 xs v m) : Grows T e m0 xs v m := by
 obtain ⟨hE, ⟨rfl, f, rfl⟩ | ⟨g, c, rfl, h1, h2⟩⟩ := h
 ·exact .lit f m (.inr rfl) hE
 exact .own g c _ m rfl h1 h2 hE
theorem Gr.start {T : TypeId} {e : Nat} (m : Mem) (f : Nat) : Gr T e m [] (.lst true f []) m := ⟨Ext.refl m, .inl ⟨rfl, f, rfl⟩⟩
theorem Gr.fresh {T : TypeId} {e : Nat} {m0 m : Mem} {xs : List AV} {v : AV} (h : Gr T e m0 xs v m) {g : Nat} (hg : m g = none) (b : Blk) : Gr T e m0 xs v (m.set g b) := by
 obtain ⟨hE, h⟩ := h;refine ⟨hE.trans (zFa hg b), h.imp id ?_⟩;rintro ⟨g', c, h1, h2, h3⟩;refine ⟨g', c, h1, ?_, h3⟩;rw [zia, if_neg]
 ·exact h2
 rintro rfl; rw [hg] at h2; cases h2
theorem Gr.app {P : Program} {T E : TypeId} {n b : Nat} (hT : zab P T E n b) {m0 m : Mem} {xs ys : List AV} {v x : AV} (h : Gr E n m0 xs v m) (hx : wwa m n x = some ys) (hok : ∀ y ∈ ys, y.cells.all zya = true) (hb : (2 * (xs.length + ys.length) + 1024) * b <= 281474976710656)
  {k : AV -> Mem -> Prop} (hk : ∀ v' m', Gr E n m0 (xs ++ ys) v' m' -> (∀ g cs, m g = some (.box cs) -> m' g = some (.box cs)) -> k v' m') : zNa P m k #[T, T] v x := by
 obtain ⟨z, hz, hzl⟩ := hT.zero;unfold zNa;simp only [List.getElem?_toArray, List.getElem?_cons_zero, List.getElem?_cons_succ, hT.int, hT.elem, hT.size, hT.byte, hz, hx, true_and];refine ⟨hT.pos.1, hT.pos.2, hzl, ?_⟩;have hset : ∀ (g' : Nat) (bl : Blk), (∀ cs, m g' ≠ some (.box cs)) -> ∀ g cs, m g = some (.box cs) -> (m.set g' bl) g = some (.box cs) := fun g' bl hg' g cs hgc => by
  rw [zia, if_neg]
  ·exact hgc
  rintro rfl; exact hg' cs hgc
 obtain ⟨hE, ⟨rfl, f, rfl⟩ | ⟨g, c, rfl, h1, h2⟩⟩ := h
 ·refine ⟨.inr rfl, by simpa using hb, fun h0 => ?_, fun _ g c hg hle => ?_⟩
  ·refine hk _ _ ⟨hE, .inl ⟨?_, f, rfl⟩⟩ (fun _ _ h => h);simpa using h0
  refine hk _ _ ⟨hE.set (hE.none hg) _, .inr ⟨g, c, by simp, by simp [zaa], hE.none hg⟩⟩ (hset _ _ fun cs h => by rw [hg] at h; cases h)
 simp only [h1];refine ⟨trivial, trivial, trivial, trivial, hok, hb, fun g' c' hg' hle => ?_⟩;have hg0 : m0 g' = none := by
  rcases hg' with rfl | h
  ·exact h2
  exact hE.none h
 refine hk _ _ ⟨hE.set hg0 _, .inr ⟨g', c', by simp, zaa _ _ _, hg0⟩⟩ (hset _ _ fun cs h => ?_);rcases hg' with rfl | hn
 ·rw [h1] at h; cases h
 rw [hn] at h; cases h
theorem Gr.view {T : TypeId} {e : Nat} {m0 m : Mem} {xs : List AV} {v : AV} (h : Gr T e m0 xs v m) : View m v m0 (.lst false e xs) := h.gs.view
end Go.T
namespace Go.T
open Go
variable {m m' : Mem} {bs : List (Nat × List AV)} {ts : List ((Nat -> Prop) × AV × AV)}
theorem zBa.split {F : Nat -> Prop} : ∀ {as bs xs : List AV}, zBa m F (as ++ bs) xs -> ∃ (A B : Nat -> Prop) (us ws : List AV), xs = us ++ ws /\ us.length = as.length /\ zBa m A as us /\ zBa m B bs ws /\ (∀ g, A g -> ¬ B g) /\ (∀ g, A g -> F g) /\ ∀ g, B g -> F g
 | [], bs, xs, h => ⟨fun _ => False, F, [], xs, rfl, rfl, .nil, h, fun _ h => h.elim, fun _ h => h.elim, fun _ h => h⟩
 | a :: as, bs, xs, h => by
  cases h with | @cons _ A1 A2 _ x _ xs h1 h2 h3 h4 h5 =>
  obtain ⟨A, B, us, ws, rfl, hl, k1, k2, k3, k4, k5⟩ := zBa.split (as := as) (bs := bs) h2;exact ⟨fun g => A1 g ∨ A g, B, x :: us, ws, rfl, by simp [hl], .cons h1 k1 (fun g hg hq => h3 g hg (k4 g hq)) (fun g h => .inl h) (fun g h => .inr h), k2, fun g hg hq => hg.elim (fun h => h3 g h (k5 g hq)) (fun h => k3 g h hq), fun g hg => hg.elim (h4 g) (fun h => h5 g (k4 g h)), fun g hg => h5 g (k5 g hg)⟩
end Go.T
namespace Go.T
open Go
variable {m m' : Mem}
end Go.T
namespace Go.T
open Go
theorem Sees.freezeIn {s : St} {gm i g n c e : Nat} {T : TypeId} {xs cs : List AV} (h1 : s.mem gm = some (.box cs)) (h2 : cs[i]? = some (.own g n c)) (h3 : s.mem g = some (.arr T e c xs)) (h4 : xs.length = n) : Sees s ⟨s.sl, (s.mem.del g).set gm (.box (cs.set i (.lst false e xs)))⟩ := fun w S f hm hs => by
 have hne : g ≠ gm := by rintro rfl; rw [h1] at h3; cases h3
 obtain ⟨vs, us, hb, hr, hl, he, hle⟩ := hm.blk g _ h3;obtain ⟨T', ws, hb', hr'⟩ := hm.blk gm _ h1;have hSS : ∀ b, S b -> S b ∨ b = g := fun b hb => .inl hb;have hst : Stays S w w := fun _ _ => rfl;refine ⟨fun b => S b ∨ b = g, hSS, fun b hb => hb.imp id (fun h => by rw [h, h3]; simp), ⟨fun g' b hg' => ?_, fun b hb => ?_⟩, fun t => (hs t).mono hst hSS, fun g' b hg' => ?_⟩
 ·by_cases hgm : g' = gm
  ·subst hgm;simp only [zaa, Option.some.injEq] at hg';subst hg';obtain ⟨v, hv, hrv⟩ := hr'.get i _ h2;refine ⟨T', ws, hb', ?_⟩;have hset := (hr'.mono hst hSS).set i (a := .lst false e xs) (v := v) ?_
   ·have : ws.set i v = ws := by
     apply List.ext_getElem?;intro j;by_cases hj : j = i
     ·subst hj;have hlt := (List.getElem?_eq_some_iff.1 hv).1;rw [List.getElem?_set_self hlt, hv]
     rw [List.getElem?_set_ne (Ne.symm hj)]
    rw [this] at hset;exact hset
   cases hrv;subst h4;exact .lst false e g 0 c (.inr rfl) he hle (fun h => by cases h) (Cells.of_block hb (hr.mono hst hSS) 0 (fun i v hv => by
    have : i < vs.length := (List.getElem?_eq_some_iff.1 hv).1;simp [List.getElem?_append_left this, hv]))
  dsimp only at hg';rw [Mem.so hgm] at hg';unfold Mem.del at hg';split at hg'
  ·cases hg'
  exact (hm.blk g' b hg').mono hst hSS rfl
 ·rcases hb with hb | rfl
  ·refine ⟨?_, (hm.apart b hb).2⟩;have := (hm.apart b hb).1;dsimp only;rw [zia];split
   ·rename_i e; subst e; rw [h1] at this; cases this
   unfold Mem.del; split
   ·rfl
   exact this
  refine ⟨?_, (Array.getElem?_eq_some_iff.1 hb).1⟩;dsimp only;rw [Mem.so hne];simp [Mem.del]
 by_cases hgm : g' = gm
 ·subst hgm; rw [h1]; simp
 dsimp only at hg';rw [Mem.so hgm] at hg';unfold Mem.del at hg';split at hg'
 ·cases hg'
 rw [hg']; simp
theorem Sees.boxLe {s : St} {gm : Nat} {cs cs' : List AV} (h1 : s.mem gm = some (.box cs)) (h : Les cs cs') : Sees s ⟨s.sl, s.mem.set gm (.box cs')⟩ := fun w S f hm hs => by
 refine ⟨S, fun _ h => h, fun _ h => .inl h, ⟨fun g b hg => ?_, fun b hb => ?_⟩, hs, fun g b hg => ?_⟩
 ·by_cases hgm : g = gm
  ·subst hgm;simp only [zaa, Option.some.injEq] at hg;subst hg;obtain ⟨T, vs, k1, k2⟩ := hm.blk g _ h1;exact ⟨T, vs, k1, h.reps k2⟩
  dsimp only at hg; rw [Mem.so hgm] at hg; exact hm.blk g b hg
 ·refine ⟨?_, (hm.apart b hb).2⟩;dsimp only;rw [zia];split
  ·rename_i e; subst e; have := (hm.apart b hb).1; rw [h1] at this; cases this
  exact (hm.apart b hb).1
 by_cases hgm : g = gm
 ·subst hgm; rw [h1]; simp
 dsimp only at hg; rw [Mem.so hgm] at hg; rw [hg]; simp
end Go.T
namespace Go.T
end Go.T
namespace Go.T
end Go.T
namespace Go.T
open Go
structure Tk.fine (t : Tk) : Prop where
 mark : t.k = 4 -> t.s.size = 1
 word : t.k = 3 -> kept t.s = true
 len : t.s.size <= 6
 num : 0 <= t.n /\ t.n <= 999999
def Tk.w (t : Tk) : Nat := t.s.size + 2
def W (ts : List Tk) : Nat := (ts.map Tk.w).sum
theorem xba (t : Tk) (ts : List Tk) : W (t :: ts) = t.s.size + 2 + W ts := by simp [W, Tk.w]
theorem xoe : ∀ ts : List Tk, (∀ t ∈ ts, t.fine) -> W ts <= 8 * ts.length
 | [], _ => by simp [W]
 | t :: ts, h => by
  have h1 := xoe ts fun x hx => h x (List.mem_cons_of_mem _ hx);have h2 := (h t (List.mem_cons_self ..)).len;rw [xba, List.length_cons];omega
def Fit (f : PE) : Prop := ∀ ts e r, f ts = some (e, r) -> r <:+ ts /\ r.length < ts.length /\ e.tot + W r <= W ts
theorem z4a {k : Int} {s : ByteArray} {ts r : List Tk} (h : tkS k s ts = some r) : ∃ t, ts = t :: r /\ t.is k s = true := by
 cases ts with
 | nil => cases h
 | cons t l =>
  simp only [tkS] at h;split at h
  ·rename_i hi
   cases h;exact ⟨t, rfl, hi⟩
  cases h
theorem yub {t : Tk} {r ts : List Tk} (h : t :: r <:+ ts) : r <:+ ts := (List.suffix_cons t r).trans h
theorem zQb (k : Int) (a b : Ex) : (two k a b).tot = a.tot + b.tot + 2 := by
 unfold two;rw [Ex.tot_mk];simp only [zAa];have : (⟨#[]⟩ : ByteArray).size = 0 := rfl;omega
theorem xQc {sub : PE} (hs : Fit sub) {k : Int} {ts : List Tk} {e : Ex} {r : List Tk} (h : y1b sub k ts = some (e, r)) : r <:+ ts /\ r.length < ts.length /\ e.tot + W r <= W ts := by
 simp only [y1b] at h;obtain ⟨t1, h1, h⟩ := Option.bind_eq_some_iff.1 h;obtain ⟨⟨a, t2⟩, h2, h⟩ := Option.bind_eq_some_iff.1 h;obtain ⟨t3, h3, h⟩ := Option.bind_eq_some_iff.1 h;obtain ⟨⟨b, t4⟩, h4, h⟩ := Option.bind_eq_some_iff.1 h;obtain ⟨t5, h5, h⟩ := Option.bind_eq_some_iff.1 h;cases h;obtain ⟨x1, rfl, _⟩ := z4a h1;obtain ⟨p1, p2, p3⟩ := hs _ _ _ h2;obtain ⟨x3, rfl, _⟩ := z4a h3;obtain ⟨q1, q2, q3⟩ := hs _ _ _ h4;try dsimp only at q1 q2 q3
 obtain ⟨x5, rfl, _⟩ := z4a h5;simp only [List.length_cons, xba, zQb] at *;exact ⟨(yub q1).trans ((yub p1).trans (List.suffix_cons _ _)), by omega, by omega⟩
theorem wya {sub : PE} (hs : Fit sub) : Fit (yda sub) := by
 intro ts e r h;cases ts with
 | nil => cases h
 | cons t l =>
  simp only [yda] at h;split at h
  ·cases h;refine ⟨List.suffix_cons _ _, by simp, ?_⟩;rw [Ex.tot_mk, xba];simp only [zAa];have : (⟨#[]⟩ : ByteArray).size = 0 := rfl;omega
  split at h
  ·split at h
   ·cases h;refine ⟨List.suffix_cons _ _, by simp, ?_⟩;rw [Ex.tot_mk, xba];simp only [zAa];omega
   rename_i r1 h1
   obtain ⟨⟨a, t2⟩, h2, h⟩ := Option.bind_eq_some_iff.1 h;obtain ⟨t3, h3, h⟩ := Option.bind_eq_some_iff.1 h;cases h;obtain ⟨x1, rfl, _⟩ := z4a h1;obtain ⟨p1, p2, p3⟩ := hs _ _ _ h2;obtain ⟨x3, rfl, _⟩ := z4a h3;simp only [List.length_cons, xba, Ex.tot_mk, zAa] at *;exact ⟨(yub p1).trans ((List.suffix_cons _ _).trans (List.suffix_cons _ _)), by omega, by omega⟩
  split at h
  ·obtain ⟨⟨a, t2⟩, h2, h⟩ := Option.bind_eq_some_iff.1 h;obtain ⟨t3, h3, h⟩ := Option.bind_eq_some_iff.1 h;cases h;obtain ⟨p1, p2, p3⟩ := hs _ _ _ h2;obtain ⟨x3, rfl, _⟩ := z4a h3;simp only [List.length_cons, xba] at *;exact ⟨(yub p1).trans (List.suffix_cons _ _), by omega, by omega⟩
  split at h
  ·obtain ⟨p1, p2, p3⟩ := xQc hs h;simp only [List.length_cons, xba];exact ⟨p1.trans (List.suffix_cons _ _), by omega, by omega⟩
  split at h
  ·obtain ⟨p1, p2, p3⟩ := xQc hs h;simp only [List.length_cons, xba];exact ⟨p1.trans (List.suffix_cons _ _), by omega, by omega⟩
  cases h
theorem xRc {sub : PE} (hs : Fit sub) : ∀ (k : Nat) (e : Ex) (ts : List Tk) (e' : Ex) (r : List Tk), zPb sub k e ts = some (e', r) -> r <:+ ts /\ r.length <= ts.length /\ e'.tot + W r <= e.tot + W ts
 | 0, e, ts, e', r, h => by cases h; exact ⟨List.suffix_refl _, Nat.le_refl _, Nat.le_refl _⟩
 | k + 1, e, ts, e', r, h => by
  simp only [zPb] at h;split at h
  ·cases h; exact ⟨List.suffix_refl _, Nat.le_refl _, Nat.le_refl _⟩
  rename_i r1 h1
  obtain ⟨⟨a, t2⟩, h2, h⟩ := Option.bind_eq_some_iff.1 h;obtain ⟨x1, rfl, _⟩ := z4a h1;obtain ⟨p1, p2, p3⟩ := wya hs _ _ _ h2;obtain ⟨q1, q2, q3⟩ := xRc hs k _ _ _ _ h;try dsimp only at q1 q2 q3
  simp only [List.length_cons, xba, zQb] at *;exact ⟨q1.trans (p1.trans (List.suffix_cons _ _)), by omega, by omega⟩
theorem wpa {sub : PE} (hs : Fit sub) : Fit (zjb sub) := by
 intro ts e r h;simp only [zjb] at h;obtain ⟨⟨a, t2⟩, h2, h⟩ := Option.bind_eq_some_iff.1 h;obtain ⟨p1, p2, p3⟩ := wya hs _ _ _ h2;obtain ⟨q1, q2, q3⟩ := xRc hs _ _ _ _ _ h;try dsimp only at q1 q2 q3
 exact ⟨q1.trans p1, by omega, by omega⟩
theorem xSc {sub : PE} (hs : Fit sub) : ∀ (k : Nat) (e : Ex) (ts : List Tk) (e' : Ex) (r : List Tk), xSa sub k e ts = some (e', r) -> r <:+ ts /\ r.length <= ts.length /\ e'.tot + W r <= e.tot + W ts
 | 0, e, ts, e', r, h => by cases h; exact ⟨List.suffix_refl _, Nat.le_refl _, Nat.le_refl _⟩
 | k + 1, e, ts, e', r, h => by
  simp only [xSa] at h;have one : ∀ (op : Int) (r1 : List Tk) (x1 : Tk), ts = x1 :: r1 -> ((zjb sub r1).bind fun (x, r2) => xSa sub k (two op e x) r2) = some (e', r) -> r <:+ ts /\ r.length <= ts.length /\ e'.tot + W r <= e.tot + W ts := by
   rintro op r1 x1 rfl h;obtain ⟨⟨a, t2⟩, h2, h⟩ := Option.bind_eq_some_iff.1 h;obtain ⟨p1, p2, p3⟩ := wpa hs _ _ _ h2;obtain ⟨q1, q2, q3⟩ := xSc hs k _ _ _ _ h;try dsimp only at q1 q2 q3
   simp only [List.length_cons, xba, zQb] at *;exact ⟨q1.trans (p1.trans (List.suffix_cons _ _)), by omega, by omega⟩
  split at h
  ·rename_i r1 h1
   obtain ⟨x1, hx, _⟩ := z4a h1;exact one 4 r1 x1 hx h
  split at h
  ·rename_i r1 h1
   obtain ⟨x1, hx, _⟩ := z4a h1;exact one 5 r1 x1 hx h
  cases h; exact ⟨List.suffix_refl _, Nat.le_refl _, Nat.le_refl _⟩
theorem x2a : ∀ d, Fit (yPa d)
 | 0 => fun ts e r h => by cases h
 | d + 1 => fun ts e r h => by
  simp only [yPa] at h;obtain ⟨⟨a, t2⟩, h2, h⟩ := Option.bind_eq_some_iff.1 h;obtain ⟨p1, p2, p3⟩ := wpa (x2a d) _ _ _ h2;obtain ⟨q1, q2, q3⟩ := xSc (x2a d) _ _ _ _ _ h;try dsimp only at q1 q2 q3
  exact ⟨q1.trans p1, by omega, by omega⟩
theorem xTc {s : ByteArray} (h : kept s = true) : 2 <= s.size /\ s.size <= 6 := by
 unfold kept has at h;rw [List.any_eq_true] at h;obtain ⟨x, hx, he⟩ := h;have : x = s := by simpa using he
 subst this;simp [xMb] at hx;rcases hx with rfl | rfl | rfl | rfl | rfl | rfl <;> exact ⟨by decide, by decide⟩
theorem y1c {t : Tk} (h : t.fine) (c : UInt8) : ((decide (t.k = 4) || decide (t.k = 3)) && decide (t.s = ch c)) = t.is 4 (ch c) := by
 unfold Tk.is;by_cases h3 : t.k = 3
 ·have h1 := xTc (h.word h3);have h2 : ¬ t.s = ch c := by
   intro e;rw [e] at h1;have : (ch c).size = 1 := rfl;omega
  simp [h2]
 simp [h3]
theorem y2c {t : Tk} (h : t.fine) {s : ByteArray} (hs : 2 <= s.size) : ((decide (t.k = 4) || decide (t.k = 3)) && decide (t.s = s)) = t.is 3 s := by
 unfold Tk.is;by_cases h4 : t.k = 4
 ·have h1 := h.mark h4;have h2 : ¬ t.s = s := by
   intro e;rw [e] at h1;omega
  simp [h2]
 simp [h4]
theorem wRc {s : ByteArray} (h : zxa s = true) : s.size <= 6 := by
 unfold zxa inR at h;simp at h;omega
theorem ycd {L : List UInt8} {t : Tk} {r : List UInt8} (h : zhb L = some (t, r)) : t.fine := by
 cases L with
 | nil => cases h
 | cons c l =>
  simp only [zhb] at h;split at h
  ·split at h
   ·rename_i hk
    cases h;exact ⟨fun h => (by cases h), fun _ => hk, (xTc hk).2, by simp, by simp⟩
   split at h
   ·rename_i hn
    cases h;exact ⟨fun h => (by cases h), fun h => (by cases h), wRc hn, by simp, by simp⟩
   cases h
  split at h
  ·split at h
   ·rename_i n hq
    split at h
    ·rename_i h9
     cases h;have h0 : 0 <= n := by
      unfold woa at hq;split at hq
      ·have := Option.some.inj hq; omega
      cases hq
     exact ⟨fun h => (by cases h), fun h => (by cases h), by show (0 : Nat) <= 6; omega, h0, h9⟩
    cases h
   cases h
  split at h
  ·cases h;exact ⟨fun _ => rfl, fun h => (by cases h), by show (1 : Nat) <= 6; omega, by simp, by simp⟩
  cases h
theorem y3b : ∀ (k n : Nat) (l : List UInt8) (ts : List Tk), ytb k n l = some ts -> n <= 600 -> (∀ t ∈ ts, t.fine) /\ n + ts.length <= 600
 | k, n, [], ts, h, hn => by
  have : ts = [] := by cases k <;> (unfold ytb at h; exact (Option.some.inj h).symm)
  subst this;exact ⟨fun t h => (by cases h), by simpa using hn⟩
 | 0, n, c :: l, ts, h, hn => by cases h
 | k + 1, n, c :: l, ts, h, hn => by
  simp only [ytb] at h;split at h
  ·exact y3b k n l ts h hn
  split at h
  ·cases h
  rename_i t r ht
  split at h
  ·cases h
  rename_i h6
  obtain ⟨ts', h1, rfl⟩ := Option.map_eq_some_iff.1 h;obtain ⟨p1, p2⟩ := y3b k (n + 1) r ts' h1 (by omega);refine ⟨fun x hx => ?_, by simp only [List.length_cons]; omega⟩;rcases List.mem_cons.1 hx with rfl | hx
  ·exact ycd ht
  exact p1 x hx
theorem x3a {s : ByteArray} {ts : List Tk} (h : lex s = some ts) : (∀ t ∈ ts, t.fine) /\ ts.length <= 600 := by
 unfold lex at h;split at h
 ·cases h
 have := y3b _ _ _ _ h (by omega);exact ⟨this.1, by omega⟩
structure zfa {α : Type} (g : List Tk -> Option (α × List Tk)) (T : List Tk) (a : Nat) (bad : Bool) (x : α) (a' : Nat) (bad' : Bool) : Prop where
 good : ∀ x0 r, bad = false -> g (T.drop a) = some (x0, r) -> x = x0 /\ bad' = false /\ T.drop a' = r
 ill : bad = true ∨ g (T.drop a) = none -> bad' = true
theorem zfa.bind {α β : Type} {g : List Tk -> Option (α × List Tk)} {h : α -> List Tk -> Option (β × List Tk)} {T : List Tk} {a a1 a2 : Nat} {b b1 b2 : Bool} {x : α} {y : β} (h1 : zfa g T a b x a1 b1) (h2 : zfa (h x) T a1 b1 y a2 b2) :
  zfa (fun ts => (g ts).bind fun p => h p.1 p.2) T a b y a2 b2 := by
 refine ⟨fun y0 r hb he => ?_, fun hi => ?_⟩
 ·obtain ⟨⟨x0, r0⟩, e1, e2⟩ := Option.bind_eq_some_iff.1 he;obtain ⟨rfl, hb1, hd⟩ := h1.good x0 r0 hb e1;exact h2.good y0 r hb1 (by rw [hd]; exact e2)
 refine h2.ill ?_;by_cases hb : b = true
 ·exact .inl (h1.ill (.inl hb))
 have hb : b = false := by simpa using hb
 have hn := hi.resolve_left (by simp [hb]);cases hg : g (T.drop a) with
 | none => exact .inl (h1.ill (.inr hg))
 | some p =>
  obtain ⟨x0, r0⟩ := p;obtain ⟨rfl, hb1, hd⟩ := h1.good x0 r0 hb hg;right;rw [hd];simpa [hg] using hn
theorem zfa.pure {α : Type} (x : α) (T : List Tk) (a : Nat) (b : Bool) : zfa (fun ts => some (x, ts)) T a b x a b :=
 ⟨fun x0 r hb he => by cases he; exact ⟨rfl, hb, rfl⟩, fun h => h.resolve_right (by simp)⟩
theorem zfa.eq {α : Type} {g g' : List Tk -> Option (α × List Tk)} {T : List Tk} {a a' : Nat} {b b' : Bool} {x : α} (h : zfa g T a b x a' b') (e : ∀ ts, g' ts = g ts) : zfa g' T a b x a' b' := by
 have : g' = g := funext e;rw [this]; exact h
theorem zfa.bad {α : Type} (g : List Tk -> Option (α × List Tk)) (T : List Tk) (a a' : Nat) (x : α) : zfa g T a true x a' true := ⟨fun _ _ h => (by cases h), fun _ => rfl⟩
def tkR (s : ByteArray) : List Tk -> Option (Unit × List Tk) := fun ts => (tkS 4 s ts).map fun r => ((), r)
theorem wWb {sub : PE} {T : List Tk} {a a1 a2 a3 a4 a5 : Nat} {b b1 b2 b3 b4 b5 : Bool} {x y : Ex} (k : Int) (h1 : zfa (tkR (ch 40)) T a b () a1 b1) (h2 : zfa sub T a1 b1 x a2 b2) (h3 : zfa (tkR (ch 44)) T a2 b2 () a3 b3) (h4 : zfa sub T a3 b3 y a4 b4) (h5 : zfa (tkR (ch 41)) T a4 b4 () a5 b5) :
  zfa (y1b sub k) T a b (two k x y) a5 b5 := by
 have p5 := h5.bind (h := fun _ ts => some (two k x y, ts)) (zfa.pure _ T a5 b5);have p4 := h4.bind (h := fun y ts => (tkR (ch 41) ts).bind fun p => some (two k x y, p.2)) p5;have p3 := h3.bind (h := fun _ ts => (sub ts).bind fun q => (tkR (ch 41) q.2).bind fun p => some (two k x q.1, p.2)) p4;have p2 := h2.bind (h := fun x ts => (tkR (ch 44) ts).bind fun o => (sub o.2).bind fun q => (tkR (ch 41) q.2).bind fun p => some (two k x q.1, p.2)) p3;have p1 := h1.bind (h := fun _ ts => (sub ts).bind fun n => (tkR (ch 44) n.2).bind fun o => (sub o.2).bind fun q => (tkR (ch 41) q.2).bind fun p => some (two k n.1 q.1, p.2)) p2;exact p1.eq fun ts => by simp only [y1b, tkR, Option.bind_map, Function.comp_def]
def paren (sub : PE) : PE := fun ts => (sub ts).bind fun p => (tkS 4 (ch 41) p.2).bind fun r => some (p.1, r)
theorem zSc {sub : PE} {T : List Tk} {a a1 a2 : Nat} {b b1 b2 : Bool} {x : Ex} (h1 : zfa sub T a b x a1 b1) (h2 : zfa (tkR (ch 41)) T a1 b1 () a2 b2) : zfa (paren sub) T a b x a2 b2 := by
 have p2 := h2.bind (h := fun _ ts => some (x, ts)) (zfa.pure _ T a2 b2);have p1 := h1.bind (h := fun x ts => (tkR (ch 41) ts).bind fun p => some (x, p.2)) p2;exact p1.eq fun ts => by simp only [paren, tkR, Option.bind_map, Function.comp_def]
def plc (sub : PE) (s : ByteArray) : PE := fun ts => (sub ts).bind fun p => (tkS 4 (ch 93) p.2).bind fun r => some (.mk 3 0 s [p.1], r)
theorem ydd {sub : PE} {T : List Tk} {a a1 a2 : Nat} {b b1 b2 : Bool} {x : Ex} (s : ByteArray) (h1 : zfa sub T a b x a1 b1) (h2 : zfa (tkR (ch 93)) T a1 b1 () a2 b2) : zfa (plc sub s) T a b (.mk 3 0 s [x]) a2 b2 := by
 have p2 := h2.bind (h := fun _ ts => some (Ex.mk 3 0 s [x], ts)) (zfa.pure _ T a2 b2);have p1 := h1.bind (h := fun x ts => (tkR (ch 93) ts).bind fun p => some (Ex.mk 3 0 s [x], p.2)) p2;exact p1.eq fun ts => by simp only [plc, tkR, Option.bind_map, Function.comp_def]
theorem zfa.cons {α : Type} {g g' : List Tk -> Option (α × List Tk)} {T : List Tk} {a a' : Nat} {b' : Bool} {x : α} (hlt : a < T.length) (h : zfa g T (a + 1) false x a' b') (e : ∀ l, g' (T[a] :: l) = g l) : zfa g' T a false x a' b' := by
 have hd : T.drop a = T[a] :: T.drop (a + 1) := List.drop_eq_getElem_cons hlt;refine ⟨fun x0 r hb he => h.good x0 r rfl ?_, fun hi => h.ill (hi.imp_right fun hn => ?_)⟩
 ·rw [hd, e] at he; exact he
 rw [hd, e] at hn; exact hn
theorem zle {T : List Tk} (hT : ∀ t ∈ T, t.fine) {a : Nat} (ha : a <= T.length) {bad : Bool} (c : UInt8) (t : Tk) (ht : t = if bad = true then ⟨0, ⟨#[]⟩, 0⟩ else (T[a]?).getD ⟨0, ⟨#[]⟩, 0⟩) :
  zfa (tkR (ch c)) T a bad () (if ((decide (t.k = 4) || decide (t.k = 3)) && decide (t.s = ch c)) = true then a + 1 else a) (!((decide (t.k = 4) || decide (t.k = 3)) && decide (t.s = ch c))) := by
 cases bad with
 | true =>
  subst ht;simp;exact zfa.bad _ _ _ _ _
 | false =>
  by_cases hlt : a < T.length
  ·have ht2 : t = T[a] := by rw [ht, List.getElem?_eq_getElem hlt]; rfl
   subst ht2;rw [y1c (hT _ (List.getElem_mem hlt))];have hd : T.drop a = T[a] :: T.drop (a + 1) := List.drop_eq_getElem_cons hlt;cases hi : T[a].is 4 (ch c) with
   | true =>
    refine ⟨fun x0 r _ he => ?_, fun h => ?_⟩
    ·rw [hd] at he;simp only [tkR, tkS, hi, if_true, Option.map_some, Option.some.injEq, Prod.mk.injEq] at he;exact ⟨rfl, rfl, he.2⟩
    have h := h.resolve_left (by simp);rw [hd] at h;simp [tkR, tkS, hi] at h
   | false =>
    refine ⟨fun x0 r _ he => ?_, fun _ => rfl⟩;rw [hd] at he;simp [tkR, tkS, hi] at he
  have ht2 : t = ⟨0, ⟨#[]⟩, 0⟩ := by rw [ht, List.getElem?_eq_none (by omega)]; rfl
  subst ht2;have hd : T.drop a = [] := List.drop_eq_nil_of_le (by omega);refine ⟨fun x0 r _ he => ?_, fun _ => by simp⟩;rw [hd] at he;simp [tkR, tkS] at he
theorem zTc {sub : PE} {T : List Tk} {a : Nat} {t : Tk} (hlt : a < T.length) (ht : t = T[a]) (h2 : t.k ≠ 2) (h1 : t.k ≠ 1) (h4 : t.is 4 (ch 40) = false) (h5 : t.is 3 wjb = false) (h6 : t.is 3 xGb = false) : yda sub (T.drop a) = none := by
 rw [List.drop_eq_getElem_cons hlt, <- ht];simp only [yda, if_neg h2, if_neg h1, h4, h5, h6, Bool.false_eq_true, if_false]
def zkb (sub : PE) (e : Ex) : PE := fun ts => zPb sub ts.length e ts
def wIa (sub : PE) (e : Ex) : PE := fun ts => xSa sub ts.length e ts
theorem zUc {sub : PE} (hs : Fit sub) : ∀ (k j : Nat) (e : Ex) (ts : List Tk), ts.length <= k -> ts.length <= j -> zPb sub k e ts = zPb sub j e ts
 | k, j, e, [], _, _ => by cases k <;> cases j <;> rfl
 | 0, j, e, t :: l, h, _ => by simp at h
 | k + 1, 0, e, t :: l, _, h => by simp at h
 | k + 1, j + 1, e, t :: l, h1, h2 => by
  simp only [zPb];cases hq : tkS 4 (ch 42) (t :: l) with
  | none => rfl
  | some r =>
   obtain ⟨t', hx, _⟩ := z4a hq;cases hx;simp only;cases ha : yda sub l with
   | none => rfl
   | some p =>
    obtain ⟨x, r1⟩ := p;have hf := (wya hs _ _ _ ha).2.1;simp only [Option.bind_some];simp only [List.length_cons] at h1 h2;exact zUc hs k j _ r1 (by omega) (by omega)
theorem zVc {sub : PE} (hs : Fit sub) : ∀ (k j : Nat) (e : Ex) (ts : List Tk), ts.length <= k -> ts.length <= j -> xSa sub k e ts = xSa sub j e ts
 | k, j, e, [], _, _ => by cases k <;> cases j <;> rfl
 | 0, j, e, t :: l, h, _ => by simp at h
 | k + 1, 0, e, t :: l, _, h => by simp at h
 | k + 1, j + 1, e, t :: l, h1, h2 => by
  have one : ∀ op : Int, ((zjb sub l).bind fun (x, r1) => xSa sub k (two op e x) r1) = (zjb sub l).bind fun (x, r1) => xSa sub j (two op e x) r1 := by
   intro op;cases ha : zjb sub l with
   | none => rfl
   | some p =>
    obtain ⟨x, r1⟩ := p;have hf := (wpa hs _ _ _ ha).2.1;simp only [Option.bind_some];simp only [List.length_cons] at h1 h2;exact zVc hs k j _ r1 (by omega) (by omega)
  simp only [xSa];cases hq : tkS 4 (ch 43) (t :: l) with
  | some r =>
   obtain ⟨t', hx, _⟩ := z4a hq;cases hx;exact one 4
  | none =>
   simp only;cases hq2 : tkS 4 (ch 45) (t :: l) with
   | none => rfl
   | some r =>
    obtain ⟨t', hx, _⟩ := z4a hq2;cases hx;exact one 5
theorem y4b {sub : PE} (hs : Fit sub) (e : Ex) (t : Tk) (l : List Tk) : zkb sub e (t :: l) = if t.is 4 (ch 42) = true then (yda sub l).bind fun p => zkb sub (two 6 e p.1) p.2 else some (e, t :: l) := by
 unfold zkb;rw [List.length_cons];simp only [zPb, tkS];by_cases h2 : t.is 4 (ch 42) = true
 ·simp only [if_pos h2];cases ha : yda sub l with
  | none => rfl
  | some p =>
   obtain ⟨x, r1⟩ := p;have hf := (wya hs _ _ _ ha).2.1;simp only [Option.bind_some];exact zUc hs _ _ _ _ (by omega) (Nat.le_refl _)
 simp only [if_neg h2]
theorem y5b {sub : PE} (hs : Fit sub) (e : Ex) (t : Tk) (l : List Tk) : wIa sub e (t :: l) = if t.is 4 (ch 43) = true then (zjb sub l).bind fun p => wIa sub (two 4 e p.1) p.2 else if t.is 4 (ch 45) = true then (zjb sub l).bind fun p => wIa sub (two 5 e p.1) p.2 else some (e, t :: l) := by
 have one : ∀ op : Int, ((zjb sub l).bind fun (x, r1) => xSa sub l.length (two op e x) r1) = (zjb sub l).bind fun p => xSa sub p.2.length (two op e p.1) p.2 := by
  intro op;cases ha : zjb sub l with
  | none => rfl
  | some p =>
   obtain ⟨x, r1⟩ := p;have hf := (wpa hs _ _ _ ha).2.1;simp only [Option.bind_some];exact zVc hs _ _ _ _ (by omega) (Nat.le_refl _)
 unfold wIa;rw [List.length_cons];simp only [xSa, tkS];by_cases h1 : t.is 4 (ch 43) = true
 ·simp only [if_pos h1]; exact one 4
 simp only [if_neg h1];by_cases h2 : t.is 4 (ch 45) = true
 ·simp only [if_pos h2]; exact one 5
 simp only [if_neg h2]
theorem xUc (sub : PE) (e : Ex) : zkb sub e [] = some (e, []) := rfl
theorem xVc (sub : PE) (e : Ex) : wIa sub e [] = some (e, []) := rfl
def xPd (T : List Tk) (a : Nat) (c : UInt8) : Prop := ∀ h : a < T.length, T[a].is 4 (ch c) = false
theorem zWc {sub : PE} (hs : Fit sub) (e : Ex) {T : List Tk} {a : Nat} {b : Bool} (h : b = true ∨ xPd T a 42) : zfa (zkb sub e) T a b e a b := by
 refine ⟨fun x0 r hb he => ?_, fun hi => ?_⟩
 ·have hn := h.resolve_left (by simp [hb]);by_cases hlt : a < T.length
  ·rw [List.drop_eq_getElem_cons hlt, y4b hs, if_neg (by rw [hn hlt]; simp), <- List.drop_eq_getElem_cons hlt] at he;cases he;exact ⟨rfl, hb, rfl⟩
  have hd : T.drop a = [] := List.drop_eq_nil_of_le (by omega);rw [hd, xUc] at he;cases he;exact ⟨rfl, hb, hd⟩
 rcases h with h | hn
 ·exact h
 refine hi.resolve_right ?_;by_cases hlt : a < T.length
 ·rw [List.drop_eq_getElem_cons hlt, y4b hs, if_neg (by rw [hn hlt]; simp)]; simp
 rw [List.drop_eq_nil_of_le (by omega), xUc]; simp
theorem zlb {sub : PE} (hs : Fit sub) (e : Ex) {T : List Tk} {a : Nat} {b : Bool} (h : b = true ∨ (xPd T a 43 /\ xPd T a 45)) : zfa (wIa sub e) T a b e a b := by
 refine ⟨fun x0 r hb he => ?_, fun hi => ?_⟩
 ·have hn := h.resolve_left (by simp [hb]);by_cases hlt : a < T.length
  ·rw [List.drop_eq_getElem_cons hlt, y5b hs, if_neg (by rw [hn.1 hlt]; simp), if_neg (by rw [hn.2 hlt]; simp), <- List.drop_eq_getElem_cons hlt] at he;cases he;exact ⟨rfl, hb, rfl⟩
  have hd : T.drop a = [] := List.drop_eq_nil_of_le (by omega);rw [hd, xVc] at he;cases he;exact ⟨rfl, hb, hd⟩
 rcases h with h | hn
 ·exact h
 refine hi.resolve_right ?_;by_cases hlt : a < T.length
 ·rw [List.drop_eq_getElem_cons hlt, y5b hs, if_neg (by rw [hn.1 hlt]; simp), if_neg (by rw [hn.2 hlt]; simp)]; simp
 rw [List.drop_eq_nil_of_le (by omega), xVc]; simp
theorem zXc {sub : PE} (hs : Fit sub) {e x y : Ex} {T : List Tk} {a a1 a2 : Nat} {b1 b2 : Bool} (hlt : a < T.length) (hm : T[a].is 4 (ch 42) = true) (h1 : zfa (yda sub) T (a + 1) false x a1 b1) (h2 : zfa (zkb sub (two 6 e x)) T a1 b1 y a2 b2) : zfa (zkb sub e) T a false y a2 b2 := by
 have h3 := h1.bind (h := fun x => zkb sub (two 6 e x)) h2;have hd : T.drop a = T[a] :: T.drop (a + 1) := List.drop_eq_getElem_cons hlt;have e1 : zkb sub e (T.drop a) = (yda sub (T.drop (a + 1))).bind fun p => zkb sub (two 6 e p.1) p.2 := by rw [hd, y4b hs, if_pos hm]
 exact ⟨fun x0 r hb he => h3.good x0 r rfl (by rw [<- e1]; exact he), fun hi => h3.ill (hi.imp_right fun hn => by rw [<- e1]; exact hn)⟩
theorem zmb {sub : PE} (hs : Fit sub) {e x y : Ex} {T : List Tk} {a a1 a2 : Nat} {b1 b2 : Bool} (hlt : a < T.length) {op : Int} (hm : (T[a].is 4 (ch 43) = true /\ op = 4) ∨ (T[a].is 4 (ch 43) = false /\ T[a].is 4 (ch 45) = true /\ op = 5)) (h1 : zfa (zjb sub) T (a + 1) false x a1 b1) (h2 : zfa (wIa sub (two op e x)) T a1 b1 y a2 b2) : zfa (wIa sub e) T a false y a2 b2 := by
 have h3 := h1.bind (h := fun x => wIa sub (two op e x)) h2;have hd : T.drop a = T[a] :: T.drop (a + 1) := List.drop_eq_getElem_cons hlt;have e1 : wIa sub e (T.drop a) = (zjb sub (T.drop (a + 1))).bind fun p => wIa sub (two op e p.1) p.2 := by
  rw [hd, y5b hs];rcases hm with ⟨hm, rfl⟩ | ⟨hm, hm2, rfl⟩
  ·rw [if_pos hm]
  rw [if_neg (by simp [hm]), if_pos hm2]
 exact ⟨fun x0 r hb he => h3.good x0 r rfl (by rw [<- e1]; exact he), fun hi => h3.ill (hi.imp_right fun hn => by rw [<- e1]; exact hn)⟩
theorem yed {sub : PE} {x y : Ex} {T : List Tk} {a a1 a2 : Nat} {b b1 b2 : Bool} (h1 : zfa (yda sub) T a b x a1 b1) (h2 : zfa (zkb sub x) T a1 b1 y a2 b2) : zfa (zjb sub) T a b y a2 b2 :=
 (h1.bind (h := fun x => zkb sub x) h2).eq fun ts => rfl
theorem yfd {d : Nat} {x y : Ex} {T : List Tk} {a a1 a2 : Nat} {b b1 b2 : Bool} (h1 : zfa (zjb (yPa d)) T a b x a1 b1) (h2 : zfa (wIa (yPa d) x) T a1 b1 y a2 b2) : zfa (yPa (d + 1)) T a b y a2 b2 :=
 (h1.bind (h := fun x => wIa (yPa d) x) h2).eq fun ts => rfl
theorem zfa.lt {g : PE} (hf : Fit g) {T : List Tk} {a a' : Nat} {b : Bool} {x : Ex} (h : zfa g T a b x a' false) (ha : a' <= T.length) : T.length - a' < T.length - a := by
 have hb : b = false := by
  cases b with
  | false => rfl
  | true => have := h.ill (.inl rfl); cases this
 cases hg : g (T.drop a) with
 | none => have := h.ill (.inr hg); cases this
 | some p =>
  obtain ⟨x0, r⟩ := p;obtain ⟨_, _, hd⟩ := h.good x0 r hb hg;have h1 := (hf _ _ _ hg).2.1;have h2 := congrArg List.length hd;simp at h1 h2;omega
def yvb : ByteArray := ⟨#[102, 111, 114]⟩
def xza : ByteArray := ⟨#[112, 114, 105, 110, 116]⟩
def toB : ByteArray := ⟨#[116, 111]⟩
def y6a : ByteArray := ⟨#[97, 114, 114, 97, 121]⟩
def zE : Ex := .mk 0 0 ⟨#[]⟩ []
abbrev PA (α : Type) := List Tk -> Option (α × List Tk)
def xca {α : Type} (x : α) : PA α := fun ts => some (x, ts)
def zXa {α β : Type} (g : PA α) (h : α -> PA β) : PA β := fun ts => (g ts).bind fun p => h p.1 p.2
theorem zla {α β : Type} {g : PA α} {h : α -> PA β} {ts r : List Tk} {y : β} : zXa g h ts = some (y, r) <-> ∃ x r1, g ts = some (x, r1) /\ h x r1 = some (y, r) := by
 unfold zXa;rw [Option.bind_eq_some_iff];constructor
 ·rintro ⟨⟨x, r1⟩, h1, h2⟩; exact ⟨x, r1, h1, h2⟩
 rintro ⟨x, r1, h1, h2⟩; exact ⟨(x, r1), h1, h2⟩
def kpR (s : ByteArray) : PA Unit := fun ts => (tkS 3 s ts).map fun r => ((), r)
def nmP : PA ByteArray
 | [] => none
 | t :: r => if t.k = 1 then some (t.s, r) else none
def xod : PA Int
 | [] => none
 | t :: r => if t.k = 2 then some (t.n, r) else none
def exP : PE := yPa 30
def xda (s : ByteArray) (e : Ex) : Sm := .mk 1 s zE e zE zE []
def xea (s : ByteArray) (a e : Ex) : Sm := .mk 2 s a e zE zE []
def yea (s : ByteArray) (lo hi : Ex) (b : List Sm) : Sm := .mk 3 s zE zE lo hi b
def zOa (e : Ex) : Sm := .mk 4 ⟨#[]⟩ zE e zE zE []
def xOb (c : UInt8) : PE := zXa exP fun e => zXa (tkR (ch c)) fun _ => xca e
def xpe (s : ByteArray) : PA Sm := zXa (tkR (ch 61)) fun _ => zXa (xOb 59) fun e => xca (xda s e)
def xqe (s : ByteArray) : PA Sm := zXa (xOb 93) fun a => zXa (tkR (ch 61)) fun _ => zXa (xOb 59) fun e => xca (xea s a e)
def xpd (s : ByteArray) : PA Sm := fun ts => match tkS 4 (ch 91) ts with
 | some r => xqe s r
 | none => xpe s ts
def xre : PA Sm := zXa (xOb 59) fun e => xca (zOa e)
def yRa : PA Sm := fun ts => match tkS 3 xza ts with
 | some r => xre r
 | none => zXa nmP xpd ts
def znb (sub : PA Sm) : Nat -> List Sm -> PA (List Sm)
 | 0, _, _ => none
 | k + 1, l, ts => match tkS 4 (ch 125) ts with
  | some r => some (l, r)
  | none => (sub ts).bind fun p => znb sub k (l ++ [p.1]) p.2
def zRb (sub : PA Sm) (l : List Sm) : PA (List Sm) := fun ts => znb sub (ts.length + 1) l ts
def zSb (sub : PA Sm) : PA Sm := zXa nmP fun s => zXa (tkR (ch 61)) fun _ => zXa exP fun lo => zXa (kpR toB) fun _ => zXa exP fun hi => zXa (tkR (ch 123)) fun _ => zXa (zRb sub []) fun b => xca (yea s lo hi b)
def zZa : Nat -> PA Sm
 | 0 => fun ts => match tkS 3 yvb ts with
  | some _ => none
  | none => yRa ts
 | d + 1 => fun ts => match tkS 3 yvb ts with
  | some r => zSb (zZa d) r
  | none => yRa ts
def yta : Nat -> PA Sm
 | 0 => fun _ => none
 | d + 1 => fun ts => match tkS 3 yvb ts with
  | some r => zSb (yta d) r
  | none => yRa ts
def wJa (sub : PA Sm) : Nat -> List Sm -> List Tk -> Option (List Sm × List Tk)
 | _, l, [] => some (l, [])
 | 0, _, _ :: _ => none
 | k + 1, l, t :: ts => (sub (t :: ts)).bind fun p => wJa sub k (l ++ [p.1]) p.2
def y7a (sub : PA Sm) (l : List Sm) : PA (List Sm) := fun ts => wJa sub ts.length l ts
def xqd : PA Ar := zXa nmP fun s => zXa xod fun n => zXa (tkR (ch 59)) fun _ => xca ⟨s, n⟩
def zob : Nat -> List Ar -> PA (List Ar)
 | 0, l, ts => some (l, ts)
 | k + 1, l, ts => match tkS 3 y6a ts with
  | none => some (l, ts)
  | some r => (xqd r).bind fun p => zob k (l ++ [p.1]) p.2
def xaa (l : List Ar) : PA (List Ar) := fun ts => zob ts.length l ts
def zYc (l : List Ar) (a : Ar) : List Ar := (l.reverse.dropWhile fun x => blt a.s x.s).reverse ++ a :: (l.reverse.takeWhile fun x => blt a.s x.s).reverse
def zsa (l : List Ar) : List Ar := l.foldl zYc []
def wqa (sub : PA Sm) (s : ByteArray) : Option Pg := match lex s with
 | none => none
 | some ts => match zXa (xaa []) (fun as => zXa (y7a sub []) fun b => xca (Pg.mk (zsa as) b)) ts with
  | some (p, _) => if p.ok = true then some p else none
  | none => none
def parse (s : ByteArray) : Option Pg := wqa (zZa 3) s
-- the two ways to read
theorem zZc {f g : PA Sm} : ∀ (k : Nat) (l : List Sm) (ts : List Tk) (b : List Sm) (r : List Tk), znb f k l ts = some (b, r) -> ∃ b', b = l ++ b' /\ ((∀ x ∈ b', ∀ t q, f t = some (x, q) -> g t = some (x, q)) -> znb g k l ts = some (b, r))
 | 0, l, ts, b, r, h => by cases h
 | k + 1, l, ts, b, r, h => by
  simp only [znb] at h ⊢;cases hq : tkS 4 (ch 125) ts with
  | some r1 =>
   rw [hq] at h;cases h;exact ⟨[], by simp, fun _ => rfl⟩
  | none =>
   rw [hq] at h;simp only at h ⊢;obtain ⟨⟨x, r1⟩, h1, h2⟩ := Option.bind_eq_some_iff.1 h;obtain ⟨b', rfl, k2⟩ := zZc k _ _ _ _ h2;refine ⟨x :: b', by simp, fun hm => ?_⟩;rw [hm x (by simp) _ _ h1];exact k2 fun y hy => hm y (by simp [hy])
theorem y6b {f g : PA Sm} {ts r : List Tk} {x : Sm} (h : zSb f ts = some (x, r)) : ∃ s lo hi b, x = yea s lo hi b /\ ((∀ x ∈ b, ∀ t q, f t = some (x, q) -> g t = some (x, q)) -> zSb g ts = some (x, r)) := by
 unfold zSb at h ⊢;obtain ⟨s, r1, h1, h⟩ := zla.1 h;obtain ⟨u, r2, h2, h⟩ := zla.1 h;obtain ⟨lo, r3, h3, h⟩ := zla.1 h;obtain ⟨u', r4, h4, h⟩ := zla.1 h;obtain ⟨hi, r5, h5, h⟩ := zla.1 h;obtain ⟨u'', r6, h6, h⟩ := zla.1 h;obtain ⟨b, r7, h7, h⟩ := zla.1 h;obtain ⟨b', e, hb⟩ := zZc (g := g) _ _ _ _ _ h7;simp only [List.nil_append] at e;subst e;have hx : x = yea s lo hi b := by cases h; rfl
 exact ⟨s, lo, hi, b, hx, fun hm => zla.2 ⟨s, r1, h1, zla.2 ⟨u, r2, h2, zla.2 ⟨lo, r3, h3, zla.2 ⟨u', r4, h4, zla.2 ⟨hi, r5, h5, zla.2 ⟨u'', r6, h6, zla.2 ⟨b, r7, hb hm, h⟩⟩⟩⟩⟩⟩⟩⟩
theorem ygd : ∀ (d q : Nat) (ts : List Tk) (x : Sm) (r : List Tk), d < q -> zZa d ts = some (x, r) -> yta q ts = some (x, r)
 | d, 0, ts, x, r, hq, _ => by omega
 | 0, q + 1, ts, x, r, _, h => by
  simp only [zZa, yta] at h ⊢;cases hf : tkS 3 yvb ts with
  | some r1 => rw [hf] at h; cases h
  | none => rw [hf] at h; exact h
 | d + 1, q + 1, ts, x, r, hq, h => by
  simp only [zZa, yta] at h ⊢;cases hf : tkS 3 yvb ts with
  | some r1 =>
   rw [hf] at h;obtain ⟨s, lo, hi, b, rfl, hm⟩ := y6b (g := yta q) h;exact hm fun y _ t p hy => ygd d q t y p (by omega) hy
  | none => rw [hf] at h; exact h
theorem wza : ∀ {l : List Sm} {d : Nat}, Sm.rights l d = true -> ∀ x ∈ l, x.right d = true
 | [], _, _, x, hx => by cases hx
 | y :: l, d, h, x, hx => by
  rw [Sm.rights, Bool.and_eq_true] at h;rcases List.mem_cons.1 hx with rfl | hx
  ·exact h.1
  exact wza h.2 x hx
theorem z0c {s : ByteArray} {lo hi : Ex} {b : List Sm} {d : Nat} (h : (yea s lo hi b).right d = true) : d < 3 /\ Sm.rights b (d + 1) = true := by
 unfold yea at h;rw [Sm.right] at h;simp [zta] at h;exact ⟨h.1.1.2, h.2⟩
theorem z1c : ∀ (q d : Nat) (ts : List Tk) (x : Sm) (r : List Tk), d <= 3 -> yta q ts = some (x, r) -> x.right (3 - d) = true -> zZa d ts = some (x, r)
 | 0, d, ts, x, r, _, h, _ => by cases h
 | q + 1, d, ts, x, r, hd, h, hx => by
  simp only [yta] at h;cases hf : tkS 3 yvb ts with
  | some r1 =>
   rw [hf] at h;cases d with
   | zero =>
    obtain ⟨s, lo, hi, b, rfl, hm⟩ := y6b (g := yta q) h;have := (z0c hx).1;omega
   | succ d =>
    obtain ⟨s, lo, hi, b, rfl, hm⟩ := y6b (g := zZa d) h;simp only [zZa, hf];refine hm fun y hy t p hyt => z1c q d t y p (by omega) hyt ?_;have := wza (z0c hx).2 y hy
    rwa [show 3 - (d + 1) + 1 = 3 - d by omega] at this
  | none =>
   rw [hf] at h;cases d with
   | zero => simp only [zZa, hf]; exact h
   | succ d => simp only [zZa, hf]; exact h
theorem y7b {f g : PA Sm} : ∀ (k : Nat) (l : List Sm) (ts : List Tk) (b : List Sm) (r : List Tk), wJa f k l ts = some (b, r) -> ∃ b', b = l ++ b' /\ ((∀ x ∈ b', ∀ t q, f t = some (x, q) -> g t = some (x, q)) -> wJa g k l ts = some (b, r))
 | k, l, [], b, r, h => by
  have e : wJa f k l [] = some (l, []) := by cases k <;> rfl
  rw [e] at h;cases h;exact ⟨[], by simp, fun _ => by cases k <;> rfl⟩
 | 0, l, t :: ts, b, r, h => by cases h
 | k + 1, l, t :: ts, b, r, h => by
  simp only [wJa] at h ⊢;obtain ⟨⟨x, r1⟩, h1, h2⟩ := Option.bind_eq_some_iff.1 h;obtain ⟨b', rfl, k2⟩ := y7b k _ _ _ _ h2;refine ⟨x :: b', by simp, fun hm => ?_⟩;rw [hm x (by simp) _ _ h1];exact k2 fun y hy => hm y (by simp [hy])
theorem Pg.ok_body {p : Pg} (h : p.ok = true) : ∀ x ∈ p.body, x.right 0 = true := by
 intro x hx;unfold Pg.ok Pg.head at h;simp only [Bool.and_eq_true] at h;have := List.all_eq_true.1 h.1.2.2.2.2 x hx;unfold Sm.ok at this;rw [Bool.and_eq_true] at this;exact this.1
theorem wXb (s : ByteArray) : wqa (yta 5) s = parse s := by
 unfold parse wqa;cases lex s with
 | none => rfl
 | some ts =>
  simp only;cases hp : zXa (xaa []) (fun as => zXa (y7a (zZa 3) []) fun b => xca (Pg.mk (zsa as) b)) ts with
  | some o =>
   obtain ⟨p, r⟩ := o;obtain ⟨as, r1, h1, h⟩ := zla.1 hp;obtain ⟨b, r2, h2, h⟩ := zla.1 h;obtain ⟨b', e, hb⟩ := y7b (g := yta 5) _ _ _ _ _ h2;have hb2 : y7a (yta 5) [] r1 = some (b, r2) := hb fun x _ t q hx => ygd 3 5 t x q (by omega) hx;rw [zla.2 ⟨as, r1, h1, zla.2 ⟨b, r2, hb2, h⟩⟩]
  | none =>
   simp only;cases hq : zXa (xaa []) (fun as => zXa (y7a (yta 5) []) fun b => xca (Pg.mk (zsa as) b)) ts with
   | none => rfl
   | some o =>
    obtain ⟨p, r⟩ := o;simp only;split
    ·rename_i hok
     obtain ⟨as, r1, h1, h⟩ := zla.1 hq;obtain ⟨b, r2, h2, h⟩ := zla.1 h;obtain ⟨b', e, hb⟩ := y7b (g := zZa 3) _ _ _ _ _ h2;simp only [List.nil_append] at e;subst e;have hp2 : p = Pg.mk (zsa as) b := by cases h; rfl
     have hb2 : y7a (zZa 3) [] r1 = some (b, r2) := hb fun x hx t q hxt => z1c 5 3 t x q (by omega) hxt (Pg.ok_body hok x (by rw [hp2]; exact hx));have : zXa (xaa []) (fun as => zXa (y7a (zZa 3) []) fun b => xca (Pg.mk (zsa as) b)) ts = some (p, r) := zla.2 ⟨as, r1, h1, zla.2 ⟨b, r2, hb2, h⟩⟩;rw [hp] at this;cases this
    rfl
theorem z2c {α : Type} (p : α -> Bool) : ∀ (l r : List α), (∀ x ∈ l, p x = true) -> (∀ x r', r = x :: r' -> p x = false) -> (l ++ r).takeWhile p = l /\ (l ++ r).dropWhile p = r
 | [], [], _, _ => ⟨rfl, rfl⟩
 | [], x :: r, _, h => by
  have := h x r rfl;simp [List.takeWhile_cons, List.dropWhile_cons, this]
 | x :: l, r, h1, h2 => by
  have h := z2c p l r (fun y hy => h1 y (by simp [hy])) h2;have hx := h1 x (by simp);simp [List.takeWhile_cons, List.dropWhile_cons, hx, h.1, h.2]
theorem wYb {P Q : List Ar} {a : Ar} (hQ : ∀ q ∈ Q, blt a.s q.s = true) (hP : ∀ x, P.getLast? = some x -> blt a.s x.s = false) : zYc (P ++ Q) a = P ++ a :: Q := by
 unfold zYc;have := z2c (fun x : Ar => blt a.s x.s) Q.reverse P.reverse (fun x hx => hQ x (List.mem_reverse.1 hx)) fun x r' hr => hP x (by rw [List.getLast?_eq_head?_reverse, hr]; rfl);rw [List.reverse_append, this.1, this.2, List.reverse_reverse, List.reverse_reverse]
theorem xWc (l : List Ar) (a : Ar) : (zYc l a).length = l.length + 1 := by
 unfold zYc;have := congrArg List.length (List.takeWhile_append_dropWhile (p := fun x : Ar => blt a.s x.s) (l := l.reverse));simp only [List.length_append, List.length_reverse, List.length_cons] at this ⊢;omega
theorem wAa (l : List Ar) : (zsa l).length = l.length := by
 have : ∀ (l r : List Ar), (l.foldl zYc r).length = r.length + l.length := by
  intro l
  induction l with
  | nil => intro r; simp
  | cons x l ih => intro r; rw [List.foldl_cons, ih, xWc, List.length_cons]; omega
 have := this l [];simpa [zsa] using this
theorem z3c (l : List Ar) (a : Ar) : zsa (l ++ [a]) = zYc (zsa l) a := by simp [zsa]
theorem xQd (l : List Ar) (a x : Ar) : x ∈ zYc l a <-> x = a ∨ x ∈ l := by
 have h : x ∈ l <-> x ∈ l.reverse := by simp
 rw [h]
 conv => rhs; rw [<- List.takeWhile_append_dropWhile (p := fun x : Ar => blt a.s x.s) (l := l.reverse)]
 unfold zYc;simp only [List.mem_append, List.mem_cons, List.mem_reverse];constructor
 ·rintro (h | h | h)
  ·exact .inr (.inr h)
  ·exact .inl h
  exact .inr (.inl h)
 rintro (h | h | h)
 ·exact .inr (.inl h)
 ·exact .inr (.inr h)
 exact .inl h
theorem wZb (l : List Ar) (x : Ar) : x ∈ zsa l <-> x ∈ l := by
 have : ∀ (l r : List Ar), x ∈ l.foldl zYc r <-> x ∈ r ∨ x ∈ l := by
  intro l
  induction l with
  | nil => intro r; simp
  | cons y l ih =>
   intro r;rw [List.foldl_cons, ih, xQd, List.mem_cons];constructor
   ·rintro ((h | h) | h)
    ·exact .inr (.inl h)
    ·exact .inl h
    exact .inr (.inr h)
   rintro (h | h | h)
   ·exact .inl (.inr h)
   ·exact .inl (.inl h)
   exact .inr h
 have := this l [];simpa [zsa] using this
theorem zme {xs as : List Ar} (hl : xs.length = as.length) (h : as.length < 20 -> xs = zsa as) (b : List Sm) : (Pg.mk xs b).ok = (Pg.mk (zsa as) b).ok /\ ((Pg.mk xs b).ok = true -> xs = zsa as) := by
 by_cases hn : as.length < 20
 ·rw [h hn]; exact ⟨rfl, fun _ => rfl⟩
 have key : ∀ ys : List Ar, 4 < ys.length -> (Pg.mk ys b).ok = false := by
  intro ys hy;unfold Pg.ok Pg.head;have : decide (ys.length <= 4) = false := by simp; omega
  simp only [this, Bool.false_and, Bool.and_false]
 have h1 := key xs (by omega);have h2 := key (zsa as) (by rw [wAa]; omega);rw [h1, h2];exact ⟨rfl, fun h => by cases h⟩
end Go.T
