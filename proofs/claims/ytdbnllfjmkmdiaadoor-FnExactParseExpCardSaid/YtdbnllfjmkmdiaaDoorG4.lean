/- Calls that read a table of the library's: the table's block is told as a block of the memory that nobody writes; strconv.Itoa; the end of such a law. Numbers as text: what is read digit by digit is the library's numeral. Machines as trees, in plain Lean. Straight sums and boxes as trees; what they are from and to, in plain Lean. Tokens: what a text is cut into, in plain Lean. What is read of tokens, in plain Lean: expressions. Where all of a program stands, in plain Lean. Trees whose rows may all be written; they are lent to calls that only read. Rows that are marked: what a mark says; cells of one's own rows written one by one. Copies that are one's own: structs put together field by field; what comes of a call seen otherwise. What is done to a memory by calls of one's own; rows of one's own that grow. Boxes and trees of one's own that stand at once; what marks are, in one form. Rows that boxes hold: they grow, they are not written any more. Rows of leaves that grow and are cut. -/
import Derived.Test.YtdbnllfjmkmdiaaDoorG2
import Derived.Test.YtdbnllfjmkmdiaaDoorG3
import Derived.Lib.LaidTab
import Derived.Lib.ItoaNum
import Derived.Deep.Draws
import Derived.Lib.Bytealg
namespace Go.T
open Go Go.Sort Go.Proofs Go.RowKit Go.ChangeShapes
set_option linter.unusedSimpArgs false
set_option linter.unusedVariables false
theorem View.freezeB {m : Mem} {g : Nat} {cs : List AV} (hg : m g = some (.box cs)) : View m (.ptr g 0) (m.del g) (.ref cs) := fun w S v h1 h2 => by
  obtain ⟨T, vs, hb, hr⟩ := h1.blk g _ hg
  have hSS : ∀ b, S b → S b ∨ b = g := fun b hb => .inl hb
  refine ⟨fun b => S b ∨ b = g, hSS, fun b hb => hb.imp id (fun h => by rw [h, hg]; simp), ⟨fun g' b' hg' => ?_, fun b hb' => ?_⟩, ?_, fun g' b' hg' => ?_⟩
  · unfold Mem.del at hg'
    split at hg'
    · cases hg'
    · exact (h1.blk g' b' hg').mono (fun _ _ => rfl) hSS rfl
  · rcases hb' with hb' | rfl
    · refine ⟨?_, (h1.apart b hb').2⟩
      unfold Mem.del
      split
      · rfl
      · exact (h1.apart b hb').1
    · exact ⟨by simp [Mem.del], (Array.getElem?_eq_some_iff.1 hb).1⟩
  · cases h2
    exact .ref g 0 (.inr rfl) (Cells.of_block hb (hr.mono (fun _ _ => rfl) hSS) 0 (fun i v hv => by simpa using hv))
  · unfold Mem.del at hg'
    split at hg'
    · cases hg'
    · rw [hg']; simp
theorem AWp.gen {P : Program} {N : Nat} {c : Code} {Q : Exit → St → Prop} {s : St} (F : St → Prop) (hF : F s) (h : ∀ s, F s → AWp P N c Q s) : AWp P N c Q s := h s hF
def intsA (k : IntKind) (zs : List Int) : List AV := zs.map (.int k)
theorem reps_ints {w : World} {S : Nat → Prop} {k : IntKind} : ∀ {zs : List Int} {vs : List Value}, Reps w S (intsA k zs) vs → vs = zs.map (Value.int k)
  | [], vs, h => by cases h; rfl
  | x :: xs, vs, h => by
    unfold intsA at h
    simp only [List.map_cons] at h
    cases h with
    | cons h t =>
      cases h
      rw [reps_ints (zs := xs) t]
      rfl
theorem ints_reps (w : World) (S : Nat → Prop) (k : IntKind) : ∀ zs : List Int, Reps w S (intsA k zs) (zs.map (Value.int k))
  | [] => .nil
  | x :: xs => .cons (.int k x) (ints_reps w S k xs)
/-- The table as a block. -/
def tabBlk (T : TypeId) : Blk := .arr T 1 20 (intsA .u64 Lib.pow10Tab)
theorem flat_ints (k : IntKind) : ∀ zs : List Int, flat (intsA k zs) = intsA k zs
  | [] => rfl
  | z :: zs => by
    have := flat_ints k zs
    unfold flat intsA at *
    simp only [List.map_cons, List.flatMap_cons, this]
    rfl
theorem tab_row {w : World} {S : Nat → Prop} {g : Nat} {T : TypeId} (h : BlkRep w S g (tabBlk T)) : w.heap[g]? = some (.cells (Lib.pow10Tab.map (Value.int .u64)).toArray T (0, 0)) := by
  obtain ⟨vs, us, h1, h2, h3, h4, h5⟩ := h
  rw [flat_ints] at h2
  have := reps_ints h2
  subst this
  have hu : us = [] := by
    apply List.eq_nil_of_length_eq_zero
    simp [Lib.pow10Tab_length] at h3
    simpa using h3
  subst hu
  rw [h1, List.append_nil]
theorem tab_is {P : Program} {w : World} {S : Nat → Prop} {m : Mem} {g : Nat} {T : TypeId} {name : String} (hg : P.globalNamed name = some g) (hm : MemRep w S m) (h : m g = some (tabBlk T)) : Lib.TabIs P w name .u64 Lib.pow10Tab := by
  have h1 := tab_row (hm.blk g _ h)
  unfold Lib.TabIs World.var?
  rw [hg]
  simp only [Option.bind_some, h1]
theorem wc_itoa {P : Program} {f g : Nat} {T : TypeId} (hbod : HasBody P f) (hg : P.globalNamed "internal/strconv.uint64pow10" = some g)
    (hc : ∀ (n : Int) (h0 : -9223372036854775808 ≤ n) (h1 : n ≤ 9223372036854775807) (w : World) (htab : Lib.TabIs P w "internal/strconv.uint64pow10" .u64 Lib.pow10Tab), Calls P f #[.int .i64 n] w fun e w' => e = .returned (.string ⟨(Lib.itoa n).toArray⟩) ∧ ∃ k os, w' = grow (w.drewN k) os)
    (n : Int) (h0 : -9223372036854775808 ≤ n) (h1 : n ≤ 9223372036854775807) {m : Mem} (hm : m g = some (tabBlk T)) {k : AV → Mem → Prop} (hk : k (.str ⟨(Lib.itoa n).toArray⟩) m) : WCall P f [.int .i64 n] m k := by
  refine ⟨hbod, fun w S cargs hmr hr => ?_⟩
  cases hr with
  | cons hx hnil =>
  cases hnil
  cases hx
  refine calls_mono (hc n h0 h1 w (tab_is hg hmr hm)) ?_
  rintro e w' ⟨he, q, os, hw⟩
  subst hw
  have hsame : ∀ b, b < w.heap.size → (grow (w.drewN q) os).heap[b]? = w.heap[b]? := fun b hb => heap_grow_old (w.drewN q) os hb
  have hst : Stays S w (grow (w.drewN q) os) := fun b hb => hsame b (hmr.apart b hb).2
  have hsz : w.heap.size ≤ (grow (w.drewN q) os).heap.size := by
    rw [size_grow]
    exact Nat.le_add_right _ _
  refine ⟨_, _, m, S, he, hk, fun _ h => h, fun _ h => .inl h, ⟨fun g b hb => (hmr.blk g b hb).mono hst (fun _ h => h) (hsame g (hmr.blk g b hb).lt), fun b hb => ⟨(hmr.apart b hb).1, Nat.lt_of_lt_of_le (hmr.apart b hb).2 hsz⟩⟩, .str _, ⟨rfl, rfl, rfl, hsz, fun b hb _ => hsame b hb⟩, fun g b hb => .inl (by rw [hb]; simp)⟩
/-- The memory that holds the table alone. -/
def tabMem (g : Nat) (T : TypeId) : Mem := fun k => if k = g then some (tabBlk T) else none
/-- What was there ahead of the call, but for the table. -/
def OldBut (W : World) (g : Nat) : Nat → Prop := fun b => b < W.heap.size ∧ b ≠ g
/-- The table's block, out of the row's own condition. -/
theorem tab_blk {P : Program} {W : World} {g : Nat} {t e : TypeId} {rest : List (String × DataW Unit)}
    (hg : P.globalNamed "internal/strconv.uint64pow10" = some g) (hty : (P.globals[g]?).map (·.type) = some t) (ht : P.underlying t = some (.array 20 e)) (he : P.underlying e = some (.int .u64)) (hce : P.cellsOf e = 1) (hct : P.cellsOf t = 20)
    (h : laidMet P (("internal/strconv.uint64pow10", Lib.tabData .u64 Lib.pow10Tab) :: rest) W) (S : Nat → Prop) : ∃ T, BlkRep W S g (tabBlk T) := by
  have htab : Lib.TabIs P W "internal/strconv.uint64pow10" .u64 Lib.pow10Tab := Lib.tabIs_of_head hg hty ht he hce hct h
  obtain ⟨ps, ⟨g', t', cs, fuel, p, q, hg', ht', hvar, hd, hq, rfl⟩, hnd, hrows⟩ := h
  obtain rfl := Option.some.inj (hg.symm.trans hg')
  have hcs : cs = (Lib.pow10Tab.map (Value.int .u64)).toArray := Option.some.inj (hvar.symm.trans htab)
  obtain ⟨⟨c, T, hb⟩, _⟩ := hrows g 0 (by
    rw [hcs]
    refine List.mem_append_left _ (List.mem_append_left _ ?_)
    simp [MemPlace.row, Lib.pow10Tab_length])
  unfold Lib.TabIs World.var? at htab
  rw [hg] at htab
  simp only [Option.bind_some, hb] at htab
  obtain rfl := Option.some.inj htab
  refine ⟨T, Lib.pow10Tab.map (Value.int .u64), [], ?_, ?_, by simp [Lib.pow10Tab_length], fun x hx => ?_, by simp [intsA, Lib.pow10Tab_length]⟩
  · rw [List.append_nil]
    exact hb
  · rw [flat_ints]
    exact ints_reps _ _ _ _
  · obtain ⟨z, _, rfl⟩ := List.mem_map.1 hx
    rfl
theorem law_ends_tab {P : Program} {W : World} {n g : Nat} {T : TypeId} {args : List AV} {cargs : Array Value} (hb : BlkRep W (OldBut W g) g (tabBlk T)) (h : WCall P n args (tabMem g T) fun r m' => r = .bool true ∧ m' g = some (tabBlk T)) (hr : Reps W (OldBut W g) args cargs.toList) : Calls P n cargs W fun e W' => e = .returned (.bool true) ∧ Below W.heap.size W W' := by
  have hm : MemRep W (OldBut W g) (tabMem g T) := by
    refine ⟨fun k b h => ?_, fun b hb => ⟨by simp [tabMem, hb.2], hb.1⟩⟩
    unfold tabMem at h
    by_cases e : k = g
    · rw [if_pos e] at h
      obtain rfl := Option.some.inj h
      rw [e]; exact hb
    · rw [if_neg e] at h; cases h
  have := h.2 W (OldBut W g) cargs.toList hm hr
  rw [Array.toArray_toList] at this
  refine calls_mono this ?_
  rintro e W' ⟨v, r, m', S', he, ⟨rfl, htb⟩, h1, h2, h3, h4, h5, h6⟩
  subst he
  cases h4
  refine ⟨rfl, ⟨h5.os, h5.tape, h5.output, h5.size, fun k hk => ?_⟩⟩
  by_cases hkg : k = g
  · rw [hkg, tab_row hb, tab_row (h3.blk _ _ htb)]
  · exact h5.block k hk (by simp [tabMem, hkg])
end Go.T
namespace Go.T
open Go Go.Proofs
set_option linter.unusedSimpArgs false
set_option linter.unusedVariables false
/-- A number's text. -/
def numB (n : Int) : ByteArray := ⟨(Lib.itoa n).toArray⟩
theorem size_mk (a : List UInt8) : (⟨a.toArray⟩ : ByteArray).size = a.length := by simp [ByteArray.size]
end Go.T
namespace Go.T
open Go
set_option linter.unusedSimpArgs false
set_option linter.unusedVariables false
def ints (l : List Int) : AV := .lst false 1 (l.map (AV.int .i64))
structure Pu where
  at_ : Int
  n : Int
def Pu.cells (p : Pu) : List AV := [.int .i64 p.at_, .int .i64 p.n]
def Pu.av (p : Pu) : AV := .agg p.cells
@[simp] theorem Pu.cells_len (e : Pu) : e.cells.length = 2 := rfl
@[simp] theorem Pu.take0 (e : Pu) : List.take 2 e.cells = e.cells := rfl
@[simp] theorem Pu.cells_ok (e : Pu) : e.cells.all okCell = true := rfl
structure Hd where
  pc : Int
  stack : List Int
  regs : List Int
  shelf : List Pu
  here : Bool
  done : Bool
def Hd.cells (h : Hd) : List AV := [.int .i64 h.pc, ints h.stack, ints h.regs, .lst false 2 (h.shelf.map Pu.av), .bool h.here, .bool h.done]
def Hd.av (h : Hd) : AV := .agg h.cells
@[simp] theorem Hd.cells_len (e : Hd) : e.cells.length = 6 := rfl
@[simp] theorem Hd.take0 (e : Hd) : List.take 6 e.cells = e.cells := rfl
@[simp] theorem Hd.cells_ok (e : Hd) : e.cells.all okCell = true := rfl
def Hd.tot (h : Hd) : Nat := h.stack.length + (h.regs.length + h.shelf.length)
def Hd.fit (h : Hd) : Prop := h.stack.length ≤ most ∧ h.regs.length ≤ most ∧ h.shelf.length ≤ most
structure Mc where
  mem : List Int
  hands : List Hd
  out : List Int
  trap : Bool
def Mc.cells (m : Mc) : List AV := [ints m.mem, .lst false 6 (m.hands.map Hd.av), ints m.out, .bool m.trap]
def Mc.av (m : Mc) : AV := .agg m.cells
@[simp] theorem Mc.cells_len (e : Mc) : e.cells.length = 4 := rfl
@[simp] theorem Mc.take0 (e : Mc) : List.take 4 e.cells = e.cells := rfl
@[simp] theorem Mc.cells_ok (e : Mc) : e.cells.all okCell = true := rfl
def Mc.tot (m : Mc) : Nat := m.mem.length + (totL Hd.tot m.hands + m.out.length)
def Mc.fit (m : Mc) : Prop := m.mem.length ≤ most ∧ m.hands.length ≤ most ∧ (∀ x ∈ m.hands, x.fit) ∧ m.out.length ≤ most
end Go.T
namespace Go.T
open Go
set_option linter.unusedSimpArgs false
set_option linter.unusedVariables false
structure Tm where
  s : ByteArray
  n : Int
def Tm.cells (t : Tm) : List AV := [.str t.s, .int .i64 t.n]
def Tm.av (t : Tm) : AV := .agg t.cells
@[simp] theorem Tm.cells_len (e : Tm) : e.cells.length = 2 := rfl
@[simp] theorem Tm.take0 (e : Tm) : List.take 2 e.cells = e.cells := rfl
@[simp] theorem Tm.cells_ok (e : Tm) : e.cells.all okCell = true := rfl
def Tm.tot (t : Tm) : Nat := t.s.size
def Tm.fit (t : Tm) : Prop := t.s.size ≤ most
structure Af where
  c : Int
  t : List Tm
def tms (l : List Tm) : AV := .lst false 2 (l.map Tm.av)
def Af.cells (a : Af) : List AV := [.int .i64 a.c, tms a.t]
def Af.av (a : Af) : AV := .agg a.cells
@[simp] theorem Af.cells_len (e : Af) : e.cells.length = 2 := rfl
@[simp] theorem Af.take0 (e : Af) : List.take 2 e.cells = e.cells := rfl
@[simp] theorem Af.cells_ok (e : Af) : e.cells.all okCell = true := rfl
def Af.tot (a : Af) : Nat := totL Tm.tot a.t
def Af.fit (a : Af) : Prop := a.t.length ≤ most ∧ ∀ x ∈ a.t, x.fit
structure Rg where
  s : ByteArray
  lo : Int
  hi : Int
def Rg.cells (r : Rg) : List AV := [.str r.s, .int .i64 r.lo, .int .i64 r.hi]
def Rg.av (r : Rg) : AV := .agg r.cells
@[simp] theorem Rg.cells_len (e : Rg) : e.cells.length = 3 := rfl
@[simp] theorem Rg.take0 (e : Rg) : List.take 3 e.cells = e.cells := rfl
@[simp] theorem Rg.cells_ok (e : Rg) : e.cells.all okCell = true := rfl
def Rg.tot (r : Rg) : Nat := r.s.size
def Rg.fit (r : Rg) : Prop := r.s.size ≤ most
/-- A place's row of a right sum. -/
def rowOk (l : List Tm) (i : Nat) : Bool :=
  match l[i]? with
  | some t => nameOk t.s && (decide (t.n ≠ 0) && (inR t.n (-100000) 100000 && (match i with
    | 0 => true
    | k + 1 => match l[k]? with | some p => blt p.s t.s | none => true)))
  | none => true
def rowsOk (l : List Tm) (n : Nat) : Bool := (List.range n).all (rowOk l)
def Af.ok (a : Af) : Bool := rowsOk a.t a.t.length && inR a.c (-100000) 100000
def rest (l : List Tm) (s : ByteArray) : List Tm := l.filter fun t => decide (t.s ≠ s)
def rgAt (l : List Rg) (s : ByteArray) : Int := at_ (l.map Rg.s) s
def boxRow (l : List Rg) (i : Nat) : Bool :=
  match l[i]? with
  | some r => nameOk r.s && (inR r.lo (-10000) 10000 && (inR r.hi (-10000) 10000 && decide (rgAt l r.s = i)))
  | none => true
def boxRows (l : List Rg) (n : Nat) : Bool := (List.range n).all (boxRow l)
def boxOk (l : List Rg) : Bool := boxRows l l.length && decide (l.length ≤ 8)
def upOk (l : List Rg) : Bool := l.all fun r => decide (r.lo ≤ r.hi)
def full (l : List Rg) : Bool := upOk l && boxOk l
end Go.T
namespace Go.T
open Go
set_option linter.unusedSimpArgs false
set_option linter.unusedVariables false
/-- A token. -/
structure Tk where
  k : Int
  s : ByteArray
  n : Int
def Tk.cells (t : Tk) : List AV := [.int .i64 t.k, .str t.s, .int .i64 t.n]
def Tk.av (t : Tk) : AV := .agg t.cells
def figure (c : UInt8) : Bool := inR c.toNat 48 57
def marksL : List UInt8 := [59, 61, 91, 93, 40, 41, 123, 125, 43, 45, 42, 44]
/-- What figures come to. -/
def valD (l : List UInt8) : Nat := l.foldl (fun n c => n * 10 + (c.toNat - 48)) 0
def numD (l : List UInt8) : Option Int :=
  if l.length ≤ 10 ∧ l ≠ [] ∧ l.all figure = true ∧ (l.length = 1 ∨ l.head? ≠ some 48) ∧ valD l ≤ 2147483647 then some (valD l) else none
/-- The token that a text begins with, and what is behind it. -/
def tokD : List UInt8 → Option (Tk × List UInt8)
  | [] => none
  | c :: l =>
    if small c then
      if kept ⟨((c :: l).takeWhile small).toArray⟩ then some (⟨3, ⟨((c :: l).takeWhile small).toArray⟩, 0⟩, (c :: l).dropWhile small)
      else if nameOk ⟨((c :: l).takeWhile small).toArray⟩ then some (⟨1, ⟨((c :: l).takeWhile small).toArray⟩, 0⟩, (c :: l).dropWhile small) else none
    else if figure c then match numD ((c :: l).takeWhile figure) with
      | some n => if n ≤ 999999 then some (⟨2, ⟨#[]⟩, n⟩, (c :: l).dropWhile figure) else none
      | none => none
    else if marksL.contains c then some (⟨4, ⟨#[c]⟩, 0⟩, l) else none
def blank (c : UInt8) : Bool := decide (c = 32) || decide (c = 10)
/-- The tokens of a text, behind n that came; fuel: the text's length. -/
def lexD : Nat → Nat → List UInt8 → Option (List Tk)
  | _, _, [] => some []
  | 0, _, _ :: _ => none
  | k + 1, n, c :: l =>
    if blank c then lexD k n l
    else match tokD (c :: l) with
      | none => none
      | some (t, r) => if 600 ≤ n then none else (lexD k (n + 1) r).map (t :: ·)
def lex (s : ByteArray) : Option (List Tk) := if 3000 < s.size then none else lexD s.size 0 s.data.toList
theorem valD_snoc (l : List UInt8) (c : UInt8) : valD (l ++ [c]) = valD l * 10 + (c.toNat - 48) := by simp [valD]
theorem figure_le {c : UInt8} (h : figure c = true) : 48 ≤ c.toNat ∧ c.toNat ≤ 57 := by
  unfold figure inR at h
  simp at h
  omega
theorem ofNat_fig {c : UInt8} (h : figure c = true) : UInt8.ofNat (48 + (c.toNat - 48)) = c := by
  have := figure_le h
  rw [show 48 + (c.toNat - 48) = c.toNat by omega]
  simp
theorem snoc_ind {α : Type} {p : List α → Prop} (h0 : p []) (h1 : ∀ l x, p l → p (l ++ [x])) : ∀ l, p l := by
  intro l
  have : ∀ r : List α, p r.reverse := by
    intro r
    induction r with
    | nil => exact h0
    | cons x r ih => rw [List.reverse_cons]; exact h1 _ _ ih
  rw [← List.reverse_reverse l]
  exact this _
theorem valD_lt : ∀ l : List UInt8, l.all figure = true → valD l < 10 ^ l.length := by
  refine snoc_ind (by intro _; simp [valD]) fun l c ih h => ?_
  rw [List.all_append, Bool.and_eq_true] at h
  have h1 := ih h.1
  have h2 := figure_le (c := c) (by simpa using h.2)
  rw [valD_snoc, List.length_append, List.length_singleton, Nat.pow_succ]
  omega
theorem dec_head : ∀ u : Nat, u ≠ 0 → (Lib.decDigits u).head? ≠ some 48 := by
  intro u
  induction u using Nat.strongRecOn with
  | _ u ih =>
    intro hu
    rw [Lib.decDigits]
    split
    · rename_i h
      simp only [List.head?_cons, ne_eq, Option.some.injEq]
      intro e
      have := congrArg UInt8.toNat e
      simp at this
      omega
    · rename_i h
      have h1 := ih (u / 10) (by omega) (by omega)
      have hne : Lib.decDigits (u / 10) ≠ [] := by
        rw [Lib.decDigits]
        split <;> simp
      cases hd : Lib.decDigits (u / 10) with
      | nil => exact absurd hd hne
      | cons x l => rw [hd] at h1; simpa using h1
theorem dec_val : ∀ l : List UInt8, l ≠ [] → l.all figure = true → l.head? ≠ some 48 → Lib.decDigits (valD l) = l := by
  refine snoc_ind (fun h => absurd rfl h) fun l c ih _ h hh => ?_
  rw [List.all_append, Bool.and_eq_true] at h
  have hc : figure c = true := by simpa using h.2
  have hc2 := figure_le hc
  rw [valD_snoc]
  cases l with
  | nil =>
    rw [Lib.decDigits, dif_pos (by simp [valD]; omega)]
    simp only [valD, List.foldl_nil, Nat.zero_mul, Nat.zero_add, List.nil_append]
    rw [ofNat_fig hc]
  | cons x l =>
    have hx : (x :: l).head? ≠ some 48 := by simpa using hh
    have h1 := ih (by simp) h.1 hx
    have h0 : valD (x :: l) ≠ 0 := by
      intro e
      rw [e, Lib.decDigits, dif_pos (by omega)] at h1
      have e2 := (List.cons.inj h1).1
      exact hx (by rw [List.head?_cons, ← e2]; rfl)
    rw [Lib.decDigits, dif_neg (by omega)]
    rw [show (valD (x :: l) * 10 + (c.toNat - 48)) / 10 = valD (x :: l) by omega, show (valD (x :: l) * 10 + (c.toNat - 48)) % 10 = c.toNat - 48 by omega, h1, ofNat_fig hc]
theorem dec_iff {l : List UInt8} (h0 : l ≠ []) (h : l.all figure = true) : Lib.decDigits (valD l) = l ↔ (l.length = 1 ∨ l.head? ≠ some 48) := by
  constructor
  · intro e
    by_cases hh : l.head? = some 48
    · left
      by_cases hv : valD l = 0
      · rw [hv, Lib.decDigits, dif_pos (by omega)] at e
        rw [← e]; rfl
      · exact absurd (by rw [e]; exact hh) (dec_head _ hv)
    · exact .inr hh
  · intro hd
    by_cases hh : l.head? = some 48
    · have hl : l.length = 1 := hd.resolve_right (fun h => h hh)
      match l, hl with
      | [c], _ =>
        have : c = 48 := by simpa using hh
        subst this
        rw [show valD [48] = 0 from rfl, Lib.decDigits, dif_pos (by omega)]
        rfl
    · exact dec_val l h0 h hh
theorem numB_iff {l : List UInt8} (h0 : l ≠ []) (h : l.all figure = true) : numB (valD l) = ⟨l.toArray⟩ ↔ (l.length = 1 ∨ l.head? ≠ some 48) := by
  rw [← dec_iff h0 h]
  unfold numB Lib.itoa
  rw [if_neg (by omega)]
  simp
theorem extract_list (s : ByteArray) (a b : Nat) : s.extract a b = ⟨((s.data.toList.take b).drop a).toArray⟩ := by
  apply ByteArray.ext
  rw [ByteArray.data_extract]
  apply Array.ext'
  simp [List.extract_eq_take_drop, List.drop_take]
theorem list_mk (l : List UInt8) : (⟨l.toArray⟩ : ByteArray).data.toList = l := by simp
theorem takeW_append {α : Type} (p : α → Bool) : ∀ (l : List α) (i : Nat), (∀ x ∈ l.take i, p x = true) → l.takeWhile p = l.take i ++ (l.drop i).takeWhile p
  | [], i, _ => by simp
  | x :: l, 0, _ => by simp
  | x :: l, i + 1, h => by
    have h1 : p x = true := h x (by simp)
    have h2 := takeW_append p l i fun y hy => h y (by simp [hy])
    simp [List.takeWhile_cons, h1, h2]
theorem dropW_drop {α : Type} (p : α → Bool) : ∀ l : List α, l.dropWhile p = l.drop (l.takeWhile p).length
  | [] => rfl
  | x :: l => by
    by_cases h : p x = true
    · simp [List.dropWhile_cons, List.takeWhile_cons, h, dropW_drop p l]
    · simp [List.dropWhile_cons, List.takeWhile_cons, h]
theorem takeW_take {α : Type} (p : α → Bool) : ∀ l : List α, l.take (l.takeWhile p).length = l.takeWhile p
  | [] => rfl
  | x :: l => by
    by_cases h : p x = true
    · simp [List.takeWhile_cons, h, takeW_take p l]
    · simp [List.takeWhile_cons, h]
theorem idxB_ge : ∀ (l : List UInt8) (c : UInt8), -1 ≤ Lib.indexByte l c
  | [], c => by show (-1 : Int) ≤ -1; omega
  | b :: l, c => by
    have ih := idxB_ge l c
    have e : Lib.indexByte (b :: l) c = if b == c then 0 else if Lib.indexByte l c == -1 then -1 else Lib.indexByte l c + 1 := rfl
    rw [e]
    split
    · omega
    · split
      · omega
      · omega
theorem marks_has : ∀ (l : List UInt8) (c : UInt8), decide (0 ≤ Lib.indexByte l c) = l.contains c
  | [], c => rfl
  | b :: l, c => by
    have ih := marks_has l c
    have hge := idxB_ge l c
    have e : Lib.indexByte (b :: l) c = if b == c then 0 else if Lib.indexByte l c == -1 then -1 else Lib.indexByte l c + 1 := rfl
    rw [List.contains_cons, ← ih, e]
    by_cases hb : b = c
    · subst hb; simp
    · have hb2 : (b == c) = false := by simpa using hb
      have hb3 : (c == b) = false := by simpa using Ne.symm hb
      rw [hb2, hb3, Bool.false_or]
      simp only [Bool.false_eq_true, if_false]
      split
      · rename_i h
        have h : Lib.indexByte l c = -1 := by simpa using h
        rw [h]
      · rename_i h
        have h : Lib.indexByte l c ≠ -1 := by simpa using h
        simp only [decide_eq_decide]
        omega
end Go.T
namespace Go.T
open Go
set_option linter.unusedSimpArgs false
set_option linter.unusedVariables false
def Tk.is (t : Tk) (k : Int) (s : ByteArray) : Bool := decide (t.k = k) && decide (t.s = s)
def ch (c : UInt8) : ByteArray := ⟨#[c]⟩
/-- A sign is taken. -/
def tkS (k : Int) (s : ByteArray) : List Tk → Option (List Tk)
  | [] => none
  | t :: r => if t.is k s then some r else none
abbrev PE := List Tk → Option (Ex × List Tk)
def two (k : Int) (a b : Ex) : Ex := .mk k 0 ⟨#[]⟩ [a, b]
def minB : ByteArray := ⟨#[109, 105, 110]⟩
def maxB : ByteArray := ⟨#[109, 97, 120]⟩
/-- Two in brackets. -/
def pairP (sub : PE) (k : Int) : PE := fun ts =>
  (tkS 4 (ch 40) ts).bind fun t1 => (sub t1).bind fun (a, t2) => (tkS 4 (ch 44) t2).bind fun t3 => (sub t3).bind fun (b, t4) => (tkS 4 (ch 41) t4).bind fun t5 => some (two k a b, t5)
def atomP (sub : PE) : PE
  | [] => none
  | t :: r =>
    if t.k = 2 then some (.mk 1 t.n ⟨#[]⟩ [], r)
    else if t.k = 1 then match tkS 4 (ch 91) r with
      | none => some (.mk 2 0 t.s [], r)
      | some r1 => (sub r1).bind fun (e, r2) => (tkS 4 (ch 93) r2).bind fun r3 => some (.mk 3 0 t.s [e], r3)
    else if t.is 4 (ch 40) then (sub r).bind fun (e, r1) => (tkS 4 (ch 41) r1).bind fun r2 => some (e, r2)
    else if t.is 3 minB then pairP sub 7 r
    else if t.is 3 maxB then pairP sub 8 r
    else none
def mulsP (sub : PE) : Nat → Ex → PE
  | 0, e, ts => some (e, ts)
  | k + 1, e, ts => match tkS 4 (ch 42) ts with
    | none => some (e, ts)
    | some r => (atomP sub r).bind fun (x, r1) => mulsP sub k (two 6 e x) r1
def mulP (sub : PE) : PE := fun ts => (atomP sub ts).bind fun (e, r) => mulsP sub r.length e r
def addsP (sub : PE) : Nat → Ex → PE
  | 0, e, ts => some (e, ts)
  | k + 1, e, ts => match tkS 4 (ch 43) ts with
    | some r => (mulP sub r).bind fun (x, r1) => addsP sub k (two 4 e x) r1
    | none => match tkS 4 (ch 45) ts with
      | some r => (mulP sub r).bind fun (x, r1) => addsP sub k (two 5 e x) r1
      | none => some (e, ts)
/-- A sum, so many deep at most. -/
def sumP : Nat → PE
  | 0 => fun _ => none
  | d + 1 => fun ts => (mulP (sumP d) ts).bind fun (e, r) => addsP (sumP d) r.length e r
/-- An expression of a text. -/
def parseE (s : ByteArray) : Option Ex := match lex s with
  | none => none
  | some ts => match sumP 30 ts with
    | some (e, []) => if e.ok = true then some e else none
    | _ => none
end Go.T
namespace Go.T
open Go
set_option linter.unusedSimpArgs false
set_option linter.unusedVariables false
def sumN : List Ar → Int
  | [] => 0
  | a :: l => a.n + sumN l
theorem sumN_le : ∀ l : List Ar, (∀ a ∈ l, inR a.n 1 16 = true) → 0 ≤ sumN l ∧ sumN l ≤ 16 * l.length
  | [], _ => by simp [sumN]
  | a :: l, h => by
    have h1 := h a (List.mem_cons_self ..)
    have h2 := sumN_le l fun x hx => h x (List.mem_cons_of_mem _ hx)
    unfold inR at h1
    simp at h1
    simp only [sumN, List.length_cons]
    omega
theorem arrs_in : ∀ (A : List Ar) (pr : Option ByteArray), arrsFrom pr A = true → ∀ a ∈ A, inR a.n 1 16 = true
  | [], _, _, a, h => by cases h
  | x :: l, pr, h, a, ha => by
    have h' : (nameOk x.s && (inR x.n 1 16 && (pr.elim true (fun q => blt q x.s) && arrsFrom (some x.s) l))) = true := by cases pr <;> exact h
    simp only [Bool.and_eq_true] at h'
    rcases List.mem_cons.1 ha with rfl | ha
    · exact h'.2.1
    · exact arrs_in l _ h'.2.2.2 a ha
structure Pg.Fine (p : Pg) : Prop where
  arrs : p.arrs.length ≤ 4
  sizes : ∀ a ∈ p.arrs, inR a.n 1 16 = true
  vars : p.vars.length ≤ 6
  body : p.body.length ≤ 12
theorem Pg.fine {p : Pg} (h : p.ok = true) : p.Fine := by
  unfold Pg.ok Pg.head Pg.namesB at h
  simp only [Bool.and_eq_true, decide_eq_true_eq] at h
  obtain ⟨⟨h1, h2, h3, h4⟩, h5⟩ := h
  exact ⟨h2, arrs_in _ _ h1, h5.2.2.2.2.2.2.2, h3⟩
def Pg.size (p : Pg) : Int := sumN p.arrs
theorem Pg.Fine.take {p : Pg} (h : p.Fine) (k : Nat) : 0 ≤ sumN (p.arrs.take k) ∧ sumN (p.arrs.take k) ≤ 64 := by
  have h1 := sumN_le (p.arrs.take k) fun a ha => h.sizes a (List.mem_of_mem_take ha)
  have h2 : (p.arrs.take k).length ≤ 4 := by rw [List.length_take]; have := h.arrs; omega
  omega
theorem Pg.Fine.size {p : Pg} (h : p.Fine) : 0 ≤ p.size ∧ p.size ≤ 64 := by
  have := h.take p.arrs.length
  rwa [List.take_length] at this
def Pg.regs (p : Pg) : List ByteArray := nameSet (p.loops ++ p.vars)
/-- Where words begin that are no array's; -1: it is no program. -/
def Pg.v0 (p : Pg) : Int := if p.ok = true then p.size else -1
end Go.T
namespace Go.T
open Go
set_option linter.unusedSimpArgs false
set_option linter.unusedVariables false
mutual
/-- A tree that may be written: its blocks, the value, what it looks like. -/
inductive OwnT (m : Mem) : (Nat → Prop) → AV → AV → Prop
  | int {F : Nat → Prop} (k : IntKind) (n : Int) : OwnT m F (.int k n) (.int k n)
  | bool {F : Nat → Prop} (b : Bool) : OwnT m F (.bool b) (.bool b)
  | str {F : Nat → Prop} (s : ByteArray) : OwnT m F (.str s) (.str s)
  | nil {F : Nat → Prop} (f : Bool) (e e' : Nat) : OwnT m F (.lst f e []) (.lst false e' [])
  | own {F G : Nat → Prop} {g n c e : Nat} {T : TypeId} {ys xs : List AV} : m g = some (.arr T e c ys) → ys.length = n → OwnTs m G ys xs → ¬ G g → (∀ b, G b → F b) → F g → OwnT m F (.own g n c) (.lst false e xs)
  | agg {F : Nat → Prop} {as xs : List AV} : OwnTs m F as xs → as.all okCell = true → OwnT m F (.agg as) (.agg xs)
inductive OwnTs (m : Mem) : (Nat → Prop) → List AV → List AV → Prop
  | nil {F : Nat → Prop} : OwnTs m F [] []
  | cons {F A B : Nat → Prop} {a x : AV} {as xs : List AV} : OwnT m A a x → OwnTs m B as xs → (∀ g, A g → ¬ B g) → (∀ g, A g → F g) → (∀ g, B g → F g) → OwnTs m F (a :: as) (x :: xs)
end
mutual
theorem OwnT.len {m : Mem} {F : Nat → Prop} {a x : AV} : OwnT m F a x → a.cells.length = x.cells.length
  | .int _ _ => rfl
  | .bool _ => rfl
  | .str _ => rfl
  | .nil _ _ _ => rfl
  | .own _ _ _ _ _ _ => rfl
  | .agg h _ => OwnTs.len h
theorem OwnTs.len {m : Mem} {F : Nat → Prop} {as xs : List AV} : OwnTs m F as xs → as.length = xs.length
  | .nil => rfl
  | .cons _ h _ _ _ => by simp [OwnTs.len h]
end
theorem OwnTs.size {m : Mem} {F : Nat → Prop} {as xs : List AV} {e : Nat} (h : OwnTs m F as xs) (he : ∀ a ∈ as, a.cells.length = e) : ∀ x ∈ xs, x.cells.length = e := by
  induction as generalizing F xs with
  | nil => cases h; exact fun x hx => by cases hx
  | cons a as ih =>
    cases h with | cons h1 h2 _ _ _ =>
    intro x hx
    rcases List.mem_cons.1 hx with rfl | hx
    · rw [← h1.len]; exact he _ (List.mem_cons_self ..)
    · exact ih h2 (fun y hy => he y (List.mem_cons_of_mem _ hy)) x hx
mutual
theorem OwnT.up {m : Mem} {F F' : Nat → Prop} {a x : AV} (hF : ∀ g, F g → F' g) : OwnT m F a x → OwnT m F' a x
  | .int k n => .int k n
  | .bool b => .bool b
  | .str s => .str s
  | .nil f e e' => .nil f e e'
  | .own h1 h2 h3 h4 h5 h6 => .own h1 h2 h3 h4 (fun b hb => hF b (h5 b hb)) (hF _ h6)
  | .agg h k => .agg (OwnTs.up hF h) k
theorem OwnTs.up {m : Mem} {F F' : Nat → Prop} {as xs : List AV} (hF : ∀ g, F g → F' g) : OwnTs m F as xs → OwnTs m F' as xs
  | .nil => .nil
  | .cons h1 h2 h3 h4 h5 => .cons h1 h2 h3 (fun g hg => hF g (h4 g hg)) (fun g hg => hF g (h5 g hg))
end
mutual
/-- The same under a memory that has the same blocks there. -/
theorem OwnT.mem {m m' : Mem} {F : Nat → Prop} {a x : AV} (hm : ∀ g, F g → m' g = m g) : OwnT m F a x → OwnT m' F a x
  | .int k n => .int k n
  | .bool b => .bool b
  | .str s => .str s
  | .nil f e e' => .nil f e e'
  | .own h1 h2 h3 h4 h5 h6 => .own ((hm _ h6).trans h1) h2 (OwnTs.mem (fun b hb => hm b (h5 b hb)) h3) h4 h5 h6
  | .agg h k => .agg (OwnTs.mem hm h) k
theorem OwnTs.mem {m m' : Mem} {F : Nat → Prop} {as xs : List AV} (hm : ∀ g, F g → m' g = m g) : OwnTs m F as xs → OwnTs m' F as xs
  | .nil => .nil
  | .cons h1 h2 h3 h4 h5 => .cons (OwnT.mem (fun g hg => hm g (h4 g hg)) h1) (OwnTs.mem (fun g hg => hm g (h5 g hg)) h2) h3 h4 h5
end
mutual
/-- A tree has a footprint of blocks that are there. -/
theorem OwnT.dom {m : Mem} {F : Nat → Prop} {a x : AV} : OwnT m F a x → ∃ G : Nat → Prop, OwnT m G a x ∧ (∀ g, G g → F g) ∧ ∀ g, G g → m g ≠ none
  | .int k n => ⟨fun _ => False, .int k n, fun _ h => h.elim, fun _ h => h.elim⟩
  | .bool b => ⟨fun _ => False, .bool b, fun _ h => h.elim, fun _ h => h.elim⟩
  | .str s => ⟨fun _ => False, .str s, fun _ h => h.elim, fun _ h => h.elim⟩
  | .nil f e e' => ⟨fun _ => False, .nil f e e', fun _ h => h.elim, fun _ h => h.elim⟩
  | @OwnT.own _ _ G g n c e T ys xs h1 h2 h3 h4 h5 h6 =>
    let ⟨G', k1, k2, k3⟩ := OwnTs.dom h3
    ⟨fun b => G' b ∨ b = g, .own h1 h2 k1 (fun h => h4 (k2 _ h)) (fun b hb => .inl hb) (.inr rfl), fun b hb => hb.elim (fun h => h5 b (k2 b h)) (fun h => h ▸ h6), fun b hb => hb.elim (k3 b) (fun h => by rw [h, h1]; simp)⟩
  | .agg h k => let ⟨G', k1, k2, k3⟩ := OwnTs.dom h; ⟨G', .agg k1 k, k2, k3⟩
theorem OwnTs.dom {m : Mem} {F : Nat → Prop} {as xs : List AV} : OwnTs m F as xs → ∃ G : Nat → Prop, OwnTs m G as xs ∧ (∀ g, G g → F g) ∧ ∀ g, G g → m g ≠ none
  | .nil => ⟨fun _ => False, .nil, fun _ h => h.elim, fun _ h => h.elim⟩
  | .cons h1 h2 h3 h4 h5 =>
    let ⟨A, a1, a2, a3⟩ := OwnT.dom h1
    let ⟨B, b1, b2, b3⟩ := OwnTs.dom h2
    ⟨fun g => A g ∨ B g, .cons a1 b1 (fun g hA hB => h3 g (a2 g hA) (b2 g hB)) (fun g h => .inl h) (fun g h => .inr h), fun g h => h.elim (fun h => h4 g (a2 g h)) (fun h => h5 g (b2 g h)), fun g h => h.elim (a3 g) (b3 g)⟩
end
section
variable {w : World} {S G : Nat → Prop} {m : Mem}
mutual
/-- Read as what it looks like, its blocks not being written. -/
theorem OwnT.rep (hm : MemRep w S m) {F : Nat → Prop} (hG : ∀ g, F g → G g) {a x : AV} : OwnT m F a x → (∀ v, Rep w S a v → Rep w (fun b => S b ∨ G b) x v) ∧ (∀ vs, Reps w S a.cells vs → Reps w (fun b => S b ∨ G b) x.cells vs)
  | .int k n => ⟨fun v h => h.mono (fun _ _ => rfl) (fun _ h => .inl h), fun vs h => h.mono (fun _ _ => rfl) (fun _ h => .inl h)⟩
  | .bool b => ⟨fun v h => h.mono (fun _ _ => rfl) (fun _ h => .inl h), fun vs h => h.mono (fun _ _ => rfl) (fun _ h => .inl h)⟩
  | .str s => ⟨fun v h => h.mono (fun _ _ => rfl) (fun _ h => .inl h), fun vs h => h.mono (fun _ _ => rfl) (fun _ h => .inl h)⟩
  | .nil f e e' => by
    have key : ∀ v, Rep w S (.lst f e []) v → Rep w (fun b => S b ∨ G b) (.lst false e' []) v := fun v h => by
      cases h with
      | lnil _ _ A c hc => exact .lnil _ _ A c (fun h => by cases h)
      | lst _ _ b o c h1 h2 h3 h4 h5 => exact .lnil _ _ _ c (fun h => by cases h)
    exact ⟨key, fun vs h => by
      cases h with | cons h1 h2 => cases h2; exact .cons (key _ h1) .nil⟩
  | @OwnT.own _ _ G' g n c e T ys xs h1 h2 h3 h4 h5 h6 => by
    have key : ∀ v, Rep w S (.own g n c) v → Rep w (fun b => S b ∨ G b) (.lst false e xs) v := fun v h => by
      obtain ⟨vs, us, hb, hr, hl, he, hle⟩ := hm.blk g _ h1
      have hf := (OwnTs.rep hm (fun b hb => hG b (h5 b hb)) h3).2 vs hr
      cases h
      have hn : n = xs.length := h2.symm.trans h3.len
      subst hn
      exact .lst false e g 0 c (.inr (hG g h6)) (h3.size he) (by rw [← h3.len]; exact hle) (fun h => by cases h) (Cells.of_block hb hf 0 (fun i v hv => by
        have : i < vs.length := (List.getElem?_eq_some_iff.1 hv).1
        simp [List.getElem?_append_left this, hv]))
    exact ⟨key, fun vs h => by
      cases h with | cons h1 h2 => cases h2; exact .cons (key _ h1) .nil⟩
  | .agg h _ => ⟨fun v hv => by cases hv with | agg hr => exact .agg ((OwnTs.rep hm hG h).1 _ hr), fun vs hr => (OwnTs.rep hm hG h).1 vs hr⟩
theorem OwnTs.rep (hm : MemRep w S m) {F : Nat → Prop} (hG : ∀ g, F g → G g) {as xs : List AV} : OwnTs m F as xs → (∀ vs, Reps w S as vs → Reps w (fun b => S b ∨ G b) xs vs) ∧ (∀ vs, Reps w S (flat as) vs → Reps w (fun b => S b ∨ G b) (flat xs) vs)
  | .nil => ⟨fun vs h => by cases h; exact .nil, fun vs h => by cases h; exact .nil⟩
  | .cons h1 h2 _ h4 h5 => by
    have r1 := OwnT.rep hm (fun g hg => hG g (h4 g hg)) h1
    have r2 := OwnTs.rep hm (fun g hg => hG g (h5 g hg)) h2
    refine ⟨fun vs h => by cases h with | cons k1 k2 => exact .cons (r1.1 _ k1) (r2.1 _ k2), fun vs h => ?_⟩
    simp only [flat, List.flatMap_cons] at h ⊢
    obtain ⟨us, ws, rfl, k1, k2⟩ := h.split
    exact (r1.2 _ k1).append (r2.2 _ k2)
end
end
open Classical in
/-- The memory without some blocks. -/
noncomputable def Mem.without (m : Mem) (F : Nat → Prop) : Mem := fun g => if F g then none else m g
theorem memRep_without {w : World} {S F : Nat → Prop} {m : Mem} (hm : MemRep w S m) (hF : ∀ g, F g → m g ≠ none) : MemRep w (fun b => S b ∨ F b) (m.without F) := by
  refine ⟨fun g b hg => ?_, fun b hb => ?_⟩
  · unfold Mem.without at hg
    split at hg
    · cases hg
    · exact (hm.blk g b hg).mono (fun _ _ => rfl) (fun _ h => .inl h) rfl
  · unfold Mem.without
    rcases hb with hb | hb
    · refine ⟨?_, (hm.apart b hb).2⟩
      split
      · rfl
      · exact (hm.apart b hb).1
    · refine ⟨if_pos hb, ?_⟩
      cases hq : m b with
      | none => exact absurd hq (hF b hb)
      | some x => exact (hm.blk b x hq).lt
theorem OwnT.view {m : Mem} {F : Nat → Prop} {a x : AV} (h : OwnT m F a x) : ∃ m', View m a m' x ∧ ∀ g, ¬ F g → m' g = m g := by
  obtain ⟨G, h1, h2, h3⟩ := h.dom
  refine ⟨m.without G, fun w S v hm hv => ⟨fun b => S b ∨ G b, fun _ h => .inl h, fun b hb => hb.imp id (h3 b), memRep_without hm h3, (h1.rep hm (fun _ h => h)).1 v hv, fun g b hg => ?_⟩, fun g hg => if_neg fun h => hg (h2 g h)⟩
  unfold Mem.without at hg
  split at hg
  · cases hg
  · rw [hg]; simp
/-- Arguments seen as others, some blocks not being written. -/
def Lent (m : Mem) (F : Nat → Prop) (as xs : List AV) : Prop := (∀ g, F g → m g ≠ none) ∧ ∀ w S vs, MemRep w S m → Reps w S as vs → Reps w (fun b => S b ∨ F b) xs vs
theorem Lent.nil (m : Mem) : Lent m (fun _ => False) [] [] := ⟨fun _ h => h.elim, fun w S vs _ h => by cases h; exact .nil⟩
theorem Lent.same {m : Mem} {F : Nat → Prop} {as xs : List AV} (h : Lent m F as xs) (a : AV) : Lent m F (a :: as) (a :: xs) :=
  ⟨h.1, fun w S vs hm hr => by cases hr with | cons k1 k2 => exact .cons (k1.mono (fun _ _ => rfl) (fun _ h => .inl h)) (h.2 w S _ hm k2)⟩
theorem Lent.own {m : Mem} {F A : Nat → Prop} {as xs : List AV} (h : Lent m F as xs) {a x : AV} (ha : OwnT m A a x) : ∃ F', Lent m F' (a :: as) (x :: xs) := by
  obtain ⟨G, h1, h2, h3⟩ := ha.dom
  refine ⟨fun b => F b ∨ G b, fun g hg => hg.elim (h.1 g) (h3 g), fun w S vs hm hr => ?_⟩
  cases hr with | cons k1 k2 =>
  exact .cons (((h1.rep hm (G := fun b => F b ∨ G b) (fun _ h => .inr h)).1 _ k1)) ((h.2 w S _ hm k2).mono (fun _ _ => rfl) (fun b hb => hb.imp id .inl))
theorem Lent.all {m : Mem} (as : List AV) : Lent m (fun _ => False) as as := by
  induction as with
  | nil => exact .nil m
  | cons a as ih => exact ih.same a
/-- What tells nothing of blocks that are not written. -/
def solidC : AV → Bool
  | .int .. | .bool _ | .str _ | .nilp | .ptr .. | .own .. | .elt .. | .lst _ _ [] => true
  | _ => false
def solid : AV → Bool
  | .agg cs => cs.all solidC
  | .tup cs => cs.all solidC
  | a => solidC a
theorem solidC_rep {w w' : World} {S S' : Nat → Prop} {a : AV} {v : Value} (ha : solidC a = true) (h : Rep w S a v) : Rep w' S' a v := by
  cases h <;> first | exact .int _ _ | exact .bool _ | exact .str _ | exact .nilp | exact .ptr _ _ | exact .own _ _ _ | exact .elt _ _ _ _ | exact .lnil _ _ _ _ ‹_› | (cases ha; done) | skip
  rename_i f xs e b o c h1 h2 h3 h4 h5
  cases xs with
  | nil => exact .lnil _ _ _ _ h4
  | cons x xs => cases ha
theorem solidC_reps {w w' : World} {S S' : Nat → Prop} {as : List AV} {vs : List Value} (ha : as.all solidC = true) (h : Reps w S as vs) : Reps w' S' as vs := by
  induction as generalizing vs with
  | nil => cases h; exact .nil
  | cons a as ih =>
    cases h with | cons h t =>
    rw [List.all_cons, Bool.and_eq_true] at ha
    exact .cons (solidC_rep ha.1 h) (ih ha.2 t)
theorem solid_rep {w w' : World} {S S' : Nat → Prop} {a : AV} {v : Value} (ha : solid a = true) (h : Rep w S a v) : Rep w' S' a v := by
  cases a with
  | agg cs => cases h with | agg hr => exact .agg (solidC_reps ha hr)
  | tup cs => cases h with | tup hr => exact .tup (solidC_reps ha hr)
  | _ => exact solidC_rep ha h
def solidB : Blk → Prop
  | .box cs => cs.all solidC = true
  | .arr _ _ _ xs => (flat xs).all solidC = true
theorem solidB_rep {w w' : World} {S S' : Nat → Prop} {g : Nat} {b : Blk} (hb : solidB b) (hg : w'.heap[g]? = w.heap[g]?) (h : BlkRep w S g b) : BlkRep w' S' g b := by
  cases b with
  | box cs => obtain ⟨T, vs, h1, h2⟩ := h; exact ⟨T, vs, hg.trans h1, solidC_reps hb h2⟩
  | arr T e c xs => obtain ⟨vs, us, h1, h2, h3⟩ := h; exact ⟨vs, us, hg.trans h1, solidC_reps hb h2, h3⟩
theorem OwnT.solidc {m : Mem} {F : Nat → Prop} {a x : AV} (h : OwnT m F a x) (ha : okCell a = true) : solidC a = true := by
  cases h <;> first | rfl | cases ha
theorem OwnTs.solidc {m : Mem} {F : Nat → Prop} {as xs : List AV} (h : OwnTs m F as xs) (ha : as.all okCell = true) : as.all solidC = true := by
  induction as generalizing F xs with
  | nil => rfl
  | cons a as ih =>
    cases h with | cons h1 h2 _ _ _ =>
    rw [List.all_cons, Bool.and_eq_true] at ha ⊢
    exact ⟨h1.solidc ha.1, ih h2 ha.2⟩
theorem OwnT.cells_solid {m : Mem} {F : Nat → Prop} {a x : AV} (h : OwnT m F a x) : a.cells.all solidC = true := by
  cases h with
  | agg h k => exact h.solidc k
  | _ => rfl
theorem OwnT.solid {m : Mem} {F : Nat → Prop} {a x : AV} (h : OwnT m F a x) : solid a = true := by
  cases h with
  | agg h k => exact h.solidc k
  | _ => rfl
theorem OwnTs.flat_solid {m : Mem} {F : Nat → Prop} {as xs : List AV} (h : OwnTs m F as xs) : (flat as).all solidC = true := by
  induction as generalizing F xs with
  | nil => rfl
  | cons a as ih =>
    cases h with | cons h1 h2 _ _ _ =>
    simp only [flat, List.flatMap_cons, List.all_append, Bool.and_eq_true]
    exact ⟨h1.cells_solid, ih h2⟩
mutual
theorem OwnT.doms {m : Mem} {F : Nat → Prop} {a x : AV} : OwnT m F a x → ∃ G : Nat → Prop, OwnT m G a x ∧ (∀ g, G g → F g) ∧ ∀ g, G g → ∃ b, m g = some b ∧ solidB b
  | .int k n => ⟨fun _ => False, .int k n, fun _ h => h.elim, fun _ h => h.elim⟩
  | .bool b => ⟨fun _ => False, .bool b, fun _ h => h.elim, fun _ h => h.elim⟩
  | .str s => ⟨fun _ => False, .str s, fun _ h => h.elim, fun _ h => h.elim⟩
  | .nil f e e' => ⟨fun _ => False, .nil f e e', fun _ h => h.elim, fun _ h => h.elim⟩
  | @OwnT.own _ _ G g n c e T ys xs h1 h2 h3 h4 h5 h6 =>
    let ⟨G', k1, k2, k3⟩ := OwnTs.doms h3
    ⟨fun b => G' b ∨ b = g, .own h1 h2 k1 (fun h => h4 (k2 _ h)) (fun b hb => .inl hb) (.inr rfl), fun b hb => hb.elim (fun h => h5 b (k2 b h)) (fun h => h ▸ h6), fun b hb => hb.elim (k3 b) (fun h => ⟨.arr T e c ys, h ▸ h1, h3.flat_solid⟩)⟩
  | .agg h k => let ⟨G', k1, k2, k3⟩ := OwnTs.doms h; ⟨G', .agg k1 k, k2, k3⟩
theorem OwnTs.doms {m : Mem} {F : Nat → Prop} {as xs : List AV} : OwnTs m F as xs → ∃ G : Nat → Prop, OwnTs m G as xs ∧ (∀ g, G g → F g) ∧ ∀ g, G g → ∃ b, m g = some b ∧ solidB b
  | .nil => ⟨fun _ => False, .nil, fun _ h => h.elim, fun _ h => h.elim⟩
  | .cons h1 h2 h3 h4 h5 =>
    let ⟨A, a1, a2, a3⟩ := OwnT.doms h1
    let ⟨B, b1, b2, b3⟩ := OwnTs.doms h2
    ⟨fun g => A g ∨ B g, .cons a1 b1 (fun g hA hB => h3 g (a2 g hA) (b2 g hB)) (fun g h => .inl h) (fun g h => .inr h), fun g h => h.elim (fun h => h4 g (a2 g h)) (fun h => h5 g (b2 g h)), fun g h => h.elim (a3 g) (b3 g)⟩
end
def Mem.join (m m1 : Mem) : Mem := fun g => match m g with | some b => some b | none => m1 g
theorem join_ext (m m1 : Mem) : Ext m (m.join m1) := fun g b h => by unfold Mem.join; rw [h]
/-- A call that only answers, of what is lent to it. -/
theorem PCall.lend {P : Program} {n : FuncId} {args args' : List AV} {r : AV} {m : Mem} {F : Nat → Prop} (h : PCall P n args' r) (hl : Lent m F args args') (hr : solid r = true) {K : AV → Mem → Prop} (hK : K r m) : WCall P n args m K := by
  refine ⟨h.1, fun w S cargs hm ha => calls_mono (h.2 w _ cargs _ (memRep_without hm hl.1) (hl.2 w S cargs hm ha)) ?_⟩
  rintro e w' ⟨v, S', he, h1, h2, h3, h4, h5⟩
  refine ⟨v, r, m, S, he, hK, fun _ h => h, fun _ h => .inl h, ⟨fun g b hg => ?_, fun b hb => ⟨(hm.apart b hb).1, Nat.lt_of_lt_of_le (hm.apart b hb).2 h5.size⟩⟩, solid_rep hr h4, h5.mono (fun _ h => h.elim), fun g b hg => .inl (by rw [hg]; simp)⟩
  exact (hm.blk g b hg).mono (fun b' hb' => h5.block b' (hm.apart b' hb').2 id) (fun _ h => h) (h5.block g (hm.blk g b hg).lt id)
/-- A call whose answer is its own: what it looks like. -/
def OwnR (x : AV) (r : AV) (m : Mem) : Prop := ∃ F : Nat → Prop, OwnT m F r x ∧ solid r = true ∧ ∀ g b, m g = some b → solidB b
def OCall (P : Program) (n : FuncId) (args : List AV) (x : AV) : Prop := WCall P n args (fun _ => none) (OwnR x)
theorem WCall.lend {P : Program} {n : FuncId} {args args' : List AV} {m : Mem} {F : Nat → Prop} {Q K : AV → Mem → Prop} (h : WCall P n args' (fun _ => none) Q) (hl : Lent m F args args')
    (hQ : ∀ r m1, Q r m1 → (∀ g, m1 g ≠ none → m g = none) → solid r = true ∧ (∀ g b, m1 g = some b → solidB b) ∧ K r (m.join m1)) : WCall P n args m K := by
  have hm0 : ∀ {w S}, MemRep w S m → MemRep w (fun b => S b ∨ F b) (fun _ => none) := fun hm => ⟨fun g b h => (by cases h), fun b hb => ⟨rfl, ((memRep_without hm hl.1).apart b hb).2⟩⟩
  refine ⟨h.1, fun w S cargs hm ha => calls_mono (h.2 w _ cargs (hm0 hm) (hl.2 w S cargs hm ha)) ?_⟩
  rintro e w' ⟨v, r, m1, S', he, hq, h1, h2, h3, h4, h5, h6⟩
  have hk : Keep (fun _ => False) w w' := h5.mono (fun b h => absurd rfl h)
  have hnew : ∀ g, m1 g ≠ none → w.heap.size ≤ g := fun g hg => by
    cases hq : m1 g with
    | none => exact absurd hq hg
    | some b => exact (h6 g b hq).elim (fun h => absurd rfl h) id
  have hfree : ∀ g, m1 g ≠ none → m g = none := fun g hg => by
    cases hq : m g with
    | none => rfl
    | some b => have := (hm.blk g b hq).lt; have := hnew g hg; omega
  obtain ⟨s1, s2, hK⟩ := hQ r m1 hq hfree
  refine ⟨v, r, m.join m1, S, he, hK, fun _ h => h, fun _ h => .inl h, ⟨fun g b hg => ?_, fun b hb => ⟨?_, Nat.lt_of_lt_of_le (hm.apart b hb).2 hk.size⟩⟩, solid_rep s1 h4, hk.mono (fun _ h => h.elim), fun g b hg => ?_⟩
  · unfold Mem.join at hg
    cases hq : m g with
    | some b' =>
      rw [hq] at hg
      obtain rfl := Option.some.inj hg
      exact (hm.blk g _ hq).mono (fun b' hb' => hk.block b' (hm.apart b' hb').2 id) (fun _ h => h) (hk.block g (hm.blk g _ hq).lt id)
    | none =>
      rw [hq] at hg
      exact solidB_rep (s2 g b hg) rfl (h3.blk g b hg)
  · unfold Mem.join
    rw [(hm.apart b hb).1]
    simp only
    cases hq : m1 b with
    | none => rfl
    | some x => have := hnew b (by rw [hq]; simp); have := (hm.apart b hb).2; omega
  · unfold Mem.join at hg
    cases hq : m g with
    | some b' => exact .inl (by simp)
    | none =>
      rw [hq] at hg
      have hg2 : m1 g = some b := hg
      exact .inr (hnew g (by rw [hg2]; simp))
theorem OCall.lend {P : Program} {n : FuncId} {args args' : List AV} {x : AV} {m : Mem} {F : Nat → Prop} {K : AV → Mem → Prop} (h : OCall P n args' x) (hl : Lent m F args args')
    (hK : ∀ r m' (G : Nat → Prop), Ext m m' → OwnT m' G r x → (∀ g, G g → m g = none) → solid r = true → (∀ g b, m' g = some b → m g = some b ∨ solidB b) → K r m') : WCall P n args m K := by
  refine WCall.lend h hl fun r m1 hq hfree => ?_
  obtain ⟨F1, k1, k2, k3⟩ := hq
  obtain ⟨G, g1, g2, g3⟩ := k1.dom
  refine ⟨k2, k3, hK r _ G (join_ext m m1) (g1.mem fun g hg => ?_) (fun g hg => hfree g (g3 g hg)) k2 fun g b hb => ?_⟩
  · unfold Mem.join; rw [hfree g (g3 g hg)]
  · unfold Mem.join at hb
    cases hq : m g with
    | some b' => rw [hq] at hb; exact .inl hb
    | none => rw [hq] at hb; exact .inr (k3 g b hb)
open Classical in
/-- What is given back is its own; the rest of the memory is left. -/
theorem OwnT.ret {m : Mem} {F : Nat → Prop} {a x : AV} (h : OwnT m F a x) : ∃ r m1, View m a m1 r ∧ OwnR x r m1 := by
  obtain ⟨G, g1, g2, g3⟩ := h.doms
  refine ⟨a, fun g => if G g then m g else none, View.forget (fun g b hb => ?_) a, G, g1.mem (fun g hg => if_pos hg), h.solid, fun g b hb => ?_⟩
  · try simp only at hb
    split at hb
    · exact hb
    · cases hb
  · try simp only at hb
    split at hb
    · rename_i hg
      obtain ⟨b', h1, h2⟩ := g3 g hg
      rw [h1] at hb
      cases hb
      exact h2
    · cases hb
/-- Cells of values that may be written. -/
theorem OwnTs.append {m : Mem} {F A B : Nat → Prop} {as xs bs ys : List AV} (h : OwnTs m A as xs) (k : OwnTs m B bs ys) (hd : ∀ g, A g → ¬ B g) (hA : ∀ g, A g → F g) (hB : ∀ g, B g → F g) : OwnTs m F (as ++ bs) (xs ++ ys) := by
  induction as generalizing A F xs with
  | nil => cases h; exact k.up hB
  | cons a as ih =>
    cases h with | @cons _ A1 A2 _ _ _ _ h1 h2 h3 h4 h5 =>
    exact .cons h1 (ih (F := fun g => A2 g ∨ B g) h2 (fun g hg => hd g (h5 g hg)) (fun g h => .inl h) (fun g h => .inr h)) (fun g hg hq => hq.elim (h3 g hg) (hd g (h4 g hg))) (fun g hg => hA g (h4 g hg)) (fun g hg => hg.elim (fun h => hA g (h5 g h)) (hB g))
theorem OwnTs.snoc {m : Mem} {A B : Nat → Prop} {as xs : List AV} {b y : AV} (h : OwnTs m A as xs) (k : OwnT m B b y) (hd : ∀ g, A g → ¬ B g) : OwnTs m (fun g => A g ∨ B g) (as ++ [b]) (xs ++ [y]) :=
  h.append (.cons (F := B) k (.nil (F := fun _ => False)) (fun _ _ h => h) (fun _ h => h) (fun _ h => h.elim)) hd (fun _ h => .inl h) (fun _ h => .inr h)
/-- One of many: what is before it, itself, what is behind it. -/
theorem OwnTs.at {m : Mem} {F : Nat → Prop} {as xs : List AV} (h : OwnTs m F as xs) {i : Nat} (hi : i < as.length) : ∃ (A B C : Nat → Prop) (x : AV), xs[i]? = some x ∧ OwnT m B as[i] x ∧ (∀ g, A g → ¬ B g) ∧ (∀ g, A g → F g) ∧ (∀ g, B g → F g) ∧
    ∀ (m' : Mem) (a' x' : AV) (B' : Nat → Prop), (∀ g, A g → m' g = m g) → OwnT m' B' a' x' → (∀ g, B' g → B g) → OwnTs m' F (as.set i a') (xs.set i x') := by
  induction as generalizing F xs i with
  | nil => simp at hi
  | cons a as ih =>
    cases h with | @cons _ A1 A2 _ x _ xs h1 h2 h3 h4 h5 =>
    cases i with
    | zero => exact ⟨A2, A1, A2, x, rfl, h1, fun g hg hq => h3 g hq hg, h5, h4, fun m' a' x' B' hm k hB => .cons (k.up hB) (h2.mem fun g hg => hm g hg) h3 h4 h5⟩
    | succ i =>
      obtain ⟨A, B, C, y, e1, e2, e3, e4, e5, e6⟩ := ih h2 (by simpa using hi)
      refine ⟨fun g => A1 g ∨ A g, B, C, y, by simpa using e1, e2, fun g hg hq => hg.elim (fun h => h3 g h (e5 g hq)) (fun h => e3 g h hq), fun g hg => hg.elim (h4 g) (fun h => h5 g (e4 g h)), fun g hg => h5 g (e5 g hg), fun m' a' x' B' hm k hB => ?_⟩
      exact .cons (h1.mem fun g hg => hm g (.inl hg)) (e6 m' a' x' B' (fun g hg => hm g (.inr hg)) k hB) h3 h4 h5
end Go.T
namespace Go.T
open Go
set_option linter.unusedSimpArgs false
set_option linter.unusedVariables false
/-- What a mark of a number says, but for its first letter. -/
def markU (k : Nat) (out : ByteArray) : ByteArray := if h : k = 0 then out else markU (k / 10) (bytesOf [((48 + k % 10 : Nat) : Int)] ++ out)
termination_by k
decreasing_by omega
def markT (k : Int) : ByteArray := ⟨#[109]⟩ ++ markU k.toNat ⟨#[]⟩
mutual
/-- How many marks a value takes. -/
def AV.cnt : AV → Nat
  | .int .. => 1
  | .bool _ => 1
  | .str _ => 1
  | .lst _ _ xs => AV.cnts xs
  | .agg cs => AV.cnts cs
  | _ => 0
def AV.cnts : List AV → Nat
  | [] => 0
  | a :: as => a.cnt + AV.cnts as
end
theorem cnts_append (as bs : List AV) : AV.cnts (as ++ bs) = AV.cnts as + AV.cnts bs := by
  induction as with
  | nil => simp [AV.cnts]
  | cons a as ih => simp only [List.cons_append, AV.cnts, ih]; omega
/-- Marked from a number on, up to one. -/
inductive Held : List AV → Int → Int → Prop
  | nil (k : Int) : Held [] k k
  | int {as : List AV} {k k' : Int} : Held as (k + 1) k' → Held (.int .i64 k :: as) k k'
  | str {as : List AV} {k k' : Int} : Held as (k + 1) k' → Held (.str (markT k) :: as) k k'
  | bool {as : List AV} {k k' : Int} : Held as (k + 1) k' → Held (.bool (decide (k.tmod 3 = 0)) :: as) k k'
  | lst {f : Bool} {e : Nat} {xs as : List AV} {k k1 k' : Int} : Held xs k k1 → Held as k1 k' → Held (.lst f e xs :: as) k k'
  | agg {cs as : List AV} {k k1 k' : Int} : Held cs k k1 → Held as k1 k' → Held (.agg cs :: as) k k'
theorem Held.append {as bs : List AV} {k k1 k' : Int} (h : Held as k k1) (h2 : Held bs k1 k') : Held (as ++ bs) k k' := by
  induction h with
  | nil => exact h2
  | int _ ih => exact .int (ih h2)
  | str _ ih => exact .str (ih h2)
  | bool _ ih => exact .bool (ih h2)
  | lst h1 _ _ ih => exact .lst h1 (ih h2)
  | agg h1 _ _ ih => exact .agg h1 (ih h2)
theorem Held.count {as : List AV} {k k' : Int} (h : Held as k k') : k' = k + AV.cnts as := by
  induction h with
  | nil => simp [AV.cnts]
  | int _ ih => simp only [AV.cnts, AV.cnt]; omega
  | str _ ih => simp only [AV.cnts, AV.cnt]; omega
  | bool _ ih => simp only [AV.cnts, AV.cnt]; omega
  | lst _ _ ih1 ih => simp only [AV.cnts, AV.cnt]; omega
  | agg _ _ ih1 ih => simp only [AV.cnts, AV.cnt]; omega
/-- One element of a row in writing: the others do not change. -/
structure InRow (m m0 : Mem) (g : Nat) (T : TypeId) (e c i : Nat) (ys : List AV) (B : Nat → Prop) (as xs : List AV) : Prop where
  row : m g = some (.arr T e c (ys.set i (.agg as)))
  tree : OwnTs m B as xs
  out : ∀ b, b ≠ g → ¬ B b → m b = m0 b
  free : ¬ B g
theorem OwnTs.leafs {m : Mem} {F : Nat → Prop} {as xs : List AV} (h : OwnTs m F as xs) (o : Nat) {x : AV} (hx : ∀ F, OwnT m F x x) : OwnTs m F (as.set o x) (xs.set o x) := by
  induction as generalizing F xs o with
  | nil => cases h; exact .nil
  | cons a as ih =>
    cases h with | cons h1 h2 h3 h4 h5 =>
    cases o with
    | zero => exact .cons (hx _) h2 h3 h4 h5
    | succ o => exact .cons h1 (ih h2 o) h3 h4 h5
/-- A cell that holds no row is written. -/
theorem InRow.leaf {m m0 : Mem} {g : Nat} {T : TypeId} {e c i : Nat} {ys : List AV} {B : Nat → Prop} {as xs : List AV} (h : InRow m m0 g T e c i ys B as xs) (o : Nat) {x : AV} (hx : ∀ m F, OwnT m F x x) :
    InRow (m.set g (.arr T e c (ys.set i (.agg (as.set o x))))) m0 g T e c i ys B (as.set o x) (xs.set o x) := by
  refine ⟨set_same _ _ _, (h.tree.mem fun b hb => ?_).leafs o (hx _), fun b hb hB => ?_, h.free⟩
  · rw [set_at, if_neg]; rintro rfl; exact h.free hb
  · rw [set_at, if_neg hb]; exact h.out b hb hB
theorem set_set_list {α : Type} (l : List α) (i : Nat) (a b : α) : (l.set i a).set i b = l.set i b := by simp
theorem InRow.store {m m0 : Mem} {g : Nat} {T : TypeId} {e c i : Nat} {ys : List AV} {B : Nat → Prop} {as xs : List AV} (h : InRow m m0 g T e c i ys B as xs) (hi : i < ys.length) (he : as.length = e) (o : Nat) (ho : o < e) (h1 : 1 < e) {x : AV} (hx : x.cells = [x]) :
    storeA m (.elt g e i o) x = some (m.set g (.arr T e c (ys.set i (.agg (as.set o x))))) := by
  have hg : (ys.set i (AV.agg as))[i]? = some (.agg as) := by simp [hi]
  unfold storeA
  simp only [h.row, if_true, hg, hx, List.length_cons, List.length_nil, Nat.zero_add]
  rw [if_neg (by omega), if_pos (by omega), set_set_list]
  congr 5
  rw [List.set_eq_take_append_cons_drop, if_pos (by omega)]
  simp
/-- A cell that is a row is written by a call. -/
theorem InRow.call {m m0 : Mem} {g : Nat} {T : TypeId} {e c i : Nat} {ys : List AV} {B : Nat → Prop} {as xs : List AV} (h : InRow m m0 g T e c i ys B as xs) {o : Nat} (ho : o < as.length) : ∃ (A : Nat → Prop) (x : AV), xs[o]? = some x ∧ OwnT m A as[o] x ∧
    ∀ m' x', (∀ b, ¬ A b → m' b = m b) → OwnT m' A as[o] x' → InRow m' m0 g T e c i ys B as (xs.set o x') := by
  obtain ⟨A, A', C, x, e1, e2, e3, e4, e5, e6⟩ := h.tree.at ho
  refine ⟨A', x, e1, e2, fun m' x' hm k => ⟨?_, ?_, fun b hb hB => ?_, h.free⟩⟩
  · rw [hm g (fun hg => h.free (e5 g hg))]; exact h.row
  · have := e6 m' as[o] x' A' (fun b hb => hm b (e3 b hb)) k (fun _ h => h)
    simpa using this
  · rw [hm b (fun hA => hB (e5 b hA))]; exact h.out b hb hB
/-- A row in writing: the first elements are marked. -/
structure Marking (m m0 : Mem) (F : Nat → Prop) (g : Nat) (T : TypeId) (e c : Nat) (G : Nat → Prop) (ys xs : List AV) : Prop where
  row : m g = some (.arr T e c ys)
  tree : OwnTs m G ys xs
  free : ¬ G g
  sub : ∀ b, G b → F b
  mine : F g
  out : ∀ b, ¬ F b → m b = m0 b
theorem Marking.start {m : Mem} {F : Nat → Prop} {g n c e : Nat} {xs : List AV} (h : OwnT m F (.own g n c) (.lst false e xs)) : ∃ T G ys, Marking m m F g T e c G ys xs ∧ ys.length = n ∧ xs.length = n := by
  cases h with
  | @own _ G _ _ _ _ T ys _ h1 h2 h3 h4 h5 h6 => exact ⟨T, G, ys, ⟨h1, h3, h4, h5, h6, fun _ _ => rfl⟩, h2, h3.len ▸ h2⟩
theorem Marking.done {m m0 : Mem} {F : Nat → Prop} {g c e : Nat} {T : TypeId} {G : Nat → Prop} {ys xs : List AV} (h : Marking m m0 F g T e c G ys xs) {n : Nat} (hn : ys.length = n) : OwnT m F (.own g n c) (.lst false e xs) := .own h.row hn h.tree h.free h.sub h.mine
/-- Into an element, and out of it. -/
theorem Marking.into {m m0 : Mem} {F : Nat → Prop} {g c e : Nat} {T : TypeId} {G : Nat → Prop} {ys xs : List AV} (h : Marking m m0 F g T e c G ys xs) {i : Nat} (hi : i < ys.length) {cs : List AV} (hx : xs[i]? = some (.agg cs)) :
    ∃ (B : Nat → Prop) (as : List AV), as.all okCell = true ∧ as.length = cs.length ∧ InRow m m g T e c i ys B as cs ∧
      ∀ m' as' cs', InRow m' m g T e c i ys B as' cs' → as'.all okCell = true → Marking m' m0 F g T e c G (ys.set i (.agg as')) (xs.set i (.agg cs')) := by
  obtain ⟨A, B, C, x, e1, e2, e3, e4, e5, e6⟩ := h.tree.at hi
  rw [hx] at e1
  obtain rfl := Option.some.inj e1
  generalize hy : ys[i] = y at e2
  cases e2 with
  | agg h1 h2 =>
    rename_i as
    have hset : ys.set i (.agg as) = ys := by rw [← hy]; simp
    refine ⟨B, as, h2, h1.len, ⟨by rw [hset]; exact h.row, h1, fun _ _ _ => rfl, fun hg => h.free (e5 g hg)⟩, fun m' as' cs' k1 k2 => ⟨k1.row, ?_, h.free, h.sub, h.mine, fun b hb => ?_⟩⟩
    · exact e6 m' _ _ B (fun b hb => k1.out b (fun (hbg : b = g) => h.free (hbg ▸ e4 b hb)) (e3 b hb)) (.agg k1.tree k2) (fun _ h => h)
    · rw [k1.out b (fun (hbg : b = g) => hb (hbg ▸ h.mine)) (fun hB => hb (h.sub b (e5 b hB)))]; exact h.out b hb
/-- A row of leaves is written. -/
theorem Marking.leaf {m m0 : Mem} {F : Nat → Prop} {g c e : Nat} {T : TypeId} {G : Nat → Prop} {ys xs : List AV} (h : Marking m m0 F g T e c G ys xs) {i : Nat} {x : AV} (hx : ∀ m F, OwnT m F x x) :
    Marking (m.set g (.arr T e c (ys.set i x))) m0 F g T e c G (ys.set i x) (xs.set i x) := by
  refine ⟨set_same _ _ _, (h.tree.mem fun b hb => ?_).leafs i (hx _), h.free, h.sub, h.mine, fun b hb => ?_⟩
  · rw [set_at, if_neg]; rintro rfl; exact h.free hb
  · rw [set_at, if_neg (fun (hbg : b = g) => hb (hbg ▸ h.mine))]; exact h.out b hb
theorem own_int (k : IntKind) (n : Int) : ∀ m F, OwnT m F (.int k n) (.int k n) := fun _ _ => .int k n
theorem own_str (s : ByteArray) : ∀ m F, OwnT m F (.str s) (.str s) := fun _ _ => .str s
theorem own_row {m : Mem} {F : Nat → Prop} {v : AV} {f : Bool} {e : Nat} {xs : List AV} (h : OwnT m F v (.lst f e xs)) : (∃ f' e', v = .lst f' e' [] ∧ xs = []) ∨ ∃ g n c, v = .own g n c ∧ n = xs.length ∧ f = false := by
  cases h with
  | nil f' e' _ => exact .inl ⟨_, _, rfl, rfl⟩
  | own h1 h2 h3 _ _ _ => exact .inr ⟨_, _, _, rfl, h2 ▸ h3.len, rfl⟩
theorem cnts_len {α : Type} {f : α → AV} (h : ∀ x, 1 ≤ (f x).cnt) (l : List α) : l.length ≤ AV.cnts (l.map f) := by
  induction l with
  | nil => simp
  | cons x l ih =>
    have := h x
    simp only [List.map_cons, List.length_cons, AV.cnts]
    omega
theorem at_done {α : Type} (f : α → AV) (done : List α) (x : α) (r : List α) {i : Nat} (h : done.length = i) : ((done ++ x :: r).map f)[i]? = some (f x) := by
  subst h
  simp
theorem set_done {α : Type} (f : α → AV) (done : List α) (x y : α) (r : List α) {i : Nat} (h : done.length = i) : ((done ++ x :: r).map f).set i (f y) = ((done ++ [y]) ++ r).map f := by
  subst h
  simp
end Go.T
namespace Go.T
open Go
set_option linter.unusedSimpArgs false
set_option linter.unusedVariables false
set_option linter.unnecessarySimpa false
/-- What a call leaves, seen otherwise. -/
theorem WCall.view {P : Program} {n : FuncId} {args : List AV} {m : Mem} {Q K : AV → Mem → Prop} (h : WCall P n args m Q) (hv : ∀ r m', Q r m' → ∃ r' m'', View m' r m'' r' ∧ K r' m'') : WCall P n args m K :=
  ⟨h.1, fun w S cargs hm hr => calls_mono (h.2 w S cargs hm hr) (by
    rintro e w' ⟨v, r, m', S', he, hq, h1, h2, h3, h4, h5, h6⟩
    obtain ⟨r', m'', hvw, hk⟩ := hv r m' hq
    obtain ⟨S2, k1, k2, k3, k4, k5⟩ := hvw w' S' v h3 h4
    have hdom : ∀ b, m' b ≠ none → m b ≠ none ∨ w.heap.size ≤ b := fun b hb => by
      cases hq2 : m' b with
      | none => exact absurd hq2 hb
      | some x => exact h6 b x hq2
    refine ⟨v, r', m'', S2, he, hk, fun b hb => k1 b (h1 b hb), fun b hb => ?_, k3, k4, h5, fun g b hg => hdom g (k5 g b hg)⟩
    rcases k2 b hb with h | h
    · exact h2 b h
    · exact .inr (hdom b h))⟩
theorem WCall.pure {P : Program} {n : FuncId} {args : List AV} {r : AV} (hw : WCall P n args (fun _ => none) fun r' _ => r' = r) : PCall P n args r := by
  refine ⟨hw.1, fun w S cargs m hm hr => ?_⟩
  have hm0 : MemRep w S (fun _ => none) := ⟨(fun g b h => by cases h), fun b hb => ⟨rfl, (hm.apart b hb).2⟩⟩
  refine calls_mono (hw.2 w S cargs hm0 hr) ?_
  rintro e w' ⟨v, r', m', S', rfl, rfl, h1, h2, h3, h4, h5, h6⟩
  have hk : Keep (fun _ => False) w w' := h5.mono (fun b h => absurd rfl h)
  refine ⟨v, S', rfl, h1, fun b hb => (h2 b hb).imp id (fun h => h.elim (fun h => absurd rfl h) id), ⟨fun g b hg => ?_, fun b hb => ?_⟩, h4, hk⟩
  · have hlt := (hm.blk g b hg).lt
    exact (hm.blk g b hg).mono (fun b' hb' => hk.block b' (hm.apart b' hb').2 id) h1 (hk.block g hlt id)
  · refine ⟨?_, (h3.apart b hb).2⟩
    rcases h2 b hb with h | h | h
    · exact (hm.apart b h).1
    · exact absurd rfl h
    · cases hq : m b with
      | none => rfl
      | some x => have := (hm.blk b x hq).lt; omega
/-- A call whose answer is its own answers what it looks like. -/
theorem OCall.p {P : Program} {n : FuncId} {args : List AV} {x : AV} (h : OCall P n args x) : PCall P n args x :=
  WCall.pure (WCall.view h fun r m' ⟨F, hO, _, _⟩ => let ⟨m'', hv, _⟩ := hO.view; ⟨x, m'', hv, rfl⟩)
/-- Called with no more than what is told. -/
theorem OCall.w {P : Program} {n : FuncId} {args : List AV} {x : AV} {m : Mem} {K : AV → Mem → Prop} (h : OCall P n args x)
    (hK : ∀ r m' (G : Nat → Prop), Ext m m' → OwnT m' G r x → (∀ g, G g → m g = none) → (∀ g, G g → m' g ≠ none) → K r m') : WCall P n args m K :=
  h.lend (Lent.all args) fun r m' G hE hO hG _ _ => by
    obtain ⟨G', k1, k2, k3⟩ := hO.dom
    exact hK r m' G' hE k1 (fun g hg => hG g (k2 g hg)) k3
theorem own_agg {m : Mem} {F : Nat → Prop} {r : AV} {xs : List AV} (h : OwnT m F r (.agg xs)) : ∃ as, r = .agg as ∧ OwnTs m F as xs ∧ as.all okCell = true := by
  cases h with | agg h k => exact ⟨_, rfl, h, k⟩
/-- A struct that is put together in a box: the first fields are there. -/
structure Cpy (m : Mem) (g1 g2 g3 : Nat) (c1 : List AV) (n : Nat) (cur : List AV) (F : Nat → Prop) (as xs : List AV) : Prop where
  b1 : m g1 = some (.box c1)
  b2 : ∃ c2, m g2 = some (.box c2) ∧ c2.length = n
  b3 : m g3 = some (.box cur)
  tree : OwnTs m F as xs
  ok : as.all okCell = true
  dom : ∀ b, F b → m b ≠ none
  n1 : ¬ F g1
  n2 : ¬ F g2
  n3 : ¬ F g3
theorem Cpy.leaf {m : Mem} {g1 g2 g3 n : Nat} {c1 cur cur' : List AV} {F : Nat → Prop} {as xs : List AV} (h : Cpy m g1 g2 g3 c1 n cur F as xs) (h1 : g3 ≠ g1) (h2 : g3 ≠ g2) {x : AV} (hx : ∀ m F, OwnT m F x x) (hok : okCell x = true) :
    Cpy (m.set g3 (.box cur')) g1 g2 g3 c1 n cur' F (as ++ [x]) (xs ++ [x]) := by
  obtain ⟨c2, k1, k2⟩ := h.b2
  refine ⟨by rw [set_at, if_neg h1.symm]; exact h.b1, ⟨c2, by rw [set_at, if_neg h2.symm]; exact k1, k2⟩, set_same _ _ _, ?_, by simp only [List.all_append, h.ok, List.all_cons, hok, List.all_nil, Bool.and_self], fun b hb => ?_, h.n1, h.n2, h.n3⟩
  · exact ((h.tree.mem fun b hb => by rw [set_at, if_neg]; rintro rfl; exact h.n3 hb).append (.cons (F := fun _ => False) (A := fun _ => False) (B := fun _ => False) (hx _ _) .nil (fun _ h => h.elim) (fun _ h => h) (fun _ h => h)) (fun _ _ h => h) (fun _ h => h) (fun _ h => h.elim))
  · rw [set_at]; split
    · simp
    · exact h.dom b hb
theorem Cpy.call {m m' : Mem} {g1 g2 g3 n : Nat} {c1 cur cur' : List AV} {F G : Nat → Prop} {as xs rs ys : List AV} (h : Cpy m g1 g2 g3 c1 n cur F as xs) (h1 : g3 ≠ g1) (h2 : g3 ≠ g2) (hE : Ext m m') (hO : OwnTs m' G rs ys) (hok : rs.all okCell = true) (hG : ∀ g, G g → m g = none) (hGd : ∀ g, G g → m' g ≠ none) :
    Cpy (m'.set g3 (.box cur')) g1 g2 g3 c1 n cur' (fun b => F b ∨ G b) (as ++ rs) (xs ++ ys) := by
  obtain ⟨c2, k1, k2⟩ := h.b2
  have f3 : ¬ G g3 := fun hg => by have := hG g3 hg; rw [h.b3] at this; cases this
  have hk : ∀ b, F b → m' b = m b := fun b hb => by
    cases hq : m b with
    | none => exact absurd hq (h.dom b hb)
    | some x => exact hE b x hq
  refine ⟨by rw [set_at, if_neg h1.symm]; exact hE _ _ h.b1, ⟨c2, by rw [set_at, if_neg h2.symm]; exact hE _ _ k1, k2⟩, set_same _ _ _, ?_, by simp only [List.all_append, h.ok, hok, Bool.and_self], fun b hb => ?_, fun hb => hb.elim h.n1 fun hg => (by have := hG _ hg; rw [h.b1] at this; cases this), fun hb => hb.elim h.n2 fun hg => (by have := hG _ hg; rw [k1] at this; cases this), fun hb => hb.elim h.n3 f3⟩
  · refine (h.tree.mem fun b hb => ?_).append (hO.mem fun b hb => ?_) (fun b hb hg => h.dom b hb (hG b hg)) (fun _ h => .inl h) (fun _ h => .inr h)
    · rw [set_at, if_neg]
      · exact hk b hb
      · rintro rfl; exact h.n3 hb
    · rw [set_at, if_neg]; rintro rfl; exact f3 hb
  · rw [set_at]; split
    · simp
    · rcases hb with hb | hb
      · rw [hk b hb]; exact h.dom b hb
      · exact hGd b hb
theorem Cpy.start {m : Mem} {g1 g2 g3 n : Nat} {c1 c2 cur : List AV} (b1 : m g1 = some (.box c1)) (b2 : m g2 = some (.box c2)) (hn : c2.length = n) (b3 : m g3 = some (.box cur)) : Cpy m g1 g2 g3 c1 n cur (fun _ => False) [] [] :=
  ⟨b1, ⟨c2, b2, hn⟩, b3, .nil, rfl, fun _ h => h.elim, id, id, id⟩
theorem Cpy.done {m : Mem} {g1 g2 g3 n : Nat} {c1 cur : List AV} {F : Nat → Prop} {as xs : List AV} (h : Cpy m g1 g2 g3 c1 n cur F as xs) (b : Blk) : OwnT (m.set g2 b) F (.agg as) (.agg xs) :=
  .agg (h.tree.mem fun b hb => by rw [set_at, if_neg]; rintro rfl; exact h.n2 hb) h.ok
/-- A row that is filled, element by element. -/
structure Fil (m : Mem) (g : Nat) (T : TypeId) (e c : Nat) (i : Nat) (ys : List AV) (F : Nat → Prop) (xs : List AV) : Prop where
  row : m g = some (.arr T e c ys)
  tree : OwnTs m F (ys.take i) xs
  dom : ∀ b, F b → m b ≠ none
  free : ¬ F g
theorem Fil.step {m m' : Mem} {g : Nat} {T : TypeId} {e c i : Nat} {ys : List AV} {F G : Nat → Prop} {xs : List AV} {r x : AV} (h : Fil m g T e c i ys F xs) (hi : i < ys.length) (hE : Ext m m') (hO : OwnT m' G r x) (hG : ∀ g, G g → m g = none) (hGd : ∀ g, G g → m' g ≠ none) :
    Fil (m'.set g (.arr T e c (ys.set i r))) g T e c (i + 1) (ys.set i r) (fun b => F b ∨ G b) (xs ++ [x]) := by
  have fg : ¬ G g := fun hg => by have := hG g hg; rw [h.row] at this; cases this
  have hk : ∀ b, F b → m' b = m b := fun b hb => by
    cases hq : m b with
    | none => exact absurd hq (h.dom b hb)
    | some x => exact hE b x hq
  have ht : (ys.set i r).take (i + 1) = ys.take i ++ [r] := by
    rw [List.take_add_one, List.take_set_of_le (Nat.le_refl _), List.getElem?_set_self (by omega)]; rfl
  refine ⟨set_same _ _ _, ?_, fun b hb => ?_, fun hb => hb.elim h.free fg⟩
  · rw [ht]
    refine (h.tree.mem fun b hb => ?_).snoc (hO.mem fun b hb => ?_) (fun b hb hg => h.dom b hb (hG b hg))
    · rw [set_at, if_neg]
      · exact hk b hb
      · rintro rfl; exact h.free hb
    · rw [set_at, if_neg]; rintro rfl; exact fg hb
  · rw [set_at]; split
    · simp
    · rcases hb with hb | hb
      · rw [hk b hb]; exact h.dom b hb
      · exact hGd b hb
theorem Fil.done {m : Mem} {g : Nat} {T : TypeId} {e c n : Nat} {ys : List AV} {F : Nat → Prop} {xs : List AV} (h : Fil m g T e c n ys F xs) (hn : ys.length = n) : OwnT m (fun b => F b ∨ b = g) (.own g n c) (.lst false e xs) := by
  have ht := h.tree
  rw [List.take_of_length_le (by omega)] at ht
  exact .own h.row hn ht h.free (fun _ h => .inl h) (.inr rfl)
theorem OwnTs.one {m : Mem} {F : Nat → Prop} {a x : AV} (h : OwnT m F a x) : OwnTs m F [a] [x] :=
  .cons (A := F) (B := fun _ => False) h .nil (fun _ _ h => h) (fun _ h => h) (fun _ h => h.elim)
/-- A cell that is a row is written by a call. -/
theorem OwnTs.call {m : Mem} {F : Nat → Prop} {as xs : List AV} (h : OwnTs m F as xs) {o : Nat} (ho : o < as.length) : ∃ (A : Nat → Prop) (x : AV), xs[o]? = some x ∧ OwnT m A as[o] x ∧ (∀ b, A b → F b) ∧
    ∀ m' x', (∀ b, ¬ A b → m' b = m b) → OwnT m' A as[o] x' → OwnTs m' F as (xs.set o x') := by
  obtain ⟨A, A', C, x, e1, e2, e3, e4, e5, e6⟩ := h.at ho
  refine ⟨A', x, e1, e2, e5, fun m' x' hm k => ?_⟩
  have := e6 m' as[o] x' A' (fun b hb => hm b (e3 b hb)) k (fun _ h => h)
  simpa using this
theorem Held.int_inv {b : Int} {as : List AV} {k k' : Int} (h : Held (.int .i64 b :: as) k k') : b = k ∧ Held as (k + 1) k' := by cases h with | int h => exact ⟨rfl, h⟩
theorem Held.str_inv {b : ByteArray} {as : List AV} {k k' : Int} (h : Held (.str b :: as) k k') : b = markT k ∧ Held as (k + 1) k' := by cases h with | str h => exact ⟨rfl, h⟩
theorem Held.lst_inv {f : Bool} {e : Nat} {xs as : List AV} {k k' : Int} (h : Held (.lst f e xs :: as) k k') : ∃ k1, Held xs k k1 ∧ Held as k1 k' := by cases h with | lst h1 h2 => exact ⟨_, h1, h2⟩
theorem Held.agg_inv {cs as : List AV} {k k' : Int} (h : Held (.agg cs :: as) k k') : ∃ k1, Held cs k k1 ∧ Held as k1 k' := by cases h with | agg h1 h2 => exact ⟨_, h1, h2⟩
theorem Held.nil_inv {k k' : Int} (h : Held [] k k') : k' = k := by cases h; rfl
theorem Held.le {as : List AV} {k k' : Int} (h : Held as k k') : k ≤ k' := by have := h.count; omega
theorem OwnTs.same {m : Mem} {F : Nat → Prop} {as : List AV} (h : ∀ a ∈ as, ∀ F, OwnT m F a a) : OwnTs m F as as := by
  induction as generalizing F with
  | nil => exact .nil
  | cons a as ih => exact .cons (A := fun _ => False) (B := F) (h a (List.mem_cons_self ..) _) (ih fun b hb => h b (List.mem_cons_of_mem _ hb)) (fun _ h => h.elim) (fun _ h => h.elim) (fun _ h => h)
/-- A row of one's own that grows. -/
def GrowO (E : TypeId) (n : Nat) (m : Mem) (F : Nat → Prop) (v : AV) (xs : List AV) : Prop :=
  (v = .lst true 0 [] ∧ xs = []) ∨ ∃ (g c : Nat) (ys : List AV) (G : Nat → Prop), v = .own g ys.length c ∧ m g = some (.arr E n c ys) ∧ OwnTs m G ys xs ∧ ¬ G g ∧ (∀ b, G b → F b) ∧ F g
theorem GrowO.own {E : TypeId} {n : Nat} {m : Mem} {F : Nat → Prop} {v : AV} {xs : List AV} (h : GrowO E n m F v xs) : OwnT m F v (.lst false n xs) := by
  rcases h with ⟨rfl, rfl⟩ | ⟨g, c, ys, G, rfl, h1, h2, h3, h4, h5⟩
  · exact .nil _ _ _
  · exact .own h1 rfl h2 h3 h4 h5
theorem GrowO.mem {E : TypeId} {n : Nat} {m m' : Mem} {F : Nat → Prop} {v : AV} {xs : List AV} (h : GrowO E n m F v xs) (hm : ∀ b, F b → m' b = m b) : GrowO E n m' F v xs := by
  rcases h with ⟨rfl, rfl⟩ | ⟨g, c, ys, G, rfl, h1, h2, h3, h4, h5⟩
  · exact .inl ⟨rfl, rfl⟩
  · exact .inr ⟨g, c, ys, G, rfl, (hm _ h5).trans h1, h2.mem fun b hb => hm b (h4 b hb), h3, h4, h5⟩
theorem GrowO.app {P : Program} {T E : TypeId} {n b : Nat} (hT : ElemT P T E n b) {m : Mem} {F A : Nat → Prop} {v a x : AV} {xs : List AV} (h : GrowO E n m F v xs) (hF : ∀ b, F b → m b ≠ none) (ha : OwnT m A a x) (hA : ∀ b, A b → m b ≠ none) (hd : ∀ b, F b → ¬ A b)
    (hok : a.cells.all okCell = true) (hl : a.cells.length = n) (hb : (2 * (xs.length + 1) + 1024) * b ≤ 281474976710656) {k : AV → Mem → Prop}
    (hk : ∀ v' m' F', GrowO E n m' F' v' (xs ++ [x]) → (∀ b, m b ≠ none → ¬ F b → m' b = m b) → (∀ b, F' b → F b ∨ A b ∨ m b = none) → (∀ b, F' b → m' b ≠ none) → k v' m') : appendW P m k #[T, T] v (.lst true n [a]) := by
  obtain ⟨z, hz, hzl⟩ := hT.zero
  unfold appendW
  simp only [List.getElem?_toArray, List.getElem?_cons_zero, List.getElem?_cons_succ, hT.int, hT.elem, hT.size, hT.byte, hz, srcA, true_and, if_true]
  refine ⟨hT.pos.1, hT.pos.2, hzl, ?_⟩
  have hset : ∀ (g : Nat) (bl : Blk) b, b ≠ g → (m.set g bl) b = m b := fun g bl b hb => Mem.set_other hb
  have hsm : ∀ (g : Nat) (bl : Blk) b, (b = g ∨ m b ≠ none) → (m.set g bl) b ≠ none := fun g bl b hb => by
    rw [set_at]; split
    · simp
    · rename_i hne; exact hb.elim (fun h => absurd h hne) id
  rcases h with ⟨rfl, rfl⟩ | ⟨g, c, ys, G, rfl, h1, h2, h3, h4, h5⟩
  · refine ⟨.inr rfl, by simpa using hb, fun h0 => by simp at h0, fun _ g c hg hle => ?_⟩
    have hgA : ¬ A g := fun hq => hA g hq hg
    refine hk _ _ (fun b => A b ∨ b = g) (.inr ⟨g, c, [a], A, rfl, set_same _ _ _, ?_, hgA, fun _ h => .inl h, .inr rfl⟩) (fun b hb _ => hset _ _ _ (fun e => hb (e ▸ hg))) (fun b hb => hb.elim (fun h => .inr (.inl h)) (fun h => .inr (.inr (h ▸ hg)))) fun b hb => hsm _ _ _ (hb.elim (fun h => .inr (hA b h)) .inl)
    exact .one (ha.mem fun b hb => hset _ _ _ (fun (e : b = g) => hgA (e ▸ hb)))
  · simp only [h1]
    have hlen : ys.length = xs.length := h2.len
    refine ⟨trivial, trivial, trivial, by simpa using hl, by simpa using hok, by rw [hlen]; simpa using hb, fun g' c' hg' hle => ?_⟩
    have hgA : ¬ A g' := fun hq => by
      rcases hg' with rfl | hn
      · exact hd _ h5 hq
      · exact hA g' hq hn
    have hgG : ¬ G g' := fun hq => by
      rcases hg' with rfl | hn
      · exact h3 hq
      · exact hF g' (h4 g' hq) hn
    refine hk _ _ (fun b => (G b ∨ A b) ∨ b = g') (.inr ⟨g', c', ys ++ [a], fun b => G b ∨ A b, by simp, by simp [set_same], ?_, fun hq => hq.elim hgG hgA, fun _ h => .inl h, .inr rfl⟩) (fun b hb hnF => hset _ _ _ (fun e => ?_)) (fun b hb => ?_) fun b hb => hsm _ _ _ ?_
    · exact (h2.mem (m' := m.set g' (.arr E n c' (ys ++ [a]))) fun b hb => hset _ _ _ (fun (e : b = g') => hgG (e ▸ hb))).snoc (ha.mem (m' := m.set g' (.arr E n c' (ys ++ [a]))) fun b hb => hset _ _ _ (fun (e : b = g') => hgA (e ▸ hb))) (fun b hb hq => hd b (h4 b hb) hq)
    · subst e
      rcases hg' with rfl | hn
      · exact hnF h5
      · exact hb hn
    · rcases hb with (hb | hb) | rfl
      · exact .inl (h4 b hb)
      · exact .inr (.inl hb)
      · rcases hg' with rfl | hn
        · exact .inl h5
        · exact .inr (.inr hn)
    · rcases hb with (hb | hb) | hb
      · exact .inr (hF b (h4 b hb))
      · exact .inr (hA b hb)
      · exact .inl hb
theorem ext_at {m m' : Mem} (h : Ext m m') {g : Nat} (hg : m g ≠ none) : m' g = m g := by
  cases hq : m g with
  | none => exact absurd hq hg
  | some b => exact h g b hq
theorem OwnT.ext {m m' : Mem} {F : Nat → Prop} {a x : AV} (h : OwnT m F a x) (hd : ∀ b, F b → m b ≠ none) (hE : Ext m m') : OwnT m' F a x := h.mem fun b hb => ext_at hE (hd b hb)
theorem ext_set {m : Mem} {g : Nat} (hg : m g = none) (b : Blk) : Ext m (m.set g b) := (Ext.refl m).set hg b
theorem Ext.trans {a b c : Mem} (h : Ext a b) (k : Ext b c) : Ext a c := fun g x hx => k g x (h g x hx)
end Go.T
namespace Go.T
open Go
set_option linter.unusedSimpArgs false
set_option linter.unusedVariables false
/-- Boxes that are none of F's stay. -/
def Upd (F : Nat → Prop) (m m' : Mem) : Prop := ∀ g cs, ¬ F g → m g = some (.box cs) → m' g = some (.box cs)
theorem Upd.refl (F : Nat → Prop) (m : Mem) : Upd F m m := fun _ _ _ h => h
theorem Upd.trans {F : Nat → Prop} {a b c : Mem} (h : Upd F a b) (k : Upd F b c) : Upd F a c := fun g cs hg hx => k g cs hg (h g cs hg hx)
theorem Upd.ext {F : Nat → Prop} {a b : Mem} (h : Ext a b) : Upd F a b := fun g cs _ hx => h g _ hx
theorem Upd.set {F : Nat → Prop} {m : Mem} {g : Nat} (hg : m g = none) (b : Blk) : Upd F m (m.set g b) := .ext (ext_set hg b)
theorem Upd.put {F : Nat → Prop} {m : Mem} {g : Nat} (hg : F g) (b : Blk) : Upd F m (m.set g b) := fun k cs hk hx => by
  rw [set_at, if_neg]
  · exact hx
  · rintro rfl; exact hk hg
/-- A row that grows: nothing yet, or a block of its own beside m0. -/
def Gr (T : TypeId) (e : Nat) (m0 : Mem) (xs : List AV) (v : AV) (m : Mem) : Prop := Ext m0 m ∧ ((xs = [] ∧ ∃ f, v = .lst true f []) ∨ ∃ g c, v = .own g xs.length c ∧ m g = some (.arr T e c xs) ∧ m0 g = none)
theorem Gr.gs {T : TypeId} {e : Nat} {m0 m : Mem} {xs : List AV} {v : AV} (h : Gr T e m0 xs v m) : Grows T e m0 xs v m := by
  obtain ⟨hE, ⟨rfl, f, rfl⟩ | ⟨g, c, rfl, h1, h2⟩⟩ := h
  · exact .lit f m (.inr rfl) hE
  · exact .own g c _ m rfl h1 h2 hE
theorem Gr.ok {T : TypeId} {e : Nat} {m0 m : Mem} {xs : List AV} {v : AV} (h : Gr T e m0 xs v m) : v.cells = [v] ∧ okCell v = true ∧ v ≠ .undef := by
  obtain ⟨hE, ⟨rfl, f, rfl⟩ | ⟨g, c, rfl, h1, h2⟩⟩ := h <;> exact ⟨rfl, rfl, by simp⟩
theorem Gr.start {T : TypeId} {e : Nat} (m : Mem) (f : Nat) : Gr T e m [] (.lst true f []) m := ⟨Ext.refl m, .inl ⟨rfl, f, rfl⟩⟩
theorem Gr.mono {T : TypeId} {e : Nat} {m0 m1 m : Mem} {xs : List AV} {v : AV} (h : Gr T e m1 xs v m) (he : Ext m0 m1) : Gr T e m0 xs v m := by
  obtain ⟨hE, h⟩ := h
  refine ⟨he.trans hE, h.imp id ?_⟩
  rintro ⟨g, c, h1, h2, h3⟩
  exact ⟨g, c, h1, h2, he.none h3⟩
theorem Gr.fresh {T : TypeId} {e : Nat} {m0 m : Mem} {xs : List AV} {v : AV} (h : Gr T e m0 xs v m) {g : Nat} (hg : m g = none) (b : Blk) : Gr T e m0 xs v (m.set g b) := by
  obtain ⟨hE, h⟩ := h
  refine ⟨hE.trans (ext_set hg b), h.imp id ?_⟩
  rintro ⟨g', c, h1, h2, h3⟩
  refine ⟨g', c, h1, ?_, h3⟩
  rw [set_at, if_neg]
  · exact h2
  · rintro rfl; rw [hg] at h2; cases h2
theorem Gr.ext {T : TypeId} {e : Nat} {m0 m m' : Mem} {xs : List AV} {v : AV} (h : Gr T e m0 xs v m) (hE : Ext m m') : Gr T e m0 xs v m' := by
  obtain ⟨h0, h⟩ := h
  exact ⟨h0.trans hE, h.imp id fun ⟨g, c, h1, h2, h3⟩ => ⟨g, c, h1, hE g _ h2, h3⟩⟩
theorem Gr.app {P : Program} {T E : TypeId} {n b : Nat} (hT : ElemT P T E n b) {m0 m : Mem} {xs ys : List AV} {v x : AV} (h : Gr E n m0 xs v m) (hx : srcA m n x = some ys) (hok : ∀ y ∈ ys, y.cells.all okCell = true) (hb : (2 * (xs.length + ys.length) + 1024) * b ≤ 281474976710656)
    {k : AV → Mem → Prop} (hk : ∀ v' m', Gr E n m0 (xs ++ ys) v' m' → (∀ g cs, m g = some (.box cs) → m' g = some (.box cs)) → k v' m') : appendW P m k #[T, T] v x := by
  obtain ⟨z, hz, hzl⟩ := hT.zero
  unfold appendW
  simp only [List.getElem?_toArray, List.getElem?_cons_zero, List.getElem?_cons_succ, hT.int, hT.elem, hT.size, hT.byte, hz, hx, true_and]
  refine ⟨hT.pos.1, hT.pos.2, hzl, ?_⟩
  have hset : ∀ (g' : Nat) (bl : Blk), (∀ cs, m g' ≠ some (.box cs)) → ∀ g cs, m g = some (.box cs) → (m.set g' bl) g = some (.box cs) := fun g' bl hg' g cs hgc => by
    rw [set_at, if_neg]
    · exact hgc
    · rintro rfl; exact hg' cs hgc
  obtain ⟨hE, ⟨rfl, f, rfl⟩ | ⟨g, c, rfl, h1, h2⟩⟩ := h
  · refine ⟨.inr rfl, by simpa using hb, fun h0 => ?_, fun _ g c hg hle => ?_⟩
    · refine hk _ _ ⟨hE, .inl ⟨?_, f, rfl⟩⟩ (fun _ _ h => h)
      simpa using h0
    · refine hk _ _ ⟨hE.set (hE.none hg) _, .inr ⟨g, c, by simp, by simp [set_same], hE.none hg⟩⟩ (hset _ _ fun cs h => by rw [hg] at h; cases h)
  · simp only [h1]
    refine ⟨trivial, trivial, trivial, trivial, hok, hb, fun g' c' hg' hle => ?_⟩
    have hg0 : m0 g' = none := by
      rcases hg' with rfl | h
      · exact h2
      · exact hE.none h
    refine hk _ _ ⟨hE.set hg0 _, .inr ⟨g', c', by simp, set_same _ _ _, hg0⟩⟩ (hset _ _ fun cs h => ?_)
    rcases hg' with rfl | hn
    · rw [h1] at h; cases h
    · rw [hn] at h; cases h
/-- It is one's own, its elements being plain. -/
theorem Gr.own {T : TypeId} {e : Nat} {m0 m : Mem} {xs : List AV} {v : AV} (h : Gr T e m0 xs v m) (hp : ∀ a ∈ xs, ∀ F, OwnT m F a a) : ∃ F : Nat → Prop, OwnT m F v (.lst false e xs) ∧ (∀ g, F g → m0 g = none) ∧ ∀ g, F g → m g ≠ none := by
  obtain ⟨hE, ⟨rfl, f, rfl⟩ | ⟨g, c, rfl, h1, h2⟩⟩ := h
  · exact ⟨fun _ => False, .nil _ _ _, fun _ h => h.elim, fun _ h => h.elim⟩
  · exact ⟨fun b => b = g, .own (G := fun _ => False) h1 rfl (OwnTs.same hp) id (fun _ h => h.elim) rfl, fun b hb => hb ▸ h2, fun b hb => by rw [hb, h1]; simp⟩
theorem Gr.view {T : TypeId} {e : Nat} {m0 m : Mem} {xs : List AV} {v : AV} (h : Gr T e m0 xs v m) : View m v m0 (.lst false e xs) := h.gs.view
end Go.T
namespace Go.T
open Go
set_option linter.unusedSimpArgs false
set_option linter.unusedVariables false
/-- Boxes and trees of one's own, apart from each other. -/
structure Hold (m : Mem) (bs : List (Nat × List AV)) (ts : List ((Nat → Prop) × AV × AV)) : Prop where
  box : ∀ p ∈ bs, m p.1 = some (.box p.2)
  tree : ∀ t ∈ ts, OwnT m t.1 t.2.1 t.2.2
  dom : ∀ t ∈ ts, ∀ b, t.1 b → m b ≠ none
  nb : ∀ t ∈ ts, ∀ p ∈ bs, ¬ t.1 p.1
  dis : ts.Pairwise fun a b => ∀ g, a.1 g → ¬ b.1 g
variable {m m' : Mem} {bs : List (Nat × List AV)} {ts : List ((Nat → Prop) × AV × AV)}
theorem Hold.nil (m : Mem) : Hold m [] [] := ⟨by simp, by simp, by simp, by simp, .nil⟩
theorem Hold.ext (h : Hold m bs ts) (hE : Ext m m') : Hold m' bs ts :=
  ⟨fun p hp => hE _ _ (h.box p hp), fun t ht => (h.tree t ht).ext (h.dom t ht) hE, fun t ht b hb => by rw [ext_at hE (h.dom t ht b hb)]; exact h.dom t ht b hb, h.nb, h.dis⟩
def BIG : Int := 4611686018427387904
/-- What marking comes to: of what looks as x, of c cells. -/
def MarkC (P : Program) (n : FuncId) {X : Type} (look : X → AV) (H : X → Int → Int → Prop) (x : X) (c : Nat) : Prop :=
  ∀ (m : Mem) (F : Nat → Prop) (v : AV), OwnT m F v (look x) → ∀ k : Int, 0 < k → k + (c : Int) ≤ BIG → ∀ K : AV → Mem → Prop,
    (∀ m' x', (∀ b y, ¬ F b → m b = some y → m' b = some y) → OwnT m' F v (look x') → H x' k (k + (c : Int)) → K (.int .i64 (k + (c : Int))) m') → WCall P n [v, .int .i64 k] m K
/-- What the look at marks comes to. -/
def HeldC (P : Program) (n : FuncId) {X : Type} (look : X → AV) (H : X → Int → Int → Prop) : Prop :=
  ∀ (x : X) (k k' : Int), 0 < k → k' ≤ BIG → H x k k' → PCall P n [look x, .int .i64 k] (.int .i64 k')
theorem OwnTs.split {F : Nat → Prop} : ∀ {as bs xs : List AV}, OwnTs m F (as ++ bs) xs → ∃ (A B : Nat → Prop) (us ws : List AV), xs = us ++ ws ∧ us.length = as.length ∧ OwnTs m A as us ∧ OwnTs m B bs ws ∧ (∀ g, A g → ¬ B g) ∧ (∀ g, A g → F g) ∧ ∀ g, B g → F g
  | [], bs, xs, h => ⟨fun _ => False, F, [], xs, rfl, rfl, .nil, h, fun _ h => h.elim, fun _ h => h.elim, fun _ h => h⟩
  | a :: as, bs, xs, h => by
    cases h with | @cons _ A1 A2 _ x _ xs h1 h2 h3 h4 h5 =>
    obtain ⟨A, B, us, ws, rfl, hl, k1, k2, k3, k4, k5⟩ := OwnTs.split (as := as) (bs := bs) h2
    exact ⟨fun g => A1 g ∨ A g, B, x :: us, ws, rfl, by simp [hl], .cons h1 k1 (fun g hg hq => h3 g hg (k4 g hq)) (fun g h => .inl h) (fun g h => .inr h), k2, fun g hg hq => hg.elim (fun h => h3 g h (k5 g hq)) (fun h => k3 g h hq), fun g hg => hg.elim (h4 g) (fun h => h5 g (k4 g h)), fun g hg => h5 g (k5 g hg)⟩
/-- Some of the cells, as a struct; they may be written. -/
theorem OwnTs.part {F : Nat → Prop} {a b c xs : List AV} (h : OwnTs m F (a ++ (b ++ c)) xs) (hok : b.all okCell = true) : ∃ (B : Nat → Prop) (x y z : List AV), xs = x ++ (y ++ z) ∧ x.length = a.length ∧ y.length = b.length ∧ OwnT m B (.agg b) (.agg y) ∧ (∀ g, B g → F g) ∧
    ∀ m' y', (∀ g w, ¬ B g → m g = some w → m' g = some w) → OwnT m' B (.agg b) (.agg y') → (∀ g, F g → m g ≠ none) → OwnTs m' F (a ++ (b ++ c)) (x ++ (y' ++ z)) := by
  obtain ⟨A, R, x, r, rfl, hl, h1, h2, d1, s1, s2⟩ := OwnTs.split h
  obtain ⟨B, C, y, z, rfl, hl2, h3, h4, d2, s3, s4⟩ := OwnTs.split h2
  refine ⟨B, x, y, z, rfl, hl, hl2, .agg h3 hok, fun g hg => s2 g (s3 g hg), fun m' y' ho hO hdm => ?_⟩
  obtain ⟨bs, e, hy, _⟩ := own_agg hO
  cases e
  have keep : ∀ g, F g → ¬ B g → m' g = m g := fun g hF hB => by
    cases hq : m g with
    | none => exact absurd hq (hdm g hF)
    | some w => exact ho g w hB hq
  refine (h1.mem fun g hg => keep g (s1 g hg) fun hB => d1 g hg (s3 g hB)).append (hy.append (h4.mem fun g hg => keep g (s2 g (s4 g hg)) fun hB => d2 g hB hg) d2 (fun g hg => s3 g hg) (fun g hg => s4 g hg)) d1 s1 s2
end Go.T
namespace Go.T
open Go
variable {m m' : Mem}
/-- A row of rows' look is the row's. -/
theorem MarkC.le {P : Program} {n : FuncId} {X : Type} {look : X → AV} {H : X → Int → Int → Prop} {x : X} {c : Nat} (h : MarkC P n look H x c) : MarkC P n look H x c := h
end Go.T
namespace Go.T
open Go
set_option linter.unusedSimpArgs false
set_option linter.unusedVariables false
theorem Gr.keep {T : TypeId} {e : Nat} {m0 m m' : Mem} {xs : List AV} {v : AV} (h : Gr T e m0 xs v m) (h0 : Ext m0 m') (hk : ∀ g, m g ≠ none → (∀ cs, m g ≠ some (.box cs)) → m' g = m g) : Gr T e m0 xs v m' := by
  obtain ⟨_, h⟩ := h
  refine ⟨h0, h.imp id ?_⟩
  rintro ⟨g, c, h1, h2, h3⟩
  exact ⟨g, c, h1, by rw [hk g (by rw [h2]; simp) (by intro cs; rw [h2]; simp)]; exact h2, h3⟩
end Go.T
namespace Go.T
end Go.T
namespace Go.T
@[simp] theorem cells_ref (cs : List AV) : (AV.ref cs).cells = [.ref cs] := (_root_.id rfl)
@[simp] theorem cells_nilp : AV.nilp.cells = [.nilp] := (_root_.id rfl)
@[simp] theorem cells_elt (g e i o : Nat) : (AV.elt g e i o).cells = [.elt g e i o] := (_root_.id rfl)
end Go.T
namespace Go.T
open Go
set_option linter.unusedSimpArgs false
set_option linter.unusedVariables false
/-- What looks so is so. -/
def Leafy (x : AV) : Prop := ∀ (m : Mem) (F : Nat → Prop) (y : AV), OwnT m F y x → y = x
theorem leafy_cons {m : Mem} {F : Nat → Prop} {ys xs : List AV} (h : OwnTs m F ys xs) (hl : ∀ x ∈ xs, Leafy x) : ys = xs := by
  induction xs generalizing ys F with
  | nil => cases h; rfl
  | cons x xs ih =>
    cases h with | cons h1 h2 _ _ _ =>
    rw [hl x (List.mem_cons_self ..) _ _ _ h1, ih h2 fun y hy => hl y (List.mem_cons_of_mem _ hy)]
theorem GrowO.leaf {E : TypeId} {n : Nat} {m : Mem} {F : Nat → Prop} {v : AV} {xs : List AV} (h : GrowO E n m F v xs) (hl : ∀ x ∈ xs, Leafy x) : (v = .lst true 0 [] ∧ xs = []) ∨ ∃ g c, v = .own g xs.length c ∧ m g = some (.arr E n c xs) ∧ F g := by
  rcases h with h | ⟨g, c, ys, G, rfl, h1, h2, h3, h4, h5⟩
  · exact .inl h
  · have := leafy_cons h2 hl
    subst this
    exact .inr ⟨g, c, rfl, h1, h5⟩
/-- A row has room for what it holds. -/
theorem AWp.len {P : Program} {N : Nat} {code : Code} {Q : Exit → St → Prop} {s : St} {g c e : Nat} {T : TypeId} {xs : List AV} (hg : s.mem g = some (.arr T e c xs)) (h : xs.length ≤ c → AWp P N code Q s) : AWp P N code Q s := fun C a w hr hN => by
  obtain ⟨S, _, hm, _⟩ := hr.ex
  obtain ⟨vs, us, _, _, _, _, h5⟩ := hm.blk g _ hg
  exact h h5 C a w hr hN
end Go.T
