/- How operations are worked out, further: what is in a list, in a struct, in a block. -/
import Derived.Test.YtkheogobahhbpaaT16
namespace Go.T
open Go
set_option linter.unusedSimpArgs false
set_option linter.unusedVariables false
section
variable {P : Program}

@[simp] theorem len_str (T : TypeId) (s : ByteArray) : lenA P (some T) (.str s) = match P.underlying T with | some .string => some (.int .i64 s.size) | _ => none := (_root_.id rfl)
@[simp] theorem len_lst (T : TypeId) (f : Bool) (e : Nat) (xs : List AV) : lenA P (some T) (.lst f e xs) = match P.underlying T with | some (.slice _) => some (.int .i64 xs.length) | _ => none := (_root_.id rfl)
@[simp] theorem len_own (T : TypeId) (g n c : Nat) : lenA P (some T) (.own g n c) = match P.underlying T with | some (.slice _) => some (.int .i64 n) | _ => none := (_root_.id rfl)
theorem bytes_get (s : ByteArray) (i : Nat) : s[i]? = s.data.toList[i]? := by
  by_cases h : i < s.size
  · have h' : i < s.data.toList.length := by have := size_list s; omega
    rw [getElem?_pos s i h, List.getElem?_eq_getElem h']
    rfl
  · have h' : s.data.toList.length ≤ i := by have := size_list s; omega
    rw [getElem?_neg s i h, List.getElem?_eq_none h']
theorem sidx {T : TypeId} {s : ByteArray} {k : IntKind} {i : Nat} {b : UInt8} (hu : P.underlying T = some .string) (h : s.data.toList[i]? = some b) : sidxA P T (.str s) (.int k i) = some (.int .u8 b.toNat) := by
  have h2 : ¬ ((i : Int) < 0) := by omega
  simp [sidxA, hu, h2, bytes_get, h]
theorem idx {m : Mem} {T : TypeId} {f : Bool} {e : Nat} {xs : List AV} {k : IntKind} {i : Nat} {y : AV} (he : esz P T = some e) (h : xs[i]? = some y) : idxA P m T (.lst f e xs) (.int k i) = some (.ref y.cells) := by
  have h2 : ¬ ((i : Int) < 0) := by omega
  simp [idxA, he, h2, h]
theorem idx_own {m : Mem} {T U : TypeId} {g n c c' e : Nat} {xs : List AV} {k : IntKind} {i : Nat} (he : esz P T = some e) (hg : m g = some (.arr U e c' xs)) (hn : xs.length = n) (h : i < n) : idxA P m T (.own g n c) (.int k i) = some (.elt g e i 0) := by
  have h2 : ¬ ((i : Int) < 0) := by omega
  simp [idxA, he, h2, hg, hn, h]
@[simp] theorem load_ref (m : Mem) (T : TypeId) (cs : List AV) : loadA P m T (.ref cs) = match loadT P T with | some (n, b) => loadC n b cs | none => none := by
  unfold loadA; cases loadT P T <;> rfl
@[simp] theorem load_ptr (m : Mem) (T : TypeId) (g o : Nat) : loadA P m T (.ptr g o) = match loadT P T with | some (n, b) => (match m g with | some (.box cs) => loadC n b (cs.drop o) | _ => none) | none => none := by
  unfold loadA; cases loadT P T <;> rfl
@[simp] theorem load_elt (m : Mem) (T : TypeId) (g e i o : Nat) : loadA P m T (.elt g e i o) = match loadT P T with | some (n, b) => (match m g with | some (.arr _ e' _ xs) => if e = e' then match xs[i]? with | some x => loadC n b (x.cells.drop o) | none => none else none | _ => none) | none => none := by
  unfold loadA; cases loadT P T <;> rfl
@[simp] theorem loadC_one (n : Nat) (c : AV) (cs : List AV) : loadC n false (c :: cs) = some c := (_root_.id rfl)
@[simp] theorem loadC_agg (n : Nat) (cs : List AV) : loadC n true cs = if n ≤ cs.length then some (.agg (cs.take n)) else none := (_root_.id rfl)
@[simp] theorem faddr_ref (T : TypeId) (f : Nat) (cs : List AV) : faddrA P T f (.ref cs) = match fieldT P T f with | some (o, n, _) => if n = 0 then none else some (.ref (cs.drop o)) | none => none := (_root_.id rfl)
@[simp] theorem faddr_ptr (T : TypeId) (f g k : Nat) : faddrA P T f (.ptr g k) = match fieldT P T f with | some (o, n, _) => if n = 0 then none else some (.ptr g (k + o)) | none => none := (_root_.id rfl)
@[simp] theorem faddr_elt (T : TypeId) (f g e i k : Nat) : faddrA P T f (.elt g e i k) = match fieldT P T f with | some (o, n, _) => if n = 0 then none else some (.elt g e i (k + o)) | none => none := (_root_.id rfl)
@[simp] theorem field_agg (T : TypeId) (f : Nat) (cs : List AV) : fieldA P T f (.agg cs) = match fieldT P T f with | some (o, n, b) => loadC n b (cs.drop o) | none => none := by
  unfold fieldA; cases fieldT P T f <;> rfl
@[simp] theorem conv_int (U V : TypeId) (k : IntKind) (n : Int) : convA P U V (.int k n) = match P.underlying U, P.underlying V with | some (.int _), some (.int k) => some (.int k (k.wrap n)) | _, _ => none := (_root_.id rfl)
@[simp] theorem conv_lst (U V : TypeId) (f : Bool) (e : Nat) (xs : List AV) : convA P U V (.lst f e xs) = match P.underlying U, P.underlying V with
    | some (.slice el), some .string => match P.underlying el with
      | some (.int .u8) => if e = 1 then (numsA xs).map fun ns => .str (bytesOf ns) else none
      | _ => none
    | _, _ => none := (_root_.id rfl)
@[simp] theorem conv_str (U V : TypeId) (s : ByteArray) : convA P U V (.str s) = match P.underlying U, P.underlying V with | some .string, some .string => some (.str s) | _, _ => none := (_root_.id rfl)
@[simp] theorem max_int (k k' : IntKind) (x y : Int) : max2A (.int k x) (.int k' y) = some (.int k (if x < y then y else x)) := (_root_.id rfl)
@[simp] theorem min_int (k k' : IntKind) (x y : Int) : min2A (.int k x) (.int k' y) = some (.int k (if y < x then y else x)) := (_root_.id rfl)
@[simp] theorem build_eq (T : TypeId) (parts : List (Nat × AV)) : buildA P T parts = match placesT P T, zeroT P T with
  | some pl, some z => (match z with
    | .undef => none
    | z => (fillA (fun i => pl[i]?) z.cells parts).map .agg)
  | _, _ => none := (_root_.id rfl)
@[simp] theorem fill_nil (pl : Nat → Option (Nat × Nat)) (cells : List AV) : fillA pl cells [] = some cells := (_root_.id rfl)
@[simp] theorem fill_cons (pl : Nat → Option (Nat × Nat)) (cells : List AV) (i : Nat) (v : AV) (rest : List (Nat × AV)) : fillA pl cells ((i, v) :: rest) = match pl i with
  | none => none
  | some (off, size) => match v with
    | .undef => none
    | v => if v.cells.length = size then (if off + size ≤ cells.length then fillA pl (cells.take off ++ v.cells ++ cells.drop (off + size)) rest else none) else none := (_root_.id rfl)

section
variable (p : Bool) (s : St) (K : St → Prop) (d : Option Tmp) (T : TypeId) (pos : String) (af : Array Edge) (g : Option (Nat × Bool))
@[simp] theorem aop_append (x y : Operand) (ts : Array TypeId) : AOp P p ⟨d, .call ⟨.builtin .append, #[x, y], ts⟩, T, pos, af, g⟩ s K = appendW P s.mem (fun v m' => K ((s.put d v).withMem m')) ts (s.eval x) (s.eval y) := (_root_.id rfl)
@[simp] theorem aop_buildSlice (U : TypeId) (n : Nat) (parts : Array (Nat × Operand)) : AOp P p ⟨d, .buildSlice U n parts, T, pos, af, g⟩ s K = match esz P U with
    | some e => n = parts.size ∧ n * e ≤ 16777216 ∧ e ≠ 0 ∧ (match elemT P U with | some E => (zeroE P E).isSome = true | none => False) ∧
      (match literalA e (parts.toList.map fun q => (q.1, s.eval q.2)) with | some xs => K (s.put d (.lst true e xs)) | none => False)
    | none => False := by
  have e : ∀ v, (s.put d v).withMem s.mem = s.put d v := fun v => by cases d <;> rfl
  simp only [AOp, outR, WT, e]
  rfl
@[simp] theorem aop_box (U : TypeId) (x : Operand) : AOp P p ⟨d, .box U x, T, pos, af, g⟩ s K = match s.eval x with | .undef => False | v => ∀ b, s.mem b = none → K ((s.put d (.ptr b 0)).withMem (s.mem.set b (.box v.cells))) := (_root_.id rfl)
@[simp] theorem aop_alloc (U : TypeId) : AOp P p ⟨d, .alloc U, T, pos, af, g⟩ s K = match zeroE P U with | some z => ∀ b, s.mem b = none → K ((s.put d (.ptr b 0)).withMem (s.mem.set b (.box z.cells))) | none => False := (_root_.id rfl)
@[simp] theorem aop_store (U : TypeId) (a x : Operand) : AOp P p ⟨d, .store U a x, T, pos, af, g⟩ s K = match s.eval x with
    | .undef => False
    | v => match szT P U with
      | some n => v.cells.length = n ∧ v.cells.all okCell = true ∧ (match storeA s.mem (s.eval a) v with | some m' => K ((s.put d .undef).withMem m') | none => False)
      | none => False := (_root_.id rfl)
end
@[simp] theorem lit_eq (n : Nat) (parts : List (Nat × AV)) : literalA n parts = if parts.map (·.1) = List.range parts.length ∧ parts.all (fun p => (match p.2 with | .undef => false | _ => true) && (p.2.cells.length == n)) = true then some (parts.map (·.2)) else none := (_root_.id rfl)
@[simp] theorem store_ptr (m : Mem) (g o : Nat) (x : AV) : storeA m (.ptr g o) x = match m g with
    | some (.box cs) => if o + x.cells.length ≤ cs.length then some (m.set g (.box (cs.take o ++ x.cells ++ cs.drop (o + x.cells.length)))) else none
    | _ => none := (_root_.id rfl)

@[simp] theorem aop_makeSlice (p : Bool) (s : St) (K : St → Prop) (d : Option Tmp) (T : TypeId) (pos : String) (af : Array Edge) (g : Option (Nat × Bool)) (U : TypeId) (l c : Operand) : AOp P p ⟨d, .makeSlice U l c, T, pos, af, g⟩ s K = match s.eval l, s.eval c with
    | .int _ n, .int _ n' => (match elemT P U with
      | some E => (match szT P E, bytesT P E, zeroE P E with
        | some e, some b, some z => n = n' ∧ 0 ≤ n ∧ n * b ≤ 281474976710656 ∧ e ≠ 0 ∧ z.cells.length = e ∧ n ≤ 9223372036854775807 ∧
          ∀ g, s.mem g = none → K ((s.put d (.own g n.toNat n.toNat)).withMem (s.mem.set g (.arr E e n.toNat (List.replicate n.toNat z))))
        | _, _, _ => False)
      | none => False)
    | _, _ => False := (_root_.id rfl)
theorem store_elt {m : Mem} {g e i c : Nat} {T : TypeId} {xs : List AV} {x : AV} (hg : m g = some (.arr T e c xs)) (hi : i < xs.length) (hx : x.cells.length = e) : storeA m (.elt g e i 0) x = some (m.set g (.arr T e c (xs.set i x))) := by
  simp [storeA, hg, List.getElem?_eq_getElem hi, hx]
theorem set_at (m : Mem) (g : Nat) (b : Blk) (k : Nat) : m.set g b k = if k = g then some b else m k := rfl
theorem take_set {xs ys : List AV} {i : Nat} {v : AV} (h : xs.take i = ys.take i) (hl : xs.length = ys.length) (hi : ys[i]? = some v) : (xs.set i v).take (i + 1) = ys.take (i + 1) := by
  have hlt : i < ys.length := (List.getElem?_eq_some_iff.1 hi).1
  rw [List.take_add_one, List.take_add_one, List.take_set_of_le (Nat.le_refl _), h, hi, List.getElem?_set_self (by omega)]
theorem post_cell {fn : Func} {a : Tmp} {T : TypeId} {r : AV} {e : Exit} {s : St} (he : e = .ret ∨ e = .normal) (hr : fn.results = #[.cell a T]) (h : loadA P s.mem T (s.slots a) = some r) : Post P fn (fun r' _ => r' = r) e s := by
  have : ∃ vs r' m', resA P s.mem s.slots fn.results.toList = some vs ∧ View s.mem (oneOf vs) m' r' ∧ r' = r := ⟨[r], r, s.mem, by rw [hr]; simp [resA, h], View.refl _ _, rfl⟩
  rcases he with rfl | rfl <;> exact this
theorem post_own {fn : Func} {t : Tmp} {g n c e : Nat} {T : TypeId} {xs : List AV} {r : AV} {s : St} (hr : fn.results = #[.tmp t]) (hs : s.slots t = .own g n c) (hg : s.mem g = some (.arr T e c xs)) (hn : xs.length = n) (h : .lst false e xs = r) : Post P fn (fun r' _ => r' = r) .ret s :=
  post_retW hr ⟨.lst false e xs, s.mem.del g, by rw [hs]; exact View.freeze hg hn, h⟩
@[simp] theorem ok_int (k : IntKind) (n : Int) : okCell (.int k n) = true := (_root_.id rfl)
@[simp] theorem ok_bool (b : Bool) : okCell (.bool b) = true := (_root_.id rfl)
@[simp] theorem ok_str (s : ByteArray) : okCell (.str s) = true := (_root_.id rfl)
@[simp] theorem ok_lst (f : Bool) (e : Nat) (xs : List AV) : okCell (.lst f e xs) = true := (_root_.id rfl)
@[simp] theorem ok_own (g n c : Nat) : okCell (.own g n c) = true := (_root_.id rfl)
@[simp] theorem ok_ptr (g o : Nat) : okCell (.ptr g o) = true := (_root_.id rfl)
theorem AWp.condT {N : Nat} {c : Operand} {x y : Code} {Q : Exit → St → Prop} {s : St} (hc : s.eval c = .bool true) (h : AWp P N x Q s) : AWp P N (.cond c x y) Q s := AWp.cond hc (fun _ => h) (fun h => by cases h)
theorem AWp.condF {N : Nat} {c : Operand} {x y : Code} {Q : Exit → St → Prop} {s : St} (hc : s.eval c = .bool false) (h : AWp P N y Q s) : AWp P N (.cond c x y) Q s := AWp.cond hc (fun h => by cases h) (fun _ => h)
/-- A condition that is not known. -/
theorem AWp.condI {N : Nat} {c : Operand} {x y : Code} {Q : Exit → St → Prop} {s : St} {b : Bool} (hc : s.eval c = .bool b) (h : if b = true then AWp P N x Q s else AWp P N y Q s) : AWp P N (.cond c x y) Q s := AWp.cond hc (fun e => by rwa [if_pos e] at h) (fun e => by rwa [if_neg (by simp [e])] at h)
/-- X where a condition holds, else Y. -/
def condRun (v : AV) (X Y : Prop) : Prop := match v with
  | .bool b => if b = true then X else Y
  | _ => False
@[congr] theorem condRun_congr {v v' : AV} {X Y : Prop} (h : v = v') : condRun v X Y = condRun v' X Y := by rw [h]
@[simp] theorem condRun_t (X Y : Prop) : condRun (.bool true) X Y = X := by simp [condRun]
@[simp] theorem condRun_f (X Y : Prop) : condRun (.bool false) X Y = Y := by simp [condRun]
theorem condRunI {c : Bool} {X Y : Prop} (h1 : c = true → X) (h2 : c = false → Y) : condRun (.bool c) X Y := by
  unfold condRun
  cases c
  · exact h2 rfl
  · exact h1 rfl
theorem AWp.condG {N : Nat} {c : Operand} {x y : Code} {Q : Exit → St → Prop} {s : St} (h : condRun (s.eval c) (AWp P N x Q s) (AWp P N y Q s)) : AWp P N (.cond c x y) Q s := by
  unfold condRun at h
  split at h
  · rename_i b hb
    exact AWp.cond hb (fun e => by rwa [if_pos e] at h) (fun e => by rwa [if_neg (by simp [e])] at h)
  · exact h.elim
theorem aop_call' {p : Bool} {s : St} {K : St → Prop} {d : Option Tmp} {T : TypeId} {pos : String} {af : Array Edge} {g : Option (Nat × Bool)} {f : FuncId} {args : Array Operand} {ts : Array TypeId} {r : AV} (h : PCall P f (args.toList.map s.eval) r) (hk : K (s.put d r)) : AOp P p ⟨d, .call ⟨.value (.func f), args, ts⟩, T, pos, af, g⟩ s K := aop_call _ _ _ _ _ _ _ _ h hk
theorem iteI {c : Prop} [Decidable c] {x y : Prop} (h1 : c → x) (h2 : ¬ c → y) : if c then x else y := by split <;> simp_all
/-- A loop; R: what holds at the next round's head. -/
theorem AWp.rounds {N : Nat} {c : Code} {Q : Exit → St → Prop} {s : St} (I : Nat → St → Prop) (n : Nat) (h0 : I n s) (round : ∀ (R : St → Prop) n s, (∀ s' m, m < n → I m s' → R s') → I n s → AWp P N c (thenA R Q) s) : AWp P N (.loop c) Q s :=
  AWp.loop I n h0 fun n s h => round _ n s (fun s' m hm hI => ⟨m, hm, hI⟩) h
/-- 64 bits hold it. -/
theorem wrap64 {x : Int} (h : -9223372036854775808 ≤ x) (k : x ≤ 9223372036854775807) : IntKind.wrap .i64 x = x := by
  rw [IntKind.wrap_i64]; omega
end
end Go.T
