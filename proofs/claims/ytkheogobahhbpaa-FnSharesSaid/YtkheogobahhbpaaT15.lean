/- How operations are worked out. -/
import Derived.Test.YtkheogobahhbpaaT14
namespace Go.T
open Go
set_option linter.unusedSimpArgs false
set_option linter.unusedVariables false
section
variable {P : Program}

theorem size_list (x : ByteArray) : x.size = x.data.toList.length := by rw [Array.length_toList]; rfl
theorem toList_loop (x : ByteArray) : ∀ (n i : Nat) (r : List UInt8), x.size - i = n → ByteArray.toList.loop x i r = r.reverse ++ x.data.toList.drop i
  | 0, i, r, h => by
    rw [ByteArray.toList.loop]
    have : ¬ i < x.size := by omega
    rw [if_neg this, List.drop_eq_nil_of_le (by have := size_list x; omega)]
    simp
  | n + 1, i, r, h => by
    rw [ByteArray.toList.loop]
    have hi : i < x.size := by omega
    have hl : i < x.data.toList.length := by have := size_list x; omega
    rw [if_pos hi, toList_loop x n (i + 1) _ (by omega), List.drop_eq_getElem_cons hl]
    have : x.get! i = x.data.toList[i] := by
      simp only [ByteArray.get!]
      rw [getElem!_pos x.data i (show i < x.data.size from hi)]
      simp
    simp [this]
theorem bytes_list (x : ByteArray) : x.toList = x.data.toList := by
  have := toList_loop x _ 0 [] rfl
  simpa [ByteArray.toList] using this
theorem bytes_eq (x y : ByteArray) : x.toList = y.toList ↔ x = y := ⟨fun h => by rw [bytes_list, bytes_list] at h; cases x; cases y; simpa using h, fun h => by rw [h]⟩

@[simp] theorem put_slot (s : St) (d t : Tmp) (v : AV) : (s.put (some d) v).slots t = if t = d then v else s.slots t := (_root_.id rfl)
@[simp] theorem put_none (s : St) (v : AV) : s.put none v = s := (_root_.id rfl)
@[simp] theorem withMem_slot (s : St) (m : Mem) (t : Tmp) : (s.withMem m).slots t = s.slots t := (_root_.id rfl)
@[simp] theorem withMem_mem (s : St) (m : Mem) : (s.withMem m).mem = m := (_root_.id rfl)
@[simp] theorem put_mem' (s : St) (d : Tmp) (v : AV) : (s.put (some d) v).mem = s.mem := (_root_.id rfl)
@[simp] theorem init_slot (l : List AV) (m : Mem) (t : Tmp) : (St.init l m).slots t = l.getD t (.tup []) := (_root_.id rfl)
@[simp] theorem init_mem (l : List AV) (m : Mem) : (St.init l m).mem = m := (_root_.id rfl)
@[simp] theorem eval_tmp (s : St) (t : Tmp) : s.eval (.tmp t) = s.slots t := (_root_.id rfl)
@[simp] theorem eval_const (s : St) (v : Value) : s.eval (.const v) = constA v := (_root_.id rfl)
@[simp] theorem eval_func (s : St) (f : FuncId) : s.eval (.func f) = .func (.func f) [] := (_root_.id rfl)
@[simp] theorem constA_int (k : IntKind) (n : Int) : constA (.int k n) = .int k n := (_root_.id rfl)
@[simp] theorem constA_bool (b : Bool) : constA (.bool b) = .bool b := (_root_.id rfl)
@[simp] theorem constA_str (s : ByteArray) : constA (.string s) = .str s := (_root_.id rfl)
@[simp] theorem constA_nil : constA (.slice none 0 0) = .lst true 0 [] := (_root_.id rfl)
@[simp] theorem constA_nilp : constA (.pointer none) = .nilp := (_root_.id rfl)
@[simp] theorem constA_agg (cs : Array Value) : constA (.agg cs) = .agg (cs.toList.map scalarA) := (_root_.id rfl)
@[simp] theorem scalarA_int (k : IntKind) (n : Int) : scalarA (.int k n) = .int k n := (_root_.id rfl)
@[simp] theorem scalarA_bool (b : Bool) : scalarA (.bool b) = .bool b := (_root_.id rfl)
@[simp] theorem scalarA_str (s : ByteArray) : scalarA (.string s) = .str s := (_root_.id rfl)
@[simp] theorem scalarA_nil : scalarA (.slice none 0 0) = .lst true 0 [] := (_root_.id rfl)
@[simp] theorem scalarA_nilp : scalarA (.pointer none) = .nilp := (_root_.id rfl)
@[simp] theorem cells_agg (cs : List AV) : (AV.agg cs).cells = cs := (_root_.id rfl)
@[simp] theorem cells_int (k : IntKind) (n : Int) : (AV.int k n).cells = [.int k n] := (_root_.id rfl)
@[simp] theorem cells_bool (b : Bool) : (AV.bool b).cells = [.bool b] := (_root_.id rfl)
@[simp] theorem cells_str (s : ByteArray) : (AV.str s).cells = [.str s] := (_root_.id rfl)
@[simp] theorem cells_lst (f : Bool) (e : Nat) (xs : List AV) : (AV.lst f e xs).cells = [.lst f e xs] := (_root_.id rfl)
@[simp] theorem cells_own (g n c : Nat) : (AV.own g n c).cells = [.own g n c] := (_root_.id rfl)
@[simp] theorem cells_ptr (g o : Nat) : (AV.ptr g o).cells = [.ptr g o] := (_root_.id rfl)
@[simp] theorem cells_func (f : Fn) (cs : List AV) : (AV.func f cs).cells = [.func f cs] := (_root_.id rfl)
@[simp] theorem set_same (m : Mem) (g : Nat) (b : Blk) : m.set g b g = some b := m.set_same g b
@[simp] theorem set_set (m : Mem) (g : Nat) (b b' : Blk) : (m.set g b).set g b' = m.set g b' := by funext k; simp only [Mem.set]; split <;> rfl

@[simp] theorem thenA_normal (R : St → Prop) (Q : Exit → St → Prop) (s : St) : thenA R Q .normal s = R s := (_root_.id rfl)
@[simp] theorem thenA_ret (R : St → Prop) (Q : Exit → St → Prop) (s : St) : thenA R Q .ret s = Q .ret s := (_root_.id rfl)
@[simp] theorem thenA_exit (R : St → Prop) (Q : Exit → St → Prop) (i : Nat) (s : St) : thenA R Q (.exit i) s = Q (.exit i) s := (_root_.id rfl)
@[simp] theorem blockA_normal (id : Nat) (Q : Exit → St → Prop) (s : St) : blockA id Q .normal s = Q .normal s := (_root_.id rfl)
@[simp] theorem blockA_ret (id : Nat) (Q : Exit → St → Prop) (s : St) : blockA id Q .ret s = Q .ret s := (_root_.id rfl)
@[simp] theorem blockA_exit (id i : Nat) (Q : Exit → St → Prop) (s : St) : blockA id Q (.exit i) s = if i = id then Q .normal s else Q (.exit i) s := (_root_.id rfl)

@[simp] theorem ops_nil (p : Nat → Bool) (ops : Array Oper) (K : St → Prop) (i : Nat) (s : St) : AOpsL P p ops K i [] s = K s := (_root_.id rfl)
@[simp] theorem ops_plain (p : Nat → Bool) (ops : Array Oper) (K : St → Prop) (i : Nat) (s : St) (d : Option Tmp) (op : Op) (T : TypeId) (pos : String) (af : Array Edge) (l : List Oper) :
    AOpsL P p ops K i (⟨d, op, T, pos, af, none⟩ :: l) s = AOp P (p i) ⟨d, op, T, pos, af, none⟩ s (AOpsL P p ops K (i + 1) l) := rfl
/-- The guard's value. -/
def gv (ops : Array Oper) (j : Nat) (s : St) : AV := match (ops[j]?).bind (·.dst) with | some t => s.slots t | none => .undef
/-- X where the guard is as wanted, else Y. -/
def guardRun (v : AV) (want : Bool) (X Y : Prop) : Prop := match v with
  | .bool b => if b = want then X else Y
  | .tup [] => Y
  | _ => False
@[congr] theorem guardRun_congr {v v' : AV} {w : Bool} {X Y : Prop} (h : v = v') : guardRun v w X Y = guardRun v' w X Y := by rw [h]
@[simp] theorem guardRun_tt (X Y : Prop) : guardRun (.bool true) true X Y = X := by simp [guardRun]
@[simp] theorem guardRun_ff (X Y : Prop) : guardRun (.bool false) false X Y = X := by simp [guardRun]
@[simp] theorem guardRun_tf (X Y : Prop) : guardRun (.bool true) false X Y = Y := by simp [guardRun]
@[simp] theorem guardRun_ft (X Y : Prop) : guardRun (.bool false) true X Y = Y := by simp [guardRun]
@[simp] theorem guardRun_skip (w : Bool) (X Y : Prop) : guardRun (.tup []) w X Y = Y := by simp [guardRun]
theorem guardI {c w : Bool} {X Y : Prop} (h1 : c = w → X) (h2 : c = !w → Y) : guardRun (.bool c) w X Y := by
  unfold guardRun
  by_cases h : c = w
  · simpa [h] using h1 h
  · simpa [h] using h2 (by cases c <;> cases w <;> simp_all)
/-- One operation behind a guard. -/
@[simp] theorem ops_guard (p : Nat → Bool) (ops : Array Oper) (K : St → Prop) (i : Nat) (s : St) (d : Option Tmp) (op : Op) (T : TypeId) (pos : String) (af : Array Edge) (j : Nat) (want : Bool) (l : List Oper) :
    AOpsL P p ops K i (⟨d, op, T, pos, af, some (j, want)⟩ :: l) s =
    guardRun (gv ops j s) want (AOp P (p i) ⟨d, op, T, pos, af, none⟩ s (AOpsL P p ops K (i + 1) l)) (AOpsL P p ops K (i + 1) l (s.put d (.tup []))) := by
  show GOp P (p i) ops _ s _ = _
  unfold GOp wantedA gv guardRun
  simp only
  cases hj : (ops[j]?).bind (·.dst) with
  | none => rfl
  | some t =>
    simp only
    cases hs : s.slots t with
    | bool b =>
      simp only
      by_cases h : b = want
      · subst h; simp; rfl
      · have : (b == want) = false := by simpa using h
        simp [this, h]
    | tup l => cases l <;> rfl
    | _ => rfl
@[simp] theorem gv_eq (ops : Array Oper) (j : Nat) (s : St) : gv ops j s = match (ops[j]?).bind (·.dst) with | some t => s.slots t | none => .undef := (_root_.id rfl)

section
variable (p : Bool) (s : St) (K : St → Prop) (d : Option Tmp) (T : TypeId) (pos : String) (af : Array Edge) (g : Option (Nat × Bool))
@[simp] theorem aop_move (x : Operand) : AOp P p ⟨d, .move x, T, pos, af, g⟩ s K = K (s.put d (s.eval x)) := (_root_.id rfl)
@[simp] theorem aop_assign (x : Operand) : AOp P p ⟨d, .assign x, T, pos, af, g⟩ s K = K (s.put d (s.eval x)) := (_root_.id rfl)
@[simp] theorem aop_pick (c a b : Operand) : AOp P p ⟨d, .pick c a b, T, pos, af, g⟩ s K = match s.eval c with | .bool t => K (s.put d (if t then s.eval a else s.eval b)) | _ => False := by
  simp only [AOp, outR]; cases s.eval c <;> rfl
/-- A step that only reads. -/
def goO (x : Option AV) (d : Option Tmp) (s : St) (K : St → Prop) : Prop := match x with | some v => K (s.put d v) | none => False
theorem aop_go {p : Bool} {o : Oper} {s : St} {K : St → Prop} {x : Option AV} (h : outR P s.mem s.eval o.op = x) (hw : ∀ k, WT P p s.mem s.eval k o.op → False) : AOp P p o s K = goO x o.dst s K := by
  subst h
  unfold AOp goO
  cases outR P s.mem s.eval o.op with
  | some v => rfl
  | none => exact eq_false (hw _)
@[simp] theorem goO_some (v : AV) : goO (some v) d s K = K (s.put d v) := (_root_.id rfl)
@[simp] theorem aop_bin (op : BinOp) (U : TypeId) (x y : Operand) (V : TypeId) : AOp P p ⟨d, .binOp op U x y V, T, pos, af, g⟩ s K = goO (match binA op (s.eval x) (s.eval y) with | some v => some v | none => eqO P op U (s.eval x) (s.eval y)) d s K := by
  exact aop_go rfl (fun _ h => h)
@[simp] theorem aop_un (op : UnOp) (U : TypeId) (x : Operand) : AOp P p ⟨d, .unOp op U x, T, pos, af, g⟩ s K = goO (unA op (s.eval x)) d s K := by
  exact aop_go rfl (fun _ h => h)
@[simp] theorem aop_conv (U V : TypeId) (x : Operand) : AOp P p ⟨d, .convert U V x, T, pos, af, g⟩ s K = goO (convA P U V (s.eval x)) d s K := by
  exact aop_go rfl (fun _ h => h)
@[simp] theorem aop_faddr (U : TypeId) (x : Operand) (f : Nat) : AOp P p ⟨d, .fieldAddr U x f, T, pos, af, g⟩ s K = goO (faddrA P U f (s.eval x)) d s K := by
  exact aop_go rfl (fun _ h => h)
@[simp] theorem aop_field (U : TypeId) (x : Operand) (f : Nat) : AOp P p ⟨d, .field U x f, T, pos, af, g⟩ s K = goO (fieldA P U f (s.eval x)) d s K := by
  exact aop_go rfl (fun _ h => h)
@[simp] theorem aop_load (U : TypeId) (x : Operand) : AOp P p ⟨d, .load U x, T, pos, af, g⟩ s K = goO (loadA P s.mem U (s.eval x)) d s K := by
  exact aop_go rfl (fun _ h => h)
@[simp] theorem aop_iaddr (U : TypeId) (x i : Operand) : AOp P p ⟨d, .indexAddr U x i, T, pos, af, g⟩ s K = goO (idxA P s.mem U (s.eval x) (s.eval i)) d s K := by
  exact aop_go rfl (fun _ h => h)
@[simp] theorem aop_index (U : TypeId) (x i : Operand) : AOp P p ⟨d, .index U x i, T, pos, af, g⟩ s K = goO (sidxA P U (s.eval x) (s.eval i)) d s K := by
  exact aop_go rfl (fun _ h => h)
@[simp] theorem aop_slice (U : TypeId) (x : Operand) (lo hi : Option Operand) : AOp P p ⟨d, .slice U x lo hi none, T, pos, af, g⟩ s K = goO (sliceA P U (s.eval x) (lo.map s.eval) (hi.map s.eval)) d s K := by
  exact aop_go rfl (fun _ h => h)
@[simp] theorem aop_extract (t : Operand) (i : Nat) : AOp P p ⟨d, .extract t i, T, pos, af, g⟩ s K = goO (match s.eval t with | .tup vs => vs[i]? | _ => none) d s K := by
  exact aop_go rfl (fun _ h => h)
@[simp] theorem aop_build (U : TypeId) (parts : Array (Nat × Operand)) : AOp P p ⟨d, .build U parts, T, pos, af, g⟩ s K = goO (buildA P U (parts.toList.map fun q => (q.1, s.eval q.2))) d s K := by
  exact aop_go rfl (fun _ h => h)
@[simp] theorem aop_len (x : Operand) (ts : Array TypeId) : AOp P p ⟨d, .call ⟨.builtin .len, #[x], ts⟩, T, pos, af, g⟩ s K = goO (lenA P ts[0]? (s.eval x)) d s K := by
  exact aop_go rfl (fun _ h => h)
@[simp] theorem aop_max (x y : Operand) (ts : Array TypeId) : AOp P p ⟨d, .call ⟨.builtin .max, #[x, y], ts⟩, T, pos, af, g⟩ s K = goO (max2A (s.eval x) (s.eval y)) d s K := by
  refine aop_go ?_ (fun _ h => h)
  simp only [outR, List.map, foldA]
  cases max2A (s.eval x) (s.eval y) <;> rfl
@[simp] theorem aop_min (x y : Operand) (ts : Array TypeId) : AOp P p ⟨d, .call ⟨.builtin .min, #[x, y], ts⟩, T, pos, af, g⟩ s K = goO (min2A (s.eval x) (s.eval y)) d s K := by
  refine aop_go ?_ (fun _ h => h)
  simp only [outR, List.map, foldA]
  cases min2A (s.eval x) (s.eval y) <;> rfl
@[simp] theorem aop_func (fn : Fn) (first : Array Value) (caps : Array Operand) : AOp P p ⟨d, .makeFunc fn #[] caps, T, pos, af, g⟩ s K = K (s.put d (.func fn (caps.toList.map s.eval))) := by
  simp [AOp, outR]
/-- A call of a function that is told by its answer. -/
theorem aop_call {f : FuncId} {args : Array Operand} {ts : Array TypeId} {r : AV} (h : PCall P f (args.toList.map s.eval) r) (hk : K (s.put d r)) : AOp P p ⟨d, .call ⟨.value (.func f), args, ts⟩, T, pos, af, g⟩ s K := by
  have e : (s.put d r).withMem s.mem = s.put d r := by cases d <;> rfl
  simp only [AOp, outR, WT, eval_func, List.append_nil]
  cases p with
  | true => exact ⟨r, h, by rw [e]; exact hk⟩
  | false => exact h.w (by rw [e]; exact hk)
/-- A call, in general. -/
theorem aop_wcall {f : Operand} {args : Array Operand} {ts : Array TypeId} {n : FuncId} {caps : List AV} (hp : p = false) (hf : s.eval f = .func (.func n) caps) (h : WCall P n (args.toList.map s.eval ++ caps) s.mem fun r m => K ((s.put d r).withMem m)) : AOp P p ⟨d, .call ⟨.value f, args, ts⟩, T, pos, af, g⟩ s K := by
  subst hp
  simp only [AOp, outR, WT, hf]
  exact h
end

section
variable (k : IntKind) (a b : Int) (x y : ByteArray)
@[simp] theorem bin_int (op : BinOp) : binA op (.int k a) (.int k b) = intA op k a b := by simp [binA]
@[simp] theorem bin_str (op : BinOp) : binA op (.str x) (.str y) = strA op x y := (_root_.id rfl)
@[simp] theorem int_add : intA .add k a b = some (.int k (k.wrap (a + b))) := (_root_.id rfl)
@[simp] theorem int_sub : intA .sub k a b = some (.int k (k.wrap (a - b))) := (_root_.id rfl)
@[simp] theorem int_mul : intA .mul k a b = some (.int k (k.wrap (a * b))) := (_root_.id rfl)
@[simp] theorem int_quo : intA .quo k a b = if b = 0 then none else some (.int k (k.wrap (a.tdiv b))) := (_root_.id rfl)
@[simp] theorem int_rem : intA .rem k a b = if b = 0 then none else some (.int k (a.tmod b)) := (_root_.id rfl)
@[simp] theorem int_eql : intA .eql k a b = some (.bool (decide (a = b))) := by simp [intA]; rfl
@[simp] theorem int_neq : intA .neq k a b = some (.bool (!decide (a = b))) := by simp [intA]; rfl
@[simp] theorem int_lss : intA .lss k a b = some (.bool (decide (a < b))) := (_root_.id rfl)
@[simp] theorem int_leq : intA .leq k a b = some (.bool (decide (a ≤ b))) := (_root_.id rfl)
@[simp] theorem int_gtr : intA .gtr k a b = some (.bool (decide (b < a))) := (_root_.id rfl)
@[simp] theorem int_geq : intA .geq k a b = some (.bool (decide (b ≤ a))) := (_root_.id rfl)
theorem bytes_beq : (x.toList == y.toList) = decide (x = y) := by
  by_cases h : x = y
  · simp [h]
  · simp [h, bytes_eq]
@[simp] theorem str_eql : strA .eql x y = some (.bool (decide (x = y))) := by rw [← bytes_beq]; rfl
@[simp] theorem str_neq : strA .neq x y = some (.bool (!decide (x = y))) := by rw [← bytes_beq]; rfl
@[simp] theorem str_lss : strA .lss x y = some (.bool (Op.bytesLess x.toList y.toList)) := (_root_.id rfl)
@[simp] theorem str_leq : strA .leq x y = some (.bool (Op.bytesLess x.toList y.toList || decide (x = y))) := by rw [← bytes_beq]; rfl
@[simp] theorem str_gtr : strA .gtr x y = some (.bool !(Op.bytesLess x.toList y.toList || decide (x = y))) := by rw [← bytes_beq]; rfl
@[simp] theorem str_geq : strA .geq x y = some (.bool !(Op.bytesLess x.toList y.toList)) := (_root_.id rfl)
@[simp] theorem un_neg : unA .neg (.int k a) = some (.int k (k.wrap (0 - a))) := (_root_.id rfl)
@[simp] theorem un_not (t : Bool) : unA .not (.bool t) = some (.bool !t) := (_root_.id rfl)
end
end
end Go.T
