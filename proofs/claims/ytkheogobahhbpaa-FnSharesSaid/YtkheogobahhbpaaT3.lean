/- The outcome of an operation that only reads, on trees; and that the model's operation comes to it. -/
import Derived.Test.YtkheogobahhbpaaT2
namespace Go.T
open Go
set_option linter.unusedSimpArgs false
set_option linter.unusedVariables false

def shA (op : BinOp) (k : IntKind) (a b : Int) : Option AV :=
  match op with
  | .shl => if b < 0 then none else some (.int k (k.wrap (a * 2 ^ (min b.toNat k.bits))))
  | .shr => if b < 0 then none else some (.int k (a.fdiv (2 ^ (min b.toNat k.bits))))
  | _ => none
def intA (op : BinOp) (k : IntKind) (a b : Int) : Option AV :=
  match op with
  | .add => some (.int k (k.wrap (a + b)))
  | .sub => some (.int k (k.wrap (a - b)))
  | .mul => some (.int k (k.wrap (a * b)))
  | .quo => if b = 0 then none else some (.int k (k.wrap (a.tdiv b)))
  | .rem => if b = 0 then none else some (.int k (a.tmod b))
  | .eql => some (.bool (a == b))
  | .neq => some (.bool (a != b))
  | .lss => some (.bool (a < b))
  | .leq => some (.bool (a ≤ b))
  | .gtr => some (.bool (a > b))
  | .geq => some (.bool (a ≥ b))
  | .and => some (.int k (k.wrap ((BitVec.ofInt k.bits a &&& BitVec.ofInt k.bits b).toNat)))
  | .or => some (.int k (k.wrap ((BitVec.ofInt k.bits a ||| BitVec.ofInt k.bits b).toNat)))
  | .xor => some (.int k (k.wrap ((BitVec.ofInt k.bits a ^^^ BitVec.ofInt k.bits b).toNat)))
  | .shl => if b < 0 then none else some (.int k (k.wrap (a * 2 ^ (min b.toNat k.bits))))
  | .shr => if b < 0 then none else some (.int k (a.fdiv (2 ^ (min b.toNat k.bits))))
  | _ => none
def strA (op : BinOp) (a b : ByteArray) : Option AV :=
  match op with
  | .add => if a.size + b.size ≤ 9223372036854775807 then some (.str (a ++ b)) else none
  | .eql => some (.bool (a.toList == b.toList))
  | .neq => some (.bool !(a.toList == b.toList))
  | .lss => some (.bool (Op.bytesLess a.toList b.toList))
  | .leq => some (.bool (Op.bytesLess a.toList b.toList || a.toList == b.toList))
  | .gtr => some (.bool !(Op.bytesLess a.toList b.toList || a.toList == b.toList))
  | .geq => some (.bool !(Op.bytesLess a.toList b.toList))
  | _ => none
def binA (op : BinOp) : AV → AV → Option AV
  | .int k a, .int k' b => if k = k' then intA op k a b else shA op k a b
  | .str a, .str b => strA op a b
  | _, _ => none

theorem binA_sound {P : Program} {w : World} {S : Nat → Prop} {op : BinOp} {T : TypeId} {a b v : AV} {x y : Value} (xo yo : Operand) (ha : Rep w S a x) (hb : Rep w S b y) (h : binA op a b = some v) :
    ∃ u, ((do eqGuard op T xo yo x y; binOp op T x y) : Sem Value).run P w = .ok u w ∧ Rep w S v u := by
  have hg : ∀ x y : Value, (match x, y with | .nilIface, .nilIface => False | .agg _, .agg _ => False | _, _ => True) → (eqGuard op T xo yo x y).run P w = .ok () w := by
    intro x y hxy
    unfold eqGuard
    cases op <;> simp <;> (cases x <;> cases y <;> first | exact hxy.elim | rfl)
  unfold binA at h
  split at h
  · rename_i k m k' n
    cases ha; cases hb
    rw [run_ok (hg _ _ trivial)]
    split at h
    · rename_i hk
      subst hk
      cases op <;> simp [intA] at h <;> first
        | (subst h; refine ⟨_, ?_, .int _ _⟩; simp [binOp, Op.intArith, Op.intDiv, Op.intBits, Op.intCmp]; done)
        | (subst h; refine ⟨_, ?_, .bool _⟩; simp [binOp, Op.intArith, Op.intDiv, Op.intBits, Op.intCmp]; done)
        | (obtain ⟨h0, rfl⟩ := h; refine ⟨_, ?_, .int _ _⟩; simp [binOp, Op.intArith, Op.intDiv, Op.intBits, Op.intCmp, Op.shift, h0]; done)
        | (obtain ⟨h0, rfl⟩ := h; refine ⟨_, ?_, .int _ _⟩; simp [binOp, Op.shift]; omega)
    · rename_i hk
      cases op <;> simp [shA] at h <;> (obtain ⟨h0, rfl⟩ := h; refine ⟨_, ?_, .int _ _⟩; simp [binOp, Op.shift]; omega)
  · rename_i s t
    cases ha; cases hb
    rw [run_ok (hg _ _ trivial)]
    cases op <;> simp [strA] at h <;> first
      | (subst h; refine ⟨_, ?_, .bool _⟩; simp [binOp, Op.stringOp]; done)
      | (obtain ⟨h0, rfl⟩ := h; refine ⟨_, ?_, .str _⟩; simp [binOp, Op.stringOp]; omega)
  · cases h

/-- '==' of what is no number and no string. -/
def eqA (P : Program) (T : TypeId) : AV → AV → Option Bool
  | .bool a, .bool b => match P.underlying T with | some .bool => some (a == b) | _ => none
  | .nilp, .nilp => match P.underlying T with | some (.pointer _) => some true | _ => none
  | .nilp, .ptr _ _ | .ptr _ _, .nilp | .nilp, .elt _ _ _ _ | .elt _ _ _ _, .nilp | .nilp, .ref _ | .ref _, .nilp => match P.underlying T with | some (.pointer _) => some false | _ => none
  | _, _ => none
def eqO (P : Program) (op : BinOp) (T : TypeId) (a b : AV) : Option AV :=
  match op with
  | .eql => (eqA P T a b).map .bool
  | .neq => (eqA P T a b).map fun t => .bool !t
  | _ => none
theorem eqIn_sound {P : Program} {w : World} {S : Nat → Prop} {T : TypeId} {a b : AV} {x y : Value} {t : Bool} (d : Nat) (ha : Rep w S a x) (hb : Rep w S b y) (h : eqA P T a b = some t) :
    (Op.equalIn (d + 1) T x y).run P w = .ok t w := by
  unfold eqA at h
  split at h <;> first
    | (cases h; done)
    | (cases ha; cases hb
       split at h <;> cases h
       rename_i hu
       simp [Op.equalIn, run_under hu])
theorem eqA_form {P : Program} {w : World} {S : Nat → Prop} {T : TypeId} {a b : AV} {x y : Value} {t : Bool} (ha : Rep w S a x) (hb : Rep w S b y) (h : eqA P T a b = some t) (op : BinOp) (xo yo : Operand) :
    (eqGuard op T xo yo x y).run P w = .ok () w ∧ (op = .eql → binOp op T x y = (do pure (.bool (← Op.equal T x y)))) ∧ (op = .neq → binOp op T x y = (do pure (.bool (!(← Op.equal T x y))))) := by
  unfold eqA at h
  split at h <;> first
    | (cases h; done)
    | (cases ha; cases hb
       refine ⟨?_, ?_, ?_⟩
       · unfold eqGuard; cases op <;> rfl
       · rintro rfl; rfl
       · rintro rfl; rfl)
theorem eqO_sound {P : Program} {w : World} {S : Nat → Prop} {op : BinOp} {T : TypeId} {a b v : AV} {x y : Value} (xo yo : Operand) (ha : Rep w S a x) (hb : Rep w S b y) (h : eqO P op T a b = some v) :
    ∃ u, ((do eqGuard op T xo yo x y; binOp op T x y) : Sem Value).run P w = .ok u w ∧ Rep w S v u := by
  unfold eqO at h
  cases ht : eqA P T a b with
  | none => rw [ht] at h; cases op <;> cases h
  | some t =>
    rw [ht] at h
    obtain ⟨h1, h2, h3⟩ := eqA_form ha hb ht op xo yo
    have h4 : (Op.equal T x y).run P w = .ok t w := eqIn_sound 9999 ha hb ht
    rw [run_ok h1]
    cases op <;> first
      | (cases h; done)
      | (obtain rfl := Option.some.inj h; rw [h2 rfl, run_ok h4]; exact ⟨_, rfl, .bool _⟩)
      | (obtain rfl := Option.some.inj h; rw [h3 rfl, run_ok h4]; exact ⟨_, rfl, .bool _⟩)

def unA (op : UnOp) : AV → Option AV
  | .int k n => match op with | .neg => some (.int k (k.wrap (0 - n))) | _ => none
  | .bool b => match op with | .not => some (.bool !b) | _ => none
  | _ => none
/-- The numbers of bytes. -/
def numsA : List AV → Option (List Int)
  | [] => some []
  | .int .u8 n :: l => (numsA l).map (n :: ·)
  | _ => none
def bytesOf (ns : List Int) : ByteArray := ns.foldl (fun r n => r.push (UInt8.ofNat n.toNat)) ByteArray.empty
def convA (P : Program) (src dst : TypeId) : AV → Option AV
  | .int _ n => match P.underlying src, P.underlying dst with | some (.int _), some (.int k) => some (.int k (k.wrap n)) | _, _ => none
  | .str s => match P.underlying src, P.underlying dst with | some .string, some .string => some (.str s) | _, _ => none
  | .lst _ e xs => match P.underlying src, P.underlying dst with
    | some (.slice el), some .string => match P.underlying el with
      | some (.int .u8) => if e = 1 then (numsA xs).map fun ns => .str (bytesOf ns) else none
      | _ => none
    | _, _ => none
  | _ => none
def fieldA (P : Program) (T : TypeId) (f : Nat) : AV → Option AV
  | .agg cs => match fieldT P T f with | some (o, n, b) => loadC n b (cs.drop o) | none => none
  | _ => none
def faddrA (P : Program) (T : TypeId) (f : Nat) (x : AV) : Option AV :=
  match fieldT P T f with
  | some (o, n, _) => if n = 0 then none else match x with
    | .ptr g k => some (.ptr g (k + o))
    | .elt g e i k => some (.elt g e i (k + o))
    | .ref cs => some (.ref (cs.drop o))
    | _ => none
  | none => none
def loadA (P : Program) (m : Mem) (T : TypeId) (x : AV) : Option AV :=
  match loadT P T with
  | some (n, b) => match x with
    | .ref cs => loadC n b cs
    | .ptr g o => match m g with | some (.box cs) => loadC n b (cs.drop o) | _ => none
    | .elt g e i o => match m g with | some (.arr _ e' _ xs) => if e = e' then match xs[i]? with | some x => loadC n b (x.cells.drop o) | none => none else none | _ => none
    | _ => none
  | none => none
/-- An element's size. -/
def esz (P : Program) (T : TypeId) : Option Nat := match elemT P T with | some e => szT P e | none => none
def idxA (P : Program) (m : Mem) (T : TypeId) (x : AV) (i : AV) : Option AV :=
  match i with
  | .int _ k => if k < 0 then none else match esz P T with
    | some n => match x with
      | .lst _ e xs => if e = n then (match xs[k.toNat]? with | some y => some (.ref y.cells) | none => none) else none
      | .own g l _ => match m g with | some (.arr _ e _ xs) => if xs.length = l ∧ k.toNat < l ∧ e = n then some (.elt g e k.toNat 0) else none | _ => none
      | _ => none
    | none => none
  | _ => none
def sidxA (P : Program) (T : TypeId) : AV → AV → Option AV
  | .str s, .int _ k => match P.underlying T with | some .string => (if k < 0 then none else match s[k.toNat]? with | some b => some (.int .u8 b.toNat) | none => none) | _ => none
  | .agg cs, .int _ k => match P.underlying T with
    | some (.array n e) => if 0 ≤ k ∧ k < n then (match szT P e, aggT P e with | some z, some b => loadC z b (cs.drop (k.toNat * z)) | _, _ => none) else none
    | _ => none
  | _, _ => none
def lenA (P : Program) (T : Option TypeId) : AV → Option AV
  | .str s => match T.bind P.underlying with | some .string => some (.int .i64 s.size) | _ => none
  | .lst _ _ xs => match T.bind P.underlying with | some (.slice _) => some (.int .i64 xs.length) | _ => none
  | .own _ n _ => match T.bind P.underlying with | some (.slice _) => some (.int .i64 n) | _ => none
  | _ => none
def max2A : AV → AV → Option AV
  | .int k x, .int _ y => some (.int k (if y > x then y else x))
  | _, _ => none
def min2A : AV → AV → Option AV
  | .int k x, .int _ y => some (.int k (if y < x then y else x))
  | _, _ => none
def foldA (f : AV → AV → Option AV) : AV → List AV → Option AV
  | x, [] => some x
  | x, y :: l => match f x y with | some z => foldA f z l | none => none
/-- A bound of a cut. -/
def boundA (d : Nat) (y : Nat) : Option AV → Option Nat
  | none => some d
  | some (.int _ k) => if k < 0 then none else if k.toNat ≤ y then some k.toNat else none
  | _ => none
def sliceA (P : Program) (T : TypeId) (x : AV) (lo hi : Option AV) : Option AV :=
  match x with
  | .str s => match P.underlying T with
    | some .string => match boundA s.size s.size hi with
      | some h => match boundA 0 h lo with | some l => some (.str (s.extract l h)) | none => none
      | none => none
    | _ => none
  | .lst _ e xs => match esz P T with
    | some n => if e = n then (match boundA xs.length xs.length hi with
      | some h => match boundA 0 h lo with | some l => some (.lst false e ((xs.take h).drop l)) | none => none
      | none => none) else none
    | none => none
  | _ => none

end Go.T
