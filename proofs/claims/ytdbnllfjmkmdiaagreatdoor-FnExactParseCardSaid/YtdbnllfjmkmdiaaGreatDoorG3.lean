/- Regions whose order is drawn, told in an order of one's own; loads of what nobody writes any more. Ways that meet again. What the functions say, in plain Lean: names. Trees of the program's values, in plain Lean. What is right, in plain Lean. How the reference counts expressions, in plain Lean. Statements that are right, in plain Lean. -/
import Derived.Test.YtdbnllfjmkmdiaaGreatDoorG2
set_option linter.unusedSimpArgs false
set_option linter.unusedVariables false
namespace Go.T
open Go
section
variable {P : Program}

def noMem : Mem := fun _ => none
def isLoad : Op → Bool
 | .load .. => true
 | .indexAddr .. => true
 | _ => false
def isLit : Op → Bool
 | .buildSlice .. => true
 | _ => false
/-- A literal whose array is one's own. -/
def LitO (P : Program) (m : Mem) (ev : Operand → AV) (k : AV → Mem → Prop) : Op → Prop
 | .buildSlice T len parts => match elemT P T with
  | some E => match szT P E with
   | some n => len = parts.size ∧ len * n ≤ 16777216 ∧ n ≠ 0 ∧ (zeroE P E).isSome = true ∧
    match literalA n (parts.toList.map fun q => (q.1, ev q.2)) with
    | some xs => ∀ g, m g = none → k (.own g len len) (m.set g (.arr E n len xs))
    | none => False
   | none => False
  | none => False
 | _ => False
theorem litO_mono {m : Mem} {ev : Operand → AV} {k k' : AV → Mem → Prop} (hk : ∀ v m, k v m → k' v m) {op : Op} (h : LitO P m ev k op) : LitO P m ev k' op := by
 cases op <;> try exact h
 simp only [LitO] at h ⊢
 split at h
 ·split at h
  ·refine ⟨h.1, h.2.1, h.2.2.1, h.2.2.2.1, ?_⟩
   have h := h.2.2.2.2
   split at h
   ·exact fun g hg => hk _ _ (h g hg)
   ·exact h
  ·exact h
 ·exact h
theorem litO_eq {m : Mem} {op : Op} {ev ev' : Operand → AV} (h : ∀ x ∈ op.operands.toList, ev x = ev' x) (k : AV → Mem → Prop) : LitO P m ev k op = LitO P m ev' k op := by
 cases op with
 | buildSlice T len parts =>
  have : (parts.toList.map fun q => (q.1, ev q.2)) = parts.toList.map fun q => (q.1, ev' q.2) := List.map_congr_left fun q hq => by
   rw [h q.2 (by simp only [Op.operands, Array.toList_map]; exact List.mem_map.2 ⟨q, hq, rfl⟩)]
  simp only [LitO, this]
 | _ => rfl
theorem litO_sound {C : Ctx} {s : St} {a : Act} {w : World} (h : Rel C s a w) {o : Oper} (hd : ∀ t, o.dst = some t → t < a.tmps.size) {K : St → Prop}
  (hk : LitO P s.mem s.eval (fun v m' => K ((s.put o.dst v).withMem m')) o.op) {next : Act → World → Prop} {Q : Exit → Act → World → Prop} (hn : NextOk C K a.tmps.size next) : o.wp P a w next Q := by
 obtain ⟨S, hS0, hm, hslots⟩ := h.ex
 have hev := eval_rep hslots
 cases hop : o.op with
 | buildSlice T len parts =>
  rw [hop] at hk
  simp only [LitO] at hk
  split at hk
  ·rename_i E hE
   split at hk
   ·rename_i n hsE
    obtain ⟨rfl, hlim, hn0, hz, hk⟩ := hk
    obtain ⟨z, hz⟩ := Option.isSome_iff_exists.1 hz
    split at hk
    ·rename_i xs hxs
     refine Outs.go h hS0 hslots hd ?_ hn
     have := buildSlice_own (P := P) (k := fun v m' => K ((s.put o.dst v).withMem m')) hm hE hsE hev hxs hlim hn0 hz hk
     simpa [execOp, hop] using this
    ·exact hk.elim
   ·exact hk.elim
  ·exact hk.elim
 | _ => rw [hop] at hk; exact hk.elim
/-- A load of what nobody writes any more asks no memory. -/
def AOpF (P : Program) (f r : Bool) (o : Oper) (s : St) (K : St → Prop) : Prop :=
 if (r && isLoad o.op) = true then ∃ v, outR P noMem s.eval o.op = some v ∧ K (s.put o.dst v) else if (r && isLit o.op) = true then LitO P s.mem s.eval (fun v m' => K ((s.put o.dst v).withMem m')) o.op else AOp P f o s K
theorem load_noMem {T : TypeId} {a v : AV} {m : Mem} (h : loadA P noMem T a = some v) : loadA P m T a = some v := by
 cases a with
 | ref cs => simpa using h
 | ptr g o =>
  rw [load_ptr] at h
  cases hq : loadT P T with
  | none => simp [hq] at h
  | some x => simp [hq, noMem] at h
 | elt g e i o =>
  rw [load_elt] at h
  cases hq : loadT P T with
  | none => simp [hq] at h
  | some x => simp [hq, noMem] at h
 | _ =>
  unfold loadA at h
  cases hq : loadT P T <;> simp [hq] at h
theorem idx_noMem {T : TypeId} {a i v : AV} {m : Mem} (h : idxA P noMem T a i = some v) : idxA P m T a i = some v := by
 unfold idxA at h ⊢
 cases i with
 | int k n =>
  cases hq : esz P T with
  | none => simp only [hq] at h ⊢; exact h
  | some e =>
   simp only [hq] at h ⊢
   cases a with
   | own g l c => simp [noMem] at h
   | _ => exact h
 | _ => cases h
theorem aopF_sound {C : Ctx} {s : St} {a : Act} {w : World} (h : Rel C s a w) {f r : Bool} {o : Oper} (hd : ∀ t, o.dst = some t → t < a.tmps.size) {K : St → Prop}
  (hk : AOpF P f r o s K) {next : Act → World → Prop} {Q : Exit → Act → World → Prop} (hn : NextOk C K a.tmps.size next) : o.wp P a w next Q := by
 unfold AOpF at hk
 split at hk
 ·rename_i hr
  refine aop_sound (p := f) h hd ?_ hn
  obtain ⟨v, hv, hk⟩ := hk
  simp only [Bool.and_eq_true] at hr
  have hl := hr.2
  cases hop : o.op <;> rw [hop] at hl hv <;> try (cases hl; done)
  all_goals
   simp only [outR] at hv
   unfold AOp
   rw [hop]
   simp only [outR]
  ·rw [load_noMem hv]
   exact hk
  ·rw [idx_noMem hv]
   exact hk
 ·split at hk
  ·exact litO_sound h hd hk hn
  ·exact aop_sound h hd hk hn
def clsF (f r : Bool) (op : Op) : Nat := if (r && isLoad op) = true then 0 else if (r && isLit op) = true then 2 else cls f op
/-- What an operation that acts may come to, literals of one's own too. -/
def WTF (P : Program) (f r : Bool) (m : Mem) (ev : Operand → AV) (k : AV → Mem → Prop) (op : Op) : Prop := if (r && isLit op) = true then LitO P m ev k op else WT P f m ev k op
theorem wtF_mono {f r : Bool} {m : Mem} {op : Op} {ev : Operand → AV} {k k' : AV → Mem → Prop} (hk : ∀ v m, k v m → k' v m) (h : WTF P f r m ev k op) : WTF P f r m ev k' op := by
 unfold WTF at h ⊢
 split at h
 ·rename_i hr; rw [if_pos hr]; exact litO_mono hk h
 ·rename_i hr; rw [if_neg hr]; exact wt_mono hk h
theorem wtF_eq {f r : Bool} {m : Mem} {op : Op} {ev ev' : Operand → AV} (h : ∀ x ∈ op.operands.toList, ev x = ev' x) (k : AV → Mem → Prop) : WTF P f r m ev k op = WTF P f r m ev' k op := by
 unfold WTF
 rw [litO_eq h, wt_eq (P := P) h]
theorem wtF_wt {f r : Bool} {m : Mem} {op : Op} {ev : Operand → AV} {k : AV → Mem → Prop} (h : isLit op = false) : WTF P f r m ev k op = WT P f m ev k op := by
 unfold WTF
 rw [if_neg (by simp [h])]
def GOpF (P : Program) (f r : Bool) (ops : Array Oper) (o : Oper) (s : St) (K : St → Prop) : Prop :=
 match wantedA ops o s with
 | some true => AOpF P f r o s K
 | some false => K (s.put o.dst (.tup []))
 | none => False
theorem aopF_mono {f r : Bool} {o : Oper} {s : St} {K K' : St → Prop} (hk : ∀ s, K s → K' s) (h : AOpF P f r o s K) : AOpF P f r o s K' := by
 unfold AOpF at h ⊢
 split at h
 ·rename_i hr
  rw [if_pos hr]
  obtain ⟨v, hv, h⟩ := h
  exact ⟨v, hv, hk _ h⟩
 ·rename_i hr
  rw [if_neg hr]
  split at h
  ·rename_i hl
   rw [if_pos hl]
   exact litO_mono (fun v m hh => hk _ hh) h
  ·rename_i hl
   rw [if_neg hl]
   exact aop_mono hk h
theorem gopF_mono {f r : Bool} {ops : Array Oper} {o : Oper} {s : St} {K K' : St → Prop} (hk : ∀ s, K s → K' s) (h : GOpF P f r ops o s K) : GOpF P f r ops o s K' := by
 unfold GOpF at h ⊢
 split at h
 ·exact aopF_mono hk h
 ·exact hk _ h
 ·exact h
def GOutF (P : Program) (f r : Bool) (ops : Array Oper) (o : Oper) (s : St) (v : AV) : Prop :=
 match wantedA ops o s with
 | some true => if (r && isLoad o.op) = true then outR P noMem s.eval o.op = some v else if cls f o.op = 0 then Out0 P f s.eval o.op v else outR P s.mem s.eval o.op = some v
 | some false => v = .tup []
 | none => False
theorem gopF01 {f r : Bool} {ops : Array Oper} {o : Oper} (h : clsF f r o.op ≤ 1) (s : St) (K : St → Prop) : GOpF P f r ops o s K ↔ ∃ v, GOutF P f r ops o s v ∧ K (s.put o.dst v) := by
 unfold GOpF GOutF
 cases wantedA ops o s with
 | none => simp
 | some b =>
  cases b with
  | false => simp
  | true =>
   unfold clsF at h
   unfold AOpF
   simp only
   by_cases hr : (r && isLoad o.op) = true
   ·simp only [if_pos hr]
   ·simp only [if_neg hr] at h ⊢
    by_cases hl : (r && isLit o.op) = true
    ·rw [if_pos hl] at h; omega
    simp only [if_neg hl] at h ⊢
    by_cases h0 : cls f o.op = 0
    ·simp only [h0, if_true]; exact aop0 h0 s K
    ·simp only [h0, if_false]; exact aop1 (by omega) s K
theorem gopF2 {f r : Bool} {ops : Array Oper} {o : Oper} (h : clsF f r o.op = 2) (s : St) (K : St → Prop) : GOpF P f r ops o s K ↔ (match wantedA ops o s with
  | some true => WTF P f r s.mem s.eval (fun v m' => K ((s.put o.dst v).withMem m')) o.op | some false => K (s.put o.dst (.tup [])) | none => False) := by
 unfold clsF at h
 split at h
 ·cases h
 ·rename_i hr
  unfold GOpF AOpF WTF
  cases wantedA ops o s with
  | none => simp
  | some b =>
   cases b with
   | false => simp
   | true =>
    simp only [if_neg hr]
    by_cases hl : (r && isLit o.op) = true
    ·simp only [if_pos hl]
    ·simp only [if_neg hl] at h ⊢; exact aop2 h s K
theorem goutF_put {f r : Bool} {ops : Array Oper} {o : Oper} {s : St} {d : Option Tmp} {v : AV} (h : ∀ t, d = some t → t ∉ readsOf ops o) (u : AV) : GOutF P f r ops o (s.put d v) u = GOutF P f r ops o s u := by
 obtain ⟨h1, h2⟩ := put_reads (s := s) (v := v) h
 unfold GOutF
 rw [h2, put_mem, out0_eq (P := P) h1, operands_eq (P := P) h1, operands_eq (P := P) h1]
theorem goutF_mem {f r : Bool} {ops : Array Oper} {o : Oper} (h0 : clsF f r o.op = 0) {s : St} {m : Mem} (u : AV) : GOutF P f r ops o (s.withMem m) u = GOutF P f r ops o s u := by
 unfold clsF at h0
 unfold GOutF
 by_cases hr : (r && isLoad o.op) = true
 ·simp only [if_pos hr]; rfl
 ·simp only [if_neg hr] at h0 ⊢
  by_cases hl : (r && isLit o.op) = true
  ·rw [if_pos hl] at h0; cases h0
  rw [if_neg hl] at h0
  simp only [h0, if_true]
  rfl
theorem loadA_ext {m m' : Mem} (hE : ∀ g b, m g = some b → m' g = some b) {T : TypeId} {a v : AV} (h : loadA P m T a = some v) : loadA P m' T a = some v := by
 cases a with
 | ptr g o =>
  rw [load_ptr] at h ⊢
  cases hq : loadT P T with
  | none => simp [hq] at h
  | some x =>
   cases hm : m g with
   | none => simp [hq, hm] at h
   | some b => rw [hm, hq] at h; rw [hE g b hm]; exact h
 | elt g e i o =>
  rw [load_elt] at h ⊢
  cases hq : loadT P T with
  | none => simp [hq] at h
  | some x =>
   cases hm : m g with
   | none => simp [hq, hm] at h
   | some b => rw [hm, hq] at h; rw [hE g b hm]; exact h
 | _ => exact h
theorem idxA_ext {m m' : Mem} (hE : ∀ g b, m g = some b → m' g = some b) {T : TypeId} {a i v : AV} (h : idxA P m T a i = some v) : idxA P m' T a i = some v := by
 unfold idxA at h ⊢
 cases i with
 | int k n =>
  cases hq : esz P T with
  | none => simp only [hq] at h ⊢; exact h
  | some e =>
   simp only [hq] at h ⊢
   cases a with
   | own g l c =>
    cases hm : m g with
    | none => simp [hm] at h
    | some b => simp only [hm] at h; simp only [hE g b hm]; exact h
   | _ => exact h
 | _ => cases h
theorem outR_ext {m m' : Mem} (hE : ∀ g b, m g = some b → m' g = some b) {ev : Operand → AV} {op : Op} {v : AV} (h : outR P m ev op = some v) : outR P m' ev op = some v := by
 cases op with
 | load T a => exact loadA_ext hE h
 | indexAddr T x i => exact idxA_ext hE h
 | slice T x lo hi mx => cases mx <;> exact h
 | _ => exact h
theorem goutF_ext {f r : Bool} {ops : Array Oper} {o : Oper} {s : St} {m : Mem} (hE : ∀ g b, s.mem g = some b → m g = some b) {u : AV} (h : GOutF P f r ops o s u) : GOutF P f r ops o (s.withMem m) u := by
 unfold GOutF at h ⊢
 have hw : wantedA ops o (s.withMem m) = wantedA ops o s := rfl
 have he : (s.withMem m).eval = s.eval := rfl
 have hm : (s.withMem m).mem = m := rfl
 rw [hw, he, hm]
 split at h
 ·split at h
  ·rename_i hr; rw [if_pos hr]; exact h
  ·rename_i hr
   rw [if_neg hr]
   split at h
   ·rename_i h0; rw [if_pos h0]; exact h
   ·rename_i h0; rw [if_neg h0]; exact outR_ext hE h
 ·exact h
 ·exact h
/-- An operation that only makes room. -/
def isAlloc : Op → Bool
 | .alloc _ | .box .. | .makeSlice .. => true
 | _ => false
theorem wt_alloc {p : Bool} {m : Mem} {ev : Operand → AV} {k : AV → Mem → Prop} {op : Op} (ha : isAlloc op = true) (h : WT P p m ev k op) : WT P p m ev (fun v m' => k v m' ∧ ∀ g b, m g = some b → m' g = some b) op := by
 have hs : ∀ (g : Nat) (x : Blk), m g = none → ∀ g' b, m g' = some b → (m.set g x) g' = some b := fun g x hg g' b hb => by
  rw [Mem.set_other]
  ·exact hb
  ·rintro rfl; rw [hg] at hb; cases hb
 cases op <;> try (cases ha; done)
 ·simp only [WT] at h ⊢
  split at h
  ·exact fun g hg => ⟨h g hg, hs g _ hg⟩
  ·exact h
 ·simp only [WT] at h ⊢
  split at h
  ·exact h
  ·exact fun g hg => ⟨h g hg, hs g _ hg⟩
 ·simp only [WT] at h ⊢
  split at h
  ·split at h
   ·split at h
    ·exact ⟨h.1, h.2.1, h.2.2.1, h.2.2.2.1, h.2.2.2.2.1, h.2.2.2.2.2.1, fun g hg => ⟨h.2.2.2.2.2.2 g hg, hs g _ hg⟩⟩
    ·exact h
   ·exact h
  ·exact h
def isAllocF (r : Bool) (op : Op) : Bool := isAlloc op || (r && isLit op)
theorem wtF_alloc {p r : Bool} {m : Mem} {ev : Operand → AV} {k : AV → Mem → Prop} {op : Op} (ha : isAllocF r op = true) (h : WTF P p r m ev k op) : WTF P p r m ev (fun v m' => k v m' ∧ ∀ g b, m g = some b → m' g = some b) op := by
 unfold WTF at h ⊢
 by_cases hl : (r && isLit op) = true
 ·rw [if_pos hl] at h ⊢
  cases op <;> try (simp [isLit] at hl; done)
  simp only [LitO] at h ⊢
  split at h
  ·split at h
   ·refine ⟨h.1, h.2.1, h.2.2.1, h.2.2.2.1, ?_⟩
    have h := h.2.2.2.2
    split at h
    ·exact fun g hg => ⟨h g hg, fun g' b hb => by
      rw [Mem.set_other]
      ·exact hb
      ·rintro rfl; rw [hg] at hb; cases hb⟩
    ·exact h
   ·exact h
  ·exact h
 ·rw [if_neg hl] at h ⊢
  refine wt_alloc ?_ h
  unfold isAllocF at ha
  rw [Bool.or_eq_true] at ha
  exact ha.resolve_right hl
theorem storeA_set {m m1 : Mem} {a x : AV} {g : Nat} {b : Blk} (hg : m g = none) (h : storeA m a x = some m1) : storeA (m.set g b) a x = some (m1.set g b) ∧ m1 g = none := by
 have hs : ∀ (g0 : Nat) (b0 : Blk), g0 ≠ g → (m.set g b).set g0 b0 = (m.set g0 b0).set g b := fun g0 b0 hne => by
  funext k
  simp only [Mem.set]
  by_cases h1 : k = g0
  ·have : k ≠ g := fun e => hne (h1.symm.trans e)
   simp [h1, hne]
  ·simp [h1]
 have hn : ∀ (g0 : Nat) (b0 : Blk), g0 ≠ g → (m.set g0 b0) g = none := fun g0 b0 hne => by rw [Mem.set_other (Ne.symm hne)]; exact hg
 cases a with
 | ptr g0 o =>
  simp only [storeA] at h ⊢
  by_cases hne : g0 = g
  ·subst hne; rw [hg] at h; cases h
  rw [Mem.set_other hne]
  split at h
  ·split at h
   ·rename_i hc
    obtain rfl := Option.some.inj h
    rw [if_pos hc, hs _ _ hne]
    exact ⟨rfl, hn _ _ hne⟩
   ·cases h
  ·cases h
 | elt g0 e i o =>
  simp only [storeA] at h ⊢
  by_cases hne : g0 = g
  ·subst hne; rw [hg] at h; cases h
  rw [Mem.set_other hne]
  split at h
  ·split at h
   ·rename_i he
    rw [if_pos he]
    split at h
    ·split at h
     ·rename_i hc
      obtain rfl := Option.some.inj h
      rw [if_pos hc, hs _ _ hne]
      exact ⟨rfl, hn _ _ hne⟩
     ·rename_i hc
      rw [if_neg hc]
      split at h
      ·split at h
       ·rename_i hc2
        obtain rfl := Option.some.inj h
        rw [if_pos hc2, hs _ _ hne]
        exact ⟨rfl, hn _ _ hne⟩
       ·cases h
      ·cases h
    ·cases h
   ·cases h
  ·cases h
 | _ => cases h
theorem WCall.frame {P : Program} {n : FuncId} {args : List AV} {m : Mem} {k : AV → Mem → Prop} (h : WCall P n args m k) {g : Nat} (hg : m g = none) (b : Blk) : WCall P n args (m.set g b) (fun r m'' => ∃ m', m' g = none ∧ m'' = m'.set g b ∧ k r m') := by
 refine ⟨h.1, fun w S cargs hm hr => ?_⟩
 have hbg := hm.blk g b (Mem.set_same _ _ _)
 have hlt : g < w.heap.size := hbg.lt
 have hmr : MemRep w S m := by
  refine ⟨fun k x hk => hm.blk k x ?_, fun x hx => ⟨?_, (hm.apart x hx).2⟩⟩
  ·rw [Mem.set_other]
   ·exact hk
   ·rintro rfl; rw [hg] at hk; cases hk
  ·by_cases hxg : x = g
   ·rw [hxg]; exact hg
   ·have := (hm.apart x hx).1
    rw [Mem.set_other hxg] at this
    exact this
 refine calls_mono (h.2 w S cargs hmr hr) ?_
 rintro e w' ⟨v, r, m', S', he, hk, h1, h2, h3, h4, h5, h6⟩
 have hmg : m' g = none := by
  cases hq : m' g with
  | none => rfl
  | some x =>
   rcases h6 g x hq with h | h
   ·exact absurd hg h
   ·omega
 have hsame : w'.heap[g]? = w.heap[g]? := h5.block g hlt (fun hc => hc hg)
 have hst : Stays S w w' := fun x hx => h5.block x (hmr.apart x hx).2 (fun hc => hc (hmr.apart x hx).1)
 have hSg : ¬ S g := fun hS => by have := (hm.apart g hS).1; rw [Mem.set_same] at this; cases this
 refine ⟨v, r, m'.set g b, S', he, ⟨m', hmg, rfl, hk⟩, h1, fun x hx => ?_, ⟨fun k x hk => ?_, fun x hx => ⟨?_, (h3.apart x hx).2⟩⟩, h4, h5.mono fun x hx => ?_, fun k x hk => ?_⟩
 ·rcases h2 x hx with h | h | h
  ·exact .inl h
  ·refine .inr (.inl ?_)
   rw [Mem.set_other]
   ·exact h
   ·rintro rfl; exact h hg
  ·exact .inr (.inr h)
 ·by_cases hkg : k = g
  ·subst hkg
   rw [Mem.set_same] at hk
   obtain rfl := Option.some.inj hk
   exact hbg.mono hst h1 hsame
  ·rw [Mem.set_other hkg] at hk
   exact h3.blk k x hk
 ·rw [Mem.set_other]
  ·exact (h3.apart x hx).1
  ·rintro rfl
   rcases h2 _ hx with h | h | h
   ·exact hSg h
   ·exact h hg
   ·omega
 ·rw [Mem.set_other]
  ·exact hx
  ·rintro rfl; exact hx hg
 ·by_cases hkg : k = g
  ·subst hkg; exact .inl (by rw [Mem.set_same]; simp)
  ·rw [Mem.set_other hkg] at hk
   rcases h6 k x hk with h | h
   ·exact .inl (by rw [Mem.set_other hkg]; exact h)
   ·exact .inr h
/-- A call of a value; an alloc. -/
def callV : Op → Bool
 | .call c => match c.callee with | .value _ => true | _ => false
 | _ => false
def storeV : Op → Bool
 | .store .. => true
 | _ => false
def allocV : Op → Bool
 | .alloc _ => true
 | _ => false
/-- What is told of allocs is so. -/
def HZ (P : Program) (r : Nat → Bool) (ops : Array Oper) : Prop := ∀ (j : Nat) (o : Oper) (U : TypeId), ops[j]? = some o → r j = true → o.op = .alloc U → (zeroE P U).isSome = true
structure ApartF (P : Program) (p r : Nat → Bool) (ops : Array Oper) (i j : Nat) (a b : Oper) : Prop where
 ab : ∀ t, a.dst = some t → t ∉ readsOf ops b
 ba : ∀ t, b.dst = some t → t ∉ readsOf ops a
 dd : ∀ t, a.dst = some t → b.dst ≠ some t
 c : clsF (p i) (r i) a.op ≤ 1 ∧ clsF (p j) (r j) b.op ≤ 1 ∨ clsF (p i) (r i) a.op = 0 ∧ clsF (p j) (r j) b.op = 2 ∨ clsF (p i) (r i) a.op ≤ 1 ∧ clsF (p j) (r j) b.op = 2 ∧ isAllocF (r j) b.op = true ∨
  (clsF (p i) (r i) a.op = 2 ∧ clsF (p j) (r j) b.op = 2 ∧ callV a.op = true ∧ a.guard = none ∧ b.guard = none ∧ ∃ U, b.op = .alloc U ∧ (zeroE P U).isSome = true) ∨
  (clsF (p i) (r i) a.op = 2 ∧ clsF (p j) (r j) b.op = 2 ∧ storeV a.op = true ∧ a.guard = none ∧ b.guard = none ∧ (r j && isLit b.op) = true)
theorem gopF_swap {p r : Nat → Bool} {ops : Array Oper} {i j : Nat} {a b : Oper} (h : ApartF P p r ops i j a b) {s : St} {K : St → Prop} (hk : GOpF P (p i) (r i) ops a s fun s1 => GOpF P (p j) (r j) ops b s1 K) : GOpF P (p j) (r j) ops b s fun s1 => GOpF P (p i) (r i) ops a s1 K := by
 rcases h.c with ⟨ca, cb⟩ | ⟨ca, cb⟩ | ⟨ca, cb, cc⟩ | ⟨ca, cb, cv, ga, gb, U, hU, hz⟩ | ⟨ca, cb, cv, ga, gb, hrb⟩
 rotate_left 4
 ·have wn : ∀ (o : Oper) (s : St), o.guard = none → wantedA ops o s = some true := fun o s ho => by unfold wantedA; rw [ho]
  rw [gopF2 ca, wn a s ga] at hk
  rw [gopF2 cb, wn b s gb]
  simp only at hk ⊢
  cases ha : a.op with
  | store U ad x =>
   have hLa : isLit a.op = false := by rw [ha]; rfl
   rw [wtF_wt hLa, ha] at hk
   simp only [WT] at hk
   obtain ⟨h1, h2⟩ := put_reads (s := s) (v := .undef) h.ab
   split at hk
   ·exact hk.elim
   ·rename_i hu
    split at hk
    ·rename_i n hn
     obtain ⟨e1, e2, hk⟩ := hk
     split at hk
     ·rename_i m1 hm1
      rw [gopF2 cb, wn b _ gb] at hk
      simp only at hk
      unfold WTF at hk ⊢
      rw [if_pos hrb] at hk ⊢
      have hev : ∀ y ∈ b.op.operands.toList, ((s.put a.dst .undef).withMem m1).eval y = s.eval y := fun y hy => by
       have := h1 y hy
       cases y <;> exact this
      rw [litO_eq hev] at hk
      have key : ∀ (g : Nat) (v : AV) (bl : Blk), s.mem g = none → K ((((s.put a.dst .undef).withMem m1).put b.dst v).withMem (m1.set g bl)) → GOpF P (p i) (r i) ops a ((s.put b.dst v).withMem (s.mem.set g bl)) K := by
       intro g v bl hg hK
       rw [gopF2 ca, wn a _ ga]
       simp only
       rw [wtF_wt hLa]
       obtain ⟨q1, q2⟩ := put_reads (s := s) (v := v) h.ba
       have hev2 : ∀ y ∈ a.op.operands.toList, ((s.put b.dst v).withMem (s.mem.set g bl)).eval y = s.eval y := fun y hy => by
        have := q1 y hy
        cases y <;> exact this
       rw [wt_eq (P := P) hev2, ha]
       simp only [WT]
       cases hvx : s.eval x
       case undef => exact (hu hvx).elim
       all_goals
        rw [hvx] at e1 e2 hm1
        simp only [hn]
        refine ⟨e1, e2, ?_⟩
        have hs := (storeA_set (b := bl) hg hm1).1
        rw [show ((s.put b.dst v).withMem (s.mem.set g bl)).mem = s.mem.set g bl from rfl, hs]
        simp only
        rw [withMem_put, ← put_put h.dd]
        refine Eq.mp (congrArg K ?_) hK
        generalize a.dst = d1
        generalize b.dst = d2
        cases d1 <;> cases d2 <;> rfl
      cases hb : b.op with
      | buildSlice T len parts =>
       rw [hb] at hk
       simp only [LitO] at hk ⊢
       split at hk
       ·split at hk
        ·refine ⟨hk.1, hk.2.1, hk.2.2.1, hk.2.2.2.1, ?_⟩
         have hk := hk.2.2.2.2
         split at hk
         ·exact fun g hg => key g _ _ hg (hk g (storeA_set (b := .box []) hg hm1).2)
         ·exact hk
        ·exact hk
       ·exact hk
      | _ => rw [hb] at hrb; simp [isLit] at hrb
     ·exact hk.elim
    ·exact hk.elim
  | _ => rw [ha] at cv; cases cv
 rotate_left 3
 ·have wn : ∀ (o : Oper) (s : St), o.guard = none → wantedA ops o s = some true := fun o s ho => by unfold wantedA; rw [ho]
  have hLa : isLit a.op = false := by cases hop : a.op <;> rw [hop] at cv <;> first | rfl | cases cv
  have hLb : isLit b.op = false := by rw [hU]; rfl
  rw [gopF2 ca, wn a s ga] at hk
  rw [gopF2 cb, wn b s gb]
  simp only at hk ⊢
  rw [wtF_wt hLa] at hk
  rw [wtF_wt hLb, hU]
  obtain ⟨z, hz⟩ := Option.isSome_iff_exists.1 hz
  simp only [WT, hz]
  intro g hg
  rw [gopF2 ca, wn a _ ga]
  simp only
  rw [wtF_wt hLa]
  have hin : ∀ s1 : St, GOpF P (p j) (r j) ops b s1 K → ∀ g, s1.mem g = none → K ((s1.put b.dst (.ptr g 0)).withMem (s1.mem.set g (.box z.cells))) := fun s1 h1 => by
   rw [gopF2 cb, wn b s1 gb] at h1
   simp only at h1
   rw [wtF_wt hLb, hU] at h1
   simpa only [WT, hz] using h1
  obtain ⟨h1, h2⟩ := put_reads (s := s) (v := .ptr g 0) h.ba
  have hev : ∀ x ∈ a.op.operands.toList, ((s.put b.dst (.ptr g 0)).withMem (s.mem.set g (.box z.cells))).eval x = s.eval x := fun x hx => by
   have := h1 x hx
   cases x <;> exact this
  cases hop : a.op with
  | call c =>
   rw [hop] at hk cv ca hev
   cases hcal : c.callee with
   | value f =>
    have hpf : p i = false := by
     by_cases hp : p i = true
     ·simp [clsF, cls, hcal, hp, isLoad, isLit] at ca
     ·simpa using hp
    rw [wt_eq (P := P) hev]
    simp only [WT, hcal, hpf] at hk ⊢
    split at hk
    ·rename_i n caps hfe
     try simp only [hfe]
     rw [if_neg (by simp)] at hk ⊢
     refine (hk.frame hg (.box z.cells)).mono fun u m'' hh => ?_
     obtain ⟨m', hmg, rfl, hh⟩ := hh
     have := hin _ hh g hmg
     rw [withMem_put, ← put_put h.dd]
     refine Eq.mp (congrArg K ?_) this
     generalize a.dst = d1
     generalize b.dst = d2
     cases d1 <;> cases d2 <;> rfl
    ·exact hk.elim
   | _ => simp [callV, hcal] at cv
  | _ => rw [hop] at cv; simp [callV] at cv
 rotate_left 2
 ·rw [gopF01 ca] at hk
  obtain ⟨v, hv, hk⟩ := hk
  rw [gopF2 cb] at hk ⊢
  obtain ⟨h1, h2⟩ := put_reads (s := s) (v := v) h.ab
  rw [h2] at hk
  split at hk
  ·rw [put_mem, wtF_eq (P := P) h1] at hk
   refine wtF_mono (fun u m' hh => ?_) (wtF_alloc cc hk)
   obtain ⟨hh, hE⟩ := hh
   rw [gopF01 ca]
   refine ⟨v, goutF_ext (s := s.put b.dst u) (by rw [put_mem]; exact hE) (by rw [goutF_put h.ba]; exact hv), ?_⟩
   rw [withMem_put, ← put_put h.dd]; exact hh
  ·rw [gopF01 ca]
   refine ⟨v, by rw [goutF_put h.ba]; exact hv, ?_⟩
   rw [← put_put h.dd]; exact hk
  ·exact hk
 ·rw [gopF01 ca] at hk
  obtain ⟨v, hv, hk⟩ := hk
  rw [gopF01 cb] at hk ⊢
  obtain ⟨u, hu, hk⟩ := hk
  refine ⟨u, by rw [goutF_put h.ab] at hu; exact hu, ?_⟩
  rw [gopF01 ca]
  refine ⟨v, by rw [goutF_put h.ba]; exact hv, ?_⟩
  rw [← put_put h.dd]; exact hk
 ·rw [gopF01 (by omega)] at hk
  obtain ⟨v, hv, hk⟩ := hk
  rw [gopF2 cb] at hk ⊢
  obtain ⟨h1, h2⟩ := put_reads (s := s) (v := v) h.ab
  rw [h2] at hk
  split at hk
  ·rw [put_mem, wtF_eq (P := P) h1] at hk
   refine wtF_mono (fun u m' hh => ?_) hk
   rw [gopF01 (by omega)]
   refine ⟨v, by rw [goutF_mem ca, goutF_put h.ba]; exact hv, ?_⟩
   rw [withMem_put, ← put_put h.dd]; exact hh
  ·rw [gopF01 (by omega)]
   refine ⟨v, by rw [goutF_put h.ba]; exact hv, ?_⟩
   rw [← put_put h.dd]; exact hk
  ·exact hk
/-- Operations in the order of a list. -/
def AOpsF (P : Program) (p r : Nat → Bool) (ops : Array Oper) (K : St → Prop) : List Nat → St → Prop
 | [], s => K s
 | i :: l, s => match ops[i]? with
  | none => AOpsF P p r ops K l s
  | some o => GOpF P (p i) (r i) ops o s (AOpsF P p r ops K l)
theorem aopsF_cons {p r : Nat → Bool} {ops : Array Oper} {K : St → Prop} {i : Nat} {l : List Nat} {s : St} {o : Oper} (ho : ops[i]? = some o) : AOpsF P p r ops K (i :: l) s = GOpF P (p i) (r i) ops o s (AOpsF P p r ops K l) := by
 simp only [AOpsF, ho]
theorem aopsF_sound {C : Ctx} {ops : Array Oper} {N : Nat} (hb : ∀ (j : Nat) (d : Tmp), (ops[j]?).bind (·.dst) = some d → d < N) {p r : Nat → Bool} {K : St → Prop} {Q : Exit → Act → World → Prop} (hQ : NextOk C K N (Q .normal)) :
  ∀ (l : List Nat) (s : St) (a : Act) (w : World), Rel C s a w → a.tmps.size = N → AOpsF P p r ops K l s → wpOps P ops Q l a w
 | [], s, a, w, h, hN, hk => hQ s a w hk h hN
 | i :: l, s, a, w, h, hN, hk => by
  simp only [AOpsF] at hk
  simp only [wpOps]
  cases ho : ops[i]? with
  | none =>
   rw [ho] at hk
   exact aopsF_sound hb hQ l s a w h hN hk
  | some o =>
   rw [ho] at hk
   simp only at hk ⊢
   unfold GOpF at hk
   have hd : ∀ t, o.dst = some t → t < a.tmps.size := fun t ht => by rw [hN]; exact hb i t (by rw [ho]; exact ht)
   split at hk
   ·rename_i hw
    rw [wanted_sound h (by rw [hN]; exact hb) hw, if_pos rfl]
    refine .inl (aopF_sound h hd hk ?_)
    intro s' a' w' hk' h' hN'
    exact aopsF_sound hb hQ l s' a' w' h' (hN'.trans hN) hk'
   ·rename_i hw
    rw [wanted_sound h (by rw [hN]; exact hb) hw, if_neg (by decide)]
    refine aopsF_sound hb hQ l _ _ _ ?_ (by rw [put_size]; exact hN) hk
    obtain ⟨S, hS0, hm, hslots⟩ := h.ex
    have hu : Rep w S (.tup []) undef := Rep.tup .nil
    have e : (s.put o.dst (.tup [])).withMem s.mem = s.put o.dst (.tup []) := by cases o.dst <;> rfl
    rw [← e]
    exact h.step hS0 hslots (fun _ h => h) (fun _ h => .inl h) (fun _ _ => rfl) hm (Keep.refl _ _) (fun g b hg => .inl (by rw [hg]; simp)) hd hu
   ·exact hk.elim
theorem aopsF_mono {p r : Nat → Bool} {ops : Array Oper} {K : St → Prop} {l l' : List Nat} (h : ∀ s, AOpsF P p r ops K l s → AOpsF P p r ops K l' s) (i : Nat) (s : St) (hk : AOpsF P p r ops K (i :: l) s) : AOpsF P p r ops K (i :: l') s := by
 cases ho : ops[i]? with
 | none => simp only [AOpsF, ho] at hk ⊢; exact h s hk
 | some o => rw [aopsF_cons ho] at hk ⊢; exact gopF_mono h hk
def ApartAtF (P : Program) (p r : Nat → Bool) (ops : Array Oper) (i j : Nat) : Prop := ∀ a b, ops[i]? = some a → ops[j]? = some b → ApartF P p r ops i j a b
theorem aopsF_front {p r : Nat → Bool} {ops : Array Oper} {K : St → Prop} {j : Nat} {l2 : List Nat} : ∀ (l1 : List Nat) (s : St), (∀ i ∈ l1, ApartAtF P p r ops i j) → AOpsF P p r ops K (l1 ++ j :: l2) s → AOpsF P p r ops K (j :: (l1 ++ l2)) s
 | [], s, _, hk => hk
 | i :: l1, s, h, hk => by
  have ih : ∀ s, AOpsF P p r ops K (l1 ++ j :: l2) s → AOpsF P p r ops K (j :: (l1 ++ l2)) s := fun s => aopsF_front l1 s (fun k hk => h k (by simp [hk]))
  have hk' := aopsF_mono ih i s hk
  have hap := h i (by simp)
  cases hi : ops[i]? with
  | none =>
   simp only [AOpsF, hi] at hk'
   show AOpsF P p r ops K (j :: i :: (l1 ++ l2)) s
   exact aopsF_mono (l := l1 ++ l2) (fun s hs => by simp only [AOpsF, hi]; exact hs) j s hk'
  | some a =>
   cases hj : ops[j]? with
   | none =>
    show AOpsF P p r ops K (j :: i :: (l1 ++ l2)) s
    have e : ∀ l, AOpsF P p r ops K (j :: l) = AOpsF P p r ops K l := fun l => by funext s; simp only [AOpsF, hj]
    rw [e] ; rw [e] at ih
    rw [aopsF_cons hi] at hk' ⊢
    exact gopF_mono (fun s hs => by rw [e] at hs; exact hs) hk'
   | some b =>
    rw [aopsF_cons hi] at hk'
    have h2 : GOpF P (p i) (r i) ops a s fun s1 => GOpF P (p j) (r j) ops b s1 (AOpsF P p r ops K (l1 ++ l2)) := gopF_mono (fun s1 hs => by rw [aopsF_cons hj] at hs; exact hs) hk'
    have h3 := gopF_swap (hap a b hi hj) h2
    show AOpsF P p r ops K (j :: i :: (l1 ++ l2)) s
    rw [aopsF_cons hj]
    exact gopF_mono (fun s1 hs => by rw [aopsF_cons hi]; exact hs) h3
def apartF (p r : Nat → Bool) (ops : Array Oper) (i j : Nat) : Bool :=
 match ops[i]?, ops[j]? with
 | some a, some b => (a.dst.toList.all fun t => !(readsOf ops b).contains t) && (b.dst.toList.all fun t => !(readsOf ops a).contains t) && (match a.dst, b.dst with | some t, some u => t != u | _, _ => true) &&
   ((clsF (p i) (r i) a.op ≤ 1 && clsF (p j) (r j) b.op ≤ 1) || (clsF (p i) (r i) a.op == 0 && clsF (p j) (r j) b.op == 2) || (clsF (p i) (r i) a.op ≤ 1 && (clsF (p j) (r j) b.op == 2 && isAllocF (r j) b.op)) ||
    (clsF (p i) (r i) a.op == 2 && (clsF (p j) (r j) b.op == 2 && (callV a.op && (a.guard.isNone && (b.guard.isNone && (r j && allocV b.op)))))) ||
    (clsF (p i) (r i) a.op == 2 && (clsF (p j) (r j) b.op == 2 && (storeV a.op && (a.guard.isNone && (b.guard.isNone && (r j && isLit b.op)))))))
 | _, _ => true
theorem apartF_sound {p r : Nat → Bool} {ops : Array Oper} (hz : HZ P r ops) {i j : Nat} (h : apartF p r ops i j = true) : ApartAtF P p r ops i j := by
 intro a b ha hb
 unfold apartF at h
 rw [ha, hb] at h
 simp only [Bool.and_eq_true, Bool.or_eq_true, List.all_eq_true, decide_eq_true_eq, beq_iff_eq] at h
 obtain ⟨⟨⟨h1, h2⟩, h3⟩, h4⟩ := h
 refine ⟨fun t ht hm => ?_, fun t ht hm => ?_, fun t ht hu => ?_, ?_⟩
 rotate_left 3
 ·rcases h4 with (((h4 | h4) | h4) | h4) | h4
  rotate_left 4
  ·obtain ⟨q1, q2, q3, q4, q5, q6⟩ := h4
   exact .inr (.inr (.inr (.inr ⟨q1, q2, q3, Option.isNone_iff_eq_none.1 q4, Option.isNone_iff_eq_none.1 q5, by simpa using q6⟩)))
  ·exact .inl h4
  ·exact .inr (.inl h4)
  ·exact .inr (.inr (.inl ⟨h4.1, h4.2.1, h4.2.2⟩))
  ·obtain ⟨q1, q2, q3, q4, q5, q6, q7⟩ := h4
   refine .inr (.inr (.inr (.inl ⟨q1, q2, q3, Option.isNone_iff_eq_none.1 q4, Option.isNone_iff_eq_none.1 q5, ?_⟩)))
   cases hop : b.op with
   | alloc U => exact ⟨U, rfl, hz j b U hb q6 hop⟩
   | _ => rw [hop] at q7; cases q7
 ·have := h1 t (by simp [ht]); simp [hm] at this
 ·have := h2 t (by simp [ht]); simp [hm] at this
 ·rw [ht, hu] at h3; simp at h3
def pairsF (p r : Nat → Bool) (ops : Array Oper) (an : List (List Nat)) : List Nat → Bool
 | [] => true
 | k :: l => (l.all fun i => (an.getD i []).contains k || apartF p r ops k i) && pairsF p r ops an l
theorem pairsF_sound {p r : Nat → Bool} {ops : Array Oper} (hz : HZ P r ops) {an : List (List Nat)} : ∀ {l : List Nat}, pairsF p r ops an l = true → l.Pairwise fun k i => (an.getD i []).contains k = true ∨ ApartAtF P p r ops k i
 | [], _ => .nil
 | k :: l, h => by
  simp only [pairsF, Bool.and_eq_true, List.all_eq_true, Bool.or_eq_true] at h
  exact .cons (fun i hi => (h.1 i hi).imp id (apartF_sound hz)) (pairsF_sound hz h.2)
/-- The look at a region that draws its order, told in the order σ. -/
def orderF (p r : Nat → Bool) (σ : List Nat) (ops : Array Oper) : Bool :=
 ((List.range ops.size).all fun j => σ.contains j) && (σ.all fun j => j < ops.size) && decide σ.Nodup && pairsF p r ops (ancs ops.toList []) σ && ops.all fun (o : Oper) => o.after.all fun (e : Edge) => decide (e.on < ops.size)
def remF (σ : List Nat) (listed : Array Bool) : List Nat := σ.filter fun i => !listed.getD i true
theorem remF_set {σ : List Nat} (hσ : σ.Nodup) {listed : Array Bool} {i : Nat} (hin : i < listed.size) {l1 l2 : List Nat} (h : remF σ listed = l1 ++ i :: l2) : remF σ (listed.setIfInBounds i true) = l1 ++ l2 := by
 have hnd : (l1 ++ i :: l2).Nodup := by rw [← h]; exact List.Nodup.sublist List.filter_sublist hσ
 have e1 : remF σ (listed.setIfInBounds i true) = (remF σ listed).filter fun k => k != i := by
  unfold remF
  rw [List.filter_filter]
  apply List.filter_congr
  intro k hk
  by_cases hki : k = i
  ·subst hki
   simp [Array.getD_eq_getD_getElem?, hin]
  ·simp [Array.getD_eq_getD_getElem?, Array.getElem?_setIfInBounds_ne (Ne.symm hki), hki]
 rw [e1, h, List.filter_append, List.filter_cons]
 have h1 : ∀ k ∈ l1, (k != i) = true := fun k hk => by
  rw [bne_iff_ne]; rintro rfl
  exact (List.nodup_append.1 hnd).2.2 k hk k (by simp) rfl
 have h2 : ∀ k ∈ l2, (k != i) = true := fun k hk => by
  rw [bne_iff_ne]; rintro rfl
  exact (List.nodup_cons.1 (List.nodup_append.1 hnd).2.1).1 hk
 rw [List.filter_eq_self.2 h1, List.filter_eq_self.2 h2]
 simp
theorem binds_any {m : Region.Mode} {e : Edge} (h : Region.binds .any e = true) : Region.binds m e = true := by
 unfold Region.binds at h ⊢
 cases hg : e.ground <;> rw [hg] at h <;> simp at h ⊢ <;> cases h
/-- Does each stand behind what a mode binds it to? -/
def acyc (md : Region.Mode) (ops : Array Oper) : List Nat → List Nat → Bool
 | _, [] => true
 | done, j :: l => (match ops[j]? with | some o => o.after.all fun e => !Region.binds md e || done.contains e.on | none => true) && acyc md ops (j :: done) l
theorem acyc_ready {md : Region.Mode} {ops : Array Oper} {L : Nat → Bool} : ∀ (τ done : List Nat), acyc md ops done τ = true → (∀ j ∈ done, L j = true) → (∃ i ∈ τ, L i = false) → ∃ i ∈ τ, L i = false ∧ ∀ o, ops[i]? = some o → o.after.all (fun e => !Region.binds md e || L e.on) = true
 | [], done, _, _, ⟨i, hi, _⟩ => by cases hi
 | j :: l, done, h, hd, ⟨i, hi, hl⟩ => by
  simp only [acyc, Bool.and_eq_true] at h
  cases hj : L j with
  | true =>
   have hi' : i ∈ l := by
    rcases List.mem_cons.1 hi with rfl | h
    ·rw [hj] at hl; cases hl
    ·exact h
   obtain ⟨k, hk, h1, h2⟩ := acyc_ready l (j :: done) h.2 (fun x hx => by
    rcases List.mem_cons.1 hx with rfl | hx
    ·exact hj
    ·exact hd x hx) ⟨i, hi', hl⟩
   exact ⟨k, List.mem_cons_of_mem _ hk, h1, h2⟩
  | false =>
   refine ⟨j, List.mem_cons_self .., hj, fun o ho => ?_⟩
   have h1 := h.1
   rw [ho] at h1
   simp only [Array.all_eq_true', Bool.or_eq_true] at h1 ⊢
   intro e he
   rcases h1 e he with h | h
   ·exact .inl h
   ·exact .inr (hd _ (by simpa using h))
def acycAll (md : Region.Mode) (ops : Array Oper) (τ : List Nat) : Bool := acyc md ops [] τ && (List.range ops.size).all fun j => τ.contains j
theorem linearF_sound (md : Region.Mode) {p r : Nat → Bool} {σ : List Nat} {ops : Array Oper} (hz : HZ P r ops) {K : St → Prop} (hB : orderF p r σ ops = true) {τ : List Nat} (hT : acycAll md ops τ = true) : ∀ (fuel t : Nat) (listed : Array Bool) (acc : List Nat), listed.size = ops.size → fuel = (rem ops.size listed).length → fuel = (remF σ listed).length →
  (∀ (j : Nat) (o : Oper), ops[j]? = some o → listed.getD j true = true → ∀ e ∈ direct o, listed.getD e true = true) →
  ∃ π, Region.linearise.go md ops fuel t listed acc = acc.reverse ++ π ∧ ∀ s, AOpsF P p r ops K (remF σ listed) s → AOpsF P p r ops K π s := by
 intro fuel
 induction fuel with
 | zero =>
  intro t listed acc hs hf0 hf hc
  have : remF σ listed = [] := List.eq_nil_of_length_eq_zero hf.symm
  rw [this]
  exact ⟨[], by simp [Region.linearise.go], fun s hk => hk⟩
 | succ fuel ih =>
  intro t listed acc hs hf0 hf hc
  unfold orderF at hB
  simp only [Bool.and_eq_true, List.all_eq_true, List.mem_range, decide_eq_true_eq, Array.all_eq_true'] at hB
  obtain ⟨⟨⟨⟨hB, hσ1⟩, hσ2⟩, hpairs⟩, hE0⟩ := hB
  have hE : ∀ (i : Nat) (o : Oper), ops[i]? = some o → ∀ e ∈ o.after, e.on < ops.size := by
   intro i o ho e he
   have h1 := hE0 o (Array.mem_of_getElem? ho)
   exact h1 e he
  have hready : ∀ (i : Nat) (o : Oper), ops[i]? = some o → (((ops[i]?).map (·.after.all fun e => !Region.binds md e || listed.getD e.on false)).getD false = true → ∀ e ∈ direct o, listed.getD e false = true) := by
   intro i o ho
   rw [ho]
   simp only [Option.map_some, Option.getD_some, Array.all_eq_true', direct, List.mem_map, List.mem_filter]
   rintro h e ⟨x, ⟨hx, hb⟩, rfl⟩
   have := h x (by simpa using hx)
   simpa [binds_any (m := md) hb] using this
  unfold Region.linearise.go
  simp only
  generalize hrs : ((List.range ops.size).filter fun i => !listed.getD i true && ((ops[i]?).map (·.after.all fun e => !Region.binds md e || listed.getD e.on false)).getD false) = rs
  have hmem : ∀ i, i ∈ rs → i ∈ rem ops.size listed ∧ i ∈ remF σ listed ∧ ∃ o, ops[i]? = some o ∧ ∀ e ∈ direct o, listed.getD e false = true := by
   intro i hi
   rw [← hrs] at hi
   obtain ⟨h1, h2⟩ := List.mem_filter.1 hi
   simp only [Bool.and_eq_true] at h2
   have hlt := List.mem_range.1 h1
   refine ⟨List.mem_filter.2 ⟨h1, h2.1⟩, List.mem_filter.2 ⟨by simpa using hB i hlt, h2.1⟩, ?_⟩
   exact ⟨ops[i], by simp [hlt], hready i _ (by simp [hlt]) h2.2⟩
  have hne : rs ≠ [] := by
   have hrem : rem ops.size listed ≠ [] := by intro h; rw [h] at hf0; simp at hf0
   obtain ⟨i0, l0, hil⟩ := List.exists_cons_of_ne_nil hrem
   have hi0 : i0 ∈ rem ops.size listed := by rw [hil]; simp
   obtain ⟨hin0, hiu0⟩ := List.mem_filter.1 hi0
   unfold acycAll at hT
   simp only [Bool.and_eq_true, List.all_eq_true, List.mem_range] at hT
   obtain ⟨i, hiτ, h1, h2⟩ := acyc_ready (L := fun j => listed.getD j true) τ [] hT.1 (fun j hj => by cases hj) ⟨i0, by simpa using hT.2 i0 (List.mem_range.1 hin0), by simpa using hiu0⟩
   have hin : i < ops.size := by
    rcases Nat.lt_or_ge i ops.size with h | h
    ·exact h
    ·simp [Array.getD_eq_getD_getElem?, Array.getElem?_eq_none (show listed.size ≤ i by omega)] at h1
   intro hnil
   have : i ∈ rs := by
    rw [← hrs]
    refine List.mem_filter.2 ⟨List.mem_range.2 hin, ?_⟩
    simp only [Bool.and_eq_true]
    refine ⟨by simp [h1], ?_⟩
    have h3 := h2 ops[i] (by simp [hin])
    rw [show ops[i]? = some ops[i] from by simp [hin]]
    simp only [Option.map_some, Option.getD_some, Array.all_eq_true', Bool.or_eq_true] at h3 ⊢
    intro e he
    rcases h3 e he with h | h
    ·exact .inl h
    ·cases hb : Region.binds md e with
     | false => exact .inl rfl
     | true =>
      refine .inr ?_
      -- what is not there is never listed
      have hes := (hE i ops[i] (by simp [hin])) e he
      simp only [Array.getD_eq_getD_getElem?] at h ⊢
      rw [show listed[e.on]? = some (listed[e.on]'(by omega)) from by simp [hs, hes]] at h ⊢
      simpa using h
   rw [hnil] at this; cases this
  have hpos : 0 < rs.length := List.length_pos_iff.2 hne
  have hlt : t % rs.length < rs.length := Nat.mod_lt _ hpos
  rw [List.getElem?_eq_getElem hlt]
  simp only
  obtain ⟨hi0, hi, o, ho, hd⟩ := hmem _ (List.getElem_mem hlt)
  generalize rs[t % rs.length] = i at *
  obtain ⟨l1, l2, hl⟩ := List.append_of_mem hi
  obtain ⟨k1, k2, hl0⟩ := List.append_of_mem hi0
  have hin := List.mem_range.1 (List.mem_filter.1 hi0).1
  have hset := remF_set hσ2 (by omega : i < listed.size) hl
  have hset0 := rem_set hs hl0
  have hlisted : ∀ e, listed.getD e false = true → listed.getD e true = true := by
   intro e he
   simp only [Array.getD_eq_getD_getElem?] at he ⊢
   cases hq : listed[e]? with
   | none => rfl
   | some b => rw [hq] at he; simpa using he
  have hap : ∀ k ∈ l1, ApartAtF P p r ops k i := by
   intro k hk1
   have hkm : k ∈ remF σ listed := by rw [hl]; simp [hk1]
   have hp : (remF σ listed).Pairwise _ := List.Pairwise.filter _ (pairsF_sound hz hpairs)
   rw [hl] at hp
   rcases (List.pairwise_append.1 hp).2.2 k hk1 i (by simp) with h | h
   ·have hclosed := ancs_closed ops (fun e => listed.getD e true = true) hc ops.toList [] 0 rfl (Nat.zero_le _) (fun q => by simp) (fun j o _ _ k hk => by simp [List.getD_eq_getElem?_getD] at hk) i o ho (fun e he => hlisted e (hd e he)) k (by simpa using h)
    have := (List.mem_filter.1 hkm).2
    rw [hclosed] at this; cases this
   ·exact h
  have hc' : ∀ (j : Nat) (o' : Oper), ops[j]? = some o' → (listed.setIfInBounds i true).getD j true = true → ∀ e ∈ direct o', (listed.setIfInBounds i true).getD e true = true := by
   intro j o' ho' hj e he
   have key : ∀ q, listed.getD q true = true → (listed.setIfInBounds i true).getD q true = true := by
    intro q hq
    by_cases hqi : q = i
    ·subst hqi; simp [Array.getD_eq_getD_getElem?]
    ·simpa [Array.getD_eq_getD_getElem?, Array.getElem?_setIfInBounds_ne (Ne.symm hqi)] using hq
   by_cases hji : j = i
   ·subst hji
    rw [ho] at ho'
    obtain rfl := Option.some.inj ho'
    exact key e (hlisted e (hd e he))
   ·have : listed.getD j true = true := by simpa [Array.getD_eq_getD_getElem?, Array.getElem?_setIfInBounds_ne (Ne.symm hji)] using hj
    exact key e (hc j o' ho' this e he)
  obtain ⟨π, hgo, hπ⟩ := ih (t / rs.length) (listed.setIfInBounds i true) (i :: acc) (by simpa using hs) (by rw [hset0]; rw [hl0] at hf0; simp at hf0 ⊢; omega) (by rw [hset]; rw [hl] at hf; simp at hf ⊢; omega) hc'
  refine ⟨i :: π, by rw [hgo]; simp, fun s hk => ?_⟩
  rw [hl] at hk
  have hk2 := aopsF_front l1 s hap hk
  rw [hset] at hπ
  exact aopsF_mono hπ i s hk2
theorem scheduleF_sound {p r : Nat → Bool} {σ τ : List Nat} {ops : Array Oper} (hz : HZ P r ops) {K : St → Prop} (hB : orderF p r σ ops = true) (hT : (acycAll .text ops (List.range ops.size) && acycAll .gc ops τ && acycAll .any ops τ) = true) (mixed : Bool) (t : Nat) (s : St) (hk : AOpsF P p r ops K σ s) : AOpsF P p r ops K (Region.schedule mixed ops t) s := by
 have hB' := hB
 unfold orderF at hB'
 simp only [Bool.and_eq_true, List.all_eq_true, List.mem_range, decide_eq_true_eq] at hB'
 obtain ⟨⟨⟨⟨hBr, hσ1⟩, hσ2⟩, hpairs⟩, _⟩ := hB'
 simp only [Bool.and_eq_true] at hT
 have hrem : rem ops.size (Array.replicate ops.size false) = List.range ops.size := by
  unfold rem
  rw [List.filter_eq_self]
  intro i hi
  have := List.mem_range.1 hi
  simp [Array.getD_eq_getD_getElem?, this]
 have hremF : remF σ (Array.replicate ops.size false) = σ := by
  unfold remF
  rw [List.filter_eq_self]
  intro i hi
  have := hσ1 i hi
  simp [Array.getD_eq_getD_getElem?, this]
 have hlen : ops.size = σ.length := by
  have hp : σ.Perm (List.range ops.size) := (List.perm_ext_iff_of_nodup hσ2 List.nodup_range).2 fun a => ⟨fun h => List.mem_range.2 (hσ1 a h), fun h => by simpa using hBr a (List.mem_range.1 h)⟩
  simpa using hp.length_eq.symm
 have key : ∀ md t (τ : List Nat), acycAll md ops τ = true → AOpsF P p r ops K (Region.linearise md ops t) s := by
  intro md t τ hT
  obtain ⟨π, hgo, hπ⟩ := linearF_sound (P := P) md hz (K := K) hB hT ops.size t (Array.replicate ops.size false) [] (by simp) (by rw [hrem]; simp) (by rw [hremF]; exact hlen) (fun j o ho hj => by
   have hlt := (Array.getElem?_eq_some_iff.1 ho).1
   simp [Array.getD_eq_getD_getElem?, hlt] at hj)
  unfold Region.linearise
  rw [hgo, List.reverse_nil, List.nil_append]
  exact hπ s (by rw [hremF]; exact hk)
 unfold Region.schedule
 split
 ·exact key _ _ τ hT.2
 ·split
  ·exact key _ _ _ hT.1.1
  ·exact key _ _ τ hT.1.2
def regF (N : Nat) (p r : Nat → Bool) (σ τ : List Nat) (ops : Array Oper) : Bool := dstB N ops && (orderF p r σ ops && (acycAll .text ops (List.range ops.size) && acycAll .gc ops τ && acycAll .any ops τ))
/-- A region that draws its order, told in the order σ; r: the loads of what nobody writes any more. -/
theorem AWp.regionZ {N : Nat} {id : Nat} {ops : Array Oper} {Q : Exit → St → Prop} {s : St} (p r : Nat → Bool) (σ τ : List Nat) (hB : regF N p r σ τ ops = true) (hz : HZ P r ops) (h : AOpsF P p r ops (Q .normal) σ s) : AWp P N (.region id ops true) Q s := by
 intro C a w hr hN
 unfold regF at hB
 simp only [Bool.and_eq_true] at hB
 obtain ⟨hd, ho, hT⟩ := hB
 have hb : ∀ (j : Nat) (d : Tmp), (ops[j]?).bind (·.dst) = some d → d < N := by
  intro j d hj
  unfold dstB at hd
  rw [Array.all_eq_true'] at hd
  cases hq : ops[j]? with
  | none => rw [hq] at hj; cases hj
  | some o =>
   rw [hq] at hj
   have := hd o (Array.mem_of_getElem? hq)
   simp at hj
   rw [hj] at this
   simpa using this
 have hQ : NextOk C (Q .normal) N (Lift C N Q .normal) := fun s a w h1 h2 h3 => ⟨s, h1, h2, h3⟩
 refine wp_region_draw fun t => ?_
 refine aopsF_sound hb hQ _ s a _ ?_ hN (scheduleF_sound hz ho (by simp only [Bool.and_eq_true]; exact hT) _ t s h)
 obtain ⟨S, h1, h2, h3⟩ := hr.ex
 exact ⟨⟨S, h1, memRep_drew h2 _, fun t => Rep.mono (w := w) (w' := { w with drawn := w.drawn + 1 }) (fun _ _ => rfl) (fun _ h => h) (h3 t)⟩, hr.defers, hr.keep.drew _, hr.dom⟩
/-- A region in the text's order; r: the loads of what nobody writes any more, and the literals that are one's own. -/
theorem AWp.regionN {N : Nat} {id : Nat} {ops : Array Oper} {Q : Exit → St → Prop} {s : St} (p r : Nat → Bool) (l : List Nat) (hB : (dstB N ops && decide (l = List.range ops.size)) = true) (h : AOpsF P p r ops (Q .normal) l s) : AWp P N (.region id ops false) Q s := by
 intro C a w hr hN
 rw [Bool.and_eq_true, decide_eq_true_eq] at hB
 obtain ⟨hB, rfl⟩ := hB
 have hb : ∀ (j : Nat) (d : Tmp), (ops[j]?).bind (·.dst) = some d → d < N := by
  intro j d hj
  unfold dstB at hB
  rw [Array.all_eq_true'] at hB
  cases hq : ops[j]? with
  | none => rw [hq] at hj; cases hj
  | some o =>
   rw [hq] at hj
   have := hB o (Array.mem_of_getElem? hq)
   simp at hj
   rw [hj] at this
   simpa using this
 have hQ : NextOk C (Q .normal) N (Lift C N Q .normal) := fun s a w h1 h2 h3 => ⟨s, h1, h2, h3⟩
 exact wp_region (aopsF_sound hb hQ _ s a w hr hN h)
def noAl (r : Nat → Bool) (ops : Array Oper) : Bool := (List.range ops.size).all fun j => !r j || !(match ops[j]? with | some o => allocV o.op | none => false)
theorem noAl_hz {r : Nat → Bool} {ops : Array Oper} (h : noAl r ops = true) : HZ P r ops := fun j o U ho hr hU => by
 unfold noAl at h
 rw [List.all_eq_true] at h
 have := h j (List.mem_range.2 (Array.getElem?_eq_some_iff.1 ho).1)
 rw [ho] at this
 simp [hr, hU, allocV] at this
theorem AWp.regionG {N : Nat} {id : Nat} {ops : Array Oper} {Q : Exit → St → Prop} {s : St} (p r : Nat → Bool) (σ τ : List Nat) (hB : (noAl r ops && regF N p r σ τ ops) = true) (h : AOpsF P p r ops (Q .normal) σ s) : AWp P N (.region id ops true) Q s := by
 rw [Bool.and_eq_true] at hB
 exact AWp.regionZ p r σ τ hB.2 (noAl_hz hB.1) h
theorem AWp.regionF {N : Nat} {id : Nat} {ops : Array Oper} {Q : Exit → St → Prop} {s : St} (p r : Nat → Bool) (σ : List Nat) (hB : (noAl r ops && regF N p r σ (List.range ops.size) ops) = true) (h : AOpsF P p r ops (Q .normal) σ s) : AWp P N (.region id ops true) Q s := AWp.regionG p r σ _ hB h
@[simp] theorem aopsF_nil (p r : Nat → Bool) (ops : Array Oper) (K : St → Prop) (s : St) : AOpsF P p r ops K [] s = K s := (_root_.id rfl)
@[simp] theorem aopsF_step (p r : Nat → Bool) (ops : Array Oper) (K : St → Prop) (i : Nat) (l : List Nat) (s : St) : AOpsF P p r ops K (i :: l) s = match ops[i]? with | none => AOpsF P p r ops K l s | some o => GOpF P (p i) (r i) ops o s (AOpsF P p r ops K l) := (_root_.id rfl)
@[simp] theorem gopF_none (f r : Bool) (ops : Array Oper) (d : Option Tmp) (op : Op) (T : TypeId) (pos : String) (af : Array Edge) (s : St) (K : St → Prop) : GOpF P f r ops ⟨d, op, T, pos, af, none⟩ s K = AOpF P f r ⟨d, op, T, pos, af, none⟩ s K := (_root_.id rfl)
@[simp] theorem gopF_some (f r : Bool) (ops : Array Oper) (d : Option Tmp) (op : Op) (T : TypeId) (pos : String) (af : Array Edge) (j : Nat) (want : Bool) (s : St) (K : St → Prop) : GOpF P f r ops ⟨d, op, T, pos, af, some (j, want)⟩ s K =
  guardRun (gv ops j s) want (AOpF P f r ⟨d, op, T, pos, af, none⟩ s K) (K (s.put d (.tup []))) := by
 unfold GOpF wantedA gv guardRun
 simp only
 cases hj : (ops[j]?).bind (·.dst) with
 | none => rfl
 | some t =>
  simp only
  cases hs : s.slots t with
  | bool b =>
   simp only
   by_cases h : b = want
   ·subst h; simp; rfl
   ·have : (b == want) = false := by simpa using h
    simp [this, h]
  | tup l => cases l <;> rfl
  | _ => rfl
@[simp] theorem aopF_lit (f : Bool) (d : Option Tmp) (U : TypeId) (n : Nat) (parts : Array (Nat × Operand)) (T : TypeId) (pos : String) (af : Array Edge) (g : Option (Nat × Bool)) (s : St) (K : St → Prop) : AOpF P f true ⟨d, .buildSlice U n parts, T, pos, af, g⟩ s K = LitO P s.mem s.eval (fun v m' => K ((s.put d v).withMem m')) (.buildSlice U n parts) := by
 simp only [AOpF, isLoad, isLit, Bool.and_self, Bool.and_false, if_true, Bool.false_eq_true, if_false]
@[simp] theorem litO_lit (m : Mem) (ev : Operand → AV) (k : AV → Mem → Prop) (U : TypeId) (len : Nat) (parts : Array (Nat × Operand)) : LitO P m ev k (.buildSlice U len parts) = match elemT P U with
  | some E => match szT P E with
   | some n => len = parts.size ∧ len * n ≤ 16777216 ∧ n ≠ 0 ∧ (zeroE P E).isSome = true ∧
    match literalA n (parts.toList.map fun q => (q.1, ev q.2)) with
    | some xs => ∀ g, m g = none → k (.own g len len) (m.set g (.arr E n len xs))
    | none => False
   | none => False
  | none => False := (_root_.id rfl)
@[simp] theorem aopF_f (f : Bool) (o : Oper) (s : St) (K : St → Prop) : AOpF P f false o s K = AOp P f o s K := by simp [AOpF]
@[simp] theorem aopF_load (f : Bool) (d : Option Tmp) (U : TypeId) (x : Operand) (T : TypeId) (pos : String) (af : Array Edge) (g : Option (Nat × Bool)) (s : St) (K : St → Prop) : AOpF P f true ⟨d, .load U x, T, pos, af, g⟩ s K = goO (loadA P noMem U (s.eval x)) d s K := by
 simp only [AOpF, isLoad, Bool.and_self, if_true, outR, goO]
 cases loadA P noMem U (s.eval x) <;> simp
@[simp] theorem aopF_idx (f : Bool) (d : Option Tmp) (U : TypeId) (x i : Operand) (T : TypeId) (pos : String) (af : Array Edge) (g : Option (Nat × Bool)) (s : St) (K : St → Prop) : AOpF P f true ⟨d, .indexAddr U x i, T, pos, af, g⟩ s K = goO (idxA P noMem U (s.eval x) (s.eval i)) d s K := by
 simp only [AOpF, isLoad, Bool.and_self, if_true, outR, goO]
 cases idxA P noMem U (s.eval x) (s.eval i) <;> simp
end
end Go.T
namespace Go.T
open Go
section
variable {P : Program} {N : Nat} {c d : Code} {Q : Exit → St → Prop} {s : St}
theorem AWp.cutA {X : St → Prop} (M : St → Prop) (h : AWp P N c (thenA M Q) s) (hm : ∀ s', M s' → X s') : AWp P N c (thenA X Q) s :=
 h.mono fun e s' hs => by
  cases e with
  | normal => exact hm s' hs
  | _ => exact hs
/-- A slot's value seen as another one. -/
theorem Sees.view {s : St} {t : Tmp} {m' : Mem} {r' : AV} (h : View s.mem (s.slots t) m' r') : Sees s ⟨fun k => if k = t then r' else s.slots k, m'⟩ := fun w S f h1 h2 => by
 obtain ⟨S', k1, k2, k3, k4, k5⟩ := h w S (f t) h1 (h2 t)
 refine ⟨S', k1, k2, k3, fun k => ?_, k5⟩
 by_cases hk : k = t
 ·subst hk
  simpa using k4
 ·simp only [if_neg hk]
  exact (h2 k).mono (fun _ _ => rfl) k1
/-- A call of what is told for a value, with one that is seen as it. -/
theorem PCall.viewed {n : FuncId} {l l' : List AV} {a a' : AV} {r : AV} {m m' : Mem} (h : PCall P n (l ++ a' :: l') r) (hv : View m a m' a') {K : AV → Mem → Prop} (hK : K r m') : WCall P n (l ++ a :: l') m K := by
 refine ⟨h.1, fun w S cargs hm hr => ?_⟩
 obtain ⟨us, ws, rfl, h1, h2⟩ := hr.split
 cases h2 with | @cons _ v _ ws hv2 h3 =>
 obtain ⟨S', k1, k2, k3, k4, k5⟩ := hv w S v hm hv2
 have hst : Stays S w w := fun _ _ => rfl
 have := h.2 w S' (us ++ v :: ws) _ k3 ((h1.mono hst k1).append (.cons k4 (h3.mono hst k1)))
 refine calls_mono this ?_
 rintro e' w' ⟨v', S2, he, a1, a2, a3, a4, a5⟩
 refine ⟨v', r, m', S2, he, hK, fun b hb => a1 b (k1 b hb), fun b hb => ?_, a3, a4, a5.mono (fun _ h => h.elim), fun g' b hb => .inl (k5 g' b hb)⟩
 rcases a2 b hb with h | h
 ·rcases k2 b h with h | h
  ·exact .inl h
  ·exact .inr (.inl h)
 ·exact .inr (.inr h)
end
end Go.T
namespace Go.T
open Go
def inR (n a b : Int) : Bool := decide (a ≤ n) && decide (n ≤ b)
def small (c : UInt8) : Bool := inR c.toNat 97 122
def keptL : List ByteArray := [⟨#[97, 114, 114, 97, 121]⟩, ⟨#[102, 111, 114]⟩, ⟨#[116, 111]⟩, ⟨#[112, 114, 105, 110, 116]⟩, ⟨#[109, 105, 110]⟩, ⟨#[109, 97, 120]⟩]
def has (l : List ByteArray) (s : ByteArray) : Bool := l.any fun x => decide (x = s)
def kept (s : ByteArray) : Bool := has keptL s
def nameOk (s : ByteArray) : Bool := s.data.toList.all small && (inR s.size 1 6 && !kept s)
def strs (l : List ByteArray) : AV := .lst false 1 (l.map .str)
def noP : Nat → Bool := fun _ => false
def allP : Nat → Bool := fun _ => true
theorem all_drop {s : ByteArray} {i : Nat} (h : i < s.size) (f : UInt8 → Bool) : ∃ b, s.data.toList[i]? = some b ∧ (s.data.toList.drop i).all f = (f b && (s.data.toList.drop (i + 1)).all f) := by
 have h' : i < s.data.toList.length := by have := size_list s; omega
 exact ⟨s.data.toList[i], List.getElem?_eq_getElem h', by rw [List.drop_eq_getElem_cons h', List.all_cons]⟩
theorem drop_size (s : ByteArray) : s.data.toList.drop s.size = [] := List.drop_eq_nil_of_le (by have := size_list s; omega)
theorem rgA {P : Program} {N id : Nat} {ops : Array Oper} {draw : Bool} {Q : Exit → St → Prop} {s : St} (hB : regB N noP ops draw = true) (h : AOpsL P noP ops (Q .normal) 0 ops.toList s) : AWp P N (.region id ops draw) Q s := AWp.region noP hB h
theorem sqA {P : Program} {N : Nat} {x y : Code} {Q : Exit → St → Prop} {s : St} (h : AWp P N x (thenA (AWp P N y Q) Q) s) : AWp P N (.seq x y) Q s := AWp.seq h
end Go.T
namespace Go.T
open Go
inductive Ex where
 | mk (k n : Int) (s : ByteArray) (l : List Ex)
mutual
def Ex.cells : Ex → List AV
 | .mk k n s l => [.int .i64 k, .int .i64 n, .str s, .lst false 4 (Ex.avs l)]
def Ex.avs : List Ex → List AV
 | [] => []
 | e :: l => .agg e.cells :: Ex.avs l
end
def Ex.av (e : Ex) : AV := .agg e.cells
theorem Ex.avs_map : ∀ l, Ex.avs l = l.map Ex.av
 | [] => rfl
 | e :: l => by rw [Ex.avs, Ex.avs_map l]; rfl
theorem Ex.cells_mk (k n : Int) (s : ByteArray) (l : List Ex) : (Ex.mk k n s l).cells = [.int .i64 k, .int .i64 n, .str s, .lst false 4 (l.map Ex.av)] := by rw [Ex.cells, Ex.avs_map]
@[simp] theorem Ex.cells_len (e : Ex) : e.cells.length = 4 := by cases e; rw [Ex.cells_mk]; rfl
@[simp] theorem Ex.take (e : Ex) (r : List AV) : List.take 4 (e.cells ++ r) = e.cells := List.take_left' e.cells_len
@[simp] theorem Ex.takek (e : Ex) (r : List AV) (k : Nat) : List.take (k + 4) (e.cells ++ r) = e.cells ++ List.take k r := by rw [List.take_append, e.cells_len, List.take_of_length_le (by rw [e.cells_len]; omega)]; simp
@[simp] theorem Ex.take0 (e : Ex) : List.take 4 e.cells = e.cells := List.take_of_length_le (by rw [e.cells_len]; exact Nat.le_refl _)
@[simp] theorem Ex.drop (e : Ex) (r : List AV) (k : Nat) : List.drop (k + 4) (e.cells ++ r) = List.drop k r := by rw [List.drop_append, e.cells_len, List.drop_eq_nil_of_le (by rw [e.cells_len]; omega)]; simp
@[simp] theorem Ex.drop0 (e : Ex) (r : List AV) : List.drop 4 (e.cells ++ r) = r := List.drop_left' e.cells_len
@[simp] theorem Ex.cells_ok (e : Ex) : e.cells.all okCell = true := by cases e; rw [Ex.cells_mk]; rfl
mutual
/-- What holds of all parts holds of it. -/
theorem Ex.ind {M : Ex → Prop} (h : ∀ k n s l, (∀ x ∈ l, M x) → M (.mk k n s l)) : ∀ e, M e
 | .mk k n s l => h k n s l (Ex.inds h l)
theorem Ex.inds {M : Ex → Prop} (h : ∀ k n s l, (∀ x ∈ l, M x) → M (.mk k n s l)) : ∀ l : List Ex, ∀ x ∈ l, M x
 | [], x, hx => by cases hx
 | e :: l, x, hx => by
  have h1 := Ex.ind h e
  have h2 := Ex.inds h l
  rcases List.mem_cons.1 hx with rfl | hx
  ·exact h1
  ·exact h2 x hx
end
/-- How much it holds. -/
def totL {X : Type} (f : X → Nat) : List X → Nat
 | [] => 0
 | x :: l => 1 + f x + totL f l
mutual
def Ex.tot : Ex → Nat
 | .mk _ _ s l => s.size + Ex.tots l
def Ex.tots : List Ex → Nat
 | [] => 0
 | e :: l => 1 + e.tot + Ex.tots l
end
theorem Ex.tots_eq : ∀ l, Ex.tots l = totL Ex.tot l
 | [] => rfl
 | e :: l => by rw [Ex.tots, Ex.tots_eq l, totL]
theorem Ex.tot_mk (k n : Int) (s : ByteArray) (l : List Ex) : (Ex.mk k n s l).tot = s.size + totL Ex.tot l := by rw [Ex.tot, Ex.tots_eq]
def most : Nat := 9223372036854775807
mutual
/-- No string and no slice is longer than any can be. -/
def Ex.fit : Ex → Prop
 | .mk _ _ s l => s.size ≤ most ∧ l.length ≤ most ∧ Ex.fits l
def Ex.fits : List Ex → Prop
 | [] => True
 | e :: l => e.fit ∧ Ex.fits l
end
inductive Sm where
 | mk (k : Int) (s : ByteArray) (a e lo hi : Ex) (body : List Sm)
mutual
def Sm.cells : Sm → List AV
 | .mk k s a e lo hi b => .int .i64 k :: .str s :: (a.cells ++ (e.cells ++ (lo.cells ++ (hi.cells ++ [.lst false 19 (Sm.avs b)]))))
def Sm.avs : List Sm → List AV
 | [] => []
 | e :: l => .agg e.cells :: Sm.avs l
end
def Sm.av (e : Sm) : AV := .agg e.cells
theorem Sm.avs_map : ∀ l, Sm.avs l = l.map Sm.av
 | [] => rfl
 | e :: l => by rw [Sm.avs, Sm.avs_map l]; rfl
theorem Sm.cells_mk (k : Int) (s : ByteArray) (a e lo hi : Ex) (b : List Sm) : (Sm.mk k s a e lo hi b).cells = .int .i64 k :: .str s :: (a.cells ++ (e.cells ++ (lo.cells ++ (hi.cells ++ [.lst false 19 (b.map Sm.av)])))) := by rw [Sm.cells, Sm.avs_map]
@[simp] theorem Sm.cells_len (e : Sm) : e.cells.length = 19 := by cases e; rw [Sm.cells_mk]; simp [Ex.cells_len]
@[simp] theorem Sm.take (e : Sm) (r : List AV) : List.take 19 (e.cells ++ r) = e.cells := List.take_left' e.cells_len
@[simp] theorem Sm.takek (e : Sm) (r : List AV) (k : Nat) : List.take (k + 19) (e.cells ++ r) = e.cells ++ List.take k r := by rw [List.take_append, e.cells_len, List.take_of_length_le (by rw [e.cells_len]; omega)]; simp
@[simp] theorem Sm.take0 (e : Sm) : List.take 19 e.cells = e.cells := List.take_of_length_le (by rw [e.cells_len]; exact Nat.le_refl _)
@[simp] theorem Sm.drop (e : Sm) (r : List AV) (k : Nat) : List.drop (k + 19) (e.cells ++ r) = List.drop k r := by rw [List.drop_append, e.cells_len, List.drop_eq_nil_of_le (by rw [e.cells_len]; omega)]; simp
@[simp] theorem Sm.drop0 (e : Sm) (r : List AV) : List.drop 19 (e.cells ++ r) = r := List.drop_left' e.cells_len
@[simp] theorem Sm.cells_ok (e : Sm) : e.cells.all okCell = true := by cases e; rw [Sm.cells_mk]; simp only [List.all_cons, List.all_append, Ex.cells_ok]; rfl
mutual
theorem Sm.ind {M : Sm → Prop} (h : ∀ k s a e lo hi b, (∀ x ∈ b, M x) → M (.mk k s a e lo hi b)) : ∀ e, M e
 | .mk k s a e lo hi b => h k s a e lo hi b (Sm.inds h b)
theorem Sm.inds {M : Sm → Prop} (h : ∀ k s a e lo hi b, (∀ x ∈ b, M x) → M (.mk k s a e lo hi b)) : ∀ l : List Sm, ∀ x ∈ l, M x
 | [], x, hx => by cases hx
 | e :: l, x, hx => by
  have h1 := Sm.ind h e
  have h2 := Sm.inds h l
  rcases List.mem_cons.1 hx with rfl | hx
  ·exact h1
  ·exact h2 x hx
end
mutual
def Sm.tot : Sm → Nat
 | .mk _ s a e lo hi b => s.size + (a.tot + (e.tot + (lo.tot + (hi.tot + Sm.tots b))))
def Sm.tots : List Sm → Nat
 | [] => 0
 | e :: l => 1 + e.tot + Sm.tots l
end
theorem Sm.tots_eq : ∀ l, Sm.tots l = totL Sm.tot l
 | [] => rfl
 | e :: l => by rw [Sm.tots, Sm.tots_eq l, totL]
theorem Sm.tot_mk (k : Int) (s : ByteArray) (a e lo hi : Ex) (b : List Sm) : (Sm.mk k s a e lo hi b).tot = s.size + (a.tot + (e.tot + (lo.tot + (hi.tot + totL Sm.tot b)))) := by rw [Sm.tot, Sm.tots_eq]
mutual
def Sm.fit : Sm → Prop
 | .mk _ s a e lo hi b => s.size ≤ most ∧ a.fit ∧ e.fit ∧ lo.fit ∧ hi.fit ∧ b.length ≤ most ∧ Sm.fits b
def Sm.fits : List Sm → Prop
 | [] => True
 | e :: l => e.fit ∧ Sm.fits l
end
structure Ar where
 s : ByteArray
 n : Int
def Ar.cells (a : Ar) : List AV := [.str a.s, .int .i64 a.n]
def Ar.av (a : Ar) : AV := .agg a.cells
def Ar.tot (a : Ar) : Nat := a.s.size
def Ar.fit (a : Ar) : Prop := a.s.size ≤ most
@[simp] theorem Ar.cells_len (e : Ar) : e.cells.length = 2 := rfl
@[simp] theorem Ar.take0 (e : Ar) : List.take 2 e.cells = e.cells := rfl
@[simp] theorem Ar.cells_ok (e : Ar) : e.cells.all okCell = true := rfl
structure Pg where
 arrs : List Ar
 body : List Sm
def Pg.cells (p : Pg) : List AV := [.lst false 2 (p.arrs.map Ar.av), .lst false 19 (p.body.map Sm.av)]
def Pg.av (p : Pg) : AV := .agg p.cells
def Pg.tot (p : Pg) : Nat := totL Ar.tot p.arrs + totL Sm.tot p.body
def Pg.fit (p : Pg) : Prop := p.arrs.length ≤ most ∧ (∀ x ∈ p.arrs, x.fit) ∧ p.body.length ≤ most ∧ ∀ x ∈ p.body, x.fit
@[simp] theorem Pg.cells_len (e : Pg) : e.cells.length = 2 := rfl
@[simp] theorem Pg.take0 (e : Pg) : List.take 2 e.cells = e.cells := rfl
@[simp] theorem Pg.cells_ok (e : Pg) : e.cells.all okCell = true := rfl

theorem totL_len {X : Type} (f : X → Nat) : ∀ l, l.length ≤ totL f l
 | [] => Nat.zero_le _
 | x :: l => by have := totL_len f l; simp only [totL, List.length_cons]; omega
theorem totL_mem {X : Type} (f : X → Nat) : ∀ {l} {x}, x ∈ l → f x < totL f l
 | y :: l, x, h => by
  simp only [totL]
  rcases List.mem_cons.1 h with rfl | h
  ·omega
  ·have := totL_mem f h; omega
def sumL {X : Type} (f : X → Nat) : List X → Nat
 | [] => 0
 | x :: l => f x + sumL f l
end Go.T
namespace Go.T
open Go
def noS (s : ByteArray) : Bool := decide (s = ⟨#[]⟩)
/-- Is an expression as told, but for its parts? -/
def partsOk (k n : Int) (s : ByteArray) (len : Int) : Bool :=
 if k = 1 then inR n 0 999999 && noS s && decide (len = 0)
 else if k = 2 then nameOk s && decide (n = 0) && decide (len = 0)
 else if k = 3 then nameOk s && decide (n = 0) && decide (len = 1)
 else inR k 4 8 && decide (n = 0) && noS s && decide (len = 2)
/-- How many parts a kind has. -/
def partsN (k : Int) : Int := if k = 1 then 0 else if k = 2 then 0 else if k = 3 then 1 else if inR k 4 8 then 2 else -1
mutual
/-- Is an expression as told, so deep? -/
def Ex.good : Ex → Nat → Bool
 | .mk k n s l, d => decide (d ≤ 8) && partsOk k n s l.length && Ex.goods l (d + 1)
def Ex.goods : List Ex → Nat → Bool
 | [], _ => true
 | e :: l, d => e.good d && Ex.goods l d
end
mutual
def Ex.nodes : Ex → Nat
 | .mk _ _ _ l => 1 + Ex.nodess l
def Ex.nodess : List Ex → Nat
 | [] => 0
 | e :: l => e.nodes + Ex.nodess l
end
theorem Ex.nodess_eq : ∀ l, Ex.nodess l = sumL Ex.nodes l
 | [] => rfl
 | e :: l => by rw [Ex.nodess, Ex.nodess_eq l, sumL]
theorem sumL_le {X : Type} (f g : X → Nat) : ∀ l : List X, (∀ x ∈ l, f x ≤ 1 + g x) → sumL f l ≤ totL g l
 | [], _ => Nat.le_refl _
 | x :: l, h => by
  have h1 := h x (List.mem_cons_self ..)
  have h2 := sumL_le f g l (fun y hy => h y (List.mem_cons_of_mem _ hy))
  simp only [sumL, totL]; omega
theorem Ex.nodes_le (e : Ex) : e.nodes ≤ 1 + e.tot := by
 induction e using Ex.ind with | h k n s l h =>
 rw [Ex.tot_mk, Ex.nodes, Ex.nodess_eq]
 have := sumL_le Ex.nodes Ex.tot l h
 omega
def Ex.msr (e : Ex) (d : Nat) : Int := if e.good d then e.nodes else -1
def Ex.msrs (l : List Ex) (d : Nat) (q : Int) : Int := if Ex.goods l d then q + sumL Ex.nodes l else -1
theorem Ex.msrs_cons (e : Ex) (l : List Ex) (d : Nat) (q : Int) : Ex.msrs (e :: l) d q = if e.msr d < 0 then -1 else Ex.msrs l d (q + e.msr d) := by
 simp only [Ex.msrs, Ex.msr, Ex.goods, sumL]
 by_cases h1 : e.good d = true <;> by_cases h2 : Ex.goods l d = true <;> simp [h1, h2] <;> omega
theorem Ex.msr_mk (k n : Int) (s : ByteArray) (l : List Ex) (d : Nat) : (Ex.mk k n s l).msr d = if d ≤ 8 ∧ partsOk k n s l.length = true then Ex.msrs l (d + 1) 1 else -1 := by
 simp only [Ex.msr, Ex.msrs, Ex.good, Ex.nodes, Ex.nodess_eq]
 by_cases h : d ≤ 8 <;> by_cases h1 : partsOk k n s l.length = true <;> by_cases h2 : Ex.goods l (d + 1) = true <;> simp [h, h1, h2]
/-- Is an expression right? -/
def Ex.ok (e : Ex) : Bool := e.good 1 && decide (e.nodes ≤ 60)
end Go.T
namespace Go.T
open Go
mutual
def Ex.cnt : Ex → Nat → Int
 | .mk k n s l, d => if d ≤ 8 ∧ partsOk k n s l.length = true then Ex.cnts l (d + 1) 1 else 100
def Ex.cnts : List Ex → Nat → Int → Int
 | [], _, n => n
 | e :: l, d, n => if n ≤ 60 then Ex.cnts l d (n + e.cnt d) else n
end
theorem Ex.cnts_ge (l : List Ex) (h : ∀ x ∈ l, ∀ d, 0 ≤ x.cnt d) : ∀ d n, n ≤ Ex.cnts l d n := by
 induction l with
 | nil => intro d n; rw [Ex.cnts]; exact Int.le_refl _
 | cons e l ih =>
  intro d n
  rw [Ex.cnts]
  have h1 := h e (List.mem_cons_self ..) d
  have h2 := ih (fun x hx => h x (List.mem_cons_of_mem _ hx)) d (n + e.cnt d)
  split <;> omega
theorem Ex.cnt_pos (e : Ex) : ∀ d, 0 ≤ e.cnt d := by
 induction e using Ex.ind with | h k n s l h =>
 intro d
 rw [Ex.cnt]
 have := Ex.cnts_ge l h (d + 1) 1
 split <;> omega
theorem Ex.cnts_le (l : List Ex) (h : ∀ x ∈ l, ∀ d, x.cnt d ≤ 100 * x.nodes) : ∀ d n, Ex.cnts l d n ≤ n + 100 * sumL Ex.nodes l := by
 induction l with
 | nil => intro d n; rw [Ex.cnts]; simp [sumL]
 | cons e l ih =>
  intro d n
  rw [Ex.cnts, sumL]
  have h1 := h e (List.mem_cons_self ..) d
  have h2 := ih (fun x hx => h x (List.mem_cons_of_mem _ hx)) d (n + e.cnt d)
  split <;> omega
theorem Ex.cnt_le (e : Ex) : ∀ d, e.cnt d ≤ 100 * e.nodes := by
 induction e using Ex.ind with | h k n s l h =>
 intro d
 rw [Ex.cnt, Ex.nodes, Ex.nodess_eq]
 have := Ex.cnts_le l h (d + 1) 1
 split <;> omega
def Ex.Cnt (e : Ex) : Prop := ∀ d, (e.good d = true → (e.cnt d = e.nodes ∨ (60 < e.cnt d ∧ 60 < e.nodes))) ∧ (e.good d = false → 60 < e.cnt d)
theorem Ex.cnts_ok (l : List Ex) (h : ∀ x ∈ l, x.Cnt) : ∀ d (n : Int), 0 ≤ n → (Ex.goods l d = true → (Ex.cnts l d n = n + sumL Ex.nodes l ∨ (60 < Ex.cnts l d n ∧ 60 < n + sumL Ex.nodes l))) ∧ (Ex.goods l d = false → 60 < Ex.cnts l d n) := by
 induction l with
 | nil => intro d n hn; simp [Ex.cnts, Ex.goods, sumL]
 | cons e l ih =>
  intro d n hn
  have h1 := h e (List.mem_cons_self ..) d
  have hp := e.cnt_pos d
  have h2 := ih (fun x hx => h x (List.mem_cons_of_mem _ hx)) d (n + e.cnt d) (by omega)
  have h3 := Ex.cnts_ge l (fun x _ => x.cnt_pos) d (n + e.cnt d)
  rw [Ex.cnts, Ex.goods, sumL]
  by_cases hn60 : n ≤ 60
  ·rw [if_pos hn60]
   by_cases g1 : e.good d = true <;> by_cases g2 : Ex.goods l d = true <;> simp [g1, g2] at h1 h2 ⊢ <;> omega
  ·rw [if_neg hn60]
   by_cases g1 : e.good d = true <;> by_cases g2 : Ex.goods l d = true <;> simp [g1, g2] at h1 h2 ⊢ <;> omega
theorem Ex.cnt_ok (e : Ex) : e.Cnt := by
 induction e using Ex.ind with | h k n s l h =>
 intro d
 have h1 := Ex.cnts_ok l h (d + 1) 1 (by omega)
 rw [Ex.cnt, Ex.good, Ex.nodes, Ex.nodess_eq]
 by_cases a : d ≤ 8 <;> by_cases b : partsOk k n s l.length = true <;> by_cases c : Ex.goods l (d + 1) = true <;> simp [a, b, c] at h1 ⊢ <;> omega
theorem Ex.ok_cnt (e : Ex) : e.ok = decide (e.cnt 1 ≤ 60) := by
 have h := e.cnt_ok 1
 unfold Ex.ok
 by_cases g : e.good 1 = true <;> simp [g] at h ⊢
 ·omega
 ·omega
end Go.T
namespace Go.T
open Go
/-- Is it the zero expression? -/
def Ex.no : Ex → Bool
 | .mk k n s l => decide (k = 0) && decide (n = 0) && noS s && decide ((l.length : Int) = 0)
/-- Is a statement as told, but for its Body's parts? -/
def stHere (k : Int) (s : ByteArray) (a e lo hi : Ex) (len : Int) (d : Nat) : Bool :=
 if k = 1 then a.no && e.ok && lo.no && hi.no && nameOk s && decide (len = 0)
 else if k = 2 then a.ok && e.ok && lo.no && hi.no && nameOk s && decide (len = 0)
 else if k = 3 then a.no && e.no && lo.ok && hi.ok && nameOk s && decide (d < 3) && inR len 1 6
 else if k = 4 then a.no && e.ok && lo.no && hi.no && noS s && decide (len = 0)
 else false
mutual
def Sm.right : Sm → Nat → Bool
 | .mk k s a e lo hi b, d => stHere k s a e lo hi b.length d && (decide (k ≠ 3) || Sm.rights b (d + 1))
def Sm.rights : List Sm → Nat → Bool
 | [], _ => true
 | x :: l, d => x.right d && Sm.rights l d
end
mutual
def Sm.size : Sm → Nat
 | .mk _ _ _ _ _ _ b => 1 + Sm.sizes b
def Sm.sizes : List Sm → Nat
 | [] => 0
 | x :: l => x.size + Sm.sizes l
end
mutual
def Sm.cnt : Sm → Nat → Int
 | .mk k s a e lo hi b, d => if stHere k s a e lo hi b.length d = true then (if k = 3 then Sm.cnts b (d + 1) 1 else 1) else 100
def Sm.cnts : List Sm → Nat → Int → Int
 | [], _, n => n
 | x :: l, d, n => if n ≤ 40 then Sm.cnts l d (n + x.cnt d) else n
end
theorem Sm.sizes_eq : ∀ l, Sm.sizes l = sumL Sm.size l
 | [] => rfl
 | e :: l => by rw [Sm.sizes, Sm.sizes_eq l, sumL]
theorem Sm.cnts_ge (l : List Sm) (h : ∀ x ∈ l, ∀ d, 0 ≤ x.cnt d) : ∀ d n, n ≤ Sm.cnts l d n := by
 induction l with
 | nil => intro d n; rw [Sm.cnts]; exact Int.le_refl _
 | cons e l ih =>
  intro d n
  rw [Sm.cnts]
  have h1 := h e (List.mem_cons_self ..) d
  have h2 := ih (fun x hx => h x (List.mem_cons_of_mem _ hx)) d (n + e.cnt d)
  split <;> omega
theorem Sm.cnt_pos (e : Sm) : ∀ d, 0 ≤ e.cnt d := by
 induction e using Sm.ind with | h k s a e lo hi b h =>
 intro d
 rw [Sm.cnt]
 have := Sm.cnts_ge b h (d + 1) 1
 split <;> (try split) <;> omega
theorem Sm.cnts_le (l : List Sm) (h : ∀ x ∈ l, ∀ d, x.cnt d ≤ 100 * x.size) : ∀ d n, Sm.cnts l d n ≤ n + 100 * sumL Sm.size l := by
 induction l with
 | nil => intro d n; rw [Sm.cnts]; simp [sumL]
 | cons e l ih =>
  intro d n
  rw [Sm.cnts, sumL]
  have h1 := h e (List.mem_cons_self ..) d
  have h2 := ih (fun x hx => h x (List.mem_cons_of_mem _ hx)) d (n + e.cnt d)
  split <;> omega
theorem Sm.cnt_le (e : Sm) : ∀ d, e.cnt d ≤ 100 * e.size := by
 induction e using Sm.ind with | h k s a e lo hi b h =>
 intro d
 rw [Sm.cnt, Sm.size, Sm.sizes_eq]
 have := Sm.cnts_le b h (d + 1) 1
 split <;> (try split) <;> omega
theorem Sm.size_le (e : Sm) : e.size ≤ 1 + e.tot := by
 induction e using Sm.ind with | h k s a e lo hi b h =>
 rw [Sm.tot_mk, Sm.size, Sm.sizes_eq]
 have := sumL_le Sm.size Sm.tot b h
 omega
def Sm.Cnt (e : Sm) : Prop := ∀ d, (e.right d = true → (e.cnt d = e.size ∨ (40 < e.cnt d ∧ 40 < e.size))) ∧ (e.right d = false → 40 < e.cnt d)
theorem Sm.cnts_ok (l : List Sm) (h : ∀ x ∈ l, x.Cnt) : ∀ d (n : Int), 0 ≤ n → (Sm.rights l d = true → (Sm.cnts l d n = n + sumL Sm.size l ∨ (40 < Sm.cnts l d n ∧ 40 < n + sumL Sm.size l))) ∧ (Sm.rights l d = false → 40 < Sm.cnts l d n) := by
 induction l with
 | nil => intro d n hn; simp [Sm.cnts, Sm.rights, sumL]
 | cons e l ih =>
  intro d n hn
  have h1 := h e (List.mem_cons_self ..) d
  have hp := e.cnt_pos d
  have h2 := ih (fun x hx => h x (List.mem_cons_of_mem _ hx)) d (n + e.cnt d) (by omega)
  have h3 := Sm.cnts_ge l (fun x _ => x.cnt_pos) d (n + e.cnt d)
  rw [Sm.cnts, Sm.rights, sumL]
  by_cases hn60 : n ≤ 40
  ·rw [if_pos hn60]
   by_cases g1 : e.right d = true <;> by_cases g2 : Sm.rights l d = true <;> simp [g1, g2] at h1 h2 ⊢ <;> omega
  ·rw [if_neg hn60]
   by_cases g1 : e.right d = true <;> by_cases g2 : Sm.rights l d = true <;> simp [g1, g2] at h1 h2 ⊢ <;> omega
theorem Sm.cnt_ok (e : Sm) : e.Cnt := by
 induction e using Sm.ind with | h k s a e lo hi b h =>
 intro d
 have h1 := Sm.cnts_ok b h (d + 1) 1 (by omega)
 rw [Sm.cnt, Sm.right, Sm.size, Sm.sizes_eq]
 by_cases x : stHere k s a e lo hi b.length d = true
 ·by_cases k3 : k = 3
  ·rw [if_pos x, x]
   by_cases c : Sm.rights b (d + 1) = true <;> simp [k3, c] at h1 ⊢ <;> omega
  ·have hb : b = [] := by
    unfold stHere at x
    rw [if_neg k3] at x
    have : (b.length : Int) = 0 := by
     split at x
     ·simp at x; simp [x]
     ·split at x
      ·simp at x; simp [x]
      ·split at x
       ·simp at x; simp [x]
       ·cases x
    exact List.eq_nil_of_length_eq_zero (by omega)
   rw [if_pos x, x]
   simp [k3, hb, sumL]
 ·simp [x]
/-- Is a statement right? -/
def Sm.ok (e : Sm) : Bool := e.right 0 && decide (e.size ≤ 40)
theorem Sm.ok_cnt (e : Sm) : e.ok = decide (e.cnt 0 ≤ 40) := by
 have h := e.cnt_ok 0
 unfold Sm.ok
 by_cases g : e.right 0 = true <;> simp [g] at h ⊢ <;> omega
end Go.T
