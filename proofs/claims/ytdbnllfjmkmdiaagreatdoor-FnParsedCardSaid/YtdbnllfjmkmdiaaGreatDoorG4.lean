/- Parts of the proof of FnParsed: Regions whose order is drawn, told in an order of one's own. -/
import Derived.Test.YtdbnllfjmkmdiaaGreatDoorG3
import Derived.ProofKit
import Derived.OpenShut
import Derived.WideShapes
import Derived.Lib.SlicesCompact
import Derived.Laws.Strings
import Derived.Sort.Grow
import Derived.Sort.EncStr
import Derived.Lib.LaidTab
import Derived.Lib.ItoaNum
import Derived.Deep.Draws
set_option linter.unusedSimpArgs false
set_option linter.unusedVariables false
namespace Go.T
open Go
section
variable {P : Program}
def yXb : Mem := fun _ => none
def zdb : Op -> Bool
 | .load .. => true
 | .indexAddr .. => true
 | _ => false
def xOa : Op -> Bool
 | .buildSlice .. => true
 | _ => false
def xIc (P : Program) (m : Mem) (ev : Operand -> AV) (k : AV -> Mem -> Prop) : Op -> Prop
 | .buildSlice T len parts => match y2a P T with
  | some E => match szT P E with
   | some n => len = parts.size /\ len * n <= 16777216 /\ n ≠ 0 /\ (zMa P E).isSome = true /\
    match zda n (parts.toList.map fun q => (q.1, ev q.2)) with
    | some xs => ∀ g, m g = none -> k (.own g len len) (m.set g (.arr E n len xs))
    | none => False
   | none => False
  | none => False
 | _ => False
theorem zEc {m : Mem} {ev : Operand -> AV} {k k' : AV -> Mem -> Prop} (hk : ∀ v m, k v m -> k' v m) {op : Op} (h : xIc P m ev k op) : xIc P m ev k' op := by
 cases op <;> try exact h
 simp only [xIc] at h ⊢;split at h
 ·split at h
  ·refine ⟨h.1, h.2.1, h.2.2.1, h.2.2.2.1, ?_⟩;have h := h.2.2.2.2;split at h
   ·exact fun g hg => hk _ _ (h g hg)
   exact h
  exact h
 exact h
theorem zOd {m : Mem} {op : Op} {ev ev' : Operand -> AV} (h : ∀ x ∈ op.operands.toList, ev x = ev' x) (k : AV -> Mem -> Prop) : xIc P m ev k op = xIc P m ev' k op := by
 cases op with
 | buildSlice T len parts =>
  have : (parts.toList.map fun q => (q.1, ev q.2)) = parts.toList.map fun q => (q.1, ev' q.2) := List.map_congr_left fun q hq => by
   rw [h q.2 (by simp only [Op.operands, Array.toList_map]; exact List.mem_map.2 ⟨q, hq, rfl⟩)]
  simp only [xIc, this]
 | _ => rfl
theorem wNc {C : Ctx} {s : St} {a : Act} {w : World} (h : Rel C s a w) {o : Oper} (hd : ∀ t, o.dst = some t -> t < a.tmps.size) {K : St -> Prop}
  (hk : xIc P s.mem s.eval (fun v m' => K ((s.put o.dst v).withMem m')) o.op) {next : Act -> World -> Prop} {Q : Exit -> Act -> World -> Prop} (hn : xKa C K a.tmps.size next) : o.wp P a w next Q := by
 obtain ⟨S, hS0, hm, hslots⟩ := h.ex;have hev := ynb hslots;cases hop : o.op with
 | buildSlice T len parts =>
  rw [hop] at hk;simp only [xIc] at hk;split at hk
  ·rename_i E hE
   split at hk
   ·rename_i n hsE
    obtain ⟨rfl, hlim, hn0, hz, hk⟩ := hk;obtain ⟨z, hz⟩ := Option.isSome_iff_exists.1 hz;split at hk
    ·rename_i xs hxs
     refine Outs.go h hS0 hslots hd ?_ hn;have := xIb (P := P) (k := fun v m' => K ((s.put o.dst v).withMem m')) hm hE hsE hev hxs hlim hn0 hz hk;simpa [execOp, hop] using this
    exact hk.elim
   exact hk.elim
  exact hk.elim
 | _ => rw [hop] at hk; exact hk.elim
def wSb (P : Program) (f r : Bool) (o : Oper) (s : St) (K : St -> Prop) : Prop :=
 if (r && zdb o.op) = true then ∃ v, yGa P yXb s.eval o.op = some v /\ K (s.put o.dst v) else if (r && xOa o.op) = true then xIc P s.mem s.eval (fun v m' => K ((s.put o.dst v).withMem m')) o.op else AOp P f o s K
theorem wOc {T : TypeId} {a v : AV} {m : Mem} (h : y3a P yXb T a = some v) : y3a P m T a = some v := by
 cases a with
 | ref cs => simpa using h
 | ptr g o =>
  rw [xCc] at h;cases hq : zRa P T with
  | none => simp [hq] at h
  | some x => simp [hq, yXb] at h
 | elt g e i o =>
  rw [xDc] at h;cases hq : zRa P T with
  | none => simp [hq] at h
  | some x => simp [hq, yXb] at h
 | _ =>
  unfold y3a at h;cases hq : zRa P T <;> simp [hq] at h
theorem zPd {T : TypeId} {a i v : AV} {m : Mem} (h : yga P yXb T a i = some v) : yga P m T a i = some v := by
 unfold yga at h ⊢;cases i with
 | int k n =>
  cases hq : esz P T with
  | none => simp only [hq] at h ⊢; exact h
  | some e =>
   simp only [hq] at h ⊢;cases a with
   | own g l c => simp [yXb] at h
   | _ => exact h
 | _ => cases h
theorem wPc {C : Ctx} {s : St} {a : Act} {w : World} (h : Rel C s a w) {f r : Bool} {o : Oper} (hd : ∀ t, o.dst = some t -> t < a.tmps.size) {K : St -> Prop}
  (hk : wSb P f r o s K) {next : Act -> World -> Prop} {Q : Exit -> Act -> World -> Prop} (hn : xKa C K a.tmps.size next) : o.wp P a w next Q := by
 unfold wSb at hk;split at hk
 ·rename_i hr
  refine yUb (p := f) h hd ?_ hn;obtain ⟨v, hv, hk⟩ := hk;simp only [Bool.and_eq_true] at hr;have hl := hr.2;cases hop : o.op <;> rw [hop] at hl hv <;> try (cases hl; done)
  all_goals
   simp only [yGa] at hv;unfold AOp;rw [hop];simp only [yGa]
  ·rw [wOc hv];exact hk
  rw [zPd hv];exact hk
 split at hk
 ·exact wNc h hd hk hn
 exact yUb h hd hk hn
def zFb (f r : Bool) (op : Op) : Nat := if (r && zdb op) = true then 0 else if (r && xOa op) = true then 2 else cls f op
def WTF (P : Program) (f r : Bool) (m : Mem) (ev : Operand -> AV) (k : AV -> Mem -> Prop) (op : Op) : Prop := if (r && xOa op) = true then xIc P m ev k op else WT P f m ev k op
theorem xJc {f r : Bool} {m : Mem} {op : Op} {ev : Operand -> AV} {k k' : AV -> Mem -> Prop} (hk : ∀ v m, k v m -> k' v m) (h : WTF P f r m ev k op) : WTF P f r m ev k' op := by
 unfold WTF at h ⊢;split at h
 ·rename_i hr; rw [if_pos hr]; exact zEc hk h
 rename_i hr; rw [if_neg hr]; exact yQc hk h
theorem wxd {f r : Bool} {m : Mem} {op : Op} {ev ev' : Operand -> AV} (h : ∀ x ∈ op.operands.toList, ev x = ev' x) (k : AV -> Mem -> Prop) : WTF P f r m ev k op = WTF P f r m ev' k op := by
 unfold WTF;rw [zOd h, xud (P := P) h]
theorem wfb {f r : Bool} {m : Mem} {op : Op} {ev : Operand -> AV} {k : AV -> Mem -> Prop} (h : xOa op = false) : WTF P f r m ev k op = WT P f m ev k op := by
 unfold WTF;rw [if_neg (by simp [h])]
def wMa (P : Program) (f r : Bool) (ops : Array Oper) (o : Oper) (s : St) (K : St -> Prop) : Prop :=
 match zGa ops o s with
 | some true => wSb P f r o s K
 | some false => K (s.put o.dst (.tup []))
 | none => False
theorem zQd {f r : Bool} {o : Oper} {s : St} {K K' : St -> Prop} (hk : ∀ s, K s -> K' s) (h : wSb P f r o s K) : wSb P f r o s K' := by
 unfold wSb at h ⊢;split at h
 ·rename_i hr
  rw [if_pos hr];obtain ⟨v, hv, h⟩ := h;exact ⟨v, hv, hk _ h⟩
 rename_i hr
 rw [if_neg hr];split at h
 ·rename_i hl
  rw [if_pos hl];exact zEc (fun v m hh => hk _ hh) h
 rename_i hl
 rw [if_neg hl];exact xzc hk h
theorem xPa {f r : Bool} {ops : Array Oper} {o : Oper} {s : St} {K K' : St -> Prop} (hk : ∀ s, K s -> K' s) (h : wMa P f r ops o s K) : wMa P f r ops o s K' := by
 unfold wMa at h ⊢;split at h
 ·exact zQd hk h
 ·exact hk _ h
 exact h
def zeb (P : Program) (f r : Bool) (ops : Array Oper) (o : Oper) (s : St) (v : AV) : Prop :=
 match zGa ops o s with
 | some true => if (r && zdb o.op) = true then yGa P yXb s.eval o.op = some v else if cls f o.op = 0 then yPc P f s.eval o.op v else yGa P s.mem s.eval o.op = some v
 | some false => v = .tup []
 | none => False
theorem wma {f r : Bool} {ops : Array Oper} {o : Oper} (h : zFb f r o.op <= 1) (s : St) (K : St -> Prop) : wMa P f r ops o s K <-> ∃ v, zeb P f r ops o s v /\ K (s.put o.dst v) := by
 unfold wMa zeb;cases zGa ops o s with
 | none => simp
 | some b =>
  cases b with
  | false => simp
  | true =>
   unfold zFb at h;unfold wSb;simp only;by_cases hr : (r && zdb o.op) = true
   ·simp only [if_pos hr]
   simp only [if_neg hr] at h ⊢;by_cases hl : (r && xOa o.op) = true
   ·rw [if_pos hl] at h; omega
   simp only [if_neg hl] at h ⊢;by_cases h0 : cls f o.op = 0
   ·simp only [h0, if_true]; exact wJe h0 s K
   simp only [h0, if_false]; exact wKe (by omega) s K
theorem xNb {f r : Bool} {ops : Array Oper} {o : Oper} (h : zFb f r o.op = 2) (s : St) (K : St -> Prop) : wMa P f r ops o s K <-> (match zGa ops o s with
  | some true => WTF P f r s.mem s.eval (fun v m' => K ((s.put o.dst v).withMem m')) o.op | some false => K (s.put o.dst (.tup [])) | none => False) := by
 unfold zFb at h;split at h
 ·cases h
 rename_i hr
 unfold wMa wSb WTF;cases zGa ops o s with
 | none => simp
 | some b =>
  cases b with
  | false => simp
  | true =>
   simp only [if_neg hr];by_cases hl : (r && xOa o.op) = true
   ·simp only [if_pos hl]
   simp only [if_neg hl] at h ⊢; exact wLe h s K
theorem xQa {f r : Bool} {ops : Array Oper} {o : Oper} {s : St} {d : Option Tmp} {v : AV} (h : ∀ t, d = some t -> t ∉ yUa ops o) (u : AV) : zeb P f r ops o (s.put d v) u = zeb P f r ops o s u := by
 obtain ⟨h1, h2⟩ := y4a (s := s) (v := v) h;unfold zeb;rw [h2, zIb, zKd (P := P) h1, x1a (P := P) h1, x1a (P := P) h1]
theorem zRd {f r : Bool} {ops : Array Oper} {o : Oper} (h0 : zFb f r o.op = 0) {s : St} {m : Mem} (u : AV) : zeb P f r ops o (s.withMem m) u = zeb P f r ops o s u := by
 unfold zFb at h0;unfold zeb;by_cases hr : (r && zdb o.op) = true
 ·simp only [if_pos hr]; rfl
 simp only [if_neg hr] at h0 ⊢;by_cases hl : (r && xOa o.op) = true
 ·rw [if_pos hl] at h0; cases h0
 rw [if_neg hl] at h0;simp only [h0, if_true];rfl
theorem zSd {m m' : Mem} (hE : ∀ g b, m g = some b -> m' g = some b) {T : TypeId} {a v : AV} (h : y3a P m T a = some v) : y3a P m' T a = some v := by
 cases a with
 | ptr g o =>
  rw [xCc] at h ⊢;cases hq : zRa P T with
  | none => simp [hq] at h
  | some x =>
   cases hm : m g with
   | none => simp [hq, hm] at h
   | some b => rw [hm, hq] at h; rw [hE g b hm]; exact h
 | elt g e i o =>
  rw [xDc] at h ⊢;cases hq : zRa P T with
  | none => simp [hq] at h
  | some x =>
   cases hm : m g with
   | none => simp [hq, hm] at h
   | some b => rw [hm, hq] at h; rw [hE g b hm]; exact h
 | _ => exact h
theorem xHd {m m' : Mem} (hE : ∀ g b, m g = some b -> m' g = some b) {T : TypeId} {a i v : AV} (h : yga P m T a i = some v) : yga P m' T a i = some v := by
 unfold yga at h ⊢;cases i with
 | int k n =>
  cases hq : esz P T with
  | none => simp only [hq] at h ⊢; exact h
  | some e =>
   simp only [hq] at h ⊢;cases a with
   | own g l c =>
    cases hm : m g with
    | none => simp [hm] at h
    | some b => simp only [hm] at h; simp only [hE g b hm]; exact h
   | _ => exact h
 | _ => cases h
theorem xId {m m' : Mem} (hE : ∀ g b, m g = some b -> m' g = some b) {ev : Operand -> AV} {op : Op} {v : AV} (h : yGa P m ev op = some v) : yGa P m' ev op = some v := by
 cases op with
 | load T a => exact zSd hE h
 | indexAddr T x i => exact xHd hE h
 | slice T x lo hi mx => cases mx <;> exact h
 | _ => exact h
theorem zTd {f r : Bool} {ops : Array Oper} {o : Oper} {s : St} {m : Mem} (hE : ∀ g b, s.mem g = some b -> m g = some b) {u : AV} (h : zeb P f r ops o s u) : zeb P f r ops o (s.withMem m) u := by
 unfold zeb at h ⊢;have hw : zGa ops o (s.withMem m) = zGa ops o s := rfl;have he : (s.withMem m).eval = s.eval := rfl;have hm : (s.withMem m).mem = m := rfl;rw [hw, he, hm];split at h
 ·split at h
  ·rename_i hr; rw [if_pos hr]; exact h
  rename_i hr
  rw [if_neg hr];split at h
  ·rename_i h0; rw [if_pos h0]; exact h
  rename_i h0; rw [if_neg h0]; exact xId hE h
 ·exact h
 exact h
def zUd : Op -> Bool
 | .alloc _ | .box .. | .makeSlice .. => true
 | _ => false
theorem xJd {p : Bool} {m : Mem} {ev : Operand -> AV} {k : AV -> Mem -> Prop} {op : Op} (ha : zUd op = true) (h : WT P p m ev k op) : WT P p m ev (fun v m' => k v m' /\ ∀ g b, m g = some b -> m' g = some b) op := by
 have hs : ∀ (g : Nat) (x : Blk), m g = none -> ∀ g' b, m g' = some b -> (m.set g x) g' = some b := fun g x hg g' b hb => by
  rw [Mem.so]
  ·exact hb
  rintro rfl; rw [hg] at hb; cases hb
 cases op <;> try (cases ha; done)
 ·simp only [WT] at h ⊢;split at h
  ·exact fun g hg => ⟨h g hg, hs g _ hg⟩
  exact h
 ·simp only [WT] at h ⊢;split at h
  ·exact h
  exact fun g hg => ⟨h g hg, hs g _ hg⟩
 simp only [WT] at h ⊢;split at h
 ·split at h
  ·split at h
   ·exact ⟨h.1, h.2.1, h.2.2.1, h.2.2.2.1, h.2.2.2.2.1, h.2.2.2.2.2.1, fun g hg => ⟨h.2.2.2.2.2.2 g hg, hs g _ hg⟩⟩
   exact h
  exact h
 exact h
def ysb (r : Bool) (op : Op) : Bool := zUd op || (r && xOa op)
theorem zVd {p r : Bool} {m : Mem} {ev : Operand -> AV} {k : AV -> Mem -> Prop} {op : Op} (ha : ysb r op = true) (h : WTF P p r m ev k op) : WTF P p r m ev (fun v m' => k v m' /\ ∀ g b, m g = some b -> m' g = some b) op := by
 unfold WTF at h ⊢;by_cases hl : (r && xOa op) = true
 ·rw [if_pos hl] at h ⊢;cases op <;> try (simp [xOa] at hl; done)
  simp only [xIc] at h ⊢;split at h
  ·split at h
   ·refine ⟨h.1, h.2.1, h.2.2.1, h.2.2.2.1, ?_⟩;have h := h.2.2.2.2;split at h
    ·exact fun g hg => ⟨h g hg, fun g' b hb => by
      rw [Mem.so]
      ·exact hb
      rintro rfl; rw [hg] at hb; cases hb⟩
    exact h
   exact h
  exact h
 rw [if_neg hl] at h ⊢;refine xJd ?_ h;unfold ysb at ha;rw [Bool.or_eq_true] at ha;exact ha.resolve_right hl
theorem wgb {m m1 : Mem} {a x : AV} {g : Nat} {b : Blk} (hg : m g = none) (h : zKa m a x = some m1) : zKa (m.set g b) a x = some (m1.set g b) /\ m1 g = none := by
 have hs : ∀ (g0 : Nat) (b0 : Blk), g0 ≠ g -> (m.set g b).set g0 b0 = (m.set g0 b0).set g b := fun g0 b0 hne => by
  funext k;simp only [Mem.set];by_cases h1 : k = g0
  ·have : k ≠ g := fun e => hne (h1.symm.trans e);simp [h1, hne]
  simp [h1]
 have hn : ∀ (g0 : Nat) (b0 : Blk), g0 ≠ g -> (m.set g0 b0) g = none := fun g0 b0 hne => by rw [Mem.so (Ne.symm hne)]; exact hg
 cases a with
 | ptr g0 o =>
  simp only [zKa] at h ⊢;by_cases hne : g0 = g
  ·subst hne; rw [hg] at h; cases h
  rw [Mem.so hne];split at h
  ·split at h
   ·rename_i hc
    obtain rfl := Option.some.inj h;rw [if_pos hc, hs _ _ hne];exact ⟨rfl, hn _ _ hne⟩
   cases h
  cases h
 | elt g0 e i o =>
  simp only [zKa] at h ⊢;by_cases hne : g0 = g
  ·subst hne; rw [hg] at h; cases h
  rw [Mem.so hne];split at h
  ·split at h
   ·rename_i he
    rw [if_pos he];split at h
    ·split at h
     ·rename_i hc
      obtain rfl := Option.some.inj h;rw [if_pos hc, hs _ _ hne];exact ⟨rfl, hn _ _ hne⟩
     rename_i hc
     rw [if_neg hc];split at h
     ·split at h
      ·rename_i hc2
       obtain rfl := Option.some.inj h;rw [if_pos hc2, hs _ _ hne];exact ⟨rfl, hn _ _ hne⟩
      cases h
     cases h
    cases h
   cases h
  cases h
 | _ => cases h
theorem zka.frame {P : Program} {n : FuncId} {args : List AV} {m : Mem} {k : AV -> Mem -> Prop} (h : zka P n args m k) {g : Nat} (hg : m g = none) (b : Blk) : zka P n args (m.set g b) (fun r m'' => ∃ m', m' g = none /\ m'' = m'.set g b /\ k r m') := by
 refine ⟨h.1, fun w S cargs hm hr => ?_⟩;have hbg := hm.blk g b (Mem.set_same _ _ _);have hlt : g < w.heap.size := hbg.lt;have hmr : zva w S m := by
  refine ⟨fun k x hk => hm.blk k x ?_, fun x hx => ⟨?_, (hm.apart x hx).2⟩⟩
  ·rw [Mem.so]
   ·exact hk
   rintro rfl; rw [hg] at hk; cases hk
  by_cases hxg : x = g
  ·rw [hxg]; exact hg
  have := (hm.apart x hx).1;rw [Mem.so hxg] at this;exact this
 refine zma (h.2 w S cargs hmr hr) ?_;rintro e w' ⟨v, r, m', S', he, hk, h1, h2, h3, h4, h5, h6⟩;have hmg : m' g = none := by
  cases hq : m' g with
  | none => rfl
  | some x =>
   rcases h6 g x hq with h | h
   ·exact absurd hg h
   omega
 have hsame : w'.heap[g]? = w.heap[g]? := h5.block g hlt (fun hc => hc hg);have hst : Stays S w w' := fun x hx => h5.block x (hmr.apart x hx).2 (fun hc => hc (hmr.apart x hx).1);have hSg : ¬ S g := fun hS => by have := (hm.apart g hS).1; rw [Mem.set_same] at this; cases this
 refine ⟨v, r, m'.set g b, S', he, ⟨m', hmg, rfl, hk⟩, h1, fun x hx => ?_, ⟨fun k x hk => ?_, fun x hx => ⟨?_, (h3.apart x hx).2⟩⟩, h4, h5.mono fun x hx => ?_, fun k x hk => ?_⟩
 ·rcases h2 x hx with h | h | h
  ·exact .inl h
  ·refine .inr (.inl ?_);rw [Mem.so]
   ·exact h
   rintro rfl; exact h hg
  exact .inr (.inr h)
 ·by_cases hkg : k = g
  ·subst hkg;rw [Mem.set_same] at hk;obtain rfl := Option.some.inj hk;exact hbg.mono hst h1 hsame
  rw [Mem.so hkg] at hk;exact h3.blk k x hk
 ·rw [Mem.so]
  ·exact (h3.apart x hx).1
  rintro rfl;rcases h2 _ hx with h | h | h
  ·exact hSg h
  ·exact h hg
  omega
 ·rw [Mem.so]
  ·exact hx
  rintro rfl; exact hx hg
 by_cases hkg : k = g
 ·subst hkg; exact .inl (by rw [Mem.set_same]; simp)
 rw [Mem.so hkg] at hk;rcases h6 k x hk with h | h
 ·exact .inl (by rw [Mem.so hkg]; exact h)
 exact .inr h
def zFc : Op -> Bool
 | .call c => match c.callee with | .value _ => true | _ => false
 | _ => false
def wyd : Op -> Bool
 | .store .. => true
 | _ => false
def zWd : Op -> Bool
 | .alloc _ => true
 | _ => false
def HZ (P : Program) (r : Nat -> Bool) (ops : Array Oper) : Prop := ∀ (j : Nat) (o : Oper) (U : TypeId), ops[j]? = some o -> r j = true -> o.op = .alloc U -> (zMa P U).isSome = true
structure wzd (P : Program) (p r : Nat -> Bool) (ops : Array Oper) (i j : Nat) (a b : Oper) : Prop where
 ab : ∀ t, a.dst = some t -> t ∉ yUa ops b
 ba : ∀ t, b.dst = some t -> t ∉ yUa ops a
 dd : ∀ t, a.dst = some t -> b.dst ≠ some t
 c : zFb (p i) (r i) a.op <= 1 /\ zFb (p j) (r j) b.op <= 1 ∨ zFb (p i) (r i) a.op = 0 /\ zFb (p j) (r j) b.op = 2 ∨ zFb (p i) (r i) a.op <= 1 /\ zFb (p j) (r j) b.op = 2 /\ ysb (r j) b.op = true ∨
  (zFb (p i) (r i) a.op = 2 /\ zFb (p j) (r j) b.op = 2 /\ zFc a.op = true /\ a.guard = none /\ b.guard = none /\ ∃ U, b.op = .alloc U /\ (zMa P U).isSome = true) ∨
  (zFb (p i) (r i) a.op = 2 /\ zFb (p j) (r j) b.op = 2 /\ wyd a.op = true /\ a.guard = none /\ b.guard = none /\ (r j && xOa b.op) = true)
theorem zXd {p r : Nat -> Bool} {ops : Array Oper} {i j : Nat} {a b : Oper} (h : wzd P p r ops i j a b) {s : St} {K : St -> Prop} (hk : wMa P (p i) (r i) ops a s fun s1 => wMa P (p j) (r j) ops b s1 K) : wMa P (p j) (r j) ops b s fun s1 => wMa P (p i) (r i) ops a s1 K := by
 rcases h.c with ⟨ca, cb⟩ | ⟨ca, cb⟩ | ⟨ca, cb, cc⟩ | ⟨ca, cb, cv, ga, gb, U, hU, hz⟩ | ⟨ca, cb, cv, ga, gb, hrb⟩
 rotate_left 4
 ·have wn : ∀ (o : Oper) (s : St), o.guard = none -> zGa ops o s = some true := fun o s ho => by unfold zGa; rw [ho]
  rw [xNb ca, wn a s ga] at hk;rw [xNb cb, wn b s gb];simp only at hk ⊢;cases ha : a.op with
  | store U ad x =>
   have hLa : xOa a.op = false := by rw [ha]; rfl
   rw [wfb hLa, ha] at hk;simp only [WT] at hk;obtain ⟨h1, h2⟩ := y4a (s := s) (v := .undef) h.ab;split at hk
   ·exact hk.elim
   rename_i hu
   split at hk
   ·rename_i n hn
    obtain ⟨e1, e2, hk⟩ := hk;split at hk
    ·rename_i m1 hm1
     rw [xNb cb, wn b _ gb] at hk;simp only at hk;unfold WTF at hk ⊢;rw [if_pos hrb] at hk ⊢;have hev : ∀ y ∈ b.op.operands.toList, ((s.put a.dst .undef).withMem m1).eval y = s.eval y := fun y hy => by
      have := h1 y hy;cases y <;> exact this
     rw [zOd hev] at hk;have key : ∀ (g : Nat) (v : AV) (bl : Blk), s.mem g = none -> K ((((s.put a.dst .undef).withMem m1).put b.dst v).withMem (m1.set g bl)) -> wMa P (p i) (r i) ops a ((s.put b.dst v).withMem (s.mem.set g bl)) K := by
      intro g v bl hg hK;rw [xNb ca, wn a _ ga];simp only;rw [wfb hLa];obtain ⟨q1, q2⟩ := y4a (s := s) (v := v) h.ba;have hev2 : ∀ y ∈ a.op.operands.toList, ((s.put b.dst v).withMem (s.mem.set g bl)).eval y = s.eval y := fun y hy => by
       have := q1 y hy;cases y <;> exact this
      rw [xud (P := P) hev2, ha];simp only [WT];cases hvx : s.eval x
      case undef => exact (hu hvx).elim
      all_goals
       rw [hvx] at e1 e2 hm1;simp only [hn];refine ⟨e1, e2, ?_⟩;have hs := (wgb (b := bl) hg hm1).1;rw [show ((s.put b.dst v).withMem (s.mem.set g bl)).mem = s.mem.set g bl from rfl, hs]
       simp only;rw [xka, <- xDa h.dd];refine Eq.mp (congrArg K ?_) hK;generalize a.dst = d1;generalize b.dst = d2;cases d1 <;> cases d2 <;> rfl
     cases hb : b.op with
     | buildSlice T len parts =>
      rw [hb] at hk;simp only [xIc] at hk ⊢;split at hk
      ·split at hk
       ·refine ⟨hk.1, hk.2.1, hk.2.2.1, hk.2.2.2.1, ?_⟩;have hk := hk.2.2.2.2;split at hk
        ·exact fun g hg => key g _ _ hg (hk g (wgb (b := .box []) hg hm1).2)
        exact hk
       exact hk
      exact hk
     | _ => rw [hb] at hrb; simp [xOa] at hrb
    exact hk.elim
   exact hk.elim
  | _ => rw [ha] at cv; cases cv
 rotate_left 3
 ·have wn : ∀ (o : Oper) (s : St), o.guard = none -> zGa ops o s = some true := fun o s ho => by unfold zGa; rw [ho]
  have hLa : xOa a.op = false := by cases hop : a.op <;> rw [hop] at cv <;> first | rfl | cases cv
  have hLb : xOa b.op = false := by rw [hU]; rfl
  rw [xNb ca, wn a s ga] at hk;rw [xNb cb, wn b s gb];simp only at hk ⊢;rw [wfb hLa] at hk;rw [wfb hLb, hU];obtain ⟨z, hz⟩ := Option.isSome_iff_exists.1 hz;simp only [WT, hz];intro g hg;rw [xNb ca, wn a _ ga];simp only;rw [wfb hLa];have hin : ∀ s1 : St, wMa P (p j) (r j) ops b s1 K -> ∀ g, s1.mem g = none -> K ((s1.put b.dst (.ptr g 0)).withMem (s1.mem.set g (.box z.cells))) := fun s1 h1 => by
   rw [xNb cb, wn b s1 gb] at h1;simp only at h1;rw [wfb hLb, hU] at h1;simpa only [WT, hz] using h1
  obtain ⟨h1, h2⟩ := y4a (s := s) (v := .ptr g 0) h.ba;have hev : ∀ x ∈ a.op.operands.toList, ((s.put b.dst (.ptr g 0)).withMem (s.mem.set g (.box z.cells))).eval x = s.eval x := fun x hx => by
   have := h1 x hx;cases x <;> exact this
  cases hop : a.op with
  | call c =>
   rw [hop] at hk cv ca hev;cases hcal : c.callee with
   | value f =>
    have hpf : p i = false := by
     by_cases hp : p i = true
     ·simp [zFb, cls, hcal, hp, zdb, xOa] at ca
     simpa using hp
    rw [xud (P := P) hev];simp only [WT, hcal, hpf] at hk ⊢;split at hk
    ·rename_i n caps hfe
     try simp only [hfe]
     rw [if_neg (by simp)] at hk ⊢;refine (hk.frame hg (.box z.cells)).mono fun u m'' hh => ?_;obtain ⟨m', hmg, rfl, hh⟩ := hh;have := hin _ hh g hmg;rw [xka, <- xDa h.dd];refine Eq.mp (congrArg K ?_) this;generalize a.dst = d1;generalize b.dst = d2;cases d1 <;> cases d2 <;> rfl
    exact hk.elim
   | _ => simp [zFc, hcal] at cv
  | _ => rw [hop] at cv; simp [zFc] at cv
 rotate_left 2
 ·rw [wma ca] at hk;obtain ⟨v, hv, hk⟩ := hk;rw [xNb cb] at hk ⊢;obtain ⟨h1, h2⟩ := y4a (s := s) (v := v) h.ab;rw [h2] at hk;split at hk
  ·rw [zIb, wxd (P := P) h1] at hk;refine xJc (fun u m' hh => ?_) (zVd cc hk);obtain ⟨hh, hE⟩ := hh;rw [wma ca];refine ⟨v, zTd (s := s.put b.dst u) (by rw [zIb]; exact hE) (by rw [xQa h.ba]; exact hv), ?_⟩;rw [xka, <- xDa h.dd]; exact hh
  ·rw [wma ca];refine ⟨v, by rw [xQa h.ba]; exact hv, ?_⟩;rw [<- xDa h.dd]; exact hk
  exact hk
 ·rw [wma ca] at hk;obtain ⟨v, hv, hk⟩ := hk;rw [wma cb] at hk ⊢;obtain ⟨u, hu, hk⟩ := hk;refine ⟨u, by rw [xQa h.ab] at hu; exact hu, ?_⟩;rw [wma ca];refine ⟨v, by rw [xQa h.ba]; exact hv, ?_⟩;rw [<- xDa h.dd]; exact hk
 rw [wma (by omega)] at hk;obtain ⟨v, hv, hk⟩ := hk;rw [xNb cb] at hk ⊢;obtain ⟨h1, h2⟩ := y4a (s := s) (v := v) h.ab;rw [h2] at hk;split at hk
 ·rw [zIb, wxd (P := P) h1] at hk;refine xJc (fun u m' hh => ?_) hk;rw [wma (by omega)];refine ⟨v, by rw [zRd ca, xQa h.ba]; exact hv, ?_⟩;rw [xka, <- xDa h.dd]; exact hh
 ·rw [wma (by omega)];refine ⟨v, by rw [xQa h.ba]; exact hv, ?_⟩;rw [<- xDa h.dd]; exact hk
 exact hk
def zra (P : Program) (p r : Nat -> Bool) (ops : Array Oper) (K : St -> Prop) : List Nat -> St -> Prop
 | [], s => K s
 | i :: l, s => match ops[i]? with
  | none => zra P p r ops K l s
  | some o => wMa P (p i) (r i) ops o s (zra P p r ops K l)
theorem z9a {p r : Nat -> Bool} {ops : Array Oper} {K : St -> Prop} {i : Nat} {l : List Nat} {s : St} {o : Oper} (ho : ops[i]? = some o) : zra P p r ops K (i :: l) s = wMa P (p i) (r i) ops o s (zra P p r ops K l) := by
 simp only [zra, ho]
theorem yCa {C : Ctx} {ops : Array Oper} {N : Nat} (hb : ∀ (j : Nat) (d : Tmp), (ops[j]?).bind (·.dst) = some d -> d < N) {p r : Nat -> Bool} {K : St -> Prop} {Q : Exit -> Act -> World -> Prop} (hQ : xKa C K N (Q .normal)) :
  ∀ (l : List Nat) (s : St) (a : Act) (w : World), Rel C s a w -> a.tmps.size = N -> zra P p r ops K l s -> wpOps P ops Q l a w
 | [], s, a, w, h, hN, hk => hQ s a w hk h hN
 | i :: l, s, a, w, h, hN, hk => by
  simp only [zra] at hk;simp only [wpOps];cases ho : ops[i]? with
  | none =>
   rw [ho] at hk;exact yCa hb hQ l s a w h hN hk
  | some o =>
   rw [ho] at hk;simp only at hk ⊢;unfold wMa at hk;have hd : ∀ t, o.dst = some t -> t < a.tmps.size := fun t ht => by rw [hN]; exact hb i t (by rw [ho]; exact ht)
   split at hk
   ·rename_i hw
    rw [xwa h (by rw [hN]; exact hb) hw, if_pos rfl];refine .inl (wPc h hd hk ?_);intro s' a' w' hk' h' hN';exact yCa hb hQ l s' a' w' h' (hN'.trans hN) hk'
   ·rename_i hw
    rw [xwa h (by rw [hN]; exact hb) hw, if_neg (by decide)];refine yCa hb hQ l _ _ _ ?_ (by rw [yob]; exact hN) hk;obtain ⟨S, hS0, hm, hslots⟩ := h.ex;have hu : Rep w S (.tup []) undef := Rep.tup .nil;have e : (s.put o.dst (.tup [])).withMem s.mem = s.put o.dst (.tup []) := by cases o.dst <;> rfl
    rw [<- e];exact h.step hS0 hslots (fun _ h => h) (fun _ h => .inl h) (fun _ _ => rfl) hm (Keep.refl _ _) (fun g b hg => .inl (by rw [hg]; simp)) hd hu
   exact hk.elim
theorem yla {p r : Nat -> Bool} {ops : Array Oper} {K : St -> Prop} {l l' : List Nat} (h : ∀ s, zra P p r ops K l s -> zra P p r ops K l' s) (i : Nat) (s : St) (hk : zra P p r ops K (i :: l) s) : zra P p r ops K (i :: l') s := by
 cases ho : ops[i]? with
 | none => simp only [zra, ho] at hk ⊢; exact h s hk
 | some o => rw [z9a ho] at hk ⊢; exact xPa h hk
def wxa (P : Program) (p r : Nat -> Bool) (ops : Array Oper) (i j : Nat) : Prop := ∀ a b, ops[i]? = some a -> ops[j]? = some b -> wzd P p r ops i j a b
theorem wVa {p r : Nat -> Bool} {ops : Array Oper} {K : St -> Prop} {j : Nat} {l2 : List Nat} : ∀ (l1 : List Nat) (s : St), (∀ i ∈ l1, wxa P p r ops i j) -> zra P p r ops K (l1 ++ j :: l2) s -> zra P p r ops K (j :: (l1 ++ l2)) s
 | [], s, _, hk => hk
 | i :: l1, s, h, hk => by
  have ih : ∀ s, zra P p r ops K (l1 ++ j :: l2) s -> zra P p r ops K (j :: (l1 ++ l2)) s := fun s => wVa l1 s (fun k hk => h k (by simp [hk]));have hk' := yla ih i s hk;have hap := h i (by simp);cases hi : ops[i]? with
  | none =>
   simp only [zra, hi] at hk';show zra P p r ops K (j :: i :: (l1 ++ l2)) s;exact yla (l := l1 ++ l2) (fun s hs => by simp only [zra, hi]; exact hs) j s hk'
  | some a =>
   cases hj : ops[j]? with
   | none =>
    show zra P p r ops K (j :: i :: (l1 ++ l2)) s;have e : ∀ l, zra P p r ops K (j :: l) = zra P p r ops K l := fun l => by funext s; simp only [zra, hj]
    rw [e] ; rw [e] at ih;rw [z9a hi] at hk' ⊢;exact xPa (fun s hs => by rw [e] at hs; exact hs) hk'
   | some b =>
    rw [z9a hi] at hk';have h2 : wMa P (p i) (r i) ops a s fun s1 => wMa P (p j) (r j) ops b s1 (zra P p r ops K (l1 ++ l2)) := xPa (fun s1 hs => by rw [z9a hj] at hs; exact hs) hk';have h3 := zXd (hap a b hi hj) h2;show zra P p r ops K (j :: i :: (l1 ++ l2)) s;rw [z9a hj];exact xPa (fun s1 hs => by rw [z9a hi]; exact hs) h3
def zGc (p r : Nat -> Bool) (ops : Array Oper) (i j : Nat) : Bool :=
 match ops[i]?, ops[j]? with
 | some a, some b => (a.dst.toList.all fun t => !(yUa ops b).contains t) && (b.dst.toList.all fun t => !(yUa ops a).contains t) && (match a.dst, b.dst with | some t, some u => t != u | _, _ => true) &&
   ((zFb (p i) (r i) a.op <= 1 && zFb (p j) (r j) b.op <= 1) || (zFb (p i) (r i) a.op == 0 && zFb (p j) (r j) b.op == 2) || (zFb (p i) (r i) a.op <= 1 && (zFb (p j) (r j) b.op == 2 && ysb (r j) b.op)) ||
    (zFb (p i) (r i) a.op == 2 && (zFb (p j) (r j) b.op == 2 && (zFc a.op && (a.guard.isNone && (b.guard.isNone && (r j && zWd b.op)))))) ||
    (zFb (p i) (r i) a.op == 2 && (zFb (p j) (r j) b.op == 2 && (wyd a.op && (a.guard.isNone && (b.guard.isNone && (r j && xOa b.op)))))))
 | _, _ => true
theorem wna {p r : Nat -> Bool} {ops : Array Oper} (hz : HZ P r ops) {i j : Nat} (h : zGc p r ops i j = true) : wxa P p r ops i j := by
 intro a b ha hb;unfold zGc at h;rw [ha, hb] at h;simp only [Bool.and_eq_true, Bool.or_eq_true, List.all_eq_true, decide_eq_true_eq, beq_iff_eq] at h;obtain ⟨⟨⟨h1, h2⟩, h3⟩, h4⟩ := h;refine ⟨fun t ht hm => ?_, fun t ht hm => ?_, fun t ht hu => ?_, ?_⟩;rotate_left 3
 ·rcases h4 with (((h4 | h4) | h4) | h4) | h4
  rotate_left 4
  ·obtain ⟨q1, q2, q3, q4, q5, q6⟩ := h4;exact .inr (.inr (.inr (.inr ⟨q1, q2, q3, Option.isNone_iff_eq_none.1 q4, Option.isNone_iff_eq_none.1 q5, by simpa using q6⟩)))
  ·exact .inl h4
  ·exact .inr (.inl h4)
  ·exact .inr (.inr (.inl ⟨h4.1, h4.2.1, h4.2.2⟩))
  obtain ⟨q1, q2, q3, q4, q5, q6, q7⟩ := h4;refine .inr (.inr (.inr (.inl ⟨q1, q2, q3, Option.isNone_iff_eq_none.1 q4, Option.isNone_iff_eq_none.1 q5, ?_⟩)));cases hop : b.op with
  | alloc U => exact ⟨U, rfl, hz j b U hb q6 hop⟩
  | _ => rw [hop] at q7; cases q7
 ·have := h1 t (by simp [ht]); simp [hm] at this
 ·have := h2 t (by simp [ht]); simp [hm] at this
 rw [ht, hu] at h3; simp at h3
def xKc (p r : Nat -> Bool) (ops : Array Oper) (an : List (List Nat)) : List Nat -> Bool
 | [] => true
 | k :: l => (l.all fun i => (an.getD i []).contains k || zGc p r ops k i) && xKc p r ops an l
theorem z8b {p r : Nat -> Bool} {ops : Array Oper} (hz : HZ P r ops) {an : List (List Nat)} : ∀ {l : List Nat}, xKc p r ops an l = true -> l.Pairwise fun k i => (an.getD i []).contains k = true ∨ wxa P p r ops k i
 | [], _ => .nil
 | k :: l, h => by
  simp only [xKc, Bool.and_eq_true, List.all_eq_true, Bool.or_eq_true] at h;exact .cons (fun i hi => (h.1 i hi).imp id (wna hz)) (z8b hz h.2)
def zHc (p r : Nat -> Bool) (σ : List Nat) (ops : Array Oper) : Bool :=
 ((List.range ops.size).all fun j => σ.contains j) && (σ.all fun j => j < ops.size) && decide σ.Nodup && xKc p r ops (ancs ops.toList []) σ && ops.all fun (o : Oper) => o.after.all fun (e : Edge) => decide (e.on < ops.size)
def yaa (σ : List Nat) (listed : Array Bool) : List Nat := σ.filter fun i => !listed.getD i true
theorem xLc {σ : List Nat} (hσ : σ.Nodup) {listed : Array Bool} {i : Nat} (hin : i < listed.size) {l1 l2 : List Nat} (h : yaa σ listed = l1 ++ i :: l2) : yaa σ (listed.setIfInBounds i true) = l1 ++ l2 := by
 have hnd : (l1 ++ i :: l2).Nodup := by rw [<- h]; exact List.Nodup.sublist List.filter_sublist hσ
 have e1 : yaa σ (listed.setIfInBounds i true) = (yaa σ listed).filter fun k => k != i := by
  unfold yaa;rw [List.filter_filter];apply List.filter_congr;intro k hk;by_cases hki : k = i
  ·subst hki;simp [Array.getD_eq_getD_getElem?, hin]
  simp [Array.getD_eq_getD_getElem?, Array.getElem?_setIfInBounds_ne (Ne.symm hki), hki]
 rw [e1, h, List.filter_append, List.filter_cons];have h1 : ∀ k ∈ l1, (k != i) = true := fun k hk => by
  rw [bne_iff_ne]; rintro rfl;exact (List.nodup_append.1 hnd).2.2 k hk k (by simp) rfl
 have h2 : ∀ k ∈ l2, (k != i) = true := fun k hk => by
  rw [bne_iff_ne]; rintro rfl;exact (List.nodup_cons.1 (List.nodup_append.1 hnd).2.1).1 hk
 rw [List.filter_eq_self.2 h1, List.filter_eq_self.2 h2];simp
theorem zIc {m : Region.Mode} {e : Edge} (h : Region.binds .any e = true) : Region.binds m e = true := by
 unfold Region.binds at h ⊢;cases hg : e.ground <;> rw [hg] at h <;> simp at h ⊢ <;> cases h
def acyc (md : Region.Mode) (ops : Array Oper) : List Nat -> List Nat -> Bool
 | _, [] => true
 | done, j :: l => (match ops[j]? with | some o => o.after.all fun e => !Region.binds md e || done.contains e.on | none => true) && acyc md ops (j :: done) l
theorem zMb {md : Region.Mode} {ops : Array Oper} {L : Nat -> Bool} : ∀ (τ done : List Nat), acyc md ops done τ = true -> (∀ j ∈ done, L j = true) -> (∃ i ∈ τ, L i = false) -> ∃ i ∈ τ, L i = false /\ ∀ o, ops[i]? = some o -> o.after.all (fun e => !Region.binds md e || L e.on) = true
 | [], done, _, _, ⟨i, hi, _⟩ => by cases hi
 | j :: l, done, h, hd, ⟨i, hi, hl⟩ => by
  simp only [acyc, Bool.and_eq_true] at h;cases hj : L j with
  | true =>
   have hi' : i ∈ l := by
    rcases List.mem_cons.1 hi with rfl | h
    ·rw [hj] at hl; cases hl
    exact h
   obtain ⟨k, hk, h1, h2⟩ := zMb l (j :: done) h.2 (fun x hx => by
    rcases List.mem_cons.1 hx with rfl | hx
    ·exact hj
    exact hd x hx) ⟨i, hi', hl⟩
   exact ⟨k, List.mem_cons_of_mem _ hk, h1, h2⟩
  | false =>
   refine ⟨j, List.mem_cons_self .., hj, fun o ho => ?_⟩;have h1 := h.1;rw [ho] at h1;simp only [Array.all_eq_true', Bool.or_eq_true] at h1 ⊢;intro e he;rcases h1 e he with h | h
   ·exact .inl h
   exact .inr (hd _ (by simpa using h))
def zTa (md : Region.Mode) (ops : Array Oper) (τ : List Nat) : Bool := acyc md ops [] τ && (List.range ops.size).all fun j => τ.contains j
theorem wTb (md : Region.Mode) {p r : Nat -> Bool} {σ : List Nat} {ops : Array Oper} (hz : HZ P r ops) {K : St -> Prop} (hB : zHc p r σ ops = true) {τ : List Nat} (hT : zTa md ops τ = true) : ∀ (fuel t : Nat) (listed : Array Bool) (acc : List Nat), listed.size = ops.size -> fuel = (rem ops.size listed).length -> fuel = (yaa σ listed).length ->
  (∀ (j : Nat) (o : Oper), ops[j]? = some o -> listed.getD j true = true -> ∀ e ∈ direct o, listed.getD e true = true) ->
  ∃ π, Region.linearise.go md ops fuel t listed acc = acc.reverse ++ π /\ ∀ s, zra P p r ops K (yaa σ listed) s -> zra P p r ops K π s := by
 intro fuel
 induction fuel with
 | zero =>
  intro t listed acc hs hf0 hf hc;have : yaa σ listed = [] := List.eq_nil_of_length_eq_zero hf.symm;rw [this];exact ⟨[], by simp [Region.linearise.go], fun s hk => hk⟩
 | succ fuel ih =>
  intro t listed acc hs hf0 hf hc;unfold zHc at hB;simp only [Bool.and_eq_true, List.all_eq_true, List.mem_range, decide_eq_true_eq, Array.all_eq_true'] at hB;obtain ⟨⟨⟨⟨hB, hσ1⟩, hσ2⟩, hpairs⟩, hE0⟩ := hB;have hE : ∀ (i : Nat) (o : Oper), ops[i]? = some o -> ∀ e ∈ o.after, e.on < ops.size := by
   intro i o ho e he;have h1 := hE0 o (Array.mem_of_getElem? ho);exact h1 e he
  have hready : ∀ (i : Nat) (o : Oper), ops[i]? = some o -> (((ops[i]?).map (·.after.all fun e => !Region.binds md e || listed.getD e.on false)).getD false = true -> ∀ e ∈ direct o, listed.getD e false = true) := by
   intro i o ho;rw [ho];simp only [Option.map_some, Option.getD_some, Array.all_eq_true', direct, List.mem_map, List.mem_filter];rintro h e ⟨x, ⟨hx, hb⟩, rfl⟩;have := h x (by simpa using hx);simpa [zIc (m := md) hb] using this
  unfold Region.linearise.go;simp only;generalize hrs : ((List.range ops.size).filter fun i => !listed.getD i true && ((ops[i]?).map (·.after.all fun e => !Region.binds md e || listed.getD e.on false)).getD false) = rs;have hmem : ∀ i, i ∈ rs -> i ∈ rem ops.size listed /\ i ∈ yaa σ listed /\ ∃ o, ops[i]? = some o /\ ∀ e ∈ direct o, listed.getD e false = true := by
   intro i hi;rw [<- hrs] at hi;obtain ⟨h1, h2⟩ := List.mem_filter.1 hi;simp only [Bool.and_eq_true] at h2;have hlt := List.mem_range.1 h1;refine ⟨List.mem_filter.2 ⟨h1, h2.1⟩, List.mem_filter.2 ⟨by simpa using hB i hlt, h2.1⟩, ?_⟩;exact ⟨ops[i], by simp [hlt], hready i _ (by simp [hlt]) h2.2⟩
  have hne : rs ≠ [] := by
   have hrem : rem ops.size listed ≠ [] := by intro h; rw [h] at hf0; simp at hf0
   obtain ⟨i0, l0, hil⟩ := List.exists_cons_of_ne_nil hrem;have hi0 : i0 ∈ rem ops.size listed := by rw [hil]; simp
   obtain ⟨hin0, hiu0⟩ := List.mem_filter.1 hi0;unfold zTa at hT;simp only [Bool.and_eq_true, List.all_eq_true, List.mem_range] at hT;obtain ⟨i, hiτ, h1, h2⟩ := zMb (L := fun j => listed.getD j true) τ [] hT.1 (fun j hj => by cases hj) ⟨i0, by simpa using hT.2 i0 (List.mem_range.1 hin0), by simpa using hiu0⟩;have hin : i < ops.size := by
    rcases Nat.lt_or_ge i ops.size with h | h
    ·exact h
    simp [Array.getD_eq_getD_getElem?, Array.getElem?_eq_none (show listed.size <= i by omega)] at h1
   intro hnil;have : i ∈ rs := by
    rw [<- hrs];refine List.mem_filter.2 ⟨List.mem_range.2 hin, ?_⟩;simp only [Bool.and_eq_true];refine ⟨by simp [h1], ?_⟩;have h3 := h2 ops[i] (by simp [hin]);rw [show ops[i]? = some ops[i] from by simp [hin]]
    simp only [Option.map_some, Option.getD_some, Array.all_eq_true', Bool.or_eq_true] at h3 ⊢;intro e he;rcases h3 e he with h | h
    ·exact .inl h
    cases hb : Region.binds md e with
    | false => exact .inl rfl
    | true =>
     refine .inr ?_
     -- what is not there is never listed
     have hes := (hE i ops[i] (by simp [hin])) e he;simp only [Array.getD_eq_getD_getElem?] at h ⊢;rw [show listed[e.on]? = some (listed[e.on]'(by omega)) from by simp [hs, hes]] at h ⊢
     simpa using h
   rw [hnil] at this; cases this
  have hpos : 0 < rs.length := List.length_pos_iff.2 hne;have hlt : t % rs.length < rs.length := Nat.mod_lt _ hpos;rw [List.getElem?_eq_getElem hlt];simp only;obtain ⟨hi0, hi, o, ho, hd⟩ := hmem _ (List.getElem_mem hlt);generalize rs[t % rs.length] = i at *;obtain ⟨l1, l2, hl⟩ := List.append_of_mem hi;obtain ⟨k1, k2, hl0⟩ := List.append_of_mem hi0;have hin := List.mem_range.1 (List.mem_filter.1 hi0).1;have hset := xLc hσ2 (by omega : i < listed.size) hl;have hset0 := ySc hs hl0;have hlisted : ∀ e, listed.getD e false = true -> listed.getD e true = true := by
   intro e he;simp only [Array.getD_eq_getD_getElem?] at he ⊢;cases hq : listed[e]? with
   | none => rfl
   | some b => rw [hq] at he; simpa using he
  have hap : ∀ k ∈ l1, wxa P p r ops k i := by
   intro k hk1;have hkm : k ∈ yaa σ listed := by rw [hl]; simp [hk1]
   have hp : (yaa σ listed).Pairwise _ := List.Pairwise.filter _ (z8b hz hpairs);rw [hl] at hp;rcases (List.pairwise_append.1 hp).2.2 k hk1 i (by simp) with h | h
   ·have hclosed := yBa ops (fun e => listed.getD e true = true) hc ops.toList [] 0 rfl (Nat.zero_le _) (fun q => by simp) (fun j o _ _ k hk => by simp [List.getD_eq_getElem?_getD] at hk) i o ho (fun e he => hlisted e (hd e he)) k (by simpa using h);have := (List.mem_filter.1 hkm).2;rw [hclosed] at this; cases this
   exact h
  have hc' : ∀ (j : Nat) (o' : Oper), ops[j]? = some o' -> (listed.setIfInBounds i true).getD j true = true -> ∀ e ∈ direct o', (listed.setIfInBounds i true).getD e true = true := by
   intro j o' ho' hj e he;have key : ∀ q, listed.getD q true = true -> (listed.setIfInBounds i true).getD q true = true := by
    intro q hq;by_cases hqi : q = i
    ·subst hqi; simp [Array.getD_eq_getD_getElem?]
    simpa [Array.getD_eq_getD_getElem?, Array.getElem?_setIfInBounds_ne (Ne.symm hqi)] using hq
   by_cases hji : j = i
   ·subst hji;rw [ho] at ho';obtain rfl := Option.some.inj ho';exact key e (hlisted e (hd e he))
   have : listed.getD j true = true := by simpa [Array.getD_eq_getD_getElem?, Array.getElem?_setIfInBounds_ne (Ne.symm hji)] using hj
   exact key e (hc j o' ho' this e he)
  obtain ⟨π, hgo, hπ⟩ := ih (t / rs.length) (listed.setIfInBounds i true) (i :: acc) (by simpa using hs) (by rw [hset0]; rw [hl0] at hf0; simp at hf0 ⊢; omega) (by rw [hset]; rw [hl] at hf; simp at hf ⊢; omega) hc';refine ⟨i :: π, by rw [hgo]; simp, fun s hk => ?_⟩;rw [hl] at hk;have hk2 := wVa l1 s hap hk;rw [hset] at hπ;exact yla hπ i s hk2
theorem yYb {p r : Nat -> Bool} {σ τ : List Nat} {ops : Array Oper} (hz : HZ P r ops) {K : St -> Prop} (hB : zHc p r σ ops = true) (hT : (zTa .text ops (List.range ops.size) && zTa .gc ops τ && zTa .any ops τ) = true) (mixed : Bool) (t : Nat) (s : St) (hk : zra P p r ops K σ s) : zra P p r ops K (Region.schedule mixed ops t) s := by
 have hB' := hB;unfold zHc at hB';simp only [Bool.and_eq_true, List.all_eq_true, List.mem_range, decide_eq_true_eq] at hB';obtain ⟨⟨⟨⟨hBr, hσ1⟩, hσ2⟩, hpairs⟩, _⟩ := hB';simp only [Bool.and_eq_true] at hT;have hrem : rem ops.size (Array.replicate ops.size false) = List.range ops.size := by
  unfold rem;rw [List.filter_eq_self];intro i hi;have := List.mem_range.1 hi;simp [Array.getD_eq_getD_getElem?, this]
 have hremF : yaa σ (Array.replicate ops.size false) = σ := by
  unfold yaa;rw [List.filter_eq_self];intro i hi;have := hσ1 i hi;simp [Array.getD_eq_getD_getElem?, this]
 have hlen : ops.size = σ.length := by
  have hp : σ.Perm (List.range ops.size) := (List.perm_ext_iff_of_nodup hσ2 List.nodup_range).2 fun a => ⟨fun h => List.mem_range.2 (hσ1 a h), fun h => by simpa using hBr a (List.mem_range.1 h)⟩;simpa using hp.length_eq.symm
 have key : ∀ md t (τ : List Nat), zTa md ops τ = true -> zra P p r ops K (Region.linearise md ops t) s := by
  intro md t τ hT;obtain ⟨π, hgo, hπ⟩ := wTb (P := P) md hz (K := K) hB hT ops.size t (Array.replicate ops.size false) [] (by simp) (by rw [hrem]; simp) (by rw [hremF]; exact hlen) (fun j o ho hj => by
   have hlt := (Array.getElem?_eq_some_iff.1 ho).1;simp [Array.getD_eq_getD_getElem?, hlt] at hj)
  unfold Region.linearise;rw [hgo, List.reverse_nil, List.nil_append];exact hπ s (by rw [hremF]; exact hk)
 unfold Region.schedule;split
 ·exact key _ _ τ hT.2
 split
 ·exact key _ _ _ hT.1.1
 exact key _ _ τ hT.1.2
def xke (N : Nat) (p r : Nat -> Bool) (σ τ : List Nat) (ops : Array Oper) : Bool := xmd N ops && (zHc p r σ ops && (zTa .text ops (List.range ops.size) && zTa .gc ops τ && zTa .any ops τ))
theorem AWp.regionZ {N : Nat} {id : Nat} {ops : Array Oper} {Q : Exit -> St -> Prop} {s : St} (p r : Nat -> Bool) (σ τ : List Nat) (hB : xke N p r σ τ ops = true) (hz : HZ P r ops) (h : zra P p r ops (Q .normal) σ s) : AWp P N (.region id ops true) Q s := by
 intro C a w hr hN;unfold xke at hB;simp only [Bool.and_eq_true] at hB;obtain ⟨hd, ho, hT⟩ := hB;have hb : ∀ (j : Nat) (d : Tmp), (ops[j]?).bind (·.dst) = some d -> d < N := by
  intro j d hj;unfold xmd at hd;rw [Array.all_eq_true'] at hd;cases hq : ops[j]? with
  | none => rw [hq] at hj; cases hj
  | some o =>
   rw [hq] at hj;have := hd o (Array.mem_of_getElem? hq);simp at hj;rw [hj] at this;simpa using this
 have hQ : xKa C (Q .normal) N (Lift C N Q .normal) := fun s a w h1 h2 h3 => ⟨s, h1, h2, h3⟩;refine wp_region_draw fun t => ?_;refine yCa hb hQ _ s a _ ?_ hN (yYb hz ho (by simp only [Bool.and_eq_true]; exact hT) _ t s h);obtain ⟨S, h1, h2, h3⟩ := hr.ex;exact ⟨⟨S, h1, yTa h2 _, fun t => Rep.mono (w := w) (w' := { w with drawn := w.drawn + 1 }) (fun _ _ => rfl) (fun _ h => h) (h3 t)⟩, hr.defers, hr.keep.drew _, hr.dom⟩
theorem AWp.regionN {N : Nat} {id : Nat} {ops : Array Oper} {Q : Exit -> St -> Prop} {s : St} (p r : Nat -> Bool) (l : List Nat) (hB : (xmd N ops && decide (l = List.range ops.size)) = true) (h : zra P p r ops (Q .normal) l s) : AWp P N (.region id ops false) Q s := by
 intro C a w hr hN;rw [Bool.and_eq_true, decide_eq_true_eq] at hB;obtain ⟨hB, rfl⟩ := hB;have hb : ∀ (j : Nat) (d : Tmp), (ops[j]?).bind (·.dst) = some d -> d < N := by
  intro j d hj;unfold xmd at hB;rw [Array.all_eq_true'] at hB;cases hq : ops[j]? with
  | none => rw [hq] at hj; cases hj
  | some o =>
   rw [hq] at hj;have := hB o (Array.mem_of_getElem? hq);simp at hj;rw [hj] at this;simpa using this
 have hQ : xKa C (Q .normal) N (Lift C N Q .normal) := fun s a w h1 h2 h3 => ⟨s, h1, h2, h3⟩;exact wp_region (yCa hb hQ _ s a w hr hN h)
def z3e (r : Nat -> Bool) (ops : Array Oper) : Bool := (List.range ops.size).all fun j => !r j || !(match ops[j]? with | some o => zWd o.op | none => false)
theorem yWc {r : Nat -> Bool} {ops : Array Oper} (h : z3e r ops = true) : HZ P r ops := fun j o U ho hr hU => by
 unfold z3e at h;rw [List.all_eq_true] at h;have := h j (List.mem_range.2 (Array.getElem?_eq_some_iff.1 ho).1);rw [ho] at this;simp [hr, hU, zWd] at this
theorem AWp.rG {N : Nat} {id : Nat} {ops : Array Oper} {Q : Exit -> St -> Prop} {s : St} (p r : Nat -> Bool) (σ τ : List Nat) (hB : (z3e r ops && xke N p r σ τ ops) = true) (h : zra P p r ops (Q .normal) σ s) : AWp P N (.region id ops true) Q s := by
 rw [Bool.and_eq_true] at hB;exact AWp.regionZ p r σ τ hB.2 (yWc hB.1) h
theorem AWp.regionF {N : Nat} {id : Nat} {ops : Array Oper} {Q : Exit -> St -> Prop} {s : St} (p r : Nat -> Bool) (σ : List Nat) (hB : (z3e r ops && xke N p r σ (List.range ops.size) ops) = true) (h : zra P p r ops (Q .normal) σ s) : AWp P N (.region id ops true) Q s := AWp.rG p r σ _ hB h
@[simp] theorem zYd (p r : Nat -> Bool) (ops : Array Oper) (K : St -> Prop) (s : St) : zra P p r ops K [] s = K s := (_root_.id rfl)
@[simp] theorem z4e (p r : Nat -> Bool) (ops : Array Oper) (K : St -> Prop) (i : Nat) (l : List Nat) (s : St) : zra P p r ops K (i :: l) s = match ops[i]? with | none => zra P p r ops K l s | some o => wMa P (p i) (r i) ops o s (zra P p r ops K l) := (_root_.id rfl)
@[simp] theorem yBe (f r : Bool) (ops : Array Oper) (d : Option Tmp) (op : Op) (T : TypeId) (pos : String) (af : Array Edge) (s : St) (K : St -> Prop) : wMa P f r ops ⟨d, op, T, pos, af, none⟩ s K = wSb P f r ⟨d, op, T, pos, af, none⟩ s K := (_root_.id rfl)
@[simp] theorem yCe (f r : Bool) (ops : Array Oper) (d : Option Tmp) (op : Op) (T : TypeId) (pos : String) (af : Array Edge) (j : Nat) (want : Bool) (s : St) (K : St -> Prop) : wMa P f r ops ⟨d, op, T, pos, af, some (j, want)⟩ s K =
  zVa (gv ops j s) want (wSb P f r ⟨d, op, T, pos, af, none⟩ s K) (K (s.put d (.tup []))) := by
 unfold wMa zGa gv zVa;simp only;cases hj : (ops[j]?).bind (·.dst) with
 | none => rfl
 | some t =>
  simp only;cases hs : s.sl t with
  | bool b =>
   simp only;by_cases h : b = want
   ·subst h; simp; rfl
   have : (b == want) = false := by simpa using h
   simp [this, h]
  | tup l => cases l <;> rfl
  | _ => rfl
@[simp] theorem xle (f : Bool) (d : Option Tmp) (U : TypeId) (n : Nat) (parts : Array (Nat × Operand)) (T : TypeId) (pos : String) (af : Array Edge) (g : Option (Nat × Bool)) (s : St) (K : St -> Prop) : wSb P f true ⟨d, .buildSlice U n parts, T, pos, af, g⟩ s K = xIc P s.mem s.eval (fun v m' => K ((s.put d v).withMem m')) (.buildSlice U n parts) := by
 simp only [wSb, zdb, xOa, Bool.and_self, Bool.and_false, if_true, Bool.false_eq_true, if_false]
@[simp] theorem xme (m : Mem) (ev : Operand -> AV) (k : AV -> Mem -> Prop) (U : TypeId) (len : Nat) (parts : Array (Nat × Operand)) : xIc P m ev k (.buildSlice U len parts) = match y2a P U with
  | some E => match szT P E with
   | some n => len = parts.size /\ len * n <= 16777216 /\ n ≠ 0 /\ (zMa P E).isSome = true /\
    match zda n (parts.toList.map fun q => (q.1, ev q.2)) with
    | some xs => ∀ g, m g = none -> k (.own g len len) (m.set g (.arr E n len xs))
    | none => False
   | none => False
  | none => False := (_root_.id rfl)
@[simp] theorem wUe (f : Bool) (o : Oper) (s : St) (K : St -> Prop) : wSb P f false o s K = AOp P f o s K := by simp [wSb]
@[simp] theorem yDe (f : Bool) (d : Option Tmp) (U : TypeId) (x : Operand) (T : TypeId) (pos : String) (af : Array Edge) (g : Option (Nat × Bool)) (s : St) (K : St -> Prop) : wSb P f true ⟨d, .load U x, T, pos, af, g⟩ s K = goO (y3a P yXb U (s.eval x)) d s K := by
 simp only [wSb, zdb, Bool.and_self, if_true, yGa, goO];cases y3a P yXb U (s.eval x) <;> simp
@[simp] theorem xne (f : Bool) (d : Option Tmp) (U : TypeId) (x i : Operand) (T : TypeId) (pos : String) (af : Array Edge) (g : Option (Nat × Bool)) (s : St) (K : St -> Prop) : wSb P f true ⟨d, .indexAddr U x i, T, pos, af, g⟩ s K = goO (yga P yXb U (s.eval x) (s.eval i)) d s K := by
 simp only [wSb, zdb, Bool.and_self, if_true, yGa, goO];cases yga P yXb U (s.eval x) (s.eval i) <;> simp
end
section
variable {P : Program} {N : Nat} {c d : Code} {Q : Exit -> St -> Prop} {s : St}
theorem AWp.cA {X : St -> Prop} (M : St -> Prop) (h : AWp P N c (wSa M Q) s) (hm : ∀ s', M s' -> X s') : AWp P N c (wSa X Q) s :=
 h.mono fun e s' hs => by
  cases e with
  | normal => exact hm s' hs
  | _ => exact hs
theorem Sees.view {s : St} {t : Tmp} {m' : Mem} {r' : AV} (h : View s.mem (s.sl t) m' r') : Sees s ⟨fun k => if k = t then r' else s.sl k, m'⟩ := fun w S f h1 h2 => by
 obtain ⟨S', k1, k2, k3, k4, k5⟩ := h w S (f t) h1 (h2 t);refine ⟨S', k1, k2, k3, fun k => ?_, k5⟩;by_cases hk : k = t
 ·subst hk;simpa using k4
 simp only [if_neg hk];exact (h2 k).mono (fun _ _ => rfl) k1
theorem zca.viewed {n : FuncId} {l l' : List AV} {a a' : AV} {r : AV} {m m' : Mem} (h : zca P n (l ++ a' :: l') r) (hv : View m a m' a') {K : AV -> Mem -> Prop} (hK : K r m') : zka P n (l ++ a :: l') m K := by
 refine ⟨h.1, fun w S cargs hm hr => ?_⟩;obtain ⟨us, ws, rfl, h1, h2⟩ := hr.split;cases h2 with | @cons _ v _ ws hv2 h3 =>
 obtain ⟨S', k1, k2, k3, k4, k5⟩ := hv w S v hm hv2;have hst : Stays S w w := fun _ _ => rfl;have := h.2 w S' (us ++ v :: ws) _ k3 ((h1.mono hst k1).append (.cons k4 (h3.mono hst k1)));refine zma this ?_;rintro e' w' ⟨v', S2, he, a1, a2, a3, a4, a5⟩;refine ⟨v', r, m', S2, he, hK, fun b hb => a1 b (k1 b hb), fun b hb => ?_, a3, a4, a5.mono (fun _ h => h.elim), fun g' b hb => .inl (k5 g' b hb)⟩;rcases a2 b hb with h | h
 ·rcases k2 b h with h | h
  ·exact .inl h
  exact .inr (.inl h)
 exact .inr (.inr h)
end
end Go.T
namespace Go.T
open Go Go.RowKit Go.ChangeShapes
section
variable {H : Type} {enc : TypeId × Value -> H} {P : Program} {W : World}
def Old (W : World) (b : Nat) : Prop := b < W.heap.size
def Opens (enc : TypeId × Value -> H) (P : Program) (W : World) (T : TypeId) {α : Type} (cells : α -> List AV) (good : α -> Prop) (fuel : Nat) : Prop :=
 ∀ cs d, DataW.trod enc P W 0 (fun _ => true) true fuel T cs = some d -> ∃ a, good a /\ Reps W (Old W) (cells a) cs
theorem wQc {T : TypeId} {α : Type} {cells : α -> List AV} {good : α -> Prop} : Opens enc P W T cells good 0 := fun cs d h => by simp [DataW.trod] at h
theorem Opens.map {T : TypeId} {α β : Type} {cells : α -> List AV} {good : α -> Prop} {cells' : β -> List AV} {good' : β -> Prop} {fuel : Nat} (h : Opens enc P W T cells good fuel) (f : α -> β) (hf : ∀ a, good a -> good' (f a) /\ Les (cells a) (cells' (f a))) : Opens enc P W T cells' good' fuel := fun cs d hd => by
 obtain ⟨a, ha, hr⟩ := h cs d hd;exact ⟨f a, (hf a ha).1, (hf a ha).2.reps hr⟩
theorem Cells.append {w : World} {S : Nat -> Prop} {b : Nat} {as bs : List AV} : ∀ {o : Nat}, Cells w S b o as -> Cells w S b (o + as.length) bs -> Cells w S b o (as ++ bs) := by
 induction as with
 | nil => intro o _ k; simpa using k
 | cons a as ih =>
  intro o h k;cases h with
  | cons hc h t =>
   refine .cons hc h (ih t ?_);have e : o + 1 + as.length = o + (a :: as).length := by simp; omega
   rw [e]; exact k
theorem Cells.of_read {w : World} {S : Nat -> Prop} {b : Nat} {as : List AV} : ∀ {vs : List Value} {o : Nat}, Reps w S as vs -> (∀ i, i < vs.length -> w.cell? ⟨b, o + i, none⟩ = vs[i]?) -> Cells w S b o as := by
 induction as with
 | nil => intro vs o h k; exact .nil _ _
 | cons a as ih =>
  intro vs o h k;cases h with
  | @cons _ v _ vs h t =>
   refine .cons (v := v) ?_ h (ih t fun i hi => ?_)
   ·have := k 0 (by simp); simpa using this
   have := k (i + 1) (by simp; omega);rw [show o + 1 + i = o + (i + 1) from by omega, this]; simp
theorem yZb {α β : Type} {p : Nat -> α -> Prop} : ∀ n, (∀ i, i < n -> ∃ a, p i a) -> ∃ l : List α, l.length = n /\ ∀ i a, l[i]? = some a -> p i a
 | 0, _ => ⟨[], rfl, fun i a h => by simp at h⟩
 | n + 1, h => by
  obtain ⟨l, hl, hp⟩ := yZb (β := β) n fun i hi => h i (by omega);obtain ⟨a, ha⟩ := h n (by omega);refine ⟨l ++ [a], by simp [hl], fun i x hx => ?_⟩;rw [List.getElem?_append] at hx;split at hx
  ·exact hp i x hx
  rename_i hlt
  have : i - l.length < [a].length := (List.getElem?_eq_some_iff.1 hx).1;simp at this;have e : i = n := by omega
  subst e;rw [hl] at hx; simp at hx;subst hx; exact ha
theorem Cells.join {α : Type} {w : World} {S : Nat -> Prop} {b n : Nat} {cells : α -> List AV} : ∀ (l : List α) (o : Nat), (∀ a ∈ l, (cells a).length = n) -> (∀ i a, l[i]? = some a -> Cells w S b (o + i * n) (cells a)) -> Cells w S b o (l.flatMap cells)
 | [], o, _, _ => .nil _ _
 | a :: l, o, hn, h => by
  rw [List.flatMap_cons];have h0 := h 0 a rfl;rw [Nat.zero_mul, Nat.add_zero] at h0;refine Cells.append h0 ?_;rw [hn a (List.mem_cons_self ..)];refine Cells.join l (o + n) (fun x hx => hn x (List.mem_cons_of_mem _ hx)) fun i x hx => ?_;have := h (i + 1) x (by simpa using hx);rw [show o + n + i * n = o + (i + 1) * n from by rw [Nat.add_mul]; omega]
  exact this
theorem zZd (a : Addr) (i : Nat) : (a.add i).block = a.block := by
 unfold Addr.add;split <;> rfl
theorem yXc {T E : TypeId} {α : Type} {cells : α -> List AV} {good : α -> Prop} {elt : α -> AV} {n fuel : Nat} (hu : P.underlying T = some (.slice E)) (hn : P.cellsOf E = n) (hn0 : 0 < n)
  (helt : ∀ a, (elt a).cells = cells a) (hlen : ∀ a, (cells a).length = n) (he : Opens enc P W E cells good fuel) :
  Opens enc P W T (fun l : List α => [.lst false n (l.map elt)]) (fun l => l.length <= 9223372036854775807 /\ ∀ a ∈ l, good a) (fuel + 1) := fun cs d h => by
 unfold DataW.trod at h;rw [hu] at h;split at h <;> first | contradiction | (simp_all; done) | skip
 all_goals simp only [Option.some.injEq, TypeDesc.slice.injEq, reduceCtorEq] at *
 ·exact ⟨[], ⟨by simp, by simp⟩, .cons (.lnil _ _ _ _ (fun h => by cases h)) .nil⟩
 rename_i e a len cap hee
 subst hee;split at h
 case isFalse => simp at h
 rename_i hc
 obtain ⟨-, hlc, hcm⟩ := hc;obtain ⟨elems, hel, h2⟩ := Option.bind_eq_some_iff.1 h;have hlen' := mapM_some_length hel;simp at hlen';by_cases hl0 : len = 0
 ·subst hl0;exact ⟨[], ⟨by simp, by simp⟩, .cons (.lnil _ _ _ _ (fun h => by cases h)) .nil⟩
 have hsp : a.spot = none := by
  have h3 := mapM_some_get hel 0 0 (by rw [List.getElem?_range (by omega)]);rw [List.getElem?_eq_getElem (by omega)] at h3;obtain ⟨cs, hcs, ht⟩ := Option.bind_eq_some_iff.1 h3;obtain ⟨_, hl, hcell⟩ := World.cells?_some hcs;have h4 := hcell 0 (by rw [hn]; exact hn0);rw [hn] at hl;rw [List.getElem?_eq_getElem (by omega), Nat.zero_mul] at h4;exact World.cell?_spot h4
 have each : ∀ i, i < len -> ∃ x : α, good x /\ a.block < W.heap.size /\ Cells W (Old W) a.block (a.off + i * n) (cells x) := fun i hi => by
  have h3 := mapM_some_get hel i i (by simp [hi]);rw [List.getElem?_eq_getElem (by omega)] at h3;obtain ⟨cs, hcs, ht⟩ := Option.bind_eq_some_iff.1 h3;obtain ⟨x, hx, hr⟩ := he cs _ ht;have hb := World.cells?_block hcs (by rw [hn]; exact hn0);obtain ⟨_, hl, hcell⟩ := World.cells?_some hcs;rw [hn] at hcell hl;refine ⟨x, hx, (by rw [zZd] at hb; exact hb), Cells.of_read hr fun j hj => ?_⟩;have := hcell j (by omega);rw [<- this];obtain ⟨ab, ao, as⟩ := a;simp at hsp;subst hsp;simp [WideShapes.add_plain, Nat.add_assoc]
 obtain ⟨l, hll, hp⟩ := yZb (β := Unit) len each;obtain ⟨x0, -, hb0, -⟩ := each 0 (by omega);obtain ⟨ab, ao, as⟩ := a;simp at hsp hb0;subst hsp;have hm : ∀ x ∈ l, good x := fun x hx => by
  obtain ⟨i, hi⟩ := List.getElem?_of_mem hx;exact (hp i x hi).1
 refine ⟨l, ⟨by simp [maxLen] at hcm; omega, hm⟩, .cons ?_ .nil⟩;have e1 : len = (l.map elt).length := by simp [hll]
 rw [e1];refine .lst false n ab ao cap hb0 (fun x hx => ?_) (by rw [<- e1]; exact hlc) (fun h => by cases h) ?_
 ·obtain ⟨y, hy, rfl⟩ := List.mem_map.1 hx;rw [helt, hlen]
 have e2 : flat (l.map elt) = l.flatMap cells := by
  unfold flat
  rw [List.flatMap_map];congr 1;funext x;exact helt x
 rw [e2];exact Cells.join l ao (fun x _ => hlen x) fun i x hx => (hp i x hx).2.2
end
end Go.T
namespace Go.T
open Go
theorem z0d {P : Program} {w : World} {r : Reach} {base : Nat} {t e : TypeId} {v : Value} (ht : P.underlying t = some (.slice e)) (h : Value.okWide P w r base t v) : ∃ A n c, v = .slice A n c := by
 simp only [Value.okWide, ht, Cell.okWide] at h;cases v <;> simp_all [Cell.ok]
theorem z1d {P : Program} {W : World} {S : Nat -> Prop} {r : Reach} {base : Nat} {t e : TypeId} {v : Value} (ht : P.underlying t = some (.slice e)) (hv : Value.okWide P W r base t v) {x : AV} (h : Reps W S [x] v.cells.toList) : Rep W S x v := by
 obtain ⟨A, n, c, rfl⟩ := z0d ht hv;have h2 : Reps W S [x] [Value.slice A n c] := h;cases h2 with | cons h _ => exact h
theorem xKd {H : Type} {enc : TypeId × Value -> H} {P : Program} {W : World} {T : TypeId} (hu : P.underlying T = some (.int .u8)) (fuel : Nat) : Opens enc P W T (fun n : Int => [.int .u8 n]) (fun n => 0 <= n /\ n <= 255) fuel := fun cs d h => by
 cases fuel with
 | zero => simp [DataW.trod] at h
 | succ m =>
  unfold DataW.trod at h;rw [hu] at h;split at h <;> simp_all
  obtain ⟨hq, hw⟩ := h.1
  rename_i he
  subst he;simp only [Lit.wf, Bool.and_eq_true, decide_eq_true_eq] at hw;have h1 : IntKind.u8.min = 0 := by decide
  have h2 : IntKind.u8.max = 255 := by decide
  exact ⟨_, ⟨by omega, by omega⟩, .cons (.int _ _) .nil⟩
def Ex.k : Ex -> Int | .mk k _ _ _ => k
def Ex.n : Ex -> Int | .mk _ n _ _ => n
def Ex.s : Ex -> ByteArray | .mk _ _ s _ => s
def Ex.l : Ex -> List Ex | .mk _ _ _ l => l
@[simp] theorem Ex.loadK (e : Ex) (n : Nat) : xHa n false e.cells = some (.int .i64 e.k) := by cases e; rw [Ex.cells_mk]; rfl
@[simp] theorem Ex.loadS (e : Ex) (n : Nat) : xHa n false (List.drop 2 e.cells) = some (.str e.s) := by cases e; rw [Ex.cells_mk]; rfl
@[simp] theorem Ex.dropL (e : Ex) : List.drop 3 e.cells = [.lst false 4 (e.l.map Ex.av)] := by cases e; rw [Ex.cells_mk]; rfl
theorem Ex.pre_eq (q : Int) (e : Ex) : e.pre q = one (e.k = q) e.s ++ Ex.pres q e.l := by cases e; rfl
theorem Ex.post_eq (q : Int) (e : Ex) : e.post q = Ex.posts q e.l ++ one (e.k = q) e.s := by cases e; rfl
theorem Ex.tot_l (e : Ex) : e.tot = e.s.size + zAa Ex.tot e.l := by cases e; rw [Ex.tot_mk]; rfl
theorem Ex.len_l (e : Ex) : e.l.length <= e.tot := by have := zua Ex.tot e.l; have := e.tot_l; omega
def Sm.k : Sm -> Int | .mk k _ _ _ _ _ _ => k
def Sm.s : Sm -> ByteArray | .mk _ s _ _ _ _ _ => s
def Sm.a : Sm -> Ex | .mk _ _ a _ _ _ _ => a
def Sm.e : Sm -> Ex | .mk _ _ _ e _ _ _ => e
def Sm.lo : Sm -> Ex | .mk _ _ _ _ lo _ _ => lo
def Sm.hi : Sm -> Ex | .mk _ _ _ _ _ hi _ => hi
def Sm.body : Sm -> List Sm | .mk _ _ _ _ _ _ b => b
@[simp] theorem Sm.loadK (e : Sm) (n : Nat) : xHa n false e.cells = some (.int .i64 e.k) := by cases e; rw [Sm.cells_mk]; rfl
@[simp] theorem Sm.loadS (e : Sm) (n : Nat) : xHa n false e.cells.tail = some (.str e.s) := by cases e; rw [Sm.cells_mk]; rfl
@[simp] theorem Sm.takeA (e : Sm) : List.take 4 (List.drop 2 e.cells) = e.a.cells := by cases e; rw [Sm.cells_mk]; simp [Sm.a]
@[simp] theorem Sm.takeE (e : Sm) : List.take 4 (List.drop 6 e.cells) = e.e.cells := by cases e; rw [Sm.cells_mk]; simp [Sm.e]
@[simp] theorem Sm.takeLo (e : Sm) : List.take 4 (List.drop 10 e.cells) = e.lo.cells := by cases e; rw [Sm.cells_mk]; simp [Sm.lo]
@[simp] theorem Sm.takeHi (e : Sm) : List.take 4 (List.drop 14 e.cells) = e.hi.cells := by cases e; rw [Sm.cells_mk]; simp [Sm.hi]
@[simp] theorem Sm.drop18 (e : Sm) : List.drop 18 e.cells = [.lst false 19 (e.body.map Sm.av)] := by cases e; rw [Sm.cells_mk]; simp [Sm.body]
theorem Sm.size_body (e : Sm) : e.size = 1 + zYa Sm.size e.body := by cases e; rw [Sm.size, Sm.sizes_eq]; rfl
theorem Sm.tot_parts (e : Sm) : e.tot = e.s.size + (e.a.tot + (e.e.tot + (e.lo.tot + (e.hi.tot + zAa Sm.tot e.body)))) := by cases e; rw [Sm.tot_mk]; rfl
theorem Sm.tot_body (e : Sm) : zAa Sm.tot e.body <= e.tot := by rw [e.tot_parts]; omega
theorem Sm.names_eq (q : Int) (e : Sm) : e.names q = one (e.k = q) e.s ++ Sm.namesL q e.body := by cases e; rfl
theorem Sm.exps_eq (f : Ex -> List ByteArray) (e : Sm) : e.exps f = f e.a ++ (f e.e ++ (f e.lo ++ (f e.hi ++ Sm.expsL f e.body))) := by cases e; rfl
theorem Sm.nest_eq (e : Sm) (ns : List ByteArray) : e.nest ns = (decide (e.k ≠ 3) || (!has ns e.s && Sm.nests e.body (ns ++ [e.s]))) := by cases e; rfl
theorem Sm.ind' {M : Sm -> Prop} (h : ∀ e, (∀ x ∈ e.body, M x) -> M e) (e : Sm) : M e := Sm.ind (M := M) (fun k s a e lo hi b hb => h (.mk k s a e lo hi b) hb) e
theorem Ex.ind' {M : Ex -> Prop} (h : ∀ e, (∀ x ∈ e.l, M x) -> M e) (e : Ex) : M e := Ex.ind (M := M) (fun k n s l hl => h (.mk k n s l) hl) e
theorem yEe : ∀ (x y : List UInt8), Op.bytesLess x y = decide (x < y)
 | [], [] => by simp [Op.bytesLess]
 | _ :: _, [] => by simp [Op.bytesLess]
 | [], _ :: _ => by simp [Op.bytesLess]
 | a :: x, b :: y => by
  rw [Op.bytesLess, yEe x y];simp only [List.cons_lt_cons_iff];by_cases h1 : a < b <;> by_cases h2 : a = b <;> by_cases h3 : x < y <;> simp [h1, h2, h3]
def toL (s : ByteArray) : List UInt8 := s.data.toList
def ofL (l : List UInt8) : ByteArray := ⟨l.toArray⟩
theorem z2d (s : ByteArray) : ofL (toL s) = s := rfl
theorem wUb (l : List UInt8) : toL (ofL l) = l := by simp [toL, ofL]
theorem zJc (s : ByteArray) : s.toList = toL s := Go.ByteArray.toList_eq s
theorem yFe (x y : ByteArray) : blt x y = decide (toL x < toL y) := by
 unfold blt;rw [zJc, zJc, yEe]
theorem z3d (zs : List (List UInt8)) : (zs.mergeSort fun x y => decide (x <= y)).Pairwise fun x y => x <= y := by
 have := List.pairwise_mergeSort (le := fun x y : List UInt8 => decide (x <= y)) (fun a b c h1 h2 => by simp only [decide_eq_true_eq] at *; exact List.le_trans h1 h2) (fun a b => by simp only [Bool.or_eq_true, decide_eq_true_eq]; exact List.le_total a b) zs;exact this.imp fun h => by simpa using h
theorem yYc (zs : List (List UInt8)) (h : zs.Pairwise fun x y => x <= y) : (Go.Lib.compact zs).Pairwise (fun x y => x < y) /\ ∀ x, x ∈ Go.Lib.compact zs <-> x ∈ zs := by
 unfold Go.Lib.compact Go.Lib.compactUpTo;have hget : ∀ j, j < zs.length -> zs.toArray[j]! = zs[j]! := fun j hj => by simp
 have hle : ∀ i j, i <= j -> j < zs.length -> zs[i]! <= zs[j]! := fun i j hij hj => by
  rw [getElem!_pos zs i (by omega), getElem!_pos zs j hj];rcases Nat.lt_or_eq_of_le hij with hlt | rfl
  ·exact List.pairwise_iff_getElem.1 h i j (by omega) hj hlt
  exact List.le_refl _
 refine ⟨?_, fun x => ?_⟩
 ·rw [List.pairwise_map];refine List.Pairwise.imp_of_mem ?_ (List.Pairwise.filter _ (List.pairwise_lt_range (n := zs.length)));intro a b ha hb hab;obtain ⟨ha1, ha2⟩ := List.mem_filter.1 ha;obtain ⟨hb1, hb2⟩ := List.mem_filter.1 hb;have hbl := List.mem_range.1 hb1;unfold Go.Lib.keeps at hb2;simp only [decide_eq_true_eq] at hb2;rcases hb2 with rfl | hb2
  ·omega
  rw [hget b hbl, hget (b - 1) (by omega)] at hb2;rw [hget a (by omega), hget b hbl];have h1 := hle a (b - 1) (by omega) (by omega);have h2 := hle (b - 1) b (by omega) hbl;have h3 : zs[b - 1]! < zs[b]! := by
   refine Classical.byContradiction fun hn => hb2 ?_;exact List.le_antisymm (List.not_lt.1 hn) h2
  refine Classical.byContradiction fun hn => ?_;have h4 := List.le_trans (List.not_lt.1 hn) h1;exact absurd h3 (List.not_lt.2 h4)
 simp only [List.mem_map, List.mem_filter, List.mem_range];constructor
 ·rintro ⟨j, ⟨hj, _⟩, rfl⟩;rw [hget j hj, getElem!_pos zs j hj];exact List.getElem_mem hj
 intro hx;obtain ⟨j, hj, rfl⟩ := List.getElem_of_mem hx;have key : ∀ j, j < zs.length -> ∃ a, (a < zs.length /\ Go.Lib.keeps zs.toArray a = true) /\ zs.toArray[a]! = zs[j]! := by
  intro j
  induction j with
  | zero => intro hj; exact ⟨0, ⟨hj, by simp [Go.Lib.keeps]⟩, hget 0 hj⟩
  | succ j ih =>
   intro hj;by_cases hk : Go.Lib.keeps zs.toArray (j + 1) = true
   ·exact ⟨j + 1, ⟨hj, hk⟩, hget _ hj⟩
   obtain ⟨a, ha, he⟩ := ih (by omega);refine ⟨a, ha, he.trans ?_⟩;unfold Go.Lib.keeps at hk;simp only [decide_eq_true_eq, not_or, Nat.add_one_sub_one] at hk;have := Classical.not_not.1 hk.2;rw [hget _ hj, hget _ (by omega)] at this;exact this.symm
 obtain ⟨a, ha, he⟩ := key j hj;exact ⟨a, ha, by rw [he, getElem!_pos zs j hj]⟩
theorem yZc (xs : List ByteArray) : (Go.Lib.compact ((xs.map toL).mergeSort fun x y => decide (x <= y))).map ofL = zCa xs := by
 obtain ⟨h1, h2⟩ := yYc _ (z3d (xs.map toL));refine yTc ?_ (wUa xs) fun x => ?_
 ·unfold Asc;rw [List.pairwise_map];refine h1.imp fun {a b} hab => ?_;rw [yFe, wUb, wUb];simpa using hab
 rw [wTa, List.mem_map];constructor
 ·rintro ⟨a, ha, rfl⟩;have := (List.mergeSort_perm (xs.map toL) _).mem_iff.1 ((h2 a).1 ha);obtain ⟨y, hy, rfl⟩ := List.mem_map.1 this
  rwa [z2d]
 intro hx;exact ⟨toL x, (h2 _).2 ((List.mergeSort_perm (xs.map toL) _).mem_iff.2 (List.mem_map_of_mem hx)), z2d x⟩
end Go.T
namespace Go.T
open Go Go.Sort Go.Proofs
section
variable {P : Program}
theorem zKc {w : World} {S : Nat -> Prop} : ∀ {xs : List ByteArray} {vs : List Value}, Reps w S (flat (xs.map .str)) vs -> vs = xs.map Value.string
 | [], vs, h => by cases h; rfl
 | x :: xs, vs, h => by
  simp only [List.map_cons, flat, List.flatMap_cons, AV.cells, List.cons_append, List.nil_append] at h;cases h with
  | cons h t =>
   cases h;rw [zKc (xs := xs) t];rfl
theorem y0b (w : World) (S : Nat -> Prop) : ∀ xs : List ByteArray, Reps w S (flat (xs.map .str)) (xs.map Value.string)
 | [] => .nil
 | x :: xs => by
  simp only [List.map_cons, flat, List.flatMap_cons, AV.cells, List.cons_append, List.nil_append];exact .cons (.str x) (y0b w S xs)
theorem z4d {w : World} {g : Nat} {vs us : List Value} {T : TypeId} {d : Array (List UInt8)} (hb : w.heap[g]? = some (.cells (vs ++ us).toArray T (0, 0))) (hl : d.size = vs.length) (q : Nat) (os : Array Obj) :
  (grow (putRow encStr (Sort.ahead w q) g 0 d) os).heap[g]? = some (.cells (d.toList.map encStr ++ us).toArray T (0, 0)) /\ (∀ b, b ≠ g -> b < w.heap.size -> (grow (putRow encStr (Sort.ahead w q) g 0 d) os).heap[b]? = w.heap[b]?) /\ Keep (fun b => b = g) w (grow (putRow encStr (Sort.ahead w q) g 0 d) os) := by
 have hg : g < w.heap.size := (Array.getElem?_eq_some_iff.1 hb).1;have hsz : (putRow encStr (Sort.ahead w q) g 0 d).heap.size = w.heap.size := by simp [putRow, mapBlock, Sort.ahead]
 have hne : ∀ b, b ≠ g -> b < w.heap.size -> (grow (putRow encStr (Sort.ahead w q) g 0 d) os).heap[b]? = w.heap[b]? := by
  intro b hbg hbs;rw [heap_grow_old _ _ (by rw [hsz]; exact hbs)];simp only [putRow, mapBlock, Sort.ahead, Array.getElem?_modify];rw [if_neg (fun h => hbg h.symm)]
 refine ⟨?_, hne, rfl, rfl, rfl, by rw [size_grow, hsz]; omega, fun b hb hn => hne b hn hb⟩;rw [heap_grow_old _ _ (by rw [hsz]; exact hg)];simp only [putRow, mapBlock, Sort.ahead, Array.getElem?_modify, if_true, hb, Option.map_some, onCells];congr 2;apply Array.ext_getElem?;intro k;simp only [putCells, Array.getElem?_mapIdx, List.getElem?_toArray];by_cases hk : k < d.size
 ·rw [List.getElem?_append_left (by omega), List.getElem?_append_left (by simp; omega)];rw [List.getElem?_eq_getElem (by omega)];simp [hk]
 rw [List.getElem?_append_right (by omega), List.getElem?_append_right (by simp; omega)];have h1 : ∀ x, (if 0 <= k /\ k < 0 + d.size then encStr d[k - 0]! else x) = x := fun x => if_neg (by omega)
 simp only [h1];simp [hl]
theorem zka.row {n : FuncId} (hB : y8a P n) {m : Mem} {g k c : Nat} {T : TypeId} {xs ys zs : List ByteArray} {r : AV} {u : Value} (hg : m g = some (.arr T 1 c (xs.map .str))) (hk : xs.length = k)
  (hlen : ys.length + zs.length = xs.length) (hr : ∀ w S, Rep w S r u)
  (hc : ∀ w, Holds encStr w g 0 (xs.map toL).toArray -> g < w.heap.size -> k <= c -> Calls P n #[.slice (some ⟨g, 0, none⟩) k c] w fun e w' => e = .returned u /\ ∃ q os, w' = grow (putRow encStr (Sort.ahead w q) g 0 ((ys ++ zs).map toL).toArray) os)
  {K : AV -> Mem -> Prop} (hK : K r (m.set g (.arr T 1 c (ys.map .str)))) : zka P n [.own g k c] m K := by
 refine ⟨hB, fun w S cargs hm hargs => ?_⟩;cases hargs with | @cons _ v _ vs hv ht =>
 cases ht;cases hv;obtain ⟨vs, us, hb, hreps, hl, he, hle⟩ := hm.blk g _ hg;have hvs := zKc hreps;subst hvs;have hgs : g < w.heap.size := (Array.getElem?_eq_some_iff.1 hb).1;have hle' : xs.length <= c := by simpa using hle
 have hH : Holds encStr w g 0 (xs.map toL).toArray := by
  intro j hj;simp at hj;constructor
  ·simp only [World.cell?, hb];simp [hj, encStr, toL];rw [List.getElem?_append_left (by simpa using hj), List.getElem?_map, List.getElem?_eq_getElem hj];rfl
  simp only [World.frozen?, hb];simp
 refine zma (hc w hH hgs (by omega)) ?_;rintro e w' ⟨he', q, os, hw'⟩;subst hw';have hsz : (((ys ++ zs).map toL).toArray).size = (xs.map Value.string).length := by simp; omega
 obtain ⟨h1, h2, h3⟩ := z4d hb hsz q os;have hnS : ∀ b, S b -> b ≠ g := fun b hb h => by rw [h] at hb; have := (hm.apart g hb).1; rw [hg] at this; cases this
 have hst : Stays S w (grow (putRow encStr (Sort.ahead w q) g 0 ((ys ++ zs).map toL).toArray) os) := fun b hb => h2 b (hnS b hb) (hm.apart b hb).2;refine ⟨u, r, _, S, he', hK, fun _ h => h, fun _ h => .inl h, ⟨fun g' b hb' => ?_, fun b hb' => ⟨?_, ?_⟩⟩, hr _ _, h3.mono (fun b h => by rw [h, hg]; simp), fun g' b hb' => ?_⟩
 ·rw [zia] at hb';by_cases hgg : g' = g
  ·subst hgg;rw [if_pos rfl] at hb';obtain rfl := Option.some.inj hb';refine ⟨ys.map Value.string, zs.map Value.string ++ us, ?_, y0b _ _ ys, ?_, fun x hx => ?_, ?_⟩
   ·rw [h1];congr 2;have e : ((ys ++ zs).map toL).toArray.toList.map encStr = ys.map Value.string ++ zs.map Value.string := by
     simp [encStr, toL, Function.comp_def]
    rw [e, List.append_assoc]
   ·simp at hl ⊢; omega
   ·obtain ⟨y, _, rfl⟩ := List.mem_map.1 hx; rfl
   simp; omega
  rw [if_neg hgg] at hb';exact (hm.blk g' b hb').mono hst (fun _ h => h) (h2 g' hgg (hm.blk g' b hb').lt)
 ·rw [zia, if_neg (hnS b hb')]; exact (hm.apart b hb').1
 ·have := (hm.apart b hb').2;exact Nat.lt_of_lt_of_le this h3.size
 rw [zia] at hb';by_cases hgg : g' = g
 ·subst hgg; exact .inl (by rw [hg]; simp)
 rw [if_neg hgg] at hb';exact .inl (by rw [hb']; simp)
theorem zca.same {n : FuncId} (hB : y8a P n) {a r : AV} (h : ∀ w S v, Rep w S a v -> ∃ u, Rep w S r u /\ Calls P n #[v] w fun e w' => e = .returned u /\ w' = w) : zca P n [a] r := by
 refine ⟨hB, fun w S cargs m hm hargs => ?_⟩;cases hargs with | @cons _ v _ vs hv ht =>
 cases ht;obtain ⟨u, hu, hc⟩ := h w S v hv;refine zma hc ?_;rintro e w' ⟨rfl, rfl⟩;exact ⟨u, S, rfl, fun _ h => h, fun _ h => .inl h, hm, hu, Keep.refl _ _⟩
end
end Go.T
namespace Go.T
open Go Go.Sort Go.Proofs Go.RowKit Go.ChangeShapes
theorem View.fB {m : Mem} {g : Nat} {cs : List AV} (hg : m g = some (.box cs)) : View m (.ptr g 0) (m.del g) (.ref cs) := fun w S v h1 h2 => by
 obtain ⟨T, vs, hb, hr⟩ := h1.blk g _ hg;have hSS : ∀ b, S b -> S b ∨ b = g := fun b hb => .inl hb;refine ⟨fun b => S b ∨ b = g, hSS, fun b hb => hb.imp id (fun h => by rw [h, hg]; simp), ⟨fun g' b' hg' => ?_, fun b hb' => ?_⟩, ?_, fun g' b' hg' => ?_⟩
 ·unfold Mem.del at hg';split at hg'
  ·cases hg'
  exact (h1.blk g' b' hg').mono (fun _ _ => rfl) hSS rfl
 ·rcases hb' with hb' | rfl
  ·refine ⟨?_, (h1.apart b hb').2⟩;unfold Mem.del;split
   ·rfl
   exact (h1.apart b hb').1
  exact ⟨by simp [Mem.del], (Array.getElem?_eq_some_iff.1 hb).1⟩
 ·cases h2;exact .ref g 0 (.inr rfl) (Cells.of_block hb (hr.mono (fun _ _ => rfl) hSS) 0 (fun i v hv => by simpa using hv))
 unfold Mem.del at hg';split at hg'
 ·cases hg'
 rw [hg']; simp
theorem AWp.gen {P : Program} {N : Nat} {c : Code} {Q : Exit -> St -> Prop} {s : St} (F : St -> Prop) (hF : F s) (h : ∀ s, F s -> AWp P N c Q s) : AWp P N c Q s := h s hF
def zNb (k : IntKind) (zs : List Int) : List AV := zs.map (.int k)
theorem zLc {w : World} {S : Nat -> Prop} {k : IntKind} : ∀ {zs : List Int} {vs : List Value}, Reps w S (zNb k zs) vs -> vs = zs.map (Value.int k)
 | [], vs, h => by cases h; rfl
 | x :: xs, vs, h => by
  unfold zNb at h;simp only [List.map_cons] at h;cases h with
  | cons h t =>
   cases h;rw [zLc (zs := xs) t];rfl
theorem zMc (w : World) (S : Nat -> Prop) (k : IntKind) : ∀ zs : List Int, Reps w S (zNb k zs) (zs.map (Value.int k))
 | [] => .nil
 | x :: xs => .cons (.int k x) (zMc w S k xs)
def yba (T : TypeId) : Blk := .arr T 1 20 (zNb .u64 Lib.pow10Tab)
theorem zfb (k : IntKind) : ∀ zs : List Int, flat (zNb k zs) = zNb k zs
 | [] => rfl
 | z :: zs => by
  have := zfb k zs;unfold flat zNb at *;simp only [List.map_cons, List.flatMap_cons, this];rfl
theorem wVb {w : World} {S : Nat -> Prop} {g : Nat} {T : TypeId} (h : ypa w S g (yba T)) : w.heap[g]? = some (.cells (Lib.pow10Tab.map (Value.int .u64)).toArray T (0, 0)) := by
 obtain ⟨vs, us, h1, h2, h3, h4, h5⟩ := h;rw [zfb] at h2;have := zLc h2;subst this;have hu : us = [] := by
  apply List.eq_nil_of_length_eq_zero;simp [Lib.pow10Tab_length] at h3;simpa using h3
 subst hu;rw [h1, List.append_nil]
theorem yGe {P : Program} {w : World} {S : Nat -> Prop} {m : Mem} {g : Nat} {T : TypeId} {name : String} (hg : P.globalNamed name = some g) (hm : zva w S m) (h : m g = some (yba T)) : Lib.TabIs P w name .u64 Lib.pow10Tab := by
 have h1 := wVb (hm.blk g _ h);unfold Lib.TabIs World.var?;rw [hg];simp only [Option.bind_some, h1]
theorem zge {P : Program} {f g : Nat} {T : TypeId} (hbod : y8a P f) (hg : P.globalNamed "internal/strconv.uint64pow10" = some g)
  (hc : ∀ (n : Int) (h0 : -9223372036854775808 <= n) (h1 : n <= 9223372036854775807) (w : World) (htab : Lib.TabIs P w "internal/strconv.uint64pow10" .u64 Lib.pow10Tab), Calls P f #[.int .i64 n] w fun e w' => e = .returned (.string ⟨(Lib.itoa n).toArray⟩) /\ ∃ k os, w' = grow (w.drewN k) os)
  (n : Int) (h0 : -9223372036854775808 <= n) (h1 : n <= 9223372036854775807) {m : Mem} (hm : m g = some (yba T)) {k : AV -> Mem -> Prop} (hk : k (.str ⟨(Lib.itoa n).toArray⟩) m) : zka P f [.int .i64 n] m k := by
 refine ⟨hbod, fun w S cargs hmr hr => ?_⟩;cases hr with
 | cons hx hnil =>
 cases hnil;cases hx;refine zma (hc n h0 h1 w (yGe hg hmr hm)) ?_;rintro e w' ⟨he, q, os, hw⟩;subst hw;have hsame : ∀ b, b < w.heap.size -> (grow (w.drewN q) os).heap[b]? = w.heap[b]? := fun b hb => heap_grow_old (w.drewN q) os hb;have hst : Stays S w (grow (w.drewN q) os) := fun b hb => hsame b (hmr.apart b hb).2;have hsz : w.heap.size <= (grow (w.drewN q) os).heap.size := by
  rw [size_grow];exact Nat.le_add_right _ _
 refine ⟨_, _, m, S, he, hk, fun _ h => h, fun _ h => .inl h, ⟨fun g b hb => (hmr.blk g b hb).mono hst (fun _ h => h) (hsame g (hmr.blk g b hb).lt), fun b hb => ⟨(hmr.apart b hb).1, Nat.lt_of_lt_of_le (hmr.apart b hb).2 hsz⟩⟩, .str _, ⟨rfl, rfl, rfl, hsz, fun b hb _ => hsame b hb⟩, fun g b hb => .inl (by rw [hb]; simp)⟩
def zgb (g : Nat) (T : TypeId) : Mem := fun k => if k = g then some (yba T) else none
def whb (W : World) (g : Nat) : Nat -> Prop := fun b => b < W.heap.size /\ b ≠ g
theorem zhe {P : Program} {W : World} {g : Nat} {t e : TypeId} {rest : List (String × DataW Unit)}
  (hg : P.globalNamed "internal/strconv.uint64pow10" = some g) (hty : (P.globals[g]?).map (·.type) = some t) (ht : P.underlying t = some (.array 20 e)) (he : P.underlying e = some (.int .u64)) (hce : P.cellsOf e = 1) (hct : P.cellsOf t = 20)
  (h : laidMet P (("internal/strconv.uint64pow10", Lib.tabData .u64 Lib.pow10Tab) :: rest) W) (S : Nat -> Prop) : ∃ T, ypa W S g (yba T) := by
 have htab : Lib.TabIs P W "internal/strconv.uint64pow10" .u64 Lib.pow10Tab := Lib.tabIs_of_head hg hty ht he hce hct h;obtain ⟨ps, ⟨g', t', cs, fuel, p, q, hg', ht', hvar, hd, hq, rfl⟩, hnd, hrows⟩ := h;obtain rfl := Option.some.inj (hg.symm.trans hg');have hcs : cs = (Lib.pow10Tab.map (Value.int .u64)).toArray := Option.some.inj (hvar.symm.trans htab);obtain ⟨⟨c, T, hb⟩, _⟩ := hrows g 0 (by
  rw [hcs];refine List.mem_append_left _ (List.mem_append_left _ ?_);simp [MemPlace.row, Lib.pow10Tab_length])
 unfold Lib.TabIs World.var? at htab;rw [hg] at htab;simp only [Option.bind_some, hb] at htab;obtain rfl := Option.some.inj htab;refine ⟨T, Lib.pow10Tab.map (Value.int .u64), [], ?_, ?_, by simp [Lib.pow10Tab_length], fun x hx => ?_, by simp [zNb, Lib.pow10Tab_length]⟩
 ·rw [List.append_nil];exact hb
 ·rw [zfb];exact zMc _ _ _ _
 obtain ⟨z, _, rfl⟩ := List.mem_map.1 hx;rfl
theorem zNc {P : Program} {W : World} {n g : Nat} {T : TypeId} {args : List AV} {cargs : Array Value} (hb : ypa W (whb W g) g (yba T)) (h : zka P n args (zgb g T) fun r m' => r = .bool true /\ m' g = some (yba T)) (hr : Reps W (whb W g) args cargs.toList) : Calls P n cargs W fun e W' => e = .returned (.bool true) /\ Below W.heap.size W W' := by
 have hm : zva W (whb W g) (zgb g T) := by
  refine ⟨fun k b h => ?_, fun b hb => ⟨by simp [zgb, hb.2], hb.1⟩⟩;unfold zgb at h;by_cases e : k = g
  ·rw [if_pos e] at h;obtain rfl := Option.some.inj h;rw [e]; exact hb
  rw [if_neg e] at h; cases h
 have := h.2 W (whb W g) cargs.toList hm hr;rw [Array.toArray_toList] at this;refine zma this ?_;rintro e W' ⟨v, r, m', S', he, ⟨rfl, htb⟩, h1, h2, h3, h4, h5, h6⟩;subst he;cases h4;refine ⟨rfl, ⟨h5.os, h5.tape, h5.output, h5.size, fun k hk => ?_⟩⟩;by_cases hkg : k = g
 ·rw [hkg, wVb hb, wVb (h3.blk _ _ htb)]
 exact h5.block k hk (by simp [zgb, hkg])
end Go.T
namespace Go.T
open Go Go.Proofs
def dig (a : Nat) : List UInt8 := if a = 0 then [] else Lib.decDigits a
theorem xMc {a : Nat} (h : a ≠ 0) : dig a = dig (a / 10) ++ [UInt8.ofNat (48 + a % 10)] := by
 unfold dig;rw [if_neg h];by_cases h10 : a < 10
 ·have e1 : a / 10 = 0 := by omega
  have e2 : a % 10 = a := by omega
  rw [e1, e2, if_pos rfl, Lib.decDigits, dif_pos h10];rfl
 rw [if_neg (by omega), Lib.decDigits, dif_neg h10]
theorem z5d : ∀ (k a : Nat), a < 10 ^ k -> (dig a).length <= k
 | 0, a, h => by
  have : a = 0 := by simpa using h
  simp [dig, this]
 | k + 1, a, h => by
  by_cases ha : a = 0
  ·simp [dig, ha]
  rw [xMc ha];have := z5d k (a / 10) (by rw [Nat.pow_succ] at h; omega);simp;omega
def xNc (n : Int) : ByteArray := ⟨(Lib.itoa n).toArray⟩
theorem z6d : Lib.itoa 0 = [48] := by
 unfold Lib.itoa;rw [if_neg (by omega)];show Lib.decDigits 0 = _;rw [Lib.decDigits, dif_pos (by omega)];rfl
theorem xLd {n : Int} (h : n < 0) : Lib.itoa n = 45 :: dig n.natAbs := by
 unfold Lib.itoa dig;rw [if_pos h, if_neg (by omega)]
theorem xMd {n : Int} (h : 0 < n) : Lib.itoa n = dig n.natAbs := by
 unfold Lib.itoa dig;rw [if_neg (by omega), if_neg (by omega)];congr 1;omega
theorem xOc {n : Int} (h0 : -9223372036854775808 <= n) (h1 : n <= 9223372036854775807) : (dig n.natAbs).length <= 19 := z5d 19 _ (by
 have : n.natAbs <= 9223372036854775808 := by omega
 exact Nat.lt_of_le_of_lt this (by decide))
theorem z7d (d : Nat) (h : d < 10) : yKb [48 + (d : Int)] = ⟨#[UInt8.ofNat (48 + d)]⟩ := by
 have : (48 + (d : Int)).toNat = 48 + d := by omega
 simp only [yKb, List.foldl_cons, List.foldl_nil, this];rfl
theorem zOc (a b : List UInt8) : (⟨a.toArray⟩ : ByteArray) ++ (⟨b.toArray⟩ : ByteArray) = ⟨(a ++ b).toArray⟩ := by
 apply ByteArray.ext;simp [ByteArray.data_append]
theorem wVe (a b : List UInt8) : (⟨a.toArray⟩ : ByteArray) ++ (⟨b.toArray⟩ : ByteArray) = ⟨(a ++ b).toArray⟩ := zOc a b
theorem zUa (a : List UInt8) : (⟨a.toArray⟩ : ByteArray).size = a.length := by simp [ByteArray.size]
theorem yHe (v : Int) : (v.tdiv 10).natAbs = v.natAbs / 10 := Int.natAbs_tdiv v 10
theorem yIe (v : Int) : (v.tmod 10).natAbs = v.natAbs % 10 := Int.natAbs_tmod v 10
theorem wAd (a b : ByteArray) : yia .add (.str a) (.str b) = if a.size + b.size <= 9223372036854775807 then some (.str (a ++ b)) else none := rfl
end Go.T
