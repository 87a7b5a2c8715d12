/- Structs and slices that are built; all operations that read, in one. -/
import Derived.Test.YtkheogobahhbpaaT4
namespace Go.T
open Go
set_option linter.unusedSimpArgs false
set_option linter.unusedVariables false
section
variable {P : Program} {w : World} {S : Nat → Prop} {m : Mem}

/-- Cells put into their places. -/
def fillA (place : Nat → Option (Nat × Nat)) (cells : List AV) : List (Nat × AV) → Option (List AV)
  | [] => some cells
  | (i, v) :: rest => match place i with
    | none => none
    | some (off, size) => match v with
      | .undef => none
      | v => if v.cells.length = size then (if off + size ≤ cells.length then fillA place (cells.take off ++ v.cells ++ cells.drop (off + size)) rest else none) else none

theorem foldl_set (l : List Value) : ∀ (off k : Nat) (cs : Array Value), off + k + l.length ≤ cs.size →
    ((l.zipIdx k).foldl (fun cs (x : Value × Nat) => cs.setIfInBounds (off + x.2) x.1) cs).toList = cs.toList.take (off + k) ++ l ++ cs.toList.drop (off + k + l.length) := by
  induction l with
  | nil => intro off k cs h; simp
  | cons v l ih =>
    intro off k cs h
    simp only [List.zipIdx_cons, List.foldl_cons]
    rw [ih off (k + 1) _ (by simp at h ⊢; omega)]
    simp only [Array.toList_setIfInBounds, List.length_cons] at *
    have h1 : off + k < cs.toList.length := by simp; omega
    have h2 : (cs.toList.set (off + k) v).take (off + (k + 1)) = cs.toList.take (off + k) ++ [v] := by
      rw [← Nat.add_assoc, List.take_add_one, List.take_set_of_le (by omega)]
      congr 1
      simp [h1, List.getElem?_set]
      simpa using h1
    have h3 : (cs.toList.set (off + k) v).drop (off + (k + 1) + l.length) = cs.toList.drop (off + k + (l.length + 1)) := by
      rw [List.drop_set_of_lt (by omega)]; congr 1; omega
    rw [h2, h3]; simp
theorem fill_sound (place : Nat → Option (Nat × Nat)) : ∀ (parts : List (Nat × AV)) (vparts : List (Nat × Value)) (cells : List AV) (vcells : List Value) (out : List AV), Reps w S cells vcells →
    (parts.length = vparts.length ∧ ∀ (j i : Nat) (a : AV), parts[j]? = some (i, a) → ∃ v, vparts[j]? = some (i, v) ∧ Rep w S a v) → fillA place cells parts = some out →
    ∃ vout : List Value, Instr.fill place vcells.toArray vparts = some vout.toArray ∧ Reps w S out vout := by
  intro parts
  induction parts with
  | nil =>
    intro vparts cells vcells out hc hp h
    have : vparts = [] := List.eq_nil_of_length_eq_zero (by simpa using hp.1.symm)
    subst this
    simp only [fillA, Option.some.injEq] at h
    subst h
    exact ⟨vcells, rfl, hc⟩
  | cons p parts ih =>
    intro vparts cells vcells out hc hp h
    obtain ⟨i, a⟩ := p
    cases vparts with
    | nil => simp at hp
    | cons q vparts =>
      obtain ⟨v, hv, ha⟩ := hp.2 0 i a rfl
      simp only [List.getElem?_cons_zero, Option.some.injEq] at hv
      subst hv
      simp only [fillA] at h
      split at h
      · cases h
      · rename_i off size hpl
        split at h
        · cases h
        · rename_i hund
          split at h
          · rename_i hsz
            split at h
            · rename_i hoff
              have hcl := ha.cells hund
              have hvl : v.cells.size = size := by have := hcl.length; simp at this; omega
              have hlen := hc.length
              have hr : Reps w S (cells.take off ++ a.cells ++ cells.drop (off + size)) (vcells.take off ++ v.cells.toList ++ vcells.drop (off + size)) := ((hc.take off).append hcl).append (hc.drop _)
              obtain ⟨vout, h1, h2⟩ := ih vparts _ _ out hr ⟨by have := hp.1; simpa using this, fun j i' a' hj => by have := hp.2 (j + 1) i' a' (by simpa using hj); simpa using this⟩ h
              refine ⟨vout, ?_, h2⟩
              simp only [Instr.fill, hpl]
              rw [if_neg (by simp; omega)]
              have hf := foldl_set v.cells.toList off 0 vcells.toArray (by simp; omega)
              have he : (v.cells.zipIdx.foldl (fun cs (x : Value × Nat) => cs.setIfInBounds (off + x.2) x.1) vcells.toArray) = (vcells.take off ++ v.cells.toList ++ vcells.drop (off + size)).toArray := by
                apply Array.ext'
                rw [← Array.foldl_toList, Array.toList_zipIdx, hf]
                simp [hvl]
              exact (congrArg (fun z => Instr.fill place z vparts) he).trans h1
            · cases h
          · cases h

def placesT (P : Program) (T : TypeId) : Option (List (Nat × Nat)) :=
  match P.underlying T with
  | some (.struct fs) => fs.toList.mapM fun f => (szT P f.type).map fun n => (f.offset, n)
  | some (.array n e) => (szT P e).map fun k => (List.range n).map fun i => (i * k, k)
  | _ => none
def zeroT (P : Program) (T : TypeId) : Option AV := match P.info? T with | some i => i.zero.map constA | none => none
def buildA (P : Program) (T : TypeId) (parts : List (Nat × AV)) : Option AV :=
  match placesT P T, zeroT P T with
  | some pl, some z => match z with
    | .undef => none
    | z => (fillA (fun i => pl[i]?) z.cells parts).map .agg
  | _, _ => none
theorem mapM_run {α β : Type} (f : α → Sem β) (g : α → Option β) (hf : ∀ a b, g a = some b → (f a).run P w = .ok b w) : ∀ (l : List α) (r : List β), l.mapM g = some r → (l.mapM f).run P w = .ok r w
  | [], r, h => by simp at h; subst h; rfl
  | a :: l, r, h => by
    rw [List.mapM_cons] at h ⊢
    cases ha : g a with
    | none => rw [ha] at h; cases h
    | some b =>
      rw [ha] at h
      cases hl : l.mapM g with
      | none => rw [hl] at h; cases h
      | some bs =>
        rw [hl] at h
        simp at h
        subst h
        rw [run_ok (hf a b ha), run_ok (mapM_run f g hf l bs hl)]
        rfl
theorem zeroT_some {T : TypeId} {z : AV} (h : zeroT P T = some z) : ∃ v, (zeroValue T).run P w = .ok v w ∧ Rep w S z v := by
  unfold zeroT at h
  split at h
  · rename_i i hi
    cases hz : i.zero with
    | none => rw [hz] at h; cases h
    | some v =>
      rw [hz] at h
      simp only [Option.map_some, Option.some.injEq] at h
      subst h
      refine ⟨v, ?_, constA_rep w S v⟩
      simp [zeroValue, run_tinfo hi, hz]
  · cases h
theorem fillA_mono {p p' : Nat → Option (Nat × Nat)} (h : ∀ i x, p i = some x → p' i = some x) : ∀ (parts : List (Nat × AV)) (cells out : List AV), fillA p cells parts = some out → fillA p' cells parts = some out
  | [], cells, out, hf => hf
  | (i, v) :: rest, cells, out, hf => by
    simp only [fillA] at hf ⊢
    cases hp : p i with
    | none => rw [hp] at hf; cases hf
    | some x =>
      obtain ⟨off, size⟩ := x
      rw [hp] at hf
      rw [h i _ hp]
      simp only at hf ⊢
      cases v with
      | undef => cases hf
      | _ =>
        simp only at hf ⊢
        split at hf
        · rename_i h1
          rw [if_pos h1]
          split at hf
          · rename_i h2
            rw [if_pos h2]
            exact fillA_mono h rest _ _ hf
          · cases hf
        · cases hf
theorem buildA_sound {T : TypeId} {parts : List (Nat × AV)} {vparts : Array (Nat × Value)} {v : AV} (hp : parts.length = vparts.size ∧ ∀ (j i : Nat) (a : AV), parts[j]? = some (i, a) → ∃ v, vparts.toList[j]? = some (i, v) ∧ Rep w S a v) (h : buildA P T parts = some v) :
    ∃ u, (Instr.build T vparts).run P w = .ok u w ∧ Rep w S v u := by
  unfold buildA at h
  split at h
  · rename_i pl z h1 h2
    split at h
    · cases h
    · rename_i hund
      obtain ⟨zv, hz, hzr⟩ := zeroT_some (w := w) (S := S) h2
      cases hf : fillA (fun i => pl[i]?) z.cells parts with
      | none => rw [hf] at h; cases h
      | some out =>
        rw [hf] at h
        simp only [Option.map_some, Option.some.injEq] at h
        subst h
        unfold placesT at h1
        split at h1
        · rename_i fs hu
          obtain ⟨vout, e1, e2⟩ := fill_sound (w := w) (S := S) (fun i => pl[i]?) parts vparts.toList z.cells zv.cells.toList out (hzr.cells hund) ⟨by simpa using hp.1, hp.2⟩ hf
          have hm := mapM_run (P := P) (w := w) (fun f : Field => do pure (f.offset, ← sizeOf f.type)) (fun f => (szT P f.type).map fun n => (f.offset, n)) (fun f b hb => by
            cases hs : szT P f.type with
            | none => rw [hs] at hb; cases hb
            | some n => rw [hs] at hb; simp at hb; subst hb; simp [run_szOf hs]) fs.toList pl h1
          refine ⟨.agg vout.toArray, ?_, .agg e2⟩
          unfold Instr.build
          simp only [map_eq_pure_bind, Sem.run_bind, hz, Result.andThen_ok, run_under hu, Sem.run_pure]
          rw [← Array.toArray_toList (xs := fs), List.mapM_toArray]
          simp only [Sem.run_map, hm, Result.andThen_ok]
          have e3 : Instr.fill (fun i => pl[i]?) zv.cells vparts.toList = some vout.toArray := by simpa using e1
          simp [e3]
        · rename_i n e hu
          obtain ⟨k, hk, rfl⟩ := Option.map_eq_some_iff.1 h1
          have hf2 := fillA_mono (p' := fun i => some (i * k, k)) (fun i x hx => by
            obtain ⟨h1, h2⟩ := List.getElem?_eq_some_iff.1 hx
            simp at h2
            rw [← h2]) parts z.cells out hf
          obtain ⟨vout, e1, e2⟩ := fill_sound (w := w) (S := S) (fun i => some (i * k, k)) parts vparts.toList z.cells zv.cells.toList out (hzr.cells hund) ⟨by simpa using hp.1, hp.2⟩ hf2
          refine ⟨.agg vout.toArray, ?_, .agg e2⟩
          unfold Instr.build
          simp only [map_eq_pure_bind, Sem.run_bind, hz, Result.andThen_ok, run_under hu, Sem.run_pure, run_szOf hk]
          have e3 : Instr.fill (fun i => some (i * k, k)) zv.cells vparts.toList = some vout.toArray := by simpa using e1
          simp [e3]
        · cases h1
  · cases h

/-- The outcome of an operation that only reads. -/
def outR (P : Program) (m : Mem) (ev : Operand → AV) : Op → Option AV
  | .move x | .assign x => some (ev x)
  | .pick c a b => match ev c with | .bool t => some (if t then ev a else ev b) | _ => none
  | .binOp op T x y _ => match binA op (ev x) (ev y) with | some v => some v | none => eqO P op T (ev x) (ev y)
  | .unOp op _ x => unA op (ev x)
  | .convert src dst x => convA P src dst (ev x)
  | .nilCheck x => match ev x with
    | .ptr g o => some (.ptr g o)
    | .ref cs => some (.ref cs)
    | .elt g e i o => some (.elt g e i o)
    | .func (.func f) cs => some (.func (.func f) cs)
    | _ => none
  | .fieldAddr T x f => faddrA P T f (ev x)
  | .field T x f => fieldA P T f (ev x)
  | .load T a => loadA P m T (ev a)
  | .indexAddr T x i => idxA P m T (ev x) (ev i)
  | .index T x i => sidxA P T (ev x) (ev i)
  | .slice T x lo hi none => sliceA P T (ev x) (lo.map ev) (hi.map ev)
  | .extract t i => match ev t with | .tup vs => vs[i]? | _ => none
  | .makeFunc fn first caps => if first.size = 0 then some (.func fn (caps.toList.map ev)) else none
  | .build T parts => buildA P T (parts.toList.map fun p => (p.1, ev p.2))
  | .call c => match c.callee with
    | .builtin .len => match c.args.toList with | [x] => lenA P c.argTypes[0]? (ev x) | _ => none
    | .builtin .max => match c.args.toList with | x :: l => foldA max2A (ev x) (l.map ev) | [] => none
    | .builtin .min => match c.args.toList with | x :: l => foldA min2A (ev x) (l.map ev) | [] => none
    | _ => none
  | _ => none

theorem max2_sound {a b v : AV} {x y : Value} (ha : Rep w S a x) (hb : Rep w S b y) (h : max2A a b = some v) : ∃ u, (Builtin.max2 x y).run P w = .ok u w ∧ Rep w S v u := by
  unfold max2A at h
  split at h
  · cases ha; cases hb
    obtain rfl := Option.some.inj h
    exact ⟨_, rfl, .int _ _⟩
  · cases h
theorem min2_sound {a b v : AV} {x y : Value} (ha : Rep w S a x) (hb : Rep w S b y) (h : min2A a b = some v) : ∃ u, (Builtin.min2 x y).run P w = .ok u w ∧ Rep w S v u := by
  unfold min2A at h
  split at h
  · cases ha; cases hb
    obtain rfl := Option.some.inj h
    exact ⟨_, rfl, .int _ _⟩
  · cases h
theorem foldA_sound {f : AV → AV → Option AV} {F : Value → Value → Sem Value} (hf : ∀ a b v x y, Rep w S a x → Rep w S b y → f a b = some v → ∃ u, (F x y).run P w = .ok u w ∧ Rep w S v u) :
    ∀ (l : List AV) (xs : List Value) (a v : AV) (x : Value), Reps w S l xs → Rep w S a x → foldA f a l = some v → ∃ u, (xs.foldlM F x).run P w = .ok u w ∧ Rep w S v u
  | [], xs, a, v, x, hl, ha, h => by
    cases hl
    obtain rfl := Option.some.inj h
    exact ⟨x, rfl, ha⟩
  | b :: l, xs, a, v, x, hl, ha, h => by
    cases hl with
    | cons hb hl =>
      simp only [foldA] at h
      split at h
      · rename_i z hz
        obtain ⟨u, h1, h2⟩ := hf _ _ _ _ _ ha hb hz
        obtain ⟨u', h3, h4⟩ := foldA_sound hf l _ z v u hl h2 h
        refine ⟨u', ?_, h4⟩
        rw [List.foldlM_cons, run_ok h1]; exact h3
      · cases h
theorem reps_map (ev : Operand → AV) (ρ : Operand → Value) (hev : ∀ x, Rep w S (ev x) (ρ x)) : ∀ l : List Operand, Reps w S (l.map ev) (l.map ρ)
  | [] => .nil
  | x :: l => .cons (hev x) (reps_map ev ρ hev l)
theorem opt_map (ev : Operand → AV) (ρ : Operand → Value) (hev : ∀ x, Rep w S (ev x) (ρ x)) (o : Option Operand) : optRep w S (o.map ev) (o.map ρ) := by
  cases o with
  | none => trivial
  | some x => exact hev x

theorem run_v {x : Sem Value} {u : Value} {w' : World} (h : x.run P w = .ok u w') : ((do pure (.value (← x))) : Sem Next).run P w = .ok (.value u) w' := by
  rw [run_ok h]; rfl

theorem outR_sound (hm : MemRep w S m) {ev : Operand → AV} {ρ : Operand → Value} (hev : ∀ x, Rep w S (ev x) (ρ x)) (o : Oper) {v : AV} (h : outR P m ev o.op = some v) :
    ∃ u, (execOp ρ o).run P w = .ok (.value u) w ∧ Rep w S v u := by
  unfold execOp
  cases hop : o.op with
  | move x => rw [hop] at h; obtain rfl := Option.some.inj h; exact ⟨_, rfl, hev x⟩
  | assign x => rw [hop] at h; obtain rfl := Option.some.inj h; exact ⟨_, rfl, hev x⟩
  | pick c a b =>
    rw [hop] at h
    simp only [outR] at h
    have hc := hev c
    split at h
    · rename_i t ht
      rw [ht] at hc
      generalize hx : ρ c = x at hc
      cases hc
      obtain rfl := Option.some.inj h
      cases t
      · exact ⟨ρ b, by simp [hx, asBool], hev b⟩
      · exact ⟨ρ a, by simp [hx, asBool], hev a⟩
    · cases h
  | binOp op T x y ty =>
    rw [hop] at h
    simp only [outR] at h
    split at h
    · rename_i v' hv
      obtain rfl := Option.some.inj h
      obtain ⟨u, h1, h2⟩ := binA_sound (P := P) (T := T) x y (hev x) (hev y) hv
      exact ⟨u, run_v h1, h2⟩
    · obtain ⟨u, h1, h2⟩ := eqO_sound (P := P) (T := T) x y (hev x) (hev y) h
      exact ⟨u, run_v h1, h2⟩
  | unOp op T x =>
    rw [hop] at h
    obtain ⟨u, h1, h2⟩ := unA_sound (P := P) (hev x) h
    exact ⟨u, run_v h1, h2⟩
  | convert src dst x =>
    rw [hop] at h
    obtain ⟨u, h1, h2⟩ := convA_sound (P := P) (hev x) h
    exact ⟨u, run_v h1, h2⟩
  | nilCheck x =>
    rw [hop] at h
    simp only [outR] at h
    have hc := hev x
    split at h
    · rename_i g o' ht
      rw [ht] at hc
      generalize hx : ρ x = y at hc
      cases hc
      obtain rfl := Option.some.inj h
      exact ⟨_, by simp [hx], .ptr _ _⟩
    · rename_i cs ht
      rw [ht] at hc
      generalize hx : ρ x = y at hc
      cases hc with
      | ref b o' h1 h2 =>
        obtain rfl := Option.some.inj h
        exact ⟨_, by simp [hx], .ref _ _ h1 h2⟩
    · rename_i g e i o' ht
      rw [ht] at hc
      generalize hx : ρ x = y at hc
      cases hc
      obtain rfl := Option.some.inj h
      exact ⟨_, by simp [hx], .elt _ _ _ _⟩
    · rename_i f cs ht
      rw [ht] at hc
      generalize hx : ρ x = y at hc
      cases hc with
      | func fn hr =>
        obtain rfl := Option.some.inj h
        exact ⟨_, by simp [hx], .func _ hr⟩
    · cases h
  | fieldAddr T x f =>
    rw [hop] at h
    obtain ⟨u, h1, h2⟩ := faddrA_sound (P := P) (hev x) h
    exact ⟨u, run_v h1, h2⟩
  | field T x f =>
    rw [hop] at h
    obtain ⟨u, h1, h2⟩ := fieldA_sound (P := P) (hev x) h
    exact ⟨u, run_v h1, h2⟩
  | load T a =>
    rw [hop] at h
    obtain ⟨u, h1, h2⟩ := loadA_sound (P := P) hm (hev a) h
    exact ⟨u, run_v h1, h2⟩
  | indexAddr T x i =>
    rw [hop] at h
    obtain ⟨u, h1, h2⟩ := idxA_sound (P := P) hm (hev x) (hev i) h
    exact ⟨u, run_v h1, h2⟩
  | index T x i =>
    rw [hop] at h
    obtain ⟨u, h1, h2⟩ := sidxA_sound (P := P) (hev x) (hev i) h
    exact ⟨u, run_v h1, h2⟩
  | slice T x lo hi mx =>
    rw [hop] at h
    cases mx with
    | some _ => cases h
    | none =>
      obtain ⟨u, h1, h2⟩ := sliceA_sound (P := P) (hev x) (opt_map ev ρ hev lo) (opt_map ev ρ hev hi) h
      exact ⟨u, run_v h1, h2⟩
  | extract t i =>
    rw [hop] at h
    simp only [outR] at h
    have hc := hev t
    split at h
    · rename_i vs ht
      rw [ht] at hc
      generalize hx : ρ t = y at hc
      cases hc with
      | tup hr =>
        obtain ⟨u, h1, h2⟩ := hr.get i v h
        exact ⟨u, by simp [hx, Instr.extract, h1], h2⟩
    · cases h
  | makeFunc fn first caps =>
    rw [hop] at h
    simp only [outR] at h
    split at h
    · rename_i hf
      obtain rfl := Option.some.inj h
      obtain rfl : first = #[] := Array.size_eq_zero_iff.1 hf
      have e : caps.map ρ = (caps.toList.map ρ).toArray := by apply Array.ext'; simp
      refine ⟨.func fn #[] (caps.map ρ), by simp [Instr.makeFunc], ?_⟩
      rw [e]
      exact Rep.func fn (reps_map ev ρ hev caps.toList)
    · cases h
  | build T parts =>
    rw [hop] at h
    obtain ⟨u, h1, h2⟩ := buildA_sound (P := P) (w := w) (S := S) (vparts := parts.map fun (i, x) => (i, ρ x)) ⟨by simp, fun j i a hj => by
      simp only [List.getElem?_map] at hj
      cases hq : parts.toList[j]? with
      | none => rw [hq] at hj; cases hj
      | some q =>
        rw [hq] at hj
        simp at hj
        obtain ⟨rfl, rfl⟩ := hj
        exact ⟨ρ q.2, by simp at hq; simp [hq], hev _⟩⟩ h
    exact ⟨u, run_v h1, h2⟩
  | call c =>
    rw [hop] at h
    simp only [outR] at h
    cases hcal : c.callee with
    | builtin b =>
      rw [hcal] at h
      cases b with
      | len =>
        simp only at h
        split at h
        · rename_i x hx
          obtain ⟨u, h1, h2⟩ := lenA_sound (P := P) (ty := o.type) (ts := c.argTypes) rfl (hev x) h
          refine ⟨u, ?_, h2⟩
          have hargs : c.args.map ρ = #[ρ x] := by apply Array.ext'; simp [hx]
          simp [resolve, hcal, invoke, builtin, hargs, h1]
        · cases h
      | max =>
        simp only at h
        split at h
        · rename_i x l hx
          obtain ⟨u, h1, h2⟩ := foldA_sound (P := P) (fun a b v x y ha hb hv => max2_sound (P := P) ha hb hv) _ _ _ _ _ (reps_map ev ρ hev l) (hev x) h
          refine ⟨u, ?_, h2⟩
          have hargs : (c.args.map ρ).toList = ρ x :: l.map ρ := by simp [hx]
          have h3 : (Builtin.max_ c.argTypes o.type (c.args.map ρ)).run P w = .ok u w := by unfold Builtin.max_; rw [hargs]; exact h1
          simp [resolve, hcal, invoke, builtin, h3]
        · cases h
      | min =>
        simp only at h
        split at h
        · rename_i x l hx
          obtain ⟨u, h1, h2⟩ := foldA_sound (P := P) (fun a b v x y ha hb hv => min2_sound (P := P) ha hb hv) _ _ _ _ _ (reps_map ev ρ hev l) (hev x) h
          refine ⟨u, ?_, h2⟩
          have hargs : (c.args.map ρ).toList = ρ x :: l.map ρ := by simp [hx]
          have h3 : (Builtin.min_ c.argTypes o.type (c.args.map ρ)).run P w = .ok u w := by unfold Builtin.min_; rw [hargs]; exact h1
          simp [resolve, hcal, invoke, builtin, h3]
        · cases h
      | _ => cases h
    | value f => rw [hcal] at h; cases h
    | invoke r n => rw [hcal] at h; cases h
  | _ => rw [hop] at h; cases h
end
end Go.T
