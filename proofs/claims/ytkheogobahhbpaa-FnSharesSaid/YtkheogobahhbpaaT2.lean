/- The outcome of an operation that only reads, on trees; and that the model's operation comes to it. -/
import Derived.Test.YtkheogobahhbpaaT1
namespace Go.T
open Go

def scalarA : Value → AV
  | .int k n => .int k n
  | .bool b => .bool b
  | .string s => .str s
  | .slice none 0 0 => .lst true 0 []
  | .pointer none => .nilp
  | _ => .undef
def constA : Value → AV
  | .agg cs => .agg (cs.toList.map scalarA)
  | v => scalarA v

structure St where
  slots : Nat → AV
  mem : Mem

def St.eval (s : St) : Operand → AV
  | .tmp t => s.slots t
  | .const v => constA v
  | .func f => .func (.func f) []
  | .global _ => .undef

theorem scalarA_rep (w : World) (S : Nat → Prop) (v : Value) : Rep w S (scalarA v) v := by
  unfold scalarA
  split <;> first | exact .int _ _ | exact .bool _ | exact .str _ | exact .lnil _ _ _ _ (fun _ => rfl) | exact .nilp | exact .undef _
theorem scalarA_reps (w : World) (S : Nat → Prop) (l : List Value) : Reps w S (l.map scalarA) l := by
  induction l with
  | nil => exact .nil
  | cons v l ih => exact .cons (scalarA_rep w S v) ih
theorem constA_rep (w : World) (S : Nat → Prop) (v : Value) : Rep w S (constA v) v := by
  unfold constA
  split
  · rename_i cs; simpa using Rep.agg (scalarA_reps w S cs.toList)
  · exact scalarA_rep w S _

def aggT (P : Program) (t : TypeId) : Option Bool := (P.underlying t).map fun | .struct _ | .array .. => true | _ => false
def szT (P : Program) (t : TypeId) : Option Nat := (P.info? t).map (·.size)
def elemT (P : Program) (t : TypeId) : Option TypeId := match P.underlying t with | some (.slice e) => some e | _ => none
/-- A field: its place, its size, is it a struct or an array. -/
def fieldT (P : Program) (t : TypeId) (f : Nat) : Option (Nat × Nat × Bool) :=
  match P.underlying t with
  | some (.struct fs) => match fs[f]? with
    | some fl => match szT P fl.type, aggT P fl.type with
      | some n, some b => some (fl.offset, n, b)
      | _, _ => none
    | none => none
  | _ => none
/-- A type's size, is it a struct or an array. -/
def loadT (P : Program) (t : TypeId) : Option (Nat × Bool) := match szT P t, aggT P t with | some n, some b => some (n, b) | _, _ => none

def loadC (n : Nat) (b : Bool) (cs : List AV) : Option AV := if b then (if n ≤ cs.length then some (.agg (cs.take n)) else none) else cs[0]?

section run
variable {P : Program} {w : World} {S : Nat → Prop}
theorem run_ok {α β : Type} {x : Sem α} {f : α → Sem β} {w w' : World} {a : α} (h : x.run P w = .ok a w') : (x >>= f).run P w = (f a).run P w' := by rw [Sem.run_bind, h]; rfl
theorem run_under {t : TypeId} {d : TypeDesc} (h : P.underlying t = some d) (w : World) : (underlying t).run P w = .ok d w := by
  simp only [underlying, Sem.run_bind, run_program, Result.andThen_ok, h, Sem.run_pure]
theorem run_tinfo {t : TypeId} {i : TypeInfo} (h : P.info? t = some i) (w : World) : (typeInfo t).run P w = .ok i w := by
  simp only [typeInfo, Sem.run_bind, run_program, Result.andThen_ok, h, Sem.run_pure]
theorem run_szOf {t : TypeId} {n : Nat} (h : szT P t = some n) (w : World) : (sizeOf t).run P w = .ok n w := by
  unfold szT at h
  cases hi : P.info? t with
  | none => rw [hi] at h; cases h
  | some i =>
    rw [hi] at h
    have h' : i.size = n := by simpa using h
    simp only [sizeOf, Sem.run_bind, run_tinfo hi w, Result.andThen_ok, Sem.run_pure, h']
theorem run_isAg {t : TypeId} {b : Bool} (h : aggT P t = some b) (w : World) : (isAgg t).run P w = .ok b w := by
  unfold aggT at h
  cases hu : P.underlying t with
  | none => rw [hu] at h; cases h
  | some d =>
    rw [hu] at h
    simp only [Option.map_some, Option.some.injEq] at h
    simp only [isAgg, Sem.run_bind, run_under hu w, Result.andThen_ok]
    subst h
    cases d <;> rfl
theorem loadT_some {t : TypeId} {n : Nat} {b : Bool} (h : loadT P t = some (n, b)) : szT P t = some n ∧ aggT P t = some b := by
  unfold loadT at h
  cases h1 : szT P t with
  | none => rw [h1] at h; simp at h
  | some n' =>
    cases h2 : aggT P t with
    | none => rw [h1, h2] at h; simp at h
    | some b' => rw [h1, h2] at h; simp at h; obtain ⟨rfl, rfl⟩ := h; exact ⟨rfl, rfl⟩
theorem run_ld {a : Addr} {v : Value} (h : w.cell? a = some v) : (load a).run P w = .ok v w := by
  rw [run_load, h]
theorem add_none (b o i : Nat) : (⟨b, o, none⟩ : Addr).add i = ⟨b, o + i, none⟩ := by
  unfold Addr.add; split
  · rename_i h; subst h; rfl
  · rfl
theorem run_ldFrom {b o : Nat} : ∀ (n i : Nat) (acc : Array Value) (vs : List Value), vs.length = n → (∀ j v, vs[j]? = some v → w.cell? ⟨b, o + (i + j), none⟩ = some v) →
    (loadCellsFrom ⟨b, o, none⟩ i n acc).run P w = .ok (acc ++ vs.toArray) w
  | 0, i, acc, vs, hl, _ => by
    have : vs = [] := List.eq_nil_of_length_eq_zero hl
    subst this
    simp [loadCellsFrom]
  | n + 1, i, acc, [], hl, _ => by simp at hl
  | n + 1, i, acc, v :: vs, hl, h => by
    unfold loadCellsFrom
    have h0 : w.cell? ((⟨b, o, none⟩ : Addr).add i) = some v := by rw [add_none]; exact h 0 v rfl
    rw [run_ok (run_ld h0), run_ldFrom n (i + 1) (acc.push v) vs (by simpa using hl) (fun j u hu => by
      have := h (j + 1) u (by simpa using hu)
      rw [← this]; congr 2; omega)]
    simp
theorem run_ldCells {b o : Nat} (n : Nat) (vs : List Value) (hl : vs.length = n) (h : ∀ j v, vs[j]? = some v → w.cell? ⟨b, o + j, none⟩ = some v) :
    (loadCells ⟨b, o, none⟩ n).run P w = .ok vs.toArray w := by
  unfold loadCells
  rw [run_ldFrom n 0 #[] vs hl (fun j v hv => by simpa using h j v hv)]
  simp
/-- A value out of cells that are told. -/
theorem run_ldVar {t : TypeId} {n : Nat} {b : Bool} (ht : loadT P t = some (n, b)) {g o : Nat} {cs : List AV} (hc : Cells w S g o cs) {v : AV} (hv : loadC n b cs = some v) :
    ∃ u, (loadVar t ⟨g, o, none⟩).run P w = .ok u w ∧ Rep w S v u := by
  obtain ⟨hs, ha⟩ := loadT_some ht
  unfold loadVar
  rw [run_ok (run_isAg ha w)]
  unfold loadC at hv
  cases b with
  | false =>
    simp only [Bool.false_eq_true, if_false] at hv ⊢
    obtain ⟨u, hu, hr⟩ := hc.get 0 v hv
    exact ⟨u, run_ld (by simpa using hu), hr⟩
  | true =>
    simp only [if_true] at hv ⊢
    by_cases hn : n ≤ cs.length
    · rw [if_pos hn] at hv
      obtain rfl := Option.some.inj hv
      have ht := hc.take n
      have key : ∀ (as : List AV) (o : Nat), Cells w S g o as → ∃ vs, Reps w S as vs ∧ ∀ j v, vs[j]? = some v → w.cell? ⟨g, o + j, none⟩ = some v := by
        intro as
        induction as with
        | nil => intro o _; exact ⟨[], .nil, fun j v h => by simp at h⟩
        | cons a as ih =>
          intro o h
          cases h with
          | @cons _ _ _ v _ h1 h2 h3 =>
            obtain ⟨vs, r, hv⟩ := ih (o + 1) h3
            refine ⟨v :: vs, .cons h2 r, fun j u hu => ?_⟩
            cases j with
            | zero => simp at hu; subst hu; simpa using h1
            | succ j => have := hv j u (by simpa using hu); rw [← this]; congr 2; omega
      obtain ⟨vs, r, hcell⟩ := key _ _ ht
      have hl : vs.length = n := by rw [← r.length, List.length_take]; omega
      rw [run_ok (run_szOf hs w), run_ok (run_ldCells n vs hl hcell)]
      exact ⟨_, rfl, .agg r⟩
    · rw [if_neg hn] at hv; cases hv
end run
end Go.T
