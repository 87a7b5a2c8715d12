/- Arguments that read as data are trees; places below the heap's size do not change by a call that changes nothing. -/
import Derived.Test.YtkheogobahhbpaaT18
import Derived.ProofKit
import Derived.OpenShut
namespace Go.T
open Go Go.RowKit Go.ChangeShapes
set_option linter.unusedSimpArgs false
set_option linter.unusedVariables false
section
variable {H : Type} {enc : TypeId × Value → H} {P : Program} {W : World}

/-- Blocks that are there. -/
def Old (W : World) (b : Nat) : Prop := b < W.heap.size

/-- Cells of a type that read as data are trees. -/
def Opens (enc : TypeId × Value → H) (P : Program) (W : World) (T : TypeId) {α : Type} (cells : α → List AV) (good : α → Prop) (fuel : Nat) : Prop :=
  ∀ cs d, DataW.trod enc P W 0 (fun _ => true) true fuel T cs = some d → ∃ a, good a ∧ Reps W (Old W) (cells a) cs

theorem opens_zero {T : TypeId} {α : Type} {cells : α → List AV} {good : α → Prop} : Opens enc P W T cells good 0 := fun cs d h => by simp [DataW.trod] at h

theorem Opens.map {T : TypeId} {α β : Type} {cells : α → List AV} {good : α → Prop} {cells' : β → List AV} {good' : β → Prop} {fuel : Nat} (h : Opens enc P W T cells good fuel) (f : α → β) (hf : ∀ a, good a → good' (f a) ∧ Les (cells a) (cells' (f a))) : Opens enc P W T cells' good' fuel := fun cs d hd => by
  obtain ⟨a, ha, hr⟩ := h cs d hd
  exact ⟨f a, (hf a ha).1, (hf a ha).2.reps hr⟩

def in64 (n : Int) : Prop := -9223372036854775808 ≤ n ∧ n ≤ 9223372036854775807

theorem opens_int {T : TypeId} (hu : P.underlying T = some (.int .i64)) (fuel : Nat) : Opens enc P W T (fun n : Int => [.int .i64 n]) in64 fuel := fun cs d h => by
  cases fuel with
  | zero => simp [DataW.trod] at h
  | succ m =>
    unfold DataW.trod at h
    rw [hu] at h
    split at h <;> simp_all
    obtain ⟨hq, hw⟩ := h.1
    rename_i he
    subst he
    exact ⟨_, bounds_i64 hw, .cons (.int _ _) .nil⟩
theorem opens_bool {T : TypeId} (hu : P.underlying T = some .bool) (fuel : Nat) : Opens enc P W T (fun b : Bool => [.bool b]) (fun _ => True) fuel := fun cs d h => by
  cases fuel with
  | zero => simp [DataW.trod] at h
  | succ m =>
    unfold DataW.trod at h
    rw [hu] at h
    split at h <;> simp_all
    rename_i b
    cases b
    · exact .inl (.cons (.bool _) .nil)
    · exact .inr (.cons (.bool _) .nil)
theorem opens_str {T : TypeId} (hu : P.underlying T = some .string) (fuel : Nat) : Opens enc P W T (fun s : ByteArray => [.str s]) (fun s => s.size ≤ 9223372036854775807) fuel := fun cs d h => by
  cases fuel with
  | zero => simp [DataW.trod] at h
  | succ m =>
    unfold DataW.trod at h
    rw [hu] at h
    split at h <;> simp_all
    rename_i s
    exact ⟨s, h.1, .cons (.str _) .nil⟩

theorem Cells.append {w : World} {S : Nat → Prop} {b : Nat} {as bs : List AV} : ∀ {o : Nat}, Cells w S b o as → Cells w S b (o + as.length) bs → Cells w S b o (as ++ bs) := by
  induction as with
  | nil => intro o _ k; simpa using k
  | cons a as ih =>
    intro o h k
    cases h with
    | cons hc h t =>
      refine .cons hc h (ih t ?_)
      have e : o + 1 + as.length = o + (a :: as).length := by simp; omega
      rw [e]; exact k
theorem Cells.of_read {w : World} {S : Nat → Prop} {b : Nat} {as : List AV} : ∀ {vs : List Value} {o : Nat}, Reps w S as vs → (∀ i, i < vs.length → w.cell? ⟨b, o + i, none⟩ = vs[i]?) → Cells w S b o as := by
  induction as with
  | nil => intro vs o h k; exact .nil _ _
  | cons a as ih =>
    intro vs o h k
    cases h with
    | @cons _ v _ vs h t =>
      refine .cons (v := v) ?_ h (ih t fun i hi => ?_)
      · have := k 0 (by simp); simpa using this
      · have := k (i + 1) (by simp; omega)
        rw [show o + 1 + i = o + (i + 1) from by omega, this]; simp

theorem choose_list {α β : Type} {p : Nat → α → Prop} : ∀ n, (∀ i, i < n → ∃ a, p i a) → ∃ l : List α, l.length = n ∧ ∀ i a, l[i]? = some a → p i a
  | 0, _ => ⟨[], rfl, fun i a h => by simp at h⟩
  | n + 1, h => by
    obtain ⟨l, hl, hp⟩ := choose_list (β := β) n fun i hi => h i (by omega)
    obtain ⟨a, ha⟩ := h n (by omega)
    refine ⟨l ++ [a], by simp [hl], fun i x hx => ?_⟩
    rw [List.getElem?_append] at hx
    split at hx
    · exact hp i x hx
    · rename_i hlt
      have : i - l.length < [a].length := (List.getElem?_eq_some_iff.1 hx).1
      simp at this
      have e : i = n := by omega
      subst e
      rw [hl] at hx; simp at hx
      subst hx; exact ha

theorem Cells.join {α : Type} {w : World} {S : Nat → Prop} {b n : Nat} {cells : α → List AV} : ∀ (l : List α) (o : Nat), (∀ a ∈ l, (cells a).length = n) → (∀ i a, l[i]? = some a → Cells w S b (o + i * n) (cells a)) → Cells w S b o (l.flatMap cells)
  | [], o, _, _ => .nil _ _
  | a :: l, o, hn, h => by
    rw [List.flatMap_cons]
    have h0 := h 0 a rfl
    rw [Nat.zero_mul, Nat.add_zero] at h0
    refine Cells.append h0 ?_
    rw [hn a (List.mem_cons_self ..)]
    refine Cells.join l (o + n) (fun x hx => hn x (List.mem_cons_of_mem _ hx)) fun i x hx => ?_
    have := h (i + 1) x (by simpa using hx)
    rw [show o + n + i * n = o + (i + 1) * n from by rw [Nat.add_mul]; omega]
    exact this

theorem block_add (a : Addr) (i : Nat) : (a.add i).block = a.block := by
  unfold Addr.add
  split <;> rfl
theorem opens_slice {T E : TypeId} {α : Type} {cells : α → List AV} {good : α → Prop} {elt : α → AV} {n fuel : Nat} (hu : P.underlying T = some (.slice E)) (hn : P.cellsOf E = n) (hn0 : 0 < n)
    (helt : ∀ a, (elt a).cells = cells a) (hlen : ∀ a, (cells a).length = n) (he : Opens enc P W E cells good fuel) :
    Opens enc P W T (fun l : List α => [.lst false n (l.map elt)]) (fun l => l.length ≤ 9223372036854775807 ∧ ∀ a ∈ l, good a) (fuel + 1) := fun cs d h => by
  unfold DataW.trod at h
  rw [hu] at h
  split at h <;> first | contradiction | (simp_all; done) | skip
  all_goals simp only [Option.some.injEq, TypeDesc.slice.injEq, reduceCtorEq] at *
  · exact ⟨[], ⟨by simp, by simp⟩, .cons (.lnil _ _ _ _ (fun h => by cases h)) .nil⟩
  · rename_i e a len cap hee
    subst hee
    split at h
    case isFalse => simp at h
    rename_i hc
    obtain ⟨-, hlc, hcm⟩ := hc
    obtain ⟨elems, hel, h2⟩ := Option.bind_eq_some_iff.1 h
    have hlen' := mapM_some_length hel
    simp at hlen'
    by_cases hl0 : len = 0
    · subst hl0
      exact ⟨[], ⟨by simp, by simp⟩, .cons (.lnil _ _ _ _ (fun h => by cases h)) .nil⟩
    have hsp : a.spot = none := by
      have h3 := mapM_some_get hel 0 0 (by rw [List.getElem?_range (by omega)])
      rw [List.getElem?_eq_getElem (by omega)] at h3
      obtain ⟨cs, hcs, ht⟩ := Option.bind_eq_some_iff.1 h3
      obtain ⟨_, hl, hcell⟩ := World.cells?_some hcs
      have h4 := hcell 0 (by rw [hn]; exact hn0)
      rw [hn] at hl
      rw [List.getElem?_eq_getElem (by omega), Nat.zero_mul] at h4
      exact World.cell?_spot h4
    have each : ∀ i, i < len → ∃ x : α, good x ∧ a.block < W.heap.size ∧ Cells W (Old W) a.block (a.off + i * n) (cells x) := fun i hi => by
      have h3 := mapM_some_get hel i i (by simp [hi])
      rw [List.getElem?_eq_getElem (by omega)] at h3
      obtain ⟨cs, hcs, ht⟩ := Option.bind_eq_some_iff.1 h3
      obtain ⟨x, hx, hr⟩ := he cs _ ht
      have hb := World.cells?_block hcs (by rw [hn]; exact hn0)
      obtain ⟨_, hl, hcell⟩ := World.cells?_some hcs
      rw [hn] at hcell hl
      refine ⟨x, hx, (by rw [block_add] at hb; exact hb), Cells.of_read hr fun j hj => ?_⟩
      have := hcell j (by omega)
      rw [← this]
      obtain ⟨ab, ao, as⟩ := a
      simp at hsp
      subst hsp
      simp [WideShapes.add_plain, Nat.add_assoc]
    obtain ⟨l, hll, hp⟩ := choose_list (β := Unit) len each
    obtain ⟨x0, -, hb0, -⟩ := each 0 (by omega)
    obtain ⟨ab, ao, as⟩ := a
    simp at hsp hb0
    subst hsp
    have hm : ∀ x ∈ l, good x := fun x hx => by
      obtain ⟨i, hi⟩ := List.getElem?_of_mem hx
      exact (hp i x hi).1
    refine ⟨l, ⟨by simp [maxLen] at hcm; omega, hm⟩, .cons ?_ .nil⟩
    have e1 : len = (l.map elt).length := by simp [hll]
    rw [e1]
    refine .lst false n ab ao cap hb0 (fun x hx => ?_) (by rw [← e1]; exact hlc) (fun h => by cases h) ?_
    · obtain ⟨y, hy, rfl⟩ := List.mem_map.1 hx
      rw [helt, hlen]
    · have e2 : flat (l.map elt) = l.flatMap cells := by
        unfold flat
        rw [List.flatMap_map]
        congr 1
        funext x
        exact helt x
      rw [e2]
      exact Cells.join l ao (fun x _ => hlen x) fun i x hx => (hp i x hx).2.2

/-- Fields from an offset on. -/
def Fields (enc : TypeId × Value → H) (P : Program) (W : World) (N : Nat) (fs : List Field) (o : Nat) {α : Type} (cells : α → List AV) (good : α → Prop) (fuel : Nat) : Prop :=
  ∀ (cs : List Value) xs, cs.length = N → fs.mapM (fun f => DataW.trod enc P W 0 (fun _ => true) true fuel f.type ((cs.drop f.offset).take (P.cellsOf f.type))) = some xs → ∃ a, good a ∧ Reps W (Old W) (cells a) (cs.drop o)
theorem fields_nil {N o fuel : Nat} (h : N = o) : Fields enc P W N [] o (fun _ : Unit => []) (fun _ => True) fuel := fun cs xs hl _ => by
  refine ⟨(), trivial, ?_⟩
  rw [List.drop_eq_nil_of_le (by omega)]
  exact .nil
theorem fields_cons {N o n fuel : Nat} {f : Field} {fs : List Field} {α β : Type} {ca : α → List AV} {ga : α → Prop} {cb : β → List AV} {gb : β → Prop} (ho : f.offset = o) (hn : P.cellsOf f.type = n)
    (hf : Opens enc P W f.type ca ga fuel) (hfs : Fields enc P W N fs (o + n) cb gb fuel) : Fields enc P W N (f :: fs) o (fun x : α × β => ca x.1 ++ cb x.2) (fun x => ga x.1 ∧ gb x.2) fuel := fun cs xs hl h => by
  rw [List.mapM_cons] at h
  obtain ⟨x, hx, h⟩ := Option.bind_eq_some_iff.1 h
  obtain ⟨y, hy, h⟩ := Option.bind_eq_some_iff.1 h
  obtain ⟨a, ha, hra⟩ := hf _ _ hx
  obtain ⟨b, hb, hrb⟩ := hfs cs y hl hy
  refine ⟨(a, b), ⟨ha, hb⟩, ?_⟩
  have := hra.append hrb
  rwa [ho, hn, show (cs.drop o).take n ++ cs.drop (o + n) = cs.drop o from by rw [← List.drop_drop, List.take_append_drop]] at this
theorem trod_struct0 {T : TypeId} {fs : Array Field} {fuel : Nat} {cs : List Value} {d : DataW H × List MemPlace} (hu : P.underlying T = some (.struct fs)) (hd : DataW.trod enc P W 0 (fun _ => true) true (fuel + 1) T cs = some d) :
    cs.length = P.cellsOf T ∧ ∃ xs, fs.toList.mapM (fun f => DataW.trod enc P W 0 (fun _ => true) true fuel f.type ((cs.drop f.offset).take (P.cellsOf f.type))) = some xs := by
  unfold DataW.trod at hd
  rw [hu] at hd
  split at hd <;> simp_all
  obtain ⟨hl, xs, hp, hd⟩ := hd
  exact ⟨xs, hp⟩
theorem opens_struct {T : TypeId} {fs : Array Field} {N fuel : Nat} {α : Type} {cells : α → List AV} {good : α → Prop} (hu : P.underlying T = some (.struct fs)) (hN : P.cellsOf T = N)
    (h : Fields enc P W N fs.toList 0 cells good fuel) : Opens enc P W T cells good (fuel + 1) := fun cs d hd => by
  obtain ⟨hl, xs, hp⟩ := trod_struct0 hu hd
  obtain ⟨a, ha, hr⟩ := h cs xs (by rw [hl, hN]) hp
  exact ⟨a, ha, by simpa using hr⟩

/-- An argument that is a struct. -/
theorem arg_agg {S : Nat → Prop} {cs : List AV} {v : Value} (h : Reps W S cs v.cells.toList) (hl : cs.length ≠ 1) : Rep W S (.agg cs) v := by
  have hlen := h.length
  cases v with
  | agg vs => exact .agg (by simpa [Value.cells] using h)
  | _ => simp [Value.cells] at hlen; exact absurd hlen hl
/-- The call is done; what lies below the heap's size is as it was. -/
theorem law_ends {n : FuncId} {args : List AV} {cargs : Array Value} (h : PCall P n args (.bool true)) (hr : Reps W (Old W) args cargs.toList) : Calls P n cargs W fun e W' => e = .returned (.bool true) ∧ Below W.heap.size W W' := by
  have hm : MemRep W (Old W) (fun _ => none) := ⟨fun g b h => (by cases h), fun b hb => ⟨rfl, hb⟩⟩
  have := h.2 W (Old W) cargs.toList _ hm hr
  rw [Array.toArray_toList] at this
  refine calls_mono this ?_
  rintro e W' ⟨v, S', he, h1, h2, h3, h4, h5⟩
  subst he
  cases h4
  exact ⟨rfl, ⟨h5.os, h5.tape, h5.output, h5.size, fun k hk => h5.block k hk (fun h => h)⟩⟩
end
end Go.T
