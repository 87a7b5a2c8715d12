/- The library's calls on a row of strings, told of trees. -/
import Derived.Test.YtjpgifmkikmbgaaT20
import Derived.Test.YtjpgifmkikmbgaaD9
import Derived.Sort.Grow
import Derived.Sort.EncStr
namespace Go.T
open Go Go.Sort Go.Proofs
set_option linter.unusedSimpArgs false
set_option linter.unusedVariables false
section
variable {P : Program}
theorem reps_strs {w : World} {S : Nat → Prop} : ∀ {xs : List ByteArray} {vs : List Value}, Reps w S (flat (xs.map .str)) vs → vs = xs.map Value.string
  | [], vs, h => by cases h; rfl
  | x :: xs, vs, h => by
    simp only [List.map_cons, flat, List.flatMap_cons, AV.cells, List.cons_append, List.nil_append] at h
    cases h with
    | cons h t =>
      cases h
      rw [reps_strs (xs := xs) t]
      rfl
theorem strs_reps (w : World) (S : Nat → Prop) : ∀ xs : List ByteArray, Reps w S (flat (xs.map .str)) (xs.map Value.string)
  | [] => .nil
  | x :: xs => by
    simp only [List.map_cons, flat, List.flatMap_cons, AV.cells, List.cons_append, List.nil_append]
    exact .cons (.str x) (strs_reps w S xs)
theorem putRow_at {w : World} {g : Nat} {vs us : List Value} {T : TypeId} {d : Array (List UInt8)} (hb : w.heap[g]? = some (.cells (vs ++ us).toArray T (0, 0))) (hl : d.size = vs.length) (q : Nat) (os : Array Obj) :
    (grow (putRow encStr (Sort.ahead w q) g 0 d) os).heap[g]? = some (.cells (d.toList.map encStr ++ us).toArray T (0, 0)) ∧ (∀ b, b ≠ g → b < w.heap.size → (grow (putRow encStr (Sort.ahead w q) g 0 d) os).heap[b]? = w.heap[b]?) ∧ Keep (fun b => b = g) w (grow (putRow encStr (Sort.ahead w q) g 0 d) os) := by
  have hg : g < w.heap.size := (Array.getElem?_eq_some_iff.1 hb).1
  have hsz : (putRow encStr (Sort.ahead w q) g 0 d).heap.size = w.heap.size := by simp [putRow, mapBlock, Sort.ahead]
  have hne : ∀ b, b ≠ g → b < w.heap.size → (grow (putRow encStr (Sort.ahead w q) g 0 d) os).heap[b]? = w.heap[b]? := by
    intro b hbg hbs
    rw [heap_grow_old _ _ (by rw [hsz]; exact hbs)]
    simp only [putRow, mapBlock, Sort.ahead, Array.getElem?_modify]
    rw [if_neg (fun h => hbg h.symm)]
  refine ⟨?_, hne, rfl, rfl, rfl, by rw [size_grow, hsz]; omega, fun b hb hn => hne b hn hb⟩
  rw [heap_grow_old _ _ (by rw [hsz]; exact hg)]
  simp only [putRow, mapBlock, Sort.ahead, Array.getElem?_modify, if_true, hb, Option.map_some, onCells]
  congr 2
  apply Array.ext_getElem?
  intro k
  simp only [putCells, Array.getElem?_mapIdx, List.getElem?_toArray]
  by_cases hk : k < d.size
  · rw [List.getElem?_append_left (by omega), List.getElem?_append_left (by simp; omega)]
    rw [List.getElem?_eq_getElem (by omega)]
    simp [hk]
  · rw [List.getElem?_append_right (by omega), List.getElem?_append_right (by simp; omega)]
    have h1 : ∀ x, (if 0 ≤ k ∧ k < 0 + d.size then encStr d[k - 0]! else x) = x := fun x => if_neg (by omega)
    simp only [h1]
    simp [hl]
/-- A call that turns a row's strings. -/
theorem WCall.row {n : FuncId} (hB : HasBody P n) {m : Mem} {g k c : Nat} {T : TypeId} {xs ys zs : List ByteArray} {r : AV} {u : Value} (hg : m g = some (.arr T 1 c (xs.map .str))) (hk : xs.length = k)
    (hlen : ys.length + zs.length = xs.length) (hr : ∀ w S, Rep w S r u)
    (hc : ∀ w, Holds encStr w g 0 (xs.map toL).toArray → g < w.heap.size → k ≤ c → Calls P n #[.slice (some ⟨g, 0, none⟩) k c] w fun e w' => e = .returned u ∧ ∃ q os, w' = grow (putRow encStr (Sort.ahead w q) g 0 ((ys ++ zs).map toL).toArray) os)
    {K : AV → Mem → Prop} (hK : K r (m.set g (.arr T 1 c (ys.map .str)))) : WCall P n [.own g k c] m K := by
  refine ⟨hB, fun w S cargs hm hargs => ?_⟩
  cases hargs with | @cons _ v _ vs hv ht =>
  cases ht
  cases hv
  obtain ⟨vs, us, hb, hreps, hl, he, hle⟩ := hm.blk g _ hg
  have hvs := reps_strs hreps
  subst hvs
  have hgs : g < w.heap.size := (Array.getElem?_eq_some_iff.1 hb).1
  have hle' : xs.length ≤ c := by simpa using hle
  have hH : Holds encStr w g 0 (xs.map toL).toArray := by
    intro j hj
    simp at hj
    constructor
    · simp only [World.cell?, hb]
      simp [hj, encStr, toL]
      rw [List.getElem?_append_left (by simpa using hj), List.getElem?_map, List.getElem?_eq_getElem hj]
      rfl
    · simp only [World.frozen?, hb]
      simp
  refine calls_mono (hc w hH hgs (by omega)) ?_
  rintro e w' ⟨he', q, os, hw'⟩
  subst hw'
  have hsz : (((ys ++ zs).map toL).toArray).size = (xs.map Value.string).length := by simp; omega
  obtain ⟨h1, h2, h3⟩ := putRow_at hb hsz q os
  have hnS : ∀ b, S b → b ≠ g := fun b hb h => by rw [h] at hb; have := (hm.apart g hb).1; rw [hg] at this; cases this
  have hst : Stays S w (grow (putRow encStr (Sort.ahead w q) g 0 ((ys ++ zs).map toL).toArray) os) := fun b hb => h2 b (hnS b hb) (hm.apart b hb).2
  refine ⟨u, r, _, S, he', hK, fun _ h => h, fun _ h => .inl h, ⟨fun g' b hb' => ?_, fun b hb' => ⟨?_, ?_⟩⟩, hr _ _, h3.mono (fun b h => by rw [h, hg]; simp), fun g' b hb' => ?_⟩
  · rw [set_at] at hb'
    by_cases hgg : g' = g
    · subst hgg
      rw [if_pos rfl] at hb'
      obtain rfl := Option.some.inj hb'
      refine ⟨ys.map Value.string, zs.map Value.string ++ us, ?_, strs_reps _ _ ys, ?_, fun x hx => ?_, ?_⟩
      · rw [h1]
        congr 2
        have e : ((ys ++ zs).map toL).toArray.toList.map encStr = ys.map Value.string ++ zs.map Value.string := by
          simp [encStr, toL, Function.comp_def]
        rw [e, List.append_assoc]
      · simp at hl ⊢; omega
      · obtain ⟨y, _, rfl⟩ := List.mem_map.1 hx; rfl
      · simp; omega
    · rw [if_neg hgg] at hb'
      exact (hm.blk g' b hb').mono hst (fun _ h => h) (h2 g' hgg (hm.blk g' b hb').lt)
  · rw [set_at, if_neg (hnS b hb')]; exact (hm.apart b hb').1
  · have := (hm.apart b hb').2
    exact Nat.lt_of_lt_of_le this h3.size
  · rw [set_at] at hb'
    by_cases hgg : g' = g
    · subst hgg; exact .inl (by rw [hg]; simp)
    · rw [if_neg hgg] at hb'
      exact .inl (by rw [hb']; simp)
/-- A call that answers and leaves the world as it was. -/
theorem PCall.same {n : FuncId} (hB : HasBody P n) {a r : AV} (h : ∀ w S v, Rep w S a v → ∃ u, Rep w S r u ∧ Calls P n #[v] w fun e w' => e = .returned u ∧ w' = w) : PCall P n [a] r := by
  refine ⟨hB, fun w S cargs m hm hargs => ?_⟩
  cases hargs with | @cons _ v _ vs hv ht =>
  cases ht
  obtain ⟨u, hu, hc⟩ := h w S v hv
  refine calls_mono hc ?_
  rintro e w' ⟨rfl, rfl⟩
  exact ⟨u, S, rfl, fun _ h => h, fun _ h => .inl h, hm, hu, Keep.refl _ _⟩
end
end Go.T
