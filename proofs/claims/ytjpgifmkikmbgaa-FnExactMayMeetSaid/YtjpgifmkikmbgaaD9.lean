/- Sorted, and each once: what the library's functions say, and the names in order. -/
import Derived.Test.YtjpgifmkikmbgaaD8
import Derived.Lib.SlicesCompact
import Derived.Laws.Strings
namespace Go.T
open Go
set_option linter.unusedSimpArgs false
set_option linter.unusedVariables false
theorem bl_lt : ∀ (x y : List UInt8), Op.bytesLess x y = decide (x < y)
  | [], [] => by simp [Op.bytesLess]
  | _ :: _, [] => by simp [Op.bytesLess]
  | [], _ :: _ => by simp [Op.bytesLess]
  | a :: x, b :: y => by
    rw [Op.bytesLess, bl_lt x y]
    simp only [List.cons_lt_cons_iff]
    by_cases h1 : a < b <;> by_cases h2 : a = b <;> by_cases h3 : x < y <;> simp [h1, h2, h3]
/-- A string's bytes, and back. -/
def toL (s : ByteArray) : List UInt8 := s.data.toList
def ofL (l : List UInt8) : ByteArray := ⟨l.toArray⟩
theorem ofL_toL (s : ByteArray) : ofL (toL s) = s := rfl
theorem toL_ofL (l : List UInt8) : toL (ofL l) = l := by simp [toL, ofL]
theorem toList_eq (s : ByteArray) : s.toList = toL s := Go.ByteArray.toList_eq s
theorem blt_lt (x y : ByteArray) : blt x y = decide (toL x < toL y) := by
  unfold blt
  rw [toList_eq, toList_eq, bl_lt]
theorem u8list_lt_trans {x y z : List UInt8} (h : x < y) (k : y < z) : x < z := by
  have := bl_trans x y z (by rw [bl_lt]; simpa using h) (by rw [bl_lt]; simpa using k)
  rw [bl_lt] at this
  simpa using this
def leL (x y : List UInt8) : Bool := decide (x ≤ y)
theorem sorted_le (zs : List (List UInt8)) : (zs.mergeSort fun x y => decide (x ≤ y)).Pairwise fun x y => x ≤ y := by
  have := List.pairwise_mergeSort (le := fun x y : List UInt8 => decide (x ≤ y)) (fun a b c h1 h2 => by simp only [decide_eq_true_eq] at *; exact List.le_trans h1 h2) (fun a b => by simp only [Bool.or_eq_true, decide_eq_true_eq]; exact List.le_total a b) zs
  exact this.imp fun h => by simpa using h
theorem compact_asc (zs : List (List UInt8)) (h : zs.Pairwise fun x y => x ≤ y) : (Go.Lib.compact zs).Pairwise (fun x y => x < y) ∧ ∀ x, x ∈ Go.Lib.compact zs ↔ x ∈ zs := by
  unfold Go.Lib.compact Go.Lib.compactUpTo
  have hget : ∀ j, j < zs.length → zs.toArray[j]! = zs[j]! := fun j hj => by simp
  have hle : ∀ i j, i ≤ j → j < zs.length → zs[i]! ≤ zs[j]! := fun i j hij hj => by
    rw [getElem!_pos zs i (by omega), getElem!_pos zs j hj]
    rcases Nat.lt_or_eq_of_le hij with hlt | rfl
    · exact List.pairwise_iff_getElem.1 h i j (by omega) hj hlt
    · exact List.le_refl _
  refine ⟨?_, fun x => ?_⟩
  · rw [List.pairwise_map]
    refine List.Pairwise.imp_of_mem ?_ (List.Pairwise.filter _ (List.pairwise_lt_range (n := zs.length)))
    intro a b ha hb hab
    obtain ⟨ha1, ha2⟩ := List.mem_filter.1 ha
    obtain ⟨hb1, hb2⟩ := List.mem_filter.1 hb
    have hbl := List.mem_range.1 hb1
    unfold Go.Lib.keeps at hb2
    simp only [decide_eq_true_eq] at hb2
    rcases hb2 with rfl | hb2
    · omega
    rw [hget b hbl, hget (b - 1) (by omega)] at hb2
    rw [hget a (by omega), hget b hbl]
    have h1 := hle a (b - 1) (by omega) (by omega)
    have h2 := hle (b - 1) b (by omega) hbl
    have h3 : zs[b - 1]! < zs[b]! := by
      refine Classical.byContradiction fun hn => hb2 ?_
      exact List.le_antisymm (List.not_lt.1 hn) h2
    refine Classical.byContradiction fun hn => ?_
    have h4 := List.le_trans (List.not_lt.1 hn) h1
    exact absurd h3 (List.not_lt.2 h4)
  · simp only [List.mem_map, List.mem_filter, List.mem_range]
    constructor
    · rintro ⟨j, ⟨hj, _⟩, rfl⟩
      rw [hget j hj, getElem!_pos zs j hj]
      exact List.getElem_mem hj
    · intro hx
      obtain ⟨j, hj, rfl⟩ := List.getElem_of_mem hx
      have key : ∀ j, j < zs.length → ∃ a, (a < zs.length ∧ Go.Lib.keeps zs.toArray a = true) ∧ zs.toArray[a]! = zs[j]! := by
        intro j
        induction j with
        | zero => intro hj; exact ⟨0, ⟨hj, by simp [Go.Lib.keeps]⟩, hget 0 hj⟩
        | succ j ih =>
          intro hj
          by_cases hk : Go.Lib.keeps zs.toArray (j + 1) = true
          · exact ⟨j + 1, ⟨hj, hk⟩, hget _ hj⟩
          · obtain ⟨a, ha, he⟩ := ih (by omega)
            refine ⟨a, ha, he.trans ?_⟩
            unfold Go.Lib.keeps at hk
            simp only [decide_eq_true_eq, not_or, Nat.add_one_sub_one] at hk
            have := Classical.not_not.1 hk.2
            rw [hget _ hj, hget _ (by omega)] at this
            exact this.symm
      obtain ⟨a, ha, he⟩ := key j hj
      exact ⟨a, ha, by rw [he, getElem!_pos zs j hj]⟩
/-- What 'ordered' computes. -/
theorem ordered_set (xs : List ByteArray) : (Go.Lib.compact ((xs.map toL).mergeSort fun x y => decide (x ≤ y))).map ofL = nameSet xs := by
  obtain ⟨h1, h2⟩ := compact_asc _ (sorted_le (xs.map toL))
  refine asc_ext ?_ (nameSet_asc xs) fun x => ?_
  · unfold Asc
    rw [List.pairwise_map]
    refine h1.imp fun {a b} hab => ?_
    rw [blt_lt, toL_ofL, toL_ofL]
    simpa using hab
  · rw [nameSet_mem, List.mem_map]
    constructor
    · rintro ⟨a, ha, rfl⟩
      have := (List.mergeSort_perm (xs.map toL) _).mem_iff.1 ((h2 a).1 ha)
      obtain ⟨y, hy, rfl⟩ := List.mem_map.1 this
      rwa [ofL_toL]
    · intro hx
      exact ⟨toL x, (h2 _).2 ((List.mergeSort_perm (xs.map toL) _).mem_iff.2 (List.mem_map_of_mem hx)), ofL_toL x⟩
end Go.T
