/- Regions. -/
import Derived.Test.YtkheogobahhbpaaT12
namespace Go.T
open Go
set_option linter.unusedSimpArgs false
set_option linter.unusedVariables false
section
variable {P : Program}

theorem aops_cons {p : Nat → Bool} {ops : Array Oper} {K : St → Prop} {i : Nat} {l : List Nat} {s : St} {o : Oper} (ho : ops[i]? = some o) : AOps P p ops K (i :: l) s = GOp P (p i) ops o s (AOps P p ops K l) := by
  simp only [AOps, ho, GOp]
  rfl
theorem aops_mono_list {p : Nat → Bool} {ops : Array Oper} {K : St → Prop} {l l' : List Nat} (h : ∀ s, AOps P p ops K l s → AOps P p ops K l' s) (i : Nat) (s : St) (hk : AOps P p ops K (i :: l) s) : AOps P p ops K (i :: l') s := by
  cases ho : ops[i]? with
  | none => simp only [AOps, ho] at hk ⊢; exact h s hk
  | some o => rw [aops_cons ho] at hk ⊢; exact gop_mono h hk

/-- May i and j, in this order in the text, change places? -/
def ApartAt (p : Nat → Bool) (ops : Array Oper) (i j : Nat) : Prop := ∀ a b, ops[i]? = some a → ops[j]? = some b → Apart p ops i j a b
theorem aops_front {p : Nat → Bool} {ops : Array Oper} {K : St → Prop} {j : Nat} {l2 : List Nat} : ∀ (l1 : List Nat) (s : St), (∀ i ∈ l1, ApartAt p ops i j) → AOps P p ops K (l1 ++ j :: l2) s → AOps P p ops K (j :: (l1 ++ l2)) s
  | [], s, _, hk => hk
  | i :: l1, s, h, hk => by
    have ih : ∀ s, AOps P p ops K (l1 ++ j :: l2) s → AOps P p ops K (j :: (l1 ++ l2)) s := fun s => aops_front l1 s (fun k hk => h k (by simp [hk]))
    have hk' := aops_mono_list ih i s hk
    have hap := h i (by simp)
    cases hi : ops[i]? with
    | none =>
      simp only [AOps, hi] at hk'
      show AOps P p ops K (j :: i :: (l1 ++ l2)) s
      exact aops_mono_list (l := l1 ++ l2) (fun s hs => by simp only [AOps, hi]; exact hs) j s hk'
    | some a =>
      cases hj : ops[j]? with
      | none =>
        show AOps P p ops K (j :: i :: (l1 ++ l2)) s
        have e : ∀ l, AOps P p ops K (j :: l) = AOps P p ops K l := fun l => by funext s; simp only [AOps, hj]
        rw [e] ; rw [e] at ih
        rw [aops_cons hi] at hk' ⊢
        exact gop_mono (fun s hs => by rw [e] at hs; exact hs) hk'
      | some b =>
        rw [aops_cons hi] at hk'
        have h2 : GOp P (p i) ops a s fun s1 => GOp P (p j) ops b s1 (AOps P p ops K (l1 ++ l2)) := gop_mono (fun s1 hs => by rw [aops_cons hj] at hs; exact hs) hk'
        have h3 := gop_swap (hap a b hi hj) h2
        show AOps P p ops K (j :: i :: (l1 ++ l2)) s
        rw [aops_cons hj]
        exact gop_mono (fun s1 hs => by rw [aops_cons hi]; exact hs) h3

/-- The operations that stand ahead by an edge. -/
def direct (o : Oper) : List Nat := (o.after.toList.filter fun e => Region.binds .any e).map (·.on)
/-- All that stand ahead, for each operation. -/
def ancs : List Oper → List (List Nat) → List (List Nat)
  | [], acc => acc
  | o :: l, acc => ancs l (acc ++ [(direct o ++ (direct o).flatMap fun j => acc.getD j []).eraseDups])
def apartB (p : Nat → Bool) (ops : Array Oper) (i j : Nat) : Bool :=
  match ops[i]?, ops[j]? with
  | some a, some b => (a.dst.toList.all fun t => !(readsOf ops b).contains t) && (b.dst.toList.all fun t => !(readsOf ops a).contains t) && (match a.dst, b.dst with | some t, some u => t != u | _, _ => true) &&
      ((cls (p i) a.op ≤ 1 && cls (p j) b.op ≤ 1) || (cls (p i) a.op == 0 && cls (p j) b.op == 2))
  | _, _ => true
theorem apartB_sound {p : Nat → Bool} {ops : Array Oper} {i j : Nat} (h : apartB p ops i j = true) : ApartAt p ops i j := by
  intro a b ha hb
  unfold apartB at h
  rw [ha, hb] at h
  simp only [Bool.and_eq_true, Bool.or_eq_true, List.all_eq_true, decide_eq_true_eq, beq_iff_eq] at h
  obtain ⟨⟨⟨h1, h2⟩, h3⟩, h4⟩ := h
  refine ⟨fun t ht hm => ?_, fun t ht hm => ?_, fun t ht hu => ?_, h4⟩
  · have := h1 t (by simp [ht]); simp [hm] at this
  · have := h2 t (by simp [ht]); simp [hm] at this
  · rw [ht, hu] at h3; simp at h3
/-- The look at a region that draws its order. -/
def orderB (p : Nat → Bool) (ops : Array Oper) : Bool :=
  let an := ancs ops.toList []
  !Region.departs ops && (List.range ops.size).all fun j => (((ops[j]?).map direct).getD []).all (fun e => e < j) && (List.range j).all fun i => (an.getD j []).contains i || apartB p ops i j

theorem ancs_len : ∀ (l : List Oper) (acc : List (List Nat)), (ancs l acc).length = acc.length + l.length
  | [], acc => rfl
  | o :: l, acc => by simp only [ancs, ancs_len l, List.length_append, List.length_cons, List.length_nil]; omega
/-- Where what stands ahead by an edge of what is listed is listed, all that stands ahead is. -/
theorem ancs_closed (ops : Array Oper) (L : Nat → Prop) (hL : ∀ j o, ops[j]? = some o → L j → ∀ e ∈ direct o, L e) :
    ∀ (l : List Oper) (acc : List (List Nat)) (n : Nat), acc.length = n → n ≤ ops.size → (∀ q, l[q]? = ops[n + q]?) → (∀ j o, ops[j]? = some o → (∀ e ∈ direct o, L e) → ∀ k ∈ acc.getD j [], L k) →
      ∀ j o, ops[j]? = some o → (∀ e ∈ direct o, L e) → ∀ k ∈ (ancs l acc).getD j [], L k
  | [], acc, n, hn, _, hl, h => h
  | o :: l, acc, n, hn, hn2, hl, h => by
    have hlt : n < ops.size := by
      have := hl 0
      simp at this
      exact (Array.getElem?_eq_some_iff.1 this.symm).1
    refine ancs_closed ops L hL l _ (n + 1) (by simp [hn]) hlt (fun q => by have := hl (q + 1); rw [← Nat.add_assoc, Nat.add_right_comm] at this; simpa using this) ?_
    intro j o' ho' hd k hk
    by_cases hj : j < acc.length
    · have : (acc ++ [(direct o ++ (direct o).flatMap fun j => acc.getD j []).eraseDups]).getD j [] = acc.getD j [] := by
        simp only [List.getD_eq_getElem?_getD, List.getElem?_append_left hj]
      rw [this] at hk
      exact h j o' ho' hd k hk
    · by_cases hj2 : j = acc.length
      · have ho : ops[j]? = some o := by have := hl 0; simp at this; rw [hj2, hn]; exact this.symm
        rw [ho] at ho'
        obtain rfl := Option.some.inj ho'
        have : (acc ++ [(direct o ++ (direct o).flatMap fun j => acc.getD j []).eraseDups]).getD j [] = (direct o ++ (direct o).flatMap fun j => acc.getD j []).eraseDups := by
          simp [List.getD_eq_getElem?_getD, hj2]
        rw [this] at hk
        have hk' := List.mem_eraseDups.1 hk
        rcases List.mem_append.1 hk' with hk' | hk'
        · exact hd k hk'
        · obtain ⟨e, he, hke⟩ := List.mem_flatMap.1 hk'
          have hLe := hd e he
          cases hoe : ops[e]? with
          | none =>
            have : acc.getD e [] = [] ∨ True := .inr trivial
            by_cases hea : e < acc.length
            · rw [Array.getElem?_eq_none_iff] at hoe; omega
            · simp [List.getD_eq_getElem?_getD, List.getElem?_eq_none (Nat.not_lt.1 hea)] at hke
          | some oe => exact h e oe hoe (hL e oe hoe hLe) k hke
      · have : (acc ++ [(direct o ++ (direct o).flatMap fun j => acc.getD j []).eraseDups]).getD j [] = [] := by
          simp [List.getD_eq_getElem?_getD]
          rw [List.getElem?_eq_none (by simp; omega)]; rfl
        rw [this] at hk; cases hk

theorem filter_split {α : Type} (f : α → Bool) : ∀ (l : List α) (x : α), x ∈ l → f x = true → ∃ l1 l2, l = l1 ++ x :: l2
  | [], x, h, _ => by cases h
  | y :: l, x, h, hf => by
    rcases List.mem_cons.1 h with rfl | h
    · exact ⟨[], l, rfl⟩
    · obtain ⟨l1, l2, rfl⟩ := filter_split f l x h hf; exact ⟨y :: l1, l2, rfl⟩
/-- What is not yet listed. -/
def rem (n : Nat) (listed : Array Bool) : List Nat := (List.range n).filter fun i => !listed.getD i true
theorem rem_set {n : Nat} {listed : Array Bool} (hs : listed.size = n) {i : Nat} {l1 l2 : List Nat} (h : rem n listed = l1 ++ i :: l2) : rem n (listed.setIfInBounds i true) = l1 ++ l2 := by
  have hnd : (l1 ++ i :: l2).Nodup := by rw [← h]; exact List.Nodup.sublist List.filter_sublist List.nodup_range
  have hi : i ∈ rem n listed := by rw [h]; simp
  have hin : i < n := List.mem_range.1 (List.mem_filter.1 hi).1
  have e1 : rem n (listed.setIfInBounds i true) = (rem n listed).filter fun k => k != i := by
    unfold rem
    rw [List.filter_filter]
    apply List.filter_congr
    intro k hk
    have hkn := List.mem_range.1 hk
    by_cases hki : k = i
    · subst hki
      simp [Array.getD_eq_getD_getElem?, hs, hkn]
    · simp [Array.getD_eq_getD_getElem?, Array.getElem?_setIfInBounds_ne (Ne.symm hki), hki]
  rw [e1, h, List.filter_append, List.filter_cons]
  have h1 : ∀ k ∈ l1, (k != i) = true := fun k hk => by
    rw [bne_iff_ne]; rintro rfl
    exact (List.nodup_append.1 hnd).2.2 k hk k (by simp) rfl
  have h2 : ∀ k ∈ l2, (k != i) = true := fun k hk => by
    rw [bne_iff_ne]; rintro rfl
    exact (List.nodup_cons.1 (List.nodup_append.1 hnd).2.1).1 hk
  rw [List.filter_eq_self.2 h1, List.filter_eq_self.2 h2]
  simp
theorem linear_sound {p : Nat → Bool} {ops : Array Oper} {K : St → Prop} (hB : orderB p ops = true) : ∀ (fuel t : Nat) (listed : Array Bool) (acc : List Nat), listed.size = ops.size → fuel = (rem ops.size listed).length →
    (∀ (j : Nat) (o : Oper), ops[j]? = some o → listed.getD j true = true → ∀ e ∈ direct o, listed.getD e true = true) →
    ∃ π, Region.linearise.go .any ops fuel t listed acc = acc.reverse ++ π ∧ ∀ s, AOps P p ops K (rem ops.size listed) s → AOps P p ops K π s := by
  intro fuel
  induction fuel with
  | zero =>
    intro t listed acc hs hf hc
    have : rem ops.size listed = [] := List.eq_nil_of_length_eq_zero hf.symm
    rw [this]
    exact ⟨[], by simp [Region.linearise.go], fun s hk => hk⟩
  | succ fuel ih =>
    intro t listed acc hs hf hc
    unfold orderB at hB
    simp only [Bool.and_eq_true, List.all_eq_true, List.mem_range, decide_eq_true_eq, Bool.or_eq_true] at hB
    obtain ⟨hdep, hB⟩ := hB
    have hready : ∀ (i : Nat) (o : Oper), ops[i]? = some o → (((ops[i]?).map (·.after.all fun e => !Region.binds .any e || listed.getD e.on false)).getD false = true ↔ ∀ e ∈ direct o, listed.getD e false = true) := by
      intro i o ho
      rw [ho]
      simp only [Option.map_some, Option.getD_some, Array.all_eq_true', direct, List.mem_map, List.mem_filter]
      constructor
      · rintro h e ⟨x, ⟨hx, hb⟩, rfl⟩
        have := h x (by simpa using hx)
        simpa [hb] using this
      · intro h x hx
        cases hb : Region.binds .any x with
        | false => rfl
        | true => simpa using h x.on ⟨x, ⟨by simpa using hx, hb⟩, rfl⟩
    unfold Region.linearise.go
    simp only
    generalize hrs : ((List.range ops.size).filter fun i => !listed.getD i true && ((ops[i]?).map (·.after.all fun e => !Region.binds .any e || listed.getD e.on false)).getD false) = rs
    have hmem : ∀ i, i ∈ rs → i ∈ rem ops.size listed ∧ ∃ o, ops[i]? = some o ∧ ∀ e ∈ direct o, listed.getD e false = true := by
      intro i hi
      rw [← hrs] at hi
      obtain ⟨h1, h2⟩ := List.mem_filter.1 hi
      simp only [Bool.and_eq_true] at h2
      refine ⟨List.mem_filter.2 ⟨h1, h2.1⟩, ?_⟩
      have hlt := List.mem_range.1 h1
      exact ⟨ops[i], by simp [hlt], (hready i _ (by simp [hlt])).1 h2.2⟩
    have hne : rs ≠ [] := by
      -- the least that is not listed is ready
      have hrem : rem ops.size listed ≠ [] := by intro h; rw [h] at hf; simp at hf
      obtain ⟨i, l, hil⟩ := List.exists_cons_of_ne_nil hrem
      have hi : i ∈ rem ops.size listed := by rw [hil]; simp
      have hin := List.mem_range.1 (List.mem_filter.1 hi).1
      have hiu := (List.mem_filter.1 hi).2
      have hleast : ∀ k, k < i → listed.getD k true = true := by
        intro k hki
        cases hk' : listed.getD k true with
        | true => rfl
        | false =>
          have hkm : k ∈ rem ops.size listed := List.mem_filter.2 ⟨List.mem_range.2 (by omega), by simp [hk']⟩
          have hp : (rem ops.size listed).Pairwise (· < ·) := List.Pairwise.filter _ List.pairwise_lt_range
          rw [hil] at hp hkm
          rcases List.mem_cons.1 hkm with rfl | hkm
          · omega
          · have := (List.pairwise_cons.1 hp).1 k hkm; omega
      intro hnil
      have : i ∈ rs := by
        rw [← hrs]
        refine List.mem_filter.2 ⟨List.mem_range.2 hin, ?_⟩
        simp only [Bool.and_eq_true]
        refine ⟨hiu, (hready i ops[i] (by simp [hin])).2 fun e he => ?_⟩
        have hlt : e < i := by
          have := (hB i hin).1 e
          simp [hin] at this
          exact this he
        have := hleast e hlt
        simp only [Array.getD_eq_getD_getElem?] at this ⊢
        rw [show listed[e]? = some (listed[e]'(by omega)) from by simp] at this ⊢
        simpa using this
      rw [hnil] at this; cases this
    have hpos : 0 < rs.length := List.length_pos_iff.2 hne
    have hlt : t % rs.length < rs.length := Nat.mod_lt _ hpos
    rw [List.getElem?_eq_getElem hlt]
    simp only
    obtain ⟨hi, o, ho, hd⟩ := hmem _ (List.getElem_mem hlt)
    generalize rs[t % rs.length] = i at *
    obtain ⟨l1, l2, hl⟩ := List.append_of_mem hi
    have hset := rem_set hs hl
    have hin := List.mem_range.1 (List.mem_filter.1 hi).1
    have hlisted : ∀ e, listed.getD e false = true → listed.getD e true = true := by
      intro e he
      simp only [Array.getD_eq_getD_getElem?] at he ⊢
      cases hq : listed[e]? with
      | none => rfl
      | some b => rw [hq] at he; simpa using he
    have hap : ∀ k ∈ l1, ApartAt p ops k i := by
      intro k hk1
      have hkm : k ∈ rem ops.size listed := by rw [hl]; simp [hk1]
      have hp : (rem ops.size listed).Pairwise (· < ·) := List.Pairwise.filter _ List.pairwise_lt_range
      rw [hl] at hp
      have hki : k < i := (List.pairwise_append.1 hp).2.2 k hk1 i (by simp)
      rcases ((hB i hin).2 k hki) with h | h
      · have hclosed := ancs_closed ops (fun e => listed.getD e true = true) hc ops.toList [] 0 rfl (Nat.zero_le _) (fun q => by simp) (fun j o _ _ k hk => by simp [List.getD_eq_getElem?_getD] at hk) i o ho (fun e he => hlisted e (hd e he)) k (by simpa using h)
        have := (List.mem_filter.1 hkm).2
        rw [hclosed] at this; cases this
      · exact apartB_sound h
    -- behind i, the rest
    have hc' : ∀ (j : Nat) (o' : Oper), ops[j]? = some o' → (listed.setIfInBounds i true).getD j true = true → ∀ e ∈ direct o', (listed.setIfInBounds i true).getD e true = true := by
      intro j o' ho' hj e he
      have key : ∀ q, listed.getD q true = true → (listed.setIfInBounds i true).getD q true = true := by
        intro q hq
        by_cases hqi : q = i
        · subst hqi; simp [Array.getD_eq_getD_getElem?]
        · simpa [Array.getD_eq_getD_getElem?, Array.getElem?_setIfInBounds_ne (Ne.symm hqi)] using hq
      by_cases hji : j = i
      · subst hji
        rw [ho] at ho'
        obtain rfl := Option.some.inj ho'
        exact key e (hlisted e (hd e he))
      · have : listed.getD j true = true := by simpa [Array.getD_eq_getD_getElem?, Array.getElem?_setIfInBounds_ne (Ne.symm hji)] using hj
        exact key e (hc j o' ho' this e he)
    obtain ⟨π, hgo, hπ⟩ := ih (t / rs.length) (listed.setIfInBounds i true) (i :: acc) (by simpa using hs) (by rw [hset]; rw [hl] at hf; simp at hf ⊢; omega) hc'
    refine ⟨i :: π, by rw [hgo]; simp, fun s hk => ?_⟩
    rw [hl] at hk
    have hk2 := aops_front l1 s hap hk
    rw [hset] at hπ
    exact aops_mono_list hπ i s hk2
/-- A region whose order is drawn. -/
theorem schedule_sound {p : Nat → Bool} {ops : Array Oper} {K : St → Prop} (hB : orderB p ops = true) (mixed : Bool) (t : Nat) (s : St) (hk : AOps P p ops K (List.range ops.size) s) : AOps P p ops K (Region.schedule mixed ops t) s := by
  have hdep : Region.departs ops = false := by
    unfold orderB at hB
    simp only [Bool.and_eq_true] at hB
    simpa using hB.1
  have hsch : Region.schedule mixed ops t = Region.linearise .any ops t := by
    unfold Region.schedule
    rw [hdep]; simp
  rw [hsch]
  have hrem : rem ops.size (Array.replicate ops.size false) = List.range ops.size := by
    unfold rem
    rw [List.filter_eq_self]
    intro i hi
    have := List.mem_range.1 hi
    simp [Array.getD_eq_getD_getElem?, this]
  obtain ⟨π, hgo, hπ⟩ := linear_sound (P := P) (K := K) hB ops.size t (Array.replicate ops.size false) [] (by simp) (by rw [hrem]; simp) (fun j o ho hj => by
    have hlt := (Array.getElem?_eq_some_iff.1 ho).1
    simp [Array.getD_eq_getD_getElem?, hlt] at hj)
  unfold Region.linearise
  rw [hgo, List.reverse_nil, List.nil_append]
  exact hπ s (by rw [hrem]; exact hk)
end
end Go.T
