/- Regions. Code, and whole functions. How operations are worked out. Ghost steps: what is weakened, what is not written any more; the end of a function; slices that grow. How operations are worked out, further: what is in a list, in a struct, in a block. How operations are worked out, further still. Arguments that read as data are trees; places below the heap's size do not change by a call that changes nothing. -/
import Derived.Test.YtdbnllfjmkmdiaaGreatDoorG1
import Derived.ProofKit
import Derived.OpenShut
set_option linter.unusedSimpArgs false
set_option linter.unusedVariables false
namespace Go.T
open Go
section
variable {P : Program}

theorem aops_cons {p : Nat → Bool} {ops : Array Oper} {K : St → Prop} {i : Nat} {l : List Nat} {s : St} {o : Oper} (ho : ops[i]? = some o) : AOps P p ops K (i :: l) s = GOp P (p i) ops o s (AOps P p ops K l) := by
 simp only [AOps, ho, GOp]
 try rfl
theorem aops_mono_list {p : Nat → Bool} {ops : Array Oper} {K : St → Prop} {l l' : List Nat} (h : ∀ s, AOps P p ops K l s → AOps P p ops K l' s) (i : Nat) (s : St) (hk : AOps P p ops K (i :: l) s) : AOps P p ops K (i :: l') s := by
 cases ho : ops[i]? with
 | none => simp only [AOps, ho] at hk ⊢; exact h s hk
 | some o => rw [aops_cons ho] at hk ⊢; exact gop_mono h hk

/-- May i and j, in this order in the text, change places? -/
def ApartAt (p : Nat → Bool) (ops : Array Oper) (i j : Nat) : Prop := ∀ a b, ops[i]? = some a → ops[j]? = some b → Apart p ops i j a b
theorem aops_front {p : Nat → Bool} {ops : Array Oper} {K : St → Prop} {j : Nat} {l2 : List Nat} : ∀ (l1 : List Nat) (s : St), (∀ i ∈ l1, ApartAt p ops i j) → AOps P p ops K (l1 ++ j :: l2) s → AOps P p ops K (j :: (l1 ++ l2)) s
 | [], s, _, hk => hk
 | i :: l1, s, h, hk => by
  have ih : ∀ s, AOps P p ops K (l1 ++ j :: l2) s → AOps P p ops K (j :: (l1 ++ l2)) s := fun s => aops_front l1 s (fun k hk => h k (by simp [hk]))
  have hk' := aops_mono_list ih i s hk
  have hap := h i (by simp)
  cases hi : ops[i]? with
  | none =>
   simp only [AOps, hi] at hk'
   show AOps P p ops K (j :: i :: (l1 ++ l2)) s
   exact aops_mono_list (l := l1 ++ l2) (fun s hs => by simp only [AOps, hi]; exact hs) j s hk'
  | some a =>
   cases hj : ops[j]? with
   | none =>
    show AOps P p ops K (j :: i :: (l1 ++ l2)) s
    have e : ∀ l, AOps P p ops K (j :: l) = AOps P p ops K l := fun l => by funext s; simp only [AOps, hj]
    rw [e] ; rw [e] at ih
    rw [aops_cons hi] at hk' ⊢
    exact gop_mono (fun s hs => by rw [e] at hs; exact hs) hk'
   | some b =>
    rw [aops_cons hi] at hk'
    have h2 : GOp P (p i) ops a s fun s1 => GOp P (p j) ops b s1 (AOps P p ops K (l1 ++ l2)) := gop_mono (fun s1 hs => by rw [aops_cons hj] at hs; exact hs) hk'
    have h3 := gop_swap (hap a b hi hj) h2
    show AOps P p ops K (j :: i :: (l1 ++ l2)) s
    rw [aops_cons hj]
    exact gop_mono (fun s1 hs => by rw [aops_cons hi]; exact hs) h3

/-- The operations that stand ahead by an edge. -/
def direct (o : Oper) : List Nat := (o.after.toList.filter fun e => Region.binds .any e).map (·.on)
/-- All that stand ahead, for each operation. -/
def ancs : List Oper → List (List Nat) → List (List Nat)
 | [], acc => acc
 | o :: l, acc => ancs l (acc ++ [(direct o ++ (direct o).flatMap fun j => acc.getD j []).eraseDups])
def apartB (p : Nat → Bool) (ops : Array Oper) (i j : Nat) : Bool :=
 match ops[i]?, ops[j]? with
 | some a, some b => (a.dst.toList.all fun t => !(readsOf ops b).contains t) && (b.dst.toList.all fun t => !(readsOf ops a).contains t) && (match a.dst, b.dst with | some t, some u => t != u | _, _ => true) &&
   ((cls (p i) a.op ≤ 1 && cls (p j) b.op ≤ 1) || (cls (p i) a.op == 0 && cls (p j) b.op == 2))
 | _, _ => true
theorem apartB_sound {p : Nat → Bool} {ops : Array Oper} {i j : Nat} (h : apartB p ops i j = true) : ApartAt p ops i j := by
 intro a b ha hb
 unfold apartB at h
 rw [ha, hb] at h
 simp only [Bool.and_eq_true, Bool.or_eq_true, List.all_eq_true, decide_eq_true_eq, beq_iff_eq] at h
 obtain ⟨⟨⟨h1, h2⟩, h3⟩, h4⟩ := h
 refine ⟨fun t ht hm => ?_, fun t ht hm => ?_, fun t ht hu => ?_, h4⟩
 ·have := h1 t (by simp [ht]); simp [hm] at this
 ·have := h2 t (by simp [ht]); simp [hm] at this
 ·rw [ht, hu] at h3; simp at h3
/-- The look at a region that draws its order. -/
def orderB (p : Nat → Bool) (ops : Array Oper) : Bool :=
 let an := ancs ops.toList []
 !Region.departs ops && (List.range ops.size).all fun j => (((ops[j]?).map direct).getD []).all (fun e => e < j) && (List.range j).all fun i => (an.getD j []).contains i || apartB p ops i j

/-- Where what stands ahead by an edge of what is listed is listed, all that stands ahead is. -/
theorem ancs_closed (ops : Array Oper) (L : Nat → Prop) (hL : ∀ j o, ops[j]? = some o → L j → ∀ e ∈ direct o, L e) :
  ∀ (l : List Oper) (acc : List (List Nat)) (n : Nat), acc.length = n → n ≤ ops.size → (∀ q, l[q]? = ops[n + q]?) → (∀ j o, ops[j]? = some o → (∀ e ∈ direct o, L e) → ∀ k ∈ acc.getD j [], L k) →
   ∀ j o, ops[j]? = some o → (∀ e ∈ direct o, L e) → ∀ k ∈ (ancs l acc).getD j [], L k
 | [], acc, n, hn, _, hl, h => h
 | o :: l, acc, n, hn, hn2, hl, h => by
  have hlt : n < ops.size := by
   have := hl 0
   simp at this
   exact (Array.getElem?_eq_some_iff.1 this.symm).1
  refine ancs_closed ops L hL l _ (n + 1) (by simp [hn]) hlt (fun q => by have := hl (q + 1); rw [← Nat.add_assoc, Nat.add_right_comm] at this; simpa using this) ?_
  intro j o' ho' hd k hk
  by_cases hj : j < acc.length
  ·have : (acc ++ [(direct o ++ (direct o).flatMap fun j => acc.getD j []).eraseDups]).getD j [] = acc.getD j [] := by
    simp only [List.getD_eq_getElem?_getD, List.getElem?_append_left hj]
   rw [this] at hk
   exact h j o' ho' hd k hk
  ·by_cases hj2 : j = acc.length
   ·have ho : ops[j]? = some o := by have := hl 0; simp at this; rw [hj2, hn]; exact this.symm
    rw [ho] at ho'
    obtain rfl := Option.some.inj ho'
    have : (acc ++ [(direct o ++ (direct o).flatMap fun j => acc.getD j []).eraseDups]).getD j [] = (direct o ++ (direct o).flatMap fun j => acc.getD j []).eraseDups := by
     simp [List.getD_eq_getElem?_getD, hj2]
    rw [this] at hk
    have hk' := List.mem_eraseDups.1 hk
    rcases List.mem_append.1 hk' with hk' | hk'
    ·exact hd k hk'
    ·obtain ⟨e, he, hke⟩ := List.mem_flatMap.1 hk'
     have hLe := hd e he
     cases hoe : ops[e]? with
     | none =>
      have : acc.getD e [] = [] ∨ True := .inr trivial
      by_cases hea : e < acc.length
      ·rw [Array.getElem?_eq_none_iff] at hoe; omega
      ·simp [List.getD_eq_getElem?_getD, List.getElem?_eq_none (Nat.not_lt.1 hea)] at hke
     | some oe => exact h e oe hoe (hL e oe hoe hLe) k hke
   ·have : (acc ++ [(direct o ++ (direct o).flatMap fun j => acc.getD j []).eraseDups]).getD j [] = [] := by
     simp [List.getD_eq_getElem?_getD]
     rw [List.getElem?_eq_none (by simp; omega)]; rfl
    rw [this] at hk; cases hk

/-- What is not yet listed. -/
def rem (n : Nat) (listed : Array Bool) : List Nat := (List.range n).filter fun i => !listed.getD i true
theorem rem_set {n : Nat} {listed : Array Bool} (hs : listed.size = n) {i : Nat} {l1 l2 : List Nat} (h : rem n listed = l1 ++ i :: l2) : rem n (listed.setIfInBounds i true) = l1 ++ l2 := by
 have hnd : (l1 ++ i :: l2).Nodup := by rw [← h]; exact List.Nodup.sublist List.filter_sublist List.nodup_range
 have hi : i ∈ rem n listed := by rw [h]; simp
 have hin : i < n := List.mem_range.1 (List.mem_filter.1 hi).1
 have e1 : rem n (listed.setIfInBounds i true) = (rem n listed).filter fun k => k != i := by
  unfold rem
  rw [List.filter_filter]
  apply List.filter_congr
  intro k hk
  have hkn := List.mem_range.1 hk
  by_cases hki : k = i
  ·subst hki
   simp [Array.getD_eq_getD_getElem?, hs, hkn]
  ·simp [Array.getD_eq_getD_getElem?, Array.getElem?_setIfInBounds_ne (Ne.symm hki), hki]
 rw [e1, h, List.filter_append, List.filter_cons]
 have h1 : ∀ k ∈ l1, (k != i) = true := fun k hk => by
  rw [bne_iff_ne]; rintro rfl
  exact (List.nodup_append.1 hnd).2.2 k hk k (by simp) rfl
 have h2 : ∀ k ∈ l2, (k != i) = true := fun k hk => by
  rw [bne_iff_ne]; rintro rfl
  exact (List.nodup_cons.1 (List.nodup_append.1 hnd).2.1).1 hk
 rw [List.filter_eq_self.2 h1, List.filter_eq_self.2 h2]
 simp
theorem linear_sound {p : Nat → Bool} {ops : Array Oper} {K : St → Prop} (hB : orderB p ops = true) : ∀ (fuel t : Nat) (listed : Array Bool) (acc : List Nat), listed.size = ops.size → fuel = (rem ops.size listed).length →
  (∀ (j : Nat) (o : Oper), ops[j]? = some o → listed.getD j true = true → ∀ e ∈ direct o, listed.getD e true = true) →
  ∃ π, Region.linearise.go .any ops fuel t listed acc = acc.reverse ++ π ∧ ∀ s, AOps P p ops K (rem ops.size listed) s → AOps P p ops K π s := by
 intro fuel
 induction fuel with
 | zero =>
  intro t listed acc hs hf hc
  have : rem ops.size listed = [] := List.eq_nil_of_length_eq_zero hf.symm
  rw [this]
  exact ⟨[], by simp [Region.linearise.go], fun s hk => hk⟩
 | succ fuel ih =>
  intro t listed acc hs hf hc
  unfold orderB at hB
  simp only [Bool.and_eq_true, List.all_eq_true, List.mem_range, decide_eq_true_eq, Bool.or_eq_true] at hB
  obtain ⟨hdep, hB⟩ := hB
  have hready : ∀ (i : Nat) (o : Oper), ops[i]? = some o → (((ops[i]?).map (·.after.all fun e => !Region.binds .any e || listed.getD e.on false)).getD false = true ↔ ∀ e ∈ direct o, listed.getD e false = true) := by
   intro i o ho
   rw [ho]
   simp only [Option.map_some, Option.getD_some, Array.all_eq_true', direct, List.mem_map, List.mem_filter]
   constructor
   ·rintro h e ⟨x, ⟨hx, hb⟩, rfl⟩
    have := h x (by simpa using hx)
    simpa [hb] using this
   ·intro h x hx
    cases hb : Region.binds .any x with
    | false => rfl
    | true => simpa using h x.on ⟨x, ⟨by simpa using hx, hb⟩, rfl⟩
  unfold Region.linearise.go
  simp only
  generalize hrs : ((List.range ops.size).filter fun i => !listed.getD i true && ((ops[i]?).map (·.after.all fun e => !Region.binds .any e || listed.getD e.on false)).getD false) = rs
  have hmem : ∀ i, i ∈ rs → i ∈ rem ops.size listed ∧ ∃ o, ops[i]? = some o ∧ ∀ e ∈ direct o, listed.getD e false = true := by
   intro i hi
   rw [← hrs] at hi
   obtain ⟨h1, h2⟩ := List.mem_filter.1 hi
   simp only [Bool.and_eq_true] at h2
   refine ⟨List.mem_filter.2 ⟨h1, h2.1⟩, ?_⟩
   have hlt := List.mem_range.1 h1
   exact ⟨ops[i], by simp [hlt], (hready i _ (by simp [hlt])).1 h2.2⟩
  have hne : rs ≠ [] := by
   -- the least that is not listed is ready
   have hrem : rem ops.size listed ≠ [] := by intro h; rw [h] at hf; simp at hf
   obtain ⟨i, l, hil⟩ := List.exists_cons_of_ne_nil hrem
   have hi : i ∈ rem ops.size listed := by rw [hil]; simp
   have hin := List.mem_range.1 (List.mem_filter.1 hi).1
   have hiu := (List.mem_filter.1 hi).2
   have hleast : ∀ k, k < i → listed.getD k true = true := by
    intro k hki
    cases hk' : listed.getD k true with
    | true => rfl
    | false =>
     have hkm : k ∈ rem ops.size listed := List.mem_filter.2 ⟨List.mem_range.2 (by omega), by simp [hk']⟩
     have hp : (rem ops.size listed).Pairwise (· < ·) := List.Pairwise.filter _ List.pairwise_lt_range
     rw [hil] at hp hkm
     rcases List.mem_cons.1 hkm with rfl | hkm
     ·omega
     ·have := (List.pairwise_cons.1 hp).1 k hkm; omega
   intro hnil
   have : i ∈ rs := by
    rw [← hrs]
    refine List.mem_filter.2 ⟨List.mem_range.2 hin, ?_⟩
    simp only [Bool.and_eq_true]
    refine ⟨hiu, (hready i ops[i] (by simp [hin])).2 fun e he => ?_⟩
    have hlt : e < i := by
     have := (hB i hin).1 e
     simp [hin] at this
     exact this he
    have := hleast e hlt
    simp only [Array.getD_eq_getD_getElem?] at this ⊢
    rw [show listed[e]? = some (listed[e]'(by omega)) from by simp] at this ⊢
    simpa using this
   rw [hnil] at this; cases this
  have hpos : 0 < rs.length := List.length_pos_iff.2 hne
  have hlt : t % rs.length < rs.length := Nat.mod_lt _ hpos
  rw [List.getElem?_eq_getElem hlt]
  simp only
  obtain ⟨hi, o, ho, hd⟩ := hmem _ (List.getElem_mem hlt)
  generalize rs[t % rs.length] = i at *
  obtain ⟨l1, l2, hl⟩ := List.append_of_mem hi
  have hset := rem_set hs hl
  have hin := List.mem_range.1 (List.mem_filter.1 hi).1
  have hlisted : ∀ e, listed.getD e false = true → listed.getD e true = true := by
   intro e he
   simp only [Array.getD_eq_getD_getElem?] at he ⊢
   cases hq : listed[e]? with
   | none => rfl
   | some b => rw [hq] at he; simpa using he
  have hap : ∀ k ∈ l1, ApartAt p ops k i := by
   intro k hk1
   have hkm : k ∈ rem ops.size listed := by rw [hl]; simp [hk1]
   have hp : (rem ops.size listed).Pairwise (· < ·) := List.Pairwise.filter _ List.pairwise_lt_range
   rw [hl] at hp
   have hki : k < i := (List.pairwise_append.1 hp).2.2 k hk1 i (by simp)
   rcases ((hB i hin).2 k hki) with h | h
   ·have hclosed := ancs_closed ops (fun e => listed.getD e true = true) hc ops.toList [] 0 rfl (Nat.zero_le _) (fun q => by simp) (fun j o _ _ k hk => by simp [List.getD_eq_getElem?_getD] at hk) i o ho (fun e he => hlisted e (hd e he)) k (by simpa using h)
    have := (List.mem_filter.1 hkm).2
    rw [hclosed] at this; cases this
   ·exact apartB_sound h
  -- behind i, the rest
  have hc' : ∀ (j : Nat) (o' : Oper), ops[j]? = some o' → (listed.setIfInBounds i true).getD j true = true → ∀ e ∈ direct o', (listed.setIfInBounds i true).getD e true = true := by
   intro j o' ho' hj e he
   have key : ∀ q, listed.getD q true = true → (listed.setIfInBounds i true).getD q true = true := by
    intro q hq
    by_cases hqi : q = i
    ·subst hqi; simp [Array.getD_eq_getD_getElem?]
    ·simpa [Array.getD_eq_getD_getElem?, Array.getElem?_setIfInBounds_ne (Ne.symm hqi)] using hq
   by_cases hji : j = i
   ·subst hji
    rw [ho] at ho'
    obtain rfl := Option.some.inj ho'
    exact key e (hlisted e (hd e he))
   ·have : listed.getD j true = true := by simpa [Array.getD_eq_getD_getElem?, Array.getElem?_setIfInBounds_ne (Ne.symm hji)] using hj
    exact key e (hc j o' ho' this e he)
  obtain ⟨π, hgo, hπ⟩ := ih (t / rs.length) (listed.setIfInBounds i true) (i :: acc) (by simpa using hs) (by rw [hset]; rw [hl] at hf; simp at hf ⊢; omega) hc'
  refine ⟨i :: π, by rw [hgo]; simp, fun s hk => ?_⟩
  rw [hl] at hk
  have hk2 := aops_front l1 s hap hk
  rw [hset] at hπ
  exact aops_mono_list hπ i s hk2
/-- A region whose order is drawn. -/
theorem schedule_sound {p : Nat → Bool} {ops : Array Oper} {K : St → Prop} (hB : orderB p ops = true) (mixed : Bool) (t : Nat) (s : St) (hk : AOps P p ops K (List.range ops.size) s) : AOps P p ops K (Region.schedule mixed ops t) s := by
 have hdep : Region.departs ops = false := by
  unfold orderB at hB
  simp only [Bool.and_eq_true] at hB
  simpa using hB.1
 have hsch : Region.schedule mixed ops t = Region.linearise .any ops t := by
  unfold Region.schedule
  rw [hdep]; simp
 rw [hsch]
 have hrem : rem ops.size (Array.replicate ops.size false) = List.range ops.size := by
  unfold rem
  rw [List.filter_eq_self]
  intro i hi
  have := List.mem_range.1 hi
  simp [Array.getD_eq_getD_getElem?, this]
 obtain ⟨π, hgo, hπ⟩ := linear_sound (P := P) (K := K) hB ops.size t (Array.replicate ops.size false) [] (by simp) (by rw [hrem]; simp) (fun j o ho hj => by
  have hlt := (Array.getElem?_eq_some_iff.1 ho).1
  simp [Array.getD_eq_getD_getElem?, hlt] at hj)
 unfold Region.linearise
 rw [hgo, List.reverse_nil, List.nil_append]
 exact hπ s (by rw [hrem]; exact hk)
end
end Go.T
namespace Go.T
open Go
section
variable {P : Program}

def Lift (C : Ctx) (N : Nat) (Q : Exit → St → Prop) : Exit → Act → World → Prop := fun e a w => ∃ s, Q e s ∧ Rel C s a w ∧ a.tmps.size = N
/-- Code over trees. -/
def AWp (P : Program) (N : Nat) (c : Code) (Q : Exit → St → Prop) (s : St) : Prop := ∀ (C : Ctx) (a : Act) (w : World), Rel C s a w → a.tmps.size = N → c.wp P (Lift C N Q) a w

theorem AWp.mono {N : Nat} {c : Code} {Q Q' : Exit → St → Prop} {s : St} (h : AWp P N c Q s) (hq : ∀ e s, Q e s → Q' e s) : AWp P N c Q' s :=
 fun C a w hr hN => Code.wp_mono (fun e a w ⟨s', h1, h2⟩ => ⟨s', hq _ _ h1, h2⟩) (h C a w hr hN)
theorem AWp.skip {N : Nat} {Q : Exit → St → Prop} {s : St} (h : Q .normal s) : AWp P N .skip Q s := fun C a w hr hN => wp_skip ⟨s, h, hr, hN⟩
theorem AWp.ret {N : Nat} {Q : Exit → St → Prop} {s : St} (h : Q .ret s) : AWp P N .ret Q s := fun C a w hr hN => wp_ret ⟨s, h, hr, hN⟩
theorem AWp.exit {N : Nat} {id : Nat} {Q : Exit → St → Prop} {s : St} (h : Q (.exit id) s) : AWp P N (.exit id) Q s := fun C a w hr hN => wp_exit ⟨s, h, hr, hN⟩
/-- What follows where the code goes on normally. -/
def thenA (R : St → Prop) (Q : Exit → St → Prop) : Exit → St → Prop
 | .normal, s => R s
 | e, s => Q e s
theorem AWp.seq {N : Nat} {x y : Code} {Q : Exit → St → Prop} {s : St} (h : AWp P N x (thenA (AWp P N y Q) Q) s) : AWp P N (.seq x y) Q s := fun C a w hr hN =>
 wp_seq (Code.wp_mono (fun e a' w' ⟨s', h1, h2, h3⟩ => by
  cases e with
  | normal => exact h1 C a' w' h2 h3
  | _ => exact ⟨s', h1, h2, h3⟩) (h C a w hr hN))
theorem eval_bool {C : Ctx} {s : St} {a : Act} {w : World} (hr : Rel C s a w) {c : Operand} {b : Bool} (h : s.eval c = .bool b) : a.eval c = .bool b := by
 obtain ⟨S, _, _, hsl⟩ := hr.ex
 have := eval_rep hsl c
 rw [h] at this
 generalize a.eval c = v at this
 cases this; rfl
theorem AWp.cond {N : Nat} {c : Operand} {x y : Code} {Q : Exit → St → Prop} {s : St} {b : Bool} (hc : s.eval c = .bool b) (ht : b = true → AWp P N x Q s) (hf : b = false → AWp P N y Q s) : AWp P N (.cond c x y) Q s := fun C a w hr hN => by
 refine wp_cond (eval_bool hr hc) ?_
 cases b
 ·exact hf rfl C a w hr hN
 ·exact ht rfl C a w hr hN
def blockA (id : Nat) (Q : Exit → St → Prop) : Exit → St → Prop
 | .exit id', s => if id' = id then Q .normal s else Q (.exit id') s
 | e, s => Q e s
theorem AWp.block {N : Nat} {id : Nat} {c : Code} {Q : Exit → St → Prop} {s : St} (h : AWp P N c (blockA id Q) s) : AWp P N (.block id c) Q s := fun C a w hr hN =>
 wp_block (Code.wp_mono (fun e a' w' ⟨s', h1, h2, h3⟩ => by
  cases e with
  | exit id' =>
   simp only [blockA, Exit.inBlock] at h1 ⊢
   split <;> rename_i hi
   ·rw [if_pos hi] at h1; exact ⟨s', h1, h2, h3⟩
   ·rw [if_neg hi] at h1; exact ⟨s', h1, h2, h3⟩
  | _ => exact ⟨s', h1, h2, h3⟩) (h C a w hr hN))
/-- A loop: I n holds at a round's head, n goes down. -/
theorem AWp.loop {N : Nat} {c : Code} {Q : Exit → St → Prop} {s : St} (I : Nat → St → Prop) (n : Nat) (h0 : I n s) (round : ∀ n s, I n s → AWp P N c (thenA (fun s' => ∃ m, m < n ∧ I m s') Q) s) : AWp P N (.loop c) Q s := by
 intro C a w hr hN b k cs
 have key : ∀ n s a w, I n s → Rel C s a w → a.tmps.size = N →
   ∃ e a' w', Lift C N Q e a' w' ∧ Arrives P (lone (b.at a (.code c :: .inLoop c :: k)) cs w) b k cs e a' w' := by
  intro n
  induction n using Nat.strongRecOn with
  | _ n ih =>
   intro s a w hI hr hN
   obtain ⟨e, a₁, w₁, ⟨s₁, hq, hr₁, hN₁⟩, harr⟩ := round n s hI C a w hr hN b (.inLoop c :: k) cs
   cases e with
   | normal =>
    obtain ⟨m, hlt, hI₁⟩ := hq
    obtain ⟨e₂, a₂, w₂, hq₂, harr₂⟩ := ih m hlt s₁ a₁ w₁ hI₁ hr₁ hN₁
    exact ⟨e₂, a₂, w₂, hq₂, .of_steps (Steps.trans harr (.one step_inLoop)) harr₂⟩
   | exit id => exact ⟨_, a₁, w₁, ⟨s₁, hq, hr₁, hN₁⟩, .pass (x := .inLoop c) rfl (fun _ _ => .inl (by simp)) harr⟩
   | goto l => exact ⟨_, a₁, w₁, ⟨s₁, hq, hr₁, hN₁⟩, .pass (x := .inLoop c) rfl (fun _ _ => .inl (by simp)) harr⟩
   | ret => exact ⟨_, a₁, w₁, ⟨s₁, hq, hr₁, hN₁⟩, .pass (x := .inLoop c) rfl (fun _ _ => .inl (by simp)) harr⟩
   | panic ch => exact ⟨_, a₁, w₁, ⟨s₁, hq, hr₁, hN₁⟩, .pass (x := .inLoop c) rfl (fun _ _ => .inl (by simp)) harr⟩
   | outgrown => exact ⟨_, a₁, w₁, ⟨s₁, hq, hr₁, hN₁⟩, .pass (x := .inLoop c) rfl (fun _ _ => .inl (by simp)) harr⟩
 obtain ⟨e, a', w', hq, harr⟩ := key n s a w h0 hr hN
 exact ⟨e, a', w', hq, .of_steps (.one step_loop) harr⟩

/-- Operations of a list, one behind the other; i: the number of the first. -/
def AOpsL (P : Program) (p : Nat → Bool) (ops : Array Oper) (K : St → Prop) : Nat → List Oper → St → Prop
 | _, [], s => K s
 | i, o :: l, s => GOp P (p i) ops o s (AOpsL P p ops K (i + 1) l)
theorem aopsL_eq {p : Nat → Bool} {ops : Array Oper} {K : St → Prop} : ∀ (l : List Oper) (i : Nat), (∀ j, l[j]? = ops[i + j]?) → AOps P p ops K (List.range' i l.length) = AOpsL P p ops K i l
 | [], i, _ => rfl
 | o :: l, i, h => by
  have h0 : ops[i]? = some o := by simpa using (h 0).symm
  have ih := aopsL_eq (p := p) (K := K) l (i + 1) (fun j => by have := h (j + 1); simpa [Nat.add_assoc, Nat.add_comm 1 j] using this)
  funext s
  simp only [List.length_cons, List.range'_succ, AOpsL]
  rw [aops_cons h0, ih]
def dstB (N : Nat) (ops : Array Oper) : Bool := ops.all fun o => match o.dst with | some d => d < N | none => true
/-- The look at a region. -/
def regB (N : Nat) (p : Nat → Bool) (ops : Array Oper) (draw : Bool) : Bool := dstB N ops && (!draw || orderB p ops)
theorem AWp.region {N : Nat} {id : Nat} {ops : Array Oper} {draw : Bool} {Q : Exit → St → Prop} {s : St} (p : Nat → Bool) (hB : regB N p ops draw = true) (h : AOpsL P p ops (Q .normal) 0 ops.toList s) : AWp P N (.region id ops draw) Q s := by
 intro C a w hr hN
 unfold regB at hB
 simp only [Bool.and_eq_true, Bool.or_eq_true] at hB
 obtain ⟨hd, ho⟩ := hB
 have hb : ∀ (j : Nat) (d : Tmp), (ops[j]?).bind (·.dst) = some d → d < N := by
  intro j d hj
  unfold dstB at hd
  rw [Array.all_eq_true'] at hd
  cases hq : ops[j]? with
  | none => rw [hq] at hj; cases hj
  | some o =>
   rw [hq] at hj
   have := hd o (Array.mem_of_getElem? hq)
   simp at hj
   rw [hj] at this
   simpa using this
 rw [← aopsL_eq ops.toList 0 (fun j => by simp), Array.length_toList, ← List.range_eq_range'] at h
 have hQ : NextOk C (Q .normal) N (Lift C N Q .normal) := fun s a w h1 h2 h3 => ⟨s, h1, h2, h3⟩
 cases draw with
 | false => exact wp_region (aops_sound hb hQ _ s a w hr hN h)
 | true =>
  have ho' : orderB p ops = true := by simpa using ho
  refine wp_region_draw fun t => ?_
  refine aops_sound hb hQ _ s a _ ?_ hN (schedule_sound ho' _ t s h)
  obtain ⟨S, h1, h2, h3⟩ := hr.ex
  exact ⟨⟨S, h1, memRep_drew h2 _, fun t => Rep.mono (w := w) (w' := { w with drawn := w.drawn + 1 }) (fun _ _ => rfl) (fun _ h => h) (h3 t)⟩, hr.defers, hr.keep.drew _, hr.dom⟩

/-- A value under a memory seen as another one under another memory. -/
def View (m : Mem) (r : AV) (m' : Mem) (r' : AV) : Prop :=
 ∀ w S v, MemRep w S m → Rep w S r v → ∃ S', (∀ b, S b → S' b) ∧ (∀ b, S' b → S b ∨ m b ≠ none) ∧ MemRep w S' m' ∧ Rep w S' r' v ∧ ∀ g b, m' g = some b → m g ≠ none
theorem View.refl (m : Mem) (r : AV) : View m r m r := fun w S v h1 h2 => ⟨S, fun _ h => h, fun _ h => .inl h, h1, h2, fun g b h => by rw [h]; simp⟩
theorem View.trans {m m1 m2 : Mem} {r r1 r2 : AV} (h : View m r m1 r1) (k : View m1 r1 m2 r2) : View m r m2 r2 := fun w S v h1 h2 => by
 obtain ⟨S1, a1, a2, a3, a4, a5⟩ := h w S v h1 h2
 obtain ⟨S2, b1, b2, b3, b4, b5⟩ := k w S1 v a3 a4
 refine ⟨S2, fun b hb => b1 b (a1 b hb), fun b hb => ?_, b3, b4, fun g b hg => ?_⟩
 ·rcases b2 b hb with h | h
  ·exact a2 b h
  ·cases hq : m1 b with
   | none => exact absurd hq h
   | some x => exact .inr (a5 b x hq)
 ·cases hq : m1 g with
  | none => exact absurd hq (b5 g b hg)
  | some x => exact a5 g x hq
/-- A part of the memory is left. -/
theorem View.forget {m m' : Mem} (h : ∀ g b, m' g = some b → m g = some b) (r : AV) : View m r m' r := fun w S v h1 h2 =>
 ⟨S, fun _ h => h, fun _ h => .inl h, ⟨fun g b hg => h1.blk g b (h g b hg), fun b hb => ⟨(by
  cases hq : m' b with
  | none => rfl
  | some x => have := (h1.apart b hb).1; rw [h b x hq] at this; cases this), (h1.apart b hb).2⟩⟩, h2, fun g b hg => by rw [h g b hg]; simp⟩
/-- A slice that is not written any more. -/
theorem View.freeze {m : Mem} {g n c e : Nat} {T : TypeId} {xs : List AV} (hg : m g = some (.arr T e c xs)) (hn : xs.length = n) : View m (.own g n c) (m.del g) (.lst false e xs) := fun w S v h1 h2 => by
 obtain ⟨vs, us, hb, hr, hl, he, hle⟩ := h1.blk g _ hg
 have hSS : ∀ b, S b → S b ∨ b = g := fun b hb => .inl hb
 refine ⟨fun b => S b ∨ b = g, hSS, fun b hb => hb.imp id (fun h => by rw [h, hg]; simp), ⟨fun g' b' hg' => ?_, fun b hb => ?_⟩, ?_, fun g' b' hg' => ?_⟩
 ·unfold Mem.del at hg'
  split at hg'
  ·cases hg'
  ·exact (h1.blk g' b' hg').mono (fun _ _ => rfl) hSS rfl
 ·rcases hb with hb | rfl
  ·refine ⟨?_, (h1.apart b hb).2⟩
   unfold Mem.del
   split
   ·rfl
   ·exact (h1.apart b hb).1
  ·exact ⟨by simp [Mem.del], (Array.getElem?_eq_some_iff.1 hb).1⟩
 ·cases h2
  subst hn
  exact .lst false e g 0 c (.inr rfl) he hle (fun h => by cases h) (Cells.of_block hb (hr.mono (fun _ _ => rfl) hSS) 0 (fun i v hv => by
   have : i < vs.length := (List.getElem?_eq_some_iff.1 hv).1
   simp [List.getElem?_append_left this, hv]))
 ·unfold Mem.del at hg'
  split at hg'
  ·cases hg'
  ·rw [hg']; simp

/-- A function's results. -/
def resA (P : Program) (m : Mem) (slots : Nat → AV) : List ResultVar → Option (List AV)
 | [] => some []
 | .tmp t :: l => match resA P m slots l with | some vs => some (slots t :: vs) | none => none
 | .cell a t :: l => match loadA P m t (slots a), resA P m slots l with | some v, some vs => some (v :: vs) | _, _ => none

/-- One result. -/
def resF (tmps : Array Value) : ResultVar → Sem Value
 | .tmp t => pure (tmps.getD t undef)
 | .cell b t => do loadVar t (← asAddr (tmps.getD b undef))
theorem results_eq (fn : Func) (tmps : Array Value) : results fn tmps = (fn.results.mapM (resF tmps) >>= fun vs => pure (if h : vs.size = 1 then vs[0] else .tuple vs)) := by
 unfold results
 congr 2
theorem resA_sound {w : World} {S : Nat → Prop} {m : Mem} (hm : MemRep w S m) {s : St} (hs : s.mem = m) {a : Act} (hsl : ∀ t, Rep w S (s.slots t) (a.tmps.getD t undef)) : ∀ (l : List ResultVar) (vs : List AV), resA P m s.slots l = some vs →
  ∃ us, (l.mapM (resF a.tmps)).run P w = .ok us w ∧ Reps w S vs us
 | [], vs, h => by
  obtain rfl := Option.some.inj h
  exact ⟨[], rfl, .nil⟩
 | .tmp t :: l, vs, h => by
  simp only [resA] at h
  split at h
  ·rename_i vs' hv
   obtain rfl := Option.some.inj h
   obtain ⟨us, h1, h2⟩ := resA_sound hm hs hsl l vs' hv
   refine ⟨_ :: us, ?_, .cons (hsl t) h2⟩
   rw [List.mapM_cons]
   simp only [resF, pure_bind, Sem.run_bind, h1, Result.andThen_ok, Sem.run_pure]
  ·cases h
 | .cell b t :: l, vs, h => by
  simp only [resA] at h
  split at h
  ·rename_i v vs' hv hvs
   obtain rfl := Option.some.inj h
   obtain ⟨us, h1, h2⟩ := resA_sound hm hs hsl l vs' hvs
   obtain ⟨u, h3, h4⟩ := loadA_sound (P := P) hm (hsl b) hv
   refine ⟨u :: us, ?_, .cons h4 h2⟩
   have h5 : (resF a.tmps (.cell b t)).run P w = .ok u w := by
    show ((do loadVar t (← asAddr (a.tmps.getD b undef))) : Sem Value).run P w = .ok u w
    generalize a.tmps.getD b undef = q at h3 ⊢
    cases q with
    | pointer o =>
     cases o with
     | none => simp [Instr.loadAt, Instr.sureAddr] at h3
     | some ad => simpa [Instr.loadAt, Instr.sureAddr, asAddr] using h3
    | _ => simp [Instr.loadAt, Instr.sureAddr] at h3
   rw [List.mapM_cons]
   rw [run_ok h5]
   simp only [Sem.run_bind, h1, Result.andThen_ok, Sem.run_pure]
  ·cases h

def oneOf : List AV → AV
 | [v] => v
 | vs => .tup vs
/-- What holds at a function's end. -/
def Post (P : Program) (fn : Func) (k : AV → Mem → Prop) : Exit → St → Prop
 | .normal, s | .ret, s => ∃ vs r m', resA P s.mem s.slots fn.results.toList = some vs ∧ View s.mem (oneOf vs) m' r ∧ k r m'
 | _, _ => False
theorem results_sound {w : World} {S : Nat → Prop} {s : St} (hm : MemRep w S s.mem) {a : Act} (hsl : ∀ t, Rep w S (s.slots t) (a.tmps.getD t undef)) {fn : Func} {vs : List AV} (h : resA P s.mem s.slots fn.results.toList = some vs) :
  ∃ v, (results fn a.tmps).run P w = .ok v w ∧ Rep w S (oneOf vs) v := by
 obtain ⟨us, h1, h2⟩ := resA_sound (P := P) hm rfl hsl _ _ h
 have hl := h2.length
 have hrun : (fn.results.mapM (resF a.tmps)).run P w = .ok us.toArray w := by
  rw [← Array.toArray_toList (xs := fn.results), List.mapM_toArray]
  simp only [Sem.run_map, h1, Result.andThen_ok]
 rw [results_eq, run_ok hrun]
 cases vs with
 | nil => cases h2; exact ⟨_, rfl, .tup .nil⟩
 | cons v vs =>
  cases h2 with
  | cons hv ht =>
   cases vs with
   | nil => cases ht; exact ⟨_, rfl, hv⟩
   | cons v' vs =>
    cases ht with
    | cons hv' ht => exact ⟨_, by simp, .tup (.cons hv (.cons hv' ht))⟩

/-- The state in which a function begins. -/
def St.init (args : List AV) (m : Mem) : St := ⟨fun t => args.getD t (.tup []), m⟩
theorem init_rep {w : World} {S : Nat → Prop} {args : List AV} {cargs : List Value} (h : Reps w S args cargs) (k : Nat) (m : Mem) : ∀ t, Rep w S ((St.init args m).slots t) ((cargs.toArray ++ Array.replicate k undef).getD t undef) := by
 intro t
 have hu : Rep w S (.tup []) undef := Rep.tup .nil
 have hl := h.length
 simp only [St.init, List.getD_eq_getElem?_getD, Array.getD_eq_getD_getElem?]
 by_cases ht : t < args.length
 ·obtain ⟨v, hv, hr⟩ := h.get t args[t] (List.getElem?_eq_getElem ht)
  rw [List.getElem?_eq_getElem ht, Array.getElem?_append_left (by simp; omega)]
  simp [hv]; exact hr
 ·rw [List.getElem?_eq_none (by omega)]
  rw [Array.getElem?_append_right (by simp; omega)]
  by_cases h2 : t - cargs.toArray.size < k
  ·rw [Array.getElem?_replicate]; simp [h2]; split <;> exact hu
  ·rw [Array.getElem?_eq_none (by simp at h2 ⊢; omega)]; exact hu

theorem wcall_of {n : FuncId} {fn : Func} {c : Code} (hf : P.funcs[n]? = some fn) (hname : (fn.name == "runtime.NumGoroutine") = false) (hb : fn.body = some c) {args : List AV} (hN : args.length ≤ fn.ntmps) {m : Mem} {k : AV → Mem → Prop}
  (h : AWp P fn.ntmps c (Post P fn k) (St.init args m)) : WCall P n args m k := by
 refine ⟨⟨fn, hf, hname, by rw [hb]; rfl⟩, fun w S cargs hm hr => ?_⟩
 have hl := hr.length
 refine calls_of_wp hf hb ?_
 let C : Ctx := ⟨w, fun g => m g ≠ none, S⟩
 have hrel : Rel C (St.init args m) { tmps := cargs.toArray ++ Array.replicate (fn.ntmps - cargs.toArray.size) undef, defers := [] } w :=
  ⟨⟨S, ⟨fun _ h => h, fun _ h => .inl h⟩, hm, init_rep hr _ m⟩, rfl, Keep.refl _ _, fun g b hg => .inl (by show m g ≠ none; rw [show m g = some b from hg]; simp)⟩
 refine Code.wp_mono ?_ (h C _ w hrel (by simp; omega))
 rintro e a' w' ⟨s, hpost, hrel', hN'⟩
 obtain ⟨S', hS, hm', hsl⟩ := hrel'.ex
 have fin : (∃ vs r m', resA P s.mem s.slots fn.results.toList = some vs ∧ View s.mem (oneOf vs) m' r ∧ k r m') → a'.defers = [] ∧ ∃ v, (results fn a'.tmps).run P w' = .ok v w' ∧ ∃ v' r m'' S'', Ending.returned v = .returned v' ∧ k r m'' ∧ (∀ b, S b → S'' b) ∧ (∀ b, S'' b → S b ∨ m b ≠ none ∨ w.heap.size ≤ b) ∧ MemRep w' S'' m'' ∧ Rep w' S'' r v' ∧ Keep (fun g => m g ≠ none) w w' ∧ (∀ g b, m'' g = some b → m g ≠ none ∨ w.heap.size ≤ g) := by
  rintro ⟨vs, r, m', h1, h2, h3⟩
  obtain ⟨v, hv, hrv⟩ := results_sound (P := P) hm' hsl h1
  obtain ⟨S'', q1, q2, q3, q4, q5⟩ := h2 w' S' v hm' hrv
  have hD : ∀ b, s.mem b ≠ none → m b ≠ none ∨ w.heap.size ≤ b := fun b hb => by
   cases hq : s.mem b with
   | none => exact absurd hq hb
   | some x => exact hrel'.dom b x hq
  refine ⟨hrel'.defers, v, hv, v, r, m', S'', rfl, h3, fun b hb => q1 b (hS.1 b hb), fun b hb => ?_, q3, q4, hrel'.keep, fun g b hg => hD g (q5 g b hg)⟩
  rcases q2 b hb with h | h
  ·exact hS.2 b h
  ·exact .inr (hD b h)
 cases e with
 | normal => exact fin hpost
 | ret => exact fin hpost
 | _ => exact hpost.elim
/-- A function that only answers: walked with no memory that may be written. -/
theorem pcall_of {n : FuncId} {fn : Func} {c : Code} (hf : P.funcs[n]? = some fn) (hname : (fn.name == "runtime.NumGoroutine") = false) (hb : fn.body = some c) {args : List AV} (hN : args.length ≤ fn.ntmps) {r : AV}
  (h : AWp P fn.ntmps c (Post P fn fun r' _ => r' = r) (St.init args fun _ => none)) : PCall P n args r := by
 have hw := wcall_of hf hname hb hN h
 refine ⟨hw.1, fun w S cargs m hm hr => ?_⟩
 have hm0 : MemRep w S (fun _ => none) := ⟨(fun g b h => by cases h), fun b hb => ⟨rfl, (hm.apart b hb).2⟩⟩
 refine calls_mono (hw.2 w S cargs hm0 hr) ?_
 rintro e w' ⟨v, r', m', S', rfl, rfl, h1, h2, h3, h4, h5, h6⟩
 have hk : Keep (fun _ => False) w w' := h5.mono (fun b h => absurd rfl h)
 refine ⟨v, S', rfl, h1, fun b hb => (h2 b hb).imp id (fun h => h.elim (fun h => absurd rfl h) id), ⟨fun g b hg => ?_, fun b hb => ?_⟩, h4, hk⟩
 ·have hlt := (hm.blk g b hg).lt
  exact (hm.blk g b hg).mono (fun b' hb' => hk.block b' (hm.apart b' hb').2 id) h1 (hk.block g hlt id)
 ·refine ⟨?_, (h3.apart b hb).2⟩
  rcases h2 b hb with h | h | h
  ·exact (hm.apart b h).1
  ·exact absurd rfl h
  ·cases hq : m b with
   | none => rfl
   | some x => have := (hm.blk b x hq).lt; omega
end
end Go.T
namespace Go.T
open Go
section
variable {P : Program}

theorem size_list (x : ByteArray) : x.size = x.data.toList.length := by rw [Array.length_toList]; rfl
theorem toList_loop (x : ByteArray) : ∀ (n i : Nat) (r : List UInt8), x.size - i = n → ByteArray.toList.loop x i r = r.reverse ++ x.data.toList.drop i
 | 0, i, r, h => by
  rw [ByteArray.toList.loop]
  have : ¬ i < x.size := by omega
  rw [if_neg this, List.drop_eq_nil_of_le (by have := size_list x; omega)]
  simp
 | n + 1, i, r, h => by
  rw [ByteArray.toList.loop]
  have hi : i < x.size := by omega
  have hl : i < x.data.toList.length := by have := size_list x; omega
  rw [if_pos hi, toList_loop x n (i + 1) _ (by omega), List.drop_eq_getElem_cons hl]
  have : x.get! i = x.data.toList[i] := by
   simp only [ByteArray.get!]
   rw [getElem!_pos x.data i (show i < x.data.size from hi)]
   simp
  simp [this]
theorem bytes_list (x : ByteArray) : x.toList = x.data.toList := by
 have := toList_loop x _ 0 [] rfl
 simpa [ByteArray.toList] using this
theorem bytes_eq (x y : ByteArray) : x.toList = y.toList ↔ x = y := ⟨fun h => by rw [bytes_list, bytes_list] at h; cases x; cases y; simpa using h, fun h => by rw [h]⟩

@[simp] theorem put_slot (s : St) (d t : Tmp) (v : AV) : (s.put (some d) v).slots t = if t = d then v else s.slots t := (_root_.id rfl)
@[simp] theorem put_none (s : St) (v : AV) : s.put none v = s := (_root_.id rfl)
@[simp] theorem withMem_slot (s : St) (m : Mem) (t : Tmp) : (s.withMem m).slots t = s.slots t := (_root_.id rfl)
@[simp] theorem withMem_mem (s : St) (m : Mem) : (s.withMem m).mem = m := (_root_.id rfl)
@[simp] theorem put_mem' (s : St) (d : Tmp) (v : AV) : (s.put (some d) v).mem = s.mem := (_root_.id rfl)
@[simp] theorem init_slot (l : List AV) (m : Mem) (t : Tmp) : (St.init l m).slots t = l.getD t (.tup []) := (_root_.id rfl)
@[simp] theorem init_mem (l : List AV) (m : Mem) : (St.init l m).mem = m := (_root_.id rfl)
@[simp] theorem eval_tmp (s : St) (t : Tmp) : s.eval (.tmp t) = s.slots t := (_root_.id rfl)
@[simp] theorem eval_const (s : St) (v : Value) : s.eval (.const v) = constA v := (_root_.id rfl)
@[simp] theorem eval_func (s : St) (f : FuncId) : s.eval (.func f) = .func (.func f) [] := (_root_.id rfl)
@[simp] theorem constA_int (k : IntKind) (n : Int) : constA (.int k n) = .int k n := (_root_.id rfl)
@[simp] theorem constA_bool (b : Bool) : constA (.bool b) = .bool b := (_root_.id rfl)
@[simp] theorem constA_str (s : ByteArray) : constA (.string s) = .str s := (_root_.id rfl)
@[simp] theorem constA_nil : constA (.slice none 0 0) = .lst true 0 [] := (_root_.id rfl)
@[simp] theorem constA_nilp : constA (.pointer none) = .nilp := (_root_.id rfl)
@[simp] theorem constA_agg (cs : Array Value) : constA (.agg cs) = .agg (cs.toList.map scalarA) := (_root_.id rfl)
@[simp] theorem scalarA_int (k : IntKind) (n : Int) : scalarA (.int k n) = .int k n := (_root_.id rfl)
@[simp] theorem scalarA_bool (b : Bool) : scalarA (.bool b) = .bool b := (_root_.id rfl)
@[simp] theorem scalarA_str (s : ByteArray) : scalarA (.string s) = .str s := (_root_.id rfl)
@[simp] theorem scalarA_nil : scalarA (.slice none 0 0) = .lst true 0 [] := (_root_.id rfl)
@[simp] theorem scalarA_nilp : scalarA (.pointer none) = .nilp := (_root_.id rfl)
@[simp] theorem cells_agg (cs : List AV) : (AV.agg cs).cells = cs := (_root_.id rfl)
@[simp] theorem cells_int (k : IntKind) (n : Int) : (AV.int k n).cells = [.int k n] := (_root_.id rfl)
@[simp] theorem cells_bool (b : Bool) : (AV.bool b).cells = [.bool b] := (_root_.id rfl)
@[simp] theorem cells_str (s : ByteArray) : (AV.str s).cells = [.str s] := (_root_.id rfl)
@[simp] theorem cells_lst (f : Bool) (e : Nat) (xs : List AV) : (AV.lst f e xs).cells = [.lst f e xs] := (_root_.id rfl)
@[simp] theorem cells_own (g n c : Nat) : (AV.own g n c).cells = [.own g n c] := (_root_.id rfl)
@[simp] theorem cells_ptr (g o : Nat) : (AV.ptr g o).cells = [.ptr g o] := (_root_.id rfl)
@[simp] theorem cells_func (f : Fn) (cs : List AV) : (AV.func f cs).cells = [.func f cs] := (_root_.id rfl)
@[simp] theorem set_same (m : Mem) (g : Nat) (b : Blk) : m.set g b g = some b := m.set_same g b
@[simp] theorem set_set (m : Mem) (g : Nat) (b b' : Blk) : (m.set g b).set g b' = m.set g b' := by funext k; simp only [Mem.set]; split <;> rfl

@[simp] theorem thenA_normal (R : St → Prop) (Q : Exit → St → Prop) (s : St) : thenA R Q .normal s = R s := (_root_.id rfl)
@[simp] theorem thenA_ret (R : St → Prop) (Q : Exit → St → Prop) (s : St) : thenA R Q .ret s = Q .ret s := (_root_.id rfl)
@[simp] theorem thenA_exit (R : St → Prop) (Q : Exit → St → Prop) (i : Nat) (s : St) : thenA R Q (.exit i) s = Q (.exit i) s := (_root_.id rfl)
@[simp] theorem blockA_normal (id : Nat) (Q : Exit → St → Prop) (s : St) : blockA id Q .normal s = Q .normal s := (_root_.id rfl)
@[simp] theorem blockA_ret (id : Nat) (Q : Exit → St → Prop) (s : St) : blockA id Q .ret s = Q .ret s := (_root_.id rfl)
@[simp] theorem blockA_exit (id i : Nat) (Q : Exit → St → Prop) (s : St) : blockA id Q (.exit i) s = if i = id then Q .normal s else Q (.exit i) s := (_root_.id rfl)

@[simp] theorem ops_nil (p : Nat → Bool) (ops : Array Oper) (K : St → Prop) (i : Nat) (s : St) : AOpsL P p ops K i [] s = K s := (_root_.id rfl)
@[simp] theorem ops_plain (p : Nat → Bool) (ops : Array Oper) (K : St → Prop) (i : Nat) (s : St) (d : Option Tmp) (op : Op) (T : TypeId) (pos : String) (af : Array Edge) (l : List Oper) :
  AOpsL P p ops K i (⟨d, op, T, pos, af, none⟩ :: l) s = AOp P (p i) ⟨d, op, T, pos, af, none⟩ s (AOpsL P p ops K (i + 1) l) := rfl
/-- The guard's value. -/
def gv (ops : Array Oper) (j : Nat) (s : St) : AV := match (ops[j]?).bind (·.dst) with | some t => s.slots t | none => .undef
/-- X where the guard is as wanted, else Y. -/
def guardRun (v : AV) (want : Bool) (X Y : Prop) : Prop := match v with
 | .bool b => if b = want then X else Y
 | .tup [] => Y
 | _ => False
@[congr] theorem guardRun_congr {v v' : AV} {w : Bool} {X Y : Prop} (h : v = v') : guardRun v w X Y = guardRun v' w X Y := by rw [h]
@[simp] theorem guardRun_tt (X Y : Prop) : guardRun (.bool true) true X Y = X := by simp [guardRun]
@[simp] theorem guardRun_ff (X Y : Prop) : guardRun (.bool false) false X Y = X := by simp [guardRun]
@[simp] theorem guardRun_tf (X Y : Prop) : guardRun (.bool true) false X Y = Y := by simp [guardRun]
@[simp] theorem guardRun_ft (X Y : Prop) : guardRun (.bool false) true X Y = Y := by simp [guardRun]
@[simp] theorem guardRun_skip (w : Bool) (X Y : Prop) : guardRun (.tup []) w X Y = Y := by simp [guardRun]
theorem guardI {c w : Bool} {X Y : Prop} (h1 : c = w → X) (h2 : c = !w → Y) : guardRun (.bool c) w X Y := by
 unfold guardRun
 by_cases h : c = w
 ·simpa [h] using h1 h
 ·simpa [h] using h2 (by cases c <;> cases w <;> simp_all)
/-- One operation behind a guard. -/
@[simp] theorem ops_guard (p : Nat → Bool) (ops : Array Oper) (K : St → Prop) (i : Nat) (s : St) (d : Option Tmp) (op : Op) (T : TypeId) (pos : String) (af : Array Edge) (j : Nat) (want : Bool) (l : List Oper) :
  AOpsL P p ops K i (⟨d, op, T, pos, af, some (j, want)⟩ :: l) s =
  guardRun (gv ops j s) want (AOp P (p i) ⟨d, op, T, pos, af, none⟩ s (AOpsL P p ops K (i + 1) l)) (AOpsL P p ops K (i + 1) l (s.put d (.tup []))) := by
 show GOp P (p i) ops _ s _ = _
 unfold GOp wantedA gv guardRun
 simp only
 cases hj : (ops[j]?).bind (·.dst) with
 | none => rfl
 | some t =>
  simp only
  cases hs : s.slots t with
  | bool b =>
   simp only
   by_cases h : b = want
   ·subst h; simp; rfl
   ·have : (b == want) = false := by simpa using h
    simp [this, h]
  | tup l => cases l <;> rfl
  | _ => rfl
@[simp] theorem gv_eq (ops : Array Oper) (j : Nat) (s : St) : gv ops j s = match (ops[j]?).bind (·.dst) with | some t => s.slots t | none => .undef := (_root_.id rfl)

section
variable (p : Bool) (s : St) (K : St → Prop) (d : Option Tmp) (T : TypeId) (pos : String) (af : Array Edge) (g : Option (Nat × Bool))
@[simp] theorem aop_move (x : Operand) : AOp P p ⟨d, .move x, T, pos, af, g⟩ s K = K (s.put d (s.eval x)) := (_root_.id rfl)
@[simp] theorem aop_assign (x : Operand) : AOp P p ⟨d, .assign x, T, pos, af, g⟩ s K = K (s.put d (s.eval x)) := (_root_.id rfl)
@[simp] theorem aop_pick (c a b : Operand) : AOp P p ⟨d, .pick c a b, T, pos, af, g⟩ s K = match s.eval c with | .bool t => K (s.put d (if t then s.eval a else s.eval b)) | _ => False := by
 simp only [AOp, outR]; cases s.eval c <;> rfl
/-- A step that only reads. -/
def goO (x : Option AV) (d : Option Tmp) (s : St) (K : St → Prop) : Prop := match x with | some v => K (s.put d v) | none => False
theorem aop_go {p : Bool} {o : Oper} {s : St} {K : St → Prop} {x : Option AV} (h : outR P s.mem s.eval o.op = x) (hw : ∀ k, WT P p s.mem s.eval k o.op → False) : AOp P p o s K = goO x o.dst s K := by
 subst h
 unfold AOp goO
 cases outR P s.mem s.eval o.op with
 | some v => rfl
 | none => exact eq_false (hw _)
@[simp] theorem goO_some (v : AV) : goO (some v) d s K = K (s.put d v) := (_root_.id rfl)
@[simp] theorem aop_bin (op : BinOp) (U : TypeId) (x y : Operand) (V : TypeId) : AOp P p ⟨d, .binOp op U x y V, T, pos, af, g⟩ s K = goO (match binA op (s.eval x) (s.eval y) with | some v => some v | none => eqO P op U (s.eval x) (s.eval y)) d s K := by
 exact aop_go rfl (fun _ h => h)
@[simp] theorem aop_un (op : UnOp) (U : TypeId) (x : Operand) : AOp P p ⟨d, .unOp op U x, T, pos, af, g⟩ s K = goO (unA op (s.eval x)) d s K := by
 exact aop_go rfl (fun _ h => h)
@[simp] theorem aop_conv (U V : TypeId) (x : Operand) : AOp P p ⟨d, .convert U V x, T, pos, af, g⟩ s K = goO (convA P U V (s.eval x)) d s K := by
 exact aop_go rfl (fun _ h => h)
@[simp] theorem aop_faddr (U : TypeId) (x : Operand) (f : Nat) : AOp P p ⟨d, .fieldAddr U x f, T, pos, af, g⟩ s K = goO (faddrA P U f (s.eval x)) d s K := by
 exact aop_go rfl (fun _ h => h)
@[simp] theorem aop_field (U : TypeId) (x : Operand) (f : Nat) : AOp P p ⟨d, .field U x f, T, pos, af, g⟩ s K = goO (fieldA P U f (s.eval x)) d s K := by
 exact aop_go rfl (fun _ h => h)
@[simp] theorem aop_load (U : TypeId) (x : Operand) : AOp P p ⟨d, .load U x, T, pos, af, g⟩ s K = goO (loadA P s.mem U (s.eval x)) d s K := by
 exact aop_go rfl (fun _ h => h)
@[simp] theorem aop_iaddr (U : TypeId) (x i : Operand) : AOp P p ⟨d, .indexAddr U x i, T, pos, af, g⟩ s K = goO (idxA P s.mem U (s.eval x) (s.eval i)) d s K := by
 exact aop_go rfl (fun _ h => h)
@[simp] theorem aop_index (U : TypeId) (x i : Operand) : AOp P p ⟨d, .index U x i, T, pos, af, g⟩ s K = goO (sidxA P U (s.eval x) (s.eval i)) d s K := by
 exact aop_go rfl (fun _ h => h)
@[simp] theorem aop_slice (U : TypeId) (x : Operand) (lo hi : Option Operand) : AOp P p ⟨d, .slice U x lo hi none, T, pos, af, g⟩ s K = goO (sliceA P U (s.eval x) (lo.map s.eval) (hi.map s.eval)) d s K := by
 exact aop_go rfl (fun _ h => h)
@[simp] theorem aop_extract (t : Operand) (i : Nat) : AOp P p ⟨d, .extract t i, T, pos, af, g⟩ s K = goO (match s.eval t with | .tup vs => vs[i]? | _ => none) d s K := by
 exact aop_go rfl (fun _ h => h)
@[simp] theorem aop_build (U : TypeId) (parts : Array (Nat × Operand)) : AOp P p ⟨d, .build U parts, T, pos, af, g⟩ s K = goO (buildA P U (parts.toList.map fun q => (q.1, s.eval q.2))) d s K := by
 exact aop_go rfl (fun _ h => h)
@[simp] theorem aop_len (x : Operand) (ts : Array TypeId) : AOp P p ⟨d, .call ⟨.builtin .len, #[x], ts⟩, T, pos, af, g⟩ s K = goO (lenA P ts[0]? (s.eval x)) d s K := by
 exact aop_go rfl (fun _ h => h)
@[simp] theorem aop_max (x y : Operand) (ts : Array TypeId) : AOp P p ⟨d, .call ⟨.builtin .max, #[x, y], ts⟩, T, pos, af, g⟩ s K = goO (max2A (s.eval x) (s.eval y)) d s K := by
 refine aop_go ?_ (fun _ h => h)
 simp only [outR, List.map, foldA]
 cases max2A (s.eval x) (s.eval y) <;> rfl
@[simp] theorem aop_min (x y : Operand) (ts : Array TypeId) : AOp P p ⟨d, .call ⟨.builtin .min, #[x, y], ts⟩, T, pos, af, g⟩ s K = goO (min2A (s.eval x) (s.eval y)) d s K := by
 refine aop_go ?_ (fun _ h => h)
 simp only [outR, List.map, foldA]
 cases min2A (s.eval x) (s.eval y) <;> rfl
@[simp] theorem aop_func (fn : Fn) (first : Array Value) (caps : Array Operand) : AOp P p ⟨d, .makeFunc fn #[] caps, T, pos, af, g⟩ s K = K (s.put d (.func fn (caps.toList.map s.eval))) := by
 simp [AOp, outR]
/-- A call of a function that is told by its answer. -/
theorem aop_call {f : FuncId} {args : Array Operand} {ts : Array TypeId} {r : AV} (h : PCall P f (args.toList.map s.eval) r) (hk : K (s.put d r)) : AOp P p ⟨d, .call ⟨.value (.func f), args, ts⟩, T, pos, af, g⟩ s K := by
 have e : (s.put d r).withMem s.mem = s.put d r := by cases d <;> rfl
 simp only [AOp, outR, WT, eval_func, List.append_nil]
 cases p with
 | true => exact ⟨r, h, by rw [e]; exact hk⟩
 | false => exact h.w (by rw [e]; exact hk)
/-- A call, in general. -/
theorem aop_wcall {f : Operand} {args : Array Operand} {ts : Array TypeId} {n : FuncId} {caps : List AV} (hp : p = false) (hf : s.eval f = .func (.func n) caps) (h : WCall P n (args.toList.map s.eval ++ caps) s.mem fun r m => K ((s.put d r).withMem m)) : AOp P p ⟨d, .call ⟨.value f, args, ts⟩, T, pos, af, g⟩ s K := by
 subst hp
 simp only [AOp, outR, WT, hf]
 exact h
end

section
variable (k : IntKind) (a b : Int) (x y : ByteArray)
@[simp] theorem bin_int (op : BinOp) : binA op (.int k a) (.int k b) = intA op k a b := by simp [binA]
@[simp] theorem bin_str (op : BinOp) : binA op (.str x) (.str y) = strA op x y := (_root_.id rfl)
@[simp] theorem int_add : intA .add k a b = some (.int k (k.wrap (a + b))) := (_root_.id rfl)
@[simp] theorem int_sub : intA .sub k a b = some (.int k (k.wrap (a - b))) := (_root_.id rfl)
@[simp] theorem int_mul : intA .mul k a b = some (.int k (k.wrap (a * b))) := (_root_.id rfl)
@[simp] theorem int_quo : intA .quo k a b = if b = 0 then none else some (.int k (k.wrap (a.tdiv b))) := (_root_.id rfl)
@[simp] theorem int_rem : intA .rem k a b = if b = 0 then none else some (.int k (a.tmod b)) := (_root_.id rfl)
@[simp] theorem int_eql : intA .eql k a b = some (.bool (decide (a = b))) := by simp [intA]; rfl
@[simp] theorem int_neq : intA .neq k a b = some (.bool (!decide (a = b))) := by simp [intA]; rfl
@[simp] theorem int_lss : intA .lss k a b = some (.bool (decide (a < b))) := (_root_.id rfl)
@[simp] theorem int_leq : intA .leq k a b = some (.bool (decide (a ≤ b))) := (_root_.id rfl)
@[simp] theorem int_gtr : intA .gtr k a b = some (.bool (decide (b < a))) := (_root_.id rfl)
@[simp] theorem int_geq : intA .geq k a b = some (.bool (decide (b ≤ a))) := (_root_.id rfl)
theorem bytes_beq : (x.toList == y.toList) = decide (x = y) := by
 by_cases h : x = y
 ·simp [h]
 ·simp [h, bytes_eq]
@[simp] theorem str_eql : strA .eql x y = some (.bool (decide (x = y))) := by rw [← bytes_beq]; rfl
@[simp] theorem str_neq : strA .neq x y = some (.bool (!decide (x = y))) := by rw [← bytes_beq]; rfl
@[simp] theorem str_lss : strA .lss x y = some (.bool (Op.bytesLess x.toList y.toList)) := (_root_.id rfl)
@[simp] theorem str_leq : strA .leq x y = some (.bool (Op.bytesLess x.toList y.toList || decide (x = y))) := by rw [← bytes_beq]; rfl
@[simp] theorem str_gtr : strA .gtr x y = some (.bool !(Op.bytesLess x.toList y.toList || decide (x = y))) := by rw [← bytes_beq]; rfl
@[simp] theorem str_geq : strA .geq x y = some (.bool !(Op.bytesLess x.toList y.toList)) := (_root_.id rfl)
@[simp] theorem un_neg : unA .neg (.int k a) = some (.int k (k.wrap (0 - a))) := (_root_.id rfl)
@[simp] theorem un_not (t : Bool) : unA .not (.bool t) = some (.bool !t) := (_root_.id rfl)
end
end
end Go.T
namespace Go.T
open Go
section
variable {P : Program}

theorem post_ret1 {fn : Func} {t : Tmp} {r : AV} {s : St} (hr : fn.results = #[.tmp t]) (h : s.slots t = r) : Post P fn (fun r' _ => r' = r) .ret s :=
 ⟨[s.slots t], s.slots t, s.mem, by rw [hr]; rfl, View.refl _ _, h⟩
theorem post_ret2 {fn : Func} {t u : Tmp} {r q : AV} {s : St} (hr : fn.results = #[.tmp t, .tmp u]) (h : s.slots t = r) (k : s.slots u = q) : Post P fn (fun r' _ => r' = .tup [r, q]) .ret s :=
 ⟨[s.slots t, s.slots u], .tup [s.slots t, s.slots u], s.mem, by rw [hr]; rfl, View.refl _ _, by rw [h, k]⟩
/-- With a memory. -/
theorem post_retW {fn : Func} {t : Tmp} {k : AV → Mem → Prop} {s : St} (hr : fn.results = #[.tmp t]) (h : ∃ r m, View s.mem (s.slots t) m r ∧ k r m) : Post P fn k .ret s := by
 obtain ⟨r, m, h1, h2⟩ := h
 exact ⟨[s.slots t], r, m, by rw [hr]; rfl, h1, h2⟩
theorem post_nrm0 {fn : Func} {k : AV → Mem → Prop} {s : St} (hr : fn.results = #[]) (h : k (.tup []) s.mem) : Post P fn k .normal s :=
 ⟨[], .tup [], s.mem, by rw [hr]; rfl, View.refl _ _, h⟩
/-- What is a, is a' too. -/
def Le (a a' : AV) : Prop := ∀ w S v, Rep w S a v → Rep w S a' v
theorem Le.refl (a : AV) : Le a a := fun _ _ _ h => h
theorem Le.trans {a b c : AV} (h : Le a b) (k : Le b c) : Le a c := fun w S v hv => k w S v (h w S v hv)
theorem Le.lst (f : Bool) (e : Nat) (xs : List AV) : Le (.lst f e xs) (.lst false e xs) := fun w S v h => by
 cases h with
 | lnil _ _ A c _ => exact .lnil _ _ A c (fun h => by cases h)
 | lst _ _ b o c h1 h2 h3 h4 h5 => exact .lst _ _ b o c h1 h2 h3 (fun h => by cases h) h5
theorem Le.nil (f : Bool) (e e' : Nat) : Le (.lst f e []) (.lst false e' []) := fun w S v h => by
 cases h with
 | lnil _ _ A c _ => exact .lnil _ _ A c (fun h => by cases h)
 | lst _ _ b o c h1 h2 h3 h4 h5 => exact .lnil _ _ _ c (fun h => by cases h)
inductive Les : List AV → List AV → Prop
 | nil : Les [] []
 | cons {a a' : AV} {l l' : List AV} : Le a a' → Les l l' → Les (a :: l) (a' :: l')
theorem Les.refl : ∀ l, Les l l
 | [] => .nil
 | a :: l => .cons (Le.refl a) (Les.refl l)
theorem Les.length {l l' : List AV} (h : Les l l') : l.length = l'.length := by
 induction h with
 | nil => rfl
 | cons _ _ ih => simp [ih]
theorem Les.reps {w : World} {S : Nat → Prop} {l l' : List AV} (h : Les l l') : ∀ {vs : List Value}, Reps w S l vs → Reps w S l' vs := by
 induction h with
 | nil => exact fun h => h
 | cons h _ ih => intro vs hr; cases hr with | cons a b => exact .cons (h _ _ _ a) (ih b)
theorem Les.cells {w : World} {S : Nat → Prop} {l l' : List AV} (h : Les l l') : ∀ {b o : Nat}, Cells w S b o l → Cells w S b o l' := by
 induction h with
 | nil => intro b o hc; cases hc; exact .nil b o
 | cons h _ ih => intro b o hc; cases hc with | cons a b c => exact .cons a (h _ _ _ b) (ih c)
theorem Les.append {l l' k k' : List AV} (h : Les l l') (hk : Les k k') : Les (l ++ k) (l' ++ k') := by
 induction h with
 | nil => exact hk
 | cons h _ ih => exact .cons h ih
theorem Le.agg {l l' : List AV} (h : Les l l') : Le (.agg l) (.agg l') := fun w S v hv => by
 cases hv with | agg hr => exact .agg (h.reps hr)
theorem Le.tup {l l' : List AV} (h : Les l l') : Le (.tup l) (.tup l') := fun w S v hv => by
 cases hv with | tup hr => exact .tup (h.reps hr)
theorem Le.ref {l l' : List AV} (h : Les l l') : Le (.ref l) (.ref l') := fun w S v hv => by
 cases hv with | ref b o h1 h2 => exact .ref b o h1 (h.cells h2)
/-- Elements, each with the cells of one that is weaker. -/
inductive Lec : List AV → List AV → Prop
 | nil : Lec [] []
 | cons {a a' : AV} {l l' : List AV} : Les a.cells a'.cells → Lec l l' → Lec (a :: l) (a' :: l')
theorem Lec.flat {l l' : List AV} (h : Lec l l') : Les (flat l) (flat l') := by
 induction h with
 | nil => exact .nil
 | cons h _ ih => simp only [T.flat, List.flatMap_cons]; exact h.append ih
theorem Lec.length {l l' : List AV} (h : Lec l l') : l.length = l'.length := by
 induction h with
 | nil => rfl
 | cons _ _ ih => simp [ih]
theorem Lec.size {e : Nat} {l l' : List AV} (h : Lec l l') (hs : ∀ x ∈ l, x.cells.length = e) : ∀ x ∈ l', x.cells.length = e := by
 induction h with
 | nil => exact fun x hx => by cases hx
 | cons h _ ih =>
  intro x hx
  rcases List.mem_cons.1 hx with rfl | hx
  ·rw [← h.length]; exact hs _ (List.mem_cons_self ..)
  ·exact ih (fun y hy => hs y (List.mem_cons_of_mem _ hy)) x hx
theorem PCall.le {n : FuncId} {args args' : List AV} {r r' : AV} (h : PCall P n args' r) (ha : Les args args') (hr : Le r r') : PCall P n args r' :=
 ⟨h.1, fun w S cargs m hm hargs => calls_mono (h.2 w S cargs m hm (ha.reps hargs)) fun e w' ⟨v, S', h1, h2, h3, h4, h5, h6⟩ => ⟨v, S', h1, h2, h3, h4, hr _ _ _ h5, h6⟩⟩
theorem PCall.arg {n : FuncId} {args args' : List AV} {r : AV} (h : PCall P n args' r) (ha : Les args args') : PCall P n args r := h.le ha (Le.refl _)
theorem WCall.arg {n : FuncId} {args args' : List AV} {m : Mem} {k : AV → Mem → Prop} (h : WCall P n args' m k) (ha : Les args args') : WCall P n args m k :=
 ⟨h.1, fun w S cargs hm hargs => h.2 w S cargs hm (ha.reps hargs)⟩

/-- A state seen as another one. -/
def Sees (s s' : St) : Prop := ∀ w S (f : Tmp → Value), MemRep w S s.mem → (∀ t, Rep w S (s.slots t) (f t)) →
 ∃ S', (∀ b, S b → S' b) ∧ (∀ b, S' b → S b ∨ s.mem b ≠ none) ∧ MemRep w S' s'.mem ∧ (∀ t, Rep w S' (s'.slots t) (f t)) ∧ ∀ g b, s'.mem g = some b → s.mem g ≠ none
theorem AWp.sees {N : Nat} {c : Code} {Q : Exit → St → Prop} {s s' : St} (hs : Sees s s') (h : AWp P N c Q s') : AWp P N c Q s := fun C a w hr hN => by
 refine h C a w ?_ hN
 obtain ⟨S, h1, h2, h3⟩ := hr.ex
 obtain ⟨S', k1, k2, k3, k4, k5⟩ := hs w S _ h2 h3
 have hD : ∀ b, s.mem b ≠ none → C.D0 b ∨ C.w0.heap.size ≤ b := fun b hb => by
  cases hq : s.mem b with
  | none => exact absurd hq hb
  | some x => exact hr.dom b x hq
 refine ⟨⟨S', ⟨fun b hb => k1 b (h1.1 b hb), fun b hb => ?_⟩, k3, k4⟩, hr.defers, hr.keep, fun g b hg => hD g (k5 g b hg)⟩
 rcases k2 b hb with h | h
 ·exact h1.2 b h
 ·exact .inr (hD b h)
/-- Slots weakened. -/
theorem Sees.slots {s s' : St} (hm : s'.mem = s.mem) (h : ∀ t, Le (s.slots t) (s'.slots t)) : Sees s s' := fun w S f h1 h2 =>
 ⟨S, fun _ h => h, fun _ h => .inl h, hm ▸ h1, fun t => h t _ _ _ (h2 t), fun g b hg => by rw [← hm, hg]; simp⟩
/-- A slice that grew is not written any more. -/
theorem Sees.freeze {s s' : St} {g n c e : Nat} {T : TypeId} {xs : List AV} (hg : s.mem g = some (.arr T e c xs)) (hn : xs.length = n) (hm : s'.mem = s.mem.del g) (h0 : ∀ t, s'.slots t = s.slots t ∨ s'.slots t = .undef ∨ (s.slots t = .own g n c ∧ s'.slots t = .lst false e xs)) : Sees s s' := fun w S f h1 h2 => by
 obtain ⟨vs, us, hb, hr, hl, he, hle⟩ := h1.blk g _ hg
 have hSS : ∀ b, S b → S b ∨ b = g := fun b hb => .inl hb
 refine ⟨fun b => S b ∨ b = g, hSS, fun b hb => hb.imp id (fun h => by rw [h, hg]; simp), ⟨fun g' b' hg' => ?_, fun b hb => ?_⟩, fun t => ?_, fun g' b' hg' => ?_⟩
 ·rw [hm] at hg'
  unfold Mem.del at hg'
  split at hg'
  ·cases hg'
  ·exact (h1.blk g' b' hg').mono (fun _ _ => rfl) hSS rfl
 ·rw [hm]
  rcases hb with hb | rfl
  ·refine ⟨?_, (h1.apart b hb).2⟩
   unfold Mem.del
   split
   ·rfl
   ·exact (h1.apart b hb).1
  ·exact ⟨by simp [Mem.del], (Array.getElem?_eq_some_iff.1 hb).1⟩
 ·rcases h0 t with h0 | h0 | ⟨h0, h0'⟩
  ·rw [h0]; exact (h2 t).mono (fun _ _ => rfl) hSS
  ·rw [h0]; exact .undef _
  ·have h := h2 t
   rw [h0] at h
   rw [h0']
   generalize f t = u at h ⊢
   cases h
   subst hn
   exact .lst false e g 0 c (.inr rfl) he hle (fun h => by cases h) (Cells.of_block hb (hr.mono (fun _ _ => rfl) hSS) 0 (fun i v hv => by
    have : i < vs.length := (List.getElem?_eq_some_iff.1 hv).1
    simp [List.getElem?_append_left this, hv]))
 ·rw [hm] at hg'
  unfold Mem.del at hg'
  split at hg'
  ·cases hg'
  ·rw [hg']; simp

/-- m holds what m0 holds, and more maybe. -/
def Ext (m0 m : Mem) : Prop := ∀ g b, m0 g = some b → m g = some b
theorem Ext.refl (m : Mem) : Ext m m := fun _ _ h => h
theorem Ext.set {m0 m : Mem} (h : Ext m0 m) {g : Nat} (hg : m0 g = none) (b : Blk) : Ext m0 (m.set g b) := fun k x hk => by
 have : k ≠ g := fun e => by rw [e, hg] at hk; cases hk
 rw [Mem.set_other this]; exact h k x hk
theorem Ext.none {m0 m : Mem} (h : Ext m0 m) {g : Nat} (hg : m g = none) : m0 g = none := by
 cases hq : m0 g with
 | none => rfl
 | some b => rw [h g b hq] at hg; cases hg
/-- A slice that grows, of elements of type T of e cells each: xs, in a block of its own beside m0. -/
inductive Grows (T : TypeId) (e : Nat) (m0 : Mem) (xs : List AV) : AV → Mem → Prop
 | lit (f : Nat) (m : Mem) : f = e ∨ xs = [] → Ext m0 m → Grows T e m0 xs (.lst true f xs) m
 | own (g c n : Nat) (m : Mem) : n = xs.length → m g = some (.arr T e c xs) → m0 g = none → Ext m0 m → Grows T e m0 xs (.own g n c) m
/-- It is only read from now on. -/
theorem Grows.view {T : TypeId} {e : Nat} {m0 m : Mem} {xs : List AV} {v : AV} (h : Grows T e m0 xs v m) : View m v m0 (.lst false e xs) := by
 cases h with
 | lit f m hf hm =>
  refine View.trans (View.forget hm _) ?_
  intro w S u h1 h2
  refine ⟨S, fun _ h => h, fun _ h => .inl h, h1, ?_, fun g b h => by rw [h]; simp⟩
  rcases hf with rfl | rfl
  ·exact Le.lst _ _ _ _ _ _ h2
  ·exact Le.nil _ _ _ _ _ _ h2
 | own g c n m hn hg h0 hm =>
  refine View.trans (View.freeze hg hn.symm) (View.forget (fun k b hk => ?_) _)
  have : k ≠ g := fun e => by rw [e, h0] at hk; cases hk
  simp only [Mem.del, if_neg this]
  exact hm k b hk
/-- Facts about a slice's type. -/
structure ElemT (P : Program) (T E : TypeId) (n b : Nat) : Prop where
 elem : elemT P T = some E
 int : isIntT P T = some false
 size : szT P E = some n
 byte : bytesT P E = some b
 zero : ∃ z, zeroE P E = some z ∧ z.cells.length = n
 pos : n ≠ 0 ∧ b ≠ 0
theorem Grows.append {T E : TypeId} {n b : Nat} (hT : ElemT P T E n b) {m0 m : Mem} {xs ys : List AV} {v x : AV} (h : Grows E n m0 xs v m) {k : AV → Mem → Prop}
  (hx : srcA m n x = some ys) (hok : ∀ y ∈ ys, y.cells.all okCell = true) (hb : (2 * (xs.length + ys.length) + 1024) * b ≤ 281474976710656)
  (hk : ∀ v' m', Grows E n m0 (xs ++ ys) v' m' → k v' m') (U : Array TypeId) (hU : U = #[T, T]) : appendW P m k U v x := by
 subst hU
 obtain ⟨z, hz, hzl⟩ := hT.zero
 unfold appendW
 simp only [List.getElem?_toArray, List.getElem?_cons_zero, List.getElem?_cons_succ, hT.int, hT.elem, hT.size, hT.byte, hz, hx, true_and]
 refine ⟨hT.pos.1, hT.pos.2, hzl, ?_⟩
 cases h with
 | lit f m hf hm =>
  refine ⟨hf, hb, fun h0 => ?_, fun _ g c hg hle => ?_⟩
  ·subst h0
   exact hk _ _ (by rw [List.append_nil]; exact .lit f m hf hm)
  ·exact hk _ _ (.own g c _ _ (by simp) (set_same _ _ _) (hm.none hg) (hm.set (hm.none hg) _))
 | own g c l m hl hg h0 hm =>
  subst hl
  simp only [hg]
  refine ⟨trivial, trivial, trivial, trivial, hok, hb, fun g' c' hg' hle => ?_⟩
  have hg0 : m0 g' = none := by
   rcases hg' with rfl | h
   ·exact h0
   ·exact hm.none h
  exact hk _ _ (.own g' c' _ _ (by simp) (set_same _ _ _) hg0 (hm.set hg0 _))
end
end Go.T
namespace Go.T
open Go
section
variable {P : Program}

@[simp] theorem len_str (T : TypeId) (s : ByteArray) : lenA P (some T) (.str s) = match P.underlying T with | some .string => some (.int .i64 s.size) | _ => none := (_root_.id rfl)
@[simp] theorem len_lst (T : TypeId) (f : Bool) (e : Nat) (xs : List AV) : lenA P (some T) (.lst f e xs) = match P.underlying T with | some (.slice _) => some (.int .i64 xs.length) | _ => none := (_root_.id rfl)
@[simp] theorem len_own (T : TypeId) (g n c : Nat) : lenA P (some T) (.own g n c) = match P.underlying T with | some (.slice _) => some (.int .i64 n) | _ => none := (_root_.id rfl)
theorem bytes_get (s : ByteArray) (i : Nat) : s[i]? = s.data.toList[i]? := by
 by_cases h : i < s.size
 ·have h' : i < s.data.toList.length := by have := size_list s; omega
  rw [getElem?_pos s i h, List.getElem?_eq_getElem h']
  rfl
 ·have h' : s.data.toList.length ≤ i := by have := size_list s; omega
  rw [getElem?_neg s i h, List.getElem?_eq_none h']
theorem sidx {T : TypeId} {s : ByteArray} {k : IntKind} {i : Nat} {b : UInt8} (hu : P.underlying T = some .string) (h : s.data.toList[i]? = some b) : sidxA P T (.str s) (.int k i) = some (.int .u8 b.toNat) := by
 have h2 : ¬ ((i : Int) < 0) := by omega
 simp [sidxA, hu, h2, bytes_get, h]
theorem idx {m : Mem} {T : TypeId} {f : Bool} {e : Nat} {xs : List AV} {k : IntKind} {i : Nat} {y : AV} (he : esz P T = some e) (h : xs[i]? = some y) : idxA P m T (.lst f e xs) (.int k i) = some (.ref y.cells) := by
 have h2 : ¬ ((i : Int) < 0) := by omega
 simp [idxA, he, h2, h]
theorem idx_own {m : Mem} {T U : TypeId} {g n c c' e : Nat} {xs : List AV} {k : IntKind} {i : Nat} (he : esz P T = some e) (hg : m g = some (.arr U e c' xs)) (hn : xs.length = n) (h : i < n) : idxA P m T (.own g n c) (.int k i) = some (.elt g e i 0) := by
 have h2 : ¬ ((i : Int) < 0) := by omega
 simp [idxA, he, h2, hg, hn, h]
@[simp] theorem load_ref (m : Mem) (T : TypeId) (cs : List AV) : loadA P m T (.ref cs) = match loadT P T with | some (n, b) => loadC n b cs | none => none := by
 unfold loadA; cases loadT P T <;> rfl
@[simp] theorem load_ptr (m : Mem) (T : TypeId) (g o : Nat) : loadA P m T (.ptr g o) = match loadT P T with | some (n, b) => (match m g with | some (.box cs) => loadC n b (cs.drop o) | _ => none) | none => none := by
 unfold loadA; cases loadT P T <;> rfl
@[simp] theorem load_elt (m : Mem) (T : TypeId) (g e i o : Nat) : loadA P m T (.elt g e i o) = match loadT P T with | some (n, b) => (match m g with | some (.arr _ e' _ xs) => if e = e' then match xs[i]? with | some x => loadC n b (x.cells.drop o) | none => none else none | _ => none) | none => none := by
 unfold loadA; cases loadT P T <;> rfl
@[simp] theorem loadC_one (n : Nat) (c : AV) (cs : List AV) : loadC n false (c :: cs) = some c := (_root_.id rfl)
@[simp] theorem loadC_agg (n : Nat) (cs : List AV) : loadC n true cs = if n ≤ cs.length then some (.agg (cs.take n)) else none := (_root_.id rfl)
@[simp] theorem faddr_ref (T : TypeId) (f : Nat) (cs : List AV) : faddrA P T f (.ref cs) = match fieldT P T f with | some (o, n, _) => if n = 0 then none else some (.ref (cs.drop o)) | none => none := (_root_.id rfl)
@[simp] theorem faddr_ptr (T : TypeId) (f g k : Nat) : faddrA P T f (.ptr g k) = match fieldT P T f with | some (o, n, _) => if n = 0 then none else some (.ptr g (k + o)) | none => none := (_root_.id rfl)
@[simp] theorem faddr_elt (T : TypeId) (f g e i k : Nat) : faddrA P T f (.elt g e i k) = match fieldT P T f with | some (o, n, _) => if n = 0 then none else some (.elt g e i (k + o)) | none => none := (_root_.id rfl)
@[simp] theorem field_agg (T : TypeId) (f : Nat) (cs : List AV) : fieldA P T f (.agg cs) = match fieldT P T f with | some (o, n, b) => loadC n b (cs.drop o) | none => none := by
 unfold fieldA; cases fieldT P T f <;> rfl
@[simp] theorem conv_int (U V : TypeId) (k : IntKind) (n : Int) : convA P U V (.int k n) = match P.underlying U, P.underlying V with | some (.int _), some (.int k) => some (.int k (k.wrap n)) | _, _ => none := (_root_.id rfl)
@[simp] theorem conv_lst (U V : TypeId) (f : Bool) (e : Nat) (xs : List AV) : convA P U V (.lst f e xs) = match P.underlying U, P.underlying V with
  | some (.slice el), some .string => match P.underlying el with
   | some (.int .u8) => if e = 1 then (numsA xs).map fun ns => .str (bytesOf ns) else none
   | _ => none
  | _, _ => none := (_root_.id rfl)
@[simp] theorem conv_str (U V : TypeId) (s : ByteArray) : convA P U V (.str s) = match P.underlying U, P.underlying V with | some .string, some .string => some (.str s) | _, _ => none := (_root_.id rfl)
@[simp] theorem max_int (k k' : IntKind) (x y : Int) : max2A (.int k x) (.int k' y) = some (.int k (if x < y then y else x)) := (_root_.id rfl)
@[simp] theorem min_int (k k' : IntKind) (x y : Int) : min2A (.int k x) (.int k' y) = some (.int k (if y < x then y else x)) := (_root_.id rfl)
@[simp] theorem build_eq (T : TypeId) (parts : List (Nat × AV)) : buildA P T parts = match placesT P T, zeroT P T with
 | some pl, some z => (match z with
  | .undef => none
  | z => (fillA (fun i => pl[i]?) z.cells parts).map .agg)
 | _, _ => none := (_root_.id rfl)
@[simp] theorem fill_nil (pl : Nat → Option (Nat × Nat)) (cells : List AV) : fillA pl cells [] = some cells := (_root_.id rfl)
@[simp] theorem fill_cons (pl : Nat → Option (Nat × Nat)) (cells : List AV) (i : Nat) (v : AV) (rest : List (Nat × AV)) : fillA pl cells ((i, v) :: rest) = match pl i with
 | none => none
 | some (off, size) => match v with
  | .undef => none
  | v => if v.cells.length = size then (if off + size ≤ cells.length then fillA pl (cells.take off ++ v.cells ++ cells.drop (off + size)) rest else none) else none := (_root_.id rfl)

section
variable (p : Bool) (s : St) (K : St → Prop) (d : Option Tmp) (T : TypeId) (pos : String) (af : Array Edge) (g : Option (Nat × Bool))
@[simp] theorem aop_append (x y : Operand) (ts : Array TypeId) : AOp P p ⟨d, .call ⟨.builtin .append, #[x, y], ts⟩, T, pos, af, g⟩ s K = appendW P s.mem (fun v m' => K ((s.put d v).withMem m')) ts (s.eval x) (s.eval y) := (_root_.id rfl)
@[simp] theorem aop_buildSlice (U : TypeId) (n : Nat) (parts : Array (Nat × Operand)) : AOp P p ⟨d, .buildSlice U n parts, T, pos, af, g⟩ s K = match esz P U with
  | some e => n = parts.size ∧ n * e ≤ 16777216 ∧ e ≠ 0 ∧ (match elemT P U with | some E => (zeroE P E).isSome = true | none => False) ∧
   (match literalA e (parts.toList.map fun q => (q.1, s.eval q.2)) with | some xs => K (s.put d (.lst true e xs)) | none => False)
  | none => False := by
 have e : ∀ v, (s.put d v).withMem s.mem = s.put d v := fun v => by cases d <;> rfl
 simp only [AOp, outR, WT, e]
 rfl
@[simp] theorem aop_box (U : TypeId) (x : Operand) : AOp P p ⟨d, .box U x, T, pos, af, g⟩ s K = match s.eval x with | .undef => False | v => ∀ b, s.mem b = none → K ((s.put d (.ptr b 0)).withMem (s.mem.set b (.box v.cells))) := (_root_.id rfl)
@[simp] theorem aop_alloc (U : TypeId) : AOp P p ⟨d, .alloc U, T, pos, af, g⟩ s K = match zeroE P U with | some z => ∀ b, s.mem b = none → K ((s.put d (.ptr b 0)).withMem (s.mem.set b (.box z.cells))) | none => False := (_root_.id rfl)
@[simp] theorem aop_store (U : TypeId) (a x : Operand) : AOp P p ⟨d, .store U a x, T, pos, af, g⟩ s K = match s.eval x with
  | .undef => False
  | v => match szT P U with
   | some n => v.cells.length = n ∧ v.cells.all okCell = true ∧ (match storeA s.mem (s.eval a) v with | some m' => K ((s.put d .undef).withMem m') | none => False)
   | none => False := (_root_.id rfl)
end
@[simp] theorem lit_eq (n : Nat) (parts : List (Nat × AV)) : literalA n parts = if parts.map (·.1) = List.range parts.length ∧ parts.all (fun p => (match p.2 with | .undef => false | _ => true) && (p.2.cells.length == n)) = true then some (parts.map (·.2)) else none := (_root_.id rfl)
@[simp] theorem store_ptr (m : Mem) (g o : Nat) (x : AV) : storeA m (.ptr g o) x = match m g with
  | some (.box cs) => if o + x.cells.length ≤ cs.length then some (m.set g (.box (cs.take o ++ x.cells ++ cs.drop (o + x.cells.length)))) else none
  | _ => none := (_root_.id rfl)

@[simp] theorem aop_makeSlice (p : Bool) (s : St) (K : St → Prop) (d : Option Tmp) (T : TypeId) (pos : String) (af : Array Edge) (g : Option (Nat × Bool)) (U : TypeId) (l c : Operand) : AOp P p ⟨d, .makeSlice U l c, T, pos, af, g⟩ s K = match s.eval l, s.eval c with
  | .int _ n, .int _ n' => (match elemT P U with
   | some E => (match szT P E, bytesT P E, zeroE P E with
    | some e, some b, some z => n = n' ∧ 0 ≤ n ∧ n * b ≤ 281474976710656 ∧ e ≠ 0 ∧ z.cells.length = e ∧ n ≤ 9223372036854775807 ∧
     ∀ g, s.mem g = none → K ((s.put d (.own g n.toNat n.toNat)).withMem (s.mem.set g (.arr E e n.toNat (List.replicate n.toNat z))))
    | _, _, _ => False)
   | none => False)
  | _, _ => False := (_root_.id rfl)
theorem set_at (m : Mem) (g : Nat) (b : Blk) (k : Nat) : m.set g b k = if k = g then some b else m k := rfl
theorem post_cell {fn : Func} {a : Tmp} {T : TypeId} {r : AV} {e : Exit} {s : St} (he : e = .ret ∨ e = .normal) (hr : fn.results = #[.cell a T]) (h : loadA P s.mem T (s.slots a) = some r) : Post P fn (fun r' _ => r' = r) e s := by
 have : ∃ vs r' m', resA P s.mem s.slots fn.results.toList = some vs ∧ View s.mem (oneOf vs) m' r' ∧ r' = r := ⟨[r], r, s.mem, by rw [hr]; simp [resA, h], View.refl _ _, rfl⟩
 rcases he with rfl | rfl <;> exact this
@[simp] theorem ok_int (k : IntKind) (n : Int) : okCell (.int k n) = true := (_root_.id rfl)
@[simp] theorem ok_bool (b : Bool) : okCell (.bool b) = true := (_root_.id rfl)
@[simp] theorem ok_str (s : ByteArray) : okCell (.str s) = true := (_root_.id rfl)
@[simp] theorem ok_lst (f : Bool) (e : Nat) (xs : List AV) : okCell (.lst f e xs) = true := (_root_.id rfl)
@[simp] theorem ok_own (g n c : Nat) : okCell (.own g n c) = true := (_root_.id rfl)
@[simp] theorem ok_ptr (g o : Nat) : okCell (.ptr g o) = true := (_root_.id rfl)
theorem AWp.condT {N : Nat} {c : Operand} {x y : Code} {Q : Exit → St → Prop} {s : St} (hc : s.eval c = .bool true) (h : AWp P N x Q s) : AWp P N (.cond c x y) Q s := AWp.cond hc (fun _ => h) (fun h => by cases h)
theorem AWp.condF {N : Nat} {c : Operand} {x y : Code} {Q : Exit → St → Prop} {s : St} (hc : s.eval c = .bool false) (h : AWp P N y Q s) : AWp P N (.cond c x y) Q s := AWp.cond hc (fun h => by cases h) (fun _ => h)
/-- X where a condition holds, else Y. -/
def condRun (v : AV) (X Y : Prop) : Prop := match v with
 | .bool b => if b = true then X else Y
 | _ => False
@[congr] theorem condRun_congr {v v' : AV} {X Y : Prop} (h : v = v') : condRun v X Y = condRun v' X Y := by rw [h]
@[simp] theorem condRun_t (X Y : Prop) : condRun (.bool true) X Y = X := by simp [condRun]
@[simp] theorem condRun_f (X Y : Prop) : condRun (.bool false) X Y = Y := by simp [condRun]
theorem condRunI {c : Bool} {X Y : Prop} (h1 : c = true → X) (h2 : c = false → Y) : condRun (.bool c) X Y := by
 unfold condRun
 cases c
 ·exact h2 rfl
 ·exact h1 rfl
theorem AWp.condG {N : Nat} {c : Operand} {x y : Code} {Q : Exit → St → Prop} {s : St} (h : condRun (s.eval c) (AWp P N x Q s) (AWp P N y Q s)) : AWp P N (.cond c x y) Q s := by
 unfold condRun at h
 split at h
 ·rename_i b hb
  exact AWp.cond hb (fun e => by rwa [if_pos e] at h) (fun e => by rwa [if_neg (by simp [e])] at h)
 ·exact h.elim
theorem aop_call' {p : Bool} {s : St} {K : St → Prop} {d : Option Tmp} {T : TypeId} {pos : String} {af : Array Edge} {g : Option (Nat × Bool)} {f : FuncId} {args : Array Operand} {ts : Array TypeId} {r : AV} (h : PCall P f (args.toList.map s.eval) r) (hk : K (s.put d r)) : AOp P p ⟨d, .call ⟨.value (.func f), args, ts⟩, T, pos, af, g⟩ s K := aop_call _ _ _ _ _ _ _ _ h hk
theorem iteI {c : Prop} [Decidable c] {x y : Prop} (h1 : c → x) (h2 : ¬ c → y) : if c then x else y := by split <;> simp_all
/-- A loop; R: what holds at the next round's head. -/
theorem AWp.rounds {N : Nat} {c : Code} {Q : Exit → St → Prop} {s : St} (I : Nat → St → Prop) (n : Nat) (h0 : I n s) (round : ∀ (R : St → Prop) n s, (∀ s' m, m < n → I m s' → R s') → I n s → AWp P N c (thenA R Q) s) : AWp P N (.loop c) Q s :=
 AWp.loop I n h0 fun n s h => round _ n s (fun s' m hm hI => ⟨m, hm, hI⟩) h
/-- 64 bits hold it. -/
theorem wrap64 {x : Int} (h : -9223372036854775808 ≤ x) (k : x ≤ 9223372036854775807) : IntKind.wrap .i64 x = x := by
 rw [IntKind.wrap_i64]; omega
end
end Go.T
namespace Go.T
open Go
section
variable {P : Program} (p : Bool) (s : St) (K : St → Prop) (d : Option Tmp) (T : TypeId) (pos : String) (af : Array Edge) (g : Option (Nat × Bool))
def nilA : AV → Option AV
 | .ptr g o => some (.ptr g o)
 | .ref cs => some (.ref cs)
 | .elt g e i o => some (.elt g e i o)
 | .func (.func f) cs => some (.func (.func f) cs)
 | _ => none
@[simp] theorem nilA_ptr (g o : Nat) : nilA (.ptr g o) = some (.ptr g o) := (_root_.id rfl)
@[simp] theorem nilA_ref (cs : List AV) : nilA (.ref cs) = some (.ref cs) := (_root_.id rfl)
@[simp] theorem nilA_elt (g e i o : Nat) : nilA (.elt g e i o) = some (.elt g e i o) := (_root_.id rfl)
@[simp] theorem nilA_func (f : FuncId) (cs : List AV) : nilA (.func (.func f) cs) = some (.func (.func f) cs) := (_root_.id rfl)
theorem outR_nil (m : Mem) (ev : Operand → AV) (x : Operand) : outR P m ev (.nilCheck x) = nilA (ev x) := by
 simp only [outR]
 generalize ev x = v
 cases v with
 | func fn cs => cases fn <;> rfl
 | _ => rfl
@[simp] theorem sidx_agg (T : TypeId) (cs : List AV) (k : IntKind) (i : Int) : sidxA P T (.agg cs) (.int k i) = match P.underlying T with
  | some (.array n e) => if 0 ≤ i ∧ i < n then (match szT P e, aggT P e with | some z, some b => loadC z b (cs.drop (i.toNat * z)) | _, _ => none) else none
  | _ => none := (_root_.id rfl)
@[simp] theorem aop_nilCheck (x : Operand) : AOp P p ⟨d, .nilCheck x, T, pos, af, g⟩ s K = goO (nilA (s.eval x)) d s K := by
 exact aop_go (outR_nil ..) (fun _ h => h)
end
end Go.T
namespace Go.T
open Go Go.RowKit Go.ChangeShapes
section
variable {H : Type} {enc : TypeId × Value → H} {P : Program} {W : World}

/-- Blocks that are there. -/
def Old (W : World) (b : Nat) : Prop := b < W.heap.size

/-- Cells of a type that read as data are trees. -/
def Opens (enc : TypeId × Value → H) (P : Program) (W : World) (T : TypeId) {α : Type} (cells : α → List AV) (good : α → Prop) (fuel : Nat) : Prop :=
 ∀ cs d, DataW.trod enc P W 0 (fun _ => true) true fuel T cs = some d → ∃ a, good a ∧ Reps W (Old W) (cells a) cs

theorem Opens.map {T : TypeId} {α β : Type} {cells : α → List AV} {good : α → Prop} {cells' : β → List AV} {good' : β → Prop} {fuel : Nat} (h : Opens enc P W T cells good fuel) (f : α → β) (hf : ∀ a, good a → good' (f a) ∧ Les (cells a) (cells' (f a))) : Opens enc P W T cells' good' fuel := fun cs d hd => by
 obtain ⟨a, ha, hr⟩ := h cs d hd
 exact ⟨f a, (hf a ha).1, (hf a ha).2.reps hr⟩

theorem Cells.append {w : World} {S : Nat → Prop} {b : Nat} {as bs : List AV} : ∀ {o : Nat}, Cells w S b o as → Cells w S b (o + as.length) bs → Cells w S b o (as ++ bs) := by
 induction as with
 | nil => intro o _ k; simpa using k
 | cons a as ih =>
  intro o h k
  cases h with
  | cons hc h t =>
   refine .cons hc h (ih t ?_)
   have e : o + 1 + as.length = o + (a :: as).length := by simp; omega
   rw [e]; exact k
theorem Cells.join {α : Type} {w : World} {S : Nat → Prop} {b n : Nat} {cells : α → List AV} : ∀ (l : List α) (o : Nat), (∀ a ∈ l, (cells a).length = n) → (∀ i a, l[i]? = some a → Cells w S b (o + i * n) (cells a)) → Cells w S b o (l.flatMap cells)
 | [], o, _, _ => .nil _ _
 | a :: l, o, hn, h => by
  rw [List.flatMap_cons]
  have h0 := h 0 a rfl
  rw [Nat.zero_mul, Nat.add_zero] at h0
  refine Cells.append h0 ?_
  rw [hn a (List.mem_cons_self ..)]
  refine Cells.join l (o + n) (fun x hx => hn x (List.mem_cons_of_mem _ hx)) fun i x hx => ?_
  have := h (i + 1) x (by simpa using hx)
  rw [show o + n + i * n = o + (i + 1) * n from by rw [Nat.add_mul]; omega]
  exact this

end
end Go.T
