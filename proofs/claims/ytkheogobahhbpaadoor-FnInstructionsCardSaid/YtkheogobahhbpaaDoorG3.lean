/- Regions whose order is drawn, told in an order of one's own; loads of what nobody writes any more. Ways that meet again. What the functions say, in plain Lean: names. Trees of the program's values, in plain Lean. What is right, in plain Lean. How the reference counts expressions, in plain Lean. Statements that are right, in plain Lean. Names in order, in plain Lean. Parts of trees. Sorted, and each once: what the library's functions say, and the names in order. The library's calls on a row of strings, told of trees. Calls that read a table of the library's: the table's block is told as a block of the memory that nobody writes; strconv.Itoa; the end of such a law. Numbers as text: what is read digit by digit is the library's numeral. Machines as trees, in plain Lean. Straight sums and boxes as trees; what they are from and to, in plain Lean. An argument that is a slice. -/
import Derived.Test.YtkheogobahhbpaaDoorG2
import Derived.Lib.SlicesCompact
import Derived.Laws.Strings
import Derived.Sort.Grow
import Derived.Sort.EncStr
import Derived.Lib.LaidTab
import Derived.Lib.ItoaNum
import Derived.Deep.Draws
import Derived.WideShapes
namespace Go.T
open Go
set_option linter.unusedSimpArgs false
set_option linter.unusedVariables false
section
variable {P : Program}

def noMem : Mem := fun _ => none
def isLoad : Op → Bool
  | .load .. => true
  | .indexAddr .. => true
  | _ => false
/-- A load of what nobody writes any more asks no memory. -/
def AOpF (P : Program) (f r : Bool) (o : Oper) (s : St) (K : St → Prop) : Prop :=
  if (r && isLoad o.op) = true then ∃ v, outR P noMem s.eval o.op = some v ∧ K (s.put o.dst v) else AOp P f o s K
theorem load_noMem {T : TypeId} {a v : AV} {m : Mem} (h : loadA P noMem T a = some v) : loadA P m T a = some v := by
  cases a with
  | ref cs => simpa using h
  | ptr g o =>
    rw [load_ptr] at h
    cases hq : loadT P T with
    | none => simp [hq] at h
    | some x => simp [hq, noMem] at h
  | elt g e i o =>
    rw [load_elt] at h
    cases hq : loadT P T with
    | none => simp [hq] at h
    | some x => simp [hq, noMem] at h
  | _ =>
    unfold loadA at h
    cases hq : loadT P T <;> simp [hq] at h
theorem idx_noMem {T : TypeId} {a i v : AV} {m : Mem} (h : idxA P noMem T a i = some v) : idxA P m T a i = some v := by
  unfold idxA at h ⊢
  cases i with
  | int k n =>
    cases hq : esz P T with
    | none => simp only [hq] at h ⊢; exact h
    | some e =>
      simp only [hq] at h ⊢
      cases a with
      | own g l c => simp [noMem] at h
      | _ => exact h
  | _ => cases h
theorem aopF_le {f r : Bool} {o : Oper} {s : St} {K : St → Prop} (h : AOpF P f r o s K) : AOp P f o s K := by
  unfold AOpF at h
  split at h
  · rename_i hr
    obtain ⟨v, hv, hk⟩ := h
    simp only [Bool.and_eq_true] at hr
    have hl := hr.2
    cases hop : o.op <;> rw [hop] at hl hv <;> try (cases hl; done)
    all_goals
      simp only [outR] at hv
      unfold AOp
      rw [hop]
      simp only [outR]
    · rw [load_noMem hv]
      exact hk
    · rw [idx_noMem hv]
      exact hk
  · exact h
def clsF (f r : Bool) (op : Op) : Nat := if (r && isLoad op) = true then 0 else cls f op
def GOpF (P : Program) (f r : Bool) (ops : Array Oper) (o : Oper) (s : St) (K : St → Prop) : Prop :=
  match wantedA ops o s with
  | some true => AOpF P f r o s K
  | some false => K (s.put o.dst (.tup []))
  | none => False
theorem gopF_le {f r : Bool} {ops : Array Oper} {o : Oper} {s : St} {K : St → Prop} (h : GOpF P f r ops o s K) : GOp P f ops o s K := by
  unfold GOpF at h
  unfold GOp
  cases hw : wantedA ops o s with
  | none => rw [hw] at h; exact h
  | some b =>
    rw [hw] at h
    cases b with
    | true => exact aopF_le h
    | false => exact h
theorem aopF_mono {f r : Bool} {o : Oper} {s : St} {K K' : St → Prop} (hk : ∀ s, K s → K' s) (h : AOpF P f r o s K) : AOpF P f r o s K' := by
  unfold AOpF at h ⊢
  split at h
  · rename_i hr
    rw [if_pos hr]
    obtain ⟨v, hv, h⟩ := h
    exact ⟨v, hv, hk _ h⟩
  · rename_i hr
    rw [if_neg hr]
    exact aop_mono hk h
theorem gopF_mono {f r : Bool} {ops : Array Oper} {o : Oper} {s : St} {K K' : St → Prop} (hk : ∀ s, K s → K' s) (h : GOpF P f r ops o s K) : GOpF P f r ops o s K' := by
  unfold GOpF at h ⊢
  split at h
  · exact aopF_mono hk h
  · exact hk _ h
  · exact h
def GOutF (P : Program) (f r : Bool) (ops : Array Oper) (o : Oper) (s : St) (v : AV) : Prop :=
  match wantedA ops o s with
  | some true => if (r && isLoad o.op) = true then outR P noMem s.eval o.op = some v else if cls f o.op = 0 then Out0 P f s.eval o.op v else outR P s.mem s.eval o.op = some v
  | some false => v = .tup []
  | none => False
theorem gopF01 {f r : Bool} {ops : Array Oper} {o : Oper} (h : clsF f r o.op ≤ 1) (s : St) (K : St → Prop) : GOpF P f r ops o s K ↔ ∃ v, GOutF P f r ops o s v ∧ K (s.put o.dst v) := by
  unfold GOpF GOutF
  cases wantedA ops o s with
  | none => simp
  | some b =>
    cases b with
    | false => simp
    | true =>
      unfold clsF at h
      unfold AOpF
      simp only
      by_cases hr : (r && isLoad o.op) = true
      · simp only [if_pos hr]
      · simp only [if_neg hr] at h ⊢
        by_cases h0 : cls f o.op = 0
        · simp only [h0, if_true]; exact aop0 h0 s K
        · simp only [h0, if_false]; exact aop1 (by omega) s K
theorem gopF2 {f r : Bool} {ops : Array Oper} {o : Oper} (h : clsF f r o.op = 2) (s : St) (K : St → Prop) : GOpF P f r ops o s K ↔ (match wantedA ops o s with
    | some true => WT P f s.mem s.eval (fun v m' => K ((s.put o.dst v).withMem m')) o.op | some false => K (s.put o.dst (.tup [])) | none => False) := by
  unfold clsF at h
  split at h
  · cases h
  · rename_i hr
    unfold GOpF AOpF
    cases wantedA ops o s with
    | none => simp
    | some b =>
      cases b with
      | false => simp
      | true => simp only [if_neg hr]; exact aop2 h s K
theorem goutF_put {f r : Bool} {ops : Array Oper} {o : Oper} {s : St} {d : Option Tmp} {v : AV} (h : ∀ t, d = some t → t ∉ readsOf ops o) (u : AV) : GOutF P f r ops o (s.put d v) u = GOutF P f r ops o s u := by
  obtain ⟨h1, h2⟩ := put_reads (s := s) (v := v) h
  unfold GOutF
  rw [h2, put_mem, out0_eq (P := P) h1, operands_eq (P := P) h1, operands_eq (P := P) h1]
theorem goutF_mem {f r : Bool} {ops : Array Oper} {o : Oper} (h0 : clsF f r o.op = 0) {s : St} {m : Mem} (u : AV) : GOutF P f r ops o (s.withMem m) u = GOutF P f r ops o s u := by
  unfold clsF at h0
  unfold GOutF
  by_cases hr : (r && isLoad o.op) = true
  · simp only [if_pos hr]; rfl
  · simp only [if_neg hr] at h0 ⊢
    simp only [h0, if_true]
    rfl
theorem loadA_ext {m m' : Mem} (hE : ∀ g b, m g = some b → m' g = some b) {T : TypeId} {a v : AV} (h : loadA P m T a = some v) : loadA P m' T a = some v := by
  cases a with
  | ptr g o =>
    rw [load_ptr] at h ⊢
    cases hq : loadT P T with
    | none => simp [hq] at h
    | some x =>
      cases hm : m g with
      | none => simp [hq, hm] at h
      | some b => rw [hm, hq] at h; rw [hE g b hm]; exact h
  | elt g e i o =>
    rw [load_elt] at h ⊢
    cases hq : loadT P T with
    | none => simp [hq] at h
    | some x =>
      cases hm : m g with
      | none => simp [hq, hm] at h
      | some b => rw [hm, hq] at h; rw [hE g b hm]; exact h
  | _ => exact h
theorem idxA_ext {m m' : Mem} (hE : ∀ g b, m g = some b → m' g = some b) {T : TypeId} {a i v : AV} (h : idxA P m T a i = some v) : idxA P m' T a i = some v := by
  unfold idxA at h ⊢
  cases i with
  | int k n =>
    cases hq : esz P T with
    | none => simp only [hq] at h ⊢; exact h
    | some e =>
      simp only [hq] at h ⊢
      cases a with
      | own g l c =>
        cases hm : m g with
        | none => simp [hm] at h
        | some b => simp only [hm] at h; simp only [hE g b hm]; exact h
      | _ => exact h
  | _ => cases h
theorem outR_ext {m m' : Mem} (hE : ∀ g b, m g = some b → m' g = some b) {ev : Operand → AV} {op : Op} {v : AV} (h : outR P m ev op = some v) : outR P m' ev op = some v := by
  cases op with
  | load T a => exact loadA_ext hE h
  | indexAddr T x i => exact idxA_ext hE h
  | slice T x lo hi mx => cases mx <;> exact h
  | _ => exact h
theorem goutF_ext {f r : Bool} {ops : Array Oper} {o : Oper} {s : St} {m : Mem} (hE : ∀ g b, s.mem g = some b → m g = some b) {u : AV} (h : GOutF P f r ops o s u) : GOutF P f r ops o (s.withMem m) u := by
  unfold GOutF at h ⊢
  have hw : wantedA ops o (s.withMem m) = wantedA ops o s := rfl
  have he : (s.withMem m).eval = s.eval := rfl
  have hm : (s.withMem m).mem = m := rfl
  rw [hw, he, hm]
  split at h
  · split at h
    · rename_i hr; rw [if_pos hr]; exact h
    · rename_i hr
      rw [if_neg hr]
      split at h
      · rename_i h0; rw [if_pos h0]; exact h
      · rename_i h0; rw [if_neg h0]; exact outR_ext hE h
  · exact h
  · exact h
/-- An operation that only makes room. -/
def isAlloc : Op → Bool
  | .alloc _ | .box .. | .makeSlice .. => true
  | _ => false
theorem wt_alloc {p : Bool} {m : Mem} {ev : Operand → AV} {k : AV → Mem → Prop} {op : Op} (ha : isAlloc op = true) (h : WT P p m ev k op) : WT P p m ev (fun v m' => k v m' ∧ ∀ g b, m g = some b → m' g = some b) op := by
  have hs : ∀ (g : Nat) (x : Blk), m g = none → ∀ g' b, m g' = some b → (m.set g x) g' = some b := fun g x hg g' b hb => by
    rw [Mem.set_other]
    · exact hb
    · rintro rfl; rw [hg] at hb; cases hb
  cases op <;> try (cases ha; done)
  · simp only [WT] at h ⊢
    split at h
    · exact fun g hg => ⟨h g hg, hs g _ hg⟩
    · exact h
  · simp only [WT] at h ⊢
    split at h
    · exact h
    · exact fun g hg => ⟨h g hg, hs g _ hg⟩
  · simp only [WT] at h ⊢
    split at h
    · split at h
      · split at h
        · exact ⟨h.1, h.2.1, h.2.2.1, h.2.2.2.1, h.2.2.2.2.1, h.2.2.2.2.2.1, fun g hg => ⟨h.2.2.2.2.2.2 g hg, hs g _ hg⟩⟩
        · exact h
      · exact h
    · exact h
structure ApartF (p r : Nat → Bool) (ops : Array Oper) (i j : Nat) (a b : Oper) : Prop where
  ab : ∀ t, a.dst = some t → t ∉ readsOf ops b
  ba : ∀ t, b.dst = some t → t ∉ readsOf ops a
  dd : ∀ t, a.dst = some t → b.dst ≠ some t
  c : clsF (p i) (r i) a.op ≤ 1 ∧ clsF (p j) (r j) b.op ≤ 1 ∨ clsF (p i) (r i) a.op = 0 ∧ clsF (p j) (r j) b.op = 2 ∨ clsF (p i) (r i) a.op ≤ 1 ∧ clsF (p j) (r j) b.op = 2 ∧ isAlloc b.op = true
theorem gopF_swap {p r : Nat → Bool} {ops : Array Oper} {i j : Nat} {a b : Oper} (h : ApartF p r ops i j a b) {s : St} {K : St → Prop} (hk : GOpF P (p i) (r i) ops a s fun s1 => GOpF P (p j) (r j) ops b s1 K) : GOpF P (p j) (r j) ops b s fun s1 => GOpF P (p i) (r i) ops a s1 K := by
  rcases h.c with ⟨ca, cb⟩ | ⟨ca, cb⟩ | ⟨ca, cb, cc⟩
  rotate_left 2
  · rw [gopF01 ca] at hk
    obtain ⟨v, hv, hk⟩ := hk
    rw [gopF2 cb] at hk ⊢
    obtain ⟨h1, h2⟩ := put_reads (s := s) (v := v) h.ab
    rw [h2] at hk
    split at hk
    · rw [put_mem, wt_eq (P := P) h1] at hk
      refine wt_mono (fun u m' hh => ?_) (wt_alloc cc hk)
      obtain ⟨hh, hE⟩ := hh
      rw [gopF01 ca]
      refine ⟨v, goutF_ext (s := s.put b.dst u) (by rw [put_mem]; exact hE) (by rw [goutF_put h.ba]; exact hv), ?_⟩
      rw [withMem_put, ← put_put h.dd]; exact hh
    · rw [gopF01 ca]
      refine ⟨v, by rw [goutF_put h.ba]; exact hv, ?_⟩
      rw [← put_put h.dd]; exact hk
    · exact hk
  · rw [gopF01 ca] at hk
    obtain ⟨v, hv, hk⟩ := hk
    rw [gopF01 cb] at hk ⊢
    obtain ⟨u, hu, hk⟩ := hk
    refine ⟨u, by rw [goutF_put h.ab] at hu; exact hu, ?_⟩
    rw [gopF01 ca]
    refine ⟨v, by rw [goutF_put h.ba]; exact hv, ?_⟩
    rw [← put_put h.dd]; exact hk
  · rw [gopF01 (by omega)] at hk
    obtain ⟨v, hv, hk⟩ := hk
    rw [gopF2 cb] at hk ⊢
    obtain ⟨h1, h2⟩ := put_reads (s := s) (v := v) h.ab
    rw [h2] at hk
    split at hk
    · rw [put_mem, wt_eq (P := P) h1] at hk
      refine wt_mono (fun u m' hh => ?_) hk
      rw [gopF01 (by omega)]
      refine ⟨v, by rw [goutF_mem ca, goutF_put h.ba]; exact hv, ?_⟩
      rw [withMem_put, ← put_put h.dd]; exact hh
    · rw [gopF01 (by omega)]
      refine ⟨v, by rw [goutF_put h.ba]; exact hv, ?_⟩
      rw [← put_put h.dd]; exact hk
    · exact hk
/-- Operations in the order of a list. -/
def AOpsF (P : Program) (p r : Nat → Bool) (ops : Array Oper) (K : St → Prop) : List Nat → St → Prop
  | [], s => K s
  | i :: l, s => match ops[i]? with
    | none => AOpsF P p r ops K l s
    | some o => GOpF P (p i) (r i) ops o s (AOpsF P p r ops K l)
theorem aopsF_cons {p r : Nat → Bool} {ops : Array Oper} {K : St → Prop} {i : Nat} {l : List Nat} {s : St} {o : Oper} (ho : ops[i]? = some o) : AOpsF P p r ops K (i :: l) s = GOpF P (p i) (r i) ops o s (AOpsF P p r ops K l) := by
  simp only [AOpsF, ho]
theorem aopsF_le {p r : Nat → Bool} {ops : Array Oper} {K : St → Prop} : ∀ (l : List Nat) (s : St), AOpsF P p r ops K l s → AOps P p ops K l s
  | [], s, h => h
  | i :: l, s, h => by
    cases ho : ops[i]? with
    | none => simp only [AOpsF, AOps, ho] at h ⊢; exact aopsF_le l s h
    | some o =>
      rw [aopsF_cons ho] at h
      rw [aops_cons ho]
      exact gop_mono (fun s hs => aopsF_le l s hs) (gopF_le h)
theorem aopsF_mono {p r : Nat → Bool} {ops : Array Oper} {K : St → Prop} {l l' : List Nat} (h : ∀ s, AOpsF P p r ops K l s → AOpsF P p r ops K l' s) (i : Nat) (s : St) (hk : AOpsF P p r ops K (i :: l) s) : AOpsF P p r ops K (i :: l') s := by
  cases ho : ops[i]? with
  | none => simp only [AOpsF, ho] at hk ⊢; exact h s hk
  | some o => rw [aopsF_cons ho] at hk ⊢; exact gopF_mono h hk
def ApartAtF (p r : Nat → Bool) (ops : Array Oper) (i j : Nat) : Prop := ∀ a b, ops[i]? = some a → ops[j]? = some b → ApartF p r ops i j a b
theorem aopsF_front {p r : Nat → Bool} {ops : Array Oper} {K : St → Prop} {j : Nat} {l2 : List Nat} : ∀ (l1 : List Nat) (s : St), (∀ i ∈ l1, ApartAtF p r ops i j) → AOpsF P p r ops K (l1 ++ j :: l2) s → AOpsF P p r ops K (j :: (l1 ++ l2)) s
  | [], s, _, hk => hk
  | i :: l1, s, h, hk => by
    have ih : ∀ s, AOpsF P p r ops K (l1 ++ j :: l2) s → AOpsF P p r ops K (j :: (l1 ++ l2)) s := fun s => aopsF_front l1 s (fun k hk => h k (by simp [hk]))
    have hk' := aopsF_mono ih i s hk
    have hap := h i (by simp)
    cases hi : ops[i]? with
    | none =>
      simp only [AOpsF, hi] at hk'
      show AOpsF P p r ops K (j :: i :: (l1 ++ l2)) s
      exact aopsF_mono (l := l1 ++ l2) (fun s hs => by simp only [AOpsF, hi]; exact hs) j s hk'
    | some a =>
      cases hj : ops[j]? with
      | none =>
        show AOpsF P p r ops K (j :: i :: (l1 ++ l2)) s
        have e : ∀ l, AOpsF P p r ops K (j :: l) = AOpsF P p r ops K l := fun l => by funext s; simp only [AOpsF, hj]
        rw [e] ; rw [e] at ih
        rw [aopsF_cons hi] at hk' ⊢
        exact gopF_mono (fun s hs => by rw [e] at hs; exact hs) hk'
      | some b =>
        rw [aopsF_cons hi] at hk'
        have h2 : GOpF P (p i) (r i) ops a s fun s1 => GOpF P (p j) (r j) ops b s1 (AOpsF P p r ops K (l1 ++ l2)) := gopF_mono (fun s1 hs => by rw [aopsF_cons hj] at hs; exact hs) hk'
        have h3 := gopF_swap (hap a b hi hj) h2
        show AOpsF P p r ops K (j :: i :: (l1 ++ l2)) s
        rw [aopsF_cons hj]
        exact gopF_mono (fun s1 hs => by rw [aopsF_cons hi]; exact hs) h3
def apartF (p r : Nat → Bool) (ops : Array Oper) (i j : Nat) : Bool :=
  match ops[i]?, ops[j]? with
  | some a, some b => (a.dst.toList.all fun t => !(readsOf ops b).contains t) && (b.dst.toList.all fun t => !(readsOf ops a).contains t) && (match a.dst, b.dst with | some t, some u => t != u | _, _ => true) &&
      ((clsF (p i) (r i) a.op ≤ 1 && clsF (p j) (r j) b.op ≤ 1) || (clsF (p i) (r i) a.op == 0 && clsF (p j) (r j) b.op == 2) || (clsF (p i) (r i) a.op ≤ 1 && (clsF (p j) (r j) b.op == 2 && isAlloc b.op)))
  | _, _ => true
theorem apartF_sound {p r : Nat → Bool} {ops : Array Oper} {i j : Nat} (h : apartF p r ops i j = true) : ApartAtF p r ops i j := by
  intro a b ha hb
  unfold apartF at h
  rw [ha, hb] at h
  simp only [Bool.and_eq_true, Bool.or_eq_true, List.all_eq_true, decide_eq_true_eq, beq_iff_eq] at h
  obtain ⟨⟨⟨h1, h2⟩, h3⟩, h4⟩ := h
  refine ⟨fun t ht hm => ?_, fun t ht hm => ?_, fun t ht hu => ?_, ?_⟩
  rotate_left 3
  · rcases h4 with (h4 | h4) | h4
    · exact .inl h4
    · exact .inr (.inl h4)
    · exact .inr (.inr ⟨h4.1, h4.2.1, h4.2.2⟩)
  · have := h1 t (by simp [ht]); simp [hm] at this
  · have := h2 t (by simp [ht]); simp [hm] at this
  · rw [ht, hu] at h3; simp at h3
def pairsF (p r : Nat → Bool) (ops : Array Oper) (an : List (List Nat)) : List Nat → Bool
  | [] => true
  | k :: l => (l.all fun i => (an.getD i []).contains k || apartF p r ops k i) && pairsF p r ops an l
theorem pairsF_sound {p r : Nat → Bool} {ops : Array Oper} {an : List (List Nat)} : ∀ {l : List Nat}, pairsF p r ops an l = true → l.Pairwise fun k i => (an.getD i []).contains k = true ∨ ApartAtF p r ops k i
  | [], _ => .nil
  | k :: l, h => by
    simp only [pairsF, Bool.and_eq_true, List.all_eq_true, Bool.or_eq_true] at h
    exact .cons (fun i hi => (h.1 i hi).imp id apartF_sound) (pairsF_sound h.2)
/-- The look at a region that draws its order, told in the order σ. -/
def orderF (p r : Nat → Bool) (σ : List Nat) (ops : Array Oper) : Bool :=
  ((List.range ops.size).all fun j => σ.contains j) && (σ.all fun j => j < ops.size) && decide σ.Nodup && pairsF p r ops (ancs ops.toList []) σ && ops.all fun (o : Oper) => o.after.all fun (e : Edge) => decide (e.on < ops.size)
def remF (σ : List Nat) (listed : Array Bool) : List Nat := σ.filter fun i => !listed.getD i true
theorem remF_set {σ : List Nat} (hσ : σ.Nodup) {listed : Array Bool} {i : Nat} (hin : i < listed.size) {l1 l2 : List Nat} (h : remF σ listed = l1 ++ i :: l2) : remF σ (listed.setIfInBounds i true) = l1 ++ l2 := by
  have hnd : (l1 ++ i :: l2).Nodup := by rw [← h]; exact List.Nodup.sublist List.filter_sublist hσ
  have e1 : remF σ (listed.setIfInBounds i true) = (remF σ listed).filter fun k => k != i := by
    unfold remF
    rw [List.filter_filter]
    apply List.filter_congr
    intro k hk
    by_cases hki : k = i
    · subst hki
      simp [Array.getD_eq_getD_getElem?, hin]
    · simp [Array.getD_eq_getD_getElem?, Array.getElem?_setIfInBounds_ne (Ne.symm hki), hki]
  rw [e1, h, List.filter_append, List.filter_cons]
  have h1 : ∀ k ∈ l1, (k != i) = true := fun k hk => by
    rw [bne_iff_ne]; rintro rfl
    exact (List.nodup_append.1 hnd).2.2 k hk k (by simp) rfl
  have h2 : ∀ k ∈ l2, (k != i) = true := fun k hk => by
    rw [bne_iff_ne]; rintro rfl
    exact (List.nodup_cons.1 (List.nodup_append.1 hnd).2.1).1 hk
  rw [List.filter_eq_self.2 h1, List.filter_eq_self.2 h2]
  simp
theorem binds_any {m : Region.Mode} {e : Edge} (h : Region.binds .any e = true) : Region.binds m e = true := by
  unfold Region.binds at h ⊢
  cases hg : e.ground <;> rw [hg] at h <;> simp at h ⊢ <;> cases h
/-- Does each stand behind what a mode binds it to? -/
def acyc (md : Region.Mode) (ops : Array Oper) : List Nat → List Nat → Bool
  | _, [] => true
  | done, j :: l => (match ops[j]? with | some o => o.after.all fun e => !Region.binds md e || done.contains e.on | none => true) && acyc md ops (j :: done) l
theorem acyc_ready {md : Region.Mode} {ops : Array Oper} {L : Nat → Bool} : ∀ (τ done : List Nat), acyc md ops done τ = true → (∀ j ∈ done, L j = true) → (∃ i ∈ τ, L i = false) → ∃ i ∈ τ, L i = false ∧ ∀ o, ops[i]? = some o → o.after.all (fun e => !Region.binds md e || L e.on) = true
  | [], done, _, _, ⟨i, hi, _⟩ => by cases hi
  | j :: l, done, h, hd, ⟨i, hi, hl⟩ => by
    simp only [acyc, Bool.and_eq_true] at h
    cases hj : L j with
    | true =>
      have hi' : i ∈ l := by
        rcases List.mem_cons.1 hi with rfl | h
        · rw [hj] at hl; cases hl
        · exact h
      obtain ⟨k, hk, h1, h2⟩ := acyc_ready l (j :: done) h.2 (fun x hx => by
        rcases List.mem_cons.1 hx with rfl | hx
        · exact hj
        · exact hd x hx) ⟨i, hi', hl⟩
      exact ⟨k, List.mem_cons_of_mem _ hk, h1, h2⟩
    | false =>
      refine ⟨j, List.mem_cons_self .., hj, fun o ho => ?_⟩
      have h1 := h.1
      rw [ho] at h1
      simp only [Array.all_eq_true', Bool.or_eq_true] at h1 ⊢
      intro e he
      rcases h1 e he with h | h
      · exact .inl h
      · exact .inr (hd _ (by simpa using h))
def acycAll (md : Region.Mode) (ops : Array Oper) (τ : List Nat) : Bool := acyc md ops [] τ && (List.range ops.size).all fun j => τ.contains j
theorem linearF_sound (md : Region.Mode) {p r : Nat → Bool} {σ : List Nat} {ops : Array Oper} {K : St → Prop} (hB : orderF p r σ ops = true) {τ : List Nat} (hT : acycAll md ops τ = true) : ∀ (fuel t : Nat) (listed : Array Bool) (acc : List Nat), listed.size = ops.size → fuel = (rem ops.size listed).length → fuel = (remF σ listed).length →
    (∀ (j : Nat) (o : Oper), ops[j]? = some o → listed.getD j true = true → ∀ e ∈ direct o, listed.getD e true = true) →
    ∃ π, Region.linearise.go md ops fuel t listed acc = acc.reverse ++ π ∧ ∀ s, AOpsF P p r ops K (remF σ listed) s → AOpsF P p r ops K π s := by
  intro fuel
  induction fuel with
  | zero =>
    intro t listed acc hs hf0 hf hc
    have : remF σ listed = [] := List.eq_nil_of_length_eq_zero hf.symm
    rw [this]
    exact ⟨[], by simp [Region.linearise.go], fun s hk => hk⟩
  | succ fuel ih =>
    intro t listed acc hs hf0 hf hc
    unfold orderF at hB
    simp only [Bool.and_eq_true, List.all_eq_true, List.mem_range, decide_eq_true_eq, Array.all_eq_true'] at hB
    obtain ⟨⟨⟨⟨hB, hσ1⟩, hσ2⟩, hpairs⟩, hE0⟩ := hB
    have hE : ∀ (i : Nat) (o : Oper), ops[i]? = some o → ∀ e ∈ o.after, e.on < ops.size := by
      intro i o ho e he
      have h1 := hE0 o (Array.mem_of_getElem? ho)
      exact h1 e he
    have hready : ∀ (i : Nat) (o : Oper), ops[i]? = some o → (((ops[i]?).map (·.after.all fun e => !Region.binds md e || listed.getD e.on false)).getD false = true → ∀ e ∈ direct o, listed.getD e false = true) := by
      intro i o ho
      rw [ho]
      simp only [Option.map_some, Option.getD_some, Array.all_eq_true', direct, List.mem_map, List.mem_filter]
      rintro h e ⟨x, ⟨hx, hb⟩, rfl⟩
      have := h x (by simpa using hx)
      simpa [binds_any (m := md) hb] using this
    unfold Region.linearise.go
    simp only
    generalize hrs : ((List.range ops.size).filter fun i => !listed.getD i true && ((ops[i]?).map (·.after.all fun e => !Region.binds md e || listed.getD e.on false)).getD false) = rs
    have hmem : ∀ i, i ∈ rs → i ∈ rem ops.size listed ∧ i ∈ remF σ listed ∧ ∃ o, ops[i]? = some o ∧ ∀ e ∈ direct o, listed.getD e false = true := by
      intro i hi
      rw [← hrs] at hi
      obtain ⟨h1, h2⟩ := List.mem_filter.1 hi
      simp only [Bool.and_eq_true] at h2
      have hlt := List.mem_range.1 h1
      refine ⟨List.mem_filter.2 ⟨h1, h2.1⟩, List.mem_filter.2 ⟨by simpa using hB i hlt, h2.1⟩, ?_⟩
      exact ⟨ops[i], by simp [hlt], hready i _ (by simp [hlt]) h2.2⟩
    have hne : rs ≠ [] := by
      have hrem : rem ops.size listed ≠ [] := by intro h; rw [h] at hf0; simp at hf0
      obtain ⟨i0, l0, hil⟩ := List.exists_cons_of_ne_nil hrem
      have hi0 : i0 ∈ rem ops.size listed := by rw [hil]; simp
      obtain ⟨hin0, hiu0⟩ := List.mem_filter.1 hi0
      unfold acycAll at hT
      simp only [Bool.and_eq_true, List.all_eq_true, List.mem_range] at hT
      obtain ⟨i, hiτ, h1, h2⟩ := acyc_ready (L := fun j => listed.getD j true) τ [] hT.1 (fun j hj => by cases hj) ⟨i0, by simpa using hT.2 i0 (List.mem_range.1 hin0), by simpa using hiu0⟩
      have hin : i < ops.size := by
        rcases Nat.lt_or_ge i ops.size with h | h
        · exact h
        · simp [Array.getD_eq_getD_getElem?, Array.getElem?_eq_none (show listed.size ≤ i by omega)] at h1
      intro hnil
      have : i ∈ rs := by
        rw [← hrs]
        refine List.mem_filter.2 ⟨List.mem_range.2 hin, ?_⟩
        simp only [Bool.and_eq_true]
        refine ⟨by simp [h1], ?_⟩
        have h3 := h2 ops[i] (by simp [hin])
        rw [show ops[i]? = some ops[i] from by simp [hin]]
        simp only [Option.map_some, Option.getD_some, Array.all_eq_true', Bool.or_eq_true] at h3 ⊢
        intro e he
        rcases h3 e he with h | h
        · exact .inl h
        · cases hb : Region.binds md e with
          | false => exact .inl rfl
          | true =>
            refine .inr ?_
            -- what is not there is never listed
            have hes := (hE i ops[i] (by simp [hin])) e he
            simp only [Array.getD_eq_getD_getElem?] at h ⊢
            rw [show listed[e.on]? = some (listed[e.on]'(by omega)) from by simp [hs, hes]] at h ⊢
            simpa using h
      rw [hnil] at this; cases this
    have hpos : 0 < rs.length := List.length_pos_iff.2 hne
    have hlt : t % rs.length < rs.length := Nat.mod_lt _ hpos
    rw [List.getElem?_eq_getElem hlt]
    simp only
    obtain ⟨hi0, hi, o, ho, hd⟩ := hmem _ (List.getElem_mem hlt)
    generalize rs[t % rs.length] = i at *
    obtain ⟨l1, l2, hl⟩ := List.append_of_mem hi
    obtain ⟨k1, k2, hl0⟩ := List.append_of_mem hi0
    have hin := List.mem_range.1 (List.mem_filter.1 hi0).1
    have hset := remF_set hσ2 (by omega : i < listed.size) hl
    have hset0 := rem_set hs hl0
    have hlisted : ∀ e, listed.getD e false = true → listed.getD e true = true := by
      intro e he
      simp only [Array.getD_eq_getD_getElem?] at he ⊢
      cases hq : listed[e]? with
      | none => rfl
      | some b => rw [hq] at he; simpa using he
    have hap : ∀ k ∈ l1, ApartAtF p r ops k i := by
      intro k hk1
      have hkm : k ∈ remF σ listed := by rw [hl]; simp [hk1]
      have hp : (remF σ listed).Pairwise _ := List.Pairwise.filter _ (pairsF_sound hpairs)
      rw [hl] at hp
      rcases (List.pairwise_append.1 hp).2.2 k hk1 i (by simp) with h | h
      · have hclosed := ancs_closed ops (fun e => listed.getD e true = true) hc ops.toList [] 0 rfl (Nat.zero_le _) (fun q => by simp) (fun j o _ _ k hk => by simp [List.getD_eq_getElem?_getD] at hk) i o ho (fun e he => hlisted e (hd e he)) k (by simpa using h)
        have := (List.mem_filter.1 hkm).2
        rw [hclosed] at this; cases this
      · exact h
    have hc' : ∀ (j : Nat) (o' : Oper), ops[j]? = some o' → (listed.setIfInBounds i true).getD j true = true → ∀ e ∈ direct o', (listed.setIfInBounds i true).getD e true = true := by
      intro j o' ho' hj e he
      have key : ∀ q, listed.getD q true = true → (listed.setIfInBounds i true).getD q true = true := by
        intro q hq
        by_cases hqi : q = i
        · subst hqi; simp [Array.getD_eq_getD_getElem?]
        · simpa [Array.getD_eq_getD_getElem?, Array.getElem?_setIfInBounds_ne (Ne.symm hqi)] using hq
      by_cases hji : j = i
      · subst hji
        rw [ho] at ho'
        obtain rfl := Option.some.inj ho'
        exact key e (hlisted e (hd e he))
      · have : listed.getD j true = true := by simpa [Array.getD_eq_getD_getElem?, Array.getElem?_setIfInBounds_ne (Ne.symm hji)] using hj
        exact key e (hc j o' ho' this e he)
    obtain ⟨π, hgo, hπ⟩ := ih (t / rs.length) (listed.setIfInBounds i true) (i :: acc) (by simpa using hs) (by rw [hset0]; rw [hl0] at hf0; simp at hf0 ⊢; omega) (by rw [hset]; rw [hl] at hf; simp at hf ⊢; omega) hc'
    refine ⟨i :: π, by rw [hgo]; simp, fun s hk => ?_⟩
    rw [hl] at hk
    have hk2 := aopsF_front l1 s hap hk
    rw [hset] at hπ
    exact aopsF_mono hπ i s hk2
theorem scheduleF_sound {p r : Nat → Bool} {σ τ : List Nat} {ops : Array Oper} {K : St → Prop} (hB : orderF p r σ ops = true) (hT : (acycAll .text ops (List.range ops.size) && acycAll .gc ops τ && acycAll .any ops τ) = true) (mixed : Bool) (t : Nat) (s : St) (hk : AOpsF P p r ops K σ s) : AOps P p ops K (Region.schedule mixed ops t) s := by
  have hB' := hB
  unfold orderF at hB'
  simp only [Bool.and_eq_true, List.all_eq_true, List.mem_range, decide_eq_true_eq] at hB'
  obtain ⟨⟨⟨⟨hBr, hσ1⟩, hσ2⟩, hpairs⟩, _⟩ := hB'
  simp only [Bool.and_eq_true] at hT
  have hrem : rem ops.size (Array.replicate ops.size false) = List.range ops.size := by
    unfold rem
    rw [List.filter_eq_self]
    intro i hi
    have := List.mem_range.1 hi
    simp [Array.getD_eq_getD_getElem?, this]
  have hremF : remF σ (Array.replicate ops.size false) = σ := by
    unfold remF
    rw [List.filter_eq_self]
    intro i hi
    have := hσ1 i hi
    simp [Array.getD_eq_getD_getElem?, this]
  have hlen : ops.size = σ.length := by
    have hp : σ.Perm (List.range ops.size) := (List.perm_ext_iff_of_nodup hσ2 List.nodup_range).2 fun a => ⟨fun h => List.mem_range.2 (hσ1 a h), fun h => by simpa using hBr a (List.mem_range.1 h)⟩
    simpa using hp.length_eq.symm
  have key : ∀ md t (τ : List Nat), acycAll md ops τ = true → AOps P p ops K (Region.linearise md ops t) s := by
    intro md t τ hT
    obtain ⟨π, hgo, hπ⟩ := linearF_sound (P := P) (K := K) md hB hT ops.size t (Array.replicate ops.size false) [] (by simp) (by rw [hrem]; simp) (by rw [hremF]; exact hlen) (fun j o ho hj => by
      have hlt := (Array.getElem?_eq_some_iff.1 ho).1
      simp [Array.getD_eq_getD_getElem?, hlt] at hj)
    unfold Region.linearise
    rw [hgo, List.reverse_nil, List.nil_append]
    exact aopsF_le _ _ (hπ s (by rw [hremF]; exact hk))
  unfold Region.schedule
  split
  · exact key _ _ τ hT.2
  · split
    · exact key _ _ _ hT.1.1
    · exact key _ _ τ hT.1.2
def regF (N : Nat) (p r : Nat → Bool) (σ τ : List Nat) (ops : Array Oper) : Bool := dstB N ops && (orderF p r σ ops && (acycAll .text ops (List.range ops.size) && acycAll .gc ops τ && acycAll .any ops τ))
/-- A region that draws its order, told in the order σ; r: the loads of what nobody writes any more. -/
theorem AWp.regionG {N : Nat} {id : Nat} {ops : Array Oper} {Q : Exit → St → Prop} {s : St} (p r : Nat → Bool) (σ τ : List Nat) (hB : regF N p r σ τ ops = true) (h : AOpsF P p r ops (Q .normal) σ s) : AWp P N (.region id ops true) Q s := by
  intro C a w hr hN
  unfold regF at hB
  simp only [Bool.and_eq_true] at hB
  obtain ⟨hd, ho, hT⟩ := hB
  have hb : ∀ (j : Nat) (d : Tmp), (ops[j]?).bind (·.dst) = some d → d < N := by
    intro j d hj
    unfold dstB at hd
    rw [Array.all_eq_true'] at hd
    cases hq : ops[j]? with
    | none => rw [hq] at hj; cases hj
    | some o =>
      rw [hq] at hj
      have := hd o (Array.mem_of_getElem? hq)
      simp at hj
      rw [hj] at this
      simpa using this
  have hQ : NextOk C (Q .normal) N (Lift C N Q .normal) := fun s a w h1 h2 h3 => ⟨s, h1, h2, h3⟩
  refine wp_region_draw fun t => ?_
  refine aops_sound hb hQ _ s a _ ?_ hN (scheduleF_sound ho (by simp only [Bool.and_eq_true]; exact hT) _ t s h)
  obtain ⟨S, h1, h2, h3⟩ := hr.ex
  exact ⟨⟨S, h1, memRep_drew h2 _, fun t => Rep.mono (w := w) (w' := { w with drawn := w.drawn + 1 }) (fun _ _ => rfl) (fun _ h => h) (h3 t)⟩, hr.defers, hr.keep.drew _, hr.dom⟩
@[simp] theorem aopsF_nil (p r : Nat → Bool) (ops : Array Oper) (K : St → Prop) (s : St) : AOpsF P p r ops K [] s = K s := (_root_.id rfl)
@[simp] theorem aopsF_step (p r : Nat → Bool) (ops : Array Oper) (K : St → Prop) (i : Nat) (l : List Nat) (s : St) : AOpsF P p r ops K (i :: l) s = match ops[i]? with | none => AOpsF P p r ops K l s | some o => GOpF P (p i) (r i) ops o s (AOpsF P p r ops K l) := (_root_.id rfl)
@[simp] theorem gopF_none (f r : Bool) (ops : Array Oper) (d : Option Tmp) (op : Op) (T : TypeId) (pos : String) (af : Array Edge) (s : St) (K : St → Prop) : GOpF P f r ops ⟨d, op, T, pos, af, none⟩ s K = AOpF P f r ⟨d, op, T, pos, af, none⟩ s K := (_root_.id rfl)
@[simp] theorem gopF_some (f r : Bool) (ops : Array Oper) (d : Option Tmp) (op : Op) (T : TypeId) (pos : String) (af : Array Edge) (j : Nat) (want : Bool) (s : St) (K : St → Prop) : GOpF P f r ops ⟨d, op, T, pos, af, some (j, want)⟩ s K =
    guardRun (gv ops j s) want (AOpF P f r ⟨d, op, T, pos, af, none⟩ s K) (K (s.put d (.tup []))) := by
  unfold GOpF wantedA gv guardRun
  simp only
  cases hj : (ops[j]?).bind (·.dst) with
  | none => rfl
  | some t =>
    simp only
    cases hs : s.slots t with
    | bool b =>
      simp only
      by_cases h : b = want
      · subst h; simp; rfl
      · have : (b == want) = false := by simpa using h
        simp [this, h]
    | tup l => cases l <;> rfl
    | _ => rfl
@[simp] theorem aopF_f (f : Bool) (o : Oper) (s : St) (K : St → Prop) : AOpF P f false o s K = AOp P f o s K := by simp [AOpF]
@[simp] theorem aopF_load (f : Bool) (d : Option Tmp) (U : TypeId) (x : Operand) (T : TypeId) (pos : String) (af : Array Edge) (g : Option (Nat × Bool)) (s : St) (K : St → Prop) : AOpF P f true ⟨d, .load U x, T, pos, af, g⟩ s K = goO (loadA P noMem U (s.eval x)) d s K := by
  simp only [AOpF, isLoad, Bool.and_self, if_true, outR, goO]
  cases loadA P noMem U (s.eval x) <;> simp
@[simp] theorem aopF_idx (f : Bool) (d : Option Tmp) (U : TypeId) (x i : Operand) (T : TypeId) (pos : String) (af : Array Edge) (g : Option (Nat × Bool)) (s : St) (K : St → Prop) : AOpF P f true ⟨d, .indexAddr U x i, T, pos, af, g⟩ s K = goO (idxA P noMem U (s.eval x) (s.eval i)) d s K := by
  simp only [AOpF, isLoad, Bool.and_self, if_true, outR, goO]
  cases idxA P noMem U (s.eval x) (s.eval i) <;> simp
end
end Go.T
namespace Go.T
open Go
set_option linter.unusedSimpArgs false
set_option linter.unusedVariables false
section
variable {P : Program} {N : Nat} {c d : Code} {Q : Exit → St → Prop} {s : St}
theorem AWp.cutA {X : St → Prop} (M : St → Prop) (h : AWp P N c (thenA M Q) s) (hm : ∀ s', M s' → X s') : AWp P N c (thenA X Q) s :=
  h.mono fun e s' hs => by
    cases e with
    | normal => exact hm s' hs
    | _ => exact hs
/-- A slot's value seen as another one. -/
theorem Sees.view {s : St} {t : Tmp} {m' : Mem} {r' : AV} (h : View s.mem (s.slots t) m' r') : Sees s ⟨fun k => if k = t then r' else s.slots k, m'⟩ := fun w S f h1 h2 => by
  obtain ⟨S', k1, k2, k3, k4, k5⟩ := h w S (f t) h1 (h2 t)
  refine ⟨S', k1, k2, k3, fun k => ?_, k5⟩
  by_cases hk : k = t
  · subst hk
    simpa using k4
  · simp only [if_neg hk]
    exact (h2 k).mono (fun _ _ => rfl) k1
end
end Go.T
namespace Go.T
open Go
def inR (n a b : Int) : Bool := decide (a ≤ n) && decide (n ≤ b)
def small (c : UInt8) : Bool := inR c.toNat 97 122
def keptL : List ByteArray := [⟨#[97, 114, 114, 97, 121]⟩, ⟨#[102, 111, 114]⟩, ⟨#[116, 111]⟩, ⟨#[112, 114, 105, 110, 116]⟩, ⟨#[109, 105, 110]⟩, ⟨#[109, 97, 120]⟩]
def has (l : List ByteArray) (s : ByteArray) : Bool := l.any fun x => decide (x = s)
def kept (s : ByteArray) : Bool := has keptL s
def nameOk (s : ByteArray) : Bool := s.data.toList.all small && (inR s.size 1 6 && !kept s)
def noP : Nat → Bool := fun _ => false
def allP : Nat → Bool := fun _ => true
end Go.T
namespace Go.T
open Go
inductive Ex where
  | mk (k n : Int) (s : ByteArray) (l : List Ex)
mutual
def Ex.cells : Ex → List AV
  | .mk k n s l => [.int .i64 k, .int .i64 n, .str s, .lst false 4 (Ex.avs l)]
def Ex.avs : List Ex → List AV
  | [] => []
  | e :: l => .agg e.cells :: Ex.avs l
end
def Ex.av (e : Ex) : AV := .agg e.cells
theorem Ex.avs_map : ∀ l, Ex.avs l = l.map Ex.av
  | [] => rfl
  | e :: l => by rw [Ex.avs, Ex.avs_map l]; rfl
theorem Ex.cells_mk (k n : Int) (s : ByteArray) (l : List Ex) : (Ex.mk k n s l).cells = [.int .i64 k, .int .i64 n, .str s, .lst false 4 (l.map Ex.av)] := by rw [Ex.cells, Ex.avs_map]
@[simp] theorem Ex.cells_len (e : Ex) : e.cells.length = 4 := by cases e; rw [Ex.cells_mk]; rfl
@[simp] theorem Ex.take (e : Ex) (r : List AV) : List.take 4 (e.cells ++ r) = e.cells := List.take_left' e.cells_len
@[simp] theorem Ex.takek (e : Ex) (r : List AV) (k : Nat) : List.take (k + 4) (e.cells ++ r) = e.cells ++ List.take k r := by rw [List.take_append, e.cells_len, List.take_of_length_le (by rw [e.cells_len]; omega)]; simp
@[simp] theorem Ex.take0 (e : Ex) : List.take 4 e.cells = e.cells := List.take_of_length_le (by rw [e.cells_len]; exact Nat.le_refl _)
@[simp] theorem Ex.drop (e : Ex) (r : List AV) (k : Nat) : List.drop (k + 4) (e.cells ++ r) = List.drop k r := by rw [List.drop_append, e.cells_len, List.drop_eq_nil_of_le (by rw [e.cells_len]; omega)]; simp
@[simp] theorem Ex.drop0 (e : Ex) (r : List AV) : List.drop 4 (e.cells ++ r) = r := List.drop_left' e.cells_len
@[simp] theorem Ex.cells_ok (e : Ex) : e.cells.all okCell = true := by cases e; rw [Ex.cells_mk]; rfl
def most : Nat := 9223372036854775807
mutual
/-- No string and no slice is longer than any can be. -/
def Ex.fit : Ex → Prop
  | .mk _ _ s l => s.size ≤ most ∧ l.length ≤ most ∧ Ex.fits l
def Ex.fits : List Ex → Prop
  | [] => True
  | e :: l => e.fit ∧ Ex.fits l
end
inductive Sm where
  | mk (k : Int) (s : ByteArray) (a e lo hi : Ex) (body : List Sm)
mutual
def Sm.cells : Sm → List AV
  | .mk k s a e lo hi b => .int .i64 k :: .str s :: (a.cells ++ (e.cells ++ (lo.cells ++ (hi.cells ++ [.lst false 19 (Sm.avs b)]))))
def Sm.avs : List Sm → List AV
  | [] => []
  | e :: l => .agg e.cells :: Sm.avs l
end
def Sm.av (e : Sm) : AV := .agg e.cells
theorem Sm.avs_map : ∀ l, Sm.avs l = l.map Sm.av
  | [] => rfl
  | e :: l => by rw [Sm.avs, Sm.avs_map l]; rfl
theorem Sm.cells_mk (k : Int) (s : ByteArray) (a e lo hi : Ex) (b : List Sm) : (Sm.mk k s a e lo hi b).cells = .int .i64 k :: .str s :: (a.cells ++ (e.cells ++ (lo.cells ++ (hi.cells ++ [.lst false 19 (b.map Sm.av)])))) := by rw [Sm.cells, Sm.avs_map]
@[simp] theorem Sm.cells_len (e : Sm) : e.cells.length = 19 := by cases e; rw [Sm.cells_mk]; simp [Ex.cells_len]
@[simp] theorem Sm.take (e : Sm) (r : List AV) : List.take 19 (e.cells ++ r) = e.cells := List.take_left' e.cells_len
@[simp] theorem Sm.takek (e : Sm) (r : List AV) (k : Nat) : List.take (k + 19) (e.cells ++ r) = e.cells ++ List.take k r := by rw [List.take_append, e.cells_len, List.take_of_length_le (by rw [e.cells_len]; omega)]; simp
@[simp] theorem Sm.take0 (e : Sm) : List.take 19 e.cells = e.cells := List.take_of_length_le (by rw [e.cells_len]; exact Nat.le_refl _)
@[simp] theorem Sm.drop (e : Sm) (r : List AV) (k : Nat) : List.drop (k + 19) (e.cells ++ r) = List.drop k r := by rw [List.drop_append, e.cells_len, List.drop_eq_nil_of_le (by rw [e.cells_len]; omega)]; simp
@[simp] theorem Sm.drop0 (e : Sm) (r : List AV) : List.drop 19 (e.cells ++ r) = r := List.drop_left' e.cells_len
@[simp] theorem Sm.cells_ok (e : Sm) : e.cells.all okCell = true := by cases e; rw [Sm.cells_mk]; simp only [List.all_cons, List.all_append, Ex.cells_ok]; rfl
mutual
def Sm.fit : Sm → Prop
  | .mk _ s a e lo hi b => s.size ≤ most ∧ a.fit ∧ e.fit ∧ lo.fit ∧ hi.fit ∧ b.length ≤ most ∧ Sm.fits b
def Sm.fits : List Sm → Prop
  | [] => True
  | e :: l => e.fit ∧ Sm.fits l
end
structure Ar where
  s : ByteArray
  n : Int
def Ar.cells (a : Ar) : List AV := [.str a.s, .int .i64 a.n]
def Ar.av (a : Ar) : AV := .agg a.cells
def Ar.fit (a : Ar) : Prop := a.s.size ≤ most
@[simp] theorem Ar.cells_len (e : Ar) : e.cells.length = 2 := rfl
@[simp] theorem Ar.take0 (e : Ar) : List.take 2 e.cells = e.cells := rfl
@[simp] theorem Ar.cells_ok (e : Ar) : e.cells.all okCell = true := rfl
structure Pg where
  arrs : List Ar
  body : List Sm
def Pg.cells (p : Pg) : List AV := [.lst false 2 (p.arrs.map Ar.av), .lst false 19 (p.body.map Sm.av)]
def Pg.av (p : Pg) : AV := .agg p.cells
def Pg.fit (p : Pg) : Prop := p.arrs.length ≤ most ∧ (∀ x ∈ p.arrs, x.fit) ∧ p.body.length ≤ most ∧ ∀ x ∈ p.body, x.fit
@[simp] theorem Pg.cells_len (e : Pg) : e.cells.length = 2 := rfl
@[simp] theorem Pg.take0 (e : Pg) : List.take 2 e.cells = e.cells := rfl
@[simp] theorem Pg.cells_ok (e : Pg) : e.cells.all okCell = true := rfl

def sumL {X : Type} (f : X → Nat) : List X → Nat
  | [] => 0
  | x :: l => f x + sumL f l
end Go.T
namespace Go.T
open Go
def noS (s : ByteArray) : Bool := decide (s = ⟨#[]⟩)
/-- Is an expression as told, but for its parts? -/
def partsOk (k n : Int) (s : ByteArray) (len : Int) : Bool :=
  if k = 1 then inR n 0 999999 && noS s && decide (len = 0)
  else if k = 2 then nameOk s && decide (n = 0) && decide (len = 0)
  else if k = 3 then nameOk s && decide (n = 0) && decide (len = 1)
  else inR k 4 8 && decide (n = 0) && noS s && decide (len = 2)
mutual
/-- Is an expression as told, so deep? -/
def Ex.good : Ex → Nat → Bool
  | .mk k n s l, d => decide (d ≤ 8) && partsOk k n s l.length && Ex.goods l (d + 1)
def Ex.goods : List Ex → Nat → Bool
  | [], _ => true
  | e :: l, d => e.good d && Ex.goods l d
end
mutual
def Ex.nodes : Ex → Nat
  | .mk _ _ _ l => 1 + Ex.nodess l
def Ex.nodess : List Ex → Nat
  | [] => 0
  | e :: l => e.nodes + Ex.nodess l
end
/-- Is an expression right? -/
def Ex.ok (e : Ex) : Bool := e.good 1 && decide (e.nodes ≤ 60)
end Go.T
namespace Go.T
open Go
end Go.T
namespace Go.T
open Go
/-- Is it the zero expression? -/
def Ex.no : Ex → Bool
  | .mk k n s l => decide (k = 0) && decide (n = 0) && noS s && decide ((l.length : Int) = 0)
/-- Is a statement as told, but for its Body's parts? -/
def stHere (k : Int) (s : ByteArray) (a e lo hi : Ex) (len : Int) (d : Nat) : Bool :=
  if k = 1 then a.no && e.ok && lo.no && hi.no && nameOk s && decide (len = 0)
  else if k = 2 then a.ok && e.ok && lo.no && hi.no && nameOk s && decide (len = 0)
  else if k = 3 then a.no && e.no && lo.ok && hi.ok && nameOk s && decide (d < 3) && inR len 1 6
  else if k = 4 then a.no && e.ok && lo.no && hi.no && noS s && decide (len = 0)
  else false
mutual
def Sm.right : Sm → Nat → Bool
  | .mk k s a e lo hi b, d => stHere k s a e lo hi b.length d && (decide (k ≠ 3) || Sm.rights b (d + 1))
def Sm.rights : List Sm → Nat → Bool
  | [], _ => true
  | x :: l, d => x.right d && Sm.rights l d
end
mutual
def Sm.size : Sm → Nat
  | .mk _ _ _ _ _ _ b => 1 + Sm.sizes b
def Sm.sizes : List Sm → Nat
  | [] => 0
  | x :: l => x.size + Sm.sizes l
end
/-- Is a statement right? -/
def Sm.ok (e : Sm) : Bool := e.right 0 && decide (e.size ≤ 40)
end Go.T
namespace Go.T
open Go
set_option linter.unusedSimpArgs false
set_option linter.unusedVariables false
/-- '<' of strings. -/
def blt (x y : ByteArray) : Bool := Op.bytesLess x.toList y.toList
/-- A name put in order, if it is not there. -/
def putGo (s : ByteArray) : List ByteArray → Bool → List ByteArray
  | [], done => if done = true then [] else [s]
  | x :: l, done => (if done = false ∧ blt x s = false then [s] else []) ++ ((if x = s then [] else [x]) ++ putGo s l (done || !blt x s))
def putS (l : List ByteArray) (s : ByteArray) : List ByteArray := putGo s l false
/-- The names of a list, in order, each once. -/
def nameSet (xs : List ByteArray) : List ByteArray := xs.foldl putS []
/-- The names of expressions of a kind: the outer one first, or last. -/
def one (c : Prop) [Decidable c] (s : ByteArray) : List ByteArray := if c then [s] else []
mutual
def Ex.pre (q : Int) : Ex → List ByteArray
  | .mk k _ s l => one (k = q) s ++ Ex.pres q l
def Ex.pres (q : Int) : List Ex → List ByteArray
  | [] => []
  | x :: l => x.pre q ++ Ex.pres q l
end
mutual
def Ex.post (q : Int) : Ex → List ByteArray
  | .mk k _ s l => Ex.posts q l ++ one (k = q) s
def Ex.posts (q : Int) : List Ex → List ByteArray
  | [] => []
  | x :: l => x.post q ++ Ex.posts q l
end
mutual
def Sm.names (q : Int) : Sm → List ByteArray
  | .mk k s _ _ _ _ b => one (k = q) s ++ Sm.namesL q b
def Sm.namesL (q : Int) : List Sm → List ByteArray
  | [] => []
  | x :: l => x.names q ++ Sm.namesL q l
end
mutual
def Sm.exps (f : Ex → List ByteArray) : Sm → List ByteArray
  | .mk _ _ a e lo hi b => f a ++ (f e ++ (f lo ++ (f hi ++ Sm.expsL f b)))
def Sm.expsL (f : Ex → List ByteArray) : List Sm → List ByteArray
  | [] => []
  | x :: l => x.exps f ++ Sm.expsL f l
end
-- is no loop's name that of one it is in?
mutual
def Sm.nest : Sm → List ByteArray → Bool
  | .mk k s _ _ _ _ b, ns => decide (k ≠ 3) || (!has ns s && Sm.nests b (ns ++ [s]))
def Sm.nests : List Sm → List ByteArray → Bool
  | [], _ => true
  | x :: l, ns => x.nest ns && Sm.nests l ns
end
/-- Are arrays as told, behind one whose name is told? -/
def arrsFrom : Option ByteArray → List Ar → Bool
  | _, [] => true
  | p, a :: l => nameOk a.s && (inR a.n 1 16 && ((match p with | none => true | some q => blt q a.s) && arrsFrom (some a.s) l))
/-- Where a name is first; -1: nowhere. -/
def idxAt : Nat → List ByteArray → ByteArray → Int
  | _, [], _ => -1
  | i, x :: l, s => if x = s then i else idxAt (i + 1) l s
def at_ (l : List ByteArray) (s : ByteArray) : Int := idxAt 0 l s
def Pg.arrNames (p : Pg) : List ByteArray := p.arrs.map Ar.s
def Pg.isArr (p : Pg) (s : ByteArray) : Bool := has p.arrNames s
def Pg.vars (p : Pg) : List ByteArray := nameSet (Sm.namesL 1 p.body)
def Pg.loops (p : Pg) : List ByteArray := nameSet (Sm.namesL 3 p.body)
def Pg.puts (p : Pg) : List ByteArray := nameSet (Sm.namesL 2 p.body)
def Pg.asked (p : Pg) (q : Int) : List ByteArray := nameSet (Sm.expsL (Ex.pre q) p.body)
def Pg.head (p : Pg) : Bool := arrsFrom none p.arrs && (decide (p.arrs.length ≤ 4) && (decide (p.body.length ≤ 12) && (decide (sumL Sm.size p.body ≤ 40) && p.body.all Sm.ok)))
def Pg.namesB (p : Pg) : Bool := p.puts.all p.isArr && ((p.asked 3).all p.isArr && (!p.vars.any p.isArr && (!p.loops.any p.isArr && (!(p.asked 2).any p.isArr && (!p.loops.any (fun x => has p.vars x) && (Sm.nests p.body [] && decide (p.vars.length ≤ 6)))))))
/-- Is a program right? -/
def Pg.ok (p : Pg) : Bool := p.head && p.namesB
end Go.T
namespace Go.T
open Go
set_option linter.unusedSimpArgs false
set_option linter.unusedVariables false
def Ex.k : Ex → Int | .mk k _ _ _ => k
def Ex.n : Ex → Int | .mk _ n _ _ => n
def Ex.s : Ex → ByteArray | .mk _ _ s _ => s
def Ex.l : Ex → List Ex | .mk _ _ _ l => l
@[simp] theorem Ex.loadK (e : Ex) (n : Nat) : loadC n false e.cells = some (.int .i64 e.k) := by cases e; rw [Ex.cells_mk]; rfl
@[simp] theorem Ex.loadS (e : Ex) (n : Nat) : loadC n false (List.drop 2 e.cells) = some (.str e.s) := by cases e; rw [Ex.cells_mk]; rfl
@[simp] theorem Ex.dropL (e : Ex) : List.drop 3 e.cells = [.lst false 4 (e.l.map Ex.av)] := by cases e; rw [Ex.cells_mk]; rfl
def Sm.k : Sm → Int | .mk k _ _ _ _ _ _ => k
def Sm.s : Sm → ByteArray | .mk _ s _ _ _ _ _ => s
def Sm.a : Sm → Ex | .mk _ _ a _ _ _ _ => a
def Sm.e : Sm → Ex | .mk _ _ _ e _ _ _ => e
def Sm.lo : Sm → Ex | .mk _ _ _ _ lo _ _ => lo
def Sm.hi : Sm → Ex | .mk _ _ _ _ _ hi _ => hi
def Sm.body : Sm → List Sm | .mk _ _ _ _ _ _ b => b
@[simp] theorem Sm.loadK (e : Sm) (n : Nat) : loadC n false e.cells = some (.int .i64 e.k) := by cases e; rw [Sm.cells_mk]; rfl
@[simp] theorem Sm.loadS (e : Sm) (n : Nat) : loadC n false e.cells.tail = some (.str e.s) := by cases e; rw [Sm.cells_mk]; rfl
@[simp] theorem Sm.takeA (e : Sm) : List.take 4 (List.drop 2 e.cells) = e.a.cells := by cases e; rw [Sm.cells_mk]; simp [Sm.a]
@[simp] theorem Sm.takeE (e : Sm) : List.take 4 (List.drop 6 e.cells) = e.e.cells := by cases e; rw [Sm.cells_mk]; simp [Sm.e]
@[simp] theorem Sm.takeLo (e : Sm) : List.take 4 (List.drop 10 e.cells) = e.lo.cells := by cases e; rw [Sm.cells_mk]; simp [Sm.lo]
@[simp] theorem Sm.takeHi (e : Sm) : List.take 4 (List.drop 14 e.cells) = e.hi.cells := by cases e; rw [Sm.cells_mk]; simp [Sm.hi]
@[simp] theorem Sm.drop18 (e : Sm) : List.drop 18 e.cells = [.lst false 19 (e.body.map Sm.av)] := by cases e; rw [Sm.cells_mk]; simp [Sm.body]
end Go.T
namespace Go.T
open Go
set_option linter.unusedSimpArgs false
set_option linter.unusedVariables false
/-- A string's bytes, and back. -/
def toL (s : ByteArray) : List UInt8 := s.data.toList
theorem toList_eq (s : ByteArray) : s.toList = toL s := Go.ByteArray.toList_eq s
end Go.T
namespace Go.T
open Go Go.Sort Go.Proofs
set_option linter.unusedSimpArgs false
set_option linter.unusedVariables false
section
variable {P : Program}
theorem reps_strs {w : World} {S : Nat → Prop} : ∀ {xs : List ByteArray} {vs : List Value}, Reps w S (flat (xs.map .str)) vs → vs = xs.map Value.string
  | [], vs, h => by cases h; rfl
  | x :: xs, vs, h => by
    simp only [List.map_cons, flat, List.flatMap_cons, AV.cells, List.cons_append, List.nil_append] at h
    cases h with
    | cons h t =>
      cases h
      rw [reps_strs (xs := xs) t]
      rfl
theorem strs_reps (w : World) (S : Nat → Prop) : ∀ xs : List ByteArray, Reps w S (flat (xs.map .str)) (xs.map Value.string)
  | [] => .nil
  | x :: xs => by
    simp only [List.map_cons, flat, List.flatMap_cons, AV.cells, List.cons_append, List.nil_append]
    exact .cons (.str x) (strs_reps w S xs)
theorem putRow_at {w : World} {g : Nat} {vs us : List Value} {T : TypeId} {d : Array (List UInt8)} (hb : w.heap[g]? = some (.cells (vs ++ us).toArray T (0, 0))) (hl : d.size = vs.length) (q : Nat) (os : Array Obj) :
    (grow (putRow encStr (Sort.ahead w q) g 0 d) os).heap[g]? = some (.cells (d.toList.map encStr ++ us).toArray T (0, 0)) ∧ (∀ b, b ≠ g → b < w.heap.size → (grow (putRow encStr (Sort.ahead w q) g 0 d) os).heap[b]? = w.heap[b]?) ∧ Keep (fun b => b = g) w (grow (putRow encStr (Sort.ahead w q) g 0 d) os) := by
  have hg : g < w.heap.size := (Array.getElem?_eq_some_iff.1 hb).1
  have hsz : (putRow encStr (Sort.ahead w q) g 0 d).heap.size = w.heap.size := by simp [putRow, mapBlock, Sort.ahead]
  have hne : ∀ b, b ≠ g → b < w.heap.size → (grow (putRow encStr (Sort.ahead w q) g 0 d) os).heap[b]? = w.heap[b]? := by
    intro b hbg hbs
    rw [heap_grow_old _ _ (by rw [hsz]; exact hbs)]
    simp only [putRow, mapBlock, Sort.ahead, Array.getElem?_modify]
    rw [if_neg (fun h => hbg h.symm)]
  refine ⟨?_, hne, rfl, rfl, rfl, by rw [size_grow, hsz]; omega, fun b hb hn => hne b hn hb⟩
  rw [heap_grow_old _ _ (by rw [hsz]; exact hg)]
  simp only [putRow, mapBlock, Sort.ahead, Array.getElem?_modify, if_true, hb, Option.map_some, onCells]
  congr 2
  apply Array.ext_getElem?
  intro k
  simp only [putCells, Array.getElem?_mapIdx, List.getElem?_toArray]
  by_cases hk : k < d.size
  · rw [List.getElem?_append_left (by omega), List.getElem?_append_left (by simp; omega)]
    rw [List.getElem?_eq_getElem (by omega)]
    simp [hk]
  · rw [List.getElem?_append_right (by omega), List.getElem?_append_right (by simp; omega)]
    have h1 : ∀ x, (if 0 ≤ k ∧ k < 0 + d.size then encStr d[k - 0]! else x) = x := fun x => if_neg (by omega)
    simp only [h1]
    simp [hl]
/-- A call that turns a row's strings. -/
theorem WCall.row {n : FuncId} (hB : HasBody P n) {m : Mem} {g k c : Nat} {T : TypeId} {xs ys zs : List ByteArray} {r : AV} {u : Value} (hg : m g = some (.arr T 1 c (xs.map .str))) (hk : xs.length = k)
    (hlen : ys.length + zs.length = xs.length) (hr : ∀ w S, Rep w S r u)
    (hc : ∀ w, Holds encStr w g 0 (xs.map toL).toArray → g < w.heap.size → k ≤ c → Calls P n #[.slice (some ⟨g, 0, none⟩) k c] w fun e w' => e = .returned u ∧ ∃ q os, w' = grow (putRow encStr (Sort.ahead w q) g 0 ((ys ++ zs).map toL).toArray) os)
    {K : AV → Mem → Prop} (hK : K r (m.set g (.arr T 1 c (ys.map .str)))) : WCall P n [.own g k c] m K := by
  refine ⟨hB, fun w S cargs hm hargs => ?_⟩
  cases hargs with | @cons _ v _ vs hv ht =>
  cases ht
  cases hv
  obtain ⟨vs, us, hb, hreps, hl, he, hle⟩ := hm.blk g _ hg
  have hvs := reps_strs hreps
  subst hvs
  have hgs : g < w.heap.size := (Array.getElem?_eq_some_iff.1 hb).1
  have hle' : xs.length ≤ c := by simpa using hle
  have hH : Holds encStr w g 0 (xs.map toL).toArray := by
    intro j hj
    simp at hj
    constructor
    · simp only [World.cell?, hb]
      simp [hj, encStr, toL]
      rw [List.getElem?_append_left (by simpa using hj), List.getElem?_map, List.getElem?_eq_getElem hj]
      rfl
    · simp only [World.frozen?, hb]
      simp
  refine calls_mono (hc w hH hgs (by omega)) ?_
  rintro e w' ⟨he', q, os, hw'⟩
  subst hw'
  have hsz : (((ys ++ zs).map toL).toArray).size = (xs.map Value.string).length := by simp; omega
  obtain ⟨h1, h2, h3⟩ := putRow_at hb hsz q os
  have hnS : ∀ b, S b → b ≠ g := fun b hb h => by rw [h] at hb; have := (hm.apart g hb).1; rw [hg] at this; cases this
  have hst : Stays S w (grow (putRow encStr (Sort.ahead w q) g 0 ((ys ++ zs).map toL).toArray) os) := fun b hb => h2 b (hnS b hb) (hm.apart b hb).2
  refine ⟨u, r, _, S, he', hK, fun _ h => h, fun _ h => .inl h, ⟨fun g' b hb' => ?_, fun b hb' => ⟨?_, ?_⟩⟩, hr _ _, h3.mono (fun b h => by rw [h, hg]; simp), fun g' b hb' => ?_⟩
  · rw [set_at] at hb'
    by_cases hgg : g' = g
    · subst hgg
      rw [if_pos rfl] at hb'
      obtain rfl := Option.some.inj hb'
      refine ⟨ys.map Value.string, zs.map Value.string ++ us, ?_, strs_reps _ _ ys, ?_, fun x hx => ?_, ?_⟩
      · rw [h1]
        congr 2
        have e : ((ys ++ zs).map toL).toArray.toList.map encStr = ys.map Value.string ++ zs.map Value.string := by
          simp [encStr, toL, Function.comp_def]
        rw [e, List.append_assoc]
      · simp at hl ⊢; omega
      · obtain ⟨y, _, rfl⟩ := List.mem_map.1 hx; rfl
      · simp; omega
    · rw [if_neg hgg] at hb'
      exact (hm.blk g' b hb').mono hst (fun _ h => h) (h2 g' hgg (hm.blk g' b hb').lt)
  · rw [set_at, if_neg (hnS b hb')]; exact (hm.apart b hb').1
  · have := (hm.apart b hb').2
    exact Nat.lt_of_lt_of_le this h3.size
  · rw [set_at] at hb'
    by_cases hgg : g' = g
    · subst hgg; exact .inl (by rw [hg]; simp)
    · rw [if_neg hgg] at hb'
      exact .inl (by rw [hb']; simp)
/-- A call that answers and leaves the world as it was. -/
theorem PCall.same {n : FuncId} (hB : HasBody P n) {a r : AV} (h : ∀ w S v, Rep w S a v → ∃ u, Rep w S r u ∧ Calls P n #[v] w fun e w' => e = .returned u ∧ w' = w) : PCall P n [a] r := by
  refine ⟨hB, fun w S cargs m hm hargs => ?_⟩
  cases hargs with | @cons _ v _ vs hv ht =>
  cases ht
  obtain ⟨u, hu, hc⟩ := h w S v hv
  refine calls_mono hc ?_
  rintro e w' ⟨rfl, rfl⟩
  exact ⟨u, S, rfl, fun _ h => h, fun _ h => .inl h, hm, hu, Keep.refl _ _⟩
end
end Go.T
namespace Go.T
open Go Go.Sort Go.Proofs Go.RowKit Go.ChangeShapes
set_option linter.unusedSimpArgs false
set_option linter.unusedVariables false
theorem View.freezeB {m : Mem} {g : Nat} {cs : List AV} (hg : m g = some (.box cs)) : View m (.ptr g 0) (m.del g) (.ref cs) := fun w S v h1 h2 => by
  obtain ⟨T, vs, hb, hr⟩ := h1.blk g _ hg
  have hSS : ∀ b, S b → S b ∨ b = g := fun b hb => .inl hb
  refine ⟨fun b => S b ∨ b = g, hSS, fun b hb => hb.imp id (fun h => by rw [h, hg]; simp), ⟨fun g' b' hg' => ?_, fun b hb' => ?_⟩, ?_, fun g' b' hg' => ?_⟩
  · unfold Mem.del at hg'
    split at hg'
    · cases hg'
    · exact (h1.blk g' b' hg').mono (fun _ _ => rfl) hSS rfl
  · rcases hb' with hb' | rfl
    · refine ⟨?_, (h1.apart b hb').2⟩
      unfold Mem.del
      split
      · rfl
      · exact (h1.apart b hb').1
    · exact ⟨by simp [Mem.del], (Array.getElem?_eq_some_iff.1 hb).1⟩
  · cases h2
    exact .ref g 0 (.inr rfl) (Cells.of_block hb (hr.mono (fun _ _ => rfl) hSS) 0 (fun i v hv => by simpa using hv))
  · unfold Mem.del at hg'
    split at hg'
    · cases hg'
    · rw [hg']; simp
theorem AWp.gen {P : Program} {N : Nat} {c : Code} {Q : Exit → St → Prop} {s : St} (F : St → Prop) (hF : F s) (h : ∀ s, F s → AWp P N c Q s) : AWp P N c Q s := h s hF
def intsA (k : IntKind) (zs : List Int) : List AV := zs.map (.int k)
theorem reps_ints {w : World} {S : Nat → Prop} {k : IntKind} : ∀ {zs : List Int} {vs : List Value}, Reps w S (intsA k zs) vs → vs = zs.map (Value.int k)
  | [], vs, h => by cases h; rfl
  | x :: xs, vs, h => by
    unfold intsA at h
    simp only [List.map_cons] at h
    cases h with
    | cons h t =>
      cases h
      rw [reps_ints (zs := xs) t]
      rfl
theorem ints_reps (w : World) (S : Nat → Prop) (k : IntKind) : ∀ zs : List Int, Reps w S (intsA k zs) (zs.map (Value.int k))
  | [] => .nil
  | x :: xs => .cons (.int k x) (ints_reps w S k xs)
/-- The table as a block. -/
def tabBlk (T : TypeId) : Blk := .arr T 1 20 (intsA .u64 Lib.pow10Tab)
theorem flat_ints (k : IntKind) : ∀ zs : List Int, flat (intsA k zs) = intsA k zs
  | [] => rfl
  | z :: zs => by
    have := flat_ints k zs
    unfold flat intsA at *
    simp only [List.map_cons, List.flatMap_cons, this]
    rfl
theorem tab_row {w : World} {S : Nat → Prop} {g : Nat} {T : TypeId} (h : BlkRep w S g (tabBlk T)) : w.heap[g]? = some (.cells (Lib.pow10Tab.map (Value.int .u64)).toArray T (0, 0)) := by
  obtain ⟨vs, us, h1, h2, h3, h4, h5⟩ := h
  rw [flat_ints] at h2
  have := reps_ints h2
  subst this
  have hu : us = [] := by
    apply List.eq_nil_of_length_eq_zero
    simp [Lib.pow10Tab_length] at h3
    simpa using h3
  subst hu
  rw [h1, List.append_nil]
theorem tab_is {P : Program} {w : World} {S : Nat → Prop} {m : Mem} {g : Nat} {T : TypeId} {name : String} (hg : P.globalNamed name = some g) (hm : MemRep w S m) (h : m g = some (tabBlk T)) : Lib.TabIs P w name .u64 Lib.pow10Tab := by
  have h1 := tab_row (hm.blk g _ h)
  unfold Lib.TabIs World.var?
  rw [hg]
  simp only [Option.bind_some, h1]
theorem wc_itoa {P : Program} {f g : Nat} {T : TypeId} (hbod : HasBody P f) (hg : P.globalNamed "internal/strconv.uint64pow10" = some g)
    (hc : ∀ (n : Int) (h0 : -9223372036854775808 ≤ n) (h1 : n ≤ 9223372036854775807) (w : World) (htab : Lib.TabIs P w "internal/strconv.uint64pow10" .u64 Lib.pow10Tab), Calls P f #[.int .i64 n] w fun e w' => e = .returned (.string ⟨(Lib.itoa n).toArray⟩) ∧ ∃ k os, w' = grow (w.drewN k) os)
    (n : Int) (h0 : -9223372036854775808 ≤ n) (h1 : n ≤ 9223372036854775807) {m : Mem} (hm : m g = some (tabBlk T)) {k : AV → Mem → Prop} (hk : k (.str ⟨(Lib.itoa n).toArray⟩) m) : WCall P f [.int .i64 n] m k := by
  refine ⟨hbod, fun w S cargs hmr hr => ?_⟩
  cases hr with
  | cons hx hnil =>
  cases hnil
  cases hx
  refine calls_mono (hc n h0 h1 w (tab_is hg hmr hm)) ?_
  rintro e w' ⟨he, q, os, hw⟩
  subst hw
  have hsame : ∀ b, b < w.heap.size → (grow (w.drewN q) os).heap[b]? = w.heap[b]? := fun b hb => heap_grow_old (w.drewN q) os hb
  have hst : Stays S w (grow (w.drewN q) os) := fun b hb => hsame b (hmr.apart b hb).2
  have hsz : w.heap.size ≤ (grow (w.drewN q) os).heap.size := by
    rw [size_grow]
    exact Nat.le_add_right _ _
  refine ⟨_, _, m, S, he, hk, fun _ h => h, fun _ h => .inl h, ⟨fun g b hb => (hmr.blk g b hb).mono hst (fun _ h => h) (hsame g (hmr.blk g b hb).lt), fun b hb => ⟨(hmr.apart b hb).1, Nat.lt_of_lt_of_le (hmr.apart b hb).2 hsz⟩⟩, .str _, ⟨rfl, rfl, rfl, hsz, fun b hb _ => hsame b hb⟩, fun g b hb => .inl (by rw [hb]; simp)⟩
/-- The memory that holds the table alone. -/
def tabMem (g : Nat) (T : TypeId) : Mem := fun k => if k = g then some (tabBlk T) else none
/-- What was there ahead of the call, but for the table. -/
def OldBut (W : World) (g : Nat) : Nat → Prop := fun b => b < W.heap.size ∧ b ≠ g
/-- The table's block, out of the row's own condition. -/
theorem tab_blk {P : Program} {W : World} {g : Nat} {t e : TypeId} {rest : List (String × DataW Unit)}
    (hg : P.globalNamed "internal/strconv.uint64pow10" = some g) (hty : (P.globals[g]?).map (·.type) = some t) (ht : P.underlying t = some (.array 20 e)) (he : P.underlying e = some (.int .u64)) (hce : P.cellsOf e = 1) (hct : P.cellsOf t = 20)
    (h : laidMet P (("internal/strconv.uint64pow10", Lib.tabData .u64 Lib.pow10Tab) :: rest) W) (S : Nat → Prop) : ∃ T, BlkRep W S g (tabBlk T) := by
  have htab : Lib.TabIs P W "internal/strconv.uint64pow10" .u64 Lib.pow10Tab := Lib.tabIs_of_head hg hty ht he hce hct h
  obtain ⟨ps, ⟨g', t', cs, fuel, p, q, hg', ht', hvar, hd, hq, rfl⟩, hnd, hrows⟩ := h
  obtain rfl := Option.some.inj (hg.symm.trans hg')
  have hcs : cs = (Lib.pow10Tab.map (Value.int .u64)).toArray := Option.some.inj (hvar.symm.trans htab)
  obtain ⟨⟨c, T, hb⟩, _⟩ := hrows g 0 (by
    rw [hcs]
    refine List.mem_append_left _ (List.mem_append_left _ ?_)
    simp [MemPlace.row, Lib.pow10Tab_length])
  unfold Lib.TabIs World.var? at htab
  rw [hg] at htab
  simp only [Option.bind_some, hb] at htab
  obtain rfl := Option.some.inj htab
  refine ⟨T, Lib.pow10Tab.map (Value.int .u64), [], ?_, ?_, by simp [Lib.pow10Tab_length], fun x hx => ?_, by simp [intsA, Lib.pow10Tab_length]⟩
  · rw [List.append_nil]
    exact hb
  · rw [flat_ints]
    exact ints_reps _ _ _ _
  · obtain ⟨z, _, rfl⟩ := List.mem_map.1 hx
    rfl
theorem law_ends_tab {P : Program} {W : World} {n g : Nat} {T : TypeId} {args : List AV} {cargs : Array Value} (hb : BlkRep W (OldBut W g) g (tabBlk T)) (h : WCall P n args (tabMem g T) fun r m' => r = .bool true ∧ m' g = some (tabBlk T)) (hr : Reps W (OldBut W g) args cargs.toList) : Calls P n cargs W fun e W' => e = .returned (.bool true) ∧ Below W.heap.size W W' := by
  have hm : MemRep W (OldBut W g) (tabMem g T) := by
    refine ⟨fun k b h => ?_, fun b hb => ⟨by simp [tabMem, hb.2], hb.1⟩⟩
    unfold tabMem at h
    by_cases e : k = g
    · rw [if_pos e] at h
      obtain rfl := Option.some.inj h
      rw [e]; exact hb
    · rw [if_neg e] at h; cases h
  have := h.2 W (OldBut W g) cargs.toList hm hr
  rw [Array.toArray_toList] at this
  refine calls_mono this ?_
  rintro e W' ⟨v, r, m', S', he, ⟨rfl, htb⟩, h1, h2, h3, h4, h5, h6⟩
  subst he
  cases h4
  refine ⟨rfl, ⟨h5.os, h5.tape, h5.output, h5.size, fun k hk => ?_⟩⟩
  by_cases hkg : k = g
  · rw [hkg, tab_row hb, tab_row (h3.blk _ _ htb)]
  · exact h5.block k hk (by simp [tabMem, hkg])
end Go.T
namespace Go.T
open Go Go.Proofs
set_option linter.unusedSimpArgs false
set_option linter.unusedVariables false
def dig (a : Nat) : List UInt8 := if a = 0 then [] else Lib.decDigits a
theorem dig_step {a : Nat} (h : a ≠ 0) : dig a = dig (a / 10) ++ [UInt8.ofNat (48 + a % 10)] := by
  unfold dig
  rw [if_neg h]
  by_cases h10 : a < 10
  · have e1 : a / 10 = 0 := by omega
    have e2 : a % 10 = a := by omega
    rw [e1, e2, if_pos rfl, Lib.decDigits, dif_pos h10]
    rfl
  · rw [if_neg (by omega), Lib.decDigits, dif_neg h10]
theorem dig_len : ∀ (k a : Nat), a < 10 ^ k → (dig a).length ≤ k
  | 0, a, h => by
    have : a = 0 := by simpa using h
    simp [dig, this]
  | k + 1, a, h => by
    by_cases ha : a = 0
    · simp [dig, ha]
    · rw [dig_step ha]
      have := dig_len k (a / 10) (by rw [Nat.pow_succ] at h; omega)
      simp
      omega
/-- A number's text. -/
def numB (n : Int) : ByteArray := ⟨(Lib.itoa n).toArray⟩
theorem itoa_zero : Lib.itoa 0 = [48] := by
  unfold Lib.itoa
  rw [if_neg (by omega)]
  show Lib.decDigits 0 = _
  rw [Lib.decDigits, dif_pos (by omega)]
  rfl
theorem itoa_neg {n : Int} (h : n < 0) : Lib.itoa n = 45 :: dig n.natAbs := by
  unfold Lib.itoa dig
  rw [if_pos h, if_neg (by omega)]
theorem itoa_pos {n : Int} (h : 0 < n) : Lib.itoa n = dig n.natAbs := by
  unfold Lib.itoa dig
  rw [if_neg (by omega), if_neg (by omega)]
  congr 1
  omega
theorem dig_word {n : Int} (h0 : -9223372036854775808 ≤ n) (h1 : n ≤ 9223372036854775807) : (dig n.natAbs).length ≤ 19 := dig_len 19 _ (by
  have : n.natAbs ≤ 9223372036854775808 := by omega
  exact Nat.lt_of_le_of_lt this (by decide))
theorem bytes_one (d : Nat) (h : d < 10) : bytesOf [48 + (d : Int)] = ⟨#[UInt8.ofNat (48 + d)]⟩ := by
  have : (48 + (d : Int)).toNat = 48 + d := by omega
  simp only [bytesOf, List.foldl_cons, List.foldl_nil, this]
  rfl
theorem bytes_cat (a b : List UInt8) : (⟨a.toArray⟩ : ByteArray) ++ (⟨b.toArray⟩ : ByteArray) = ⟨(a ++ b).toArray⟩ := by
  apply ByteArray.ext
  simp [ByteArray.data_append]
theorem cat1 (a b : List UInt8) : (⟨a.toArray⟩ : ByteArray) ++ (⟨b.toArray⟩ : ByteArray) = ⟨(a ++ b).toArray⟩ := bytes_cat a b
theorem size_mk (a : List UInt8) : (⟨a.toArray⟩ : ByteArray).size = a.length := by simp [ByteArray.size]
theorem tdiv10 (v : Int) : (v.tdiv 10).natAbs = v.natAbs / 10 := Int.natAbs_tdiv v 10
theorem tmod10 (v : Int) : (v.tmod 10).natAbs = v.natAbs % 10 := Int.natAbs_tmod v 10
theorem strCat (a b : ByteArray) : binA .add (.str a) (.str b) = if a.size + b.size ≤ 9223372036854775807 then some (.str (a ++ b)) else none := rfl
end Go.T
namespace Go.T
open Go
set_option linter.unusedSimpArgs false
set_option linter.unusedVariables false
def ints (l : List Int) : AV := .lst false 1 (l.map (AV.int .i64))
structure Pu where
  at_ : Int
  n : Int
def Pu.cells (p : Pu) : List AV := [.int .i64 p.at_, .int .i64 p.n]
def Pu.av (p : Pu) : AV := .agg p.cells
@[simp] theorem Pu.cells_len (e : Pu) : e.cells.length = 2 := rfl
@[simp] theorem Pu.take0 (e : Pu) : List.take 2 e.cells = e.cells := rfl
@[simp] theorem Pu.cells_ok (e : Pu) : e.cells.all okCell = true := rfl
structure Hd where
  pc : Int
  stack : List Int
  regs : List Int
  shelf : List Pu
  here : Bool
  done : Bool
def Hd.cells (h : Hd) : List AV := [.int .i64 h.pc, ints h.stack, ints h.regs, .lst false 2 (h.shelf.map Pu.av), .bool h.here, .bool h.done]
def Hd.av (h : Hd) : AV := .agg h.cells
@[simp] theorem Hd.cells_len (e : Hd) : e.cells.length = 6 := rfl
@[simp] theorem Hd.take0 (e : Hd) : List.take 6 e.cells = e.cells := rfl
@[simp] theorem Hd.cells_ok (e : Hd) : e.cells.all okCell = true := rfl
def Hd.fit (h : Hd) : Prop := h.stack.length ≤ most ∧ h.regs.length ≤ most ∧ h.shelf.length ≤ most
structure Mc where
  mem : List Int
  hands : List Hd
  out : List Int
  trap : Bool
def Mc.cells (m : Mc) : List AV := [ints m.mem, .lst false 6 (m.hands.map Hd.av), ints m.out, .bool m.trap]
def Mc.av (m : Mc) : AV := .agg m.cells
@[simp] theorem Mc.cells_len (e : Mc) : e.cells.length = 4 := rfl
@[simp] theorem Mc.take0 (e : Mc) : List.take 4 e.cells = e.cells := rfl
@[simp] theorem Mc.cells_ok (e : Mc) : e.cells.all okCell = true := rfl
def Mc.fit (m : Mc) : Prop := m.mem.length ≤ most ∧ m.hands.length ≤ most ∧ (∀ x ∈ m.hands, x.fit) ∧ m.out.length ≤ most
end Go.T
namespace Go.T
open Go
set_option linter.unusedSimpArgs false
set_option linter.unusedVariables false
structure Tm where
  s : ByteArray
  n : Int
def Tm.cells (t : Tm) : List AV := [.str t.s, .int .i64 t.n]
def Tm.av (t : Tm) : AV := .agg t.cells
@[simp] theorem Tm.cells_len (e : Tm) : e.cells.length = 2 := rfl
@[simp] theorem Tm.take0 (e : Tm) : List.take 2 e.cells = e.cells := rfl
@[simp] theorem Tm.cells_ok (e : Tm) : e.cells.all okCell = true := rfl
def Tm.fit (t : Tm) : Prop := t.s.size ≤ most
structure Af where
  c : Int
  t : List Tm
def tms (l : List Tm) : AV := .lst false 2 (l.map Tm.av)
def Af.cells (a : Af) : List AV := [.int .i64 a.c, tms a.t]
def Af.av (a : Af) : AV := .agg a.cells
@[simp] theorem Af.cells_len (e : Af) : e.cells.length = 2 := rfl
@[simp] theorem Af.take0 (e : Af) : List.take 2 e.cells = e.cells := rfl
@[simp] theorem Af.cells_ok (e : Af) : e.cells.all okCell = true := rfl
def Af.fit (a : Af) : Prop := a.t.length ≤ most ∧ ∀ x ∈ a.t, x.fit
structure Rg where
  s : ByteArray
  lo : Int
  hi : Int
def Rg.cells (r : Rg) : List AV := [.str r.s, .int .i64 r.lo, .int .i64 r.hi]
def Rg.av (r : Rg) : AV := .agg r.cells
@[simp] theorem Rg.cells_len (e : Rg) : e.cells.length = 3 := rfl
@[simp] theorem Rg.take0 (e : Rg) : List.take 3 e.cells = e.cells := rfl
@[simp] theorem Rg.cells_ok (e : Rg) : e.cells.all okCell = true := rfl
def Rg.fit (r : Rg) : Prop := r.s.size ≤ most
/-- A place's row of a right sum. -/
def rowOk (l : List Tm) (i : Nat) : Bool :=
  match l[i]? with
  | some t => nameOk t.s && (decide (t.n ≠ 0) && (inR t.n (-100000) 100000 && (match i with
    | 0 => true
    | k + 1 => match l[k]? with | some p => blt p.s t.s | none => true)))
  | none => true
def rowsOk (l : List Tm) (n : Nat) : Bool := (List.range n).all (rowOk l)
def Af.ok (a : Af) : Bool := rowsOk a.t a.t.length && inR a.c (-100000) 100000
def rest (l : List Tm) (s : ByteArray) : List Tm := l.filter fun t => decide (t.s ≠ s)
def rgAt (l : List Rg) (s : ByteArray) : Int := at_ (l.map Rg.s) s
def boxRow (l : List Rg) (i : Nat) : Bool :=
  match l[i]? with
  | some r => nameOk r.s && (inR r.lo (-10000) 10000 && (inR r.hi (-10000) 10000 && decide (rgAt l r.s = i)))
  | none => true
def boxRows (l : List Rg) (n : Nat) : Bool := (List.range n).all (boxRow l)
def boxOk (l : List Rg) : Bool := boxRows l l.length && decide (l.length ≤ 8)
def upOk (l : List Rg) : Bool := l.all fun r => decide (r.lo ≤ r.hi)
def full (l : List Rg) : Bool := upOk l && boxOk l
end Go.T
namespace Go.T
open Go
set_option linter.unusedSimpArgs false
set_option linter.unusedVariables false
theorem okw_slice {P : Program} {w : World} {r : Reach} {base : Nat} {t e : TypeId} {v : Value} (ht : P.underlying t = some (.slice e)) (h : Value.okWide P w r base t v) : ∃ A n c, v = .slice A n c := by
  simp only [Value.okWide, ht, Cell.okWide] at h
  cases v <;> simp_all [Cell.ok]
theorem arg_slice {P : Program} {W : World} {S : Nat → Prop} {r : Reach} {base : Nat} {t e : TypeId} {v : Value} (ht : P.underlying t = some (.slice e)) (hv : Value.okWide P W r base t v) {x : AV} (h : Reps W S [x] v.cells.toList) : Rep W S x v := by
  obtain ⟨A, n, c, rfl⟩ := okw_slice ht hv
  have h2 : Reps W S [x] [Value.slice A n c] := h
  cases h2 with | cons h _ => exact h
theorem opens_u8 {H : Type} {enc : TypeId × Value → H} {P : Program} {W : World} {T : TypeId} (hu : P.underlying T = some (.int .u8)) (fuel : Nat) : Opens enc P W T (fun n : Int => [.int .u8 n]) (fun n => 0 ≤ n ∧ n ≤ 255) fuel := fun cs d h => by
  cases fuel with
  | zero => simp [DataW.trod] at h
  | succ m =>
    unfold DataW.trod at h
    rw [hu] at h
    split at h <;> simp_all
    obtain ⟨hq, hw⟩ := h.1
    rename_i he
    subst he
    simp only [Lit.wf, Bool.and_eq_true, decide_eq_true_eq] at hw
    have h1 : IntKind.u8.min = 0 := by decide
    have h2 : IntKind.u8.max = 255 := by decide
    exact ⟨_, ⟨by omega, by omega⟩, .cons (.int _ _) .nil⟩
end Go.T
