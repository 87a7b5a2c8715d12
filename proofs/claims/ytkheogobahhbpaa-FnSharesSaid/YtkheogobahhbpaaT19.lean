/- Regions whose order is drawn, told in an order of one's own; loads of what nobody writes any more. -/
import Derived.Test.YtkheogobahhbpaaT18
namespace Go.T
open Go
set_option linter.unusedSimpArgs false
set_option linter.unusedVariables false
section
variable {P : Program}

def noMem : Mem := fun _ => none
def isLoad : Op → Bool
  | .load .. => true
  | .indexAddr .. => true
  | _ => false
/-- A load of what nobody writes any more asks no memory. -/
def AOpF (P : Program) (f r : Bool) (o : Oper) (s : St) (K : St → Prop) : Prop :=
  if (r && isLoad o.op) = true then ∃ v, outR P noMem s.eval o.op = some v ∧ K (s.put o.dst v) else AOp P f o s K
theorem load_noMem {T : TypeId} {a v : AV} {m : Mem} (h : loadA P noMem T a = some v) : loadA P m T a = some v := by
  cases a with
  | ref cs => simpa using h
  | ptr g o =>
    rw [load_ptr] at h
    cases hq : loadT P T with
    | none => simp [hq] at h
    | some x => simp [hq, noMem] at h
  | elt g e i o =>
    rw [load_elt] at h
    cases hq : loadT P T with
    | none => simp [hq] at h
    | some x => simp [hq, noMem] at h
  | _ =>
    unfold loadA at h
    cases hq : loadT P T <;> simp [hq] at h
theorem idx_noMem {T : TypeId} {a i v : AV} {m : Mem} (h : idxA P noMem T a i = some v) : idxA P m T a i = some v := by
  unfold idxA at h ⊢
  cases i with
  | int k n =>
    cases hq : esz P T with
    | none => simp [hq] at h
    | some e =>
      simp only [hq] at h ⊢
      cases a with
      | own g l c => simp [noMem] at h
      | _ => exact h
  | _ => cases h
theorem aopF_le {f r : Bool} {o : Oper} {s : St} {K : St → Prop} (h : AOpF P f r o s K) : AOp P f o s K := by
  unfold AOpF at h
  split at h
  · rename_i hr
    obtain ⟨v, hv, hk⟩ := h
    simp only [Bool.and_eq_true] at hr
    have hl := hr.2
    cases hop : o.op <;> rw [hop] at hl hv <;> try (cases hl; done)
    all_goals
      simp only [outR] at hv
      unfold AOp
      rw [hop]
      simp only [outR]
    · rw [load_noMem hv]
      exact hk
    · rw [idx_noMem hv]
      exact hk
  · exact h
def clsF (f r : Bool) (op : Op) : Nat := if (r && isLoad op) = true then 0 else cls f op
def GOpF (P : Program) (f r : Bool) (ops : Array Oper) (o : Oper) (s : St) (K : St → Prop) : Prop :=
  match wantedA ops o s with
  | some true => AOpF P f r o s K
  | some false => K (s.put o.dst (.tup []))
  | none => False
theorem gopF_le {f r : Bool} {ops : Array Oper} {o : Oper} {s : St} {K : St → Prop} (h : GOpF P f r ops o s K) : GOp P f ops o s K := by
  unfold GOpF at h
  unfold GOp
  cases hw : wantedA ops o s with
  | none => rw [hw] at h; exact h
  | some b =>
    rw [hw] at h
    cases b with
    | true => exact aopF_le h
    | false => exact h
theorem aopF_mono {f r : Bool} {o : Oper} {s : St} {K K' : St → Prop} (hk : ∀ s, K s → K' s) (h : AOpF P f r o s K) : AOpF P f r o s K' := by
  unfold AOpF at h ⊢
  split at h
  · rename_i hr
    rw [if_pos hr]
    obtain ⟨v, hv, h⟩ := h
    exact ⟨v, hv, hk _ h⟩
  · rename_i hr
    rw [if_neg hr]
    exact aop_mono hk h
theorem gopF_mono {f r : Bool} {ops : Array Oper} {o : Oper} {s : St} {K K' : St → Prop} (hk : ∀ s, K s → K' s) (h : GOpF P f r ops o s K) : GOpF P f r ops o s K' := by
  unfold GOpF at h ⊢
  split at h
  · exact aopF_mono hk h
  · exact hk _ h
  · exact h
def GOutF (P : Program) (f r : Bool) (ops : Array Oper) (o : Oper) (s : St) (v : AV) : Prop :=
  match wantedA ops o s with
  | some true => if (r && isLoad o.op) = true then outR P noMem s.eval o.op = some v else if cls f o.op = 0 then Out0 P f s.eval o.op v else outR P s.mem s.eval o.op = some v
  | some false => v = .tup []
  | none => False
theorem gopF01 {f r : Bool} {ops : Array Oper} {o : Oper} (h : clsF f r o.op ≤ 1) (s : St) (K : St → Prop) : GOpF P f r ops o s K ↔ ∃ v, GOutF P f r ops o s v ∧ K (s.put o.dst v) := by
  unfold GOpF GOutF
  cases wantedA ops o s with
  | none => simp
  | some b =>
    cases b with
    | false => simp
    | true =>
      unfold clsF at h
      unfold AOpF
      simp only
      by_cases hr : (r && isLoad o.op) = true
      · simp only [if_pos hr]
      · simp only [if_neg hr] at h ⊢
        by_cases h0 : cls f o.op = 0
        · simp only [h0, if_true]; exact aop0 h0 s K
        · simp only [h0, if_false]; exact aop1 (by omega) s K
theorem gopF2 {f r : Bool} {ops : Array Oper} {o : Oper} (h : clsF f r o.op = 2) (s : St) (K : St → Prop) : GOpF P f r ops o s K ↔ (match wantedA ops o s with
    | some true => WT P f s.mem s.eval (fun v m' => K ((s.put o.dst v).withMem m')) o.op | some false => K (s.put o.dst (.tup [])) | none => False) := by
  unfold clsF at h
  split at h
  · cases h
  · rename_i hr
    unfold GOpF AOpF
    cases wantedA ops o s with
    | none => simp
    | some b =>
      cases b with
      | false => simp
      | true => simp only [if_neg hr]; exact aop2 h s K
theorem goutF_put {f r : Bool} {ops : Array Oper} {o : Oper} {s : St} {d : Option Tmp} {v : AV} (h : ∀ t, d = some t → t ∉ readsOf ops o) (u : AV) : GOutF P f r ops o (s.put d v) u = GOutF P f r ops o s u := by
  obtain ⟨h1, h2⟩ := put_reads (s := s) (v := v) h
  unfold GOutF
  rw [h2, put_mem, out0_eq (P := P) h1, operands_eq (P := P) h1, operands_eq (P := P) h1]
theorem goutF_mem {f r : Bool} {ops : Array Oper} {o : Oper} (h0 : clsF f r o.op = 0) {s : St} {m : Mem} (u : AV) : GOutF P f r ops o (s.withMem m) u = GOutF P f r ops o s u := by
  unfold clsF at h0
  unfold GOutF
  by_cases hr : (r && isLoad o.op) = true
  · simp only [if_pos hr]; rfl
  · simp only [if_neg hr] at h0 ⊢
    simp only [h0, if_true]
    rfl
structure ApartF (p r : Nat → Bool) (ops : Array Oper) (i j : Nat) (a b : Oper) : Prop where
  ab : ∀ t, a.dst = some t → t ∉ readsOf ops b
  ba : ∀ t, b.dst = some t → t ∉ readsOf ops a
  dd : ∀ t, a.dst = some t → b.dst ≠ some t
  c : clsF (p i) (r i) a.op ≤ 1 ∧ clsF (p j) (r j) b.op ≤ 1 ∨ clsF (p i) (r i) a.op = 0 ∧ clsF (p j) (r j) b.op = 2
theorem gopF_swap {p r : Nat → Bool} {ops : Array Oper} {i j : Nat} {a b : Oper} (h : ApartF p r ops i j a b) {s : St} {K : St → Prop} (hk : GOpF P (p i) (r i) ops a s fun s1 => GOpF P (p j) (r j) ops b s1 K) : GOpF P (p j) (r j) ops b s fun s1 => GOpF P (p i) (r i) ops a s1 K := by
  rcases h.c with ⟨ca, cb⟩ | ⟨ca, cb⟩
  · rw [gopF01 ca] at hk
    obtain ⟨v, hv, hk⟩ := hk
    rw [gopF01 cb] at hk ⊢
    obtain ⟨u, hu, hk⟩ := hk
    refine ⟨u, by rw [goutF_put h.ab] at hu; exact hu, ?_⟩
    rw [gopF01 ca]
    refine ⟨v, by rw [goutF_put h.ba]; exact hv, ?_⟩
    rw [← put_put h.dd]; exact hk
  · rw [gopF01 (by omega)] at hk
    obtain ⟨v, hv, hk⟩ := hk
    rw [gopF2 cb] at hk ⊢
    obtain ⟨h1, h2⟩ := put_reads (s := s) (v := v) h.ab
    rw [h2] at hk
    split at hk
    · rw [put_mem, wt_eq (P := P) h1] at hk
      refine wt_mono (fun u m' hh => ?_) hk
      rw [gopF01 (by omega)]
      refine ⟨v, by rw [goutF_mem ca, goutF_put h.ba]; exact hv, ?_⟩
      rw [withMem_put, ← put_put h.dd]; exact hh
    · rw [gopF01 (by omega)]
      refine ⟨v, by rw [goutF_put h.ba]; exact hv, ?_⟩
      rw [← put_put h.dd]; exact hk
    · exact hk
/-- Operations in the order of a list. -/
def AOpsF (P : Program) (p r : Nat → Bool) (ops : Array Oper) (K : St → Prop) : List Nat → St → Prop
  | [], s => K s
  | i :: l, s => match ops[i]? with
    | none => AOpsF P p r ops K l s
    | some o => GOpF P (p i) (r i) ops o s (AOpsF P p r ops K l)
theorem aopsF_cons {p r : Nat → Bool} {ops : Array Oper} {K : St → Prop} {i : Nat} {l : List Nat} {s : St} {o : Oper} (ho : ops[i]? = some o) : AOpsF P p r ops K (i :: l) s = GOpF P (p i) (r i) ops o s (AOpsF P p r ops K l) := by
  simp only [AOpsF, ho]
theorem aopsF_le {p r : Nat → Bool} {ops : Array Oper} {K : St → Prop} : ∀ (l : List Nat) (s : St), AOpsF P p r ops K l s → AOps P p ops K l s
  | [], s, h => h
  | i :: l, s, h => by
    cases ho : ops[i]? with
    | none => simp only [AOpsF, AOps, ho] at h ⊢; exact aopsF_le l s h
    | some o =>
      rw [aopsF_cons ho] at h
      rw [aops_cons ho]
      exact gop_mono (fun s hs => aopsF_le l s hs) (gopF_le h)
theorem aopsF_mono {p r : Nat → Bool} {ops : Array Oper} {K : St → Prop} {l l' : List Nat} (h : ∀ s, AOpsF P p r ops K l s → AOpsF P p r ops K l' s) (i : Nat) (s : St) (hk : AOpsF P p r ops K (i :: l) s) : AOpsF P p r ops K (i :: l') s := by
  cases ho : ops[i]? with
  | none => simp only [AOpsF, ho] at hk ⊢; exact h s hk
  | some o => rw [aopsF_cons ho] at hk ⊢; exact gopF_mono h hk
def ApartAtF (p r : Nat → Bool) (ops : Array Oper) (i j : Nat) : Prop := ∀ a b, ops[i]? = some a → ops[j]? = some b → ApartF p r ops i j a b
theorem aopsF_front {p r : Nat → Bool} {ops : Array Oper} {K : St → Prop} {j : Nat} {l2 : List Nat} : ∀ (l1 : List Nat) (s : St), (∀ i ∈ l1, ApartAtF p r ops i j) → AOpsF P p r ops K (l1 ++ j :: l2) s → AOpsF P p r ops K (j :: (l1 ++ l2)) s
  | [], s, _, hk => hk
  | i :: l1, s, h, hk => by
    have ih : ∀ s, AOpsF P p r ops K (l1 ++ j :: l2) s → AOpsF P p r ops K (j :: (l1 ++ l2)) s := fun s => aopsF_front l1 s (fun k hk => h k (by simp [hk]))
    have hk' := aopsF_mono ih i s hk
    have hap := h i (by simp)
    cases hi : ops[i]? with
    | none =>
      simp only [AOpsF, hi] at hk'
      show AOpsF P p r ops K (j :: i :: (l1 ++ l2)) s
      exact aopsF_mono (l := l1 ++ l2) (fun s hs => by simp only [AOpsF, hi]; exact hs) j s hk'
    | some a =>
      cases hj : ops[j]? with
      | none =>
        show AOpsF P p r ops K (j :: i :: (l1 ++ l2)) s
        have e : ∀ l, AOpsF P p r ops K (j :: l) = AOpsF P p r ops K l := fun l => by funext s; simp only [AOpsF, hj]
        rw [e] ; rw [e] at ih
        rw [aopsF_cons hi] at hk' ⊢
        exact gopF_mono (fun s hs => by rw [e] at hs; exact hs) hk'
      | some b =>
        rw [aopsF_cons hi] at hk'
        have h2 : GOpF P (p i) (r i) ops a s fun s1 => GOpF P (p j) (r j) ops b s1 (AOpsF P p r ops K (l1 ++ l2)) := gopF_mono (fun s1 hs => by rw [aopsF_cons hj] at hs; exact hs) hk'
        have h3 := gopF_swap (hap a b hi hj) h2
        show AOpsF P p r ops K (j :: i :: (l1 ++ l2)) s
        rw [aopsF_cons hj]
        exact gopF_mono (fun s1 hs => by rw [aopsF_cons hi]; exact hs) h3
def apartF (p r : Nat → Bool) (ops : Array Oper) (i j : Nat) : Bool :=
  match ops[i]?, ops[j]? with
  | some a, some b => (a.dst.toList.all fun t => !(readsOf ops b).contains t) && (b.dst.toList.all fun t => !(readsOf ops a).contains t) && (match a.dst, b.dst with | some t, some u => t != u | _, _ => true) &&
      ((clsF (p i) (r i) a.op ≤ 1 && clsF (p j) (r j) b.op ≤ 1) || (clsF (p i) (r i) a.op == 0 && clsF (p j) (r j) b.op == 2))
  | _, _ => true
theorem apartF_sound {p r : Nat → Bool} {ops : Array Oper} {i j : Nat} (h : apartF p r ops i j = true) : ApartAtF p r ops i j := by
  intro a b ha hb
  unfold apartF at h
  rw [ha, hb] at h
  simp only [Bool.and_eq_true, Bool.or_eq_true, List.all_eq_true, decide_eq_true_eq, beq_iff_eq] at h
  obtain ⟨⟨⟨h1, h2⟩, h3⟩, h4⟩ := h
  refine ⟨fun t ht hm => ?_, fun t ht hm => ?_, fun t ht hu => ?_, h4⟩
  · have := h1 t (by simp [ht]); simp [hm] at this
  · have := h2 t (by simp [ht]); simp [hm] at this
  · rw [ht, hu] at h3; simp at h3
def pairsF (p r : Nat → Bool) (ops : Array Oper) (an : List (List Nat)) : List Nat → Bool
  | [] => true
  | k :: l => (l.all fun i => (an.getD i []).contains k || apartF p r ops k i) && pairsF p r ops an l
theorem pairsF_sound {p r : Nat → Bool} {ops : Array Oper} {an : List (List Nat)} : ∀ {l : List Nat}, pairsF p r ops an l = true → l.Pairwise fun k i => (an.getD i []).contains k = true ∨ ApartAtF p r ops k i
  | [], _ => .nil
  | k :: l, h => by
    simp only [pairsF, Bool.and_eq_true, List.all_eq_true, Bool.or_eq_true] at h
    exact .cons (fun i hi => (h.1 i hi).imp id apartF_sound) (pairsF_sound h.2)
/-- The look at a region that draws its order, told in the order σ. -/
def orderF (p r : Nat → Bool) (σ : List Nat) (ops : Array Oper) : Bool :=
  ((List.range ops.size).all fun j => σ.contains j) && (σ.all fun j => j < ops.size) && decide σ.Nodup && pairsF p r ops (ancs ops.toList []) σ && ops.all fun (o : Oper) => o.after.all fun (e : Edge) => decide (e.on < ops.size)
def remF (σ : List Nat) (listed : Array Bool) : List Nat := σ.filter fun i => !listed.getD i true
theorem remF_set {σ : List Nat} (hσ : σ.Nodup) {listed : Array Bool} {i : Nat} (hin : i < listed.size) {l1 l2 : List Nat} (h : remF σ listed = l1 ++ i :: l2) : remF σ (listed.setIfInBounds i true) = l1 ++ l2 := by
  have hnd : (l1 ++ i :: l2).Nodup := by rw [← h]; exact List.Nodup.sublist List.filter_sublist hσ
  have e1 : remF σ (listed.setIfInBounds i true) = (remF σ listed).filter fun k => k != i := by
    unfold remF
    rw [List.filter_filter]
    apply List.filter_congr
    intro k hk
    by_cases hki : k = i
    · subst hki
      simp [Array.getD_eq_getD_getElem?, hin]
    · simp [Array.getD_eq_getD_getElem?, Array.getElem?_setIfInBounds_ne (Ne.symm hki), hki]
  rw [e1, h, List.filter_append, List.filter_cons]
  have h1 : ∀ k ∈ l1, (k != i) = true := fun k hk => by
    rw [bne_iff_ne]; rintro rfl
    exact (List.nodup_append.1 hnd).2.2 k hk k (by simp) rfl
  have h2 : ∀ k ∈ l2, (k != i) = true := fun k hk => by
    rw [bne_iff_ne]; rintro rfl
    exact (List.nodup_cons.1 (List.nodup_append.1 hnd).2.1).1 hk
  rw [List.filter_eq_self.2 h1, List.filter_eq_self.2 h2]
  simp
theorem binds_any {m : Region.Mode} {e : Edge} (h : Region.binds .any e = true) : Region.binds m e = true := by
  unfold Region.binds at h ⊢
  cases hg : e.ground <;> rw [hg] at h <;> simp at h ⊢ <;> cases h
/-- Does each stand behind what a mode binds it to? -/
def acyc (md : Region.Mode) (ops : Array Oper) : List Nat → List Nat → Bool
  | _, [] => true
  | done, j :: l => (match ops[j]? with | some o => o.after.all fun e => !Region.binds md e || done.contains e.on | none => true) && acyc md ops (j :: done) l
theorem acyc_ready {md : Region.Mode} {ops : Array Oper} {L : Nat → Bool} : ∀ (τ done : List Nat), acyc md ops done τ = true → (∀ j ∈ done, L j = true) → (∃ i ∈ τ, L i = false) → ∃ i ∈ τ, L i = false ∧ ∀ o, ops[i]? = some o → o.after.all (fun e => !Region.binds md e || L e.on) = true
  | [], done, _, _, ⟨i, hi, _⟩ => by cases hi
  | j :: l, done, h, hd, ⟨i, hi, hl⟩ => by
    simp only [acyc, Bool.and_eq_true] at h
    cases hj : L j with
    | true =>
      have hi' : i ∈ l := by
        rcases List.mem_cons.1 hi with rfl | h
        · rw [hj] at hl; cases hl
        · exact h
      obtain ⟨k, hk, h1, h2⟩ := acyc_ready l (j :: done) h.2 (fun x hx => by
        rcases List.mem_cons.1 hx with rfl | hx
        · exact hj
        · exact hd x hx) ⟨i, hi', hl⟩
      exact ⟨k, List.mem_cons_of_mem _ hk, h1, h2⟩
    | false =>
      refine ⟨j, List.mem_cons_self .., hj, fun o ho => ?_⟩
      have h1 := h.1
      rw [ho] at h1
      simp only [Array.all_eq_true', Bool.or_eq_true] at h1 ⊢
      intro e he
      rcases h1 e he with h | h
      · exact .inl h
      · exact .inr (hd _ (by simpa using h))
def acycAll (md : Region.Mode) (ops : Array Oper) (τ : List Nat) : Bool := acyc md ops [] τ && (List.range ops.size).all fun j => τ.contains j
theorem linearF_sound (md : Region.Mode) {p r : Nat → Bool} {σ : List Nat} {ops : Array Oper} {K : St → Prop} (hB : orderF p r σ ops = true) {τ : List Nat} (hT : acycAll md ops τ = true) : ∀ (fuel t : Nat) (listed : Array Bool) (acc : List Nat), listed.size = ops.size → fuel = (rem ops.size listed).length → fuel = (remF σ listed).length →
    (∀ (j : Nat) (o : Oper), ops[j]? = some o → listed.getD j true = true → ∀ e ∈ direct o, listed.getD e true = true) →
    ∃ π, Region.linearise.go md ops fuel t listed acc = acc.reverse ++ π ∧ ∀ s, AOpsF P p r ops K (remF σ listed) s → AOpsF P p r ops K π s := by
  intro fuel
  induction fuel with
  | zero =>
    intro t listed acc hs hf0 hf hc
    have : remF σ listed = [] := List.eq_nil_of_length_eq_zero hf.symm
    rw [this]
    exact ⟨[], by simp [Region.linearise.go], fun s hk => hk⟩
  | succ fuel ih =>
    intro t listed acc hs hf0 hf hc
    unfold orderF at hB
    simp only [Bool.and_eq_true, List.all_eq_true, List.mem_range, decide_eq_true_eq, Array.all_eq_true'] at hB
    obtain ⟨⟨⟨⟨hB, hσ1⟩, hσ2⟩, hpairs⟩, hE0⟩ := hB
    have hE : ∀ (i : Nat) (o : Oper), ops[i]? = some o → ∀ e ∈ o.after, e.on < ops.size := by
      intro i o ho e he
      have h1 := hE0 o (Array.mem_of_getElem? ho)
      exact h1 e he
    have hready : ∀ (i : Nat) (o : Oper), ops[i]? = some o → (((ops[i]?).map (·.after.all fun e => !Region.binds md e || listed.getD e.on false)).getD false = true → ∀ e ∈ direct o, listed.getD e false = true) := by
      intro i o ho
      rw [ho]
      simp only [Option.map_some, Option.getD_some, Array.all_eq_true', direct, List.mem_map, List.mem_filter]
      rintro h e ⟨x, ⟨hx, hb⟩, rfl⟩
      have := h x (by simpa using hx)
      simpa [binds_any (m := md) hb] using this
    unfold Region.linearise.go
    simp only
    generalize hrs : ((List.range ops.size).filter fun i => !listed.getD i true && ((ops[i]?).map (·.after.all fun e => !Region.binds md e || listed.getD e.on false)).getD false) = rs
    have hmem : ∀ i, i ∈ rs → i ∈ rem ops.size listed ∧ i ∈ remF σ listed ∧ ∃ o, ops[i]? = some o ∧ ∀ e ∈ direct o, listed.getD e false = true := by
      intro i hi
      rw [← hrs] at hi
      obtain ⟨h1, h2⟩ := List.mem_filter.1 hi
      simp only [Bool.and_eq_true] at h2
      have hlt := List.mem_range.1 h1
      refine ⟨List.mem_filter.2 ⟨h1, h2.1⟩, List.mem_filter.2 ⟨by simpa using hB i hlt, h2.1⟩, ?_⟩
      exact ⟨ops[i], by simp [hlt], hready i _ (by simp [hlt]) h2.2⟩
    have hne : rs ≠ [] := by
      have hrem : rem ops.size listed ≠ [] := by intro h; rw [h] at hf0; simp at hf0
      obtain ⟨i0, l0, hil⟩ := List.exists_cons_of_ne_nil hrem
      have hi0 : i0 ∈ rem ops.size listed := by rw [hil]; simp
      obtain ⟨hin0, hiu0⟩ := List.mem_filter.1 hi0
      unfold acycAll at hT
      simp only [Bool.and_eq_true, List.all_eq_true, List.mem_range] at hT
      obtain ⟨i, hiτ, h1, h2⟩ := acyc_ready (L := fun j => listed.getD j true) τ [] hT.1 (fun j hj => by cases hj) ⟨i0, by simpa using hT.2 i0 (List.mem_range.1 hin0), by simpa using hiu0⟩
      have hin : i < ops.size := by
        rcases Nat.lt_or_ge i ops.size with h | h
        · exact h
        · simp [Array.getD_eq_getD_getElem?, Array.getElem?_eq_none (show listed.size ≤ i by omega)] at h1
      intro hnil
      have : i ∈ rs := by
        rw [← hrs]
        refine List.mem_filter.2 ⟨List.mem_range.2 hin, ?_⟩
        simp only [Bool.and_eq_true]
        refine ⟨by simp [h1], ?_⟩
        have h3 := h2 ops[i] (by simp [hin])
        rw [show ops[i]? = some ops[i] from by simp [hin]]
        simp only [Option.map_some, Option.getD_some, Array.all_eq_true', Bool.or_eq_true] at h3 ⊢
        intro e he
        rcases h3 e he with h | h
        · exact .inl h
        · cases hb : Region.binds md e with
          | false => exact .inl rfl
          | true =>
            refine .inr ?_
            -- what is not there is never listed
            have hes := (hE i ops[i] (by simp [hin])) e he
            simp only [Array.getD_eq_getD_getElem?] at h ⊢
            rw [show listed[e.on]? = some (listed[e.on]'(by omega)) from by simp [hs, hes]] at h ⊢
            simpa using h
      rw [hnil] at this; cases this
    have hpos : 0 < rs.length := List.length_pos_iff.2 hne
    have hlt : t % rs.length < rs.length := Nat.mod_lt _ hpos
    rw [List.getElem?_eq_getElem hlt]
    simp only
    obtain ⟨hi0, hi, o, ho, hd⟩ := hmem _ (List.getElem_mem hlt)
    generalize rs[t % rs.length] = i at *
    obtain ⟨l1, l2, hl⟩ := List.append_of_mem hi
    obtain ⟨k1, k2, hl0⟩ := List.append_of_mem hi0
    have hin := List.mem_range.1 (List.mem_filter.1 hi0).1
    have hset := remF_set hσ2 (by omega : i < listed.size) hl
    have hset0 := rem_set hs hl0
    have hlisted : ∀ e, listed.getD e false = true → listed.getD e true = true := by
      intro e he
      simp only [Array.getD_eq_getD_getElem?] at he ⊢
      cases hq : listed[e]? with
      | none => rfl
      | some b => rw [hq] at he; simpa using he
    have hap : ∀ k ∈ l1, ApartAtF p r ops k i := by
      intro k hk1
      have hkm : k ∈ remF σ listed := by rw [hl]; simp [hk1]
      have hp : (remF σ listed).Pairwise _ := List.Pairwise.filter _ (pairsF_sound hpairs)
      rw [hl] at hp
      rcases (List.pairwise_append.1 hp).2.2 k hk1 i (by simp) with h | h
      · have hclosed := ancs_closed ops (fun e => listed.getD e true = true) hc ops.toList [] 0 rfl (Nat.zero_le _) (fun q => by simp) (fun j o _ _ k hk => by simp [List.getD_eq_getElem?_getD] at hk) i o ho (fun e he => hlisted e (hd e he)) k (by simpa using h)
        have := (List.mem_filter.1 hkm).2
        rw [hclosed] at this; cases this
      · exact h
    have hc' : ∀ (j : Nat) (o' : Oper), ops[j]? = some o' → (listed.setIfInBounds i true).getD j true = true → ∀ e ∈ direct o', (listed.setIfInBounds i true).getD e true = true := by
      intro j o' ho' hj e he
      have key : ∀ q, listed.getD q true = true → (listed.setIfInBounds i true).getD q true = true := by
        intro q hq
        by_cases hqi : q = i
        · subst hqi; simp [Array.getD_eq_getD_getElem?]
        · simpa [Array.getD_eq_getD_getElem?, Array.getElem?_setIfInBounds_ne (Ne.symm hqi)] using hq
      by_cases hji : j = i
      · subst hji
        rw [ho] at ho'
        obtain rfl := Option.some.inj ho'
        exact key e (hlisted e (hd e he))
      · have : listed.getD j true = true := by simpa [Array.getD_eq_getD_getElem?, Array.getElem?_setIfInBounds_ne (Ne.symm hji)] using hj
        exact key e (hc j o' ho' this e he)
    obtain ⟨π, hgo, hπ⟩ := ih (t / rs.length) (listed.setIfInBounds i true) (i :: acc) (by simpa using hs) (by rw [hset0]; rw [hl0] at hf0; simp at hf0 ⊢; omega) (by rw [hset]; rw [hl] at hf; simp at hf ⊢; omega) hc'
    refine ⟨i :: π, by rw [hgo]; simp, fun s hk => ?_⟩
    rw [hl] at hk
    have hk2 := aopsF_front l1 s hap hk
    rw [hset] at hπ
    exact aopsF_mono hπ i s hk2
theorem scheduleF_sound {p r : Nat → Bool} {σ τ : List Nat} {ops : Array Oper} {K : St → Prop} (hB : orderF p r σ ops = true) (hT : (acycAll .text ops (List.range ops.size) && acycAll .gc ops τ && acycAll .any ops τ) = true) (mixed : Bool) (t : Nat) (s : St) (hk : AOpsF P p r ops K σ s) : AOps P p ops K (Region.schedule mixed ops t) s := by
  have hB' := hB
  unfold orderF at hB'
  simp only [Bool.and_eq_true, List.all_eq_true, List.mem_range, decide_eq_true_eq] at hB'
  obtain ⟨⟨⟨⟨hBr, hσ1⟩, hσ2⟩, hpairs⟩, _⟩ := hB'
  simp only [Bool.and_eq_true] at hT
  have hrem : rem ops.size (Array.replicate ops.size false) = List.range ops.size := by
    unfold rem
    rw [List.filter_eq_self]
    intro i hi
    have := List.mem_range.1 hi
    simp [Array.getD_eq_getD_getElem?, this]
  have hremF : remF σ (Array.replicate ops.size false) = σ := by
    unfold remF
    rw [List.filter_eq_self]
    intro i hi
    have := hσ1 i hi
    simp [Array.getD_eq_getD_getElem?, this]
  have hlen : ops.size = σ.length := by
    have hp : σ.Perm (List.range ops.size) := (List.perm_ext_iff_of_nodup hσ2 List.nodup_range).2 fun a => ⟨fun h => List.mem_range.2 (hσ1 a h), fun h => by simpa using hBr a (List.mem_range.1 h)⟩
    simpa using hp.length_eq.symm
  have key : ∀ md t (τ : List Nat), acycAll md ops τ = true → AOps P p ops K (Region.linearise md ops t) s := by
    intro md t τ hT
    obtain ⟨π, hgo, hπ⟩ := linearF_sound (P := P) (K := K) md hB hT ops.size t (Array.replicate ops.size false) [] (by simp) (by rw [hrem]; simp) (by rw [hremF]; exact hlen) (fun j o ho hj => by
      have hlt := (Array.getElem?_eq_some_iff.1 ho).1
      simp [Array.getD_eq_getD_getElem?, hlt] at hj)
    unfold Region.linearise
    rw [hgo, List.reverse_nil, List.nil_append]
    exact aopsF_le _ _ (hπ s (by rw [hremF]; exact hk))
  unfold Region.schedule
  split
  · exact key _ _ τ hT.2
  · split
    · exact key _ _ _ hT.1.1
    · exact key _ _ τ hT.1.2
def regF (N : Nat) (p r : Nat → Bool) (σ τ : List Nat) (ops : Array Oper) : Bool := dstB N ops && (orderF p r σ ops && (acycAll .text ops (List.range ops.size) && acycAll .gc ops τ && acycAll .any ops τ))
/-- A region that draws its order, told in the order σ; r: the loads of what nobody writes any more. -/
theorem AWp.regionG {N : Nat} {id : Nat} {ops : Array Oper} {Q : Exit → St → Prop} {s : St} (p r : Nat → Bool) (σ τ : List Nat) (hB : regF N p r σ τ ops = true) (h : AOpsF P p r ops (Q .normal) σ s) : AWp P N (.region id ops true) Q s := by
  intro C a w hr hN
  unfold regF at hB
  simp only [Bool.and_eq_true] at hB
  obtain ⟨hd, ho, hT⟩ := hB
  have hb : ∀ (j : Nat) (d : Tmp), (ops[j]?).bind (·.dst) = some d → d < N := by
    intro j d hj
    unfold dstB at hd
    rw [Array.all_eq_true'] at hd
    cases hq : ops[j]? with
    | none => rw [hq] at hj; cases hj
    | some o =>
      rw [hq] at hj
      have := hd o (Array.mem_of_getElem? hq)
      simp at hj
      rw [hj] at this
      simpa using this
  have hQ : NextOk C (Q .normal) N (Lift C N Q .normal) := fun s a w h1 h2 h3 => ⟨s, h1, h2, h3⟩
  refine wp_region_draw fun t => ?_
  refine aops_sound hb hQ _ s a _ ?_ hN (scheduleF_sound ho (by simp only [Bool.and_eq_true]; exact hT) _ t s h)
  obtain ⟨S, h1, h2, h3⟩ := hr.ex
  exact ⟨⟨S, h1, memRep_drew h2 _, fun t => Rep.mono (w := w) (w' := { w with drawn := w.drawn + 1 }) (fun _ _ => rfl) (fun _ h => h) (h3 t)⟩, hr.defers, hr.keep.drew _, hr.dom⟩
theorem AWp.regionF {N : Nat} {id : Nat} {ops : Array Oper} {Q : Exit → St → Prop} {s : St} (p r : Nat → Bool) (σ : List Nat) (hB : regF N p r σ (List.range ops.size) ops = true) (h : AOpsF P p r ops (Q .normal) σ s) : AWp P N (.region id ops true) Q s := AWp.regionG p r σ _ hB h
@[simp] theorem aopsF_nil (p r : Nat → Bool) (ops : Array Oper) (K : St → Prop) (s : St) : AOpsF P p r ops K [] s = K s := (_root_.id rfl)
@[simp] theorem aopsF_step (p r : Nat → Bool) (ops : Array Oper) (K : St → Prop) (i : Nat) (l : List Nat) (s : St) : AOpsF P p r ops K (i :: l) s = match ops[i]? with | none => AOpsF P p r ops K l s | some o => GOpF P (p i) (r i) ops o s (AOpsF P p r ops K l) := (_root_.id rfl)
@[simp] theorem gopF_none (f r : Bool) (ops : Array Oper) (d : Option Tmp) (op : Op) (T : TypeId) (pos : String) (af : Array Edge) (s : St) (K : St → Prop) : GOpF P f r ops ⟨d, op, T, pos, af, none⟩ s K = AOpF P f r ⟨d, op, T, pos, af, none⟩ s K := (_root_.id rfl)
@[simp] theorem gopF_some (f r : Bool) (ops : Array Oper) (d : Option Tmp) (op : Op) (T : TypeId) (pos : String) (af : Array Edge) (j : Nat) (want : Bool) (s : St) (K : St → Prop) : GOpF P f r ops ⟨d, op, T, pos, af, some (j, want)⟩ s K =
    guardRun (gv ops j s) want (AOpF P f r ⟨d, op, T, pos, af, none⟩ s K) (K (s.put d (.tup []))) := by
  unfold GOpF wantedA gv guardRun
  simp only
  cases hj : (ops[j]?).bind (·.dst) with
  | none => rfl
  | some t =>
    simp only
    cases hs : s.slots t with
    | bool b =>
      simp only
      by_cases h : b = want
      · subst h; simp; rfl
      · have : (b == want) = false := by simpa using h
        simp [this, h]
    | tup l => cases l <;> rfl
    | _ => rfl
@[simp] theorem aopF_f (f : Bool) (o : Oper) (s : St) (K : St → Prop) : AOpF P f false o s K = AOp P f o s K := by simp [AOpF]
@[simp] theorem aopF_load (f : Bool) (d : Option Tmp) (U : TypeId) (x : Operand) (T : TypeId) (pos : String) (af : Array Edge) (g : Option (Nat × Bool)) (s : St) (K : St → Prop) : AOpF P f true ⟨d, .load U x, T, pos, af, g⟩ s K = goO (loadA P noMem U (s.eval x)) d s K := by
  simp only [AOpF, isLoad, Bool.and_self, if_true, outR, goO]
  cases loadA P noMem U (s.eval x) <;> simp
@[simp] theorem aopF_idx (f : Bool) (d : Option Tmp) (U : TypeId) (x i : Operand) (T : TypeId) (pos : String) (af : Array Edge) (g : Option (Nat × Bool)) (s : St) (K : St → Prop) : AOpF P f true ⟨d, .indexAddr U x i, T, pos, af, g⟩ s K = goO (idxA P noMem U (s.eval x) (s.eval i)) d s K := by
  simp only [AOpF, isLoad, Bool.and_self, if_true, outR, goO]
  cases idxA P noMem U (s.eval x) (s.eval i) <;> simp
end
end Go.T
