/- The order in which a region is carried out does not matter, where those that no edge orders may change places. -/
import Derived.Test.YtkheogobahhbpaaT11
namespace Go.T
open Go
set_option linter.unusedSimpArgs false
set_option linter.unusedVariables false
section
variable {P : Program}

/-- 0: it asks no memory that may be written; 1: it reads it; 2: it acts. -/
def cls (p : Bool) : Op → Nat
  | .move _ | .assign _ | .pick .. | .binOp .. | .unOp .. | .convert .. | .nilCheck _ | .fieldAddr .. | .field .. | .index .. | .slice .. | .extract .. | .makeFunc .. | .build .. | .buildSlice .. => 0
  | .load .. | .indexAddr .. => 1
  | .call c => match c.callee with
    | .builtin .append => 2
    | .builtin _ => 0
    | .value _ => if p then 0 else 2
    | .invoke .. => 2
  | _ => 2

def tmpOf : Operand → List Tmp
  | .tmp t => [t]
  | _ => []
/-- The slots that an operation reads. -/
def readsOf (ops : Array Oper) (o : Oper) : List Tmp :=
  o.op.operands.toList.flatMap tmpOf ++ (match o.guard with | some (j, _) => ((ops[j]?).bind (·.dst)).toList | none => [])

/-- The outcome of an operation of class 0. -/
def Out0 (P : Program) (p : Bool) (ev : Operand → AV) (op : Op) (v : AV) : Prop :=
  match op with
  | .buildSlice T len parts => match esz P T with
    | some n => len = parts.size ∧ len * n ≤ 16777216 ∧ n ≠ 0 ∧ (match elemT P T with | some E => (zeroE P E).isSome = true | none => False) ∧
      match literalA n (parts.toList.map fun q => (q.1, ev q.2)) with | some xs => v = .lst true n xs | none => False
    | none => False
  | .call c => match c.callee with
    | .value f => match ev f with
      | .func (.func n) caps => PCall P n (c.args.toList.map ev ++ caps) v
      | _ => False
    | _ => outR P (fun _ => none) ev op = some v
  | op => outR P (fun _ => none) ev op = some v

theorem aop0 {p : Bool} {o : Oper} (h : cls p o.op = 0) (s : St) (K : St → Prop) : AOp P p o s K ↔ ∃ v, Out0 P p s.eval o.op v ∧ K (s.put o.dst v) := by
  have wm : ∀ v, (s.put o.dst v).withMem s.mem = s.put o.dst v := fun v => by cases o.dst <;> rfl
  have plain : ∀ (x : Option AV), outR P s.mem s.eval o.op = x → outR P (fun _ => none) s.eval o.op = x → (x = none → ¬ WT P p s.mem s.eval (fun v m' => K ((s.put o.dst v).withMem m')) o.op) → (AOp P p o s K ↔ ∃ v, outR P (fun _ => none) s.eval o.op = some v ∧ K (s.put o.dst v)) := by
    intro x h1 h2 h3
    unfold AOp
    rw [h1, h2]
    cases x with
    | none => exact ⟨fun h => absurd h (h3 rfl), fun ⟨v, h, _⟩ => by cases h⟩
    | some v => exact ⟨fun h => ⟨v, rfl, h⟩, fun ⟨v', h, k⟩ => by obtain rfl := Option.some.inj h; exact k⟩
  cases hop : o.op <;> rw [hop] at h plain <;> first
    | (exact plain _ rfl rfl (fun _ hw => hw.elim))
    | (simp [cls] at h; done)
    | skip
  case slice T x lo hi mx =>
    cases mx with
    | none => exact plain _ rfl rfl (fun _ hw => hw.elim)
    | some _ => exact plain _ rfl rfl (fun _ hw => hw.elim)
  case buildSlice T len parts =>
    unfold AOp
    rw [hop]
    simp only [outR, WT, Out0]
    cases esz P T with
    | none => simp
    | some n =>
      simp only
      cases literalA n (parts.toList.map fun q => (q.1, s.eval q.2)) with
      | none => simp
      | some xs =>
        simp only [wm]
        exact ⟨fun ⟨a, b, c, d, e⟩ => ⟨_, ⟨a, b, c, d, rfl⟩, e⟩, fun ⟨v, ⟨a, b, c, d, hv⟩, e⟩ => ⟨a, b, c, d, hv ▸ e⟩⟩
  case call c =>
    cases hcal : c.callee with
    | builtin b =>
      cases b with
      | append => simp [cls, hcal] at h
      | _ =>
        simp only [Out0, hcal]
        refine plain _ (by simp only [outR, hcal]; rfl) (by simp only [outR, hcal]) (fun _ hw => ?_)
        simp only [WT, hcal] at hw
    | value f =>
      have hp : p = true := by
        cases p with
        | true => rfl
        | false => simp [cls, hcal] at h
      subst hp
      unfold AOp
      rw [hop]
      simp only [outR, hcal, WT, Out0]
      cases s.eval f with
      | func fn caps => cases fn <;> simp [wm]
      | _ => simp
    | invoke r n => simp [cls, hcal] at h
theorem aop1 {p : Bool} {o : Oper} (h : cls p o.op = 1) (s : St) (K : St → Prop) : AOp P p o s K ↔ ∃ v, outR P s.mem s.eval o.op = some v ∧ K (s.put o.dst v) := by
  have plain : (¬ WT P p s.mem s.eval (fun v m' => K ((s.put o.dst v).withMem m')) o.op) → (AOp P p o s K ↔ ∃ v, outR P s.mem s.eval o.op = some v ∧ K (s.put o.dst v)) := by
    intro h3
    unfold AOp
    cases outR P s.mem s.eval o.op with
    | none => exact ⟨fun h => absurd h h3, fun ⟨v, h, _⟩ => by cases h⟩
    | some v => exact ⟨fun h => ⟨v, rfl, h⟩, fun ⟨v', h, k⟩ => by obtain rfl := Option.some.inj h; exact k⟩
  cases hop : o.op <;> rw [hop] at h plain <;> first
    | (exact plain (fun hw => hw.elim))
    | (simp [cls] at h; done)
    | skip
  case call c =>
    cases hcal : c.callee with
    | builtin b => cases b <;> simp [cls, hcal] at h
    | value f => cases p <;> simp [cls, hcal] at h
    | invoke r n => simp [cls, hcal] at h
theorem aop2 {p : Bool} {o : Oper} (h : cls p o.op = 2) (s : St) (K : St → Prop) : AOp P p o s K ↔ WT P p s.mem s.eval (fun v m' => K ((s.put o.dst v).withMem m')) o.op := by
  have plain : outR P s.mem s.eval o.op = none → (AOp P p o s K ↔ WT P p s.mem s.eval (fun v m' => K ((s.put o.dst v).withMem m')) o.op) := by
    intro h; unfold AOp; rw [h]
  cases hop : o.op <;> rw [hop] at h plain <;> first
    | (exact plain rfl)
    | (simp [cls] at h; done)
    | skip
  case call c =>
    cases hcal : c.callee with
    | builtin b =>
      cases b with
      | append => exact plain (by simp only [outR, hcal])
      | _ => simp [cls, hcal] at h
    | value f => exact plain (by simp only [outR, hcal])
    | invoke r n => exact plain (by simp only [outR, hcal])

theorem put_eval {s : St} {d : Option Tmp} {v : AV} {x : Operand} (h : ∀ t, d = some t → t ∉ tmpOf x) : (s.put d v).eval x = s.eval x := by
  cases d with
  | none => rfl
  | some d =>
    cases x with
    | tmp t =>
      have : t ≠ d := fun e => h d rfl (by simp [tmpOf, e])
      simp [St.eval, St.put, this]
    | _ => rfl
theorem operands_eq {op : Op} {ev ev' : Operand → AV} (h : ∀ x ∈ op.operands.toList, ev x = ev' x) (m : Mem) : outR P m ev op = outR P m ev' op := by
  cases op with
  | move x => simp only [outR]; rw [h x (by simp [Op.operands])]
  | assign x => simp only [outR]; rw [h x (by simp [Op.operands])]
  | pick c a b => simp only [outR]; rw [h c (by simp [Op.operands]), h a (by simp [Op.operands]), h b (by simp [Op.operands])]
  | binOp op T x y ty => simp only [outR]; rw [h x (by simp [Op.operands]), h y (by simp [Op.operands])]
  | unOp op T x => simp only [outR]; rw [h x (by simp [Op.operands])]
  | convert a b x => simp only [outR]; rw [h x (by simp [Op.operands])]
  | nilCheck x => simp only [outR]; rw [h x (by simp [Op.operands])]
  | fieldAddr T x f => simp only [outR]; rw [h x (by simp [Op.operands])]
  | field T x f => simp only [outR]; rw [h x (by simp [Op.operands])]
  | load T x => simp only [outR]; rw [h x (by simp [Op.operands])]
  | indexAddr T x i => simp only [outR]; rw [h x (by simp [Op.operands]), h i (by simp [Op.operands])]
  | index T x i => simp only [outR]; rw [h x (by simp [Op.operands]), h i (by simp [Op.operands])]
  | extract t i => simp only [outR]; rw [h t (by simp [Op.operands])]
  | slice T x lo hi mx =>
    cases mx with
    | some _ => rfl
    | none =>
      simp only [outR]
      have e1 : lo.map ev = lo.map ev' := by cases lo with | none => rfl | some l => simp [h l (by simp [Op.operands])]
      have e2 : hi.map ev = hi.map ev' := by cases hi with | none => rfl | some l => simp [h l (by simp [Op.operands])]
      rw [h x (by simp [Op.operands]), e1, e2]
  | makeFunc fn first caps =>
    simp only [outR]
    have : caps.toList.map ev = caps.toList.map ev' := List.map_congr_left fun x hx => h x (by simp [Op.operands]; exact .inr (by simpa using hx))
    rw [this]
  | build T parts =>
    simp only [outR]
    have : parts.toList.map (fun p => (p.1, ev p.2)) = parts.toList.map (fun p => (p.1, ev' p.2)) := List.map_congr_left fun p hp => by rw [h p.2 (by simp [Op.operands]; exact ⟨p.1, by simpa using hp⟩)]
    rw [this]
  | call c =>
    simp only [outR]
    have hargs : ∀ x ∈ c.args.toList, ev x = ev' x := fun x hx => h x (by simp [Op.operands, Call.operands]; exact .inr (by simpa using hx))
    cases c.callee with
    | builtin b =>
      cases b with
      | len =>
        simp only
        split
        · rename_i x hx; rw [hargs x (by rw [hx]; simp)]
        · rfl
      | max =>
        simp only
        split
        · rename_i x l hx
          have : l.map ev = l.map ev' := List.map_congr_left fun y hy => hargs y (by rw [hx]; simp [hy])
          rw [hargs x (by rw [hx]; simp), this]
        · rfl
      | min =>
        simp only
        split
        · rename_i x l hx
          have : l.map ev = l.map ev' := List.map_congr_left fun y hy => hargs y (by rw [hx]; simp [hy])
          rw [hargs x (by rw [hx]; simp), this]
        · rfl
      | _ => rfl
    | _ => rfl
  | _ => rfl
theorem call_eq {c : Call} {f : Operand} (hf : c.callee = .value f) {ev ev' : Operand → AV} (h : ∀ x ∈ (Op.call c).operands.toList, ev x = ev' x) : ev f = ev' f ∧ c.args.toList.map ev = c.args.toList.map ev' :=
  ⟨h f (by simp [Op.operands, Call.operands, hf]), List.map_congr_left fun x hx => h x (by simp [Op.operands, Call.operands]; exact .inr (by simpa using hx))⟩
theorem out0_eq {p : Bool} {op : Op} {ev ev' : Operand → AV} (h : ∀ x ∈ op.operands.toList, ev x = ev' x) (v : AV) : Out0 P p ev op v = Out0 P p ev' op v := by
  have hr := operands_eq (P := P) h (fun _ => none)
  cases op with
  | buildSlice T len parts =>
    simp only [Out0]
    have : parts.toList.map (fun q => (q.1, ev q.2)) = parts.toList.map (fun q => (q.1, ev' q.2)) := List.map_congr_left fun q hq => by rw [h q.2 (by simp [Op.operands]; exact ⟨q.1, by simpa using hq⟩)]
    rw [this]
  | call c =>
    simp only [Out0]
    cases hc : c.callee with
    | value f =>
      obtain ⟨h1, h2⟩ := call_eq hc h
      simp only
      rw [h1, h2]
    | _ => simp only; rw [hr]
  | _ => simp only [Out0]; rw [hr]
theorem wt_eq {p : Bool} {m : Mem} {op : Op} {ev ev' : Operand → AV} (h : ∀ x ∈ op.operands.toList, ev x = ev' x) (k : AV → Mem → Prop) : WT P p m ev k op = WT P p m ev' k op := by
  cases op with
  | box T x => simp only [WT]; rw [h x (by simp [Op.operands])]
  | store T a x => simp only [WT]; rw [h a (by simp [Op.operands]), h x (by simp [Op.operands])]
  | buildSlice T len parts =>
    simp only [WT]
    have : parts.toList.map (fun q => (q.1, ev q.2)) = parts.toList.map (fun q => (q.1, ev' q.2)) := List.map_congr_left fun q hq => by rw [h q.2 (by simp [Op.operands]; exact ⟨q.1, by simpa using hq⟩)]
    rw [this]
  | makeSlice T l c => simp only [WT]; rw [h l (by simp [Op.operands]), h c (by simp [Op.operands])]
  | call c =>
    simp only [WT]
    cases hc : c.callee with
    | value f =>
      obtain ⟨h1, h2⟩ := call_eq hc h
      simp only
      rw [h1, h2]
    | builtin b =>
      have hargs : ∀ x ∈ c.args.toList, ev x = ev' x := fun x hx => h x (by simp [Op.operands, Call.operands]; exact .inr (by simpa using hx))
      cases b with
      | append =>
        simp only
        split
        · rename_i x y hxy
          rw [hargs x (by rw [hxy]; simp), hargs y (by rw [hxy]; simp)]
        · rfl
      | _ => rfl
    | invoke r n => rfl
  | _ => rfl
theorem appendW_mono {m : Mem} {ts : Array TypeId} {s x : AV} {k k' : AV → Mem → Prop} (hk : ∀ v m, k v m → k' v m) (h : appendW P m k ts s x) : appendW P m k' ts s x := by
  unfold appendW at h ⊢
  split at h
  · rename_i T U hT hU
    (try rw [hT, hU])
    obtain ⟨hI, h⟩ := h
    refine ⟨hI, ?_⟩
    split at h
    · rename_i E hE
      (try rw [hE])
      (try simp only)
      split at h
      · rename_i n b z h1 h2 h3
        (try rw [h1, h2, h3])
        obtain ⟨h4, h5, h6, h⟩ := h
        refine ⟨h4, h5, h6, ?_⟩
        split at h
        · rename_i ys hys
          (try rw [hys])
          (try simp only)
          split at h
          · obtain ⟨a, b, c, d⟩ := h
            exact ⟨a, b, fun e => hk _ _ (c e), fun e g cc hg hc => hk _ _ (d e g cc hg hc)⟩
          · rename_i g l c
            split at h
            · rename_i hg
              (try rw [hg])
              obtain ⟨a, b, c, d, e, f, h⟩ := h
              exact ⟨a, b, c, d, e, f, fun g' c' h1 h2 => hk _ _ (h g' c' h1 h2)⟩
            · exact h.elim
          · exact h.elim
        · exact h.elim
      · exact h.elim
    · exact h.elim
  · exact h.elim
theorem wt_mono {p : Bool} {m : Mem} {op : Op} {ev : Operand → AV} {k k' : AV → Mem → Prop} (hk : ∀ v m, k v m → k' v m) (h : WT P p m ev k op) : WT P p m ev k' op := by
  cases op with
  | alloc T =>
    simp only [WT] at h ⊢
    split at h
    · exact fun g hg => hk _ _ (h g hg)
    · exact h.elim
  | box T x =>
    simp only [WT] at h ⊢
    split at h
    · exact h.elim
    · exact fun g hg => hk _ _ (h g hg)
  | store T a x =>
    simp only [WT] at h ⊢
    split at h
    · exact h.elim
    · split at h
      · obtain ⟨h1, h2, h⟩ := h
        refine ⟨h1, h2, ?_⟩
        split at h
        · exact hk _ _ h
        · exact h.elim
      · exact h.elim
  | buildSlice T len parts =>
    simp only [WT] at h ⊢
    split at h
    · obtain ⟨h1, h2, h3, h4, h⟩ := h
      refine ⟨h1, h2, h3, h4, ?_⟩
      split at h
      · exact hk _ _ h
      · exact h.elim
    · exact h.elim
  | makeSlice T l c =>
    simp only [WT] at h ⊢
    split at h
    · split at h
      · split at h
        · obtain ⟨h1, h2, h3, h4, h5, h6, h⟩ := h
          exact ⟨h1, h2, h3, h4, h5, h6, fun g hg => hk _ _ (h g hg)⟩
        · exact h.elim
      · exact h.elim
    · exact h.elim
  | call c =>
    simp only [WT] at h ⊢
    cases hc : c.callee with
    | value f =>
      rw [hc] at h
      simp only at h ⊢
      split at h
      · cases p with
        | true => obtain ⟨r, h1, h2⟩ := h; exact ⟨r, h1, hk _ _ h2⟩
        | false => exact WCall.mono h hk
      · exact h.elim
    | builtin b =>
      rw [hc] at h
      cases b with
      | append =>
        simp only at h ⊢
        split at h
        · exact appendW_mono hk h
        · exact h.elim
      | _ => exact h
    | invoke r n => rw [hc] at h; exact h
  | _ => exact h
theorem aop_mono {p : Bool} {o : Oper} {s : St} {K K' : St → Prop} (hk : ∀ s, K s → K' s) (h : AOp P p o s K) : AOp P p o s K' := by
  unfold AOp at h ⊢
  split at h
  · rename_i v hv; exact hk _ h
  · rename_i hv; exact wt_mono (fun v m hh => hk _ hh) h
/-- An operation with its guard. -/
def GOp (P : Program) (p : Bool) (ops : Array Oper) (o : Oper) (s : St) (K : St → Prop) : Prop :=
  match wantedA ops o s with
  | some true => AOp P p o s K
  | some false => K (s.put o.dst (.tup []))
  | none => False
theorem gop_mono {p : Bool} {ops : Array Oper} {o : Oper} {s : St} {K K' : St → Prop} (hk : ∀ s, K s → K' s) (h : GOp P p ops o s K) : GOp P p ops o s K' := by
  unfold GOp at h ⊢
  split at h
  · exact aop_mono hk h
  · exact hk _ h
  · exact h
theorem put_reads {ops : Array Oper} {o : Oper} {s : St} {d : Option Tmp} {v : AV} (h : ∀ t, d = some t → t ∉ readsOf ops o) : (∀ x ∈ o.op.operands.toList, (s.put d v).eval x = s.eval x) ∧ wantedA ops o (s.put d v) = wantedA ops o s := by
  refine ⟨fun x hx => put_eval fun t ht hm => h t ht ?_, ?_⟩
  · unfold readsOf
    exact List.mem_append.2 (.inl (List.mem_flatMap.2 ⟨x, hx, hm⟩))
  · unfold wantedA
    cases hg : o.guard with
    | none => rfl
    | some q =>
      obtain ⟨j, want⟩ := q
      simp only
      cases hj : (ops[j]?).bind (·.dst) with
      | none => rfl
      | some t =>
        simp only
        have : (s.put d v).slots t = s.slots t := by
          have := put_eval (s := s) (d := d) (v := v) (x := .tmp t) (fun t' ht' hm => h t' ht' (by
            simp [tmpOf] at hm
            subst hm
            unfold readsOf
            rw [hg]
            show t' ∈ List.flatMap tmpOf o.op.operands.toList ++ ((ops[j]?).bind (·.dst)).toList
            rw [hj]
            simp))
          simpa [St.eval] using this
        rw [this]
/-- The outcome of a guarded operation of class 0 or 1. -/
def GOut (P : Program) (p : Bool) (ops : Array Oper) (o : Oper) (s : St) (v : AV) : Prop :=
  match wantedA ops o s with
  | some true => if cls p o.op = 0 then Out0 P p s.eval o.op v else outR P s.mem s.eval o.op = some v
  | some false => v = .tup []
  | none => False
theorem gop01 {p : Bool} {ops : Array Oper} {o : Oper} (h : cls p o.op ≤ 1) (s : St) (K : St → Prop) : GOp P p ops o s K ↔ ∃ v, GOut P p ops o s v ∧ K (s.put o.dst v) := by
  unfold GOp GOut
  cases wantedA ops o s with
  | none => simp
  | some b =>
    cases b with
    | false => simp
    | true =>
      simp only
      by_cases h0 : cls p o.op = 0
      · simp only [h0, if_true]; exact aop0 h0 s K
      · simp only [h0, if_false]; exact aop1 (by omega) s K
/-- What an operation of class 2, with its guard, may come to. -/
theorem gop2 {p : Bool} {ops : Array Oper} {o : Oper} (h : cls p o.op = 2) (s : St) (K : St → Prop) : GOp P p ops o s K ↔ (match wantedA ops o s with
    | some true => WT P p s.mem s.eval (fun v m' => K ((s.put o.dst v).withMem m')) o.op | some false => K (s.put o.dst (.tup [])) | none => False) := by
  unfold GOp
  cases wantedA ops o s with
  | none => simp
  | some b =>
    cases b with
    | false => simp
    | true => exact aop2 h s K
theorem put_put {s : St} {d e : Option Tmp} {v u : AV} (h : ∀ t, d = some t → e ≠ some t) : (s.put d v).put e u = (s.put e u).put d v := by
  cases d with
  | none => rfl
  | some d =>
    cases e with
    | none => rfl
    | some e =>
      have hne : e ≠ d := fun hh => h d rfl (by rw [hh])
      simp only [St.put]
      congr 1
      funext t
      by_cases h1 : t = e
      · subst h1; simp [hne]
      · simp [h1]
theorem gout_put {p : Bool} {ops : Array Oper} {o : Oper} {s : St} {d : Option Tmp} {v : AV} (h : ∀ t, d = some t → t ∉ readsOf ops o) (u : AV) : GOut P p ops o (s.put d v) u = GOut P p ops o s u := by
  obtain ⟨h1, h2⟩ := put_reads (s := s) (v := v) h
  unfold GOut
  rw [h2, put_mem, out0_eq (P := P) h1, operands_eq (P := P) h1]
theorem gout_mem {p : Bool} {ops : Array Oper} {o : Oper} (h0 : cls p o.op = 0) {s : St} {m : Mem} (u : AV) : GOut P p ops o (s.withMem m) u = GOut P p ops o s u := by
  unfold GOut
  simp only [h0, if_true]
  rfl
/-- May two, of which the first stands ahead in the text, change places? -/
structure Apart (p : Nat → Bool) (ops : Array Oper) (i j : Nat) (a b : Oper) : Prop where
  ab : ∀ t, a.dst = some t → t ∉ readsOf ops b
  ba : ∀ t, b.dst = some t → t ∉ readsOf ops a
  dd : ∀ t, a.dst = some t → b.dst ≠ some t
  c : cls (p i) a.op ≤ 1 ∧ cls (p j) b.op ≤ 1 ∨ cls (p i) a.op = 0 ∧ cls (p j) b.op = 2
theorem gop_swap {p : Nat → Bool} {ops : Array Oper} {i j : Nat} {a b : Oper} (h : Apart p ops i j a b) {s : St} {K : St → Prop} (hk : GOp P (p i) ops a s fun s1 => GOp P (p j) ops b s1 K) : GOp P (p j) ops b s fun s1 => GOp P (p i) ops a s1 K := by
  rcases h.c with ⟨ca, cb⟩ | ⟨ca, cb⟩
  · rw [gop01 ca] at hk
    obtain ⟨v, hv, hk⟩ := hk
    rw [gop01 cb] at hk ⊢
    obtain ⟨u, hu, hk⟩ := hk
    refine ⟨u, by rw [gout_put h.ab] at hu; exact hu, ?_⟩
    rw [gop01 ca]
    refine ⟨v, by rw [gout_put h.ba]; exact hv, ?_⟩
    rw [← put_put h.dd]; exact hk
  · rw [gop01 (by omega)] at hk
    obtain ⟨v, hv, hk⟩ := hk
    rw [gop2 cb] at hk ⊢
    obtain ⟨h1, h2⟩ := put_reads (s := s) (v := v) h.ab
    rw [h2] at hk
    split at hk
    · rw [put_mem, wt_eq (P := P) h1] at hk
      refine wt_mono (fun u m' hh => ?_) hk
      rw [gop01 (by omega)]
      refine ⟨v, by rw [gout_mem ca, gout_put h.ba]; exact hv, ?_⟩
      rw [withMem_put, ← put_put h.dd]; exact hh
    · rw [gop01 (by omega)]
      refine ⟨v, by rw [gout_put h.ba]; exact hv, ?_⟩
      rw [← put_put h.dd]; exact hk
    · exact hk
end
end Go.T
