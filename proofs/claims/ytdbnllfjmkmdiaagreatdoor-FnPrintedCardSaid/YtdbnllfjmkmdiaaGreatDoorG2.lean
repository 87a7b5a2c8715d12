/- The order in which a region is carried out does not matter, where those that no edge orders may change places. Regions. Code, and whole functions. How operations are worked out. Ghost steps: what is weakened, what is not written any more; the end of a function; slices that grow. -/
import Derived.Test.YtdbnllfjmkmdiaaGreatDoorG1
set_option linter.unusedSimpArgs false
set_option linter.unusedVariables false
namespace Go.T
open Go
section
variable {P : Program}
def cls (p : Bool) : Op -> Nat
 | .move _ | .assign _ | .pick .. | .binOp .. | .unOp .. | .convert .. | .nilCheck _ | .fieldAddr .. | .field .. | .index .. | .slice .. | .extract .. | .makeFunc .. | .build .. | .buildSlice .. => 0
 | .load .. | .indexAddr .. => 1
 | .call c => match c.callee with
  | .builtin .append => 2
  | .builtin _ => 0
  | .value _ => if p then 0 else 2
  | .invoke .. => 2
 | _ => 2
def tmpOf : Operand -> List Tmp
 | .tmp t => [t]
 | _ => []
def readsOf (ops : Array Oper) (o : Oper) : List Tmp :=
 o.op.operands.toList.flatMap tmpOf ++ (match o.guard with | some (j, _) => ((ops[j]?).bind (·.dst)).toList | none => [])
def Out0 (P : Program) (p : Bool) (ev : Operand -> AV) (op : Op) (v : AV) : Prop :=
 match op with
 | .buildSlice T len parts => match esz P T with
  | some n => len = parts.size /\ len * n <= 16777216 /\ n ≠ 0 /\ (match elemT P T with | some E => (zeroE P E).isSome = true | none => False) /\
   match literalA n (parts.toList.map fun q => (q.1, ev q.2)) with | some xs => v = .lst true n xs | none => False
  | none => False
 | .call c => match c.callee with
  | .value f => match ev f with
   | .func (.func n) caps => PCall P n (c.args.toList.map ev ++ caps) v
   | _ => False
  | _ => outR P (fun _ => none) ev op = some v
 | op => outR P (fun _ => none) ev op = some v
theorem aop0 {p : Bool} {o : Oper} (h : cls p o.op = 0) (s : St) (K : St -> Prop) : AOp P p o s K <-> ∃ v, Out0 P p s.eval o.op v /\ K (s.put o.dst v) := by
 have wm : ∀ v, (s.put o.dst v).withMem s.mem = s.put o.dst v := fun v => by cases o.dst <;> rfl
 have plain : ∀ (x : Option AV), outR P s.mem s.eval o.op = x -> outR P (fun _ => none) s.eval o.op = x -> (x = none -> ¬ WT P p s.mem s.eval (fun v m' => K ((s.put o.dst v).withMem m')) o.op) -> (AOp P p o s K <-> ∃ v, outR P (fun _ => none) s.eval o.op = some v /\ K (s.put o.dst v)) := by
  intro x h1 h2 h3
  unfold AOp
  rw [h1, h2]
  cases x with
  | none => exact ⟨fun h => absurd h (h3 rfl), fun ⟨v, h, _⟩ => by cases h⟩
  | some v => exact ⟨fun h => ⟨v, rfl, h⟩, fun ⟨v', h, k⟩ => by obtain rfl := Option.some.inj h; exact k⟩
 cases hop : o.op <;> rw [hop] at h plain <;> first
  | (exact plain _ rfl rfl (fun _ hw => hw.elim))
  | (simp [cls] at h; done)
  | skip
 case slice T x lo hi mx =>
  cases mx with
  | none => exact plain _ rfl rfl (fun _ hw => hw.elim)
  | some _ => exact plain _ rfl rfl (fun _ hw => hw.elim)
 case buildSlice T len parts =>
  unfold AOp
  rw [hop]
  simp only [outR, WT, Out0]
  cases esz P T with
  | none => simp
  | some n =>
   simp only
   cases literalA n (parts.toList.map fun q => (q.1, s.eval q.2)) with
   | none => simp
   | some xs =>
    simp only [wm]
    exact ⟨fun ⟨a, b, c, d, e⟩ => ⟨_, ⟨a, b, c, d, rfl⟩, e⟩, fun ⟨v, ⟨a, b, c, d, hv⟩, e⟩ => ⟨a, b, c, d, hv ▸ e⟩⟩
 case call c =>
  cases hcal : c.callee with
  | builtin b =>
   cases b with
   | append => simp [cls, hcal] at h
   | _ =>
    simp only [Out0, hcal]
    refine plain _ (by simp only [outR, hcal]; rfl) (by simp only [outR, hcal]) (fun _ hw => ?_)
    simp only [WT, hcal] at hw
  | value f =>
   have hp : p = true := by
    cases p with
    | true => rfl
    | false => simp [cls, hcal] at h
   subst hp
   unfold AOp
   rw [hop]
   simp only [outR, hcal, WT, Out0]
   cases s.eval f with
   | func fn caps => cases fn <;> simp [wm]
   | _ => simp
  | invoke r n => simp [cls, hcal] at h
theorem aop1 {p : Bool} {o : Oper} (h : cls p o.op = 1) (s : St) (K : St -> Prop) : AOp P p o s K <-> ∃ v, outR P s.mem s.eval o.op = some v /\ K (s.put o.dst v) := by
 have plain : (¬ WT P p s.mem s.eval (fun v m' => K ((s.put o.dst v).withMem m')) o.op) -> (AOp P p o s K <-> ∃ v, outR P s.mem s.eval o.op = some v /\ K (s.put o.dst v)) := by
  intro h3
  unfold AOp
  cases outR P s.mem s.eval o.op with
  | none => exact ⟨fun h => absurd h h3, fun ⟨v, h, _⟩ => by cases h⟩
  | some v => exact ⟨fun h => ⟨v, rfl, h⟩, fun ⟨v', h, k⟩ => by obtain rfl := Option.some.inj h; exact k⟩
 cases hop : o.op <;> rw [hop] at h plain <;> first
  | (exact plain (fun hw => hw.elim))
  | (simp [cls] at h; done)
  | skip
 case call c =>
  cases hcal : c.callee with
  | builtin b => cases b <;> simp [cls, hcal] at h
  | value f => cases p <;> simp [cls, hcal] at h
  | invoke r n => simp [cls, hcal] at h
theorem aop2 {p : Bool} {o : Oper} (h : cls p o.op = 2) (s : St) (K : St -> Prop) : AOp P p o s K <-> WT P p s.mem s.eval (fun v m' => K ((s.put o.dst v).withMem m')) o.op := by
 have plain : outR P s.mem s.eval o.op = none -> (AOp P p o s K <-> WT P p s.mem s.eval (fun v m' => K ((s.put o.dst v).withMem m')) o.op) := by
  intro h; unfold AOp; rw [h]
 cases hop : o.op <;> rw [hop] at h plain <;> first
  | (exact plain rfl)
  | (simp [cls] at h; done)
  | skip
 case call c =>
  cases hcal : c.callee with
  | builtin b =>
   cases b with
   | append => exact plain (by simp only [outR, hcal])
   | _ => simp [cls, hcal] at h
  | value f => exact plain (by simp only [outR, hcal])
  | invoke r n => exact plain (by simp only [outR, hcal])
theorem put_eval {s : St} {d : Option Tmp} {v : AV} {x : Operand} (h : ∀ t, d = some t -> t ∉ tmpOf x) : (s.put d v).eval x = s.eval x := by
 cases d with
 | none => rfl
 | some d =>
  cases x with
  | tmp t =>
   have : t ≠ d := fun e => h d rfl (by simp [tmpOf, e])
   simp [St.eval, St.put, this]
  | _ => rfl
theorem operands_eq {op : Op} {ev ev' : Operand -> AV} (h : ∀ x ∈ op.operands.toList, ev x = ev' x) (m : Mem) : outR P m ev op = outR P m ev' op := by
 cases op with
 | move x => simp only [outR]; rw [h x (by simp [Op.operands])]
 | assign x => simp only [outR]; rw [h x (by simp [Op.operands])]
 | pick c a b => simp only [outR]; rw [h c (by simp [Op.operands]), h a (by simp [Op.operands]), h b (by simp [Op.operands])]
 | binOp op T x y ty => simp only [outR]; rw [h x (by simp [Op.operands]), h y (by simp [Op.operands])]
 | unOp op T x => simp only [outR]; rw [h x (by simp [Op.operands])]
 | convert a b x => simp only [outR]; rw [h x (by simp [Op.operands])]
 | nilCheck x => simp only [outR]; rw [h x (by simp [Op.operands])]
 | fieldAddr T x f => simp only [outR]; rw [h x (by simp [Op.operands])]
 | field T x f => simp only [outR]; rw [h x (by simp [Op.operands])]
 | load T x => simp only [outR]; rw [h x (by simp [Op.operands])]
 | indexAddr T x i => simp only [outR]; rw [h x (by simp [Op.operands]), h i (by simp [Op.operands])]
 | index T x i => simp only [outR]; rw [h x (by simp [Op.operands]), h i (by simp [Op.operands])]
 | extract t i => simp only [outR]; rw [h t (by simp [Op.operands])]
 | slice T x lo hi mx =>
  cases mx with
  | some _ => rfl
  | none =>
   simp only [outR]
   have e1 : lo.map ev = lo.map ev' := by cases lo with | none => rfl | some l => simp [h l (by simp [Op.operands])]
   have e2 : hi.map ev = hi.map ev' := by cases hi with | none => rfl | some l => simp [h l (by simp [Op.operands])]
   rw [h x (by simp [Op.operands]), e1, e2]
 | makeFunc fn first caps =>
  simp only [outR]
  have : caps.toList.map ev = caps.toList.map ev' := List.map_congr_left fun x hx => h x (by simp [Op.operands]; exact .inr (by simpa using hx))
  rw [this]
 | build T parts =>
  simp only [outR]
  have : parts.toList.map (fun p => (p.1, ev p.2)) = parts.toList.map (fun p => (p.1, ev' p.2)) := List.map_congr_left fun p hp => by rw [h p.2 (by simp [Op.operands]; exact ⟨p.1, by simpa using hp⟩)]
  rw [this]
 | call c =>
  simp only [outR]
  have hargs : ∀ x ∈ c.args.toList, ev x = ev' x := fun x hx => h x (by simp [Op.operands, Call.operands]; exact .inr (by simpa using hx))
  cases c.callee with
  | builtin b =>
   cases b with
   | len =>
    simp only
    split
    ·rename_i x hx; rw [hargs x (by rw [hx]; simp)]
    rfl
   | max =>
    simp only
    split
    ·rename_i x l hx
     have : l.map ev = l.map ev' := List.map_congr_left fun y hy => hargs y (by rw [hx]; simp [hy])
     rw [hargs x (by rw [hx]; simp), this]
    rfl
   | min =>
    simp only
    split
    ·rename_i x l hx
     have : l.map ev = l.map ev' := List.map_congr_left fun y hy => hargs y (by rw [hx]; simp [hy])
     rw [hargs x (by rw [hx]; simp), this]
    rfl
   | _ => rfl
  | _ => rfl
 | _ => rfl
theorem call_eq {c : Call} {f : Operand} (hf : c.callee = .value f) {ev ev' : Operand -> AV} (h : ∀ x ∈ (Op.call c).operands.toList, ev x = ev' x) : ev f = ev' f /\ c.args.toList.map ev = c.args.toList.map ev' :=
 ⟨h f (by simp [Op.operands, Call.operands, hf]), List.map_congr_left fun x hx => h x (by simp [Op.operands, Call.operands]; exact .inr (by simpa using hx))⟩
theorem out0_eq {p : Bool} {op : Op} {ev ev' : Operand -> AV} (h : ∀ x ∈ op.operands.toList, ev x = ev' x) (v : AV) : Out0 P p ev op v = Out0 P p ev' op v := by
 have hr := operands_eq (P := P) h (fun _ => none)
 cases op with
 | buildSlice T len parts =>
  simp only [Out0]
  have : parts.toList.map (fun q => (q.1, ev q.2)) = parts.toList.map (fun q => (q.1, ev' q.2)) := List.map_congr_left fun q hq => by rw [h q.2 (by simp [Op.operands]; exact ⟨q.1, by simpa using hq⟩)]
  rw [this]
 | call c =>
  simp only [Out0]
  cases hc : c.callee with
  | value f =>
   obtain ⟨h1, h2⟩ := call_eq hc h
   simp only
   rw [h1, h2]
  | _ => simp only; rw [hr]
 | _ => simp only [Out0]; rw [hr]
theorem wt_eq {p : Bool} {m : Mem} {op : Op} {ev ev' : Operand -> AV} (h : ∀ x ∈ op.operands.toList, ev x = ev' x) (k : AV -> Mem -> Prop) : WT P p m ev k op = WT P p m ev' k op := by
 cases op with
 | box T x => simp only [WT]; rw [h x (by simp [Op.operands])]
 | store T a x => simp only [WT]; rw [h a (by simp [Op.operands]), h x (by simp [Op.operands])]
 | buildSlice T len parts =>
  simp only [WT]
  have : parts.toList.map (fun q => (q.1, ev q.2)) = parts.toList.map (fun q => (q.1, ev' q.2)) := List.map_congr_left fun q hq => by rw [h q.2 (by simp [Op.operands]; exact ⟨q.1, by simpa using hq⟩)]
  rw [this]
 | makeSlice T l c => simp only [WT]; rw [h l (by simp [Op.operands]), h c (by simp [Op.operands])]
 | call c =>
  simp only [WT]
  cases hc : c.callee with
  | value f =>
   obtain ⟨h1, h2⟩ := call_eq hc h
   simp only
   rw [h1, h2]
  | builtin b =>
   have hargs : ∀ x ∈ c.args.toList, ev x = ev' x := fun x hx => h x (by simp [Op.operands, Call.operands]; exact .inr (by simpa using hx))
   cases b with
   | append =>
    simp only
    split
    ·rename_i x y hxy
     rw [hargs x (by rw [hxy]; simp), hargs y (by rw [hxy]; simp)]
    rfl
   | _ => rfl
  | invoke r n => rfl
 | _ => rfl
theorem appendW_mono {m : Mem} {ts : Array TypeId} {s x : AV} {k k' : AV -> Mem -> Prop} (hk : ∀ v m, k v m -> k' v m) (h : appendW P m k ts s x) : appendW P m k' ts s x := by
 unfold appendW at h ⊢
 split at h
 ·rename_i T U hT hU
  (try rw [hT, hU])
  obtain ⟨hI, h⟩ := h
  refine ⟨hI, ?_⟩
  split at h
  ·rename_i E hE
   (try rw [hE])
   (try simp only)
   split at h
   ·rename_i n b z h1 h2 h3
    (try rw [h1, h2, h3])
    obtain ⟨h4, h5, h6, h⟩ := h
    refine ⟨h4, h5, h6, ?_⟩
    split at h
    ·rename_i ys hys
     (try rw [hys])
     (try simp only)
     split at h
     ·obtain ⟨a, b, c, d⟩ := h
      exact ⟨a, b, fun e => hk _ _ (c e), fun e g cc hg hc => hk _ _ (d e g cc hg hc)⟩
     ·rename_i g l c
      split at h
      ·rename_i hg
       (try rw [hg])
       obtain ⟨a, b, c, d, e, f, h⟩ := h
       exact ⟨a, b, c, d, e, f, fun g' c' h1 h2 => hk _ _ (h g' c' h1 h2)⟩
      exact h.elim
     exact h.elim
    exact h.elim
   exact h.elim
  exact h.elim
 exact h.elim
theorem wt_mono {p : Bool} {m : Mem} {op : Op} {ev : Operand -> AV} {k k' : AV -> Mem -> Prop} (hk : ∀ v m, k v m -> k' v m) (h : WT P p m ev k op) : WT P p m ev k' op := by
 cases op with
 | alloc T =>
  simp only [WT] at h ⊢
  split at h
  ·exact fun g hg => hk _ _ (h g hg)
  exact h.elim
 | box T x =>
  simp only [WT] at h ⊢
  split at h
  ·exact h.elim
  exact fun g hg => hk _ _ (h g hg)
 | store T a x =>
  simp only [WT] at h ⊢
  split at h
  ·exact h.elim
  split at h
  ·obtain ⟨h1, h2, h⟩ := h
   refine ⟨h1, h2, ?_⟩
   split at h
   ·exact hk _ _ h
   exact h.elim
  exact h.elim
 | buildSlice T len parts =>
  simp only [WT] at h ⊢
  split at h
  ·obtain ⟨h1, h2, h3, h4, h⟩ := h
   refine ⟨h1, h2, h3, h4, ?_⟩
   split at h
   ·exact hk _ _ h
   exact h.elim
  exact h.elim
 | makeSlice T l c =>
  simp only [WT] at h ⊢
  split at h
  ·split at h
   ·split at h
    ·obtain ⟨h1, h2, h3, h4, h5, h6, h⟩ := h
     exact ⟨h1, h2, h3, h4, h5, h6, fun g hg => hk _ _ (h g hg)⟩
    exact h.elim
   exact h.elim
  exact h.elim
 | call c =>
  simp only [WT] at h ⊢
  cases hc : c.callee with
  | value f =>
   rw [hc] at h
   simp only at h ⊢
   split at h
   ·cases p with
    | true => obtain ⟨r, h1, h2⟩ := h; exact ⟨r, h1, hk _ _ h2⟩
    | false => exact WCall.mono h hk
   exact h.elim
  | builtin b =>
   rw [hc] at h
   cases b with
   | append =>
    simp only at h ⊢
    split at h
    ·exact appendW_mono hk h
    exact h.elim
   | _ => exact h
  | invoke r n => rw [hc] at h; exact h
 | _ => exact h
theorem aop_mono {p : Bool} {o : Oper} {s : St} {K K' : St -> Prop} (hk : ∀ s, K s -> K' s) (h : AOp P p o s K) : AOp P p o s K' := by
 unfold AOp at h ⊢
 split at h
 ·rename_i v hv; exact hk _ h
 rename_i hv; exact wt_mono (fun v m hh => hk _ hh) h
def GOp (P : Program) (p : Bool) (ops : Array Oper) (o : Oper) (s : St) (K : St -> Prop) : Prop :=
 match wantedA ops o s with
 | some true => AOp P p o s K
 | some false => K (s.put o.dst (.tup []))
 | none => False
theorem gop_mono {p : Bool} {ops : Array Oper} {o : Oper} {s : St} {K K' : St -> Prop} (hk : ∀ s, K s -> K' s) (h : GOp P p ops o s K) : GOp P p ops o s K' := by
 unfold GOp at h ⊢
 split at h
 ·exact aop_mono hk h
 ·exact hk _ h
 exact h
theorem put_reads {ops : Array Oper} {o : Oper} {s : St} {d : Option Tmp} {v : AV} (h : ∀ t, d = some t -> t ∉ readsOf ops o) : (∀ x ∈ o.op.operands.toList, (s.put d v).eval x = s.eval x) /\ wantedA ops o (s.put d v) = wantedA ops o s := by
 refine ⟨fun x hx => put_eval fun t ht hm => h t ht ?_, ?_⟩
 ·unfold readsOf
  exact List.mem_append.2 (.inl (List.mem_flatMap.2 ⟨x, hx, hm⟩))
 unfold wantedA
 cases hg : o.guard with
 | none => rfl
 | some q =>
  obtain ⟨j, want⟩ := q
  simp only
  cases hj : (ops[j]?).bind (·.dst) with
  | none => rfl
  | some t =>
   simp only
   have : (s.put d v).slots t = s.slots t := by
    have := put_eval (s := s) (d := d) (v := v) (x := .tmp t) (fun t' ht' hm => h t' ht' (by
     simp [tmpOf] at hm
     subst hm
     unfold readsOf
     rw [hg]
     show t' ∈ List.flatMap tmpOf o.op.operands.toList ++ ((ops[j]?).bind (·.dst)).toList
     rw [hj]
     simp))
    simpa [St.eval] using this
   rw [this]
def GOut (P : Program) (p : Bool) (ops : Array Oper) (o : Oper) (s : St) (v : AV) : Prop :=
 match wantedA ops o s with
 | some true => if cls p o.op = 0 then Out0 P p s.eval o.op v else outR P s.mem s.eval o.op = some v
 | some false => v = .tup []
 | none => False
theorem gop01 {p : Bool} {ops : Array Oper} {o : Oper} (h : cls p o.op <= 1) (s : St) (K : St -> Prop) : GOp P p ops o s K <-> ∃ v, GOut P p ops o s v /\ K (s.put o.dst v) := by
 unfold GOp GOut
 cases wantedA ops o s with
 | none => simp
 | some b =>
  cases b with
  | false => simp
  | true =>
   simp only
   by_cases h0 : cls p o.op = 0
   ·simp only [h0, if_true]; exact aop0 h0 s K
   simp only [h0, if_false]; exact aop1 (by omega) s K
theorem gop2 {p : Bool} {ops : Array Oper} {o : Oper} (h : cls p o.op = 2) (s : St) (K : St -> Prop) : GOp P p ops o s K <-> (match wantedA ops o s with
  | some true => WT P p s.mem s.eval (fun v m' => K ((s.put o.dst v).withMem m')) o.op | some false => K (s.put o.dst (.tup [])) | none => False) := by
 unfold GOp
 cases wantedA ops o s with
 | none => simp
 | some b =>
  cases b with
  | false => simp
  | true => exact aop2 h s K
theorem put_put {s : St} {d e : Option Tmp} {v u : AV} (h : ∀ t, d = some t -> e ≠ some t) : (s.put d v).put e u = (s.put e u).put d v := by
 cases d with
 | none => rfl
 | some d =>
  cases e with
  | none => rfl
  | some e =>
   have hne : e ≠ d := fun hh => h d rfl (by rw [hh])
   simp only [St.put]
   congr 1
   funext t
   by_cases h1 : t = e
   ·subst h1; simp [hne]
   simp [h1]
theorem gout_put {p : Bool} {ops : Array Oper} {o : Oper} {s : St} {d : Option Tmp} {v : AV} (h : ∀ t, d = some t -> t ∉ readsOf ops o) (u : AV) : GOut P p ops o (s.put d v) u = GOut P p ops o s u := by
 obtain ⟨h1, h2⟩ := put_reads (s := s) (v := v) h
 unfold GOut
 rw [h2, put_mem, out0_eq (P := P) h1, operands_eq (P := P) h1]
theorem gout_mem {p : Bool} {ops : Array Oper} {o : Oper} (h0 : cls p o.op = 0) {s : St} {m : Mem} (u : AV) : GOut P p ops o (s.withMem m) u = GOut P p ops o s u := by
 unfold GOut
 simp only [h0, if_true]
 rfl
structure Apart (p : Nat -> Bool) (ops : Array Oper) (i j : Nat) (a b : Oper) : Prop where
 ab : ∀ t, a.dst = some t -> t ∉ readsOf ops b
 ba : ∀ t, b.dst = some t -> t ∉ readsOf ops a
 dd : ∀ t, a.dst = some t -> b.dst ≠ some t
 c : cls (p i) a.op <= 1 /\ cls (p j) b.op <= 1 ∨ cls (p i) a.op = 0 /\ cls (p j) b.op = 2
theorem gop_swap {p : Nat -> Bool} {ops : Array Oper} {i j : Nat} {a b : Oper} (h : Apart p ops i j a b) {s : St} {K : St -> Prop} (hk : GOp P (p i) ops a s fun s1 => GOp P (p j) ops b s1 K) : GOp P (p j) ops b s fun s1 => GOp P (p i) ops a s1 K := by
 rcases h.c with ⟨ca, cb⟩ | ⟨ca, cb⟩
 ·rw [gop01 ca] at hk
  obtain ⟨v, hv, hk⟩ := hk
  rw [gop01 cb] at hk ⊢
  obtain ⟨u, hu, hk⟩ := hk
  refine ⟨u, by rw [gout_put h.ab] at hu; exact hu, ?_⟩
  rw [gop01 ca]
  refine ⟨v, by rw [gout_put h.ba]; exact hv, ?_⟩
  rw [<- put_put h.dd]; exact hk
 rw [gop01 (by omega)] at hk
 obtain ⟨v, hv, hk⟩ := hk
 rw [gop2 cb] at hk ⊢
 obtain ⟨h1, h2⟩ := put_reads (s := s) (v := v) h.ab
 rw [h2] at hk
 split at hk
 ·rw [put_mem, wt_eq (P := P) h1] at hk
  refine wt_mono (fun u m' hh => ?_) hk
  rw [gop01 (by omega)]
  refine ⟨v, by rw [gout_mem ca, gout_put h.ba]; exact hv, ?_⟩
  rw [withMem_put, <- put_put h.dd]; exact hh
 ·rw [gop01 (by omega)]
  refine ⟨v, by rw [gout_put h.ba]; exact hv, ?_⟩
  rw [<- put_put h.dd]; exact hk
 exact hk
end
section
variable {P : Program}
theorem aops_cons {p : Nat -> Bool} {ops : Array Oper} {K : St -> Prop} {i : Nat} {l : List Nat} {s : St} {o : Oper} (ho : ops[i]? = some o) : AOps P p ops K (i :: l) s = GOp P (p i) ops o s (AOps P p ops K l) := by
 simp only [AOps, ho, GOp]
 try rfl
theorem aops_mono_list {p : Nat -> Bool} {ops : Array Oper} {K : St -> Prop} {l l' : List Nat} (h : ∀ s, AOps P p ops K l s -> AOps P p ops K l' s) (i : Nat) (s : St) (hk : AOps P p ops K (i :: l) s) : AOps P p ops K (i :: l') s := by
 cases ho : ops[i]? with
 | none => simp only [AOps, ho] at hk ⊢; exact h s hk
 | some o => rw [aops_cons ho] at hk ⊢; exact gop_mono h hk
def ApartAt (p : Nat -> Bool) (ops : Array Oper) (i j : Nat) : Prop := ∀ a b, ops[i]? = some a -> ops[j]? = some b -> Apart p ops i j a b
theorem aops_front {p : Nat -> Bool} {ops : Array Oper} {K : St -> Prop} {j : Nat} {l2 : List Nat} : ∀ (l1 : List Nat) (s : St), (∀ i ∈ l1, ApartAt p ops i j) -> AOps P p ops K (l1 ++ j :: l2) s -> AOps P p ops K (j :: (l1 ++ l2)) s
 | [], s, _, hk => hk
 | i :: l1, s, h, hk => by
  have ih : ∀ s, AOps P p ops K (l1 ++ j :: l2) s -> AOps P p ops K (j :: (l1 ++ l2)) s := fun s => aops_front l1 s (fun k hk => h k (by simp [hk]))
  have hk' := aops_mono_list ih i s hk
  have hap := h i (by simp)
  cases hi : ops[i]? with
  | none =>
   simp only [AOps, hi] at hk'
   show AOps P p ops K (j :: i :: (l1 ++ l2)) s
   exact aops_mono_list (l := l1 ++ l2) (fun s hs => by simp only [AOps, hi]; exact hs) j s hk'
  | some a =>
   cases hj : ops[j]? with
   | none =>
    show AOps P p ops K (j :: i :: (l1 ++ l2)) s
    have e : ∀ l, AOps P p ops K (j :: l) = AOps P p ops K l := fun l => by funext s; simp only [AOps, hj]
    rw [e] ; rw [e] at ih
    rw [aops_cons hi] at hk' ⊢
    exact gop_mono (fun s hs => by rw [e] at hs; exact hs) hk'
   | some b =>
    rw [aops_cons hi] at hk'
    have h2 : GOp P (p i) ops a s fun s1 => GOp P (p j) ops b s1 (AOps P p ops K (l1 ++ l2)) := gop_mono (fun s1 hs => by rw [aops_cons hj] at hs; exact hs) hk'
    have h3 := gop_swap (hap a b hi hj) h2
    show AOps P p ops K (j :: i :: (l1 ++ l2)) s
    rw [aops_cons hj]
    exact gop_mono (fun s1 hs => by rw [aops_cons hi]; exact hs) h3
def direct (o : Oper) : List Nat := (o.after.toList.filter fun e => Region.binds .any e).map (·.on)
def ancs : List Oper -> List (List Nat) -> List (List Nat)
 | [], acc => acc
 | o :: l, acc => ancs l (acc ++ [(direct o ++ (direct o).flatMap fun j => acc.getD j []).eraseDups])
def apartB (p : Nat -> Bool) (ops : Array Oper) (i j : Nat) : Bool :=
 match ops[i]?, ops[j]? with
 | some a, some b => (a.dst.toList.all fun t => !(readsOf ops b).contains t) && (b.dst.toList.all fun t => !(readsOf ops a).contains t) && (match a.dst, b.dst with | some t, some u => t != u | _, _ => true) &&
   ((cls (p i) a.op <= 1 && cls (p j) b.op <= 1) || (cls (p i) a.op == 0 && cls (p j) b.op == 2))
 | _, _ => true
theorem apartB_sound {p : Nat -> Bool} {ops : Array Oper} {i j : Nat} (h : apartB p ops i j = true) : ApartAt p ops i j := by
 intro a b ha hb
 unfold apartB at h
 rw [ha, hb] at h
 simp only [Bool.and_eq_true, Bool.or_eq_true, List.all_eq_true, decide_eq_true_eq, beq_iff_eq] at h
 obtain ⟨⟨⟨h1, h2⟩, h3⟩, h4⟩ := h
 refine ⟨fun t ht hm => ?_, fun t ht hm => ?_, fun t ht hu => ?_, h4⟩
 ·have := h1 t (by simp [ht]); simp [hm] at this
 ·have := h2 t (by simp [ht]); simp [hm] at this
 ·rw [ht, hu] at h3; simp at h3
def orderB (p : Nat -> Bool) (ops : Array Oper) : Bool :=
 let an := ancs ops.toList []
 !Region.departs ops && (List.range ops.size).all fun j => (((ops[j]?).map direct).getD []).all (fun e => e < j) && (List.range j).all fun i => (an.getD j []).contains i || apartB p ops i j
theorem ancs_closed (ops : Array Oper) (L : Nat -> Prop) (hL : ∀ j o, ops[j]? = some o -> L j -> ∀ e ∈ direct o, L e) :
  ∀ (l : List Oper) (acc : List (List Nat)) (n : Nat), acc.length = n -> n <= ops.size -> (∀ q, l[q]? = ops[n + q]?) -> (∀ j o, ops[j]? = some o -> (∀ e ∈ direct o, L e) -> ∀ k ∈ acc.getD j [], L k) ->
   ∀ j o, ops[j]? = some o -> (∀ e ∈ direct o, L e) -> ∀ k ∈ (ancs l acc).getD j [], L k
 | [], acc, n, hn, _, hl, h => h
 | o :: l, acc, n, hn, hn2, hl, h => by
  have hlt : n < ops.size := by
   have := hl 0
   simp at this
   exact (Array.getElem?_eq_some_iff.1 this.symm).1
  refine ancs_closed ops L hL l _ (n + 1) (by simp [hn]) hlt (fun q => by have := hl (q + 1); rw [<- Nat.add_assoc, Nat.add_right_comm] at this; simpa using this) ?_
  intro j o' ho' hd k hk
  by_cases hj : j < acc.length
  ·have : (acc ++ [(direct o ++ (direct o).flatMap fun j => acc.getD j []).eraseDups]).getD j [] = acc.getD j [] := by
    simp only [List.getD_eq_getElem?_getD, List.getElem?_append_left hj]
   rw [this] at hk
   exact h j o' ho' hd k hk
  ·by_cases hj2 : j = acc.length
   ·have ho : ops[j]? = some o := by have := hl 0; simp at this; rw [hj2, hn]; exact this.symm
    rw [ho] at ho'
    obtain rfl := Option.some.inj ho'
    have : (acc ++ [(direct o ++ (direct o).flatMap fun j => acc.getD j []).eraseDups]).getD j [] = (direct o ++ (direct o).flatMap fun j => acc.getD j []).eraseDups := by
     simp [List.getD_eq_getElem?_getD, hj2]
    rw [this] at hk
    have hk' := List.mem_eraseDups.1 hk
    rcases List.mem_append.1 hk' with hk' | hk'
    ·exact hd k hk'
    ·obtain ⟨e, he, hke⟩ := List.mem_flatMap.1 hk'
     have hLe := hd e he
     cases hoe : ops[e]? with
     | none =>
      have : acc.getD e [] = [] ∨ True := .inr trivial
      by_cases hea : e < acc.length
      ·rw [Array.getElem?_eq_none_iff] at hoe; omega
      ·simp [List.getD_eq_getElem?_getD, List.getElem?_eq_none (Nat.not_lt.1 hea)] at hke
     | some oe => exact h e oe hoe (hL e oe hoe hLe) k hke
   ·have : (acc ++ [(direct o ++ (direct o).flatMap fun j => acc.getD j []).eraseDups]).getD j [] = [] := by
     simp [List.getD_eq_getElem?_getD]
     rw [List.getElem?_eq_none (by simp; omega)]; rfl
    rw [this] at hk; cases hk
def rem (n : Nat) (listed : Array Bool) : List Nat := (List.range n).filter fun i => !listed.getD i true
theorem rem_set {n : Nat} {listed : Array Bool} (hs : listed.size = n) {i : Nat} {l1 l2 : List Nat} (h : rem n listed = l1 ++ i :: l2) : rem n (listed.setIfInBounds i true) = l1 ++ l2 := by
 have hnd : (l1 ++ i :: l2).Nodup := by rw [<- h]; exact List.Nodup.sublist List.filter_sublist List.nodup_range
 have hi : i ∈ rem n listed := by rw [h]; simp
 have hin : i < n := List.mem_range.1 (List.mem_filter.1 hi).1
 have e1 : rem n (listed.setIfInBounds i true) = (rem n listed).filter fun k => k != i := by
  unfold rem
  rw [List.filter_filter]
  apply List.filter_congr
  intro k hk
  have hkn := List.mem_range.1 hk
  by_cases hki : k = i
  ·subst hki
   simp [Array.getD_eq_getD_getElem?, hs, hkn]
  ·simp [Array.getD_eq_getD_getElem?, Array.getElem?_setIfInBounds_ne (Ne.symm hki), hki]
 rw [e1, h, List.filter_append, List.filter_cons]
 have h1 : ∀ k ∈ l1, (k != i) = true := fun k hk => by
  rw [bne_iff_ne]; rintro rfl
  exact (List.nodup_append.1 hnd).2.2 k hk k (by simp) rfl
 have h2 : ∀ k ∈ l2, (k != i) = true := fun k hk => by
  rw [bne_iff_ne]; rintro rfl
  exact (List.nodup_cons.1 (List.nodup_append.1 hnd).2.1).1 hk
 rw [List.filter_eq_self.2 h1, List.filter_eq_self.2 h2]
 simp
theorem linear_sound {p : Nat -> Bool} {ops : Array Oper} {K : St -> Prop} (hB : orderB p ops = true) : ∀ (fuel t : Nat) (listed : Array Bool) (acc : List Nat), listed.size = ops.size -> fuel = (rem ops.size listed).length ->
  (∀ (j : Nat) (o : Oper), ops[j]? = some o -> listed.getD j true = true -> ∀ e ∈ direct o, listed.getD e true = true) ->
  ∃ π, Region.linearise.go .any ops fuel t listed acc = acc.reverse ++ π /\ ∀ s, AOps P p ops K (rem ops.size listed) s -> AOps P p ops K π s := by
 intro fuel
 induction fuel with
 | zero =>
  intro t listed acc hs hf hc
  have : rem ops.size listed = [] := List.eq_nil_of_length_eq_zero hf.symm
  rw [this]
  exact ⟨[], by simp [Region.linearise.go], fun s hk => hk⟩
 | succ fuel ih =>
  intro t listed acc hs hf hc
  unfold orderB at hB
  simp only [Bool.and_eq_true, List.all_eq_true, List.mem_range, decide_eq_true_eq, Bool.or_eq_true] at hB
  obtain ⟨hdep, hB⟩ := hB
  have hready : ∀ (i : Nat) (o : Oper), ops[i]? = some o -> (((ops[i]?).map (·.after.all fun e => !Region.binds .any e || listed.getD e.on false)).getD false = true <-> ∀ e ∈ direct o, listed.getD e false = true) := by
   intro i o ho
   rw [ho]
   simp only [Option.map_some, Option.getD_some, Array.all_eq_true', direct, List.mem_map, List.mem_filter]
   constructor
   ·rintro h e ⟨x, ⟨hx, hb⟩, rfl⟩
    have := h x (by simpa using hx)
    simpa [hb] using this
   ·intro h x hx
    cases hb : Region.binds .any x with
    | false => rfl
    | true => simpa using h x.on ⟨x, ⟨by simpa using hx, hb⟩, rfl⟩
  unfold Region.linearise.go
  simp only
  generalize hrs : ((List.range ops.size).filter fun i => !listed.getD i true && ((ops[i]?).map (·.after.all fun e => !Region.binds .any e || listed.getD e.on false)).getD false) = rs
  have hmem : ∀ i, i ∈ rs -> i ∈ rem ops.size listed /\ ∃ o, ops[i]? = some o /\ ∀ e ∈ direct o, listed.getD e false = true := by
   intro i hi
   rw [<- hrs] at hi
   obtain ⟨h1, h2⟩ := List.mem_filter.1 hi
   simp only [Bool.and_eq_true] at h2
   refine ⟨List.mem_filter.2 ⟨h1, h2.1⟩, ?_⟩
   have hlt := List.mem_range.1 h1
   exact ⟨ops[i], by simp [hlt], (hready i _ (by simp [hlt])).1 h2.2⟩
  have hne : rs ≠ [] := by
   -- the least that is not listed is ready
   have hrem : rem ops.size listed ≠ [] := by intro h; rw [h] at hf; simp at hf
   obtain ⟨i, l, hil⟩ := List.exists_cons_of_ne_nil hrem
   have hi : i ∈ rem ops.size listed := by rw [hil]; simp
   have hin := List.mem_range.1 (List.mem_filter.1 hi).1
   have hiu := (List.mem_filter.1 hi).2
   have hleast : ∀ k, k < i -> listed.getD k true = true := by
    intro k hki
    cases hk' : listed.getD k true with
    | true => rfl
    | false =>
     have hkm : k ∈ rem ops.size listed := List.mem_filter.2 ⟨List.mem_range.2 (by omega), by simp [hk']⟩
     have hp : (rem ops.size listed).Pairwise (· < ·) := List.Pairwise.filter _ List.pairwise_lt_range
     rw [hil] at hp hkm
     rcases List.mem_cons.1 hkm with rfl | hkm
     ·omega
     ·have := (List.pairwise_cons.1 hp).1 k hkm; omega
   intro hnil
   have : i ∈ rs := by
    rw [<- hrs]
    refine List.mem_filter.2 ⟨List.mem_range.2 hin, ?_⟩
    simp only [Bool.and_eq_true]
    refine ⟨hiu, (hready i ops[i] (by simp [hin])).2 fun e he => ?_⟩
    have hlt : e < i := by
     have := (hB i hin).1 e
     simp [hin] at this
     exact this he
    have := hleast e hlt
    simp only [Array.getD_eq_getD_getElem?] at this ⊢
    rw [show listed[e]? = some (listed[e]'(by omega)) from by simp] at this ⊢
    simpa using this
   rw [hnil] at this; cases this
  have hpos : 0 < rs.length := List.length_pos_iff.2 hne
  have hlt : t % rs.length < rs.length := Nat.mod_lt _ hpos
  rw [List.getElem?_eq_getElem hlt]
  simp only
  obtain ⟨hi, o, ho, hd⟩ := hmem _ (List.getElem_mem hlt)
  generalize rs[t % rs.length] = i at *
  obtain ⟨l1, l2, hl⟩ := List.append_of_mem hi
  have hset := rem_set hs hl
  have hin := List.mem_range.1 (List.mem_filter.1 hi).1
  have hlisted : ∀ e, listed.getD e false = true -> listed.getD e true = true := by
   intro e he
   simp only [Array.getD_eq_getD_getElem?] at he ⊢
   cases hq : listed[e]? with
   | none => rfl
   | some b => rw [hq] at he; simpa using he
  have hap : ∀ k ∈ l1, ApartAt p ops k i := by
   intro k hk1
   have hkm : k ∈ rem ops.size listed := by rw [hl]; simp [hk1]
   have hp : (rem ops.size listed).Pairwise (· < ·) := List.Pairwise.filter _ List.pairwise_lt_range
   rw [hl] at hp
   have hki : k < i := (List.pairwise_append.1 hp).2.2 k hk1 i (by simp)
   rcases ((hB i hin).2 k hki) with h | h
   ·have hclosed := ancs_closed ops (fun e => listed.getD e true = true) hc ops.toList [] 0 rfl (Nat.zero_le _) (fun q => by simp) (fun j o _ _ k hk => by simp [List.getD_eq_getElem?_getD] at hk) i o ho (fun e he => hlisted e (hd e he)) k (by simpa using h)
    have := (List.mem_filter.1 hkm).2
    rw [hclosed] at this; cases this
   ·exact apartB_sound h
  -- behind i, the rest
  have hc' : ∀ (j : Nat) (o' : Oper), ops[j]? = some o' -> (listed.setIfInBounds i true).getD j true = true -> ∀ e ∈ direct o', (listed.setIfInBounds i true).getD e true = true := by
   intro j o' ho' hj e he
   have key : ∀ q, listed.getD q true = true -> (listed.setIfInBounds i true).getD q true = true := by
    intro q hq
    by_cases hqi : q = i
    ·subst hqi; simp [Array.getD_eq_getD_getElem?]
    ·simpa [Array.getD_eq_getD_getElem?, Array.getElem?_setIfInBounds_ne (Ne.symm hqi)] using hq
   by_cases hji : j = i
   ·subst hji
    rw [ho] at ho'
    obtain rfl := Option.some.inj ho'
    exact key e (hlisted e (hd e he))
   ·have : listed.getD j true = true := by simpa [Array.getD_eq_getD_getElem?, Array.getElem?_setIfInBounds_ne (Ne.symm hji)] using hj
    exact key e (hc j o' ho' this e he)
  obtain ⟨π, hgo, hπ⟩ := ih (t / rs.length) (listed.setIfInBounds i true) (i :: acc) (by simpa using hs) (by rw [hset]; rw [hl] at hf; simp at hf ⊢; omega) hc'
  refine ⟨i :: π, by rw [hgo]; simp, fun s hk => ?_⟩
  rw [hl] at hk
  have hk2 := aops_front l1 s hap hk
  rw [hset] at hπ
  exact aops_mono_list hπ i s hk2
theorem schedule_sound {p : Nat -> Bool} {ops : Array Oper} {K : St -> Prop} (hB : orderB p ops = true) (mixed : Bool) (t : Nat) (s : St) (hk : AOps P p ops K (List.range ops.size) s) : AOps P p ops K (Region.schedule mixed ops t) s := by
 have hdep : Region.departs ops = false := by
  unfold orderB at hB
  simp only [Bool.and_eq_true] at hB
  simpa using hB.1
 have hsch : Region.schedule mixed ops t = Region.linearise .any ops t := by
  unfold Region.schedule
  rw [hdep]; simp
 rw [hsch]
 have hrem : rem ops.size (Array.replicate ops.size false) = List.range ops.size := by
  unfold rem
  rw [List.filter_eq_self]
  intro i hi
  have := List.mem_range.1 hi
  simp [Array.getD_eq_getD_getElem?, this]
 obtain ⟨π, hgo, hπ⟩ := linear_sound (P := P) (K := K) hB ops.size t (Array.replicate ops.size false) [] (by simp) (by rw [hrem]; simp) (fun j o ho hj => by
  have hlt := (Array.getElem?_eq_some_iff.1 ho).1
  simp [Array.getD_eq_getD_getElem?, hlt] at hj)
 unfold Region.linearise
 rw [hgo, List.reverse_nil, List.nil_append]
 exact hπ s (by rw [hrem]; exact hk)
end
section
variable {P : Program}
def Lift (C : Ctx) (N : Nat) (Q : Exit -> St -> Prop) : Exit -> Act -> World -> Prop := fun e a w => ∃ s, Q e s /\ Rel C s a w /\ a.tmps.size = N
def AWp (P : Program) (N : Nat) (c : Code) (Q : Exit -> St -> Prop) (s : St) : Prop := ∀ (C : Ctx) (a : Act) (w : World), Rel C s a w -> a.tmps.size = N -> c.wp P (Lift C N Q) a w
theorem AWp.mono {N : Nat} {c : Code} {Q Q' : Exit -> St -> Prop} {s : St} (h : AWp P N c Q s) (hq : ∀ e s, Q e s -> Q' e s) : AWp P N c Q' s :=
 fun C a w hr hN => Code.wp_mono (fun e a w ⟨s', h1, h2⟩ => ⟨s', hq _ _ h1, h2⟩) (h C a w hr hN)
theorem AWp.skip {N : Nat} {Q : Exit -> St -> Prop} {s : St} (h : Q .normal s) : AWp P N .skip Q s := fun C a w hr hN => wp_skip ⟨s, h, hr, hN⟩
theorem AWp.ret {N : Nat} {Q : Exit -> St -> Prop} {s : St} (h : Q .ret s) : AWp P N .ret Q s := fun C a w hr hN => wp_ret ⟨s, h, hr, hN⟩
theorem AWp.exit {N : Nat} {id : Nat} {Q : Exit -> St -> Prop} {s : St} (h : Q (.exit id) s) : AWp P N (.exit id) Q s := fun C a w hr hN => wp_exit ⟨s, h, hr, hN⟩
def thenA (R : St -> Prop) (Q : Exit -> St -> Prop) : Exit -> St -> Prop
 | .normal, s => R s
 | e, s => Q e s
theorem AWp.seq {N : Nat} {x y : Code} {Q : Exit -> St -> Prop} {s : St} (h : AWp P N x (thenA (AWp P N y Q) Q) s) : AWp P N (.seq x y) Q s := fun C a w hr hN =>
 wp_seq (Code.wp_mono (fun e a' w' ⟨s', h1, h2, h3⟩ => by
  cases e with
  | normal => exact h1 C a' w' h2 h3
  | _ => exact ⟨s', h1, h2, h3⟩) (h C a w hr hN))
theorem eval_bool {C : Ctx} {s : St} {a : Act} {w : World} (hr : Rel C s a w) {c : Operand} {b : Bool} (h : s.eval c = .bool b) : a.eval c = .bool b := by
 obtain ⟨S, _, _, hsl⟩ := hr.ex
 have := eval_rep hsl c
 rw [h] at this
 generalize a.eval c = v at this
 cases this; rfl
theorem AWp.cond {N : Nat} {c : Operand} {x y : Code} {Q : Exit -> St -> Prop} {s : St} {b : Bool} (hc : s.eval c = .bool b) (ht : b = true -> AWp P N x Q s) (hf : b = false -> AWp P N y Q s) : AWp P N (.cond c x y) Q s := fun C a w hr hN => by
 refine wp_cond (eval_bool hr hc) ?_
 cases b
 ·exact hf rfl C a w hr hN
 exact ht rfl C a w hr hN
def blockA (id : Nat) (Q : Exit -> St -> Prop) : Exit -> St -> Prop
 | .exit id', s => if id' = id then Q .normal s else Q (.exit id') s
 | e, s => Q e s
theorem AWp.block {N : Nat} {id : Nat} {c : Code} {Q : Exit -> St -> Prop} {s : St} (h : AWp P N c (blockA id Q) s) : AWp P N (.block id c) Q s := fun C a w hr hN =>
 wp_block (Code.wp_mono (fun e a' w' ⟨s', h1, h2, h3⟩ => by
  cases e with
  | exit id' =>
   simp only [blockA, Exit.inBlock] at h1 ⊢
   split <;> rename_i hi
   ·rw [if_pos hi] at h1; exact ⟨s', h1, h2, h3⟩
   rw [if_neg hi] at h1; exact ⟨s', h1, h2, h3⟩
  | _ => exact ⟨s', h1, h2, h3⟩) (h C a w hr hN))
theorem AWp.loop {N : Nat} {c : Code} {Q : Exit -> St -> Prop} {s : St} (I : Nat -> St -> Prop) (n : Nat) (h0 : I n s) (round : ∀ n s, I n s -> AWp P N c (thenA (fun s' => ∃ m, m < n /\ I m s') Q) s) : AWp P N (.loop c) Q s := by
 intro C a w hr hN b k cs
 have key : ∀ n s a w, I n s -> Rel C s a w -> a.tmps.size = N ->
   ∃ e a' w', Lift C N Q e a' w' /\ Arrives P (lone (b.at a (.code c :: .inLoop c :: k)) cs w) b k cs e a' w' := by
  intro n
  induction n using Nat.strongRecOn with
  | _ n ih =>
   intro s a w hI hr hN
   obtain ⟨e, a₁, w₁, ⟨s₁, hq, hr₁, hN₁⟩, harr⟩ := round n s hI C a w hr hN b (.inLoop c :: k) cs
   cases e with
   | normal =>
    obtain ⟨m, hlt, hI₁⟩ := hq
    obtain ⟨e₂, a₂, w₂, hq₂, harr₂⟩ := ih m hlt s₁ a₁ w₁ hI₁ hr₁ hN₁
    exact ⟨e₂, a₂, w₂, hq₂, .of_steps (Steps.trans harr (.one step_inLoop)) harr₂⟩
   | exit id => exact ⟨_, a₁, w₁, ⟨s₁, hq, hr₁, hN₁⟩, .pass (x := .inLoop c) rfl (fun _ _ => .inl (by simp)) harr⟩
   | goto l => exact ⟨_, a₁, w₁, ⟨s₁, hq, hr₁, hN₁⟩, .pass (x := .inLoop c) rfl (fun _ _ => .inl (by simp)) harr⟩
   | ret => exact ⟨_, a₁, w₁, ⟨s₁, hq, hr₁, hN₁⟩, .pass (x := .inLoop c) rfl (fun _ _ => .inl (by simp)) harr⟩
   | panic ch => exact ⟨_, a₁, w₁, ⟨s₁, hq, hr₁, hN₁⟩, .pass (x := .inLoop c) rfl (fun _ _ => .inl (by simp)) harr⟩
   | outgrown => exact ⟨_, a₁, w₁, ⟨s₁, hq, hr₁, hN₁⟩, .pass (x := .inLoop c) rfl (fun _ _ => .inl (by simp)) harr⟩
 obtain ⟨e, a', w', hq, harr⟩ := key n s a w h0 hr hN
 exact ⟨e, a', w', hq, .of_steps (.one step_loop) harr⟩
def AOpsL (P : Program) (p : Nat -> Bool) (ops : Array Oper) (K : St -> Prop) : Nat -> List Oper -> St -> Prop
 | _, [], s => K s
 | i, o :: l, s => GOp P (p i) ops o s (AOpsL P p ops K (i + 1) l)
theorem aopsL_eq {p : Nat -> Bool} {ops : Array Oper} {K : St -> Prop} : ∀ (l : List Oper) (i : Nat), (∀ j, l[j]? = ops[i + j]?) -> AOps P p ops K (List.range' i l.length) = AOpsL P p ops K i l
 | [], i, _ => rfl
 | o :: l, i, h => by
  have h0 : ops[i]? = some o := by simpa using (h 0).symm
  have ih := aopsL_eq (p := p) (K := K) l (i + 1) (fun j => by have := h (j + 1); simpa [Nat.add_assoc, Nat.add_comm 1 j] using this)
  funext s
  simp only [List.length_cons, List.range'_succ, AOpsL]
  rw [aops_cons h0, ih]
def dstB (N : Nat) (ops : Array Oper) : Bool := ops.all fun o => match o.dst with | some d => d < N | none => true
def regB (N : Nat) (p : Nat -> Bool) (ops : Array Oper) (draw : Bool) : Bool := dstB N ops && (!draw || orderB p ops)
theorem AWp.region {N : Nat} {id : Nat} {ops : Array Oper} {draw : Bool} {Q : Exit -> St -> Prop} {s : St} (p : Nat -> Bool) (hB : regB N p ops draw = true) (h : AOpsL P p ops (Q .normal) 0 ops.toList s) : AWp P N (.region id ops draw) Q s := by
 intro C a w hr hN
 unfold regB at hB
 simp only [Bool.and_eq_true, Bool.or_eq_true] at hB
 obtain ⟨hd, ho⟩ := hB
 have hb : ∀ (j : Nat) (d : Tmp), (ops[j]?).bind (·.dst) = some d -> d < N := by
  intro j d hj
  unfold dstB at hd
  rw [Array.all_eq_true'] at hd
  cases hq : ops[j]? with
  | none => rw [hq] at hj; cases hj
  | some o =>
   rw [hq] at hj
   have := hd o (Array.mem_of_getElem? hq)
   simp at hj
   rw [hj] at this
   simpa using this
 rw [<- aopsL_eq ops.toList 0 (fun j => by simp), Array.length_toList, <- List.range_eq_range'] at h
 have hQ : NextOk C (Q .normal) N (Lift C N Q .normal) := fun s a w h1 h2 h3 => ⟨s, h1, h2, h3⟩
 cases draw with
 | false => exact wp_region (aops_sound hb hQ _ s a w hr hN h)
 | true =>
  have ho' : orderB p ops = true := by simpa using ho
  refine wp_region_draw fun t => ?_
  refine aops_sound hb hQ _ s a _ ?_ hN (schedule_sound ho' _ t s h)
  obtain ⟨S, h1, h2, h3⟩ := hr.ex
  exact ⟨⟨S, h1, memRep_drew h2 _, fun t => Rep.mono (w := w) (w' := { w with drawn := w.drawn + 1 }) (fun _ _ => rfl) (fun _ h => h) (h3 t)⟩, hr.defers, hr.keep.drew _, hr.dom⟩
def View (m : Mem) (r : AV) (m' : Mem) (r' : AV) : Prop :=
 ∀ w S v, MemRep w S m -> Rep w S r v -> ∃ S', (∀ b, S b -> S' b) /\ (∀ b, S' b -> S b ∨ m b ≠ none) /\ MemRep w S' m' /\ Rep w S' r' v /\ ∀ g b, m' g = some b -> m g ≠ none
theorem View.refl (m : Mem) (r : AV) : View m r m r := fun w S v h1 h2 => ⟨S, fun _ h => h, fun _ h => .inl h, h1, h2, fun g b h => by rw [h]; simp⟩
theorem View.trans {m m1 m2 : Mem} {r r1 r2 : AV} (h : View m r m1 r1) (k : View m1 r1 m2 r2) : View m r m2 r2 := fun w S v h1 h2 => by
 obtain ⟨S1, a1, a2, a3, a4, a5⟩ := h w S v h1 h2
 obtain ⟨S2, b1, b2, b3, b4, b5⟩ := k w S1 v a3 a4
 refine ⟨S2, fun b hb => b1 b (a1 b hb), fun b hb => ?_, b3, b4, fun g b hg => ?_⟩
 ·rcases b2 b hb with h | h
  ·exact a2 b h
  cases hq : m1 b with
  | none => exact absurd hq h
  | some x => exact .inr (a5 b x hq)
 cases hq : m1 g with
 | none => exact absurd hq (b5 g b hg)
 | some x => exact a5 g x hq
theorem View.forget {m m' : Mem} (h : ∀ g b, m' g = some b -> m g = some b) (r : AV) : View m r m' r := fun w S v h1 h2 =>
 ⟨S, fun _ h => h, fun _ h => .inl h, ⟨fun g b hg => h1.blk g b (h g b hg), fun b hb => ⟨(by
  cases hq : m' b with
  | none => rfl
  | some x => have := (h1.apart b hb).1; rw [h b x hq] at this; cases this), (h1.apart b hb).2⟩⟩, h2, fun g b hg => by rw [h g b hg]; simp⟩
theorem View.freeze {m : Mem} {g n c e : Nat} {T : TypeId} {xs : List AV} (hg : m g = some (.arr T e c xs)) (hn : xs.length = n) : View m (.own g n c) (m.del g) (.lst false e xs) := fun w S v h1 h2 => by
 obtain ⟨vs, us, hb, hr, hl, he, hle⟩ := h1.blk g _ hg
 have hSS : ∀ b, S b -> S b ∨ b = g := fun b hb => .inl hb
 refine ⟨fun b => S b ∨ b = g, hSS, fun b hb => hb.imp id (fun h => by rw [h, hg]; simp), ⟨fun g' b' hg' => ?_, fun b hb => ?_⟩, ?_, fun g' b' hg' => ?_⟩
 ·unfold Mem.del at hg'
  split at hg'
  ·cases hg'
  exact (h1.blk g' b' hg').mono (fun _ _ => rfl) hSS rfl
 ·rcases hb with hb | rfl
  ·refine ⟨?_, (h1.apart b hb).2⟩
   unfold Mem.del
   split
   ·rfl
   exact (h1.apart b hb).1
  exact ⟨by simp [Mem.del], (Array.getElem?_eq_some_iff.1 hb).1⟩
 ·cases h2
  subst hn
  exact .lst false e g 0 c (.inr rfl) he hle (fun h => by cases h) (Cells.of_block hb (hr.mono (fun _ _ => rfl) hSS) 0 (fun i v hv => by
   have : i < vs.length := (List.getElem?_eq_some_iff.1 hv).1
   simp [List.getElem?_append_left this, hv]))
 unfold Mem.del at hg'
 split at hg'
 ·cases hg'
 rw [hg']; simp
def resA (P : Program) (m : Mem) (slots : Nat -> AV) : List ResultVar -> Option (List AV)
 | [] => some []
 | .tmp t :: l => match resA P m slots l with | some vs => some (slots t :: vs) | none => none
 | .cell a t :: l => match loadA P m t (slots a), resA P m slots l with | some v, some vs => some (v :: vs) | _, _ => none
def resF (tmps : Array Value) : ResultVar -> Sem Value
 | .tmp t => pure (tmps.getD t undef)
 | .cell b t => do loadVar t (<- asAddr (tmps.getD b undef))
theorem results_eq (fn : Func) (tmps : Array Value) : results fn tmps = (fn.results.mapM (resF tmps) >>= fun vs => pure (if h : vs.size = 1 then vs[0] else .tuple vs)) := by
 unfold results
 congr 2
theorem resA_sound {w : World} {S : Nat -> Prop} {m : Mem} (hm : MemRep w S m) {s : St} (hs : s.mem = m) {a : Act} (hsl : ∀ t, Rep w S (s.slots t) (a.tmps.getD t undef)) : ∀ (l : List ResultVar) (vs : List AV), resA P m s.slots l = some vs ->
  ∃ us, (l.mapM (resF a.tmps)).run P w = .ok us w /\ Reps w S vs us
 | [], vs, h => by
  obtain rfl := Option.some.inj h
  exact ⟨[], rfl, .nil⟩
 | .tmp t :: l, vs, h => by
  simp only [resA] at h
  split at h
  ·rename_i vs' hv
   obtain rfl := Option.some.inj h
   obtain ⟨us, h1, h2⟩ := resA_sound hm hs hsl l vs' hv
   refine ⟨_ :: us, ?_, .cons (hsl t) h2⟩
   rw [List.mapM_cons]
   simp only [resF, pure_bind, Sem.run_bind, h1, Result.andThen_ok, Sem.run_pure]
  cases h
 | .cell b t :: l, vs, h => by
  simp only [resA] at h
  split at h
  ·rename_i v vs' hv hvs
   obtain rfl := Option.some.inj h
   obtain ⟨us, h1, h2⟩ := resA_sound hm hs hsl l vs' hvs
   obtain ⟨u, h3, h4⟩ := loadA_sound (P := P) hm (hsl b) hv
   refine ⟨u :: us, ?_, .cons h4 h2⟩
   have h5 : (resF a.tmps (.cell b t)).run P w = .ok u w := by
    show ((do loadVar t (<- asAddr (a.tmps.getD b undef))) : Sem Value).run P w = .ok u w
    generalize a.tmps.getD b undef = q at h3 ⊢
    cases q with
    | pointer o =>
     cases o with
     | none => simp [Instr.loadAt, Instr.sureAddr] at h3
     | some ad => simpa [Instr.loadAt, Instr.sureAddr, asAddr] using h3
    | _ => simp [Instr.loadAt, Instr.sureAddr] at h3
   rw [List.mapM_cons]
   rw [run_ok h5]
   simp only [Sem.run_bind, h1, Result.andThen_ok, Sem.run_pure]
  cases h
def oneOf : List AV -> AV
 | [v] => v
 | vs => .tup vs
def Post (P : Program) (fn : Func) (k : AV -> Mem -> Prop) : Exit -> St -> Prop
 | .normal, s | .ret, s => ∃ vs r m', resA P s.mem s.slots fn.results.toList = some vs /\ View s.mem (oneOf vs) m' r /\ k r m'
 | _, _ => False
theorem results_sound {w : World} {S : Nat -> Prop} {s : St} (hm : MemRep w S s.mem) {a : Act} (hsl : ∀ t, Rep w S (s.slots t) (a.tmps.getD t undef)) {fn : Func} {vs : List AV} (h : resA P s.mem s.slots fn.results.toList = some vs) :
  ∃ v, (results fn a.tmps).run P w = .ok v w /\ Rep w S (oneOf vs) v := by
 obtain ⟨us, h1, h2⟩ := resA_sound (P := P) hm rfl hsl _ _ h
 have hl := h2.length
 have hrun : (fn.results.mapM (resF a.tmps)).run P w = .ok us.toArray w := by
  rw [<- Array.toArray_toList (xs := fn.results), List.mapM_toArray]
  simp only [Sem.run_map, h1, Result.andThen_ok]
 rw [results_eq, run_ok hrun]
 cases vs with
 | nil => cases h2; exact ⟨_, rfl, .tup .nil⟩
 | cons v vs =>
  cases h2 with
  | cons hv ht =>
   cases vs with
   | nil => cases ht; exact ⟨_, rfl, hv⟩
   | cons v' vs =>
    cases ht with
    | cons hv' ht => exact ⟨_, by simp, .tup (.cons hv (.cons hv' ht))⟩
def St.init (args : List AV) (m : Mem) : St := ⟨fun t => args.getD t (.tup []), m⟩
theorem init_rep {w : World} {S : Nat -> Prop} {args : List AV} {cargs : List Value} (h : Reps w S args cargs) (k : Nat) (m : Mem) : ∀ t, Rep w S ((St.init args m).slots t) ((cargs.toArray ++ Array.replicate k undef).getD t undef) := by
 intro t
 have hu : Rep w S (.tup []) undef := Rep.tup .nil
 have hl := h.length
 simp only [St.init, List.getD_eq_getElem?_getD, Array.getD_eq_getD_getElem?]
 by_cases ht : t < args.length
 ·obtain ⟨v, hv, hr⟩ := h.get t args[t] (List.getElem?_eq_getElem ht)
  rw [List.getElem?_eq_getElem ht, Array.getElem?_append_left (by simp; omega)]
  simp [hv]; exact hr
 rw [List.getElem?_eq_none (by omega)]
 rw [Array.getElem?_append_right (by simp; omega)]
 by_cases h2 : t - cargs.toArray.size < k
 ·rw [Array.getElem?_replicate]; simp [h2]; split <;> exact hu
 rw [Array.getElem?_eq_none (by simp at h2 ⊢; omega)]; exact hu
theorem wcall_of {n : FuncId} {fn : Func} {c : Code} (hf : P.funcs[n]? = some fn) (hname : (fn.name == "runtime.NumGoroutine") = false) (hb : fn.body = some c) {args : List AV} (hN : args.length <= fn.ntmps) {m : Mem} {k : AV -> Mem -> Prop}
  (h : AWp P fn.ntmps c (Post P fn k) (St.init args m)) : WCall P n args m k := by
 refine ⟨⟨fn, hf, hname, by rw [hb]; rfl⟩, fun w S cargs hm hr => ?_⟩
 have hl := hr.length
 refine calls_of_wp hf hb ?_
 let C : Ctx := ⟨w, fun g => m g ≠ none, S⟩
 have hrel : Rel C (St.init args m) { tmps := cargs.toArray ++ Array.replicate (fn.ntmps - cargs.toArray.size) undef, defers := [] } w :=
  ⟨⟨S, ⟨fun _ h => h, fun _ h => .inl h⟩, hm, init_rep hr _ m⟩, rfl, Keep.refl _ _, fun g b hg => .inl (by show m g ≠ none; rw [show m g = some b from hg]; simp)⟩
 refine Code.wp_mono ?_ (h C _ w hrel (by simp; omega))
 rintro e a' w' ⟨s, hpost, hrel', hN'⟩
 obtain ⟨S', hS, hm', hsl⟩ := hrel'.ex
 have fin : (∃ vs r m', resA P s.mem s.slots fn.results.toList = some vs /\ View s.mem (oneOf vs) m' r /\ k r m') -> a'.defers = [] /\ ∃ v, (results fn a'.tmps).run P w' = .ok v w' /\ ∃ v' r m'' S'', Ending.returned v = .returned v' /\ k r m'' /\ (∀ b, S b -> S'' b) /\ (∀ b, S'' b -> S b ∨ m b ≠ none ∨ w.heap.size <= b) /\ MemRep w' S'' m'' /\ Rep w' S'' r v' /\ Keep (fun g => m g ≠ none) w w' /\ (∀ g b, m'' g = some b -> m g ≠ none ∨ w.heap.size <= g) := by
  rintro ⟨vs, r, m', h1, h2, h3⟩
  obtain ⟨v, hv, hrv⟩ := results_sound (P := P) hm' hsl h1
  obtain ⟨S'', q1, q2, q3, q4, q5⟩ := h2 w' S' v hm' hrv
  have hD : ∀ b, s.mem b ≠ none -> m b ≠ none ∨ w.heap.size <= b := fun b hb => by
   cases hq : s.mem b with
   | none => exact absurd hq hb
   | some x => exact hrel'.dom b x hq
  refine ⟨hrel'.defers, v, hv, v, r, m', S'', rfl, h3, fun b hb => q1 b (hS.1 b hb), fun b hb => ?_, q3, q4, hrel'.keep, fun g b hg => hD g (q5 g b hg)⟩
  rcases q2 b hb with h | h
  ·exact hS.2 b h
  exact .inr (hD b h)
 cases e with
 | normal => exact fin hpost
 | ret => exact fin hpost
 | _ => exact hpost.elim
theorem pO {n : FuncId} {fn : Func} {c : Code} (hf : P.funcs[n]? = some fn) (hname : (fn.name == "runtime.NumGoroutine") = false) (hb : fn.body = some c) {args : List AV} (hN : args.length <= fn.ntmps) {r : AV}
  (h : AWp P fn.ntmps c (Post P fn fun r' _ => r' = r) (St.init args fun _ => none)) : PCall P n args r := by
 have hw := wcall_of hf hname hb hN h
 refine ⟨hw.1, fun w S cargs m hm hr => ?_⟩
 have hm0 : MemRep w S (fun _ => none) := ⟨(fun g b h => by cases h), fun b hb => ⟨rfl, (hm.apart b hb).2⟩⟩
 refine calls_mono (hw.2 w S cargs hm0 hr) ?_
 rintro e w' ⟨v, r', m', S', rfl, rfl, h1, h2, h3, h4, h5, h6⟩
 have hk : Keep (fun _ => False) w w' := h5.mono (fun b h => absurd rfl h)
 refine ⟨v, S', rfl, h1, fun b hb => (h2 b hb).imp id (fun h => h.elim (fun h => absurd rfl h) id), ⟨fun g b hg => ?_, fun b hb => ?_⟩, h4, hk⟩
 ·have hlt := (hm.blk g b hg).lt
  exact (hm.blk g b hg).mono (fun b' hb' => hk.block b' (hm.apart b' hb').2 id) h1 (hk.block g hlt id)
 refine ⟨?_, (h3.apart b hb).2⟩
 rcases h2 b hb with h | h | h
 ·exact (hm.apart b h).1
 ·exact absurd rfl h
 cases hq : m b with
 | none => rfl
 | some x => have := (hm.blk b x hq).lt; omega
end
section
variable {P : Program}
theorem size_list (x : ByteArray) : x.size = x.data.toList.length := by rw [Array.length_toList]; rfl
theorem toList_loop (x : ByteArray) : ∀ (n i : Nat) (r : List UInt8), x.size - i = n -> ByteArray.toList.loop x i r = r.reverse ++ x.data.toList.drop i
 | 0, i, r, h => by
  rw [ByteArray.toList.loop]
  have : ¬ i < x.size := by omega
  rw [if_neg this, List.drop_eq_nil_of_le (by have := size_list x; omega)]
  simp
 | n + 1, i, r, h => by
  rw [ByteArray.toList.loop]
  have hi : i < x.size := by omega
  have hl : i < x.data.toList.length := by have := size_list x; omega
  rw [if_pos hi, toList_loop x n (i + 1) _ (by omega), List.drop_eq_getElem_cons hl]
  have : x.get! i = x.data.toList[i] := by
   simp only [ByteArray.get!]
   rw [getElem!_pos x.data i (show i < x.data.size from hi)]
   simp
  simp [this]
theorem bytes_list (x : ByteArray) : x.toList = x.data.toList := by
 have := toList_loop x _ 0 [] rfl
 simpa [ByteArray.toList] using this
theorem bytes_eq (x y : ByteArray) : x.toList = y.toList <-> x = y := ⟨fun h => by rw [bytes_list, bytes_list] at h; cases x; cases y; simpa using h, fun h => by rw [h]⟩
@[simp] theorem put_slot (s : St) (d t : Tmp) (v : AV) : (s.put (some d) v).slots t = if t = d then v else s.slots t := (_root_.id rfl)
@[simp] theorem put_none (s : St) (v : AV) : s.put none v = s := (_root_.id rfl)
@[simp] theorem withMem_slot (s : St) (m : Mem) (t : Tmp) : (s.withMem m).slots t = s.slots t := (_root_.id rfl)
@[simp] theorem withMem_mem (s : St) (m : Mem) : (s.withMem m).mem = m := (_root_.id rfl)
@[simp] theorem put_mem' (s : St) (d : Tmp) (v : AV) : (s.put (some d) v).mem = s.mem := (_root_.id rfl)
@[simp] theorem init_slot (l : List AV) (m : Mem) (t : Tmp) : (St.init l m).slots t = l.getD t (.tup []) := (_root_.id rfl)
@[simp] theorem init_mem (l : List AV) (m : Mem) : (St.init l m).mem = m := (_root_.id rfl)
@[simp] theorem eval_tmp (s : St) (t : Tmp) : s.eval (.tmp t) = s.slots t := (_root_.id rfl)
@[simp] theorem eval_const (s : St) (v : Value) : s.eval (.const v) = constA v := (_root_.id rfl)
@[simp] theorem eval_func (s : St) (f : FuncId) : s.eval (.func f) = .func (.func f) [] := (_root_.id rfl)
@[simp] theorem constA_int (k : IntKind) (n : Int) : constA (.int k n) = .int k n := (_root_.id rfl)
@[simp] theorem constA_bool (b : Bool) : constA (.bool b) = .bool b := (_root_.id rfl)
@[simp] theorem constA_str (s : ByteArray) : constA (.string s) = .str s := (_root_.id rfl)
@[simp] theorem constA_nil : constA (.slice none 0 0) = .lst true 0 [] := (_root_.id rfl)
@[simp] theorem constA_nilp : constA (.pointer none) = .nilp := (_root_.id rfl)
@[simp] theorem constA_agg (cs : Array Value) : constA (.agg cs) = .agg (cs.toList.map scalarA) := (_root_.id rfl)
@[simp] theorem scalarA_int (k : IntKind) (n : Int) : scalarA (.int k n) = .int k n := (_root_.id rfl)
@[simp] theorem scalarA_bool (b : Bool) : scalarA (.bool b) = .bool b := (_root_.id rfl)
@[simp] theorem scalarA_str (s : ByteArray) : scalarA (.string s) = .str s := (_root_.id rfl)
@[simp] theorem scalarA_nil : scalarA (.slice none 0 0) = .lst true 0 [] := (_root_.id rfl)
@[simp] theorem scalarA_nilp : scalarA (.pointer none) = .nilp := (_root_.id rfl)
@[simp] theorem cells_agg (cs : List AV) : (AV.agg cs).cells = cs := (_root_.id rfl)
@[simp] theorem cells_int (k : IntKind) (n : Int) : (AV.int k n).cells = [.int k n] := (_root_.id rfl)
@[simp] theorem cells_bool (b : Bool) : (AV.bool b).cells = [.bool b] := (_root_.id rfl)
@[simp] theorem cells_str (s : ByteArray) : (AV.str s).cells = [.str s] := (_root_.id rfl)
@[simp] theorem cells_lst (f : Bool) (e : Nat) (xs : List AV) : (AV.lst f e xs).cells = [.lst f e xs] := (_root_.id rfl)
@[simp] theorem cells_own (g n c : Nat) : (AV.own g n c).cells = [.own g n c] := (_root_.id rfl)
@[simp] theorem cells_ptr (g o : Nat) : (AV.ptr g o).cells = [.ptr g o] := (_root_.id rfl)
@[simp] theorem cells_func (f : Fn) (cs : List AV) : (AV.func f cs).cells = [.func f cs] := (_root_.id rfl)
@[simp] theorem set_same (m : Mem) (g : Nat) (b : Blk) : m.set g b g = some b := m.set_same g b
@[simp] theorem set_set (m : Mem) (g : Nat) (b b' : Blk) : (m.set g b).set g b' = m.set g b' := by funext k; simp only [Mem.set]; split <;> rfl
@[simp] theorem thenA_normal (R : St -> Prop) (Q : Exit -> St -> Prop) (s : St) : thenA R Q .normal s = R s := (_root_.id rfl)
@[simp] theorem thenA_ret (R : St -> Prop) (Q : Exit -> St -> Prop) (s : St) : thenA R Q .ret s = Q .ret s := (_root_.id rfl)
@[simp] theorem thenA_exit (R : St -> Prop) (Q : Exit -> St -> Prop) (i : Nat) (s : St) : thenA R Q (.exit i) s = Q (.exit i) s := (_root_.id rfl)
@[simp] theorem blockA_normal (id : Nat) (Q : Exit -> St -> Prop) (s : St) : blockA id Q .normal s = Q .normal s := (_root_.id rfl)
@[simp] theorem blockA_ret (id : Nat) (Q : Exit -> St -> Prop) (s : St) : blockA id Q .ret s = Q .ret s := (_root_.id rfl)
@[simp] theorem blockA_exit (id i : Nat) (Q : Exit -> St -> Prop) (s : St) : blockA id Q (.exit i) s = if i = id then Q .normal s else Q (.exit i) s := (_root_.id rfl)
@[simp] theorem ops_nil (p : Nat -> Bool) (ops : Array Oper) (K : St -> Prop) (i : Nat) (s : St) : AOpsL P p ops K i [] s = K s := (_root_.id rfl)
@[simp] theorem ops_plain (p : Nat -> Bool) (ops : Array Oper) (K : St -> Prop) (i : Nat) (s : St) (d : Option Tmp) (op : Op) (T : TypeId) (pos : String) (af : Array Edge) (l : List Oper) :
  AOpsL P p ops K i (⟨d, op, T, pos, af, none⟩ :: l) s = AOp P (p i) ⟨d, op, T, pos, af, none⟩ s (AOpsL P p ops K (i + 1) l) := rfl
def gv (ops : Array Oper) (j : Nat) (s : St) : AV := match (ops[j]?).bind (·.dst) with | some t => s.slots t | none => .undef
def guardRun (v : AV) (want : Bool) (X Y : Prop) : Prop := match v with
 | .bool b => if b = want then X else Y
 | .tup [] => Y
 | _ => False
@[congr] theorem guardRun_congr {v v' : AV} {w : Bool} {X Y : Prop} (h : v = v') : guardRun v w X Y = guardRun v' w X Y := by rw [h]
@[simp] theorem guardRun_tt (X Y : Prop) : guardRun (.bool true) true X Y = X := by simp [guardRun]
@[simp] theorem guardRun_ff (X Y : Prop) : guardRun (.bool false) false X Y = X := by simp [guardRun]
@[simp] theorem guardRun_tf (X Y : Prop) : guardRun (.bool true) false X Y = Y := by simp [guardRun]
@[simp] theorem guardRun_ft (X Y : Prop) : guardRun (.bool false) true X Y = Y := by simp [guardRun]
@[simp] theorem guardRun_skip (w : Bool) (X Y : Prop) : guardRun (.tup []) w X Y = Y := by simp [guardRun]
theorem guardI {c w : Bool} {X Y : Prop} (h1 : c = w -> X) (h2 : c = !w -> Y) : guardRun (.bool c) w X Y := by
 unfold guardRun
 by_cases h : c = w
 ·simpa [h] using h1 h
 simpa [h] using h2 (by cases c <;> cases w <;> simp_all)
@[simp] theorem ops_guard (p : Nat -> Bool) (ops : Array Oper) (K : St -> Prop) (i : Nat) (s : St) (d : Option Tmp) (op : Op) (T : TypeId) (pos : String) (af : Array Edge) (j : Nat) (want : Bool) (l : List Oper) :
  AOpsL P p ops K i (⟨d, op, T, pos, af, some (j, want)⟩ :: l) s =
  guardRun (gv ops j s) want (AOp P (p i) ⟨d, op, T, pos, af, none⟩ s (AOpsL P p ops K (i + 1) l)) (AOpsL P p ops K (i + 1) l (s.put d (.tup []))) := by
 show GOp P (p i) ops _ s _ = _
 unfold GOp wantedA gv guardRun
 simp only
 cases hj : (ops[j]?).bind (·.dst) with
 | none => rfl
 | some t =>
  simp only
  cases hs : s.slots t with
  | bool b =>
   simp only
   by_cases h : b = want
   ·subst h; simp; rfl
   have : (b == want) = false := by simpa using h
   simp [this, h]
  | tup l => cases l <;> rfl
  | _ => rfl
@[simp] theorem gv_eq (ops : Array Oper) (j : Nat) (s : St) : gv ops j s = match (ops[j]?).bind (·.dst) with | some t => s.slots t | none => .undef := (_root_.id rfl)
section
variable (p : Bool) (s : St) (K : St -> Prop) (d : Option Tmp) (T : TypeId) (pos : String) (af : Array Edge) (g : Option (Nat × Bool))
@[simp] theorem aop_move (x : Operand) : AOp P p ⟨d, .move x, T, pos, af, g⟩ s K = K (s.put d (s.eval x)) := (_root_.id rfl)
@[simp] theorem aop_assign (x : Operand) : AOp P p ⟨d, .assign x, T, pos, af, g⟩ s K = K (s.put d (s.eval x)) := (_root_.id rfl)
@[simp] theorem aop_pick (c a b : Operand) : AOp P p ⟨d, .pick c a b, T, pos, af, g⟩ s K = match s.eval c with | .bool t => K (s.put d (if t then s.eval a else s.eval b)) | _ => False := by
 simp only [AOp, outR]; cases s.eval c <;> rfl
def goO (x : Option AV) (d : Option Tmp) (s : St) (K : St -> Prop) : Prop := match x with | some v => K (s.put d v) | none => False
theorem aop_go {p : Bool} {o : Oper} {s : St} {K : St -> Prop} {x : Option AV} (h : outR P s.mem s.eval o.op = x) (hw : ∀ k, WT P p s.mem s.eval k o.op -> False) : AOp P p o s K = goO x o.dst s K := by
 subst h
 unfold AOp goO
 cases outR P s.mem s.eval o.op with
 | some v => rfl
 | none => exact eq_false (hw _)
@[simp] theorem goO_some (v : AV) : goO (some v) d s K = K (s.put d v) := (_root_.id rfl)
@[simp] theorem aop_bin (op : BinOp) (U : TypeId) (x y : Operand) (V : TypeId) : AOp P p ⟨d, .binOp op U x y V, T, pos, af, g⟩ s K = goO (match binA op (s.eval x) (s.eval y) with | some v => some v | none => eqO P op U (s.eval x) (s.eval y)) d s K := by
 exact aop_go rfl (fun _ h => h)
@[simp] theorem aop_un (op : UnOp) (U : TypeId) (x : Operand) : AOp P p ⟨d, .unOp op U x, T, pos, af, g⟩ s K = goO (unA op (s.eval x)) d s K := by
 exact aop_go rfl (fun _ h => h)
@[simp] theorem aop_conv (U V : TypeId) (x : Operand) : AOp P p ⟨d, .convert U V x, T, pos, af, g⟩ s K = goO (convA P U V (s.eval x)) d s K := by
 exact aop_go rfl (fun _ h => h)
@[simp] theorem aop_faddr (U : TypeId) (x : Operand) (f : Nat) : AOp P p ⟨d, .fieldAddr U x f, T, pos, af, g⟩ s K = goO (faddrA P U f (s.eval x)) d s K := by
 exact aop_go rfl (fun _ h => h)
@[simp] theorem aop_field (U : TypeId) (x : Operand) (f : Nat) : AOp P p ⟨d, .field U x f, T, pos, af, g⟩ s K = goO (fieldA P U f (s.eval x)) d s K := by
 exact aop_go rfl (fun _ h => h)
@[simp] theorem aop_load (U : TypeId) (x : Operand) : AOp P p ⟨d, .load U x, T, pos, af, g⟩ s K = goO (loadA P s.mem U (s.eval x)) d s K := by
 exact aop_go rfl (fun _ h => h)
@[simp] theorem aop_iaddr (U : TypeId) (x i : Operand) : AOp P p ⟨d, .indexAddr U x i, T, pos, af, g⟩ s K = goO (idxA P s.mem U (s.eval x) (s.eval i)) d s K := by
 exact aop_go rfl (fun _ h => h)
@[simp] theorem aop_index (U : TypeId) (x i : Operand) : AOp P p ⟨d, .index U x i, T, pos, af, g⟩ s K = goO (sidxA P U (s.eval x) (s.eval i)) d s K := by
 exact aop_go rfl (fun _ h => h)
@[simp] theorem aop_slice (U : TypeId) (x : Operand) (lo hi : Option Operand) : AOp P p ⟨d, .slice U x lo hi none, T, pos, af, g⟩ s K = goO (sliceA P U (s.eval x) (lo.map s.eval) (hi.map s.eval)) d s K := by
 exact aop_go rfl (fun _ h => h)
@[simp] theorem aop_extract (t : Operand) (i : Nat) : AOp P p ⟨d, .extract t i, T, pos, af, g⟩ s K = goO (match s.eval t with | .tup vs => vs[i]? | _ => none) d s K := by
 exact aop_go rfl (fun _ h => h)
@[simp] theorem aop_build (U : TypeId) (parts : Array (Nat × Operand)) : AOp P p ⟨d, .build U parts, T, pos, af, g⟩ s K = goO (buildA P U (parts.toList.map fun q => (q.1, s.eval q.2))) d s K := by
 exact aop_go rfl (fun _ h => h)
@[simp] theorem aop_len (x : Operand) (ts : Array TypeId) : AOp P p ⟨d, .call ⟨.builtin .len, #[x], ts⟩, T, pos, af, g⟩ s K = goO (lenA P ts[0]? (s.eval x)) d s K := by
 exact aop_go rfl (fun _ h => h)
@[simp] theorem aop_max (x y : Operand) (ts : Array TypeId) : AOp P p ⟨d, .call ⟨.builtin .max, #[x, y], ts⟩, T, pos, af, g⟩ s K = goO (max2A (s.eval x) (s.eval y)) d s K := by
 refine aop_go ?_ (fun _ h => h)
 simp only [outR, List.map, foldA]
 cases max2A (s.eval x) (s.eval y) <;> rfl
@[simp] theorem aop_min (x y : Operand) (ts : Array TypeId) : AOp P p ⟨d, .call ⟨.builtin .min, #[x, y], ts⟩, T, pos, af, g⟩ s K = goO (min2A (s.eval x) (s.eval y)) d s K := by
 refine aop_go ?_ (fun _ h => h)
 simp only [outR, List.map, foldA]
 cases min2A (s.eval x) (s.eval y) <;> rfl
@[simp] theorem aop_func (fn : Fn) (first : Array Value) (caps : Array Operand) : AOp P p ⟨d, .makeFunc fn #[] caps, T, pos, af, g⟩ s K = K (s.put d (.func fn (caps.toList.map s.eval))) := by
 simp [AOp, outR]
theorem aop_call {f : FuncId} {args : Array Operand} {ts : Array TypeId} {r : AV} (h : PCall P f (args.toList.map s.eval) r) (hk : K (s.put d r)) : AOp P p ⟨d, .call ⟨.value (.func f), args, ts⟩, T, pos, af, g⟩ s K := by
 have e : (s.put d r).withMem s.mem = s.put d r := by cases d <;> rfl
 simp only [AOp, outR, WT, eval_func, List.append_nil]
 cases p with
 | true => exact ⟨r, h, by rw [e]; exact hk⟩
 | false => exact h.w (by rw [e]; exact hk)
theorem aop_wcall {f : Operand} {args : Array Operand} {ts : Array TypeId} {n : FuncId} {caps : List AV} (hp : p = false) (hf : s.eval f = .func (.func n) caps) (h : WCall P n (args.toList.map s.eval ++ caps) s.mem fun r m => K ((s.put d r).withMem m)) : AOp P p ⟨d, .call ⟨.value f, args, ts⟩, T, pos, af, g⟩ s K := by
 subst hp
 simp only [AOp, outR, WT, hf]
 exact h
end
section
variable (k : IntKind) (a b : Int) (x y : ByteArray)
@[simp] theorem bin_int (op : BinOp) : binA op (.int k a) (.int k b) = intA op k a b := by simp [binA]
@[simp] theorem bin_str (op : BinOp) : binA op (.str x) (.str y) = strA op x y := (_root_.id rfl)
@[simp] theorem int_add : intA .add k a b = some (.int k (k.wrap (a + b))) := (_root_.id rfl)
@[simp] theorem int_sub : intA .sub k a b = some (.int k (k.wrap (a - b))) := (_root_.id rfl)
@[simp] theorem int_mul : intA .mul k a b = some (.int k (k.wrap (a * b))) := (_root_.id rfl)
@[simp] theorem int_quo : intA .quo k a b = if b = 0 then none else some (.int k (k.wrap (a.tdiv b))) := (_root_.id rfl)
@[simp] theorem int_rem : intA .rem k a b = if b = 0 then none else some (.int k (a.tmod b)) := (_root_.id rfl)
@[simp] theorem int_eql : intA .eql k a b = some (.bool (decide (a = b))) := by simp [intA]; rfl
@[simp] theorem int_neq : intA .neq k a b = some (.bool (!decide (a = b))) := by simp [intA]; rfl
@[simp] theorem int_lss : intA .lss k a b = some (.bool (decide (a < b))) := (_root_.id rfl)
@[simp] theorem int_leq : intA .leq k a b = some (.bool (decide (a <= b))) := (_root_.id rfl)
@[simp] theorem int_gtr : intA .gtr k a b = some (.bool (decide (b < a))) := (_root_.id rfl)
@[simp] theorem int_geq : intA .geq k a b = some (.bool (decide (b <= a))) := (_root_.id rfl)
theorem bytes_beq : (x.toList == y.toList) = decide (x = y) := by
 by_cases h : x = y
 ·simp [h]
 simp [h, bytes_eq]
@[simp] theorem str_eql : strA .eql x y = some (.bool (decide (x = y))) := by rw [<- bytes_beq]; rfl
@[simp] theorem str_neq : strA .neq x y = some (.bool (!decide (x = y))) := by rw [<- bytes_beq]; rfl
@[simp] theorem str_lss : strA .lss x y = some (.bool (Op.bytesLess x.toList y.toList)) := (_root_.id rfl)
@[simp] theorem str_leq : strA .leq x y = some (.bool (Op.bytesLess x.toList y.toList || decide (x = y))) := by rw [<- bytes_beq]; rfl
@[simp] theorem str_gtr : strA .gtr x y = some (.bool !(Op.bytesLess x.toList y.toList || decide (x = y))) := by rw [<- bytes_beq]; rfl
@[simp] theorem str_geq : strA .geq x y = some (.bool !(Op.bytesLess x.toList y.toList)) := (_root_.id rfl)
@[simp] theorem un_neg : unA .neg (.int k a) = some (.int k (k.wrap (0 - a))) := (_root_.id rfl)
@[simp] theorem un_not (t : Bool) : unA .not (.bool t) = some (.bool !t) := (_root_.id rfl)
end
end
section
variable {P : Program}
theorem pR1 {fn : Func} {t : Tmp} {r : AV} {s : St} (hr : fn.results = #[.tmp t]) (h : s.slots t = r) : Post P fn (fun r' _ => r' = r) .ret s :=
 ⟨[s.slots t], s.slots t, s.mem, by rw [hr]; rfl, View.refl _ _, h⟩
theorem post_ret2 {fn : Func} {t u : Tmp} {r q : AV} {s : St} (hr : fn.results = #[.tmp t, .tmp u]) (h : s.slots t = r) (k : s.slots u = q) : Post P fn (fun r' _ => r' = .tup [r, q]) .ret s :=
 ⟨[s.slots t, s.slots u], .tup [s.slots t, s.slots u], s.mem, by rw [hr]; rfl, View.refl _ _, by rw [h, k]⟩
theorem post_retW {fn : Func} {t : Tmp} {k : AV -> Mem -> Prop} {s : St} (hr : fn.results = #[.tmp t]) (h : ∃ r m, View s.mem (s.slots t) m r /\ k r m) : Post P fn k .ret s := by
 obtain ⟨r, m, h1, h2⟩ := h
 exact ⟨[s.slots t], r, m, by rw [hr]; rfl, h1, h2⟩
theorem post_nrm0 {fn : Func} {k : AV -> Mem -> Prop} {s : St} (hr : fn.results = #[]) (h : k (.tup []) s.mem) : Post P fn k .normal s :=
 ⟨[], .tup [], s.mem, by rw [hr]; rfl, View.refl _ _, h⟩
def Le (a a' : AV) : Prop := ∀ w S v, Rep w S a v -> Rep w S a' v
theorem Le.refl (a : AV) : Le a a := fun _ _ _ h => h
theorem Le.lst (f : Bool) (e : Nat) (xs : List AV) : Le (.lst f e xs) (.lst false e xs) := fun w S v h => by
 cases h with
 | lnil _ _ A c _ => exact .lnil _ _ A c (fun h => by cases h)
 | lst _ _ b o c h1 h2 h3 h4 h5 => exact .lst _ _ b o c h1 h2 h3 (fun h => by cases h) h5
theorem Le.nil (f : Bool) (e e' : Nat) : Le (.lst f e []) (.lst false e' []) := fun w S v h => by
 cases h with
 | lnil _ _ A c _ => exact .lnil _ _ A c (fun h => by cases h)
 | lst _ _ b o c h1 h2 h3 h4 h5 => exact .lnil _ _ _ c (fun h => by cases h)
inductive Les : List AV -> List AV -> Prop
 | nil : Les [] []
 | cons {a a' : AV} {l l' : List AV} : Le a a' -> Les l l' -> Les (a :: l) (a' :: l')
theorem Les.refl : ∀ l, Les l l
 | [] => .nil
 | a :: l => .cons (Le.refl a) (Les.refl l)
theorem Les.reps {w : World} {S : Nat -> Prop} {l l' : List AV} (h : Les l l') : ∀ {vs : List Value}, Reps w S l vs -> Reps w S l' vs := by
 induction h with
 | nil => exact fun h => h
 | cons h _ ih => intro vs hr; cases hr with | cons a b => exact .cons (h _ _ _ a) (ih b)
theorem Les.append {l l' k k' : List AV} (h : Les l l') (hk : Les k k') : Les (l ++ k) (l' ++ k') := by
 induction h with
 | nil => exact hk
 | cons h _ ih => exact .cons h ih
theorem Le.agg {l l' : List AV} (h : Les l l') : Le (.agg l) (.agg l') := fun w S v hv => by
 cases hv with | agg hr => exact .agg (h.reps hr)
theorem PCall.le {n : FuncId} {args args' : List AV} {r r' : AV} (h : PCall P n args' r) (ha : Les args args') (hr : Le r r') : PCall P n args r' :=
 ⟨h.1, fun w S cargs m hm hargs => calls_mono (h.2 w S cargs m hm (ha.reps hargs)) fun e w' ⟨v, S', h1, h2, h3, h4, h5, h6⟩ => ⟨v, S', h1, h2, h3, h4, hr _ _ _ h5, h6⟩⟩
theorem PCall.arg {n : FuncId} {args args' : List AV} {r : AV} (h : PCall P n args' r) (ha : Les args args') : PCall P n args r := h.le ha (Le.refl _)
def Sees (s s' : St) : Prop := ∀ w S (f : Tmp -> Value), MemRep w S s.mem -> (∀ t, Rep w S (s.slots t) (f t)) ->
 ∃ S', (∀ b, S b -> S' b) /\ (∀ b, S' b -> S b ∨ s.mem b ≠ none) /\ MemRep w S' s'.mem /\ (∀ t, Rep w S' (s'.slots t) (f t)) /\ ∀ g b, s'.mem g = some b -> s.mem g ≠ none
theorem AWp.sees {N : Nat} {c : Code} {Q : Exit -> St -> Prop} {s s' : St} (hs : Sees s s') (h : AWp P N c Q s') : AWp P N c Q s := fun C a w hr hN => by
 refine h C a w ?_ hN
 obtain ⟨S, h1, h2, h3⟩ := hr.ex
 obtain ⟨S', k1, k2, k3, k4, k5⟩ := hs w S _ h2 h3
 have hD : ∀ b, s.mem b ≠ none -> C.D0 b ∨ C.w0.heap.size <= b := fun b hb => by
  cases hq : s.mem b with
  | none => exact absurd hq hb
  | some x => exact hr.dom b x hq
 refine ⟨⟨S', ⟨fun b hb => k1 b (h1.1 b hb), fun b hb => ?_⟩, k3, k4⟩, hr.defers, hr.keep, fun g b hg => hD g (k5 g b hg)⟩
 rcases k2 b hb with h | h
 ·exact h1.2 b h
 exact .inr (hD b h)
theorem Sees.slots {s s' : St} (hm : s'.mem = s.mem) (h : ∀ t, Le (s.slots t) (s'.slots t)) : Sees s s' := fun w S f h1 h2 =>
 ⟨S, fun _ h => h, fun _ h => .inl h, hm ▸ h1, fun t => h t _ _ _ (h2 t), fun g b hg => by rw [<- hm, hg]; simp⟩
def Ext (m0 m : Mem) : Prop := ∀ g b, m0 g = some b -> m g = some b
theorem Ext.refl (m : Mem) : Ext m m := fun _ _ h => h
theorem Ext.set {m0 m : Mem} (h : Ext m0 m) {g : Nat} (hg : m0 g = none) (b : Blk) : Ext m0 (m.set g b) := fun k x hk => by
 have : k ≠ g := fun e => by rw [e, hg] at hk; cases hk
 rw [Mem.set_other this]; exact h k x hk
theorem Ext.none {m0 m : Mem} (h : Ext m0 m) {g : Nat} (hg : m g = none) : m0 g = none := by
 cases hq : m0 g with
 | none => rfl
 | some b => rw [h g b hq] at hg; cases hg
inductive Grows (T : TypeId) (e : Nat) (m0 : Mem) (xs : List AV) : AV -> Mem -> Prop
 | lit (f : Nat) (m : Mem) : f = e ∨ xs = [] -> Ext m0 m -> Grows T e m0 xs (.lst true f xs) m
 | own (g c n : Nat) (m : Mem) : n = xs.length -> m g = some (.arr T e c xs) -> m0 g = none -> Ext m0 m -> Grows T e m0 xs (.own g n c) m
theorem Grows.view {T : TypeId} {e : Nat} {m0 m : Mem} {xs : List AV} {v : AV} (h : Grows T e m0 xs v m) : View m v m0 (.lst false e xs) := by
 cases h with
 | lit f m hf hm =>
  refine View.trans (View.forget hm _) ?_
  intro w S u h1 h2
  refine ⟨S, fun _ h => h, fun _ h => .inl h, h1, ?_, fun g b h => by rw [h]; simp⟩
  rcases hf with rfl | rfl
  ·exact Le.lst _ _ _ _ _ _ h2
  exact Le.nil _ _ _ _ _ _ h2
 | own g c n m hn hg h0 hm =>
  refine View.trans (View.freeze hg hn.symm) (View.forget (fun k b hk => ?_) _)
  have : k ≠ g := fun e => by rw [e, h0] at hk; cases hk
  simp only [Mem.del, if_neg this]
  exact hm k b hk
structure ElemT (P : Program) (T E : TypeId) (n b : Nat) : Prop where
 elem : elemT P T = some E
 int : isIntT P T = some false
 size : szT P E = some n
 byte : bytesT P E = some b
 zero : ∃ z, zeroE P E = some z /\ z.cells.length = n
 pos : n ≠ 0 /\ b ≠ 0
theorem Grows.append {T E : TypeId} {n b : Nat} (hT : ElemT P T E n b) {m0 m : Mem} {xs ys : List AV} {v x : AV} (h : Grows E n m0 xs v m) {k : AV -> Mem -> Prop}
  (hx : srcA m n x = some ys) (hok : ∀ y ∈ ys, y.cells.all okCell = true) (hb : (2 * (xs.length + ys.length) + 1024) * b <= 281474976710656)
  (hk : ∀ v' m', Grows E n m0 (xs ++ ys) v' m' -> k v' m') (U : Array TypeId) (hU : U = #[T, T]) : appendW P m k U v x := by
 subst hU
 obtain ⟨z, hz, hzl⟩ := hT.zero
 unfold appendW
 simp only [List.getElem?_toArray, List.getElem?_cons_zero, List.getElem?_cons_succ, hT.int, hT.elem, hT.size, hT.byte, hz, hx, true_and]
 refine ⟨hT.pos.1, hT.pos.2, hzl, ?_⟩
 cases h with
 | lit f m hf hm =>
  refine ⟨hf, hb, fun h0 => ?_, fun _ g c hg hle => ?_⟩
  ·subst h0
   exact hk _ _ (by rw [List.append_nil]; exact .lit f m hf hm)
  exact hk _ _ (.own g c _ _ (by simp) (set_same _ _ _) (hm.none hg) (hm.set (hm.none hg) _))
 | own g c l m hl hg h0 hm =>
  subst hl
  simp only [hg]
  refine ⟨trivial, trivial, trivial, trivial, hok, hb, fun g' c' hg' hle => ?_⟩
  have hg0 : m0 g' = none := by
   rcases hg' with rfl | h
   ·exact h0
   exact hm.none h
  exact hk _ _ (.own g' c' _ _ (by simp) (set_same _ _ _) hg0 (hm.set hg0 _))
end
end Go.T
