/- Parts of the proof of FnParsed: The order in which a region is carried out does not matter, where those that no edge orders may change places. -/
import Derived.Test.YtdbnllfjmkmdiaaGreatDoorG1
set_option linter.unusedSimpArgs false
set_option linter.unusedVariables false
namespace Go.T
open Go
section
variable {P : Program}
def cls (p : Bool) : Op -> Nat
 | .move _ | .assign _ | .pick .. | .binOp .. | .unOp .. | .convert .. | .nilCheck _ | .fieldAddr .. | .field .. | .index .. | .slice .. | .extract .. | .makeFunc .. | .build .. | .buildSlice .. => 0
 | .load .. | .indexAddr .. => 1
 | .call c => match c.callee with
  | .builtin .append => 2
  | .builtin _ => 0
  | .value _ => if p then 0 else 2
  | .invoke .. => 2
 | _ => 2
def zId : Operand -> List Tmp
 | .tmp t => [t]
 | _ => []
def yUa (ops : Array Oper) (o : Oper) : List Tmp :=
 o.op.operands.toList.flatMap zId ++ (match o.guard with | some (j, _) => ((ops[j]?).bind (·.dst)).toList | none => [])
def yPc (P : Program) (p : Bool) (ev : Operand -> AV) (op : Op) (v : AV) : Prop :=
 match op with
 | .buildSlice T len parts => match esz P T with
  | some n => len = parts.size /\ len * n <= 16777216 /\ n ≠ 0 /\ (match y2a P T with | some E => (zMa P E).isSome = true | none => False) /\
   match zda n (parts.toList.map fun q => (q.1, ev q.2)) with | some xs => v = .lst true n xs | none => False
  | none => False
 | .call c => match c.callee with
  | .value f => match ev f with
   | .func (.func n) caps => zca P n (c.args.toList.map ev ++ caps) v
   | _ => False
  | _ => yGa P (fun _ => none) ev op = some v
 | op => yGa P (fun _ => none) ev op = some v
theorem wJe {p : Bool} {o : Oper} (h : cls p o.op = 0) (s : St) (K : St -> Prop) : AOp P p o s K <-> ∃ v, yPc P p s.eval o.op v /\ K (s.put o.dst v) := by
 have wm : ∀ v, (s.put o.dst v).withMem s.mem = s.put o.dst v := fun v => by cases o.dst <;> rfl
 have plain : ∀ (x : Option AV), yGa P s.mem s.eval o.op = x -> yGa P (fun _ => none) s.eval o.op = x -> (x = none -> ¬ WT P p s.mem s.eval (fun v m' => K ((s.put o.dst v).withMem m')) o.op) -> (AOp P p o s K <-> ∃ v, yGa P (fun _ => none) s.eval o.op = some v /\ K (s.put o.dst v)) := by
  intro x h1 h2 h3;unfold AOp;rw [h1, h2];cases x with
  | none => exact ⟨fun h => absurd h (h3 rfl), fun ⟨v, h, _⟩ => by cases h⟩
  | some v => exact ⟨fun h => ⟨v, rfl, h⟩, fun ⟨v', h, k⟩ => by obtain rfl := Option.some.inj h; exact k⟩
 cases hop : o.op <;> rw [hop] at h plain <;> first
  | (exact plain _ rfl rfl (fun _ hw => hw.elim))
  | (simp [cls] at h; done)
  | skip
 case slice T x lo hi mx =>
  cases mx with
  | none => exact plain _ rfl rfl (fun _ hw => hw.elim)
  | some _ => exact plain _ rfl rfl (fun _ hw => hw.elim)
 case buildSlice T len parts =>
  unfold AOp;rw [hop];simp only [yGa, WT, yPc];cases esz P T with
  | none => simp
  | some n =>
   simp only;cases zda n (parts.toList.map fun q => (q.1, s.eval q.2)) with
   | none => simp
   | some xs =>
    simp only [wm];exact ⟨fun ⟨a, b, c, d, e⟩ => ⟨_, ⟨a, b, c, d, rfl⟩, e⟩, fun ⟨v, ⟨a, b, c, d, hv⟩, e⟩ => ⟨a, b, c, d, hv ▸ e⟩⟩
 case call c =>
  cases hcal : c.callee with
  | builtin b =>
   cases b with
   | append => simp [cls, hcal] at h
   | _ =>
    simp only [yPc, hcal];refine plain _ (by simp only [yGa, hcal]; rfl) (by simp only [yGa, hcal]) (fun _ hw => ?_);simp only [WT, hcal] at hw
  | value f =>
   have hp : p = true := by
    cases p with
    | true => rfl
    | false => simp [cls, hcal] at h
   subst hp;unfold AOp;rw [hop];simp only [yGa, hcal, WT, yPc];cases s.eval f with
   | func fn caps => cases fn <;> simp [wm]
   | _ => simp
  | invoke r n => simp [cls, hcal] at h
theorem wKe {p : Bool} {o : Oper} (h : cls p o.op = 1) (s : St) (K : St -> Prop) : AOp P p o s K <-> ∃ v, yGa P s.mem s.eval o.op = some v /\ K (s.put o.dst v) := by
 have plain : (¬ WT P p s.mem s.eval (fun v m' => K ((s.put o.dst v).withMem m')) o.op) -> (AOp P p o s K <-> ∃ v, yGa P s.mem s.eval o.op = some v /\ K (s.put o.dst v)) := by
  intro h3;unfold AOp;cases yGa P s.mem s.eval o.op with
  | none => exact ⟨fun h => absurd h h3, fun ⟨v, h, _⟩ => by cases h⟩
  | some v => exact ⟨fun h => ⟨v, rfl, h⟩, fun ⟨v', h, k⟩ => by obtain rfl := Option.some.inj h; exact k⟩
 cases hop : o.op <;> rw [hop] at h plain <;> first
  | (exact plain (fun hw => hw.elim))
  | (simp [cls] at h; done)
  | skip
 case call c =>
  cases hcal : c.callee with
  | builtin b => cases b <;> simp [cls, hcal] at h
  | value f => cases p <;> simp [cls, hcal] at h
  | invoke r n => simp [cls, hcal] at h
theorem wLe {p : Bool} {o : Oper} (h : cls p o.op = 2) (s : St) (K : St -> Prop) : AOp P p o s K <-> WT P p s.mem s.eval (fun v m' => K ((s.put o.dst v).withMem m')) o.op := by
 have plain : yGa P s.mem s.eval o.op = none -> (AOp P p o s K <-> WT P p s.mem s.eval (fun v m' => K ((s.put o.dst v).withMem m')) o.op) := by
  intro h; unfold AOp; rw [h]
 cases hop : o.op <;> rw [hop] at h plain <;> first
  | (exact plain rfl)
  | (simp [cls] at h; done)
  | skip
 case call c =>
  cases hcal : c.callee with
  | builtin b =>
   cases b with
   | append => exact plain (by simp only [yGa, hcal])
   | _ => simp [cls, hcal] at h
  | value f => exact plain (by simp only [yGa, hcal])
  | invoke r n => exact plain (by simp only [yGa, hcal])
theorem xyc {s : St} {d : Option Tmp} {v : AV} {x : Operand} (h : ∀ t, d = some t -> t ∉ zId x) : (s.put d v).eval x = s.eval x := by
 cases d with
 | none => rfl
 | some d =>
  cases x with
  | tmp t =>
   have : t ≠ d := fun e => h d rfl (by simp [zId, e]);simp [St.eval, St.put, this]
  | _ => rfl
theorem x1a {op : Op} {ev ev' : Operand -> AV} (h : ∀ x ∈ op.operands.toList, ev x = ev' x) (m : Mem) : yGa P m ev op = yGa P m ev' op := by
 cases op with
 | move x => simp only [yGa]; rw [h x (by simp [Op.operands])]
 | assign x => simp only [yGa]; rw [h x (by simp [Op.operands])]
 | pick c a b => simp only [yGa]; rw [h c (by simp [Op.operands]), h a (by simp [Op.operands]), h b (by simp [Op.operands])]
 | binOp op T x y ty => simp only [yGa]; rw [h x (by simp [Op.operands]), h y (by simp [Op.operands])]
 | unOp op T x => simp only [yGa]; rw [h x (by simp [Op.operands])]
 | convert a b x => simp only [yGa]; rw [h x (by simp [Op.operands])]
 | nilCheck x => simp only [yGa]; rw [h x (by simp [Op.operands])]
 | fieldAddr T x f => simp only [yGa]; rw [h x (by simp [Op.operands])]
 | field T x f => simp only [yGa]; rw [h x (by simp [Op.operands])]
 | load T x => simp only [yGa]; rw [h x (by simp [Op.operands])]
 | indexAddr T x i => simp only [yGa]; rw [h x (by simp [Op.operands]), h i (by simp [Op.operands])]
 | index T x i => simp only [yGa]; rw [h x (by simp [Op.operands]), h i (by simp [Op.operands])]
 | extract t i => simp only [yGa]; rw [h t (by simp [Op.operands])]
 | slice T x lo hi mx =>
  cases mx with
  | some _ => rfl
  | none =>
   simp only [yGa];have e1 : lo.map ev = lo.map ev' := by cases lo with | none => rfl | some l => simp [h l (by simp [Op.operands])]
   have e2 : hi.map ev = hi.map ev' := by cases hi with | none => rfl | some l => simp [h l (by simp [Op.operands])]
   rw [h x (by simp [Op.operands]), e1, e2]
 | makeFunc fn first caps =>
  simp only [yGa];have : caps.toList.map ev = caps.toList.map ev' := List.map_congr_left fun x hx => h x (by simp [Op.operands]; exact .inr (by simpa using hx));rw [this]
 | build T parts =>
  simp only [yGa];have : parts.toList.map (fun p => (p.1, ev p.2)) = parts.toList.map (fun p => (p.1, ev' p.2)) := List.map_congr_left fun p hp => by rw [h p.2 (by simp [Op.operands]; exact ⟨p.1, by simpa using hp⟩)]
  rw [this]
 | call c =>
  simp only [yGa];have hargs : ∀ x ∈ c.args.toList, ev x = ev' x := fun x hx => h x (by simp [Op.operands, Call.operands]; exact .inr (by simpa using hx));cases c.callee with
  | builtin b =>
   cases b with
   | len =>
    simp only;split
    ·rename_i x hx; rw [hargs x (by rw [hx]; simp)]
    rfl
   | max =>
    simp only;split
    ·rename_i x l hx
     have : l.map ev = l.map ev' := List.map_congr_left fun y hy => hargs y (by rw [hx]; simp [hy]);rw [hargs x (by rw [hx]; simp), this]
    rfl
   | min =>
    simp only;split
    ·rename_i x l hx
     have : l.map ev = l.map ev' := List.map_congr_left fun y hy => hargs y (by rw [hx]; simp [hy]);rw [hargs x (by rw [hx]; simp), this]
    rfl
   | _ => rfl
  | _ => rfl
 | _ => rfl
theorem zJd {c : Call} {f : Operand} (hf : c.callee = .value f) {ev ev' : Operand -> AV} (h : ∀ x ∈ (Op.call c).operands.toList, ev x = ev' x) : ev f = ev' f /\ c.args.toList.map ev = c.args.toList.map ev' :=
 ⟨h f (by simp [Op.operands, Call.operands, hf]), List.map_congr_left fun x hx => h x (by simp [Op.operands, Call.operands]; exact .inr (by simpa using hx))⟩
theorem zKd {p : Bool} {op : Op} {ev ev' : Operand -> AV} (h : ∀ x ∈ op.operands.toList, ev x = ev' x) (v : AV) : yPc P p ev op v = yPc P p ev' op v := by
 have hr := x1a (P := P) h (fun _ => none);cases op with
 | buildSlice T len parts =>
  simp only [yPc];have : parts.toList.map (fun q => (q.1, ev q.2)) = parts.toList.map (fun q => (q.1, ev' q.2)) := List.map_congr_left fun q hq => by rw [h q.2 (by simp [Op.operands]; exact ⟨q.1, by simpa using hq⟩)]
  rw [this]
 | call c =>
  simp only [yPc];cases hc : c.callee with
  | value f =>
   obtain ⟨h1, h2⟩ := zJd hc h;simp only;rw [h1, h2]
  | _ => simp only; rw [hr]
 | _ => simp only [yPc]; rw [hr]
theorem xud {p : Bool} {m : Mem} {op : Op} {ev ev' : Operand -> AV} (h : ∀ x ∈ op.operands.toList, ev x = ev' x) (k : AV -> Mem -> Prop) : WT P p m ev k op = WT P p m ev' k op := by
 cases op with
 | box T x => simp only [WT]; rw [h x (by simp [Op.operands])]
 | store T a x => simp only [WT]; rw [h a (by simp [Op.operands]), h x (by simp [Op.operands])]
 | buildSlice T len parts =>
  simp only [WT];have : parts.toList.map (fun q => (q.1, ev q.2)) = parts.toList.map (fun q => (q.1, ev' q.2)) := List.map_congr_left fun q hq => by rw [h q.2 (by simp [Op.operands]; exact ⟨q.1, by simpa using hq⟩)]
  rw [this]
 | makeSlice T l c => simp only [WT]; rw [h l (by simp [Op.operands]), h c (by simp [Op.operands])]
 | call c =>
  simp only [WT];cases hc : c.callee with
  | value f =>
   obtain ⟨h1, h2⟩ := zJd hc h;simp only;rw [h1, h2]
  | builtin b =>
   have hargs : ∀ x ∈ c.args.toList, ev x = ev' x := fun x hx => h x (by simp [Op.operands, Call.operands]; exact .inr (by simpa using hx));cases b with
   | append =>
    simp only;split
    ·rename_i x y hxy
     rw [hargs x (by rw [hxy]; simp), hargs y (by rw [hxy]; simp)]
    rfl
   | _ => rfl
  | invoke r n => rfl
 | _ => rfl
theorem zyc {m : Mem} {ts : Array TypeId} {s x : AV} {k k' : AV -> Mem -> Prop} (hk : ∀ v m, k v m -> k' v m) (h : zNa P m k ts s x) : zNa P m k' ts s x := by
 unfold zNa at h ⊢;split at h
 ·rename_i T U hT hU
  (try rw [hT, hU])
  obtain ⟨hI, h⟩ := h;refine ⟨hI, ?_⟩;split at h
  ·rename_i E hE
   (try rw [hE])
   (try simp only)
   split at h
   ·rename_i n b z h1 h2 h3
    (try rw [h1, h2, h3])
    obtain ⟨h4, h5, h6, h⟩ := h;refine ⟨h4, h5, h6, ?_⟩;split at h
    ·rename_i ys hys
     (try rw [hys])
     (try simp only)
     split at h
     ·obtain ⟨a, b, c, d⟩ := h;exact ⟨a, b, fun e => hk _ _ (c e), fun e g cc hg hc => hk _ _ (d e g cc hg hc)⟩
     ·rename_i g l c
      split at h
      ·rename_i hg
       (try rw [hg])
       obtain ⟨a, b, c, d, e, f, h⟩ := h;exact ⟨a, b, c, d, e, f, fun g' c' h1 h2 => hk _ _ (h g' c' h1 h2)⟩
      exact h.elim
     exact h.elim
    exact h.elim
   exact h.elim
  exact h.elim
 exact h.elim
theorem yQc {p : Bool} {m : Mem} {op : Op} {ev : Operand -> AV} {k k' : AV -> Mem -> Prop} (hk : ∀ v m, k v m -> k' v m) (h : WT P p m ev k op) : WT P p m ev k' op := by
 cases op with
 | alloc T =>
  simp only [WT] at h ⊢;split at h
  ·exact fun g hg => hk _ _ (h g hg)
  exact h.elim
 | box T x =>
  simp only [WT] at h ⊢;split at h
  ·exact h.elim
  exact fun g hg => hk _ _ (h g hg)
 | store T a x =>
  simp only [WT] at h ⊢;split at h
  ·exact h.elim
  split at h
  ·obtain ⟨h1, h2, h⟩ := h;refine ⟨h1, h2, ?_⟩;split at h
   ·exact hk _ _ h
   exact h.elim
  exact h.elim
 | buildSlice T len parts =>
  simp only [WT] at h ⊢;split at h
  ·obtain ⟨h1, h2, h3, h4, h⟩ := h;refine ⟨h1, h2, h3, h4, ?_⟩;split at h
   ·exact hk _ _ h
   exact h.elim
  exact h.elim
 | makeSlice T l c =>
  simp only [WT] at h ⊢;split at h
  ·split at h
   ·split at h
    ·obtain ⟨h1, h2, h3, h4, h5, h6, h⟩ := h;exact ⟨h1, h2, h3, h4, h5, h6, fun g hg => hk _ _ (h g hg)⟩
    exact h.elim
   exact h.elim
  exact h.elim
 | call c =>
  simp only [WT] at h ⊢;cases hc : c.callee with
  | value f =>
   rw [hc] at h;simp only at h ⊢;split at h
   ·cases p with
    | true => obtain ⟨r, h1, h2⟩ := h; exact ⟨r, h1, hk _ _ h2⟩
    | false => exact zka.mono h hk
   exact h.elim
  | builtin b =>
   rw [hc] at h;cases b with
   | append =>
    simp only at h ⊢;split at h
    ·exact zyc hk h
    exact h.elim
   | _ => exact h
  | invoke r n => rw [hc] at h; exact h
 | _ => exact h
theorem xzc {p : Bool} {o : Oper} {s : St} {K K' : St -> Prop} (hk : ∀ s, K s -> K' s) (h : AOp P p o s K) : AOp P p o s K' := by
 unfold AOp at h ⊢;split at h
 ·rename_i v hv; exact hk _ h
 rename_i hv; exact yQc (fun v m hh => hk _ hh) h
def GOp (P : Program) (p : Bool) (ops : Array Oper) (o : Oper) (s : St) (K : St -> Prop) : Prop :=
 match zGa ops o s with
 | some true => AOp P p o s K
 | some false => K (s.put o.dst (.tup []))
 | none => False
theorem yqb {p : Bool} {ops : Array Oper} {o : Oper} {s : St} {K K' : St -> Prop} (hk : ∀ s, K s -> K' s) (h : GOp P p ops o s K) : GOp P p ops o s K' := by
 unfold GOp at h ⊢;split at h
 ·exact xzc hk h
 ·exact hk _ h
 exact h
theorem y4a {ops : Array Oper} {o : Oper} {s : St} {d : Option Tmp} {v : AV} (h : ∀ t, d = some t -> t ∉ yUa ops o) : (∀ x ∈ o.op.operands.toList, (s.put d v).eval x = s.eval x) /\ zGa ops o (s.put d v) = zGa ops o s := by
 refine ⟨fun x hx => xyc fun t ht hm => h t ht ?_, ?_⟩
 ·unfold yUa;exact List.mem_append.2 (.inl (List.mem_flatMap.2 ⟨x, hx, hm⟩))
 unfold zGa;cases hg : o.guard with
 | none => rfl
 | some q =>
  obtain ⟨j, want⟩ := q;simp only;cases hj : (ops[j]?).bind (·.dst) with
  | none => rfl
  | some t =>
   simp only;have : (s.put d v).sl t = s.sl t := by
    have := xyc (s := s) (d := d) (v := v) (x := .tmp t) (fun t' ht' hm => h t' ht' (by
     simp [zId] at hm;subst hm;unfold yUa;rw [hg];show t' ∈ List.flatMap zId o.op.operands.toList ++ ((ops[j]?).bind (·.dst)).toList;rw [hj];simp))
    simpa [St.eval] using this
   rw [this]
def wrd (P : Program) (p : Bool) (ops : Array Oper) (o : Oper) (s : St) (v : AV) : Prop :=
 match zGa ops o s with
 | some true => if cls p o.op = 0 then yPc P p s.eval o.op v else yGa P s.mem s.eval o.op = some v
 | some false => v = .tup []
 | none => False
theorem wLc {p : Bool} {ops : Array Oper} {o : Oper} (h : cls p o.op <= 1) (s : St) (K : St -> Prop) : GOp P p ops o s K <-> ∃ v, wrd P p ops o s v /\ K (s.put o.dst v) := by
 unfold GOp wrd;cases zGa ops o s with
 | none => simp
 | some b =>
  cases b with
  | false => simp
  | true =>
   simp only;by_cases h0 : cls p o.op = 0
   ·simp only [h0, if_true]; exact wJe h0 s K
   simp only [h0, if_false]; exact wKe (by omega) s K
theorem zNf {p : Bool} {ops : Array Oper} {o : Oper} (h : cls p o.op = 2) (s : St) (K : St -> Prop) : GOp P p ops o s K <-> (match zGa ops o s with
  | some true => WT P p s.mem s.eval (fun v m' => K ((s.put o.dst v).withMem m')) o.op | some false => K (s.put o.dst (.tup [])) | none => False) := by
 unfold GOp;cases zGa ops o s with
 | none => simp
 | some b =>
  cases b with
  | false => simp
  | true => exact wLe h s K
theorem xDa {s : St} {d e : Option Tmp} {v u : AV} (h : ∀ t, d = some t -> e ≠ some t) : (s.put d v).put e u = (s.put e u).put d v := by
 cases d with
 | none => rfl
 | some d =>
  cases e with
  | none => rfl
  | some e =>
   have hne : e ≠ d := fun hh => h d rfl (by rw [hh]);simp only [St.put];congr 1;funext t;by_cases h1 : t = e
   ·subst h1; simp [hne]
   simp [h1]
theorem yrb {p : Bool} {ops : Array Oper} {o : Oper} {s : St} {d : Option Tmp} {v : AV} (h : ∀ t, d = some t -> t ∉ yUa ops o) (u : AV) : wrd P p ops o (s.put d v) u = wrd P p ops o s u := by
 obtain ⟨h1, h2⟩ := y4a (s := s) (v := v) h;unfold wrd;rw [h2, zIb, zKd (P := P) h1, x1a (P := P) h1]
theorem xvd {p : Bool} {ops : Array Oper} {o : Oper} (h0 : cls p o.op = 0) {s : St} {m : Mem} (u : AV) : wrd P p ops o (s.withMem m) u = wrd P p ops o s u := by
 unfold wrd;simp only [h0, if_true];rfl
structure Apart (p : Nat -> Bool) (ops : Array Oper) (i j : Nat) (a b : Oper) : Prop where
 ab : ∀ t, a.dst = some t -> t ∉ yUa ops b
 ba : ∀ t, b.dst = some t -> t ∉ yUa ops a
 dd : ∀ t, a.dst = some t -> b.dst ≠ some t
 c : cls (p i) a.op <= 1 /\ cls (p j) b.op <= 1 ∨ cls (p i) a.op = 0 /\ cls (p j) b.op = 2
theorem xwd {p : Nat -> Bool} {ops : Array Oper} {i j : Nat} {a b : Oper} (h : Apart p ops i j a b) {s : St} {K : St -> Prop} (hk : GOp P (p i) ops a s fun s1 => GOp P (p j) ops b s1 K) : GOp P (p j) ops b s fun s1 => GOp P (p i) ops a s1 K := by
 rcases h.c with ⟨ca, cb⟩ | ⟨ca, cb⟩
 ·rw [wLc ca] at hk;obtain ⟨v, hv, hk⟩ := hk;rw [wLc cb] at hk ⊢;obtain ⟨u, hu, hk⟩ := hk;refine ⟨u, by rw [yrb h.ab] at hu; exact hu, ?_⟩;rw [wLc ca];refine ⟨v, by rw [yrb h.ba]; exact hv, ?_⟩;rw [<- xDa h.dd]; exact hk
 rw [wLc (by omega)] at hk;obtain ⟨v, hv, hk⟩ := hk;rw [zNf cb] at hk ⊢;obtain ⟨h1, h2⟩ := y4a (s := s) (v := v) h.ab;rw [h2] at hk;split at hk
 ·rw [zIb, xud (P := P) h1] at hk;refine yQc (fun u m' hh => ?_) hk;rw [wLc (by omega)];refine ⟨v, by rw [xvd ca, yrb h.ba]; exact hv, ?_⟩;rw [xka, <- xDa h.dd]; exact hh
 ·rw [wLc (by omega)];refine ⟨v, by rw [yrb h.ba]; exact hv, ?_⟩;rw [<- xDa h.dd]; exact hk
 exact hk
end
section
variable {P : Program}
theorem xma {p : Nat -> Bool} {ops : Array Oper} {K : St -> Prop} {i : Nat} {l : List Nat} {s : St} {o : Oper} (ho : ops[i]? = some o) : wRa P p ops K (i :: l) s = GOp P (p i) ops o s (wRa P p ops K l) := by
 simp only [wRa, ho, GOp];try rfl
theorem xEa {p : Nat -> Bool} {ops : Array Oper} {K : St -> Prop} {l l' : List Nat} (h : ∀ s, wRa P p ops K l s -> wRa P p ops K l' s) (i : Nat) (s : St) (hk : wRa P p ops K (i :: l) s) : wRa P p ops K (i :: l') s := by
 cases ho : ops[i]? with
 | none => simp only [wRa, ho] at hk ⊢; exact h s hk
 | some o => rw [xma ho] at hk ⊢; exact yqb h hk
def yRc (p : Nat -> Bool) (ops : Array Oper) (i j : Nat) : Prop := ∀ a b, ops[i]? = some a -> ops[j]? = some b -> Apart p ops i j a b
theorem x9b {p : Nat -> Bool} {ops : Array Oper} {K : St -> Prop} {j : Nat} {l2 : List Nat} : ∀ (l1 : List Nat) (s : St), (∀ i ∈ l1, yRc p ops i j) -> wRa P p ops K (l1 ++ j :: l2) s -> wRa P p ops K (j :: (l1 ++ l2)) s
 | [], s, _, hk => hk
 | i :: l1, s, h, hk => by
  have ih : ∀ s, wRa P p ops K (l1 ++ j :: l2) s -> wRa P p ops K (j :: (l1 ++ l2)) s := fun s => x9b l1 s (fun k hk => h k (by simp [hk]));have hk' := xEa ih i s hk;have hap := h i (by simp);cases hi : ops[i]? with
  | none =>
   simp only [wRa, hi] at hk';show wRa P p ops K (j :: i :: (l1 ++ l2)) s;exact xEa (l := l1 ++ l2) (fun s hs => by simp only [wRa, hi]; exact hs) j s hk'
  | some a =>
   cases hj : ops[j]? with
   | none =>
    show wRa P p ops K (j :: i :: (l1 ++ l2)) s;have e : ∀ l, wRa P p ops K (j :: l) = wRa P p ops K l := fun l => by funext s; simp only [wRa, hj]
    rw [e] ; rw [e] at ih;rw [xma hi] at hk' ⊢;exact yqb (fun s hs => by rw [e] at hs; exact hs) hk'
   | some b =>
    rw [xma hi] at hk';have h2 : GOp P (p i) ops a s fun s1 => GOp P (p j) ops b s1 (wRa P p ops K (l1 ++ l2)) := yqb (fun s1 hs => by rw [xma hj] at hs; exact hs) hk';have h3 := xwd (hap a b hi hj) h2;show wRa P p ops K (j :: i :: (l1 ++ l2)) s;rw [xma hj];exact yqb (fun s1 hs => by rw [xma hi]; exact hs) h3
def direct (o : Oper) : List Nat := (o.after.toList.filter fun e => Region.binds .any e).map (·.on)
def ancs : List Oper -> List (List Nat) -> List (List Nat)
 | [], acc => acc
 | o :: l, acc => ancs l (acc ++ [(direct o ++ (direct o).flatMap fun j => acc.getD j []).eraseDups])
def zLd (p : Nat -> Bool) (ops : Array Oper) (i j : Nat) : Bool :=
 match ops[i]?, ops[j]? with
 | some a, some b => (a.dst.toList.all fun t => !(yUa ops b).contains t) && (b.dst.toList.all fun t => !(yUa ops a).contains t) && (match a.dst, b.dst with | some t, some u => t != u | _, _ => true) &&
   ((cls (p i) a.op <= 1 && cls (p j) b.op <= 1) || (cls (p i) a.op == 0 && cls (p j) b.op == 2))
 | _, _ => true
theorem zzc {p : Nat -> Bool} {ops : Array Oper} {i j : Nat} (h : zLd p ops i j = true) : yRc p ops i j := by
 intro a b ha hb;unfold zLd at h;rw [ha, hb] at h;simp only [Bool.and_eq_true, Bool.or_eq_true, List.all_eq_true, decide_eq_true_eq, beq_iff_eq] at h;obtain ⟨⟨⟨h1, h2⟩, h3⟩, h4⟩ := h;refine ⟨fun t ht hm => ?_, fun t ht hm => ?_, fun t ht hu => ?_, h4⟩
 ·have := h1 t (by simp [ht]); simp [hm] at this
 ·have := h2 t (by simp [ht]); simp [hm] at this
 ·rw [ht, hu] at h3; simp at h3
def wbb (p : Nat -> Bool) (ops : Array Oper) : Bool :=
 let an := ancs ops.toList []
 !Region.departs ops && (List.range ops.size).all fun j => (((ops[j]?).map direct).getD []).all (fun e => e < j) && (List.range j).all fun i => (an.getD j []).contains i || zLd p ops i j
theorem yBa (ops : Array Oper) (L : Nat -> Prop) (hL : ∀ j o, ops[j]? = some o -> L j -> ∀ e ∈ direct o, L e) :
  ∀ (l : List Oper) (acc : List (List Nat)) (n : Nat), acc.length = n -> n <= ops.size -> (∀ q, l[q]? = ops[n + q]?) -> (∀ j o, ops[j]? = some o -> (∀ e ∈ direct o, L e) -> ∀ k ∈ acc.getD j [], L k) ->
   ∀ j o, ops[j]? = some o -> (∀ e ∈ direct o, L e) -> ∀ k ∈ (ancs l acc).getD j [], L k
 | [], acc, n, hn, _, hl, h => h
 | o :: l, acc, n, hn, hn2, hl, h => by
  have hlt : n < ops.size := by
   have := hl 0;simp at this;exact (Array.getElem?_eq_some_iff.1 this.symm).1
  refine yBa ops L hL l _ (n + 1) (by simp [hn]) hlt (fun q => by have := hl (q + 1); rw [<- Nat.add_assoc, Nat.add_right_comm] at this; simpa using this) ?_;intro j o' ho' hd k hk;by_cases hj : j < acc.length
  ·have : (acc ++ [(direct o ++ (direct o).flatMap fun j => acc.getD j []).eraseDups]).getD j [] = acc.getD j [] := by
    simp only [List.getD_eq_getElem?_getD, List.getElem?_append_left hj]
   rw [this] at hk;exact h j o' ho' hd k hk
  ·by_cases hj2 : j = acc.length
   ·have ho : ops[j]? = some o := by have := hl 0; simp at this; rw [hj2, hn]; exact this.symm
    rw [ho] at ho';obtain rfl := Option.some.inj ho';have : (acc ++ [(direct o ++ (direct o).flatMap fun j => acc.getD j []).eraseDups]).getD j [] = (direct o ++ (direct o).flatMap fun j => acc.getD j []).eraseDups := by
     simp [List.getD_eq_getElem?_getD, hj2]
    rw [this] at hk;have hk' := List.mem_eraseDups.1 hk;rcases List.mem_append.1 hk' with hk' | hk'
    ·exact hd k hk'
    ·obtain ⟨e, he, hke⟩ := List.mem_flatMap.1 hk';have hLe := hd e he;cases hoe : ops[e]? with
     | none =>
      have : acc.getD e [] = [] ∨ True := .inr trivial;by_cases hea : e < acc.length
      ·rw [Array.getElem?_eq_none_iff] at hoe; omega
      ·simp [List.getD_eq_getElem?_getD, List.getElem?_eq_none (Nat.not_lt.1 hea)] at hke
     | some oe => exact h e oe hoe (hL e oe hoe hLe) k hke
   ·have : (acc ++ [(direct o ++ (direct o).flatMap fun j => acc.getD j []).eraseDups]).getD j [] = [] := by
     simp [List.getD_eq_getElem?_getD];rw [List.getElem?_eq_none (by simp; omega)]; rfl
    rw [this] at hk; cases hk
def rem (n : Nat) (listed : Array Bool) : List Nat := (List.range n).filter fun i => !listed.getD i true
theorem ySc {n : Nat} {listed : Array Bool} (hs : listed.size = n) {i : Nat} {l1 l2 : List Nat} (h : rem n listed = l1 ++ i :: l2) : rem n (listed.setIfInBounds i true) = l1 ++ l2 := by
 have hnd : (l1 ++ i :: l2).Nodup := by rw [<- h]; exact List.Nodup.sublist List.filter_sublist List.nodup_range
 have hi : i ∈ rem n listed := by rw [h]; simp
 have hin : i < n := List.mem_range.1 (List.mem_filter.1 hi).1;have e1 : rem n (listed.setIfInBounds i true) = (rem n listed).filter fun k => k != i := by
  unfold rem;rw [List.filter_filter];apply List.filter_congr;intro k hk;have hkn := List.mem_range.1 hk;by_cases hki : k = i
  ·subst hki;simp [Array.getD_eq_getD_getElem?, hs, hkn]
  ·simp [Array.getD_eq_getD_getElem?, Array.getElem?_setIfInBounds_ne (Ne.symm hki), hki]
 rw [e1, h, List.filter_append, List.filter_cons];have h1 : ∀ k ∈ l1, (k != i) = true := fun k hk => by
  rw [bne_iff_ne]; rintro rfl;exact (List.nodup_append.1 hnd).2.2 k hk k (by simp) rfl
 have h2 : ∀ k ∈ l2, (k != i) = true := fun k hk => by
  rw [bne_iff_ne]; rintro rfl;exact (List.nodup_cons.1 (List.nodup_append.1 hnd).2.1).1 hk
 rw [List.filter_eq_self.2 h1, List.filter_eq_self.2 h2];simp
theorem zAc {p : Nat -> Bool} {ops : Array Oper} {K : St -> Prop} (hB : wbb p ops = true) : ∀ (fuel t : Nat) (listed : Array Bool) (acc : List Nat), listed.size = ops.size -> fuel = (rem ops.size listed).length ->
  (∀ (j : Nat) (o : Oper), ops[j]? = some o -> listed.getD j true = true -> ∀ e ∈ direct o, listed.getD e true = true) ->
  ∃ π, Region.linearise.go .any ops fuel t listed acc = acc.reverse ++ π /\ ∀ s, wRa P p ops K (rem ops.size listed) s -> wRa P p ops K π s := by
 intro fuel
 induction fuel with
 | zero =>
  intro t listed acc hs hf hc;have : rem ops.size listed = [] := List.eq_nil_of_length_eq_zero hf.symm;rw [this];exact ⟨[], by simp [Region.linearise.go], fun s hk => hk⟩
 | succ fuel ih =>
  intro t listed acc hs hf hc;unfold wbb at hB;simp only [Bool.and_eq_true, List.all_eq_true, List.mem_range, decide_eq_true_eq, Bool.or_eq_true] at hB;obtain ⟨hdep, hB⟩ := hB;have hready : ∀ (i : Nat) (o : Oper), ops[i]? = some o -> (((ops[i]?).map (·.after.all fun e => !Region.binds .any e || listed.getD e.on false)).getD false = true <-> ∀ e ∈ direct o, listed.getD e false = true) := by
   intro i o ho;rw [ho];simp only [Option.map_some, Option.getD_some, Array.all_eq_true', direct, List.mem_map, List.mem_filter];constructor
   ·rintro h e ⟨x, ⟨hx, hb⟩, rfl⟩;have := h x (by simpa using hx);simpa [hb] using this
   ·intro h x hx;cases hb : Region.binds .any x with
    | false => rfl
    | true => simpa using h x.on ⟨x, ⟨by simpa using hx, hb⟩, rfl⟩
  unfold Region.linearise.go;simp only;generalize hrs : ((List.range ops.size).filter fun i => !listed.getD i true && ((ops[i]?).map (·.after.all fun e => !Region.binds .any e || listed.getD e.on false)).getD false) = rs;have hmem : ∀ i, i ∈ rs -> i ∈ rem ops.size listed /\ ∃ o, ops[i]? = some o /\ ∀ e ∈ direct o, listed.getD e false = true := by
   intro i hi;rw [<- hrs] at hi;obtain ⟨h1, h2⟩ := List.mem_filter.1 hi;simp only [Bool.and_eq_true] at h2;refine ⟨List.mem_filter.2 ⟨h1, h2.1⟩, ?_⟩;have hlt := List.mem_range.1 h1;exact ⟨ops[i], by simp [hlt], (hready i _ (by simp [hlt])).1 h2.2⟩
  have hne : rs ≠ [] := by
   -- the least that is not listed is ready
   have hrem : rem ops.size listed ≠ [] := by intro h; rw [h] at hf; simp at hf
   obtain ⟨i, l, hil⟩ := List.exists_cons_of_ne_nil hrem;have hi : i ∈ rem ops.size listed := by rw [hil]; simp
   have hin := List.mem_range.1 (List.mem_filter.1 hi).1;have hiu := (List.mem_filter.1 hi).2;have hleast : ∀ k, k < i -> listed.getD k true = true := by
    intro k hki;cases hk' : listed.getD k true with
    | true => rfl
    | false =>
     have hkm : k ∈ rem ops.size listed := List.mem_filter.2 ⟨List.mem_range.2 (by omega), by simp [hk']⟩;have hp : (rem ops.size listed).Pairwise (· < ·) := List.Pairwise.filter _ List.pairwise_lt_range;rw [hil] at hp hkm;rcases List.mem_cons.1 hkm with rfl | hkm
     ·omega
     ·have := (List.pairwise_cons.1 hp).1 k hkm; omega
   intro hnil;have : i ∈ rs := by
    rw [<- hrs];refine List.mem_filter.2 ⟨List.mem_range.2 hin, ?_⟩;simp only [Bool.and_eq_true];refine ⟨hiu, (hready i ops[i] (by simp [hin])).2 fun e he => ?_⟩;have hlt : e < i := by
     have := (hB i hin).1 e;simp [hin] at this;exact this he
    have := hleast e hlt;simp only [Array.getD_eq_getD_getElem?] at this ⊢;rw [show listed[e]? = some (listed[e]'(by omega)) from by simp] at this ⊢
    simpa using this
   rw [hnil] at this; cases this
  have hpos : 0 < rs.length := List.length_pos_iff.2 hne;have hlt : t % rs.length < rs.length := Nat.mod_lt _ hpos;rw [List.getElem?_eq_getElem hlt];simp only;obtain ⟨hi, o, ho, hd⟩ := hmem _ (List.getElem_mem hlt);generalize rs[t % rs.length] = i at *;obtain ⟨l1, l2, hl⟩ := List.append_of_mem hi;have hset := ySc hs hl;have hin := List.mem_range.1 (List.mem_filter.1 hi).1;have hlisted : ∀ e, listed.getD e false = true -> listed.getD e true = true := by
   intro e he;simp only [Array.getD_eq_getD_getElem?] at he ⊢;cases hq : listed[e]? with
   | none => rfl
   | some b => rw [hq] at he; simpa using he
  have hap : ∀ k ∈ l1, yRc p ops k i := by
   intro k hk1;have hkm : k ∈ rem ops.size listed := by rw [hl]; simp [hk1]
   have hp : (rem ops.size listed).Pairwise (· < ·) := List.Pairwise.filter _ List.pairwise_lt_range;rw [hl] at hp;have hki : k < i := (List.pairwise_append.1 hp).2.2 k hk1 i (by simp);rcases ((hB i hin).2 k hki) with h | h
   ·have hclosed := yBa ops (fun e => listed.getD e true = true) hc ops.toList [] 0 rfl (Nat.zero_le _) (fun q => by simp) (fun j o _ _ k hk => by simp [List.getD_eq_getElem?_getD] at hk) i o ho (fun e he => hlisted e (hd e he)) k (by simpa using h);have := (List.mem_filter.1 hkm).2;rw [hclosed] at this; cases this
   ·exact zzc h
  -- behind i, the rest
  have hc' : ∀ (j : Nat) (o' : Oper), ops[j]? = some o' -> (listed.setIfInBounds i true).getD j true = true -> ∀ e ∈ direct o', (listed.setIfInBounds i true).getD e true = true := by
   intro j o' ho' hj e he;have key : ∀ q, listed.getD q true = true -> (listed.setIfInBounds i true).getD q true = true := by
    intro q hq;by_cases hqi : q = i
    ·subst hqi; simp [Array.getD_eq_getD_getElem?]
    ·simpa [Array.getD_eq_getD_getElem?, Array.getElem?_setIfInBounds_ne (Ne.symm hqi)] using hq
   by_cases hji : j = i
   ·subst hji;rw [ho] at ho';obtain rfl := Option.some.inj ho';exact key e (hlisted e (hd e he))
   ·have : listed.getD j true = true := by simpa [Array.getD_eq_getD_getElem?, Array.getElem?_setIfInBounds_ne (Ne.symm hji)] using hj
    exact key e (hc j o' ho' this e he)
  obtain ⟨π, hgo, hπ⟩ := ih (t / rs.length) (listed.setIfInBounds i true) (i :: acc) (by simpa using hs) (by rw [hset]; rw [hl] at hf; simp at hf ⊢; omega) hc';refine ⟨i :: π, by rw [hgo]; simp, fun s hk => ?_⟩;rw [hl] at hk;have hk2 := x9b l1 s hap hk;rw [hset] at hπ;exact xEa hπ i s hk2
theorem xKb {p : Nat -> Bool} {ops : Array Oper} {K : St -> Prop} (hB : wbb p ops = true) (mixed : Bool) (t : Nat) (s : St) (hk : wRa P p ops K (List.range ops.size) s) : wRa P p ops K (Region.schedule mixed ops t) s := by
 have hdep : Region.departs ops = false := by
  unfold wbb at hB;simp only [Bool.and_eq_true] at hB;simpa using hB.1
 have hsch : Region.schedule mixed ops t = Region.linearise .any ops t := by
  unfold Region.schedule;rw [hdep]; simp
 rw [hsch];have hrem : rem ops.size (Array.replicate ops.size false) = List.range ops.size := by
  unfold rem;rw [List.filter_eq_self];intro i hi;have := List.mem_range.1 hi;simp [Array.getD_eq_getD_getElem?, this]
 obtain ⟨π, hgo, hπ⟩ := zAc (P := P) (K := K) hB ops.size t (Array.replicate ops.size false) [] (by simp) (by rw [hrem]; simp) (fun j o ho hj => by
  have hlt := (Array.getElem?_eq_some_iff.1 ho).1;simp [Array.getD_eq_getD_getElem?, hlt] at hj)
 unfold Region.linearise;rw [hgo, List.reverse_nil, List.nil_append];exact hπ s (by rw [hrem]; exact hk)
end
section
variable {P : Program}
def Lift (C : Ctx) (N : Nat) (Q : Exit -> St -> Prop) : Exit -> Act -> World -> Prop := fun e a w => ∃ s, Q e s /\ Rel C s a w /\ a.tmps.size = N
def AWp (P : Program) (N : Nat) (c : Code) (Q : Exit -> St -> Prop) (s : St) : Prop := ∀ (C : Ctx) (a : Act) (w : World), Rel C s a w -> a.tmps.size = N -> c.wp P (Lift C N Q) a w
theorem AWp.mono {N : Nat} {c : Code} {Q Q' : Exit -> St -> Prop} {s : St} (h : AWp P N c Q s) (hq : ∀ e s, Q e s -> Q' e s) : AWp P N c Q' s :=
 fun C a w hr hN => Code.wp_mono (fun e a w ⟨s', h1, h2⟩ => ⟨s', hq _ _ h1, h2⟩) (h C a w hr hN)
theorem AWp.skip {N : Nat} {Q : Exit -> St -> Prop} {s : St} (h : Q .normal s) : AWp P N .skip Q s := fun C a w hr hN => wp_skip ⟨s, h, hr, hN⟩
theorem AWp.ret {N : Nat} {Q : Exit -> St -> Prop} {s : St} (h : Q .ret s) : AWp P N .ret Q s := fun C a w hr hN => wp_ret ⟨s, h, hr, hN⟩
theorem AWp.exit {N : Nat} {id : Nat} {Q : Exit -> St -> Prop} {s : St} (h : Q (.exit id) s) : AWp P N (.exit id) Q s := fun C a w hr hN => wp_exit ⟨s, h, hr, hN⟩
def wSa (R : St -> Prop) (Q : Exit -> St -> Prop) : Exit -> St -> Prop
 | .normal, s => R s
 | e, s => Q e s
theorem AWp.seq {N : Nat} {x y : Code} {Q : Exit -> St -> Prop} {s : St} (h : AWp P N x (wSa (AWp P N y Q) Q) s) : AWp P N (.seq x y) Q s := fun C a w hr hN =>
 wp_seq (Code.wp_mono (fun e a' w' ⟨s', h1, h2, h3⟩ => by
  cases e with
  | normal => exact h1 C a' w' h2 h3
  | _ => exact ⟨s', h1, h2, h3⟩) (h C a w hr hN))
theorem zMd {C : Ctx} {s : St} {a : Act} {w : World} (hr : Rel C s a w) {c : Operand} {b : Bool} (h : s.eval c = .bool b) : a.eval c = .bool b := by
 obtain ⟨S, _, _, hsl⟩ := hr.ex;have := ynb hsl c;rw [h] at this;generalize a.eval c = v at this;cases this; rfl
theorem AWp.cond {N : Nat} {c : Operand} {x y : Code} {Q : Exit -> St -> Prop} {s : St} {b : Bool} (hc : s.eval c = .bool b) (ht : b = true -> AWp P N x Q s) (hf : b = false -> AWp P N y Q s) : AWp P N (.cond c x y) Q s := fun C a w hr hN => by
 refine wp_cond (zMd hr hc) ?_;cases b
 ·exact hf rfl C a w hr hN
 exact ht rfl C a w hr hN
def w9a (id : Nat) (Q : Exit -> St -> Prop) : Exit -> St -> Prop
 | .exit id', s => if id' = id then Q .normal s else Q (.exit id') s
 | e, s => Q e s
theorem AWp.block {N : Nat} {id : Nat} {c : Code} {Q : Exit -> St -> Prop} {s : St} (h : AWp P N c (w9a id Q) s) : AWp P N (.block id c) Q s := fun C a w hr hN =>
 wp_block (Code.wp_mono (fun e a' w' ⟨s', h1, h2, h3⟩ => by
  cases e with
  | exit id' =>
   simp only [w9a, Exit.inBlock] at h1 ⊢;split <;> rename_i hi
   ·rw [if_pos hi] at h1; exact ⟨s', h1, h2, h3⟩
   rw [if_neg hi] at h1; exact ⟨s', h1, h2, h3⟩
  | _ => exact ⟨s', h1, h2, h3⟩) (h C a w hr hN))
theorem AWp.loop {N : Nat} {c : Code} {Q : Exit -> St -> Prop} {s : St} (I : Nat -> St -> Prop) (n : Nat) (h0 : I n s) (round : ∀ n s, I n s -> AWp P N c (wSa (fun s' => ∃ m, m < n /\ I m s') Q) s) : AWp P N (.loop c) Q s := by
 intro C a w hr hN b k cs;have key : ∀ n s a w, I n s -> Rel C s a w -> a.tmps.size = N ->
   ∃ e a' w', Lift C N Q e a' w' /\ Arrives P (lone (b.at a (.code c :: .inLoop c :: k)) cs w) b k cs e a' w' := by
  intro n
  induction n using Nat.strongRecOn with
  | _ n ih =>
   intro s a w hI hr hN;obtain ⟨e, a₁, w₁, ⟨s₁, hq, hr₁, hN₁⟩, harr⟩ := round n s hI C a w hr hN b (.inLoop c :: k) cs;cases e with
   | normal =>
    obtain ⟨m, hlt, hI₁⟩ := hq;obtain ⟨e₂, a₂, w₂, hq₂, harr₂⟩ := ih m hlt s₁ a₁ w₁ hI₁ hr₁ hN₁;exact ⟨e₂, a₂, w₂, hq₂, .of_steps (Steps.trans harr (.one step_inLoop)) harr₂⟩
   | exit id => exact ⟨_, a₁, w₁, ⟨s₁, hq, hr₁, hN₁⟩, .pass (x := .inLoop c) rfl (fun _ _ => .inl (by simp)) harr⟩
   | goto l => exact ⟨_, a₁, w₁, ⟨s₁, hq, hr₁, hN₁⟩, .pass (x := .inLoop c) rfl (fun _ _ => .inl (by simp)) harr⟩
   | ret => exact ⟨_, a₁, w₁, ⟨s₁, hq, hr₁, hN₁⟩, .pass (x := .inLoop c) rfl (fun _ _ => .inl (by simp)) harr⟩
   | panic ch => exact ⟨_, a₁, w₁, ⟨s₁, hq, hr₁, hN₁⟩, .pass (x := .inLoop c) rfl (fun _ _ => .inl (by simp)) harr⟩
   | outgrown => exact ⟨_, a₁, w₁, ⟨s₁, hq, hr₁, hN₁⟩, .pass (x := .inLoop c) rfl (fun _ _ => .inl (by simp)) harr⟩
 obtain ⟨e, a', w', hq, harr⟩ := key n s a w h0 hr hN;exact ⟨e, a', w', hq, .of_steps (.one step_loop) harr⟩
def ygb (P : Program) (p : Nat -> Bool) (ops : Array Oper) (K : St -> Prop) : Nat -> List Oper -> St -> Prop
 | _, [], s => K s
 | i, o :: l, s => GOp P (p i) ops o s (ygb P p ops K (i + 1) l)
theorem xAc {p : Nat -> Bool} {ops : Array Oper} {K : St -> Prop} : ∀ (l : List Oper) (i : Nat), (∀ j, l[j]? = ops[i + j]?) -> wRa P p ops K (List.range' i l.length) = ygb P p ops K i l
 | [], i, _ => rfl
 | o :: l, i, h => by
  have h0 : ops[i]? = some o := by simpa using (h 0).symm
  have ih := xAc (p := p) (K := K) l (i + 1) (fun j => by have := h (j + 1); simpa [Nat.add_assoc, Nat.add_comm 1 j] using this);funext s;simp only [List.length_cons, List.range'_succ, ygb];rw [xma h0, ih]
def xmd (N : Nat) (ops : Array Oper) : Bool := ops.all fun o => match o.dst with | some d => d < N | none => true
def y5e (N : Nat) (p : Nat -> Bool) (ops : Array Oper) (draw : Bool) : Bool := xmd N ops && (!draw || wbb p ops)
theorem AWp.region {N : Nat} {id : Nat} {ops : Array Oper} {draw : Bool} {Q : Exit -> St -> Prop} {s : St} (p : Nat -> Bool) (hB : y5e N p ops draw = true) (h : ygb P p ops (Q .normal) 0 ops.toList s) : AWp P N (.region id ops draw) Q s := by
 intro C a w hr hN;unfold y5e at hB;simp only [Bool.and_eq_true, Bool.or_eq_true] at hB;obtain ⟨hd, ho⟩ := hB;have hb : ∀ (j : Nat) (d : Tmp), (ops[j]?).bind (·.dst) = some d -> d < N := by
  intro j d hj;unfold xmd at hd;rw [Array.all_eq_true'] at hd;cases hq : ops[j]? with
  | none => rw [hq] at hj; cases hj
  | some o =>
   rw [hq] at hj;have := hd o (Array.mem_of_getElem? hq);simp at hj;rw [hj] at this;simpa using this
 rw [<- xAc ops.toList 0 (fun j => by simp), Array.length_toList, <- List.range_eq_range'] at h;have hQ : xKa C (Q .normal) N (Lift C N Q .normal) := fun s a w h1 h2 h3 => ⟨s, h1, h2, h3⟩;cases draw with
 | false => exact wp_region (xLa hb hQ _ s a w hr hN h)
 | true =>
  have ho' : wbb p ops = true := by simpa using ho
  refine wp_region_draw fun t => ?_;refine xLa hb hQ _ s a _ ?_ hN (xKb ho' _ t s h);obtain ⟨S, h1, h2, h3⟩ := hr.ex;exact ⟨⟨S, h1, yTa h2 _, fun t => Rep.mono (w := w) (w' := { w with drawn := w.drawn + 1 }) (fun _ _ => rfl) (fun _ h => h) (h3 t)⟩, hr.defers, hr.keep.drew _, hr.dom⟩
def View (m : Mem) (r : AV) (m' : Mem) (r' : AV) : Prop :=
 ∀ w S v, zva w S m -> Rep w S r v -> ∃ S', (∀ b, S b -> S' b) /\ (∀ b, S' b -> S b ∨ m b ≠ none) /\ zva w S' m' /\ Rep w S' r' v /\ ∀ g b, m' g = some b -> m g ≠ none
theorem View.refl (m : Mem) (r : AV) : View m r m r := fun w S v h1 h2 => ⟨S, fun _ h => h, fun _ h => .inl h, h1, h2, fun g b h => by rw [h]; simp⟩
theorem View.trans {m m1 m2 : Mem} {r r1 r2 : AV} (h : View m r m1 r1) (k : View m1 r1 m2 r2) : View m r m2 r2 := fun w S v h1 h2 => by
 obtain ⟨S1, a1, a2, a3, a4, a5⟩ := h w S v h1 h2;obtain ⟨S2, b1, b2, b3, b4, b5⟩ := k w S1 v a3 a4;refine ⟨S2, fun b hb => b1 b (a1 b hb), fun b hb => ?_, b3, b4, fun g b hg => ?_⟩
 ·rcases b2 b hb with h | h
  ·exact a2 b h
  cases hq : m1 b with
  | none => exact absurd hq h
  | some x => exact .inr (a5 b x hq)
 cases hq : m1 g with
 | none => exact absurd hq (b5 g b hg)
 | some x => exact a5 g x hq
theorem View.fo {m m' : Mem} (h : ∀ g b, m' g = some b -> m g = some b) (r : AV) : View m r m' r := fun w S v h1 h2 =>
 ⟨S, fun _ h => h, fun _ h => .inl h, ⟨fun g b hg => h1.blk g b (h g b hg), fun b hb => ⟨(by
  cases hq : m' b with
  | none => rfl
  | some x => have := (h1.apart b hb).1; rw [h b x hq] at this; cases this), (h1.apart b hb).2⟩⟩, h2, fun g b hg => by rw [h g b hg]; simp⟩
theorem View.freeze {m : Mem} {g n c e : Nat} {T : TypeId} {xs : List AV} (hg : m g = some (.arr T e c xs)) (hn : xs.length = n) : View m (.own g n c) (m.del g) (.lst false e xs) := fun w S v h1 h2 => by
 obtain ⟨vs, us, hb, hr, hl, he, hle⟩ := h1.blk g _ hg;have hSS : ∀ b, S b -> S b ∨ b = g := fun b hb => .inl hb;refine ⟨fun b => S b ∨ b = g, hSS, fun b hb => hb.imp id (fun h => by rw [h, hg]; simp), ⟨fun g' b' hg' => ?_, fun b hb => ?_⟩, ?_, fun g' b' hg' => ?_⟩
 ·unfold Mem.del at hg';split at hg'
  ·cases hg'
  exact (h1.blk g' b' hg').mono (fun _ _ => rfl) hSS rfl
 ·rcases hb with hb | rfl
  ·refine ⟨?_, (h1.apart b hb).2⟩;unfold Mem.del;split
   ·rfl
   exact (h1.apart b hb).1
  exact ⟨by simp [Mem.del], (Array.getElem?_eq_some_iff.1 hb).1⟩
 ·cases h2;subst hn;exact .lst false e g 0 c (.inr rfl) he hle (fun h => by cases h) (Cells.of_block hb (hr.mono (fun _ _ => rfl) hSS) 0 (fun i v hv => by
   have : i < vs.length := (List.getElem?_eq_some_iff.1 hv).1;simp [List.getElem?_append_left this, hv]))
 unfold Mem.del at hg';split at hg'
 ·cases hg'
 rw [hg']; simp
def zQa (P : Program) (m : Mem) (sl : Nat -> AV) : List ResultVar -> Option (List AV)
 | [] => some []
 | .tmp t :: l => match zQa P m sl l with | some vs => some (sl t :: vs) | none => none
 | .cell a t :: l => match y3a P m t (sl a), zQa P m sl l with | some v, some vs => some (v :: vs) | _, _ => none
def z8e (tmps : Array Value) : ResultVar -> Sem Value
 | .tmp t => pure (tmps.getD t undef)
 | .cell b t => do loadVar t (<- asAddr (tmps.getD b undef))
theorem wMc (fn : Func) (tmps : Array Value) : results fn tmps = (fn.results.mapM (z8e tmps) >>= fun vs => pure (if h : vs.size = 1 then vs[0] else .tuple vs)) := by
 unfold results;congr 2
theorem zLb {w : World} {S : Nat -> Prop} {m : Mem} (hm : zva w S m) {s : St} (hs : s.mem = m) {a : Act} (hsl : ∀ t, Rep w S (s.sl t) (a.tmps.getD t undef)) : ∀ (l : List ResultVar) (vs : List AV), zQa P m s.sl l = some vs ->
  ∃ us, (l.mapM (z8e a.tmps)).run P w = .ok us w /\ Reps w S vs us
 | [], vs, h => by
  obtain rfl := Option.some.inj h;exact ⟨[], rfl, .nil⟩
 | .tmp t :: l, vs, h => by
  simp only [zQa] at h;split at h
  ·rename_i vs' hv
   obtain rfl := Option.some.inj h;obtain ⟨us, h1, h2⟩ := zLb hm hs hsl l vs' hv;refine ⟨_ :: us, ?_, .cons (hsl t) h2⟩;rw [List.mapM_cons];simp only [z8e, pure_bind, Sem.run_bind, h1, Result.andThen_ok, Sem.run_pure]
  cases h
 | .cell b t :: l, vs, h => by
  simp only [zQa] at h;split at h
  ·rename_i v vs' hv hvs
   obtain rfl := Option.some.inj h;obtain ⟨us, h1, h2⟩ := zLb hm hs hsl l vs' hvs;obtain ⟨u, h3, h4⟩ := yNb (P := P) hm (hsl b) hv;refine ⟨u :: us, ?_, .cons h4 h2⟩;have h5 : (z8e a.tmps (.cell b t)).run P w = .ok u w := by
    show ((do loadVar t (<- asAddr (a.tmps.getD b undef))) : Sem Value).run P w = .ok u w
    generalize a.tmps.getD b undef = q at h3 ⊢;cases q with
    | pointer o =>
     cases o with
     | none => simp [Instr.loadAt, Instr.sureAddr] at h3
     | some ad => simpa [Instr.loadAt, Instr.sureAddr, asAddr] using h3
    | _ => simp [Instr.loadAt, Instr.sureAddr] at h3
   rw [List.mapM_cons];rw [zEa h5];simp only [Sem.run_bind, h1, Result.andThen_ok, Sem.run_pure]
  cases h
def yhb : List AV -> AV
 | [v] => v
 | vs => .tup vs
def Post (P : Program) (fn : Func) (k : AV -> Mem -> Prop) : Exit -> St -> Prop
 | .normal, s | .ret, s => ∃ vs r m', zQa P s.mem s.sl fn.results.toList = some vs /\ View s.mem (yhb vs) m' r /\ k r m'
 | _, _ => False
theorem wOb {w : World} {S : Nat -> Prop} {s : St} (hm : zva w S s.mem) {a : Act} (hsl : ∀ t, Rep w S (s.sl t) (a.tmps.getD t undef)) {fn : Func} {vs : List AV} (h : zQa P s.mem s.sl fn.results.toList = some vs) :
  ∃ v, (results fn a.tmps).run P w = .ok v w /\ Rep w S (yhb vs) v := by
 obtain ⟨us, h1, h2⟩ := zLb (P := P) hm rfl hsl _ _ h;have hl := h2.length;have hrun : (fn.results.mapM (z8e a.tmps)).run P w = .ok us.toArray w := by
  rw [<- Array.toArray_toList (xs := fn.results), List.mapM_toArray];simp only [Sem.run_map, h1, Result.andThen_ok]
 rw [wMc, zEa hrun];cases vs with
 | nil => cases h2; exact ⟨_, rfl, .tup .nil⟩
 | cons v vs =>
  cases h2 with
  | cons hv ht =>
   cases vs with
   | nil => cases ht; exact ⟨_, rfl, hv⟩
   | cons v' vs =>
    cases ht with
    | cons hv' ht => exact ⟨_, by simp, .tup (.cons hv (.cons hv' ht))⟩
def St.init (args : List AV) (m : Mem) : St := ⟨fun t => args.getD t (.tup []), m⟩
theorem xxd {w : World} {S : Nat -> Prop} {args : List AV} {cargs : List Value} (h : Reps w S args cargs) (k : Nat) (m : Mem) : ∀ t, Rep w S ((St.init args m).sl t) ((cargs.toArray ++ Array.replicate k undef).getD t undef) := by
 intro t;have hu : Rep w S (.tup []) undef := Rep.tup .nil;have hl := h.length;simp only [St.init, List.getD_eq_getElem?_getD, Array.getD_eq_getD_getElem?];by_cases ht : t < args.length
 ·obtain ⟨v, hv, hr⟩ := h.get t args[t] (List.getElem?_eq_getElem ht);rw [List.getElem?_eq_getElem ht, Array.getElem?_append_left (by simp; omega)];simp [hv]; exact hr
 rw [List.getElem?_eq_none (by omega)];rw [Array.getElem?_append_right (by simp; omega)];by_cases h2 : t - cargs.toArray.size < k
 ·rw [Array.getElem?_replicate]; simp [h2]; split <;> exact hu
 rw [Array.getElem?_eq_none (by simp at h2 ⊢; omega)]; exact hu
theorem xBc {n : FuncId} {fn : Func} {c : Code} (hf : P.funcs[n]? = some fn) (hname : (fn.name == "runtime.NumGoroutine") = false) (hb : fn.body = some c) {args : List AV} (hN : args.length <= fn.ntmps) {m : Mem} {k : AV -> Mem -> Prop}
  (h : AWp P fn.ntmps c (Post P fn k) (St.init args m)) : zka P n args m k := by
 refine ⟨⟨fn, hf, hname, by rw [hb]; rfl⟩, fun w S cargs hm hr => ?_⟩;have hl := hr.length;refine calls_of_wp hf hb ?_
 let C : Ctx := ⟨w, fun g => m g ≠ none, S⟩
 have hrel : Rel C (St.init args m) { tmps := cargs.toArray ++ Array.replicate (fn.ntmps - cargs.toArray.size) undef, defers := [] } w :=
  ⟨⟨S, ⟨fun _ h => h, fun _ h => .inl h⟩, hm, xxd hr _ m⟩, rfl, Keep.refl _ _, fun g b hg => .inl (by show m g ≠ none; rw [show m g = some b from hg]; simp)⟩
 refine Code.wp_mono ?_ (h C _ w hrel (by simp; omega));rintro e a' w' ⟨s, hpost, hrel', hN'⟩;obtain ⟨S', hS, hm', hsl⟩ := hrel'.ex;have fin : (∃ vs r m', zQa P s.mem s.sl fn.results.toList = some vs /\ View s.mem (yhb vs) m' r /\ k r m') -> a'.defers = [] /\ ∃ v, (results fn a'.tmps).run P w' = .ok v w' /\ ∃ v' r m'' S'', Ending.returned v = .returned v' /\ k r m'' /\ (∀ b, S b -> S'' b) /\ (∀ b, S'' b -> S b ∨ m b ≠ none ∨ w.heap.size <= b) /\ zva w' S'' m'' /\ Rep w' S'' r v' /\ Keep (fun g => m g ≠ none) w w' /\ (∀ g b, m'' g = some b -> m g ≠ none ∨ w.heap.size <= g) := by
  rintro ⟨vs, r, m', h1, h2, h3⟩;obtain ⟨v, hv, hrv⟩ := wOb (P := P) hm' hsl h1;obtain ⟨S'', q1, q2, q3, q4, q5⟩ := h2 w' S' v hm' hrv;have hD : ∀ b, s.mem b ≠ none -> m b ≠ none ∨ w.heap.size <= b := fun b hb => by
   cases hq : s.mem b with
   | none => exact absurd hq hb
   | some x => exact hrel'.dom b x hq
  refine ⟨hrel'.defers, v, hv, v, r, m', S'', rfl, h3, fun b hb => q1 b (hS.1 b hb), fun b hb => ?_, q3, q4, hrel'.keep, fun g b hg => hD g (q5 g b hg)⟩;rcases q2 b hb with h | h
  ·exact hS.2 b h
  exact .inr (hD b h)
 cases e with
 | normal => exact fin hpost
 | ret => exact fin hpost
 | _ => exact hpost.elim
theorem xyd {n : FuncId} {fn : Func} {c : Code} (hf : P.funcs[n]? = some fn) (hname : (fn.name == "runtime.NumGoroutine") = false) (hb : fn.body = some c) {args : List AV} (hN : args.length <= fn.ntmps) {r : AV}
  (h : AWp P fn.ntmps c (Post P fn fun r' _ => r' = r) (St.init args fun _ => none)) : zca P n args r := by
 have hw := xBc hf hname hb hN h;refine ⟨hw.1, fun w S cargs m hm hr => ?_⟩;have hm0 : zva w S (fun _ => none) := ⟨(fun g b h => by cases h), fun b hb => ⟨rfl, (hm.apart b hb).2⟩⟩;refine zma (hw.2 w S cargs hm0 hr) ?_;rintro e w' ⟨v, r', m', S', rfl, rfl, h1, h2, h3, h4, h5, h6⟩;have hk : Keep (fun _ => False) w w' := h5.mono (fun b h => absurd rfl h);refine ⟨v, S', rfl, h1, fun b hb => (h2 b hb).imp id (fun h => h.elim (fun h => absurd rfl h) id), ⟨fun g b hg => ?_, fun b hb => ?_⟩, h4, hk⟩
 ·have hlt := (hm.blk g b hg).lt;exact (hm.blk g b hg).mono (fun b' hb' => hk.block b' (hm.apart b' hb').2 id) h1 (hk.block g hlt id)
 refine ⟨?_, (h3.apart b hb).2⟩;rcases h2 b hb with h | h | h
 ·exact (hm.apart b h).1
 ·exact absurd rfl h
 cases hq : m b with
 | none => rfl
 | some x => have := (hm.blk b x hq).lt; omega
end
section
variable {P : Program}
theorem z2a (x : ByteArray) : x.size = x.data.toList.length := by rw [Array.length_toList]; rfl
theorem yVb (x : ByteArray) : ∀ (n i : Nat) (r : List UInt8), x.size - i = n -> ByteArray.toList.loop x i r = r.reverse ++ x.data.toList.drop i
 | 0, i, r, h => by
  rw [ByteArray.toList.loop];have : ¬ i < x.size := by omega
  rw [if_neg this, List.drop_eq_nil_of_le (by have := z2a x; omega)];simp
 | n + 1, i, r, h => by
  rw [ByteArray.toList.loop];have hi : i < x.size := by omega
  have hl : i < x.data.toList.length := by have := z2a x; omega
  rw [if_pos hi, yVb x n (i + 1) _ (by omega), List.drop_eq_getElem_cons hl];have : x.get! i = x.data.toList[i] := by
   simp only [ByteArray.get!];rw [getElem!_pos x.data i (show i < x.data.size from hi)]
   simp
  simp [this]
theorem wcb (x : ByteArray) : x.toList = x.data.toList := by
 have := yVb x _ 0 [] rfl;simpa [ByteArray.toList] using this
theorem xzd (x y : ByteArray) : x.toList = y.toList <-> x = y := ⟨fun h => by rw [wcb, wcb] at h; cases x; cases y; simpa using h, fun h => by rw [h]⟩
@[simp] theorem yYa (s : St) (d t : Tmp) (v : AV) : (s.put (some d) v).sl t = if t = d then v else s.sl t := (_root_.id rfl)
@[simp] theorem y6e (s : St) (v : AV) : s.put none v = s := (_root_.id rfl)
@[simp] theorem wsd (s : St) (m : Mem) (t : Tmp) : (s.withMem m).sl t = s.sl t := (_root_.id rfl)
@[simp] theorem w6d (s : St) (m : Mem) : (s.withMem m).mem = m := (_root_.id rfl)
@[simp] theorem y7e (s : St) (d : Tmp) (v : AV) : (s.put (some d) v).mem = s.mem := (_root_.id rfl)
@[simp] theorem z9e (l : List AV) (m : Mem) (t : Tmp) : (St.init l m).sl t = l.getD t (.tup []) := (_root_.id rfl)
@[simp] theorem y8e (l : List AV) (m : Mem) : (St.init l m).mem = m := (_root_.id rfl)
@[simp] theorem y9e (s : St) (t : Tmp) : s.eval (.tmp t) = s.sl t := (_root_.id rfl)
@[simp] theorem zUe (s : St) (v : Value) : s.eval (.const v) = wKa v := (_root_.id rfl)
@[simp] theorem zBc (s : St) (f : FuncId) : s.eval (.func f) = .func (.func f) [] := (_root_.id rfl)
@[simp] theorem zVe (k : IntKind) (n : Int) : wKa (.int k n) = .int k n := (_root_.id rfl)
@[simp] theorem w7d (b : Bool) : wKa (.bool b) = .bool b := (_root_.id rfl)
@[simp] theorem zWe (s : ByteArray) : wKa (.string s) = .str s := (_root_.id rfl)
@[simp] theorem zXe : wKa (.slice none 0 0) = .lst true 0 [] := (_root_.id rfl)
@[simp] theorem w8d : wKa (.pointer none) = .nilp := (_root_.id rfl)
@[simp] theorem yae (cs : List AV) : (AV.agg cs).cells = cs := (_root_.id rfl)
@[simp] theorem ybe (k : IntKind) (n : Int) : (AV.int k n).cells = [.int k n] := (_root_.id rfl)
@[simp] theorem zYe (b : Bool) : (AV.bool b).cells = [.bool b] := (_root_.id rfl)
@[simp] theorem yce (s : ByteArray) : (AV.str s).cells = [.str s] := (_root_.id rfl)
@[simp] theorem yde (f : Bool) (e : Nat) (xs : List AV) : (AV.lst f e xs).cells = [.lst f e xs] := (_root_.id rfl)
@[simp] theorem yee (g n c : Nat) : (AV.own g n c).cells = [.own g n c] := (_root_.id rfl)
@[simp] theorem zaa (m : Mem) (g : Nat) (b : Blk) : m.set g b g = some b := m.set_same g b
@[simp] theorem xFa (m : Mem) (g : Nat) (b b' : Blk) : (m.set g b).set g b' = m.set g b' := by funext k; simp only [Mem.set]; split <;> rfl
@[simp] theorem wtd (R : St -> Prop) (Q : Exit -> St -> Prop) (s : St) : wSa R Q .normal s = R s := (_root_.id rfl)
@[simp] theorem yfe (R : St -> Prop) (Q : Exit -> St -> Prop) (s : St) : wSa R Q .ret s = Q .ret s := (_root_.id rfl)
@[simp] theorem zZe (R : St -> Prop) (Q : Exit -> St -> Prop) (i : Nat) (s : St) : wSa R Q (.exit i) s = Q (.exit i) s := (_root_.id rfl)
@[simp] theorem xAd (id : Nat) (Q : Exit -> St -> Prop) (s : St) : w9a id Q .normal s = Q .normal s := (_root_.id rfl)
@[simp] theorem z0e (id : Nat) (Q : Exit -> St -> Prop) (s : St) : w9a id Q .ret s = Q .ret s := (_root_.id rfl)
@[simp] theorem w9d (id i : Nat) (Q : Exit -> St -> Prop) (s : St) : w9a id Q (.exit i) s = if i = id then Q .normal s else Q (.exit i) s := (_root_.id rfl)
@[simp] theorem xye (p : Nat -> Bool) (ops : Array Oper) (K : St -> Prop) (i : Nat) (s : St) : ygb P p ops K i [] s = K s := (_root_.id rfl)
@[simp] theorem yge (p : Nat -> Bool) (ops : Array Oper) (K : St -> Prop) (i : Nat) (s : St) (d : Option Tmp) (op : Op) (T : TypeId) (pos : String) (af : Array Edge) (l : List Oper) :
  ygb P p ops K i (⟨d, op, T, pos, af, none⟩ :: l) s = AOp P (p i) ⟨d, op, T, pos, af, none⟩ s (ygb P p ops K (i + 1) l) := rfl
def gv (ops : Array Oper) (j : Nat) (s : St) : AV := match (ops[j]?).bind (·.dst) with | some t => s.sl t | none => .undef
def zVa (v : AV) (want : Bool) (X Y : Prop) : Prop := match v with
 | .bool b => if b = want then X else Y
 | .tup [] => Y
 | _ => False
@[congr] theorem xnd {v v' : AV} {w : Bool} {X Y : Prop} (h : v = v') : zVa v w X Y = zVa v' w X Y := by rw [h]
@[simp] theorem zae (X Y : Prop) : zVa (.bool true) true X Y = X := by simp [zVa]
@[simp] theorem zbe (X Y : Prop) : zVa (.bool false) false X Y = X := by simp [zVa]
@[simp] theorem zce (X Y : Prop) : zVa (.bool true) false X Y = Y := by simp [zVa]
@[simp] theorem zde (X Y : Prop) : zVa (.bool false) true X Y = Y := by simp [zVa]
@[simp] theorem xBd (w : Bool) (X Y : Prop) : zVa (.tup []) w X Y = Y := by simp [zVa]
theorem zja {c w : Bool} {X Y : Prop} (h1 : c = w -> X) (h2 : c = !w -> Y) : zVa (.bool c) w X Y := by
 unfold zVa;by_cases h : c = w
 ·simpa [h] using h1 h
 simpa [h] using h2 (by cases c <;> cases w <;> simp_all)
@[simp] theorem yhe (p : Nat -> Bool) (ops : Array Oper) (K : St -> Prop) (i : Nat) (s : St) (d : Option Tmp) (op : Op) (T : TypeId) (pos : String) (af : Array Edge) (j : Nat) (want : Bool) (l : List Oper) :
  ygb P p ops K i (⟨d, op, T, pos, af, some (j, want)⟩ :: l) s =
  zVa (gv ops j s) want (AOp P (p i) ⟨d, op, T, pos, af, none⟩ s (ygb P p ops K (i + 1) l)) (ygb P p ops K (i + 1) l (s.put d (.tup []))) := by
 show GOp P (p i) ops _ s _ = _;unfold GOp zGa gv zVa;simp only;cases hj : (ops[j]?).bind (·.dst) with
 | none => rfl
 | some t =>
  simp only;cases hs : s.sl t with
  | bool b =>
   simp only;by_cases h : b = want
   ·subst h; simp; rfl
   have : (b == want) = false := by simpa using h
   simp [this, h]
  | tup l => cases l <;> rfl
  | _ => rfl
@[simp] theorem zOf (ops : Array Oper) (j : Nat) (s : St) : gv ops j s = match (ops[j]?).bind (·.dst) with | some t => s.sl t | none => .undef := (_root_.id rfl)
section
variable (p : Bool) (s : St) (K : St -> Prop) (d : Option Tmp) (T : TypeId) (pos : String) (af : Array Edge) (g : Option (Nat × Bool))
@[simp] theorem xae (x : Operand) : AOp P p ⟨d, .move x, T, pos, af, g⟩ s K = K (s.put d (s.eval x)) := (_root_.id rfl)
@[simp] theorem z1e (x : Operand) : AOp P p ⟨d, .assign x, T, pos, af, g⟩ s K = K (s.put d (s.eval x)) := (_root_.id rfl)
@[simp] theorem xbe (c a b : Operand) : AOp P p ⟨d, .pick c a b, T, pos, af, g⟩ s K = match s.eval c with | .bool t => K (s.put d (if t then s.eval a else s.eval b)) | _ => False := by
 simp only [AOp, yGa]; cases s.eval c <;> rfl
def goO (x : Option AV) (d : Option Tmp) (s : St) (K : St -> Prop) : Prop := match x with | some v => K (s.put d v) | none => False
theorem xMa {p : Bool} {o : Oper} {s : St} {K : St -> Prop} {x : Option AV} (h : yGa P s.mem s.eval o.op = x) (hw : ∀ k, WT P p s.mem s.eval k o.op -> False) : AOp P p o s K = goO x o.dst s K := by
 subst h;unfold AOp goO;cases yGa P s.mem s.eval o.op with
 | some v => rfl
 | none => exact eq_false (hw _)
@[simp] theorem xce (v : AV) : goO (some v) d s K = K (s.put d v) := (_root_.id rfl)
@[simp] theorem xze (op : BinOp) (U : TypeId) (x y : Operand) (V : TypeId) : AOp P p ⟨d, .binOp op U x y V, T, pos, af, g⟩ s K = goO (match yia op (s.eval x) (s.eval y) with | some v => some v | none => eqO P op U (s.eval x) (s.eval y)) d s K := by
 exact xMa rfl (fun _ h => h)
@[simp] theorem wMe (op : UnOp) (U : TypeId) (x : Operand) : AOp P p ⟨d, .unOp op U x, T, pos, af, g⟩ s K = goO (unA op (s.eval x)) d s K := by
 exact xMa rfl (fun _ h => h)
@[simp] theorem xde (U V : TypeId) (x : Operand) : AOp P p ⟨d, .convert U V x, T, pos, af, g⟩ s K = goO (wzc P U V (s.eval x)) d s K := by
 exact xMa rfl (fun _ h => h)
@[simp] theorem yie (U : TypeId) (x : Operand) (f : Nat) : AOp P p ⟨d, .fieldAddr U x f, T, pos, af, g⟩ s K = goO (yLb P U f (s.eval x)) d s K := by
 exact xMa rfl (fun _ h => h)
@[simp] theorem yje (U : TypeId) (x : Operand) (f : Nat) : AOp P p ⟨d, .field U x f, T, pos, af, g⟩ s K = goO (x2b P U f (s.eval x)) d s K := by
 exact xMa rfl (fun _ h => h)
@[simp] theorem xee (U : TypeId) (x : Operand) : AOp P p ⟨d, .load U x, T, pos, af, g⟩ s K = goO (y3a P s.mem U (s.eval x)) d s K := by
 exact xMa rfl (fun _ h => h)
@[simp] theorem yke (U : TypeId) (x i : Operand) : AOp P p ⟨d, .indexAddr U x i, T, pos, af, g⟩ s K = goO (yga P s.mem U (s.eval x) (s.eval i)) d s K := by
 exact xMa rfl (fun _ h => h)
@[simp] theorem yle (U : TypeId) (x i : Operand) : AOp P p ⟨d, .index U x i, T, pos, af, g⟩ s K = goO (xXa P U (s.eval x) (s.eval i)) d s K := by
 exact xMa rfl (fun _ h => h)
@[simp] theorem yme (U : TypeId) (x : Operand) (lo hi : Option Operand) : AOp P p ⟨d, .slice U x lo hi none, T, pos, af, g⟩ s K = goO (yQa P U (s.eval x) (lo.map s.eval) (hi.map s.eval)) d s K := by
 exact xMa rfl (fun _ h => h)
@[simp] theorem zee (t : Operand) (i : Nat) : AOp P p ⟨d, .extract t i, T, pos, af, g⟩ s K = goO (match s.eval t with | .tup vs => vs[i]? | _ => none) d s K := by
 exact xMa rfl (fun _ h => h)
@[simp] theorem yne (U : TypeId) (parts : Array (Nat × Operand)) : AOp P p ⟨d, .build U parts, T, pos, af, g⟩ s K = goO (zuc P U (parts.toList.map fun q => (q.1, s.eval q.2))) d s K := by
 exact xMa rfl (fun _ h => h)
@[simp] theorem xAe (x : Operand) (ts : Array TypeId) : AOp P p ⟨d, .call ⟨.builtin .len, #[x], ts⟩, T, pos, af, g⟩ s K = goO (xld P ts[0]? (s.eval x)) d s K := by
 exact xMa rfl (fun _ h => h)
theorem z3a {f : FuncId} {args : Array Operand} {ts : Array TypeId} {r : AV} (h : zca P f (args.toList.map s.eval) r) (hk : K (s.put d r)) : AOp P p ⟨d, .call ⟨.value (.func f), args, ts⟩, T, pos, af, g⟩ s K := by
 have e : (s.put d r).withMem s.mem = s.put d r := by cases d <;> rfl
 simp only [AOp, yGa, WT, zBc, List.append_nil];cases p with
 | true => exact ⟨r, h, by rw [e]; exact hk⟩
 | false => exact h.w (by rw [e]; exact hk)
theorem xna {f : Operand} {args : Array Operand} {ts : Array TypeId} {n : FuncId} {caps : List AV} (hp : p = false) (hf : s.eval f = .func (.func n) caps) (h : zka P n (args.toList.map s.eval ++ caps) s.mem fun r m => K ((s.put d r).withMem m)) : AOp P p ⟨d, .call ⟨.value f, args, ts⟩, T, pos, af, g⟩ s K := by
 subst hp;simp only [AOp, yGa, WT, hf];exact h
end
section
variable (k : IntKind) (a b : Int) (x y : ByteArray)
@[simp] theorem xBe (op : BinOp) : yia op (.int k a) (.int k b) = xFb op k a b := by simp [yia]
@[simp] theorem xCe (op : BinOp) : yia op (.str x) (.str y) = zwd op x y := (_root_.id rfl)
@[simp] theorem xDe : xFb .add k a b = some (.int k (k.wrap (a + b))) := (_root_.id rfl)
@[simp] theorem xEe : xFb .sub k a b = some (.int k (k.wrap (a - b))) := (_root_.id rfl)
@[simp] theorem xFe : xFb .mul k a b = some (.int k (k.wrap (a * b))) := (_root_.id rfl)
@[simp] theorem xGe : xFb .quo k a b = if b = 0 then none else some (.int k (k.wrap (a.tdiv b))) := (_root_.id rfl)
@[simp] theorem xHe : xFb .rem k a b = if b = 0 then none else some (.int k (a.tmod b)) := (_root_.id rfl)
@[simp] theorem xIe : xFb .eql k a b = some (.bool (decide (a = b))) := by simp [xFb]; rfl
@[simp] theorem xJe : xFb .neq k a b = some (.bool (!decide (a = b))) := by simp [xFb]; rfl
@[simp] theorem xKe : xFb .lss k a b = some (.bool (decide (a < b))) := (_root_.id rfl)
@[simp] theorem xLe : xFb .leq k a b = some (.bool (decide (a <= b))) := (_root_.id rfl)
@[simp] theorem xMe : xFb .gtr k a b = some (.bool (decide (b < a))) := (_root_.id rfl)
@[simp] theorem xNe : xFb .geq k a b = some (.bool (decide (b <= a))) := (_root_.id rfl)
theorem wja : (x.toList == y.toList) = decide (x = y) := by
 by_cases h : x = y
 ·simp [h]
 simp [h, xzd]
@[simp] theorem xOe : zwd .eql x y = some (.bool (decide (x = y))) := by rw [<- wja]; rfl
@[simp] theorem xPe : zwd .neq x y = some (.bool (!decide (x = y))) := by rw [<- wja]; rfl
@[simp] theorem xQe : zwd .lss x y = some (.bool (Op.bytesLess x.toList y.toList)) := (_root_.id rfl)
@[simp] theorem xRe : zwd .leq x y = some (.bool (Op.bytesLess x.toList y.toList || decide (x = y))) := by rw [<- wja]; rfl
@[simp] theorem xSe : zwd .gtr x y = some (.bool !(Op.bytesLess x.toList y.toList || decide (x = y))) := by rw [<- wja]; rfl
@[simp] theorem xTe : zwd .geq x y = some (.bool !(Op.bytesLess x.toList y.toList)) := (_root_.id rfl)
@[simp] theorem wNe : unA .neg (.int k a) = some (.int k (k.wrap (0 - a))) := (_root_.id rfl)
@[simp] theorem wOe (t : Bool) : unA .not (.bool t) = some (.bool !t) := (_root_.id rfl)
end
end
section
variable {P : Program}
theorem pR1 {fn : Func} {t : Tmp} {r : AV} {s : St} (hr : fn.results = #[.tmp t]) (h : s.sl t = r) : Post P fn (fun r' _ => r' = r) .ret s :=
 ⟨[s.sl t], s.sl t, s.mem, by rw [hr]; rfl, View.refl _ _, h⟩
theorem yWb {fn : Func} {t u : Tmp} {r q : AV} {s : St} (hr : fn.results = #[.tmp t, .tmp u]) (h : s.sl t = r) (k : s.sl u = q) : Post P fn (fun r' _ => r' = .tup [r, q]) .ret s :=
 ⟨[s.sl t, s.sl u], .tup [s.sl t, s.sl u], s.mem, by rw [hr]; rfl, View.refl _ _, by rw [h, k]⟩
theorem zea {fn : Func} {t : Tmp} {k : AV -> Mem -> Prop} {s : St} (hr : fn.results = #[.tmp t]) (h : ∃ r m, View s.mem (s.sl t) m r /\ k r m) : Post P fn k .ret s := by
 obtain ⟨r, m, h1, h2⟩ := h;exact ⟨[s.sl t], r, m, by rw [hr]; rfl, h1, h2⟩
theorem y5a {fn : Func} {k : AV -> Mem -> Prop} {s : St} (hr : fn.results = #[]) (h : k (.tup []) s.mem) : Post P fn k .normal s :=
 ⟨[], .tup [], s.mem, by rw [hr]; rfl, View.refl _ _, h⟩
def Le (a a' : AV) : Prop := ∀ w S v, Rep w S a v -> Rep w S a' v
theorem Le.refl (a : AV) : Le a a := fun _ _ _ h => h
theorem Le.lst (f : Bool) (e : Nat) (xs : List AV) : Le (.lst f e xs) (.lst false e xs) := fun w S v h => by
 cases h with
 | lnil _ _ A c _ => exact .lnil _ _ A c (fun h => by cases h)
 | lst _ _ b o c h1 h2 h3 h4 h5 => exact .lst _ _ b o c h1 h2 h3 (fun h => by cases h) h5
theorem Le.nil (f : Bool) (e e' : Nat) : Le (.lst f e []) (.lst false e' []) := fun w S v h => by
 cases h with
 | lnil _ _ A c _ => exact .lnil _ _ A c (fun h => by cases h)
 | lst _ _ b o c h1 h2 h3 h4 h5 => exact .lnil _ _ _ c (fun h => by cases h)
inductive Les : List AV -> List AV -> Prop
 | nil : Les [] []
 | cons {a a' : AV} {l l' : List AV} : Le a a' -> Les l l' -> Les (a :: l) (a' :: l')
theorem Les.refl : ∀ l, Les l l
 | [] => .nil
 | a :: l => .cons (Le.refl a) (Les.refl l)
theorem Les.reps {w : World} {S : Nat -> Prop} {l l' : List AV} (h : Les l l') : ∀ {vs : List Value}, Reps w S l vs -> Reps w S l' vs := by
 induction h with
 | nil => exact fun h => h
 | cons h _ ih => intro vs hr; cases hr with | cons a b => exact .cons (h _ _ _ a) (ih b)
theorem Les.append {l l' k k' : List AV} (h : Les l l') (hk : Les k k') : Les (l ++ k) (l' ++ k') := by
 induction h with
 | nil => exact hk
 | cons h _ ih => exact .cons h ih
theorem Le.agg {l l' : List AV} (h : Les l l') : Le (.agg l) (.agg l') := fun w S v hv => by
 cases hv with | agg hr => exact .agg (h.reps hr)
theorem Le.tup {l l' : List AV} (h : Les l l') : Le (.tup l) (.tup l') := fun w S v hv => by
 cases hv with | tup hr => exact .tup (h.reps hr)
theorem zca.le {n : FuncId} {args args' : List AV} {r r' : AV} (h : zca P n args' r) (ha : Les args args') (hr : Le r r') : zca P n args r' :=
 ⟨h.1, fun w S cargs m hm hargs => zma (h.2 w S cargs m hm (ha.reps hargs)) fun e w' ⟨v, S', h1, h2, h3, h4, h5, h6⟩ => ⟨v, S', h1, h2, h3, h4, hr _ _ _ h5, h6⟩⟩
theorem zca.arg {n : FuncId} {args args' : List AV} {r : AV} (h : zca P n args' r) (ha : Les args args') : zca P n args r := h.le ha (Le.refl _)
def Sees (s s' : St) : Prop := ∀ w S (f : Tmp -> Value), zva w S s.mem -> (∀ t, Rep w S (s.sl t) (f t)) ->
 ∃ S', (∀ b, S b -> S' b) /\ (∀ b, S' b -> S b ∨ s.mem b ≠ none) /\ zva w S' s'.mem /\ (∀ t, Rep w S' (s'.sl t) (f t)) /\ ∀ g b, s'.mem g = some b -> s.mem g ≠ none
theorem AWp.se {N : Nat} {c : Code} {Q : Exit -> St -> Prop} {s s' : St} (hs : Sees s s') (h : AWp P N c Q s') : AWp P N c Q s := fun C a w hr hN => by
 refine h C a w ?_ hN;obtain ⟨S, h1, h2, h3⟩ := hr.ex;obtain ⟨S', k1, k2, k3, k4, k5⟩ := hs w S _ h2 h3;have hD : ∀ b, s.mem b ≠ none -> C.D0 b ∨ C.w0.heap.size <= b := fun b hb => by
  cases hq : s.mem b with
  | none => exact absurd hq hb
  | some x => exact hr.dom b x hq
 refine ⟨⟨S', ⟨fun b hb => k1 b (h1.1 b hb), fun b hb => ?_⟩, k3, k4⟩, hr.defers, hr.keep, fun g b hg => hD g (k5 g b hg)⟩;rcases k2 b hb with h | h
 ·exact h1.2 b h
 exact .inr (hD b h)
theorem Sees.sl {s s' : St} (hm : s'.mem = s.mem) (h : ∀ t, Le (s.sl t) (s'.sl t)) : Sees s s' := fun w S f h1 h2 =>
 ⟨S, fun _ h => h, fun _ h => .inl h, hm ▸ h1, fun t => h t _ _ _ (h2 t), fun g b hg => by rw [<- hm, hg]; simp⟩
def Ext (m0 m : Mem) : Prop := ∀ g b, m0 g = some b -> m g = some b
theorem Ext.refl (m : Mem) : Ext m m := fun _ _ h => h
theorem Ext.set {m0 m : Mem} (h : Ext m0 m) {g : Nat} (hg : m0 g = none) (b : Blk) : Ext m0 (m.set g b) := fun k x hk => by
 have : k ≠ g := fun e => by rw [e, hg] at hk; cases hk
 rw [Mem.so this]; exact h k x hk
theorem Ext.none {m0 m : Mem} (h : Ext m0 m) {g : Nat} (hg : m g = none) : m0 g = none := by
 cases hq : m0 g with
 | none => rfl
 | some b => rw [h g b hq] at hg; cases hg
inductive Grows (T : TypeId) (e : Nat) (m0 : Mem) (xs : List AV) : AV -> Mem -> Prop
 | lit (f : Nat) (m : Mem) : f = e ∨ xs = [] -> Ext m0 m -> Grows T e m0 xs (.lst true f xs) m
 | own (g c n : Nat) (m : Mem) : n = xs.length -> m g = some (.arr T e c xs) -> m0 g = none -> Ext m0 m -> Grows T e m0 xs (.own g n c) m
theorem Grows.view {T : TypeId} {e : Nat} {m0 m : Mem} {xs : List AV} {v : AV} (h : Grows T e m0 xs v m) : View m v m0 (.lst false e xs) := by
 cases h with
 | lit f m hf hm =>
  refine View.trans (View.fo hm _) ?_;intro w S u h1 h2;refine ⟨S, fun _ h => h, fun _ h => .inl h, h1, ?_, fun g b h => by rw [h]; simp⟩;rcases hf with rfl | rfl
  ·exact Le.lst _ _ _ _ _ _ h2
  exact Le.nil _ _ _ _ _ _ h2
 | own g c n m hn hg h0 hm =>
  refine View.trans (View.freeze hg hn.symm) (View.fo (fun k b hk => ?_) _);have : k ≠ g := fun e => by rw [e, h0] at hk; cases hk
  simp only [Mem.del, if_neg this];exact hm k b hk
structure zab (P : Program) (T E : TypeId) (n b : Nat) : Prop where
 elem : y2a P T = some E
 int : xva P T = some false
 size : szT P E = some n
 byte : xua P E = some b
 zero : ∃ z, zMa P E = some z /\ z.cells.length = n
 pos : n ≠ 0 /\ b ≠ 0
theorem Grows.append {T E : TypeId} {n b : Nat} (hT : zab P T E n b) {m0 m : Mem} {xs ys : List AV} {v x : AV} (h : Grows E n m0 xs v m) {k : AV -> Mem -> Prop}
  (hx : wwa m n x = some ys) (hok : ∀ y ∈ ys, y.cells.all zya = true) (hb : (2 * (xs.length + ys.length) + 1024) * b <= 281474976710656)
  (hk : ∀ v' m', Grows E n m0 (xs ++ ys) v' m' -> k v' m') (U : Array TypeId) (hU : U = #[T, T]) : zNa P m k U v x := by
 subst hU;obtain ⟨z, hz, hzl⟩ := hT.zero;unfold zNa;simp only [List.getElem?_toArray, List.getElem?_cons_zero, List.getElem?_cons_succ, hT.int, hT.elem, hT.size, hT.byte, hz, hx, true_and];refine ⟨hT.pos.1, hT.pos.2, hzl, ?_⟩;cases h with
 | lit f m hf hm =>
  refine ⟨hf, hb, fun h0 => ?_, fun _ g c hg hle => ?_⟩
  ·subst h0;exact hk _ _ (by rw [List.append_nil]; exact .lit f m hf hm)
  exact hk _ _ (.own g c _ _ (by simp) (zaa _ _ _) (hm.none hg) (hm.set (hm.none hg) _))
 | own g c l m hl hg h0 hm =>
  subst hl;simp only [hg];refine ⟨trivial, trivial, trivial, trivial, hok, hb, fun g' c' hg' hle => ?_⟩;have hg0 : m0 g' = none := by
   rcases hg' with rfl | h
   ·exact h0
   exact hm.none h
  exact hk _ _ (.own g' c' _ _ (by simp) (zaa _ _ _) hg0 (hm.set hg0 _))
end
section
variable {P : Program}
@[simp] theorem xUe (T : TypeId) (s : ByteArray) : xld P (some T) (.str s) = match P.underlying T with | some .string => some (.int .i64 s.size) | _ => none := (_root_.id rfl)
@[simp] theorem xVe (T : TypeId) (f : Bool) (e : Nat) (xs : List AV) : xld P (some T) (.lst f e xs) = match P.underlying T with | some (.slice _) => some (.int .i64 xs.length) | _ => none := (_root_.id rfl)
@[simp] theorem xWe (T : TypeId) (g n c : Nat) : xld P (some T) (.own g n c) = match P.underlying T with | some (.slice _) => some (.int .i64 n) | _ => none := (_root_.id rfl)
theorem zNd (s : ByteArray) (i : Nat) : s[i]? = s.data.toList[i]? := by
 by_cases h : i < s.size
 ·have h' : i < s.data.toList.length := by have := z2a s; omega
  rw [getElem?_pos s i h, List.getElem?_eq_getElem h'];rfl
 have h' : s.data.toList.length <= i := by have := z2a s; omega
 rw [getElem?_neg s i h, List.getElem?_eq_none h']
theorem sidx {T : TypeId} {s : ByteArray} {k : IntKind} {i : Nat} {b : UInt8} (hu : P.underlying T = some .string) (h : s.data.toList[i]? = some b) : xXa P T (.str s) (.int k i) = some (.int .u8 b.toNat) := by
 have h2 : ¬ ((i : Int) < 0) := by omega
 simp [xXa, hu, h2, zNd, h]
theorem idx {m : Mem} {T : TypeId} {f : Bool} {e : Nat} {xs : List AV} {k : IntKind} {i : Nat} {y : AV} (he : esz P T = some e) (h : xs[i]? = some y) : yga P m T (.lst f e xs) (.int k i) = some (.ref y.cells) := by
 have h2 : ¬ ((i : Int) < 0) := by omega
 simp [yga, he, h2, h]
@[simp] theorem xfe (m : Mem) (T : TypeId) (cs : List AV) : y3a P m T (.ref cs) = match zRa P T with | some (n, b) => xHa n b cs | none => none := by
 unfold y3a; cases zRa P T <;> rfl
@[simp] theorem xCc (m : Mem) (T : TypeId) (g o : Nat) : y3a P m T (.ptr g o) = match zRa P T with | some (n, b) => (match m g with | some (.box cs) => xHa n b (cs.drop o) | _ => none) | none => none := by
 unfold y3a; cases zRa P T <;> rfl
@[simp] theorem xDc (m : Mem) (T : TypeId) (g e i o : Nat) : y3a P m T (.elt g e i o) = match zRa P T with | some (n, b) => (match m g with | some (.arr _ e' _ xs) => if e = e' then match xs[i]? with | some x => xHa n b (x.cells.drop o) | none => none else none | _ => none) | none => none := by
 unfold y3a; cases zRa P T <;> rfl
@[simp] theorem yoe (n : Nat) (c : AV) (cs : List AV) : xHa n false (c :: cs) = some c := (_root_.id rfl)
@[simp] theorem ype (n : Nat) (cs : List AV) : xHa n true cs = if n <= cs.length then some (.agg (cs.take n)) else none := (_root_.id rfl)
@[simp] theorem yqe (T : TypeId) (f : Nat) (cs : List AV) : yLb P T f (.ref cs) = match zDa P T f with | some (o, n, _) => if n = 0 then none else some (.ref (cs.drop o)) | none => none := (_root_.id rfl)
@[simp] theorem yre (T : TypeId) (f g k : Nat) : yLb P T f (.ptr g k) = match zDa P T f with | some (o, n, _) => if n = 0 then none else some (.ptr g (k + o)) | none => none := (_root_.id rfl)
@[simp] theorem yse (T : TypeId) (f g e i k : Nat) : yLb P T f (.elt g e i k) = match zDa P T f with | some (o, n, _) => if n = 0 then none else some (.elt g e i (k + o)) | none => none := (_root_.id rfl)
@[simp] theorem yte (T : TypeId) (f : Nat) (cs : List AV) : x2b P T f (.agg cs) = match zDa P T f with | some (o, n, b) => xHa n b (cs.drop o) | none => none := by
 unfold x2b; cases zDa P T f <;> rfl
@[simp] theorem xge (U V : TypeId) (k : IntKind) (n : Int) : wzc P U V (.int k n) = match P.underlying U, P.underlying V with | some (.int _), some (.int k) => some (.int k (k.wrap n)) | _, _ => none := (_root_.id rfl)
@[simp] theorem xhe (T : TypeId) (parts : List (Nat × AV)) : zuc P T parts = match ySa P T, yha P T with
 | some pl, some z => (match z with
  | .undef => none
  | z => (zHb (fun i => pl[i]?) z.cells parts).map .agg)
 | _, _ => none := (_root_.id rfl)
@[simp] theorem xie (pl : Nat -> Option (Nat × Nat)) (cells : List AV) : zHb pl cells [] = some cells := (_root_.id rfl)
@[simp] theorem yue (pl : Nat -> Option (Nat × Nat)) (cells : List AV) (i : Nat) (v : AV) (rest : List (Nat × AV)) : zHb pl cells ((i, v) :: rest) = match pl i with
 | none => none
 | some (off, size) => match v with
  | .undef => none
  | v => if v.cells.length = size then (if off + size <= cells.length then zHb pl (cells.take off ++ v.cells ++ cells.drop (off + size)) rest else none) else none := (_root_.id rfl)
section
variable (p : Bool) (s : St) (K : St -> Prop) (d : Option Tmp) (T : TypeId) (pos : String) (af : Array Edge) (g : Option (Nat × Bool))
@[simp] theorem z2e (x y : Operand) (ts : Array TypeId) : AOp P p ⟨d, .call ⟨.builtin .append, #[x, y], ts⟩, T, pos, af, g⟩ s K = zNa P s.mem (fun v m' => K ((s.put d v).withMem m')) ts (s.eval x) (s.eval y) := (_root_.id rfl)
@[simp] theorem xLb (U : TypeId) (n : Nat) (parts : Array (Nat × Operand)) : AOp P p ⟨d, .buildSlice U n parts, T, pos, af, g⟩ s K = match esz P U with
  | some e => n = parts.size /\ n * e <= 16777216 /\ e ≠ 0 /\ (match y2a P U with | some E => (zMa P E).isSome = true | none => False) /\
   (match zda e (parts.toList.map fun q => (q.1, s.eval q.2)) with | some xs => K (s.put d (.lst true e xs)) | none => False)
  | none => False := by
 have e : ∀ v, (s.put d v).withMem s.mem = s.put d v := fun v => by cases d <;> rfl
 simp only [AOp, yGa, WT, e];rfl
@[simp] theorem xXe (U : TypeId) (x : Operand) : AOp P p ⟨d, .box U x, T, pos, af, g⟩ s K = match s.eval x with | .undef => False | v => ∀ b, s.mem b = none -> K ((s.put d (.ptr b 0)).withMem (s.mem.set b (.box v.cells))) := (_root_.id rfl)
@[simp] theorem yve (U : TypeId) : AOp P p ⟨d, .alloc U, T, pos, af, g⟩ s K = match zMa P U with | some z => ∀ b, s.mem b = none -> K ((s.put d (.ptr b 0)).withMem (s.mem.set b (.box z.cells))) | none => False := (_root_.id rfl)
@[simp] theorem ywe (U : TypeId) (a x : Operand) : AOp P p ⟨d, .store U a x, T, pos, af, g⟩ s K = match s.eval x with
  | .undef => False
  | v => match szT P U with
   | some n => v.cells.length = n /\ v.cells.all zya = true /\ (match zKa s.mem (s.eval a) v with | some m' => K ((s.put d .undef).withMem m') | none => False)
   | none => False := (_root_.id rfl)
end
@[simp] theorem wPe (n : Nat) (parts : List (Nat × AV)) : zda n parts = if parts.map (·.1) = List.range parts.length /\ parts.all (fun p => (match p.2 with | .undef => false | _ => true) && (p.2.cells.length == n)) = true then some (parts.map (·.2)) else none := (_root_.id rfl)
@[simp] theorem zba (m : Mem) (g o : Nat) (x : AV) : zKa m (.ptr g o) x = match m g with
  | some (.box cs) => if o + x.cells.length <= cs.length then some (m.set g (.box (cs.take o ++ x.cells ++ cs.drop (o + x.cells.length)))) else none
  | _ => none := (_root_.id rfl)
theorem zia (m : Mem) (g : Nat) (b : Blk) (k : Nat) : m.set g b k = if k = g then some b else m k := rfl
theorem zbb {fn : Func} {a : Tmp} {T : TypeId} {r : AV} {e : Exit} {s : St} (he : e = .ret ∨ e = .normal) (hr : fn.results = #[.cell a T]) (h : y3a P s.mem T (s.sl a) = some r) : Post P fn (fun r' _ => r' = r) e s := by
 have : ∃ vs r' m', zQa P s.mem s.sl fn.results.toList = some vs /\ View s.mem (yhb vs) m' r' /\ r' = r := ⟨[r], r, s.mem, by rw [hr]; simp [zQa, h], View.refl _ _, rfl⟩;rcases he with rfl | rfl <;> exact this
@[simp] theorem wQe (k : IntKind) (n : Int) : zya (.int k n) = true := (_root_.id rfl)
@[simp] theorem xYe (b : Bool) : zya (.bool b) = true := (_root_.id rfl)
@[simp] theorem wRe (s : ByteArray) : zya (.str s) = true := (_root_.id rfl)
@[simp] theorem wSe (f : Bool) (e : Nat) (xs : List AV) : zya (.lst f e xs) = true := (_root_.id rfl)
@[simp] theorem wTe (g n c : Nat) : zya (.own g n c) = true := (_root_.id rfl)
theorem AWp.condT {N : Nat} {c : Operand} {x y : Code} {Q : Exit -> St -> Prop} {s : St} (hc : s.eval c = .bool true) (h : AWp P N x Q s) : AWp P N (.cond c x y) Q s := AWp.cond hc (fun _ => h) (fun h => by cases h)
theorem AWp.condF {N : Nat} {c : Operand} {x y : Code} {Q : Exit -> St -> Prop} {s : St} (hc : s.eval c = .bool false) (h : AWp P N y Q s) : AWp P N (.cond c x y) Q s := AWp.cond hc (fun h => by cases h) (fun _ => h)
def xoa (v : AV) (X Y : Prop) : Prop := match v with
 | .bool b => if b = true then X else Y
 | _ => False
@[congr] theorem xCd {v v' : AV} {X Y : Prop} (h : v = v') : xoa v X Y = xoa v' X Y := by rw [h]
@[simp] theorem yxe (X Y : Prop) : xoa (.bool true) X Y = X := by simp [xoa]
@[simp] theorem yye (X Y : Prop) : xoa (.bool false) X Y = Y := by simp [xoa]
theorem cRI {c : Bool} {X Y : Prop} (h1 : c = true -> X) (h2 : c = false -> Y) : xoa (.bool c) X Y := by
 unfold xoa;cases c
 ·exact h2 rfl
 exact h1 rfl
theorem AWp.condG {N : Nat} {c : Operand} {x y : Code} {Q : Exit -> St -> Prop} {s : St} (h : xoa (s.eval c) (AWp P N x Q s) (AWp P N y Q s)) : AWp P N (.cond c x y) Q s := by
 unfold xoa at h;split at h
 ·rename_i b hb
  exact AWp.cond hb (fun e => by rwa [if_pos e] at h) (fun e => by rwa [if_neg (by simp [e])] at h)
 exact h.elim
theorem oC' {p : Bool} {s : St} {K : St -> Prop} {d : Option Tmp} {T : TypeId} {pos : String} {af : Array Edge} {g : Option (Nat × Bool)} {f : FuncId} {args : Array Operand} {ts : Array TypeId} {r : AV} (h : zca P f (args.toList.map s.eval) r) (hk : K (s.put d r)) : AOp P p ⟨d, .call ⟨.value (.func f), args, ts⟩, T, pos, af, g⟩ s K := z3a _ _ _ _ _ _ _ _ h hk
theorem zWa {c : Prop} [Decidable c] {x y : Prop} (h1 : c -> x) (h2 : ¬ c -> y) : if c then x else y := by split <;> simp_all
theorem AWp.ro {N : Nat} {c : Code} {Q : Exit -> St -> Prop} {s : St} (I : Nat -> St -> Prop) (n : Nat) (h0 : I n s) (round : ∀ (R : St -> Prop) n s, (∀ s' m, m < n -> I m s' -> R s') -> I n s -> AWp P N c (wSa R Q) s) : AWp P N (.loop c) Q s :=
 AWp.loop I n h0 fun n s h => round _ n s (fun s' m hm hI => ⟨m, hm, hI⟩) h
theorem zga {x : Int} (h : -9223372036854775808 <= x) (k : x <= 9223372036854775807) : IntKind.wrap .i64 x = x := by
 rw [IntKind.wrap_i64]; omega
end
def inR (n a b : Int) : Bool := decide (a <= n) && decide (n <= b)
def small (c : UInt8) : Bool := inR c.toNat 97 122
def xMb : List ByteArray := [⟨#[97, 114, 114, 97, 121]⟩, ⟨#[102, 111, 114]⟩, ⟨#[116, 111]⟩, ⟨#[112, 114, 105, 110, 116]⟩, ⟨#[109, 105, 110]⟩, ⟨#[109, 97, 120]⟩]
def has (l : List ByteArray) (s : ByteArray) : Bool := l.any fun x => decide (x = s)
def kept (s : ByteArray) : Bool := has xMb s
def zxa (s : ByteArray) : Bool := s.data.toList.all small && (inR s.size 1 6 && !kept s)
def strs (l : List ByteArray) : AV := .lst false 1 (l.map .str)
def noP : Nat -> Bool := fun _ => false
def xZe : Nat -> Bool := fun _ => true
theorem xEc {s : ByteArray} {i : Nat} (h : i < s.size) (f : UInt8 -> Bool) : ∃ b, s.data.toList[i]? = some b /\ (s.data.toList.drop i).all f = (f b && (s.data.toList.drop (i + 1)).all f) := by
 have h' : i < s.data.toList.length := by have := z2a s; omega
 exact ⟨s.data.toList[i], List.getElem?_eq_getElem h', by rw [List.drop_eq_getElem_cons h', List.all_cons]⟩
theorem zCc (s : ByteArray) : s.data.toList.drop s.size = [] := List.drop_eq_nil_of_le (by have := z2a s; omega)
def pH : Code -> Code
 | .seq x _ => pH x
 | c => c
def pK (P : Program) (N : Nat) : Code -> (Exit -> St -> Prop) -> Exit -> St -> Prop
 | .seq x y, Q => pK P N x (wSa (AWp P N y Q) Q)
 | _, Q => Q
@[simp] theorem pK1 (P : Program) (N : Nat) (x y : Code) (Q : Exit -> St -> Prop) : pK P N (.seq x y) Q = pK P N x (wSa (AWp P N y Q) Q) := (_root_.id rfl)
@[simp] theorem pK2 (P : Program) (N id : Nat) (o : Array Oper) (d : Bool) (Q : Exit -> St -> Prop) : pK P N (.region id o d) Q = Q := (_root_.id rfl)
@[simp] theorem pK3 (P : Program) (N : Nat) (c : Operand) (x y : Code) (Q : Exit -> St -> Prop) : pK P N (.cond c x y) Q = Q := (_root_.id rfl)
theorem xDd {P : Program} {N : Nat} {s : St} {c : Code} : ∀ {Q : Exit -> St -> Prop}, AWp P N (pH c) (pK P N c Q) s -> AWp P N c Q s := by
 induction c with
 | seq x y hx hy => intro Q h; exact AWp.seq (hx h)
 | _ => intro Q h; exact h
theorem qA {P : Program} {N : Nat} {x y : Code} {Q : Exit -> St -> Prop} {s : St} (h : AWp P N x (wSa (AWp P N y Q) Q) s) : AWp P N (.seq x y) Q s := AWp.seq h
theorem rA {P : Program} {N id : Nat} {c : Code} {ops : Array Oper} {draw : Bool} {Q : Exit -> St -> Prop} {s : St} (h : ygb P noP ops (pK P N c Q .normal) 0 ops.toList s) (hc : pH c = .region id ops draw := by exact rfl) (hB : y5e N noP ops draw = true := by kernel_rfl) : AWp P N c Q s := xDd (by rw [hc]; exact AWp.region noP hB h)
theorem raA {P : Program} {N id : Nat} {c : Code} {ops : Array Oper} {draw : Bool} {Q : Exit -> St -> Prop} {s : St} (h : ygb P xZe ops (pK P N c Q .normal) 0 ops.toList s) (hc : pH c = .region id ops draw := by exact rfl) (hB : y5e N xZe ops draw = true := by kernel_rfl) : AWp P N c Q s := xDd (by rw [hc]; exact AWp.region xZe hB h)
theorem fA {P : Program} {N : Nat} {k : Code} {c : Operand} {x y : Code} {Q : Exit -> St -> Prop} {s : St} (h : AWp P N y (pK P N k Q) s) (hk : pH k = .cond c x y := by exact rfl) (hc : s.eval c = .bool false := by simp) : AWp P N k Q s := xDd (by rw [hk]; exact AWp.condF hc h)
theorem tA {P : Program} {N : Nat} {k : Code} {c : Operand} {x y : Code} {Q : Exit -> St -> Prop} {s : St} (h : AWp P N x (pK P N k Q) s) (hk : pH k = .cond c x y := by exact rfl) (hc : s.eval c = .bool true := by simp) : AWp P N k Q s := xDd (by rw [hk]; exact AWp.condT hc h)
theorem kA {P : Program} {N : Nat} {Q : Exit -> St -> Prop} {s : St} (h : Q .normal s) : AWp P N .skip Q s := AWp.skip h
theorem eA {P : Program} {N id : Nat} {Q : Exit -> St -> Prop} {s : St} (h : Q (.exit id) s) : AWp P N (.exit id) Q s := AWp.exit h
theorem bA {P : Program} {N id : Nat} {c : Code} {Q : Exit -> St -> Prop} {s : St} (h : AWp P N c (w9a id Q) s) : AWp P N (.block id c) Q s := AWp.block h
theorem gA {P : Program} {N : Nat} {c : Operand} {x y : Code} {Q : Exit -> St -> Prop} {s : St} (h : xoa (s.eval c) (AWp P N x Q s) (AWp P N y Q s)) : AWp P N (.cond c x y) Q s := AWp.condG h
theorem wA {P : Program} {p : Bool} {s : St} {K : St -> Prop} {d : Option Tmp} {T : TypeId} {pos : String} {af : Array Edge} {g : Option (Nat × Bool)} {f : FuncId} {args : Array Operand} {ts : Array TypeId} (h : zka P f (args.toList.map s.eval ++ []) s.mem fun r m => K ((s.put d r).withMem m)) (hp : p = false := by rfl) : AOp P p ⟨d, .call ⟨.value (.func f), args, ts⟩, T, pos, af, g⟩ s K := xna _ _ _ _ _ _ _ _ hp (zBc _ _) h
theorem pO {P : Program} {n : FuncId} {fn : Func} {c : Code} (hf : P.funcs[n]? = some fn) {args : List AV} {r : AV} (h : AWp P fn.ntmps c (Post P fn fun r' _ => r' = r) (St.init args fun _ => none)) (hname : (fn.name == "runtime.NumGoroutine") = false := by kernel_rfl) (hb : fn.body = some c := by exact rfl) (hN : args.length <= fn.ntmps := by exact Nat.le_of_ble_eq_true rfl) : zca P n args r := xyd hf hname hb hN h
theorem wO {P : Program} {n : FuncId} {fn : Func} {c : Code} (hf : P.funcs[n]? = some fn) {args : List AV} {m : Mem} {k : AV -> Mem -> Prop} (h : AWp P fn.ntmps c (Post P fn k) (St.init args m)) (hname : (fn.name == "runtime.NumGoroutine") = false := by kernel_rfl) (hb : fn.body = some c := by exact rfl) (hN : args.length <= fn.ntmps := by exact Nat.le_of_ble_eq_true rfl) : zka P n args m k := xBc hf hname hb hN h
theorem gE {α : Type} {l : List α} {i : Nat} (h : i < l.length) : l[i]? = some l[i] := List.getElem?_eq_getElem  h
theorem iA (i : Nat) (h : i < 9223372036854775807) : IntKind.wrap .i64 ((i : Int) + 1) = (i + 1 : Nat) := zga (by omega) (by  omega)
end Go.T
