/- Code, and whole functions. -/
import Derived.Test.YtkheogobahhbpaaT13
namespace Go.T
open Go
set_option linter.unusedSimpArgs false
set_option linter.unusedVariables false
section
variable {P : Program}

def Lift (C : Ctx) (N : Nat) (Q : Exit → St → Prop) : Exit → Act → World → Prop := fun e a w => ∃ s, Q e s ∧ Rel C s a w ∧ a.tmps.size = N
/-- Code over trees. -/
def AWp (P : Program) (N : Nat) (c : Code) (Q : Exit → St → Prop) (s : St) : Prop := ∀ (C : Ctx) (a : Act) (w : World), Rel C s a w → a.tmps.size = N → c.wp P (Lift C N Q) a w

theorem AWp.mono {N : Nat} {c : Code} {Q Q' : Exit → St → Prop} {s : St} (h : AWp P N c Q s) (hq : ∀ e s, Q e s → Q' e s) : AWp P N c Q' s :=
  fun C a w hr hN => Code.wp_mono (fun e a w ⟨s', h1, h2⟩ => ⟨s', hq _ _ h1, h2⟩) (h C a w hr hN)
theorem AWp.skip {N : Nat} {Q : Exit → St → Prop} {s : St} (h : Q .normal s) : AWp P N .skip Q s := fun C a w hr hN => wp_skip ⟨s, h, hr, hN⟩
theorem AWp.ret {N : Nat} {Q : Exit → St → Prop} {s : St} (h : Q .ret s) : AWp P N .ret Q s := fun C a w hr hN => wp_ret ⟨s, h, hr, hN⟩
theorem AWp.exit {N : Nat} {id : Nat} {Q : Exit → St → Prop} {s : St} (h : Q (.exit id) s) : AWp P N (.exit id) Q s := fun C a w hr hN => wp_exit ⟨s, h, hr, hN⟩
theorem AWp.label {N : Nat} {l : Nat} {Q : Exit → St → Prop} {s : St} (h : Q .normal s) : AWp P N (.label l) Q s := fun C a w hr hN => wp_label ⟨s, h, hr, hN⟩
/-- What follows where the code goes on normally. -/
def thenA (R : St → Prop) (Q : Exit → St → Prop) : Exit → St → Prop
  | .normal, s => R s
  | e, s => Q e s
theorem AWp.seq {N : Nat} {x y : Code} {Q : Exit → St → Prop} {s : St} (h : AWp P N x (thenA (AWp P N y Q) Q) s) : AWp P N (.seq x y) Q s := fun C a w hr hN =>
  wp_seq (Code.wp_mono (fun e a' w' ⟨s', h1, h2, h3⟩ => by
    cases e with
    | normal => exact h1 C a' w' h2 h3
    | _ => exact ⟨s', h1, h2, h3⟩) (h C a w hr hN))
theorem eval_bool {C : Ctx} {s : St} {a : Act} {w : World} (hr : Rel C s a w) {c : Operand} {b : Bool} (h : s.eval c = .bool b) : a.eval c = .bool b := by
  obtain ⟨S, _, _, hsl⟩ := hr.ex
  have := eval_rep hsl c
  rw [h] at this
  generalize a.eval c = v at this
  cases this; rfl
theorem AWp.cond {N : Nat} {c : Operand} {x y : Code} {Q : Exit → St → Prop} {s : St} {b : Bool} (hc : s.eval c = .bool b) (ht : b = true → AWp P N x Q s) (hf : b = false → AWp P N y Q s) : AWp P N (.cond c x y) Q s := fun C a w hr hN => by
  refine wp_cond (eval_bool hr hc) ?_
  cases b
  · exact hf rfl C a w hr hN
  · exact ht rfl C a w hr hN
def blockA (id : Nat) (Q : Exit → St → Prop) : Exit → St → Prop
  | .exit id', s => if id' = id then Q .normal s else Q (.exit id') s
  | e, s => Q e s
theorem AWp.block {N : Nat} {id : Nat} {c : Code} {Q : Exit → St → Prop} {s : St} (h : AWp P N c (blockA id Q) s) : AWp P N (.block id c) Q s := fun C a w hr hN =>
  wp_block (Code.wp_mono (fun e a' w' ⟨s', h1, h2, h3⟩ => by
    cases e with
    | exit id' =>
      simp only [blockA, Exit.inBlock] at h1 ⊢
      split <;> rename_i hi
      · rw [if_pos hi] at h1; exact ⟨s', h1, h2, h3⟩
      · rw [if_neg hi] at h1; exact ⟨s', h1, h2, h3⟩
    | _ => exact ⟨s', h1, h2, h3⟩) (h C a w hr hN))
/-- A loop: I n holds at a round's head, n goes down. -/
theorem AWp.loop {N : Nat} {c : Code} {Q : Exit → St → Prop} {s : St} (I : Nat → St → Prop) (n : Nat) (h0 : I n s) (round : ∀ n s, I n s → AWp P N c (thenA (fun s' => ∃ m, m < n ∧ I m s') Q) s) : AWp P N (.loop c) Q s := by
  intro C a w hr hN b k cs
  have key : ∀ n s a w, I n s → Rel C s a w → a.tmps.size = N →
      ∃ e a' w', Lift C N Q e a' w' ∧ Arrives P (lone (b.at a (.code c :: .inLoop c :: k)) cs w) b k cs e a' w' := by
    intro n
    induction n using Nat.strongRecOn with
    | _ n ih =>
      intro s a w hI hr hN
      obtain ⟨e, a₁, w₁, ⟨s₁, hq, hr₁, hN₁⟩, harr⟩ := round n s hI C a w hr hN b (.inLoop c :: k) cs
      cases e with
      | normal =>
        obtain ⟨m, hlt, hI₁⟩ := hq
        obtain ⟨e₂, a₂, w₂, hq₂, harr₂⟩ := ih m hlt s₁ a₁ w₁ hI₁ hr₁ hN₁
        exact ⟨e₂, a₂, w₂, hq₂, .of_steps (Steps.trans harr (.one step_inLoop)) harr₂⟩
      | exit id => exact ⟨_, a₁, w₁, ⟨s₁, hq, hr₁, hN₁⟩, .pass (x := .inLoop c) rfl (fun _ _ => .inl (by simp)) harr⟩
      | goto l => exact ⟨_, a₁, w₁, ⟨s₁, hq, hr₁, hN₁⟩, .pass (x := .inLoop c) rfl (fun _ _ => .inl (by simp)) harr⟩
      | ret => exact ⟨_, a₁, w₁, ⟨s₁, hq, hr₁, hN₁⟩, .pass (x := .inLoop c) rfl (fun _ _ => .inl (by simp)) harr⟩
      | panic ch => exact ⟨_, a₁, w₁, ⟨s₁, hq, hr₁, hN₁⟩, .pass (x := .inLoop c) rfl (fun _ _ => .inl (by simp)) harr⟩
      | outgrown => exact ⟨_, a₁, w₁, ⟨s₁, hq, hr₁, hN₁⟩, .pass (x := .inLoop c) rfl (fun _ _ => .inl (by simp)) harr⟩
  obtain ⟨e, a', w', hq, harr⟩ := key n s a w h0 hr hN
  exact ⟨e, a', w', hq, .of_steps (.one step_loop) harr⟩

/-- Operations of a list, one behind the other; i: the number of the first. -/
def AOpsL (P : Program) (p : Nat → Bool) (ops : Array Oper) (K : St → Prop) : Nat → List Oper → St → Prop
  | _, [], s => K s
  | i, o :: l, s => GOp P (p i) ops o s (AOpsL P p ops K (i + 1) l)
theorem aopsL_eq {p : Nat → Bool} {ops : Array Oper} {K : St → Prop} : ∀ (l : List Oper) (i : Nat), (∀ j, l[j]? = ops[i + j]?) → AOps P p ops K (List.range' i l.length) = AOpsL P p ops K i l
  | [], i, _ => rfl
  | o :: l, i, h => by
    have h0 : ops[i]? = some o := by simpa using (h 0).symm
    have ih := aopsL_eq (p := p) (K := K) l (i + 1) (fun j => by have := h (j + 1); simpa [Nat.add_assoc, Nat.add_comm 1 j] using this)
    funext s
    simp only [List.length_cons, List.range'_succ, AOpsL]
    rw [aops_cons h0, ih]
def dstB (N : Nat) (ops : Array Oper) : Bool := ops.all fun o => match o.dst with | some d => d < N | none => true
/-- The look at a region. -/
def regB (N : Nat) (p : Nat → Bool) (ops : Array Oper) (draw : Bool) : Bool := dstB N ops && (!draw || orderB p ops)
theorem AWp.region {N : Nat} {id : Nat} {ops : Array Oper} {draw : Bool} {Q : Exit → St → Prop} {s : St} (p : Nat → Bool) (hB : regB N p ops draw = true) (h : AOpsL P p ops (Q .normal) 0 ops.toList s) : AWp P N (.region id ops draw) Q s := by
  intro C a w hr hN
  unfold regB at hB
  simp only [Bool.and_eq_true, Bool.or_eq_true] at hB
  obtain ⟨hd, ho⟩ := hB
  have hb : ∀ (j : Nat) (d : Tmp), (ops[j]?).bind (·.dst) = some d → d < N := by
    intro j d hj
    unfold dstB at hd
    rw [Array.all_eq_true'] at hd
    cases hq : ops[j]? with
    | none => rw [hq] at hj; cases hj
    | some o =>
      rw [hq] at hj
      have := hd o (Array.mem_of_getElem? hq)
      simp at hj
      rw [hj] at this
      simpa using this
  rw [← aopsL_eq ops.toList 0 (fun j => by simp), Array.length_toList, ← List.range_eq_range'] at h
  have hQ : NextOk C (Q .normal) N (Lift C N Q .normal) := fun s a w h1 h2 h3 => ⟨s, h1, h2, h3⟩
  cases draw with
  | false => exact wp_region (aops_sound hb hQ _ s a w hr hN h)
  | true =>
    have ho' : orderB p ops = true := by simpa using ho
    refine wp_region_draw fun t => ?_
    refine aops_sound hb hQ _ s a _ ?_ hN (schedule_sound ho' _ t s h)
    obtain ⟨S, h1, h2, h3⟩ := hr.ex
    exact ⟨⟨S, h1, memRep_drew h2 _, fun t => Rep.mono (w := w) (w' := { w with drawn := w.drawn + 1 }) (fun _ _ => rfl) (fun _ h => h) (h3 t)⟩, hr.defers, hr.keep.drew _, hr.dom⟩

/-- A value under a memory seen as another one under another memory. -/
def View (m : Mem) (r : AV) (m' : Mem) (r' : AV) : Prop :=
  ∀ w S v, MemRep w S m → Rep w S r v → ∃ S', (∀ b, S b → S' b) ∧ (∀ b, S' b → S b ∨ m b ≠ none) ∧ MemRep w S' m' ∧ Rep w S' r' v ∧ ∀ g b, m' g = some b → m g ≠ none
theorem View.refl (m : Mem) (r : AV) : View m r m r := fun w S v h1 h2 => ⟨S, fun _ h => h, fun _ h => .inl h, h1, h2, fun g b h => by rw [h]; simp⟩
theorem View.trans {m m1 m2 : Mem} {r r1 r2 : AV} (h : View m r m1 r1) (k : View m1 r1 m2 r2) : View m r m2 r2 := fun w S v h1 h2 => by
  obtain ⟨S1, a1, a2, a3, a4, a5⟩ := h w S v h1 h2
  obtain ⟨S2, b1, b2, b3, b4, b5⟩ := k w S1 v a3 a4
  refine ⟨S2, fun b hb => b1 b (a1 b hb), fun b hb => ?_, b3, b4, fun g b hg => ?_⟩
  · rcases b2 b hb with h | h
    · exact a2 b h
    · cases hq : m1 b with
      | none => exact absurd hq h
      | some x => exact .inr (a5 b x hq)
  · cases hq : m1 g with
    | none => exact absurd hq (b5 g b hg)
    | some x => exact a5 g x hq
/-- A part of the memory is left. -/
theorem View.forget {m m' : Mem} (h : ∀ g b, m' g = some b → m g = some b) (r : AV) : View m r m' r := fun w S v h1 h2 =>
  ⟨S, fun _ h => h, fun _ h => .inl h, ⟨fun g b hg => h1.blk g b (h g b hg), fun b hb => ⟨(by
    cases hq : m' b with
    | none => rfl
    | some x => have := (h1.apart b hb).1; rw [h b x hq] at this; cases this), (h1.apart b hb).2⟩⟩, h2, fun g b hg => by rw [h g b hg]; simp⟩
/-- A slice that is not written any more. -/
theorem View.freeze {m : Mem} {g n c e : Nat} {T : TypeId} {xs : List AV} (hg : m g = some (.arr T e c xs)) (hn : xs.length = n) : View m (.own g n c) (m.del g) (.lst false e xs) := fun w S v h1 h2 => by
  obtain ⟨vs, us, hb, hr, hl, he, hle⟩ := h1.blk g _ hg
  have hSS : ∀ b, S b → S b ∨ b = g := fun b hb => .inl hb
  refine ⟨fun b => S b ∨ b = g, hSS, fun b hb => hb.imp id (fun h => by rw [h, hg]; simp), ⟨fun g' b' hg' => ?_, fun b hb => ?_⟩, ?_, fun g' b' hg' => ?_⟩
  · unfold Mem.del at hg'
    split at hg'
    · cases hg'
    · exact (h1.blk g' b' hg').mono (fun _ _ => rfl) hSS rfl
  · rcases hb with hb | rfl
    · refine ⟨?_, (h1.apart b hb).2⟩
      unfold Mem.del
      split
      · rfl
      · exact (h1.apart b hb).1
    · exact ⟨by simp [Mem.del], (Array.getElem?_eq_some_iff.1 hb).1⟩
  · cases h2
    subst hn
    exact .lst false e g 0 c (.inr rfl) he hle (fun h => by cases h) (Cells.of_block hb (hr.mono (fun _ _ => rfl) hSS) 0 (fun i v hv => by
      have : i < vs.length := (List.getElem?_eq_some_iff.1 hv).1
      simp [List.getElem?_append_left this, hv]))
  · unfold Mem.del at hg'
    split at hg'
    · cases hg'
    · rw [hg']; simp

/-- A function's results. -/
def resA (P : Program) (m : Mem) (slots : Nat → AV) : List ResultVar → Option (List AV)
  | [] => some []
  | .tmp t :: l => match resA P m slots l with | some vs => some (slots t :: vs) | none => none
  | .cell a t :: l => match loadA P m t (slots a), resA P m slots l with | some v, some vs => some (v :: vs) | _, _ => none

/-- One result. -/
def resF (tmps : Array Value) : ResultVar → Sem Value
  | .tmp t => pure (tmps.getD t undef)
  | .cell b t => do loadVar t (← asAddr (tmps.getD b undef))
theorem results_eq (fn : Func) (tmps : Array Value) : results fn tmps = (fn.results.mapM (resF tmps) >>= fun vs => pure (if h : vs.size = 1 then vs[0] else .tuple vs)) := by
  unfold results
  congr 2
theorem resA_sound {w : World} {S : Nat → Prop} {m : Mem} (hm : MemRep w S m) {s : St} (hs : s.mem = m) {a : Act} (hsl : ∀ t, Rep w S (s.slots t) (a.tmps.getD t undef)) : ∀ (l : List ResultVar) (vs : List AV), resA P m s.slots l = some vs →
    ∃ us, (l.mapM (resF a.tmps)).run P w = .ok us w ∧ Reps w S vs us
  | [], vs, h => by
    obtain rfl := Option.some.inj h
    exact ⟨[], rfl, .nil⟩
  | .tmp t :: l, vs, h => by
    simp only [resA] at h
    split at h
    · rename_i vs' hv
      obtain rfl := Option.some.inj h
      obtain ⟨us, h1, h2⟩ := resA_sound hm hs hsl l vs' hv
      refine ⟨_ :: us, ?_, .cons (hsl t) h2⟩
      rw [List.mapM_cons]
      simp only [resF, pure_bind, Sem.run_bind, h1, Result.andThen_ok, Sem.run_pure]
    · cases h
  | .cell b t :: l, vs, h => by
    simp only [resA] at h
    split at h
    · rename_i v vs' hv hvs
      obtain rfl := Option.some.inj h
      obtain ⟨us, h1, h2⟩ := resA_sound hm hs hsl l vs' hvs
      obtain ⟨u, h3, h4⟩ := loadA_sound (P := P) hm (hsl b) hv
      refine ⟨u :: us, ?_, .cons h4 h2⟩
      have h5 : (resF a.tmps (.cell b t)).run P w = .ok u w := by
        show ((do loadVar t (← asAddr (a.tmps.getD b undef))) : Sem Value).run P w = .ok u w
        generalize a.tmps.getD b undef = q at h3 ⊢
        cases q with
        | pointer o =>
          cases o with
          | none => simp [Instr.loadAt, Instr.sureAddr] at h3
          | some ad => simpa [Instr.loadAt, Instr.sureAddr, asAddr] using h3
        | _ => simp [Instr.loadAt, Instr.sureAddr] at h3
      rw [List.mapM_cons]
      rw [run_ok h5]
      simp only [Sem.run_bind, h1, Result.andThen_ok, Sem.run_pure]
    · cases h

def oneOf : List AV → AV
  | [v] => v
  | vs => .tup vs
/-- What holds at a function's end. -/
def Post (P : Program) (fn : Func) (k : AV → Mem → Prop) : Exit → St → Prop
  | .normal, s | .ret, s => ∃ vs r m', resA P s.mem s.slots fn.results.toList = some vs ∧ View s.mem (oneOf vs) m' r ∧ k r m'
  | _, _ => False
theorem results_sound {w : World} {S : Nat → Prop} {s : St} (hm : MemRep w S s.mem) {a : Act} (hsl : ∀ t, Rep w S (s.slots t) (a.tmps.getD t undef)) {fn : Func} {vs : List AV} (h : resA P s.mem s.slots fn.results.toList = some vs) :
    ∃ v, (results fn a.tmps).run P w = .ok v w ∧ Rep w S (oneOf vs) v := by
  obtain ⟨us, h1, h2⟩ := resA_sound (P := P) hm rfl hsl _ _ h
  have hl := h2.length
  have hrun : (fn.results.mapM (resF a.tmps)).run P w = .ok us.toArray w := by
    rw [← Array.toArray_toList (xs := fn.results), List.mapM_toArray]
    simp only [Sem.run_map, h1, Result.andThen_ok]
  rw [results_eq, run_ok hrun]
  cases vs with
  | nil => cases h2; exact ⟨_, rfl, .tup .nil⟩
  | cons v vs =>
    cases h2 with
    | cons hv ht =>
      cases vs with
      | nil => cases ht; exact ⟨_, rfl, hv⟩
      | cons v' vs =>
        cases ht with
        | cons hv' ht => exact ⟨_, by simp, .tup (.cons hv (.cons hv' ht))⟩

/-- The state in which a function begins. -/
def St.init (args : List AV) (m : Mem) : St := ⟨fun t => args.getD t (.tup []), m⟩
theorem init_rep {w : World} {S : Nat → Prop} {args : List AV} {cargs : List Value} (h : Reps w S args cargs) (k : Nat) (m : Mem) : ∀ t, Rep w S ((St.init args m).slots t) ((cargs.toArray ++ Array.replicate k undef).getD t undef) := by
  intro t
  have hu : Rep w S (.tup []) undef := Rep.tup .nil
  have hl := h.length
  simp only [St.init, List.getD_eq_getElem?_getD, Array.getD_eq_getD_getElem?]
  by_cases ht : t < args.length
  · obtain ⟨v, hv, hr⟩ := h.get t args[t] (List.getElem?_eq_getElem ht)
    rw [List.getElem?_eq_getElem ht, Array.getElem?_append_left (by simp; omega)]
    simp [hv]; exact hr
  · rw [List.getElem?_eq_none (by omega)]
    rw [Array.getElem?_append_right (by simp; omega)]
    by_cases h2 : t - cargs.toArray.size < k
    · rw [Array.getElem?_replicate]; simp [h2]; split <;> exact hu
    · rw [Array.getElem?_eq_none (by simp at h2 ⊢; omega)]; exact hu

theorem wcall_of {n : FuncId} {fn : Func} {c : Code} (hf : P.funcs[n]? = some fn) (hname : (fn.name == "runtime.NumGoroutine") = false) (hb : fn.body = some c) {args : List AV} (hN : args.length ≤ fn.ntmps) {m : Mem} {k : AV → Mem → Prop}
    (h : AWp P fn.ntmps c (Post P fn k) (St.init args m)) : WCall P n args m k := by
  refine ⟨⟨fn, hf, hname, by rw [hb]; rfl⟩, fun w S cargs hm hr => ?_⟩
  have hl := hr.length
  refine calls_of_wp hf hb ?_
  let C : Ctx := ⟨w, fun g => m g ≠ none, S⟩
  have hrel : Rel C (St.init args m) { tmps := cargs.toArray ++ Array.replicate (fn.ntmps - cargs.toArray.size) undef, defers := [] } w :=
    ⟨⟨S, ⟨fun _ h => h, fun _ h => .inl h⟩, hm, init_rep hr _ m⟩, rfl, Keep.refl _ _, fun g b hg => .inl (by show m g ≠ none; rw [show m g = some b from hg]; simp)⟩
  refine Code.wp_mono ?_ (h C _ w hrel (by simp; omega))
  rintro e a' w' ⟨s, hpost, hrel', hN'⟩
  obtain ⟨S', hS, hm', hsl⟩ := hrel'.ex
  have fin : (∃ vs r m', resA P s.mem s.slots fn.results.toList = some vs ∧ View s.mem (oneOf vs) m' r ∧ k r m') → a'.defers = [] ∧ ∃ v, (results fn a'.tmps).run P w' = .ok v w' ∧ ∃ v' r m'' S'', Ending.returned v = .returned v' ∧ k r m'' ∧ (∀ b, S b → S'' b) ∧ (∀ b, S'' b → S b ∨ m b ≠ none ∨ w.heap.size ≤ b) ∧ MemRep w' S'' m'' ∧ Rep w' S'' r v' ∧ Keep (fun g => m g ≠ none) w w' ∧ (∀ g b, m'' g = some b → m g ≠ none ∨ w.heap.size ≤ g) := by
    rintro ⟨vs, r, m', h1, h2, h3⟩
    obtain ⟨v, hv, hrv⟩ := results_sound (P := P) hm' hsl h1
    obtain ⟨S'', q1, q2, q3, q4, q5⟩ := h2 w' S' v hm' hrv
    have hD : ∀ b, s.mem b ≠ none → m b ≠ none ∨ w.heap.size ≤ b := fun b hb => by
      cases hq : s.mem b with
      | none => exact absurd hq hb
      | some x => exact hrel'.dom b x hq
    refine ⟨hrel'.defers, v, hv, v, r, m', S'', rfl, h3, fun b hb => q1 b (hS.1 b hb), fun b hb => ?_, q3, q4, hrel'.keep, fun g b hg => hD g (q5 g b hg)⟩
    rcases q2 b hb with h | h
    · exact hS.2 b h
    · exact .inr (hD b h)
  cases e with
  | normal => exact fin hpost
  | ret => exact fin hpost
  | _ => exact hpost.elim
/-- A function that only answers: walked with no memory that may be written. -/
theorem pcall_of {n : FuncId} {fn : Func} {c : Code} (hf : P.funcs[n]? = some fn) (hname : (fn.name == "runtime.NumGoroutine") = false) (hb : fn.body = some c) {args : List AV} (hN : args.length ≤ fn.ntmps) {r : AV}
    (h : AWp P fn.ntmps c (Post P fn fun r' _ => r' = r) (St.init args fun _ => none)) : PCall P n args r := by
  have hw := wcall_of hf hname hb hN h
  refine ⟨hw.1, fun w S cargs m hm hr => ?_⟩
  have hm0 : MemRep w S (fun _ => none) := ⟨(fun g b h => by cases h), fun b hb => ⟨rfl, (hm.apart b hb).2⟩⟩
  refine calls_mono (hw.2 w S cargs hm0 hr) ?_
  rintro e w' ⟨v, r', m', S', rfl, rfl, h1, h2, h3, h4, h5, h6⟩
  have hk : Keep (fun _ => False) w w' := h5.mono (fun b h => absurd rfl h)
  refine ⟨v, S', rfl, h1, fun b hb => (h2 b hb).imp id (fun h => h.elim (fun h => absurd rfl h) id), ⟨fun g b hg => ?_, fun b hb => ?_⟩, h4, hk⟩
  · have hlt := (hm.blk g b hg).lt
    exact (hm.blk g b hg).mono (fun b' hb' => hk.block b' (hm.apart b' hb').2 id) h1 (hk.block g hlt id)
  · refine ⟨?_, (h3.apart b hb).2⟩
    rcases h2 b hb with h | h | h
    · exact (hm.apart b h).1
    · exact absurd rfl h
    · cases hq : m b with
      | none => rfl
      | some x => have := (hm.blk b x hq).lt; omega
end
end Go.T
