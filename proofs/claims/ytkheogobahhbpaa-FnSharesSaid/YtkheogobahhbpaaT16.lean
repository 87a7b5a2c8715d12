/- Ghost steps: what is weakened, what is not written any more; the end of a function; slices that grow. -/
import Derived.Test.YtkheogobahhbpaaT15
namespace Go.T
open Go
set_option linter.unusedSimpArgs false
set_option linter.unusedVariables false
section
variable {P : Program}

theorem post_ret1 {fn : Func} {t : Tmp} {r : AV} {s : St} (hr : fn.results = #[.tmp t]) (h : s.slots t = r) : Post P fn (fun r' _ => r' = r) .ret s :=
  ⟨[s.slots t], s.slots t, s.mem, by rw [hr]; rfl, View.refl _ _, h⟩
theorem post_nrm1 {fn : Func} {t : Tmp} {r : AV} {s : St} (hr : fn.results = #[.tmp t]) (h : s.slots t = r) : Post P fn (fun r' _ => r' = r) .normal s :=
  ⟨[s.slots t], s.slots t, s.mem, by rw [hr]; rfl, View.refl _ _, h⟩
theorem post_ret2 {fn : Func} {t u : Tmp} {r q : AV} {s : St} (hr : fn.results = #[.tmp t, .tmp u]) (h : s.slots t = r) (k : s.slots u = q) : Post P fn (fun r' _ => r' = .tup [r, q]) .ret s :=
  ⟨[s.slots t, s.slots u], .tup [s.slots t, s.slots u], s.mem, by rw [hr]; rfl, View.refl _ _, by rw [h, k]⟩
/-- With a memory. -/
theorem post_retW {fn : Func} {t : Tmp} {k : AV → Mem → Prop} {s : St} (hr : fn.results = #[.tmp t]) (h : ∃ r m, View s.mem (s.slots t) m r ∧ k r m) : Post P fn k .ret s := by
  obtain ⟨r, m, h1, h2⟩ := h
  exact ⟨[s.slots t], r, m, by rw [hr]; rfl, h1, h2⟩
theorem post_nrm0 {fn : Func} {k : AV → Mem → Prop} {s : St} (hr : fn.results = #[]) (h : k (.tup []) s.mem) : Post P fn k .normal s :=
  ⟨[], .tup [], s.mem, by rw [hr]; rfl, View.refl _ _, h⟩
theorem post_ret0 {fn : Func} {k : AV → Mem → Prop} {s : St} (hr : fn.results = #[]) (h : k (.tup []) s.mem) : Post P fn k .ret s :=
  ⟨[], .tup [], s.mem, by rw [hr]; rfl, View.refl _ _, h⟩

/-- What is a, is a' too. -/
def Le (a a' : AV) : Prop := ∀ w S v, Rep w S a v → Rep w S a' v
theorem Le.refl (a : AV) : Le a a := fun _ _ _ h => h
theorem Le.trans {a b c : AV} (h : Le a b) (k : Le b c) : Le a c := fun w S v hv => k w S v (h w S v hv)
theorem Le.lst (f : Bool) (e : Nat) (xs : List AV) : Le (.lst f e xs) (.lst false e xs) := fun w S v h => by
  cases h with
  | lnil _ _ A c _ => exact .lnil _ _ A c (fun h => by cases h)
  | lst _ _ b o c h1 h2 h3 h4 h5 => exact .lst _ _ b o c h1 h2 h3 (fun h => by cases h) h5
theorem Le.nil (f : Bool) (e e' : Nat) : Le (.lst f e []) (.lst false e' []) := fun w S v h => by
  cases h with
  | lnil _ _ A c _ => exact .lnil _ _ A c (fun h => by cases h)
  | lst _ _ b o c h1 h2 h3 h4 h5 => exact .lnil _ _ _ c (fun h => by cases h)
inductive Les : List AV → List AV → Prop
  | nil : Les [] []
  | cons {a a' : AV} {l l' : List AV} : Le a a' → Les l l' → Les (a :: l) (a' :: l')
theorem Les.refl : ∀ l, Les l l
  | [] => .nil
  | a :: l => .cons (Le.refl a) (Les.refl l)
theorem Les.length {l l' : List AV} (h : Les l l') : l.length = l'.length := by
  induction h with
  | nil => rfl
  | cons _ _ ih => simp [ih]
theorem Les.reps {w : World} {S : Nat → Prop} {l l' : List AV} (h : Les l l') : ∀ {vs : List Value}, Reps w S l vs → Reps w S l' vs := by
  induction h with
  | nil => exact fun h => h
  | cons h _ ih => intro vs hr; cases hr with | cons a b => exact .cons (h _ _ _ a) (ih b)
theorem Les.cells {w : World} {S : Nat → Prop} {l l' : List AV} (h : Les l l') : ∀ {b o : Nat}, Cells w S b o l → Cells w S b o l' := by
  induction h with
  | nil => intro b o hc; cases hc; exact .nil b o
  | cons h _ ih => intro b o hc; cases hc with | cons a b c => exact .cons a (h _ _ _ b) (ih c)
theorem Les.append {l l' k k' : List AV} (h : Les l l') (hk : Les k k') : Les (l ++ k) (l' ++ k') := by
  induction h with
  | nil => exact hk
  | cons h _ ih => exact .cons h ih
theorem Le.agg {l l' : List AV} (h : Les l l') : Le (.agg l) (.agg l') := fun w S v hv => by
  cases hv with | agg hr => exact .agg (h.reps hr)
theorem Le.tup {l l' : List AV} (h : Les l l') : Le (.tup l) (.tup l') := fun w S v hv => by
  cases hv with | tup hr => exact .tup (h.reps hr)
theorem Le.ref {l l' : List AV} (h : Les l l') : Le (.ref l) (.ref l') := fun w S v hv => by
  cases hv with | ref b o h1 h2 => exact .ref b o h1 (h.cells h2)
/-- Elements, each with the cells of one that is weaker. -/
inductive Lec : List AV → List AV → Prop
  | nil : Lec [] []
  | cons {a a' : AV} {l l' : List AV} : Les a.cells a'.cells → Lec l l' → Lec (a :: l) (a' :: l')
theorem Lec.flat {l l' : List AV} (h : Lec l l') : Les (flat l) (flat l') := by
  induction h with
  | nil => exact .nil
  | cons h _ ih => simp only [T.flat, List.flatMap_cons]; exact h.append ih
theorem Lec.length {l l' : List AV} (h : Lec l l') : l.length = l'.length := by
  induction h with
  | nil => rfl
  | cons _ _ ih => simp [ih]
theorem Lec.size {e : Nat} {l l' : List AV} (h : Lec l l') (hs : ∀ x ∈ l, x.cells.length = e) : ∀ x ∈ l', x.cells.length = e := by
  induction h with
  | nil => exact fun x hx => by cases hx
  | cons h _ ih =>
    intro x hx
    rcases List.mem_cons.1 hx with rfl | hx
    · rw [← h.length]; exact hs _ (List.mem_cons_self ..)
    · exact ih (fun y hy => hs y (List.mem_cons_of_mem _ hy)) x hx
theorem Le.lstc (f : Bool) (e : Nat) {xs xs' : List AV} (h : Lec xs xs') : Le (.lst f e xs) (.lst false e xs') := fun w S v hv => by
  cases hv with
  | lnil _ _ A c _ => cases h; exact .lnil _ _ A c (fun h => by cases h)
  | lst _ _ b o c h1 h2 h3 h4 h5 =>
    rw [h.length]
    exact .lst _ _ b o c h1 (h.size h2) (by rw [← h.length]; exact h3) (fun h => by cases h) (h.flat.cells h5)
theorem PCall.le {n : FuncId} {args args' : List AV} {r r' : AV} (h : PCall P n args' r) (ha : Les args args') (hr : Le r r') : PCall P n args r' :=
  ⟨h.1, fun w S cargs m hm hargs => calls_mono (h.2 w S cargs m hm (ha.reps hargs)) fun e w' ⟨v, S', h1, h2, h3, h4, h5, h6⟩ => ⟨v, S', h1, h2, h3, h4, hr _ _ _ h5, h6⟩⟩
theorem PCall.arg {n : FuncId} {args args' : List AV} {r : AV} (h : PCall P n args' r) (ha : Les args args') : PCall P n args r := h.le ha (Le.refl _)
theorem WCall.arg {n : FuncId} {args args' : List AV} {m : Mem} {k : AV → Mem → Prop} (h : WCall P n args' m k) (ha : Les args args') : WCall P n args m k :=
  ⟨h.1, fun w S cargs hm hargs => h.2 w S cargs hm (ha.reps hargs)⟩

/-- A state seen as another one. -/
def Sees (s s' : St) : Prop := ∀ w S (f : Tmp → Value), MemRep w S s.mem → (∀ t, Rep w S (s.slots t) (f t)) →
  ∃ S', (∀ b, S b → S' b) ∧ (∀ b, S' b → S b ∨ s.mem b ≠ none) ∧ MemRep w S' s'.mem ∧ (∀ t, Rep w S' (s'.slots t) (f t)) ∧ ∀ g b, s'.mem g = some b → s.mem g ≠ none
theorem AWp.sees {N : Nat} {c : Code} {Q : Exit → St → Prop} {s s' : St} (hs : Sees s s') (h : AWp P N c Q s') : AWp P N c Q s := fun C a w hr hN => by
  refine h C a w ?_ hN
  obtain ⟨S, h1, h2, h3⟩ := hr.ex
  obtain ⟨S', k1, k2, k3, k4, k5⟩ := hs w S _ h2 h3
  have hD : ∀ b, s.mem b ≠ none → C.D0 b ∨ C.w0.heap.size ≤ b := fun b hb => by
    cases hq : s.mem b with
    | none => exact absurd hq hb
    | some x => exact hr.dom b x hq
  refine ⟨⟨S', ⟨fun b hb => k1 b (h1.1 b hb), fun b hb => ?_⟩, k3, k4⟩, hr.defers, hr.keep, fun g b hg => hD g (k5 g b hg)⟩
  rcases k2 b hb with h | h
  · exact h1.2 b h
  · exact .inr (hD b h)
/-- Slots weakened. -/
theorem Sees.slots {s s' : St} (hm : s'.mem = s.mem) (h : ∀ t, Le (s.slots t) (s'.slots t)) : Sees s s' := fun w S f h1 h2 =>
  ⟨S, fun _ h => h, fun _ h => .inl h, hm ▸ h1, fun t => h t _ _ _ (h2 t), fun g b hg => by rw [← hm, hg]; simp⟩
/-- A slice that grew is not written any more. -/
theorem Sees.freeze {s s' : St} {g n c e : Nat} {T : TypeId} {xs : List AV} (hg : s.mem g = some (.arr T e c xs)) (hn : xs.length = n) (hm : s'.mem = s.mem.del g) (h0 : ∀ t, s'.slots t = s.slots t ∨ s'.slots t = .undef ∨ (s.slots t = .own g n c ∧ s'.slots t = .lst false e xs)) : Sees s s' := fun w S f h1 h2 => by
  obtain ⟨vs, us, hb, hr, hl, he, hle⟩ := h1.blk g _ hg
  have hSS : ∀ b, S b → S b ∨ b = g := fun b hb => .inl hb
  refine ⟨fun b => S b ∨ b = g, hSS, fun b hb => hb.imp id (fun h => by rw [h, hg]; simp), ⟨fun g' b' hg' => ?_, fun b hb => ?_⟩, fun t => ?_, fun g' b' hg' => ?_⟩
  · rw [hm] at hg'
    unfold Mem.del at hg'
    split at hg'
    · cases hg'
    · exact (h1.blk g' b' hg').mono (fun _ _ => rfl) hSS rfl
  · rw [hm]
    rcases hb with hb | rfl
    · refine ⟨?_, (h1.apart b hb).2⟩
      unfold Mem.del
      split
      · rfl
      · exact (h1.apart b hb).1
    · exact ⟨by simp [Mem.del], (Array.getElem?_eq_some_iff.1 hb).1⟩
  · rcases h0 t with h0 | h0 | ⟨h0, h0'⟩
    · rw [h0]; exact (h2 t).mono (fun _ _ => rfl) hSS
    · rw [h0]; exact .undef _
    · have h := h2 t
      rw [h0] at h
      rw [h0']
      generalize f t = u at h ⊢
      cases h
      subst hn
      exact .lst false e g 0 c (.inr rfl) he hle (fun h => by cases h) (Cells.of_block hb (hr.mono (fun _ _ => rfl) hSS) 0 (fun i v hv => by
        have : i < vs.length := (List.getElem?_eq_some_iff.1 hv).1
        simp [List.getElem?_append_left this, hv]))
  · rw [hm] at hg'
    unfold Mem.del at hg'
    split at hg'
    · cases hg'
    · rw [hg']; simp

/-- m holds what m0 holds, and more maybe. -/
def Ext (m0 m : Mem) : Prop := ∀ g b, m0 g = some b → m g = some b
theorem Ext.refl (m : Mem) : Ext m m := fun _ _ h => h
theorem Ext.set {m0 m : Mem} (h : Ext m0 m) {g : Nat} (hg : m0 g = none) (b : Blk) : Ext m0 (m.set g b) := fun k x hk => by
  have : k ≠ g := fun e => by rw [e, hg] at hk; cases hk
  rw [Mem.set_other this]; exact h k x hk
theorem Ext.none {m0 m : Mem} (h : Ext m0 m) {g : Nat} (hg : m g = none) : m0 g = none := by
  cases hq : m0 g with
  | none => rfl
  | some b => rw [h g b hq] at hg; cases hg
/-- A slice that grows, of elements of type T of e cells each: xs, in a block of its own beside m0. -/
inductive Grows (T : TypeId) (e : Nat) (m0 : Mem) (xs : List AV) : AV → Mem → Prop
  | lit (f : Nat) (m : Mem) : f = e ∨ xs = [] → Ext m0 m → Grows T e m0 xs (.lst true f xs) m
  | own (g c n : Nat) (m : Mem) : n = xs.length → m g = some (.arr T e c xs) → m0 g = none → Ext m0 m → Grows T e m0 xs (.own g n c) m
/-- It is only read from now on. -/
theorem Grows.view {T : TypeId} {e : Nat} {m0 m : Mem} {xs : List AV} {v : AV} (h : Grows T e m0 xs v m) : View m v m0 (.lst false e xs) := by
  cases h with
  | lit f m hf hm =>
    refine View.trans (View.forget hm _) ?_
    intro w S u h1 h2
    refine ⟨S, fun _ h => h, fun _ h => .inl h, h1, ?_, fun g b h => by rw [h]; simp⟩
    rcases hf with rfl | rfl
    · exact Le.lst _ _ _ _ _ _ h2
    · exact Le.nil _ _ _ _ _ _ h2
  | own g c n m hn hg h0 hm =>
    refine View.trans (View.freeze hg hn.symm) (View.forget (fun k b hk => ?_) _)
    have : k ≠ g := fun e => by rw [e, h0] at hk; cases hk
    simp only [Mem.del, if_neg this]
    exact hm k b hk
/-- Facts about a slice's type. -/
structure ElemT (P : Program) (T E : TypeId) (n b : Nat) : Prop where
  elem : elemT P T = some E
  int : isIntT P T = some false
  size : szT P E = some n
  byte : bytesT P E = some b
  zero : ∃ z, zeroE P E = some z ∧ z.cells.length = n
  pos : n ≠ 0 ∧ b ≠ 0
theorem Grows.append {T E : TypeId} {n b : Nat} (hT : ElemT P T E n b) {m0 m : Mem} {xs ys : List AV} {v x : AV} (h : Grows E n m0 xs v m) {k : AV → Mem → Prop}
    (hx : srcA m n x = some ys) (hok : ∀ y ∈ ys, y.cells.all okCell = true) (hb : (2 * (xs.length + ys.length) + 1024) * b ≤ 281474976710656)
    (hk : ∀ v' m', Grows E n m0 (xs ++ ys) v' m' → k v' m') (U : Array TypeId) (hU : U = #[T, T]) : appendW P m k U v x := by
  subst hU
  obtain ⟨z, hz, hzl⟩ := hT.zero
  unfold appendW
  simp only [List.getElem?_toArray, List.getElem?_cons_zero, List.getElem?_cons_succ, hT.int, hT.elem, hT.size, hT.byte, hz, hx, true_and]
  refine ⟨hT.pos.1, hT.pos.2, hzl, ?_⟩
  cases h with
  | lit f m hf hm =>
    refine ⟨hf, hb, fun h0 => ?_, fun _ g c hg hle => ?_⟩
    · subst h0
      exact hk _ _ (by rw [List.append_nil]; exact .lit f m hf hm)
    · exact hk _ _ (.own g c _ _ (by simp) (set_same _ _ _) (hm.none hg) (hm.set (hm.none hg) _))
  | own g c l m hl hg h0 hm =>
    subst hl
    simp only [hg]
    refine ⟨trivial, trivial, trivial, trivial, hok, hb, fun g' c' hg' hle => ?_⟩
    have hg0 : m0 g' = none := by
      rcases hg' with rfl | h
      · exact h0
      · exact hm.none h
    exact hk _ _ (.own g' c' _ _ (by simp) (set_same _ _ _) hg0 (hm.set hg0 _))
end
end Go.T
