/- What reading leaves, and how large it is; what tokens look like. In plain Lean. Runs of a parser, put together, in plain Lean. -/
import Derived.Test.YtdbnllfjmkmdiaaDoorG4
namespace Go.T
open Go
set_option linter.unusedSimpArgs false
set_option linter.unusedVariables false
/-- A token as the lexer makes them. -/
structure Tk.fine (t : Tk) : Prop where
  mark : t.k = 4 → t.s.size = 1
  word : t.k = 3 → kept t.s = true
  len : t.s.size ≤ 6
  num : 0 ≤ t.n ∧ t.n ≤ 999999
def Tk.w (t : Tk) : Nat := t.s.size + 2
def W (ts : List Tk) : Nat := (ts.map Tk.w).sum
theorem W_cons (t : Tk) (ts : List Tk) : W (t :: ts) = t.s.size + 2 + W ts := by simp [W, Tk.w]
theorem W_le : ∀ ts : List Tk, (∀ t ∈ ts, t.fine) → W ts ≤ 8 * ts.length
  | [], _ => by simp [W]
  | t :: ts, h => by
    have h1 := W_le ts fun x hx => h x (List.mem_cons_of_mem _ hx)
    have h2 := (h t (List.mem_cons_self ..)).len
    rw [W_cons, List.length_cons]
    omega
/-- What is read: less is left, and it is no larger than what it is read of. -/
def Fit (f : PE) : Prop := ∀ ts e r, f ts = some (e, r) → r <:+ ts ∧ r.length < ts.length ∧ e.tot + W r ≤ W ts
theorem tkS_some {k : Int} {s : ByteArray} {ts r : List Tk} (h : tkS k s ts = some r) : ∃ t, ts = t :: r ∧ t.is k s = true := by
  cases ts with
  | nil => cases h
  | cons t l =>
    simp only [tkS] at h
    split at h
    · rename_i hi
      cases h
      exact ⟨t, rfl, hi⟩
    · cases h
theorem suf_cons {t : Tk} {r ts : List Tk} (h : t :: r <:+ ts) : r <:+ ts := (List.suffix_cons t r).trans h
theorem tot_two (k : Int) (a b : Ex) : (two k a b).tot = a.tot + b.tot + 2 := by
  unfold two
  rw [Ex.tot_mk]
  simp only [totL]
  have : (⟨#[]⟩ : ByteArray).size = 0 := rfl
  omega
theorem pair_fit {sub : PE} (hs : Fit sub) {k : Int} {ts : List Tk} {e : Ex} {r : List Tk} (h : pairP sub k ts = some (e, r)) : r <:+ ts ∧ r.length < ts.length ∧ e.tot + W r ≤ W ts := by
  simp only [pairP] at h
  obtain ⟨t1, h1, h⟩ := Option.bind_eq_some_iff.1 h
  obtain ⟨⟨a, t2⟩, h2, h⟩ := Option.bind_eq_some_iff.1 h
  obtain ⟨t3, h3, h⟩ := Option.bind_eq_some_iff.1 h
  obtain ⟨⟨b, t4⟩, h4, h⟩ := Option.bind_eq_some_iff.1 h
  obtain ⟨t5, h5, h⟩ := Option.bind_eq_some_iff.1 h
  cases h
  obtain ⟨x1, rfl, _⟩ := tkS_some h1
  obtain ⟨p1, p2, p3⟩ := hs _ _ _ h2
  obtain ⟨x3, rfl, _⟩ := tkS_some h3
  obtain ⟨q1, q2, q3⟩ := hs _ _ _ h4
  try dsimp only at q1 q2 q3
  obtain ⟨x5, rfl, _⟩ := tkS_some h5
  simp only [List.length_cons, W_cons, tot_two] at *
  exact ⟨(suf_cons q1).trans ((suf_cons p1).trans (List.suffix_cons _ _)), by omega, by omega⟩
theorem atom_fit {sub : PE} (hs : Fit sub) : Fit (atomP sub) := by
  intro ts e r h
  cases ts with
  | nil => cases h
  | cons t l =>
    simp only [atomP] at h
    split at h
    · cases h
      refine ⟨List.suffix_cons _ _, by simp, ?_⟩
      rw [Ex.tot_mk, W_cons]
      simp only [totL]
      have : (⟨#[]⟩ : ByteArray).size = 0 := rfl
      omega
    · split at h
      · split at h
        · cases h
          refine ⟨List.suffix_cons _ _, by simp, ?_⟩
          rw [Ex.tot_mk, W_cons]
          simp only [totL]
          omega
        · rename_i r1 h1
          obtain ⟨⟨a, t2⟩, h2, h⟩ := Option.bind_eq_some_iff.1 h
          obtain ⟨t3, h3, h⟩ := Option.bind_eq_some_iff.1 h
          cases h
          obtain ⟨x1, rfl, _⟩ := tkS_some h1
          obtain ⟨p1, p2, p3⟩ := hs _ _ _ h2
          obtain ⟨x3, rfl, _⟩ := tkS_some h3
          simp only [List.length_cons, W_cons, Ex.tot_mk, totL] at *
          exact ⟨(suf_cons p1).trans ((List.suffix_cons _ _).trans (List.suffix_cons _ _)), by omega, by omega⟩
      · split at h
        · obtain ⟨⟨a, t2⟩, h2, h⟩ := Option.bind_eq_some_iff.1 h
          obtain ⟨t3, h3, h⟩ := Option.bind_eq_some_iff.1 h
          cases h
          obtain ⟨p1, p2, p3⟩ := hs _ _ _ h2
          obtain ⟨x3, rfl, _⟩ := tkS_some h3
          simp only [List.length_cons, W_cons] at *
          exact ⟨(suf_cons p1).trans (List.suffix_cons _ _), by omega, by omega⟩
        · split at h
          · obtain ⟨p1, p2, p3⟩ := pair_fit hs h
            simp only [List.length_cons, W_cons]
            exact ⟨p1.trans (List.suffix_cons _ _), by omega, by omega⟩
          · split at h
            · obtain ⟨p1, p2, p3⟩ := pair_fit hs h
              simp only [List.length_cons, W_cons]
              exact ⟨p1.trans (List.suffix_cons _ _), by omega, by omega⟩
            · cases h
theorem muls_fit {sub : PE} (hs : Fit sub) : ∀ (k : Nat) (e : Ex) (ts : List Tk) (e' : Ex) (r : List Tk), mulsP sub k e ts = some (e', r) → r <:+ ts ∧ r.length ≤ ts.length ∧ e'.tot + W r ≤ e.tot + W ts
  | 0, e, ts, e', r, h => by cases h; exact ⟨List.suffix_refl _, Nat.le_refl _, Nat.le_refl _⟩
  | k + 1, e, ts, e', r, h => by
    simp only [mulsP] at h
    split at h
    · cases h; exact ⟨List.suffix_refl _, Nat.le_refl _, Nat.le_refl _⟩
    · rename_i r1 h1
      obtain ⟨⟨a, t2⟩, h2, h⟩ := Option.bind_eq_some_iff.1 h
      obtain ⟨x1, rfl, _⟩ := tkS_some h1
      obtain ⟨p1, p2, p3⟩ := atom_fit hs _ _ _ h2
      obtain ⟨q1, q2, q3⟩ := muls_fit hs k _ _ _ _ h
      try dsimp only at q1 q2 q3
      simp only [List.length_cons, W_cons, tot_two] at *
      exact ⟨q1.trans (p1.trans (List.suffix_cons _ _)), by omega, by omega⟩
theorem mul_fit {sub : PE} (hs : Fit sub) : Fit (mulP sub) := by
  intro ts e r h
  simp only [mulP] at h
  obtain ⟨⟨a, t2⟩, h2, h⟩ := Option.bind_eq_some_iff.1 h
  obtain ⟨p1, p2, p3⟩ := atom_fit hs _ _ _ h2
  obtain ⟨q1, q2, q3⟩ := muls_fit hs _ _ _ _ _ h
  try dsimp only at q1 q2 q3
  exact ⟨q1.trans p1, by omega, by omega⟩
theorem adds_fit {sub : PE} (hs : Fit sub) : ∀ (k : Nat) (e : Ex) (ts : List Tk) (e' : Ex) (r : List Tk), addsP sub k e ts = some (e', r) → r <:+ ts ∧ r.length ≤ ts.length ∧ e'.tot + W r ≤ e.tot + W ts
  | 0, e, ts, e', r, h => by cases h; exact ⟨List.suffix_refl _, Nat.le_refl _, Nat.le_refl _⟩
  | k + 1, e, ts, e', r, h => by
    simp only [addsP] at h
    have one : ∀ (op : Int) (r1 : List Tk) (x1 : Tk), ts = x1 :: r1 → ((mulP sub r1).bind fun (x, r2) => addsP sub k (two op e x) r2) = some (e', r) → r <:+ ts ∧ r.length ≤ ts.length ∧ e'.tot + W r ≤ e.tot + W ts := by
      rintro op r1 x1 rfl h
      obtain ⟨⟨a, t2⟩, h2, h⟩ := Option.bind_eq_some_iff.1 h
      obtain ⟨p1, p2, p3⟩ := mul_fit hs _ _ _ h2
      obtain ⟨q1, q2, q3⟩ := adds_fit hs k _ _ _ _ h
      try dsimp only at q1 q2 q3
      simp only [List.length_cons, W_cons, tot_two] at *
      exact ⟨q1.trans (p1.trans (List.suffix_cons _ _)), by omega, by omega⟩
    split at h
    · rename_i r1 h1
      obtain ⟨x1, hx, _⟩ := tkS_some h1
      exact one 4 r1 x1 hx h
    · split at h
      · rename_i r1 h1
        obtain ⟨x1, hx, _⟩ := tkS_some h1
        exact one 5 r1 x1 hx h
      · cases h; exact ⟨List.suffix_refl _, Nat.le_refl _, Nat.le_refl _⟩
theorem sum_fit : ∀ d, Fit (sumP d)
  | 0 => fun ts e r h => by cases h
  | d + 1 => fun ts e r h => by
    simp only [sumP] at h
    obtain ⟨⟨a, t2⟩, h2, h⟩ := Option.bind_eq_some_iff.1 h
    obtain ⟨p1, p2, p3⟩ := mul_fit (sum_fit d) _ _ _ h2
    obtain ⟨q1, q2, q3⟩ := adds_fit (sum_fit d) _ _ _ _ _ h
    try dsimp only at q1 q2 q3
    exact ⟨q1.trans p1, by omega, by omega⟩
theorem kept_len {s : ByteArray} (h : kept s = true) : 2 ≤ s.size ∧ s.size ≤ 6 := by
  unfold kept has at h
  rw [List.any_eq_true] at h
  obtain ⟨x, hx, he⟩ := h
  have : x = s := by simpa using he
  subst this
  simp [keptL] at hx
  rcases hx with rfl | rfl | rfl | rfl | rfl | rfl <;> exact ⟨by decide, by decide⟩
/-- The program's look at a sign is one of its kind. -/
theorem is_mark {t : Tk} (h : t.fine) (c : UInt8) : ((decide (t.k = 4) || decide (t.k = 3)) && decide (t.s = ch c)) = t.is 4 (ch c) := by
  unfold Tk.is
  by_cases h3 : t.k = 3
  · have h1 := kept_len (h.word h3)
    have h2 : ¬ t.s = ch c := by
      intro e
      rw [e] at h1
      have : (ch c).size = 1 := rfl
      omega
    simp [h2]
  · simp [h3]
theorem is_word {t : Tk} (h : t.fine) {s : ByteArray} (hs : 2 ≤ s.size) : ((decide (t.k = 4) || decide (t.k = 3)) && decide (t.s = s)) = t.is 3 s := by
  unfold Tk.is
  by_cases h4 : t.k = 4
  · have h1 := h.mark h4
    have h2 : ¬ t.s = s := by
      intro e
      rw [e] at h1
      omega
    simp [h2]
  · simp [h4]
theorem nameOk_len {s : ByteArray} (h : nameOk s = true) : s.size ≤ 6 := by
  unfold nameOk inR at h
  simp at h
  omega
theorem tokD_fine {L : List UInt8} {t : Tk} {r : List UInt8} (h : tokD L = some (t, r)) : t.fine := by
  cases L with
  | nil => cases h
  | cons c l =>
    simp only [tokD] at h
    split at h
    · split at h
      · rename_i hk
        cases h
        exact ⟨fun h => (by cases h), fun _ => hk, (kept_len hk).2, by simp, by simp⟩
      · split at h
        · rename_i hn
          cases h
          exact ⟨fun h => (by cases h), fun h => (by cases h), nameOk_len hn, by simp, by simp⟩
        · cases h
    · split at h
      · split at h
        · rename_i n hq
          split at h
          · rename_i h9
            cases h
            have h0 : 0 ≤ n := by
              unfold numD at hq
              split at hq
              · have := Option.some.inj hq; omega
              · cases hq
            exact ⟨fun h => (by cases h), fun h => (by cases h), by show (0 : Nat) ≤ 6; omega, h0, h9⟩
          · cases h
        · cases h
      · split at h
        · cases h
          exact ⟨fun _ => rfl, fun h => (by cases h), by show (1 : Nat) ≤ 6; omega, by simp, by simp⟩
        · cases h
theorem lexD_fine : ∀ (k n : Nat) (l : List UInt8) (ts : List Tk), lexD k n l = some ts → n ≤ 600 → (∀ t ∈ ts, t.fine) ∧ n + ts.length ≤ 600
  | k, n, [], ts, h, hn => by
    have : ts = [] := by cases k <;> (unfold lexD at h; exact (Option.some.inj h).symm)
    subst this
    exact ⟨fun t h => (by cases h), by simpa using hn⟩
  | 0, n, c :: l, ts, h, hn => by cases h
  | k + 1, n, c :: l, ts, h, hn => by
    simp only [lexD] at h
    split at h
    · exact lexD_fine k n l ts h hn
    · split at h
      · cases h
      · rename_i t r ht
        split at h
        · cases h
        · rename_i h6
          obtain ⟨ts', h1, rfl⟩ := Option.map_eq_some_iff.1 h
          obtain ⟨p1, p2⟩ := lexD_fine k (n + 1) r ts' h1 (by omega)
          refine ⟨fun x hx => ?_, by simp only [List.length_cons]; omega⟩
          rcases List.mem_cons.1 hx with rfl | hx
          · exact tokD_fine ht
          · exact p1 x hx
theorem lex_fine {s : ByteArray} {ts : List Tk} (h : lex s = some ts) : (∀ t ∈ ts, t.fine) ∧ ts.length ≤ 600 := by
  unfold lex at h
  split at h
  · cases h
  · have := lexD_fine _ _ _ _ h (by omega)
    exact ⟨this.1, by omega⟩
end Go.T
namespace Go.T
open Go
set_option linter.unusedSimpArgs false
set_option linter.unusedVariables false
/-- A run from a place to another one: what it answers is what g says, or it is bad. -/
structure Run1 {α : Type} (g : List Tk → Option (α × List Tk)) (T : List Tk) (a : Nat) (bad : Bool) (x : α) (a' : Nat) (bad' : Bool) : Prop where
  good : ∀ x0 r, bad = false → g (T.drop a) = some (x0, r) → x = x0 ∧ bad' = false ∧ T.drop a' = r
  ill : bad = true ∨ g (T.drop a) = none → bad' = true
theorem Run1.bind {α β : Type} {g : List Tk → Option (α × List Tk)} {h : α → List Tk → Option (β × List Tk)} {T : List Tk} {a a1 a2 : Nat} {b b1 b2 : Bool} {x : α} {y : β} (h1 : Run1 g T a b x a1 b1) (h2 : Run1 (h x) T a1 b1 y a2 b2) :
    Run1 (fun ts => (g ts).bind fun p => h p.1 p.2) T a b y a2 b2 := by
  refine ⟨fun y0 r hb he => ?_, fun hi => ?_⟩
  · obtain ⟨⟨x0, r0⟩, e1, e2⟩ := Option.bind_eq_some_iff.1 he
    obtain ⟨rfl, hb1, hd⟩ := h1.good x0 r0 hb e1
    exact h2.good y0 r hb1 (by rw [hd]; exact e2)
  · refine h2.ill ?_
    by_cases hb : b = true
    · exact .inl (h1.ill (.inl hb))
    · have hb : b = false := by simpa using hb
      have hn := hi.resolve_left (by simp [hb])
      cases hg : g (T.drop a) with
      | none => exact .inl (h1.ill (.inr hg))
      | some p =>
        obtain ⟨x0, r0⟩ := p
        obtain ⟨rfl, hb1, hd⟩ := h1.good x0 r0 hb hg
        right
        rw [hd]
        simpa [hg] using hn
theorem Run1.pure {α : Type} (x : α) (T : List Tk) (a : Nat) (b : Bool) : Run1 (fun ts => some (x, ts)) T a b x a b :=
  ⟨fun x0 r hb he => by cases he; exact ⟨rfl, hb, rfl⟩, fun h => h.resolve_right (by simp)⟩
theorem Run1.eq {α : Type} {g g' : List Tk → Option (α × List Tk)} {T : List Tk} {a a' : Nat} {b b' : Bool} {x : α} (h : Run1 g T a b x a' b') (e : ∀ ts, g' ts = g ts) : Run1 g' T a b x a' b' := by
  have : g' = g := funext e
  rw [this]; exact h
theorem Run1.bad {α : Type} (g : List Tk → Option (α × List Tk)) (T : List Tk) (a a' : Nat) (x : α) : Run1 g T a true x a' true := ⟨fun _ _ h => (by cases h), fun _ => rfl⟩
/-- A mark that must be there. -/
def tkR (s : ByteArray) : List Tk → Option (Unit × List Tk) := fun ts => (tkS 4 s ts).map fun r => ((), r)
theorem pair_run {sub : PE} {T : List Tk} {a a1 a2 a3 a4 a5 : Nat} {b b1 b2 b3 b4 b5 : Bool} {x y : Ex} (k : Int) (h1 : Run1 (tkR (ch 40)) T a b () a1 b1) (h2 : Run1 sub T a1 b1 x a2 b2) (h3 : Run1 (tkR (ch 44)) T a2 b2 () a3 b3) (h4 : Run1 sub T a3 b3 y a4 b4) (h5 : Run1 (tkR (ch 41)) T a4 b4 () a5 b5) :
    Run1 (pairP sub k) T a b (two k x y) a5 b5 := by
  have p5 := h5.bind (h := fun _ ts => some (two k x y, ts)) (Run1.pure _ T a5 b5)
  have p4 := h4.bind (h := fun y ts => (tkR (ch 41) ts).bind fun p => some (two k x y, p.2)) p5
  have p3 := h3.bind (h := fun _ ts => (sub ts).bind fun q => (tkR (ch 41) q.2).bind fun p => some (two k x q.1, p.2)) p4
  have p2 := h2.bind (h := fun x ts => (tkR (ch 44) ts).bind fun o => (sub o.2).bind fun q => (tkR (ch 41) q.2).bind fun p => some (two k x q.1, p.2)) p3
  have p1 := h1.bind (h := fun _ ts => (sub ts).bind fun n => (tkR (ch 44) n.2).bind fun o => (sub o.2).bind fun q => (tkR (ch 41) q.2).bind fun p => some (two k n.1 q.1, p.2)) p2
  exact p1.eq fun ts => by simp only [pairP, tkR, Option.bind_map, Function.comp_def]
/-- What stands in brackets. -/
def paren (sub : PE) : PE := fun ts => (sub ts).bind fun p => (tkS 4 (ch 41) p.2).bind fun r => some (p.1, r)
theorem paren_run {sub : PE} {T : List Tk} {a a1 a2 : Nat} {b b1 b2 : Bool} {x : Ex} (h1 : Run1 sub T a b x a1 b1) (h2 : Run1 (tkR (ch 41)) T a1 b1 () a2 b2) : Run1 (paren sub) T a b x a2 b2 := by
  have p2 := h2.bind (h := fun _ ts => some (x, ts)) (Run1.pure _ T a2 b2)
  have p1 := h1.bind (h := fun x ts => (tkR (ch 41) ts).bind fun p => some (x, p.2)) p2
  exact p1.eq fun ts => by simp only [paren, tkR, Option.bind_map, Function.comp_def]
/-- A place of an array. -/
def plc (sub : PE) (s : ByteArray) : PE := fun ts => (sub ts).bind fun p => (tkS 4 (ch 93) p.2).bind fun r => some (.mk 3 0 s [p.1], r)
theorem plc_run {sub : PE} {T : List Tk} {a a1 a2 : Nat} {b b1 b2 : Bool} {x : Ex} (s : ByteArray) (h1 : Run1 sub T a b x a1 b1) (h2 : Run1 (tkR (ch 93)) T a1 b1 () a2 b2) : Run1 (plc sub s) T a b (.mk 3 0 s [x]) a2 b2 := by
  have p2 := h2.bind (h := fun _ ts => some (Ex.mk 3 0 s [x], ts)) (Run1.pure _ T a2 b2)
  have p1 := h1.bind (h := fun x ts => (tkR (ch 93) ts).bind fun p => some (Ex.mk 3 0 s [x], p.2)) p2
  exact p1.eq fun ts => by simp only [plc, tkR, Option.bind_map, Function.comp_def]
/-- A run from behind the next token, as one from it. -/
theorem Run1.cons {α : Type} {g g' : List Tk → Option (α × List Tk)} {T : List Tk} {a a' : Nat} {b' : Bool} {x : α} (hlt : a < T.length) (h : Run1 g T (a + 1) false x a' b') (e : ∀ l, g' (T[a] :: l) = g l) : Run1 g' T a false x a' b' := by
  have hd : T.drop a = T[a] :: T.drop (a + 1) := List.drop_eq_getElem_cons hlt
  refine ⟨fun x0 r hb he => h.good x0 r rfl ?_, fun hi => h.ill (hi.imp_right fun hn => ?_)⟩
  · rw [hd, e] at he; exact he
  · rw [hd, e] at hn; exact hn
theorem tkR_run {T : List Tk} (hT : ∀ t ∈ T, t.fine) {a : Nat} (ha : a ≤ T.length) {bad : Bool} (c : UInt8) (t : Tk) (ht : t = if bad = true then ⟨0, ⟨#[]⟩, 0⟩ else (T[a]?).getD ⟨0, ⟨#[]⟩, 0⟩) :
    Run1 (tkR (ch c)) T a bad () (if ((decide (t.k = 4) || decide (t.k = 3)) && decide (t.s = ch c)) = true then a + 1 else a) (!((decide (t.k = 4) || decide (t.k = 3)) && decide (t.s = ch c))) := by
  cases bad with
  | true =>
    subst ht
    simp
    exact Run1.bad _ _ _ _ _
  | false =>
    by_cases hlt : a < T.length
    · have ht2 : t = T[a] := by rw [ht, List.getElem?_eq_getElem hlt]; rfl
      subst ht2
      rw [is_mark (hT _ (List.getElem_mem hlt))]
      have hd : T.drop a = T[a] :: T.drop (a + 1) := List.drop_eq_getElem_cons hlt
      cases hi : T[a].is 4 (ch c) with
      | true =>
        refine ⟨fun x0 r _ he => ?_, fun h => ?_⟩
        · rw [hd] at he
          simp only [tkR, tkS, hi, if_true, Option.map_some, Option.some.injEq, Prod.mk.injEq] at he
          exact ⟨rfl, rfl, he.2⟩
        · have h := h.resolve_left (by simp)
          rw [hd] at h
          simp [tkR, tkS, hi] at h
      | false =>
        refine ⟨fun x0 r _ he => ?_, fun _ => rfl⟩
        rw [hd] at he
        simp [tkR, tkS, hi] at he
    · have ht2 : t = ⟨0, ⟨#[]⟩, 0⟩ := by rw [ht, List.getElem?_eq_none (by omega)]; rfl
      subst ht2
      have hd : T.drop a = [] := List.drop_eq_nil_of_le (by omega)
      refine ⟨fun x0 r _ he => ?_, fun _ => by simp⟩
      rw [hd] at he
      simp [tkR, tkS] at he
/-- Nothing that a sum may begin with is next. -/
theorem atom_none {sub : PE} {T : List Tk} {a : Nat} {t : Tk} (hlt : a < T.length) (ht : t = T[a]) (h2 : t.k ≠ 2) (h1 : t.k ≠ 1) (h4 : t.is 4 (ch 40) = false) (h5 : t.is 3 minB = false) (h6 : t.is 3 maxB = false) : atomP sub (T.drop a) = none := by
  rw [List.drop_eq_getElem_cons hlt, ← ht]
  simp only [atomP, if_neg h2, if_neg h1, h4, h5, h6, Bool.false_eq_true, if_false]
def mulsL (sub : PE) (e : Ex) : PE := fun ts => mulsP sub ts.length e ts
def addsL (sub : PE) (e : Ex) : PE := fun ts => addsP sub ts.length e ts
theorem muls_fuel {sub : PE} (hs : Fit sub) : ∀ (k j : Nat) (e : Ex) (ts : List Tk), ts.length ≤ k → ts.length ≤ j → mulsP sub k e ts = mulsP sub j e ts
  | k, j, e, [], _, _ => by cases k <;> cases j <;> rfl
  | 0, j, e, t :: l, h, _ => by simp at h
  | k + 1, 0, e, t :: l, _, h => by simp at h
  | k + 1, j + 1, e, t :: l, h1, h2 => by
    simp only [mulsP]
    cases hq : tkS 4 (ch 42) (t :: l) with
    | none => rfl
    | some r =>
      obtain ⟨t', hx, _⟩ := tkS_some hq
      cases hx
      simp only
      cases ha : atomP sub l with
      | none => rfl
      | some p =>
        obtain ⟨x, r1⟩ := p
        have hf := (atom_fit hs _ _ _ ha).2.1
        simp only [Option.bind_some]
        simp only [List.length_cons] at h1 h2
        exact muls_fuel hs k j _ r1 (by omega) (by omega)
theorem adds_fuel {sub : PE} (hs : Fit sub) : ∀ (k j : Nat) (e : Ex) (ts : List Tk), ts.length ≤ k → ts.length ≤ j → addsP sub k e ts = addsP sub j e ts
  | k, j, e, [], _, _ => by cases k <;> cases j <;> rfl
  | 0, j, e, t :: l, h, _ => by simp at h
  | k + 1, 0, e, t :: l, _, h => by simp at h
  | k + 1, j + 1, e, t :: l, h1, h2 => by
    have one : ∀ op : Int, ((mulP sub l).bind fun (x, r1) => addsP sub k (two op e x) r1) = (mulP sub l).bind fun (x, r1) => addsP sub j (two op e x) r1 := by
      intro op
      cases ha : mulP sub l with
      | none => rfl
      | some p =>
        obtain ⟨x, r1⟩ := p
        have hf := (mul_fit hs _ _ _ ha).2.1
        simp only [Option.bind_some]
        simp only [List.length_cons] at h1 h2
        exact adds_fuel hs k j _ r1 (by omega) (by omega)
    simp only [addsP]
    cases hq : tkS 4 (ch 43) (t :: l) with
    | some r =>
      obtain ⟨t', hx, _⟩ := tkS_some hq
      cases hx
      exact one 4
    | none =>
      simp only
      cases hq2 : tkS 4 (ch 45) (t :: l) with
      | none => rfl
      | some r =>
        obtain ⟨t', hx, _⟩ := tkS_some hq2
        cases hx
        exact one 5
theorem muls_cons {sub : PE} (hs : Fit sub) (e : Ex) (t : Tk) (l : List Tk) : mulsL sub e (t :: l) = if t.is 4 (ch 42) = true then (atomP sub l).bind fun p => mulsL sub (two 6 e p.1) p.2 else some (e, t :: l) := by
  unfold mulsL
  rw [List.length_cons]
  simp only [mulsP, tkS]
  by_cases h2 : t.is 4 (ch 42) = true
  · simp only [if_pos h2]
    cases ha : atomP sub l with
    | none => rfl
    | some p =>
      obtain ⟨x, r1⟩ := p
      have hf := (atom_fit hs _ _ _ ha).2.1
      simp only [Option.bind_some]
      exact muls_fuel hs _ _ _ _ (by omega) (Nat.le_refl _)
  · simp only [if_neg h2]
theorem adds_cons {sub : PE} (hs : Fit sub) (e : Ex) (t : Tk) (l : List Tk) : addsL sub e (t :: l) = if t.is 4 (ch 43) = true then (mulP sub l).bind fun p => addsL sub (two 4 e p.1) p.2 else if t.is 4 (ch 45) = true then (mulP sub l).bind fun p => addsL sub (two 5 e p.1) p.2 else some (e, t :: l) := by
  have one : ∀ op : Int, ((mulP sub l).bind fun (x, r1) => addsP sub l.length (two op e x) r1) = (mulP sub l).bind fun p => addsP sub p.2.length (two op e p.1) p.2 := by
    intro op
    cases ha : mulP sub l with
    | none => rfl
    | some p =>
      obtain ⟨x, r1⟩ := p
      have hf := (mul_fit hs _ _ _ ha).2.1
      simp only [Option.bind_some]
      exact adds_fuel hs _ _ _ _ (by omega) (Nat.le_refl _)
  unfold addsL
  rw [List.length_cons]
  simp only [addsP, tkS]
  by_cases h1 : t.is 4 (ch 43) = true
  · simp only [if_pos h1]; exact one 4
  · simp only [if_neg h1]
    by_cases h2 : t.is 4 (ch 45) = true
    · simp only [if_pos h2]; exact one 5
    · simp only [if_neg h2]
theorem muls_nil (sub : PE) (e : Ex) : mulsL sub e [] = some (e, []) := rfl
theorem adds_nil (sub : PE) (e : Ex) : addsL sub e [] = some (e, []) := rfl
/-- The next token is not a mark. -/
def notM (T : List Tk) (a : Nat) (c : UInt8) : Prop := ∀ h : a < T.length, T[a].is 4 (ch c) = false
theorem muls_exit {sub : PE} (hs : Fit sub) (e : Ex) {T : List Tk} {a : Nat} {b : Bool} (h : b = true ∨ notM T a 42) : Run1 (mulsL sub e) T a b e a b := by
  refine ⟨fun x0 r hb he => ?_, fun hi => ?_⟩
  · have hn := h.resolve_left (by simp [hb])
    by_cases hlt : a < T.length
    · rw [List.drop_eq_getElem_cons hlt, muls_cons hs, if_neg (by rw [hn hlt]; simp), ← List.drop_eq_getElem_cons hlt] at he
      cases he
      exact ⟨rfl, hb, rfl⟩
    · have hd : T.drop a = [] := List.drop_eq_nil_of_le (by omega)
      rw [hd, muls_nil] at he
      cases he
      exact ⟨rfl, hb, hd⟩
  · rcases h with h | hn
    · exact h
    · refine hi.resolve_right ?_
      by_cases hlt : a < T.length
      · rw [List.drop_eq_getElem_cons hlt, muls_cons hs, if_neg (by rw [hn hlt]; simp)]; simp
      · rw [List.drop_eq_nil_of_le (by omega), muls_nil]; simp
theorem adds_exit {sub : PE} (hs : Fit sub) (e : Ex) {T : List Tk} {a : Nat} {b : Bool} (h : b = true ∨ (notM T a 43 ∧ notM T a 45)) : Run1 (addsL sub e) T a b e a b := by
  refine ⟨fun x0 r hb he => ?_, fun hi => ?_⟩
  · have hn := h.resolve_left (by simp [hb])
    by_cases hlt : a < T.length
    · rw [List.drop_eq_getElem_cons hlt, adds_cons hs, if_neg (by rw [hn.1 hlt]; simp), if_neg (by rw [hn.2 hlt]; simp), ← List.drop_eq_getElem_cons hlt] at he
      cases he
      exact ⟨rfl, hb, rfl⟩
    · have hd : T.drop a = [] := List.drop_eq_nil_of_le (by omega)
      rw [hd, adds_nil] at he
      cases he
      exact ⟨rfl, hb, hd⟩
  · rcases h with h | hn
    · exact h
    · refine hi.resolve_right ?_
      by_cases hlt : a < T.length
      · rw [List.drop_eq_getElem_cons hlt, adds_cons hs, if_neg (by rw [hn.1 hlt]; simp), if_neg (by rw [hn.2 hlt]; simp)]; simp
      · rw [List.drop_eq_nil_of_le (by omega), adds_nil]; simp
theorem muls_step {sub : PE} (hs : Fit sub) {e x y : Ex} {T : List Tk} {a a1 a2 : Nat} {b1 b2 : Bool} (hlt : a < T.length) (hm : T[a].is 4 (ch 42) = true) (h1 : Run1 (atomP sub) T (a + 1) false x a1 b1) (h2 : Run1 (mulsL sub (two 6 e x)) T a1 b1 y a2 b2) : Run1 (mulsL sub e) T a false y a2 b2 := by
  have h3 := h1.bind (h := fun x => mulsL sub (two 6 e x)) h2
  have hd : T.drop a = T[a] :: T.drop (a + 1) := List.drop_eq_getElem_cons hlt
  have e1 : mulsL sub e (T.drop a) = (atomP sub (T.drop (a + 1))).bind fun p => mulsL sub (two 6 e p.1) p.2 := by rw [hd, muls_cons hs, if_pos hm]
  exact ⟨fun x0 r hb he => h3.good x0 r rfl (by rw [← e1]; exact he), fun hi => h3.ill (hi.imp_right fun hn => by rw [← e1]; exact hn)⟩
theorem adds_step {sub : PE} (hs : Fit sub) {e x y : Ex} {T : List Tk} {a a1 a2 : Nat} {b1 b2 : Bool} (hlt : a < T.length) {op : Int} (hm : (T[a].is 4 (ch 43) = true ∧ op = 4) ∨ (T[a].is 4 (ch 43) = false ∧ T[a].is 4 (ch 45) = true ∧ op = 5)) (h1 : Run1 (mulP sub) T (a + 1) false x a1 b1) (h2 : Run1 (addsL sub (two op e x)) T a1 b1 y a2 b2) : Run1 (addsL sub e) T a false y a2 b2 := by
  have h3 := h1.bind (h := fun x => addsL sub (two op e x)) h2
  have hd : T.drop a = T[a] :: T.drop (a + 1) := List.drop_eq_getElem_cons hlt
  have e1 : addsL sub e (T.drop a) = (mulP sub (T.drop (a + 1))).bind fun p => addsL sub (two op e p.1) p.2 := by
    rw [hd, adds_cons hs]
    rcases hm with ⟨hm, rfl⟩ | ⟨hm, hm2, rfl⟩
    · rw [if_pos hm]
    · rw [if_neg (by simp [hm]), if_pos hm2]
  exact ⟨fun x0 r hb he => h3.good x0 r rfl (by rw [← e1]; exact he), fun hi => h3.ill (hi.imp_right fun hn => by rw [← e1]; exact hn)⟩
theorem mul_run {sub : PE} {x y : Ex} {T : List Tk} {a a1 a2 : Nat} {b b1 b2 : Bool} (h1 : Run1 (atomP sub) T a b x a1 b1) (h2 : Run1 (mulsL sub x) T a1 b1 y a2 b2) : Run1 (mulP sub) T a b y a2 b2 :=
  (h1.bind (h := fun x => mulsL sub x) h2).eq fun ts => rfl
theorem sum_run {d : Nat} {x y : Ex} {T : List Tk} {a a1 a2 : Nat} {b b1 b2 : Bool} (h1 : Run1 (mulP (sumP d)) T a b x a1 b1) (h2 : Run1 (addsL (sumP d) x) T a1 b1 y a2 b2) : Run1 (sumP (d + 1)) T a b y a2 b2 :=
  (h1.bind (h := fun x => addsL (sumP d) x) h2).eq fun ts => rfl
theorem Run1.lt {g : PE} (hf : Fit g) {T : List Tk} {a a' : Nat} {b : Bool} {x : Ex} (h : Run1 g T a b x a' false) (ha : a' ≤ T.length) : T.length - a' < T.length - a := by
  have hb : b = false := by
    cases b with
    | false => rfl
    | true => have := h.ill (.inl rfl); cases this
  cases hg : g (T.drop a) with
  | none => have := h.ill (.inr hg); cases this
  | some p =>
    obtain ⟨x0, r⟩ := p
    obtain ⟨_, _, hd⟩ := h.good x0 r hb hg
    have h1 := (hf _ _ _ hg).2.1
    have h2 := congrArg List.length hd
    simp at h1 h2
    omega
end Go.T
