/- How large what is read is; runs of the readers of statements, in plain Lean. Regions that draw their order, where two operations may come in either order and it matters to what is told: both ways are looked at. Regions that draw their order, where a load may come ahead of, between or behind two calls. -/
import Derived.Test.YtdbnllfjmkmdiaaGreatDoorG5
import Derived.Test.YtdbnllfjmkmdiaaGreatDoorG4
set_option linter.unusedSimpArgs false
set_option linter.unusedVariables false
namespace Go.T
open Go
def FitN {α : Type} (n : Nat) (w : α -> Nat) (f : PA α) : Prop := ∀ ts x r, f ts = some (x, r) -> r <:+ ts /\ r.length + n <= ts.length /\ w x + W r <= W ts
theorem FitN.bind {α β : Type} {n m : Nat} {u : α -> Nat} {w : β -> Nat} {g : PA α} {h : α -> PA β} (hg : FitN n u g) (hh : ∀ x, FitN m (fun y => w y - u x) (h x)) : FitN (n + m) w (bindP g h) := by
 intro ts y r he
 obtain ⟨x, r1, h1, h2⟩ := bindP_some.1 he
 obtain ⟨a1, a2, a3⟩ := hg _ _ _ h1
 obtain ⟨b1, b2, b3⟩ := hh x _ _ _ h2
 simp only at b3
 exact ⟨b1.trans a1, by omega, by omega⟩
theorem FitN.pure {α : Type} {w : α -> Nat} {x : α} (h : w x = 0) : FitN 0 w (pureP x) := by
 intro ts y r he
 cases he
 exact ⟨List.suffix_refl _, by omega, by omega⟩
theorem FitN.less {α : Type} {n m : Nat} {u w : α -> Nat} {g : PA α} (h : FitN n u g) (hm : m <= n) (hw : ∀ x, w x <= u x) : FitN m w g := by
 intro ts y r he
 obtain ⟨a1, a2, a3⟩ := h _ _ _ he
 have := hw y
 exact ⟨a1, by omega, by omega⟩
theorem tkR_fit (s : ByteArray) : FitN 1 (fun _ => s.size + 2) (tkR s) := by
 intro ts x r h
 unfold tkR at h
 rw [Option.map_eq_some_iff] at h
 obtain ⟨r', h, e⟩ := h
 cases e
 obtain ⟨t, rfl, ht⟩ := tkS_some h
 unfold Tk.is at ht
 simp only [Bool.and_eq_true, decide_eq_true_eq] at ht
 rw [W_cons, ht.2]
 exact ⟨List.suffix_cons _ _, by simp, by simp only; omega⟩
theorem kpR_fit (s : ByteArray) : FitN 1 (fun _ => s.size + 2) (kpR s) := by
 intro ts x r h
 unfold kpR at h
 rw [Option.map_eq_some_iff] at h
 obtain ⟨r', h, e⟩ := h
 cases e
 obtain ⟨t, rfl, ht⟩ := tkS_some h
 unfold Tk.is at ht
 simp only [Bool.and_eq_true, decide_eq_true_eq] at ht
 rw [W_cons, ht.2]
 exact ⟨List.suffix_cons _ _, by simp, by simp only; omega⟩
theorem nmP_fit : FitN 1 (fun s => s.size + 2) nmP := by
 intro ts x r h
 cases ts with
 | nil => cases h
 | cons t l =>
  simp only [nmP] at h
  split at h
  ·cases h
   rw [W_cons]
   exact ⟨List.suffix_cons _ _, by simp, by simp only; omega⟩
  cases h
theorem numP_fit : FitN 1 (fun _ => 2) numP := by
 intro ts x r h
 cases ts with
 | nil => cases h
 | cons t l =>
  simp only [numP] at h
  split at h
  ·cases h
   rw [W_cons]
   exact ⟨List.suffix_cons _ _, by simp, by simp only; omega⟩
  cases h
theorem exP_fit : FitN 1 Ex.tot exP := by
 intro ts x r h
 obtain ⟨a, b, c⟩ := sum_fit 30 ts x r h
 exact ⟨a, by omega, c⟩
theorem ch_size (c : UInt8) : (ch c).size = 1 := rfl
theorem exEnd_fit (c : UInt8) : FitN 2 (fun e => e.tot + 3) (exEnd c) :=
 FitN.bind exP_fit fun e => FitN.bind (tkR_fit (ch c)) fun _ => FitN.pure (by rw [ch_size]; omega)
theorem zE_tot : zE.tot = 0 := by unfold zE; rw [Ex.tot_mk]; rfl
def Sm.w (x : Sm) : Nat := 1 + x.tot
theorem set_w (s : ByteArray) (e : Ex) : (smSet s e).w = 1 + s.size + e.tot := by unfold Sm.w smSet; rw [Sm.tot_mk, zE_tot]; simp only [totL]; omega
theorem put_w (s : ByteArray) (a e : Ex) : (smPut s a e).w = 1 + s.size + a.tot + e.tot := by unfold Sm.w smPut; rw [Sm.tot_mk, zE_tot]; simp only [totL]; omega
theorem print_w (e : Ex) : (smPrint e).w = 1 + e.tot := by unfold Sm.w smPrint; rw [Sm.tot_mk, zE_tot]; simp only [totL]; have : (⟨#[]⟩ : ByteArray).size = 0 := rfl; omega
theorem for_w (s : ByteArray) (lo hi : Ex) (b : List Sm) : (smFor s lo hi b).w = 1 + s.size + lo.tot + hi.tot + totL Sm.tot b := by unfold Sm.w smFor; rw [Sm.tot_mk, zE_tot]; omega
theorem setP_fit (s : ByteArray) : FitN 3 (fun x : Sm => x.w - (s.size + 1)) (setP s) :=
 FitN.bind (tkR_fit _) fun _ => FitN.bind (exEnd_fit _) fun e => FitN.pure (by rw [set_w]; omega)
theorem putP_fit (s : ByteArray) : FitN 3 (fun x : Sm => x.w - (s.size + 1)) (putP s) :=
 FitN.less (FitN.bind (w := fun x : Sm => x.w - (s.size + 1)) (exEnd_fit _) fun a => FitN.bind (tkR_fit _) fun _ => FitN.bind (exEnd_fit _) fun e => FitN.pure (by rw [put_w]; omega)) (by omega) fun _ => Nat.le_refl _
theorem prnP_fit : FitN 2 Sm.w prnP := FitN.bind (exEnd_fit _) fun e => FitN.pure (by rw [print_w]; omega)
theorem fit_behind {α : Type} {n : Nat} {w : α -> Nat} {g : PA α} (h : FitN n w g) {k : Int} {s : ByteArray} {ts r1 r : List Tk} {x : α} (h1 : tkS k s ts = some r1) (h2 : g r1 = some (x, r)) : r <:+ ts /\ r.length + (n + 1) <= ts.length /\ w x + W r <= W ts := by
 obtain ⟨t, rfl, _⟩ := tkS_some h1
 obtain ⟨a, b, c⟩ := h _ _ _ h2
 rw [W_cons, List.length_cons]
 exact ⟨a.trans (List.suffix_cons _ _), by omega, by omega⟩
theorem asgP_fit (s : ByteArray) : FitN 3 (fun x : Sm => x.w - (s.size + 1)) (asgP s) := by
 intro ts x r h
 unfold asgP at h
 split at h
 ·rename_i r1 h1
  obtain ⟨a, b, c⟩ := fit_behind (putP_fit s) h1 h
  exact ⟨a, by omega, c⟩
 exact setP_fit s _ _ _ h
theorem plainP_fit : FitN 3 Sm.w plainP := by
 intro ts x r h
 unfold plainP at h
 split at h
 ·rename_i r1 h1
  exact fit_behind prnP_fit h1 h
 have := FitN.bind (w := Sm.w) nmP_fit (fun s => FitN.less (asgP_fit s) (Nat.le_refl _) fun x => by omega) _ _ _ h
 exact ⟨this.1, by omega, this.2.2⟩
theorem totL_snoc (l : List Sm) (x : Sm) : totL Sm.tot (l ++ [x]) = totL Sm.tot l + x.w := by
 induction l with
 | nil => simp [totL, Sm.w]
 | cons y l ih => simp only [List.cons_append, totL, ih]; omega
theorem body_fit {sub : PA Sm} (hs : FitN 1 Sm.w sub) : ∀ (k : Nat) (l : List Sm) (ts : List Tk) (b : List Sm) (r : List Tk), bodyP sub k l ts = some (b, r) -> r <:+ ts /\ r.length + 1 <= ts.length /\ totL Sm.tot b + W r <= totL Sm.tot l + W ts
 | 0, _, _, _, _, h => by cases h
 | k + 1, l, ts, b, r, h => by
  simp only [bodyP] at h
  split at h
  ·rename_i r1 h1
   cases h
   obtain ⟨t, rfl, _⟩ := tkS_some h1
   rw [W_cons]
   exact ⟨List.suffix_cons _ _, by simp, by omega⟩
  obtain ⟨⟨x, r1⟩, h1, h2⟩ := Option.bind_eq_some_iff.1 h
  obtain ⟨a1, a2, a3⟩ := hs _ _ _ h1
  obtain ⟨b1, b2, b3⟩ := body_fit hs k _ _ _ _ h2
  rw [totL_snoc] at b3
  simp only at b1 b2 b3 a3
  exact ⟨b1.trans a1, by omega, by omega⟩
theorem loop_fit {sub : PA Sm} (hs : FitN 1 Sm.w sub) : FitN 7 Sm.w (loopP sub) := by
 have hb : FitN 1 (totL Sm.tot) (bodyL sub []) := fun ts b r h => by
  have := body_fit hs _ _ _ _ _ h
  exact ⟨this.1, this.2.1, by have := this.2.2; simp only [totL] at this; omega⟩
 exact FitN.bind nmP_fit fun s => FitN.bind (tkR_fit _) fun _ => FitN.bind exP_fit fun lo => FitN.bind (kpR_fit _) fun _ => FitN.bind exP_fit fun hi => FitN.bind (tkR_fit _) fun _ => FitN.bind hb fun b => FitN.pure (by rw [for_w]; omega)
theorem stmtP_fit : ∀ d, FitN 1 Sm.w (stmtP d)
 | 0 => fun ts x r h => by
  simp only [stmtP] at h
  split at h
  ·cases h
  have := plainP_fit _ _ _ h
  exact ⟨this.1, by omega, this.2.2⟩
 | d + 1 => fun ts x r h => by
  simp only [stmtP] at h
  split at h
  ·rename_i r1 h1
   have := fit_behind (loop_fit (stmtP_fit d)) h1 h
   exact ⟨this.1, by omega, this.2.2⟩
  have := plainP_fit _ _ _ h
  exact ⟨this.1, by omega, this.2.2⟩
theorem rest_fit {sub : PA Sm} (hs : FitN 1 Sm.w sub) : ∀ (k : Nat) (l : List Sm) (ts : List Tk) (b : List Sm) (r : List Tk), restP sub k l ts = some (b, r) -> r <:+ ts /\ totL Sm.tot b + W r <= totL Sm.tot l + W ts
 | k, l, [], b, r, h => by
  have e : restP sub k l [] = some (l, []) := by cases k <;> rfl
  rw [e] at h
  cases h
  exact ⟨List.suffix_refl _, Nat.le_refl _⟩
 | 0, _, _ :: _, _, _, h => by cases h
 | k + 1, l, t :: ts, b, r, h => by
  simp only [restP] at h
  obtain ⟨⟨x, r1⟩, h1, h2⟩ := Option.bind_eq_some_iff.1 h
  obtain ⟨a1, a2, a3⟩ := hs _ _ _ h1
  obtain ⟨b1, b3⟩ := rest_fit hs k _ _ _ _ h2
  rw [totL_snoc] at b3
  simp only at b1 b3 a3
  exact ⟨b1.trans a1, by omega⟩
theorem arrP_fit : FitN 3 (fun a : Ar => 1 + a.tot) arrP :=
 FitN.bind nmP_fit fun s => FitN.bind numP_fit fun n => FitN.bind (tkR_fit _) fun _ => FitN.pure (by unfold Ar.tot; simp only; omega)
theorem totLA_snoc (l : List Ar) (x : Ar) : totL Ar.tot (l ++ [x]) = totL Ar.tot l + (1 + x.tot) := by
 induction l with
 | nil => simp [totL]
 | cons y l ih => simp only [List.cons_append, totL, ih]; omega
theorem arrs_fit : ∀ (k : Nat) (l : List Ar) (ts : List Tk) (b : List Ar) (r : List Tk), arrsP k l ts = some (b, r) -> r <:+ ts /\ totL Ar.tot b + W r <= totL Ar.tot l + W ts
 | 0, l, ts, b, r, h => by cases h; exact ⟨List.suffix_refl _, Nat.le_refl _⟩
 | k + 1, l, ts, b, r, h => by
  simp only [arrsP] at h
  split at h
  ·cases h; exact ⟨List.suffix_refl _, Nat.le_refl _⟩
  rename_i r1 h1
  obtain ⟨⟨x, r2⟩, h2, h3⟩ := Option.bind_eq_some_iff.1 h
  obtain ⟨a1, a2, a3⟩ := fit_behind arrP_fit h1 h2
  obtain ⟨b1, b3⟩ := arrs_fit k _ _ _ _ h3
  rw [totLA_snoc] at b3
  simp only at b1 b3 a3
  exact ⟨b1.trans a1, by omega⟩
-- fuel
theorem body_fuel {sub : PA Sm} (hs : FitN 1 Sm.w sub) : ∀ (k j : Nat) (l : List Sm) (ts : List Tk), ts.length < k -> ts.length < j -> bodyP sub k l ts = bodyP sub j l ts
 | 0, _, _, _, h, _ => by omega
 | _ + 1, 0, _, _, _, h => by omega
 | k + 1, j + 1, l, ts, h1, h2 => by
  simp only [bodyP]
  cases hq : tkS 4 (ch 125) ts with
  | some r => rfl
  | none =>
   simp only
   cases hx : sub ts with
   | none => rfl
   | some p =>
    obtain ⟨x, r⟩ := p
    have := (hs _ _ _ hx).2.1
    simp only [Option.bind_some]
    exact body_fuel hs k j _ _ (by omega) (by omega)
theorem body_eq {sub : PA Sm} (hs : FitN 1 Sm.w sub) (l : List Sm) (ts : List Tk) : bodyL sub l ts = match tkS 4 (ch 125) ts with
  | some r => some (l, r)
  | none => (sub ts).bind fun p => bodyL sub (l ++ [p.1]) p.2 := by
 unfold bodyL
 simp only [bodyP]
 cases hq : tkS 4 (ch 125) ts with
 | some r => rfl
 | none =>
  simp only
  cases hx : sub ts with
  | none => rfl
  | some p =>
   obtain ⟨x, r⟩ := p
   have := (hs _ _ _ hx).2.1
   simp only [Option.bind_some]
   exact body_fuel hs ts.length (r.length + 1) _ r (by omega) (by omega)
theorem rest_fuel {sub : PA Sm} (hs : FitN 1 Sm.w sub) : ∀ (k j : Nat) (l : List Sm) (ts : List Tk), ts.length <= k -> ts.length <= j -> restP sub k l ts = restP sub j l ts
 | k, j, l, [], _, _ => by cases k <;> cases j <;> rfl
 | 0, _, _, _ :: _, h, _ => by simp at h
 | _ + 1, 0, _, _ :: _, _, h => by simp at h
 | k + 1, j + 1, l, t :: ts, h1, h2 => by
  simp only [restP]
  cases hx : sub (t :: ts) with
  | none => rfl
  | some p =>
   obtain ⟨x, r⟩ := p
   have := (hs _ _ _ hx).2.1
   simp only [Option.bind_some]
   simp only [List.length_cons] at h1 h2 this
   exact rest_fuel hs k j _ _ (by omega) (by omega)
theorem rest_cons {sub : PA Sm} (hs : FitN 1 Sm.w sub) (l : List Sm) (t : Tk) (ts : List Tk) : restL sub l (t :: ts) = (sub (t :: ts)).bind fun p => restL sub (l ++ [p.1]) p.2 := by
 unfold restL
 simp only [List.length_cons, restP]
 cases hx : sub (t :: ts) with
 | none => rfl
 | some p =>
  obtain ⟨x, r⟩ := p
  have := (hs _ _ _ hx).2.1
  simp only [Option.bind_some]
  simp only [List.length_cons] at this
  exact rest_fuel hs _ _ _ _ (by omega) (Nat.le_refl _)
theorem arrs_fuel : ∀ (k j : Nat) (l : List Ar) (ts : List Tk), ts.length <= k -> ts.length <= j -> arrsP k l ts = arrsP j l ts
 | 0, 0, _, _, _, _ => rfl
 | 0, j + 1, l, ts, h, _ => by
  have : ts = [] := List.eq_nil_of_length_eq_zero (by omega)
  subst this
  rfl
 | k + 1, 0, l, ts, _, h => by
  have : ts = [] := List.eq_nil_of_length_eq_zero (by omega)
  subst this
  rfl
 | k + 1, j + 1, l, ts, h1, h2 => by
  simp only [arrsP]
  cases hq : tkS 3 arrayB ts with
  | none => rfl
  | some r =>
   simp only
   cases hx : arrP r with
   | none => rfl
   | some p =>
    obtain ⟨x, r2⟩ := p
    have := (fit_behind arrP_fit hq hx).2.1
    simp only [Option.bind_some]
    exact arrs_fuel k j _ _ (by omega) (by omega)
theorem arrs_eq (l : List Ar) (ts : List Tk) : arrsL l ts = match tkS 3 arrayB ts with
  | none => some (l, ts)
  | some r => (arrP r).bind fun p => arrsL (l ++ [p.1]) p.2 := by
 unfold arrsL
 cases ts with
 | nil => rfl
 | cons t ts =>
  simp only [List.length_cons, arrsP]
  cases hq : tkS 3 arrayB (t :: ts) with
  | none => rfl
  | some r =>
   simp only
   cases hx : arrP r with
   | none => rfl
   | some p =>
    obtain ⟨x, r2⟩ := p
    have := (fit_behind arrP_fit hq hx).2.1
    simp only [Option.bind_some]
    simp only [List.length_cons] at this
    exact arrs_fuel _ _ _ _ (by omega) (Nat.le_refl _)
-- runs
theorem Run1.same {α : Type} {g g' : PA α} {T : List Tk} {a a' : Nat} {b b' : Bool} {x : α} (h : Run1 g T a b x a' b') (e : b = false -> g' (T.drop a) = g (T.drop a)) : Run1 g' T a b x a' b' := by
 refine ⟨fun x0 r hb he => h.good x0 r hb (by rw [<- e hb]; exact he), fun hi => ?_⟩
 cases b with
 | true => exact h.ill (.inl rfl)
 | false => exact h.ill (.inr (by rw [<- e rfl]; exact hi.resolve_left (by simp)))
theorem Run1.then_ {α β : Type} {g : PA α} {h : α -> PA β} {T : List Tk} {a a1 a2 : Nat} {b b1 b2 : Bool} {x : α} {y : β} (h1 : Run1 g T a b x a1 b1) (h2 : Run1 (h x) T a1 b1 y a2 b2) : Run1 (bindP g h) T a b y a2 b2 := h1.bind h2
theorem Run1.done {α : Type} (x : α) (T : List Tk) (a : Nat) (b : Bool) : Run1 (pureP x) T a b x a b := Run1.pure x T a b
theorem Run1.behind {α : Type} {g g' : PA α} {T : List Tk} {a a' : Nat} {b' : Bool} {x : α} (hlt : a < T.length) {k : Int} {s : ByteArray} (hm : T[a].is k s = true) (h : Run1 g T (a + 1) false x a' b') (e : ∀ ts r, tkS k s ts = some r -> g' ts = g r) : Run1 g' T a false x a' b' :=
 Run1.cons hlt h fun l => e _ _ (by simp only [tkS, hm, if_true])
theorem Run1.past {α : Type} {g g' : PA α} {T : List Tk} {a a' : Nat} {b b' : Bool} {x : α} {k : Int} {s : ByteArray} (hm : b = true ∨ ∀ hlt : a < T.length, T[a].is k s = false) (h : Run1 g T a b x a' b') (e : ∀ ts, tkS k s ts = none -> g' ts = g ts) : Run1 g' T a b x a' b' := by
 refine h.same fun hb => e _ ?_
 have hm := hm.resolve_left (by simp [hb])
 by_cases hlt : a < T.length
 ·rw [List.drop_eq_getElem_cons hlt]
  simp only [tkS, hm hlt, Bool.false_eq_true, if_false]
 rw [List.drop_eq_nil_of_le (by omega)]
 rfl
theorem Run1.ltN {α : Type} {g : PA α} {w : α -> Nat} (hf : FitN 1 w g) {T : List Tk} {a a' : Nat} {b : Bool} {x : α} (h : Run1 g T a b x a' false) (ha : a' <= T.length) : T.length - a' < T.length - a /\ w x + W (T.drop a') <= W (T.drop a) := by
 have hb : b = false := by
  cases b with
  | false => rfl
  | true => have := h.ill (.inl rfl); cases this
 cases hg : g (T.drop a) with
 | none => have := h.ill (.inr hg); cases this
 | some p =>
  obtain ⟨x0, r⟩ := p
  obtain ⟨rfl, _, hd⟩ := h.good x0 r hb hg
  have h1 := hf _ _ _ hg
  have h2 := congrArg List.length hd
  simp at h1 h2
  rw [hd]
  exact ⟨by omega, h1.2.2⟩
theorem Run1.not_bad {α : Type} {g : PA α} {T : List Tk} {a a' : Nat} {b : Bool} {x : α} (h : Run1 g T a b x a' false) : b = false /\ ∃ r, g (T.drop a) = some (x, r) /\ T.drop a' = r := by
 have hb : b = false := by
  cases b with
  | false => rfl
  | true => have := h.ill (.inl rfl); cases this
 refine ⟨hb, ?_⟩
 cases hg : g (T.drop a) with
 | none => have := h.ill (.inr hg); cases this
 | some p =>
  obtain ⟨x0, r⟩ := p
  obtain ⟨rfl, _, hd⟩ := h.good x0 r hb hg
  exact ⟨r, rfl, hd⟩
theorem Run1.nope {α : Type} {g : PA α} {T : List Tk} {a a' : Nat} {b : Bool} {x : α} (h : b = true ∨ g (T.drop a) = none) : Run1 g T a b x a' true := ⟨fun x0 r hb he => (by
 have h := h.resolve_left (by simp [hb])
 rw [h] at he
 cases he), fun _ => rfl⟩
theorem stmtP_for {d : Nat} {T : List Tk} {a a' : Nat} {b' : Bool} {x : Sm} (hlt : a < T.length) (hm : T[a].is 3 forB = true) (h : Run1 (loopP (stmtP d)) T (a + 1) false x a' b') : Run1 (stmtP (d + 1)) T a false x a' b' :=
 h.behind hlt hm fun ts r hr => by simp only [stmtP, hr]
theorem stmtP_for0 {T : List Tk} {a a' : Nat} {x : Sm} (hlt : a < T.length) (hm : T[a].is 3 forB = true) : Run1 (stmtP 0) T a false x a' true :=
 Run1.nope (.inr (by rw [List.drop_eq_getElem_cons hlt]; simp only [stmtP, tkS, hm, if_true]))
theorem stmtP_plain {d : Nat} {T : List Tk} {a a' : Nat} {b b' : Bool} {x : Sm} (hm : b = true ∨ ∀ hlt : a < T.length, T[a].is 3 forB = false) (h : Run1 plainP T a b x a' b') : Run1 (stmtP d) T a b x a' b' :=
 h.past hm fun ts hr => by cases d <;> simp only [stmtP, hr]
theorem plain_print {T : List Tk} {a a' : Nat} {b' : Bool} {x : Sm} (hlt : a < T.length) (hm : T[a].is 3 printB = true) (h : Run1 prnP T (a + 1) false x a' b') : Run1 plainP T a false x a' b' :=
 h.behind hlt hm fun ts r hr => by simp only [plainP, hr]
theorem plain_name {T : List Tk} {a a' : Nat} {b b' : Bool} {x : Sm} (hm : b = true ∨ ∀ hlt : a < T.length, T[a].is 3 printB = false) (h : Run1 (bindP nmP asgP) T a b x a' b') : Run1 plainP T a b x a' b' :=
 h.past hm fun ts hr => by simp only [plainP, hr]
theorem asg_put {s : ByteArray} {T : List Tk} {a a' : Nat} {b' : Bool} {x : Sm} (hlt : a < T.length) (hm : T[a].is 4 (ch 91) = true) (h : Run1 (putP s) T (a + 1) false x a' b') : Run1 (asgP s) T a false x a' b' :=
 h.behind hlt hm fun ts r hr => by simp only [asgP, hr]
theorem asg_set {s : ByteArray} {T : List Tk} {a a' : Nat} {b b' : Bool} {x : Sm} (hm : b = true ∨ notM T a 91) (h : Run1 (setP s) T a b x a' b') : Run1 (asgP s) T a b x a' b' :=
 h.past hm fun ts hr => by simp only [asgP, hr]
theorem body_exit {sub : PA Sm} (hs : FitN 1 Sm.w sub) (l : List Sm) {T : List Tk} {a a' : Nat} {b b' : Bool} (hb : b = true ∨ ∃ hlt : a < T.length, T[a].is 4 (ch 125) = true) (h : Run1 (tkR (ch 125)) T a b () a' b') : Run1 (bodyL sub l) T a b l a' b' := by
 cases b with
 | true => rw [h.ill (.inl rfl)]; exact Run1.nope (.inl rfl)
 | false =>
  obtain ⟨hlt, hm⟩ := hb.resolve_left (by simp)
  have h2 := h.bind (h := fun _ => pureP l) (Run1.pure l T a' b')
  refine h2.same fun _ => ?_
  rw [List.drop_eq_getElem_cons hlt, body_eq hs]
  simp only [tkR, tkS, hm, if_true, pureP, Option.map_some, Option.bind_some]
theorem body_step {sub : PA Sm} (hs : FitN 1 Sm.w sub) {l y : List Sm} {x : Sm} {T : List Tk} {a a1 a2 : Nat} {b b1 b2 : Bool} (hm : b = true ∨ notM T a 125) (h1 : Run1 sub T a b x a1 b1) (h2 : Run1 (bodyL sub (l ++ [x])) T a1 b1 y a2 b2) : Run1 (bodyL sub l) T a b y a2 b2 :=
 (h1.bind (h := fun x => bodyL sub (l ++ [x])) h2).past hm fun ts hr => by rw [body_eq hs, hr]
theorem rest_exit {sub : PA Sm} (l : List Sm) {T : List Tk} {a : Nat} {b : Bool} (h : b = true ∨ T.length <= a) : Run1 (restL sub l) T a b l a b := by
 cases b with
 | true => exact Run1.bad _ _ _ _ _
 | false =>
  have h := h.resolve_left (by simp)
  refine (Run1.pure l T a false).same fun _ => ?_
  rw [List.drop_eq_nil_of_le h]
  rfl
theorem rest_step {sub : PA Sm} (hs : FitN 1 Sm.w sub) {l y : List Sm} {x : Sm} {T : List Tk} {a a1 a2 : Nat} {b b1 b2 : Bool} (hlt : a < T.length) (h1 : Run1 sub T a b x a1 b1) (h2 : Run1 (restL sub (l ++ [x])) T a1 b1 y a2 b2) : Run1 (restL sub l) T a b y a2 b2 :=
 (h1.bind (h := fun x => restL sub (l ++ [x])) h2).same fun _ => by rw [List.drop_eq_getElem_cons hlt, rest_cons hs]
theorem arrsL_exit (l : List Ar) {T : List Tk} {a : Nat} {b : Bool} (hm : b = true ∨ ∀ hlt : a < T.length, T[a].is 3 arrayB = false) : Run1 (arrsL l) T a b l a b :=
 (Run1.pure l T a b).past hm fun ts hr => by rw [arrs_eq, hr]
theorem arrsL_step {l y : List Ar} {x : Ar} {T : List Tk} {a a1 a2 : Nat} {b1 b2 : Bool} (hlt : a < T.length) (hm : T[a].is 3 arrayB = true) (h1 : Run1 arrP T (a + 1) false x a1 b1) (h2 : Run1 (arrsL (l ++ [x])) T a1 b1 y a2 b2) : Run1 (arrsL l) T a false y a2 b2 :=
 (h1.bind (h := fun x => arrsL (l ++ [x])) h2).behind hlt hm fun ts r hr => by rw [arrs_eq, hr]
theorem kpR_run {T : List Tk} (hT : ∀ t ∈ T, t.fine) {a : Nat} {bad : Bool} {s : ByteArray} (hs : 2 <= s.size) (t : Tk) (ht : t = if bad = true then ⟨0, ⟨#[]⟩, 0⟩ else (T[a]?).getD ⟨0, ⟨#[]⟩, 0⟩) :
  Run1 (kpR s) T a bad () (if ((decide (t.k = 4) || decide (t.k = 3)) && decide (t.s = s)) = true then a + 1 else a) (!((decide (t.k = 4) || decide (t.k = 3)) && decide (t.s = s))) := by
 cases bad with
 | true =>
  subst ht
  have : ¬ (⟨#[]⟩ : ByteArray) = s := by rintro rfl; exact absurd hs (by decide)
  simp
  exact Run1.bad _ _ _ _ _
 | false =>
  by_cases hlt : a < T.length
  ·have ht2 : t = T[a] := by rw [ht, List.getElem?_eq_getElem hlt]; rfl
   subst ht2
   rw [is_word (hT _ (List.getElem_mem hlt)) hs]
   have hd : T.drop a = T[a] :: T.drop (a + 1) := List.drop_eq_getElem_cons hlt
   cases hi : T[a].is 3 s with
   | true =>
    refine ⟨fun x0 r _ he => ?_, fun h => ?_⟩
    ·rw [hd] at he
     simp only [kpR, tkS, hi, if_true, Option.map_some, Option.some.injEq, Prod.mk.injEq] at he
     exact ⟨rfl, rfl, he.2⟩
    have h := h.resolve_left (by simp)
    rw [hd] at h
    simp [kpR, tkS, hi] at h
   | false =>
    refine ⟨fun x0 r _ he => ?_, fun _ => rfl⟩
    rw [hd] at he
    simp [kpR, tkS, hi] at he
  have ht2 : t = ⟨0, ⟨#[]⟩, 0⟩ := by rw [ht, List.getElem?_eq_none (by omega)]; rfl
  subst ht2
  have hd : T.drop a = [] := List.drop_eq_nil_of_le (by omega)
  refine ⟨fun x0 r _ he => ?_, fun _ => by simp⟩
  rw [hd] at he
  simp [kpR, tkS] at he
theorem nmP_run {T : List Tk} {a : Nat} {bad : Bool} (t : Tk) (ht : t = if bad = true then ⟨0, ⟨#[]⟩, 0⟩ else (T[a]?).getD ⟨0, ⟨#[]⟩, 0⟩) : Run1 nmP T a bad (if t.k = 1 then t else ⟨0, ⟨#[]⟩, 0⟩).s (if t.k = 1 then a + 1 else a) (!decide (t.k = 1)) := by
 cases bad with
 | true => subst ht; exact Run1.bad _ _ _ _ _
 | false =>
  by_cases hlt : a < T.length
  ·have ht2 : t = T[a] := by rw [ht, List.getElem?_eq_getElem hlt]; rfl
   subst ht2
   have hd : T.drop a = T[a] :: T.drop (a + 1) := List.drop_eq_getElem_cons hlt
   by_cases hk : T[a].k = 1
   ·rw [if_pos hk, if_pos hk, decide_eq_true hk]
    refine (Run1.pure T[a].s T (a + 1) false).cons hlt fun l => ?_
    simp only [nmP, if_pos hk]
   rw [if_neg hk, if_neg hk, decide_eq_false hk]
   exact Run1.nope (.inr (by rw [hd]; simp only [nmP, if_neg hk]))
  have ht2 : t = ⟨0, ⟨#[]⟩, 0⟩ := by rw [ht, List.getElem?_eq_none (by omega)]; rfl
  subst ht2
  exact Run1.nope (.inr (by rw [List.drop_eq_nil_of_le (by omega)]; rfl))
theorem numP_run {T : List Tk} {a : Nat} {bad : Bool} (t : Tk) (ht : t = if bad = true then ⟨0, ⟨#[]⟩, 0⟩ else (T[a]?).getD ⟨0, ⟨#[]⟩, 0⟩) : Run1 numP T a bad (if t.k = 2 then t else ⟨0, ⟨#[]⟩, 0⟩).n (if t.k = 2 then a + 1 else a) (!decide (t.k = 2)) := by
 cases bad with
 | true => subst ht; exact Run1.bad _ _ _ _ _
 | false =>
  by_cases hlt : a < T.length
  ·have ht2 : t = T[a] := by rw [ht, List.getElem?_eq_getElem hlt]; rfl
   subst ht2
   have hd : T.drop a = T[a] :: T.drop (a + 1) := List.drop_eq_getElem_cons hlt
   by_cases hk : T[a].k = 2
   ·rw [if_pos hk, if_pos hk, decide_eq_true hk]
    refine (Run1.pure T[a].n T (a + 1) false).cons hlt fun l => ?_
    simp only [numP, if_pos hk]
   rw [if_neg hk, if_neg hk, decide_eq_false hk]
   exact Run1.nope (.inr (by rw [hd]; simp only [numP, if_neg hk]))
  have ht2 : t = ⟨0, ⟨#[]⟩, 0⟩ := by rw [ht, List.getElem?_eq_none (by omega)]; rfl
  subst ht2
  exact Run1.nope (.inr (by rw [List.drop_eq_nil_of_le (by omega)]; rfl))
variable {P : Program}
def orderQ (σ : List Nat) (ops : Array Oper) : Bool := ((List.range ops.size).all fun j => σ.contains j) && (σ.all fun j => j < ops.size) && decide σ.Nodup && ops.all fun (o : Oper) => o.after.all fun (e : Edge) => decide (e.on < ops.size)
theorem go_step (md : Region.Mode) {σ : List Nat} {ops : Array Oper} (hB : orderQ σ ops = true) {τ : List Nat} (hT : acycAll md ops τ = true) (fuel t : Nat) (listed : Array Bool) (acc : List Nat) (hs : listed.size = ops.size) (hf0 : fuel + 1 = (rem ops.size listed).length)
  (hc : ∀ (j : Nat) (o : Oper), ops[j]? = some o -> listed.getD j true = true -> ∀ e ∈ direct o, listed.getD e true = true) :
  ∃ (i : Nat) (o : Oper) (t' : Nat), ops[i]? = some o /\ i < listed.size /\ listed.getD i true = false /\ i ∈ remF σ listed /\ (∀ e ∈ direct o, listed.getD e true = true) /\ Region.linearise.go md ops (fuel + 1) t listed acc = Region.linearise.go md ops fuel t' (listed.setIfInBounds i true) (i :: acc) /\
   fuel = (rem ops.size (listed.setIfInBounds i true)).length /\ ∀ (j : Nat) (o' : Oper), ops[j]? = some o' -> (listed.setIfInBounds i true).getD j true = true -> ∀ e ∈ direct o', (listed.setIfInBounds i true).getD e true = true := by
 unfold orderQ at hB
 simp only [Bool.and_eq_true, List.all_eq_true, List.mem_range, decide_eq_true_eq, Array.all_eq_true'] at hB
 obtain ⟨⟨⟨hB, hσ1⟩, hσ2⟩, hE0⟩ := hB
 have hE : ∀ (i : Nat) (o : Oper), ops[i]? = some o -> ∀ e ∈ o.after, e.on < ops.size := by
  intro i o ho e he
  have h1 := hE0 o (Array.mem_of_getElem? ho)
  exact h1 e he
 have hready : ∀ (i : Nat) (o : Oper), ops[i]? = some o -> (((ops[i]?).map (·.after.all fun e => !Region.binds md e || listed.getD e.on false)).getD false = true -> ∀ e ∈ direct o, listed.getD e false = true) := by
  intro i o ho
  rw [ho]
  simp only [Option.map_some, Option.getD_some, Array.all_eq_true', direct, List.mem_map, List.mem_filter]
  rintro h e ⟨x, ⟨hx, hb⟩, rfl⟩
  have := h x (by simpa using hx)
  simpa [binds_any (m := md) hb] using this
 have hgo : ∀ rs, ((List.range ops.size).filter fun i => !listed.getD i true && ((ops[i]?).map (·.after.all fun e => !Region.binds md e || listed.getD e.on false)).getD false) = rs -> Region.linearise.go md ops (fuel + 1) t listed acc = match rs[t % rs.length]? with
  | some i => Region.linearise.go md ops fuel (t / rs.length) (listed.setIfInBounds i true) (i :: acc)
  | none => acc.reverse := by
  rintro rs rfl
  rw [Region.linearise.go]
  rfl
 generalize hrs : ((List.range ops.size).filter fun i => !listed.getD i true && ((ops[i]?).map (·.after.all fun e => !Region.binds md e || listed.getD e.on false)).getD false) = rs at hgo
 have hgo := hgo rs rfl
 have hmem : ∀ i, i ∈ rs -> i ∈ rem ops.size listed /\ i ∈ remF σ listed /\ ∃ o, ops[i]? = some o /\ ∀ e ∈ direct o, listed.getD e false = true := by
  intro i hi
  rw [<- hrs] at hi
  obtain ⟨h1, h2⟩ := List.mem_filter.1 hi
  simp only [Bool.and_eq_true] at h2
  have hlt := List.mem_range.1 h1
  refine ⟨List.mem_filter.2 ⟨h1, h2.1⟩, List.mem_filter.2 ⟨by simpa using hB i hlt, h2.1⟩, ?_⟩
  exact ⟨ops[i], by simp [hlt], hready i _ (by simp [hlt]) h2.2⟩
 have hne : rs ≠ [] := by
  have hrem : rem ops.size listed ≠ [] := by intro h; rw [h] at hf0; simp at hf0
  obtain ⟨i0, l0, hil⟩ := List.exists_cons_of_ne_nil hrem
  have hi0 : i0 ∈ rem ops.size listed := by rw [hil]; simp
  obtain ⟨hin0, hiu0⟩ := List.mem_filter.1 hi0
  unfold acycAll at hT
  simp only [Bool.and_eq_true, List.all_eq_true, List.mem_range] at hT
  obtain ⟨i, hiτ, h1, h2⟩ := acyc_ready (L := fun j => listed.getD j true) τ [] hT.1 (fun j hj => by cases hj) ⟨i0, by simpa using hT.2 i0 (List.mem_range.1 hin0), by simpa using hiu0⟩
  have hin : i < ops.size := by
   rcases Nat.lt_or_ge i ops.size with h | h
   ·exact h
   simp [Array.getD_eq_getD_getElem?, Array.getElem?_eq_none (show listed.size <= i by omega)] at h1
  intro hnil
  have : i ∈ rs := by
   rw [<- hrs]
   refine List.mem_filter.2 ⟨List.mem_range.2 hin, ?_⟩
   simp only [Bool.and_eq_true]
   refine ⟨by simp [h1], ?_⟩
   have h3 := h2 ops[i] (by simp [hin])
   rw [show ops[i]? = some ops[i] from by simp [hin]]
   simp only [Option.map_some, Option.getD_some, Array.all_eq_true', Bool.or_eq_true] at h3 ⊢
   intro e he
   rcases h3 e he with h | h
   ·exact .inl h
   cases hb : Region.binds md e with
   | false => exact .inl rfl
   | true =>
    refine .inr ?_
    have hes := (hE i ops[i] (by simp [hin])) e he
    simp only [Array.getD_eq_getD_getElem?] at h ⊢
    rw [show listed[e.on]? = some (listed[e.on]'(by omega)) from by simp [hs, hes]] at h ⊢
    simpa using h
  rw [hnil] at this; cases this
 have hpos : 0 < rs.length := List.length_pos_iff.2 hne
 have hlt : t % rs.length < rs.length := Nat.mod_lt _ hpos
 rw [List.getElem?_eq_getElem hlt] at hgo
 simp only at hgo
 obtain ⟨hi0, hi, o, ho, hd⟩ := hmem _ (List.getElem_mem hlt)
 generalize rs[t % rs.length] = i at *
 obtain ⟨k1, k2, hl0⟩ := List.append_of_mem hi0
 have hin := List.mem_range.1 (List.mem_filter.1 hi0).1
 have hset0 := rem_set hs hl0
 have hlisted : ∀ e, listed.getD e false = true -> listed.getD e true = true := by
  intro e he
  simp only [Array.getD_eq_getD_getElem?] at he ⊢
  cases hq : listed[e]? with
  | none => rfl
  | some b => rw [hq] at he; simpa using he
 refine ⟨i, o, t / rs.length, ho, by omega, by simpa using (List.mem_filter.1 hi0).2, hi, fun e he => hlisted e (hd e he), hgo, by rw [hset0]; rw [hl0] at hf0; simp at hf0 ⊢; omega, ?_⟩
 intro j o' ho' hj e he
 have key : ∀ q, listed.getD q true = true -> (listed.setIfInBounds i true).getD q true = true := by
  intro q hq
  by_cases hqi : q = i
  ·subst hqi; simp [Array.getD_eq_getD_getElem?]
  simpa [Array.getD_eq_getD_getElem?, Array.getElem?_setIfInBounds_ne (Ne.symm hqi)] using hq
 by_cases hji : j = i
 ·subst hji
  rw [ho] at ho'
  obtain rfl := Option.some.inj ho'
  exact key e (hlisted e (hd e he))
 have : listed.getD j true = true := by simpa [Array.getD_eq_getD_getElem?, Array.getElem?_setIfInBounds_ne (Ne.symm hji)] using hj
 exact key e (hc j o' ho' this e he)
def Before (P : Program) (p r : Nat -> Bool) (ops : Array Oper) (k i : Nat) : Prop := ((ancs ops.toList []).getD i []).contains k = true ∨ ApartAtF P p r ops k i
theorem front_step {p r : Nat -> Bool} {σ : List Nat} {ops : Array Oper} (hn : σ.Nodup) {listed : Array Bool} {K : St -> Prop} (hs : listed.size = ops.size) {i : Nat} {o : Oper} (ho : ops[i]? = some o) (hi : i ∈ remF σ listed) (hin : i < listed.size) (hd : ∀ e ∈ direct o, listed.getD e true = true)
  (hc : ∀ (j : Nat) (o : Oper), ops[j]? = some o -> listed.getD j true = true -> ∀ e ∈ direct o, listed.getD e true = true) (hp : (remF σ listed).Pairwise fun k j => j = i -> Before P p r ops k j) :
  (remF σ (listed.setIfInBounds i true)).length + 1 = (remF σ listed).length /\ (remF σ (listed.setIfInBounds i true)).Sublist (remF σ listed) /\ i ∉ remF σ (listed.setIfInBounds i true) /\ ∀ s, AOpsF P p r ops K (remF σ listed) s -> AOpsF P p r ops K (i :: remF σ (listed.setIfInBounds i true)) s := by
 obtain ⟨l1, l2, hl⟩ := List.append_of_mem hi
 have hset := remF_set hn hin hl
 have hap : ∀ k ∈ l1, ApartAtF P p r ops k i := by
  intro k hk1
  have hkm : k ∈ remF σ listed := by rw [hl]; simp [hk1]
  rw [hl] at hp
  rcases (List.pairwise_append.1 hp).2.2 k hk1 i (by simp) rfl with h | h
  ·have hclosed := ancs_closed ops (fun e => listed.getD e true = true) hc ops.toList [] 0 rfl (Nat.zero_le _) (fun q => by simp) (fun j o _ _ k hk => by simp [List.getD_eq_getElem?_getD] at hk) i o ho hd k (by simpa using h)
   have := (List.mem_filter.1 hkm).2
   rw [hclosed] at this; cases this
  exact h
 refine ⟨by rw [hset, hl]; simp; omega, by rw [hset, hl]; exact (List.Sublist.refl _).append (List.sublist_cons_self _ _), ?_, fun s hk => ?_⟩
 ·intro hm
  have := (List.mem_filter.1 hm).2
  simp [Array.getD_eq_getD_getElem?, hin] at this
 rw [hl] at hk
 rw [hset]
 exact aopsF_front l1 s hap hk
theorem out0_fun {f : Bool} {ev : Operand -> AV} {op : Op} (hc : callV op = false) {v v' : AV} (h : Out0 P f ev op v) (h' : Out0 P f ev op v') : v = v' := by
 cases op with
 | buildSlice T len parts =>
  simp only [Out0] at h h'
  cases he : esz P T with
  | none => rw [he] at h; exact h.elim
  | some n =>
   rw [he] at h h'
   obtain ⟨_, _, _, _, h⟩ := h
   obtain ⟨_, _, _, _, h'⟩ := h'
   cases hl : literalA n (parts.toList.map fun q => (q.1, ev q.2)) with
   | none => rw [hl] at h; exact h.elim
   | some xs =>
    rw [hl] at h h'
    exact h.trans h'.symm
 | call c =>
  simp only [Out0] at h h'
  cases hcal : c.callee with
  | value f => simp [callV, hcal] at hc
  | _ =>
   rw [hcal] at h h'
   exact Option.some.inj (h.symm.trans h')
 | _ => exact Option.some.inj (h.symm.trans h')
theorem goutF_fun {f r : Bool} {ops : Array Oper} {o : Oper} (hc : callV o.op = false) {s : St} {v v' : AV} (h : GOutF P f r ops o s v) (h' : GOutF P f r ops o s v') : v = v' := by
 unfold GOutF at h h'
 cases hw : wantedA ops o s with
 | none => rw [hw] at h; exact h.elim
 | some b =>
  rw [hw] at h h'
  cases b with
  | false => exact h.trans h'.symm
  | true =>
   simp only at h h'
   split at h
   ·rename_i hr
    rw [if_pos hr] at h'
    rw [h] at h'
    exact Option.some.inj h'
   rename_i hr
   rw [if_neg hr] at h'
   split at h
   ·rename_i h0
    rw [if_pos h0] at h'
    exact out0_fun hc h h'
   rename_i h0
   rw [if_neg h0] at h'
   rw [h] at h'
   exact Option.some.inj h'
def detOp (f r : Bool) (op : Op) : Bool := decide (clsF f r op <= 1) && !callV op
theorem aopsF_both {p r : Nat -> Bool} {ops : Array Oper} {K : St -> Prop} {i : Nat} {o : Oper} {l1 l2 π : List Nat} (ho : ops[i]? = some o) (hd : detOp (p i) (r i) o.op = true) (hπ : ∀ s, AOpsF P p r ops K l1 s -> AOpsF P p r ops K l2 s -> AOpsF P p r ops K π s) {s : St} (h1 : AOpsF P p r ops K (i :: l1) s) (h2 : AOpsF P p r ops K (i :: l2) s) : AOpsF P p r ops K (i :: π) s := by
 unfold detOp at hd
 rw [Bool.and_eq_true, decide_eq_true_eq, Bool.not_eq_true'] at hd
 rw [aopsF_cons ho] at h1 h2 ⊢
 rw [gopF01 hd.1] at h1 h2 ⊢
 obtain ⟨v1, a1, b1⟩ := h1
 obtain ⟨v2, a2, b2⟩ := h2
 have := goutF_fun hd.2 a1 a2
 subst this
 exact ⟨v1, a1, hπ _ b1 b2⟩
theorem linearG_sound (md : Region.Mode) {p r : Nat -> Bool} {σ : List Nat} {ops : Array Oper} {K : St -> Prop} (hB : orderQ σ ops = true) {τ : List Nat} (hT : acycAll md ops τ = true) : ∀ (fuel t : Nat) (listed : Array Bool) (acc : List Nat), listed.size = ops.size -> fuel = (rem ops.size listed).length -> fuel = (remF σ listed).length ->
  ((remF σ listed).Pairwise fun k i => Before P p r ops k i) -> (∀ (j : Nat) (o : Oper), ops[j]? = some o -> listed.getD j true = true -> ∀ e ∈ direct o, listed.getD e true = true) ->
  ∃ π, Region.linearise.go md ops fuel t listed acc = acc.reverse ++ π /\ ∀ s, AOpsF P p r ops K (remF σ listed) s -> AOpsF P p r ops K π s := by
 have hn : σ.Nodup := by
  unfold orderQ at hB
  simp only [Bool.and_eq_true, decide_eq_true_eq] at hB
  exact hB.1.2
 intro fuel
 induction fuel with
 | zero =>
  intro t listed acc hs hf0 hf hp hc
  have : remF σ listed = [] := List.eq_nil_of_length_eq_zero hf.symm
  rw [this]
  exact ⟨[], by simp [Region.linearise.go], fun s hk => hk⟩
 | succ fuel ih =>
  intro t listed acc hs hf0 hf hp hc
  obtain ⟨i, o, t', ho, hin, hli, hi, hd, hgo, hr, hc'⟩ := go_step md hB hT fuel t listed acc hs hf0 hc
  obtain ⟨f1, f2, f3, f4⟩ := front_step (K := K) (P := P) (p := p) (r := r) hn hs ho hi hin hd hc (hp.imp (S := fun k j => j = i -> Before P p r ops k j) fun h _ => h)
  obtain ⟨π, hg, hπ⟩ := ih t' (listed.setIfInBounds i true) (i :: acc) (by simpa using hs) hr (by omega) (hp.sublist f2) hc'
  exact ⟨i :: π, by rw [hgo, hg]; simp, fun s hk => aopsF_mono hπ i s (f4 s hk)⟩
theorem linearX_sound (md : Region.Mode) {p r : Nat -> Bool} {σ1 σ2 : List Nat} {ops : Array Oper} {K : St -> Prop} {x y : Nat} (hB1 : orderQ σ1 ops = true) (hB2 : orderQ σ2 ops = true) {τ : List Nat} (hT : acycAll md ops τ = true) : ∀ (fuel t : Nat) (listed : Array Bool) (acc : List Nat), listed.size = ops.size -> fuel = (rem ops.size listed).length -> fuel = (remF σ1 listed).length -> fuel = (remF σ2 listed).length ->
  ((remF σ1 listed).Pairwise fun k i => Before P p r ops k i ∨ (k = x /\ (i = y ∨ ((ancs ops.toList []).getD i []).contains y = true))) -> ((remF σ2 listed).Pairwise fun k i => Before P p r ops k i ∨ (k = y /\ (i = x ∨ ((ancs ops.toList []).getD i []).contains x = true))) -> x ∈ remF σ1 listed -> y ∈ remF σ1 listed -> x ≠ y -> (∀ (j : Nat) (o : Oper), ops[j]? = some o -> j = x ∨ j = y ∨ detOp (p j) (r j) o.op = true ∨ ((ancs ops.toList []).getD j []).contains x = true ∨ ((ancs ops.toList []).getD j []).contains y = true) -> (∀ (j : Nat) (o : Oper), ops[j]? = some o -> listed.getD j true = true -> ∀ e ∈ direct o, listed.getD e true = true) ->
  ∃ π, Region.linearise.go md ops fuel t listed acc = acc.reverse ++ π /\ ∀ s, AOpsF P p r ops K (remF σ1 listed) s -> AOpsF P p r ops K (remF σ2 listed) s -> AOpsF P p r ops K π s := by
 have hn1 : σ1.Nodup := by
  unfold orderQ at hB1
  simp only [Bool.and_eq_true, decide_eq_true_eq] at hB1
  exact hB1.1.2
 have hn2 : σ2.Nodup := by
  unfold orderQ at hB2
  simp only [Bool.and_eq_true, decide_eq_true_eq] at hB2
  exact hB2.1.2
 intro fuel
 induction fuel with
 | zero =>
  intro t listed acc hs hf0 hf1 hf2 hp1 hp2 hx hy hxy hdet hc
  have : remF σ1 listed = [] := List.eq_nil_of_length_eq_zero hf1.symm
  rw [this] at hx
  cases hx
 | succ fuel ih =>
  intro t listed acc hs hf0 hf1 hf2 hp1 hp2 hx hy hxy hdet hc
  obtain ⟨i, o, t', ho, hin, hli, hi1, hd, hgo, hr, hc'⟩ := go_step md hB1 hT fuel t listed acc hs hf0 hc
  have hi2 : i ∈ remF σ2 listed := by
   refine List.mem_filter.2 ⟨?_, (List.mem_filter.1 hi1).2⟩
   have hB2' := hB2
   unfold orderQ at hB2'
   simp only [Bool.and_eq_true, List.all_eq_true, List.mem_range] at hB2'
   have := hB2'.1.1.1 i (by omega)
   simpa using this
  have hclosed : ∀ k, ((ancs ops.toList []).getD i []).contains k = true -> listed.getD k true = true := fun k hk => ancs_closed ops (fun e => listed.getD e true = true) hc ops.toList [] 0 rfl (Nat.zero_le _) (fun q => by simp) (fun j o _ _ k hk => by simp [List.getD_eq_getElem?_getD] at hk) i o ho hd k (by simpa using hk)
  have nox : ¬ ((ancs ops.toList []).getD i []).contains x = true := fun h => by
   have h1 := hclosed x h
   have h2 := (List.mem_filter.1 hx).2
   rw [h1] at h2; cases h2
  have noy : ¬ ((ancs ops.toList []).getD i []).contains y = true := fun h => by
   have h1 := hclosed y h
   have h2 := (List.mem_filter.1 hy).2
   rw [h1] at h2; cases h2
  by_cases hiy : i = y
  ·subst hiy
   obtain ⟨f1, f2, f3, f4⟩ := front_step (K := K) (P := P) (p := p) (r := r) hn2 hs ho hi2 hin hd hc (hp2.imp fun {k j} h e => by
    subst e
    rcases h with h | ⟨_, h | h⟩
    ·exact h
    ·exact absurd h.symm hxy
    exact absurd h nox)
   have hp : (remF σ2 (listed.setIfInBounds i true)).Pairwise fun k j => Before P p r ops k j := (hp2.sublist f2).imp_of_mem fun {k j} hk hj h => by
    rcases h with h | ⟨rfl, _⟩
    ·exact h
    exact absurd hk f3
   obtain ⟨π, hg, hπ⟩ := linearG_sound (P := P) (K := K) md hB2 hT fuel t' (listed.setIfInBounds i true) (i :: acc) (by simpa using hs) hr (by omega) hp hc'
   exact ⟨i :: π, by rw [hgo, hg]; simp, fun s _ hk => aopsF_mono hπ i s (f4 s hk)⟩
  obtain ⟨f1, f2, f3, f4⟩ := front_step (K := K) (P := P) (p := p) (r := r) hn1 hs ho hi1 hin hd hc (hp1.imp fun {k j} h e => by
   subst e
   rcases h with h | ⟨_, h | h⟩
   ·exact h
   ·exact absurd h hiy
   exact absurd h noy)
  by_cases hix : i = x
  ·subst hix
   have hp : (remF σ1 (listed.setIfInBounds i true)).Pairwise fun k j => Before P p r ops k j := (hp1.sublist f2).imp_of_mem fun {k j} hk hj h => by
    rcases h with h | ⟨rfl, _⟩
    ·exact h
    exact absurd hk f3
   obtain ⟨π, hg, hπ⟩ := linearG_sound (P := P) (K := K) md hB1 hT fuel t' (listed.setIfInBounds i true) (i :: acc) (by simpa using hs) hr (by omega) hp hc'
   exact ⟨i :: π, by rw [hgo, hg]; simp, fun s hk _ => aopsF_mono hπ i s (f4 s hk)⟩
  obtain ⟨g1, g2, g3, g4⟩ := front_step (K := K) (P := P) (p := p) (r := r) hn2 hs ho hi2 hin hd hc (hp2.imp fun {k j} h e => by
   subst e
   rcases h with h | ⟨_, h | h⟩
   ·exact h
   ·exact absurd h hix
   exact absurd h nox)
  have hx2 : x ∈ remF σ1 (listed.setIfInBounds i true) := by
   refine List.mem_filter.2 ⟨(List.mem_filter.1 hx).1, ?_⟩
   have := (List.mem_filter.1 hx).2
   simpa [Array.getD_eq_getD_getElem?, Array.getElem?_setIfInBounds_ne hix] using this
  have hy2 : y ∈ remF σ1 (listed.setIfInBounds i true) := by
   refine List.mem_filter.2 ⟨(List.mem_filter.1 hy).1, ?_⟩
   have := (List.mem_filter.1 hy).2
   simpa [Array.getD_eq_getD_getElem?, Array.getElem?_setIfInBounds_ne hiy] using this
  have hdo : detOp (p i) (r i) o.op = true := by
   rcases hdet i o ho with h | h | h | h | h
   ·exact absurd h hix
   ·exact absurd h hiy
   ·exact h
   ·exact absurd h nox
   exact absurd h noy
  obtain ⟨π, hg, hπ⟩ := ih t' (listed.setIfInBounds i true) (i :: acc) (by simpa using hs) hr (by omega) (by omega) (hp1.sublist f2) (hp2.sublist g2) hx2 hy2 hxy hdet hc'
  refine ⟨i :: π, by rw [hgo, hg]; simp, fun s hk1 hk2 => ?_⟩
  have a1 := f4 s hk1
  have a2 := g4 s hk2
  exact aopsF_both ho hdo hπ a1 a2
def pairsX (p r : Nat -> Bool) (ops : Array Oper) (an : List (List Nat)) (x y : Nat) : List Nat -> Bool
 | [] => true
 | k :: l => (l.all fun i => (an.getD i []).contains k || (apartF p r ops k i || (k == x && (i == y || (an.getD i []).contains y)))) && pairsX p r ops an x y l
theorem pairsX_sound {p r : Nat -> Bool} {ops : Array Oper} (hz : HZ P r ops) {x y : Nat} : ∀ {l : List Nat}, pairsX p r ops (ancs ops.toList []) x y l = true -> l.Pairwise fun k i => Before P p r ops k i ∨ (k = x /\ (i = y ∨ ((ancs ops.toList []).getD i []).contains y = true))
 | [], _ => .nil
 | k :: l, h => by
  simp only [pairsX, Bool.and_eq_true, List.all_eq_true, Bool.or_eq_true] at h
  refine .cons (fun i hi => ?_) (pairsX_sound hz h.2)
  rcases h.1 i hi with h | h | h
  ·exact .inl (.inl h)
  ·exact .inl (.inr (apartF_sound hz h))
  simp only [Bool.and_eq_true, Bool.or_eq_true, beq_iff_eq] at h
  exact .inr h
def detAll (p r : Nat -> Bool) (ops : Array Oper) (x y : Nat) : Bool := (List.range ops.size).all fun j => match ops[j]? with
 | some o => decide (j = x) || (decide (j = y) || (detOp (p j) (r j) o.op || (((ancs ops.toList []).getD j []).contains x || ((ancs ops.toList []).getD j []).contains y)))
 | none => true
def regX (N : Nat) (p r : Nat -> Bool) (σ1 σ2 : List Nat) (x y : Nat) (τ : List Nat) (ops : Array Oper) : Bool := (dstB N ops && (noAl r ops && (orderQ σ1 ops && (orderQ σ2 ops && (pairsX p r ops (ancs ops.toList []) x y σ1 && (pairsX p r ops (ancs ops.toList []) y x σ2 && (detAll p r ops x y && (σ1.contains x && (σ1.contains y && decide (x ≠ y)))))))))) && (acycAll .text ops (List.range ops.size) && acycAll .gc ops τ && acycAll .any ops τ)
theorem scheduleX_sound {N : Nat} {p r : Nat -> Bool} {σ1 σ2 τ : List Nat} {x y : Nat} {ops : Array Oper} {K : St -> Prop} (hB : regX N p r σ1 σ2 x y τ ops = true) (mixed : Bool) (t : Nat) (s : St) (h1 : AOpsF P p r ops K σ1 s) (h2 : AOpsF P p r ops K σ2 s) : AOpsF P p r ops K (Region.schedule mixed ops t) s := by
 unfold regX at hB
 rw [Bool.and_eq_true] at hB
 obtain ⟨hB, hT⟩ := hB
 simp only [Bool.and_eq_true] at hB hT
 obtain ⟨_, hz, o1, o2, p1, p2, hdet, cx, cy, hxy⟩ := hB
 have hz := noAl_hz (P := P) hz
 have hxy : x ≠ y := by simpa using hxy
 have hrem : rem ops.size (Array.replicate ops.size false) = List.range ops.size := by
  unfold rem
  rw [List.filter_eq_self]
  intro i hi
  have := List.mem_range.1 hi
  simp [Array.getD_eq_getD_getElem?, this]
 have facts : ∀ σ, orderQ σ ops = true -> remF σ (Array.replicate ops.size false) = σ /\ ops.size = σ.length := by
  intro σ ho
  unfold orderQ at ho
  simp only [Bool.and_eq_true, List.all_eq_true, List.mem_range, decide_eq_true_eq] at ho
  obtain ⟨⟨⟨hBr, hσ1⟩, hσ2⟩, _⟩ := ho
  refine ⟨?_, ?_⟩
  ·unfold remF
   rw [List.filter_eq_self]
   intro i hi
   have := hσ1 i hi
   simp [Array.getD_eq_getD_getElem?, this]
  have hp : σ.Perm (List.range ops.size) := (List.perm_ext_iff_of_nodup hσ2 List.nodup_range).2 fun a => ⟨fun h => List.mem_range.2 (hσ1 a h), fun h => by simpa using hBr a (List.mem_range.1 h)⟩
  simpa using hp.length_eq.symm
 obtain ⟨r1, l1⟩ := facts σ1 o1
 obtain ⟨r2, l2⟩ := facts σ2 o2
 have hdet' : ∀ (j : Nat) (o : Oper), ops[j]? = some o -> j = x ∨ j = y ∨ detOp (p j) (r j) o.op = true ∨ ((ancs ops.toList []).getD j []).contains x = true ∨ ((ancs ops.toList []).getD j []).contains y = true := by
  intro j o ho
  unfold detAll at hdet
  rw [List.all_eq_true] at hdet
  have := hdet j (List.mem_range.2 (Array.getElem?_eq_some_iff.1 ho).1)
  rw [ho] at this
  simpa only [Bool.or_eq_true, decide_eq_true_eq] using this
 have key : ∀ md t (τ : List Nat), acycAll md ops τ = true -> AOpsF P p r ops K (Region.linearise md ops t) s := by
  intro md t τ hT
  obtain ⟨π, hgo, hπ⟩ := linearX_sound (P := P) (p := p) (r := r) (x := x) (y := y) md (K := K) o1 o2 hT ops.size t (Array.replicate ops.size false) [] (by simp) (by rw [hrem]; simp) (by rw [r1]; exact l1) (by rw [r2]; exact l2) (by rw [r1]; exact pairsX_sound hz p1) (by rw [r2]; exact pairsX_sound hz p2) (by rw [r1]; simpa using cx) (by rw [r1]; simpa using cy) hxy hdet' (fun j o ho hj => by
   have hlt := (Array.getElem?_eq_some_iff.1 ho).1
   simp [Array.getD_eq_getD_getElem?, hlt] at hj)
  unfold Region.linearise
  rw [hgo, List.reverse_nil, List.nil_append]
  exact hπ s (by rw [r1]; exact h1) (by rw [r2]; exact h2)
 unfold Region.schedule
 split
 ·exact key _ _ τ hT.2
 split
 ·exact key _ _ _ hT.1.1
 exact key _ _ τ hT.1.2
theorem AWp.regionX {N : Nat} {id : Nat} {ops : Array Oper} {Q : Exit -> St -> Prop} {s : St} (p r : Nat -> Bool) (σ1 σ2 : List Nat) (x y : Nat) (τ : List Nat) (hB : regX N p r σ1 σ2 x y τ ops = true) (h1 : AOpsF P p r ops (Q .normal) σ1 s) (h2 : AOpsF P p r ops (Q .normal) σ2 s) : AWp P N (.region id ops true) Q s := by
 intro C a w hr hN
 have hB' := hB
 unfold regX at hB
 simp only [Bool.and_eq_true] at hB
 have hd := hB.1.1
 have hb : ∀ (j : Nat) (d : Tmp), (ops[j]?).bind (·.dst) = some d -> d < N := by
  intro j d hj
  unfold dstB at hd
  rw [Array.all_eq_true'] at hd
  cases hq : ops[j]? with
  | none => rw [hq] at hj; cases hj
  | some o =>
   rw [hq] at hj
   have := hd o (Array.mem_of_getElem? hq)
   simp at hj
   rw [hj] at this
   simpa using this
 have hQ : NextOk C (Q .normal) N (Lift C N Q .normal) := fun s a w h1 h2 h3 => ⟨s, h1, h2, h3⟩
 refine wp_region_draw fun t => ?_
 refine aopsF_sound hb hQ _ s a _ ?_ hN (scheduleX_sound hB' _ t s h1 h2)
 obtain ⟨S, h1, h2, h3⟩ := hr.ex
 exact ⟨⟨S, h1, memRep_drew h2 _, fun t => Rep.mono (w := w) (w' := { w with drawn := w.drawn + 1 }) (fun _ _ => rfl) (fun _ h => h) (h3 t)⟩, hr.defers, hr.keep.drew _, hr.dom⟩
theorem AWp.lastQ {N : Nat} {c : Code} {Q : Exit -> St -> Prop} {s : St} (M : St -> Prop) (h : AWp P N c (thenA M Q) s) (hm : ∀ s', M s' -> Q .normal s') : AWp P N c Q s :=
 h.mono fun e s' hq => by
  cases e with
  | normal => exact hm s' hq
  | _ => exact hq
variable {P : Program}
theorem unset {listed : Array Bool} {i j : Nat} (h : (listed.setIfInBounds i true).getD j true = false) : listed.getD j true = false := by
 by_cases hij : i = j
 ·subst hij
  rw [Array.getD_eq_getD_getElem?] at h
  rcases Nat.lt_or_ge i listed.size with h1 | h1
  ·simp [h1] at h
  simp [Array.getElem?_eq_none (show (listed.setIfInBounds i true).size <= i by simpa using h1)] at h
 simpa [Array.getD_eq_getD_getElem?, Array.getElem?_setIfInBounds_ne hij] using h
theorem aopsF_app {p r : Nat -> Bool} {ops : Array Oper} {K : St -> Prop} : ∀ (l1 l2 : List Nat) (s : St), AOpsF P p r ops K (l1 ++ l2) s = AOpsF P p r ops (AOpsF P p r ops K l2) l1 s
 | [], l2, s => rfl
 | i :: l1, l2, s => by
  have ih : AOpsF P p r ops K (l1 ++ l2) = AOpsF P p r ops (AOpsF P p r ops K l2) l1 := funext fun s => aopsF_app l1 l2 s
  simp only [List.cons_append, AOpsF, ih]
theorem aopsF_imp {p r : Nat -> Bool} {ops : Array Oper} {K K' : St -> Prop} (h : ∀ s, K s -> K' s) : ∀ (l : List Nat) (s : St), AOpsF P p r ops K l s -> AOpsF P p r ops K' l s
 | [], s, hk => h s hk
 | i :: l, s, hk => by
  cases ho : ops[i]? with
  | none => simp only [AOpsF, ho] at hk ⊢; exact aopsF_imp h l s hk
  | some o => rw [aopsF_cons ho] at hk ⊢; exact gopF_mono (aopsF_imp h l) hk
theorem gopF_both {f r : Bool} {ops : Array Oper} {o : Oper} (hd : detOp f r o.op = true) {A B C : St -> Prop} (h : ∀ s, A s -> B s -> C s) {s : St} (h1 : GOpF P f r ops o s A) (h2 : GOpF P f r ops o s B) : GOpF P f r ops o s C := by
 unfold detOp at hd
 rw [Bool.and_eq_true, decide_eq_true_eq, Bool.not_eq_true'] at hd
 rw [gopF01 hd.1] at h1 h2 ⊢
 obtain ⟨v1, a1, b1⟩ := h1
 obtain ⟨v2, a2, b2⟩ := h2
 have := goutF_fun hd.2 a1 a2
 subst this
 exact ⟨v1, a1, h _ b1 b2⟩
theorem gopF_lit {f : Bool} {ops : Array Oper} {o : Oper} (hd : isLit o.op = true) {A B C : St -> Prop} (h : ∀ s, A s -> B s -> C s) {s : St} (h1 : GOpF P f false ops o s A) (h2 : GOpF P f false ops o s B) : GOpF P f false ops o s C := by
 unfold GOpF at h1 h2 ⊢
 cases hw : wantedA ops o s with
 | none => rw [hw] at h1; exact h1.elim
 | some b =>
  rw [hw] at h1 h2
  cases b with
  | false => exact h _ h1 h2
  | true =>
   obtain ⟨d, op, T, pos, af, g⟩ := o
   cases op with
   | buildSlice U n parts =>
    simp only [AOpF, Bool.false_and, Bool.false_eq_true, if_false, aop_buildSlice] at h1 h2 ⊢
    cases he : esz P U with
    | none => rw [he] at h1; exact h1.elim
    | some k =>
     rw [he] at h1 h2
     simp only at h1 h2 ⊢
     obtain ⟨a1, a2, a3, a4, a5⟩ := h1
     obtain ⟨_, _, _, _, b5⟩ := h2
     refine ⟨a1, a2, a3, a4, ?_⟩
     cases hl : literalA k (parts.toList.map fun q => (q.1, s.eval q.2)) with
     | none => rw [hl] at a5; exact a5.elim
     | some xs =>
      rw [hl] at a5 b5
      exact h _ a5 b5
   | _ => cases hd
def detL (f r : Bool) (op : Op) : Bool := detOp f r op || (isLit op && !r)
theorem gopF_bothL {f r : Bool} {ops : Array Oper} {o : Oper} (hd : detL f r o.op = true) {A B C : St -> Prop} (h : ∀ s, A s -> B s -> C s) {s : St} (h1 : GOpF P f r ops o s A) (h2 : GOpF P f r ops o s B) : GOpF P f r ops o s C := by
 unfold detL at hd
 rw [Bool.or_eq_true, Bool.and_eq_true, Bool.not_eq_true'] at hd
 rcases hd with hd | ⟨hd, rfl⟩
 ·exact gopF_both hd h h1 h2
 exact gopF_lit hd h h1 h2
theorem linearX2_sound (md : Region.Mode) {p r : Nat -> Bool} {σ1 σ2 : List Nat} {ops : Array Oper} {K : St -> Prop} {x y : Nat} (hB1 : orderQ σ1 ops = true) (hB2 : orderQ σ2 ops = true) {τ : List Nat} (hT : acycAll md ops τ = true) : ∀ (fuel t : Nat) (listed : Array Bool) (acc : List Nat), listed.size = ops.size -> fuel = (rem ops.size listed).length -> fuel = (remF σ1 listed).length -> fuel = (remF σ2 listed).length ->
  ((remF σ1 listed).Pairwise fun k i => Before P p r ops k i ∨ (k = x /\ (i = y ∨ ((ancs ops.toList []).getD i []).contains y = true))) -> ((remF σ2 listed).Pairwise fun k i => Before P p r ops k i ∨ (k = y /\ (i = x ∨ ((ancs ops.toList []).getD i []).contains x = true))) -> x ∈ remF σ1 listed -> y ∈ remF σ1 listed -> x ≠ y -> (∀ (j : Nat) (o : Oper), ops[j]? = some o -> listed.getD j true = false -> j = x ∨ j = y ∨ detL (p j) (r j) o.op = true ∨ ((ancs ops.toList []).getD j []).contains x = true ∨ ((ancs ops.toList []).getD j []).contains y = true) -> (∀ (j : Nat) (o : Oper), ops[j]? = some o -> listed.getD j true = true -> ∀ e ∈ direct o, listed.getD e true = true) ->
  ∃ π, Region.linearise.go md ops fuel t listed acc = acc.reverse ++ π /\ ∀ s, AOpsF P p r ops K (remF σ1 listed) s -> AOpsF P p r ops K (remF σ2 listed) s -> AOpsF P p r ops K π s := by
 have hn1 : σ1.Nodup := by
  unfold orderQ at hB1
  simp only [Bool.and_eq_true, decide_eq_true_eq] at hB1
  exact hB1.1.2
 have hn2 : σ2.Nodup := by
  unfold orderQ at hB2
  simp only [Bool.and_eq_true, decide_eq_true_eq] at hB2
  exact hB2.1.2
 intro fuel
 induction fuel with
 | zero =>
  intro t listed acc hs hf0 hf1 hf2 hp1 hp2 hx hy hxy hdet hc
  have : remF σ1 listed = [] := List.eq_nil_of_length_eq_zero hf1.symm
  rw [this] at hx
  cases hx
 | succ fuel ih =>
  intro t listed acc hs hf0 hf1 hf2 hp1 hp2 hx hy hxy hdet hc
  obtain ⟨i, o, t', ho, hin, hli, hi1, hd, hgo, hr, hc'⟩ := go_step md hB1 hT fuel t listed acc hs hf0 hc
  have hi2 : i ∈ remF σ2 listed := by
   refine List.mem_filter.2 ⟨?_, (List.mem_filter.1 hi1).2⟩
   have hB2' := hB2
   unfold orderQ at hB2'
   simp only [Bool.and_eq_true, List.all_eq_true, List.mem_range] at hB2'
   have := hB2'.1.1.1 i (by omega)
   simpa using this
  have hclosed : ∀ k, ((ancs ops.toList []).getD i []).contains k = true -> listed.getD k true = true := fun k hk => ancs_closed ops (fun e => listed.getD e true = true) hc ops.toList [] 0 rfl (Nat.zero_le _) (fun q => by simp) (fun j o _ _ k hk => by simp [List.getD_eq_getElem?_getD] at hk) i o ho hd k (by simpa using hk)
  have nox : ¬ ((ancs ops.toList []).getD i []).contains x = true := fun h => by
   have h1 := hclosed x h
   have h2 := (List.mem_filter.1 hx).2
   rw [h1] at h2; cases h2
  have noy : ¬ ((ancs ops.toList []).getD i []).contains y = true := fun h => by
   have h1 := hclosed y h
   have h2 := (List.mem_filter.1 hy).2
   rw [h1] at h2; cases h2
  by_cases hiy : i = y
  ·subst hiy
   obtain ⟨f1, f2, f3, f4⟩ := front_step (K := K) (P := P) (p := p) (r := r) hn2 hs ho hi2 hin hd hc (hp2.imp fun {k j} h e => by
    subst e
    rcases h with h | ⟨_, h | h⟩
    ·exact h
    ·exact absurd h.symm hxy
    exact absurd h nox)
   have hp : (remF σ2 (listed.setIfInBounds i true)).Pairwise fun k j => Before P p r ops k j := (hp2.sublist f2).imp_of_mem fun {k j} hk hj h => by
    rcases h with h | ⟨rfl, _⟩
    ·exact h
    exact absurd hk f3
   obtain ⟨π, hg, hπ⟩ := linearG_sound (P := P) (K := K) md hB2 hT fuel t' (listed.setIfInBounds i true) (i :: acc) (by simpa using hs) hr (by omega) hp hc'
   exact ⟨i :: π, by rw [hgo, hg]; simp, fun s _ hk => aopsF_mono hπ i s (f4 s hk)⟩
  obtain ⟨f1, f2, f3, f4⟩ := front_step (K := K) (P := P) (p := p) (r := r) hn1 hs ho hi1 hin hd hc (hp1.imp fun {k j} h e => by
   subst e
   rcases h with h | ⟨_, h | h⟩
   ·exact h
   ·exact absurd h hiy
   exact absurd h noy)
  by_cases hix : i = x
  ·subst hix
   have hp : (remF σ1 (listed.setIfInBounds i true)).Pairwise fun k j => Before P p r ops k j := (hp1.sublist f2).imp_of_mem fun {k j} hk hj h => by
    rcases h with h | ⟨rfl, _⟩
    ·exact h
    exact absurd hk f3
   obtain ⟨π, hg, hπ⟩ := linearG_sound (P := P) (K := K) md hB1 hT fuel t' (listed.setIfInBounds i true) (i :: acc) (by simpa using hs) hr (by omega) hp hc'
   exact ⟨i :: π, by rw [hgo, hg]; simp, fun s hk _ => aopsF_mono hπ i s (f4 s hk)⟩
  obtain ⟨g1, g2, g3, g4⟩ := front_step (K := K) (P := P) (p := p) (r := r) hn2 hs ho hi2 hin hd hc (hp2.imp fun {k j} h e => by
   subst e
   rcases h with h | ⟨_, h | h⟩
   ·exact h
   ·exact absurd h hix
   exact absurd h nox)
  have hx2 : x ∈ remF σ1 (listed.setIfInBounds i true) := by
   refine List.mem_filter.2 ⟨(List.mem_filter.1 hx).1, ?_⟩
   have := (List.mem_filter.1 hx).2
   simpa [Array.getD_eq_getD_getElem?, Array.getElem?_setIfInBounds_ne hix] using this
  have hy2 : y ∈ remF σ1 (listed.setIfInBounds i true) := by
   refine List.mem_filter.2 ⟨(List.mem_filter.1 hy).1, ?_⟩
   have := (List.mem_filter.1 hy).2
   simpa [Array.getD_eq_getD_getElem?, Array.getElem?_setIfInBounds_ne hiy] using this
  have hdo : detL (p i) (r i) o.op = true := by
   rcases hdet i o ho hli with h | h | h | h | h
   ·exact absurd h hix
   ·exact absurd h hiy
   ·exact h
   ·exact absurd h nox
   exact absurd h noy
  obtain ⟨π, hg, hπ⟩ := ih t' (listed.setIfInBounds i true) (i :: acc) (by simpa using hs) hr (by omega) (by omega) (hp1.sublist f2) (hp2.sublist g2) hx2 hy2 hxy (fun j o ho hj => hdet j o ho (unset hj)) hc'
  refine ⟨i :: π, by rw [hgo, hg]; simp, fun s hk1 hk2 => ?_⟩
  have a1 := f4 s hk1
  have a2 := g4 s hk2
  rw [aopsF_cons ho] at a1 a2 ⊢
  exact gopF_bothL hdo hπ a1 a2
theorem linearY_sound (md : Region.Mode) {p r : Nat -> Bool} {σ1 π ρ2 ρ3 : List Nat} {ops : Array Oper} {K : St -> Prop} {x y z : Nat} (hB1 : orderQ σ1 ops = true) (hB2 : orderQ (π ++ y :: ρ2) ops = true) (hB3 : orderQ (π ++ y :: ρ3) ops = true) {τ : List Nat} (hT : acycAll md ops τ = true)
  (hxy : x ≠ y) (hxz : x ≠ z) (hyz : y ≠ z) (hzy : ((ancs ops.toList []).getD z []).contains y = true) (hzo : z < ops.size) (hdet : ∀ (j : Nat) (o : Oper), ops[j]? = some o -> j = x ∨ j = y ∨ j = z ∨ detL (p j) (r j) o.op = true ∨ ((ancs ops.toList []).getD j []).contains x = true ∨ ((ancs ops.toList []).getD j []).contains z = true)
  (hρ2 : ∀ i ∈ ρ2, i = x ∨ ((ancs ops.toList []).getD i []).contains x = true ∨ ((ancs ops.toList []).getD i []).contains y = true) (hρ3 : ∀ i ∈ ρ3, i = x ∨ ((ancs ops.toList []).getD i []).contains x = true ∨ ((ancs ops.toList []).getD i []).contains y = true)
  (hp0 : (π ++ [y]).Pairwise fun k i => Before P p r ops k i)
  (hp2 : (π ++ y :: ρ2).Pairwise fun k i => Before P p r ops k i ∨ (k = y ∨ (k = x /\ (i = z ∨ ((ancs ops.toList []).getD i []).contains z = true))))
  (hp3 : (π ++ y :: ρ3).Pairwise fun k i => Before P p r ops k i ∨ (k = y ∨ (k = z /\ (i = x ∨ ((ancs ops.toList []).getD i []).contains x = true)))) : ∀ (fuel t : Nat) (listed : Array Bool) (acc : List Nat), listed.size = ops.size -> fuel = (rem ops.size listed).length -> fuel = (remF σ1 listed).length ->
  ((remF σ1 listed).Pairwise fun k i => Before P p r ops k i ∨ (k = x /\ (i = y ∨ ((ancs ops.toList []).getD i []).contains y = true))) -> x ∈ remF σ1 listed -> y ∈ remF σ1 listed -> (∀ (j : Nat) (o : Oper), ops[j]? = some o -> listed.getD j true = true -> ∀ e ∈ direct o, listed.getD e true = true) ->
  ∃ υ, Region.linearise.go md ops fuel t listed acc = acc.reverse ++ υ /\ ∀ s, AOpsF P p r ops K (remF σ1 listed) s -> AOpsF P p r ops (fun s => AOpsF P p r ops K ρ2 s /\ AOpsF P p r ops K ρ3 s) (remF (π ++ [y]) listed) s -> AOpsF P p r ops K υ s := by
 have nd : ∀ σ, orderQ σ ops = true -> σ.Nodup := fun σ h => by
  unfold orderQ at h
  simp only [Bool.and_eq_true, decide_eq_true_eq] at h
  exact h.1.2
 have full : ∀ σ, orderQ σ ops = true -> ∀ i, i < ops.size -> i ∈ σ := fun σ h i hi => by
  unfold orderQ at h
  simp only [Bool.and_eq_true, List.all_eq_true, List.mem_range] at h
  simpa using h.1.1.1 i hi
 have hn1 := nd _ hB1
 have hn2 := nd _ hB2
 have hn3 := nd _ hB3
 have hn0 : (π ++ [y]).Nodup := hn2.sublist ((List.Sublist.refl π).append (List.cons_sublist_cons.2 (List.nil_sublist _)))
 intro fuel
 induction fuel with
 | zero =>
  intro t listed acc hs hf0 hf1 hp1 hx hy hc
  have : remF σ1 listed = [] := List.eq_nil_of_length_eq_zero hf1.symm
  rw [this] at hx
  cases hx
 | succ fuel ih =>
  intro t listed acc hs hf0 hf1 hp1 hx hy hc
  obtain ⟨i, o, t', ho, hin, hli, hi1, hd, hgo, hr, hc'⟩ := go_step md hB1 hT fuel t listed acc hs hf0 hc
  have closed : ∀ (j : Nat) (q : Oper), ops[j]? = some q -> (∀ e ∈ direct q, listed.getD e true = true) -> ∀ k, ((ancs ops.toList []).getD j []).contains k = true -> listed.getD k true = true := fun j q hq hdq k hk => ancs_closed ops (fun e => listed.getD e true = true) hc ops.toList [] 0 rfl (Nat.zero_le _) (fun q => by simp) (fun j o _ _ k hk => by simp [List.getD_eq_getElem?_getD] at hk) j q hq hdq k (by simpa using hk)
  have ux : listed.getD x true = false := by simpa using (List.mem_filter.1 hx).2
  have uy : listed.getD y true = false := by simpa using (List.mem_filter.1 hy).2
  have nox : ¬ ((ancs ops.toList []).getD i []).contains x = true := fun h => by have h1 := closed i o ho hd x h; rw [ux] at h1; cases h1
  have noy : ¬ ((ancs ops.toList []).getD i []).contains y = true := fun h => by have h1 := closed i o ho hd y h; rw [uy] at h1; cases h1
  have hang : ∀ j, (((ancs ops.toList []).getD j []).contains x = true ∨ ((ancs ops.toList []).getD j []).contains y = true) -> j < ops.size -> listed.getD j true = false := fun j h hj => by
   cases hq : listed.getD j true with
   | false => rfl
   | true =>
    have hj2 : ops[j]? = some ops[j] := by simp [hj]
    rcases h with h | h
    ·have h1 := closed j _ hj2 (hc j _ hj2 hq) x h; rw [ux] at h1; cases h1
    have h1 := closed j _ hj2 (hc j _ hj2 hq) y h; rw [uy] at h1; cases h1
  have hix0 : ∀ (A : List Nat), (∀ i ∈ A, i = x ∨ ((ancs ops.toList []).getD i []).contains x = true ∨ ((ancs ops.toList []).getD i []).contains y = true) -> (∀ i ∈ A, i < ops.size) -> ∀ k ∈ A, listed.getD k true = false := fun A hA hA2 k hk => by
   rcases hA k hk with rfl | h | h
   ·exact ux
   ·exact hang k (.inl h) (hA2 k hk)
   exact hang k (.inr h) (hA2 k hk)
  have small : ∀ σ, orderQ σ ops = true -> ∀ i ∈ σ, i < ops.size := fun σ h i hi => by
   unfold orderQ at h
   simp only [Bool.and_eq_true, List.all_eq_true, decide_eq_true_eq] at h
   exact h.1.1.2 i hi
  have u2 := hix0 ρ2 hρ2 fun i hi => small _ hB2 i (by simp [hi])
  have u3 := hix0 ρ3 hρ3 fun i hi => small _ hB3 i (by simp [hi])
  have uz : listed.getD z true = false := hang z (.inr hzy) hzo
  by_cases hiy : i = y
  ·subst hiy
   have hi0 : i ∈ remF (π ++ [i]) listed := List.mem_filter.2 ⟨by simp, by simp [hli]⟩
   obtain ⟨f1, f2, f3, f4⟩ := front_step (K := fun s => AOpsF P p r ops K ρ2 s /\ AOpsF P p r ops K ρ3 s) (P := P) (p := p) (r := r) hn0 hs ho hi0 hin hd hc ((hp0.sublist List.filter_sublist).imp (S := fun k j => j = i -> Before P p r ops k j) fun h _ => h)
   have keep : ∀ k, k ≠ i -> (listed.setIfInBounds i true).getD k true = listed.getD k true := fun k hk => by
    simp [Array.getD_eq_getD_getElem?, Array.getElem?_setIfInBounds_ne (Ne.symm hk)]
   have gone : (listed.setIfInBounds i true).getD i true = true := by simp [Array.getD_eq_getD_getElem?, hin]
   have rp : ∀ ρ : List Nat, (∀ k ∈ ρ, listed.getD k true = false) -> i ∉ ρ -> remF (π ++ i :: ρ) (listed.setIfInBounds i true) = remF (π ++ [i]) (listed.setIfInBounds i true) ++ ρ := fun ρ hu hni => by
    unfold remF
    rw [List.filter_append, List.filter_append, List.filter_cons, List.filter_cons, List.filter_nil, gone]
    have : ρ.filter (fun k => !(listed.setIfInBounds i true).getD k true) = ρ := List.filter_eq_self.2 fun k hk => by
     rw [keep k (fun e => hni (e ▸ hk)), hu k hk]; rfl
    rw [this]
    simp only [Bool.not_true, Bool.false_eq_true, if_false, List.append_nil]
   have ni2 : i ∉ ρ2 := (List.nodup_cons.1 (List.nodup_append.1 hn2).2.1).1
   have ni3 : i ∉ ρ3 := (List.nodup_cons.1 (List.nodup_append.1 hn3).2.1).1
   have r2 := rp ρ2 u2 ni2
   have r3 := rp ρ3 u3 ni3
   have noi : ∀ ρ, i ∉ remF (π ++ i :: ρ) (listed.setIfInBounds i true) := fun ρ h => by
    have := (List.mem_filter.1 h).2
    rw [gone] at this; cases this
   have len : ∀ σ, orderQ σ ops = true -> (remF σ (listed.setIfInBounds i true)).length = (rem ops.size (listed.setIfInBounds i true)).length := fun σ h => by
    refine List.Perm.length_eq ((List.perm_ext_iff_of_nodup ((nd _ h).sublist List.filter_sublist) (List.nodup_range.sublist List.filter_sublist)).2 fun a => ?_)
    simp only [remF, rem, List.mem_filter, List.mem_range]
    exact ⟨fun q => ⟨small _ h a q.1, q.2⟩, fun q => ⟨full _ h a q.1, q.2⟩⟩
   obtain ⟨υ, hg, hυ⟩ := linearX2_sound (P := P) (K := K) (x := x) (y := z) md hB2 hB3 hT fuel t' (listed.setIfInBounds i true) (i :: acc) (by simpa using hs) hr (by rw [len _ hB2]; exact hr) (by rw [len _ hB3]; exact hr)
    ((hp2.sublist List.filter_sublist).imp_of_mem fun {k j} hk hj h => by
     rcases h with h | rfl | h
     ·exact .inl h
     ·exact absurd hk (noi ρ2)
     exact .inr h)
    ((hp3.sublist List.filter_sublist).imp_of_mem fun {k j} hk hj h => by
     rcases h with h | rfl | h
     ·exact .inl h
     ·exact absurd hk (noi ρ3)
     exact .inr h)
    (List.mem_filter.2 ⟨full _ hB2 x (small _ hB1 x (List.mem_filter.1 hx).1), by rw [keep x hxy, ux]; rfl⟩)
    (List.mem_filter.2 ⟨full _ hB2 z hzo, by rw [keep z (Ne.symm hyz), uz]; rfl⟩) hxz
    (fun j q hq hj => by
     rcases hdet j q hq with h | h | h | h | h | h
     ·exact .inl h
     ·subst h; rw [gone] at hj; cases hj
     ·exact .inr (.inl h)
     ·exact .inr (.inr (.inl h))
     ·exact .inr (.inr (.inr (.inl h)))
     exact .inr (.inr (.inr (.inr h)))) hc'
   refine ⟨i :: υ, by rw [hgo, hg]; simp, fun s _ hk => ?_⟩
   have hk := f4 s hk
   rw [aopsF_cons ho] at hk ⊢
   refine gopF_mono (fun s' h' => ?_) hk
   refine hυ s' ?_ ?_
   ·rw [r2, aopsF_app]
    exact aopsF_imp (fun _ h => h.1) _ _ h'
   rw [r3, aopsF_app]
   exact aopsF_imp (fun _ h => h.2) _ _ h'
  obtain ⟨f1, f2, f3, f4⟩ := front_step (K := K) (P := P) (p := p) (r := r) hn1 hs ho hi1 hin hd hc (hp1.imp fun {k j} h e => by
   subst e
   rcases h with h | ⟨_, h | h⟩
   ·exact h
   ·exact absurd h hiy
   exact absurd h noy)
  by_cases hix : i = x
  ·subst hix
   have hp : (remF σ1 (listed.setIfInBounds i true)).Pairwise fun k j => Before P p r ops k j := (hp1.sublist f2).imp_of_mem fun {k j} hk hj h => by
    rcases h with h | ⟨rfl, _⟩
    ·exact h
    exact absurd hk f3
   obtain ⟨υ, hg, hυ⟩ := linearG_sound (P := P) (K := K) md hB1 hT fuel t' (listed.setIfInBounds i true) (i :: acc) (by simpa using hs) hr (by omega) hp hc'
   exact ⟨i :: υ, by rw [hgo, hg]; simp, fun s hk _ => aopsF_mono hυ i s (f4 s hk)⟩
  have hi0 : i ∈ remF (π ++ [y]) listed := by
   refine List.mem_filter.2 ⟨?_, (List.mem_filter.1 hi1).2⟩
   have := full _ hB2 i (by omega)
   rcases List.mem_append.1 this with h | h
   ·simp [h]
   rcases List.mem_cons.1 h with h | h
   ·exact absurd h hiy
   rcases hρ2 i h with h | h | h
   ·exact absurd h hix
   ·exact absurd h nox
   exact absurd h noy
  obtain ⟨g1, g2, g3, g4⟩ := front_step (K := fun s => AOpsF P p r ops K ρ2 s /\ AOpsF P p r ops K ρ3 s) (P := P) (p := p) (r := r) hn0 hs ho hi0 hin hd hc ((hp0.sublist List.filter_sublist).imp (S := fun k j => j = i -> Before P p r ops k j) fun h _ => h)
  have hx2 : x ∈ remF σ1 (listed.setIfInBounds i true) := by
   refine List.mem_filter.2 ⟨(List.mem_filter.1 hx).1, ?_⟩
   have := (List.mem_filter.1 hx).2
   simpa [Array.getD_eq_getD_getElem?, Array.getElem?_setIfInBounds_ne hix] using this
  have hy2 : y ∈ remF σ1 (listed.setIfInBounds i true) := by
   refine List.mem_filter.2 ⟨(List.mem_filter.1 hy).1, ?_⟩
   have := (List.mem_filter.1 hy).2
   simpa [Array.getD_eq_getD_getElem?, Array.getElem?_setIfInBounds_ne hiy] using this
  have hiz : i ≠ z := fun e => noy (e ▸ hzy)
  have noz : ¬ ((ancs ops.toList []).getD i []).contains z = true := fun h => by have h1 := closed i o ho hd z h; rw [uz] at h1; cases h1
  have hdo : detL (p i) (r i) o.op = true := by
   rcases hdet i o ho with h | h | h | h | h | h
   ·exact absurd h hix
   ·exact absurd h hiy
   ·exact absurd h hiz
   ·exact h
   ·exact absurd h nox
   exact absurd h noz
  obtain ⟨υ, hg, hυ⟩ := ih t' (listed.setIfInBounds i true) (i :: acc) (by simpa using hs) hr (by omega) (hp1.sublist f2) hx2 hy2 hc'
  refine ⟨i :: υ, by rw [hgo, hg]; simp, fun s hk1 hk2 => ?_⟩
  have a1 := f4 s hk1
  have a2 := g4 s hk2
  rw [aopsF_cons ho] at a1 a2 ⊢
  exact gopF_bothL hdo hυ a1 a2
def exc (an : List (List Nat)) (x y k i : Nat) : Bool := k == x && (i == y || (an.getD i []).contains y)
def pairsW (p r : Nat -> Bool) (ops : Array Oper) (an : List (List Nat)) (ok : Nat -> Nat -> Bool) : List Nat -> Bool
 | [] => true
 | k :: l => (l.all fun i => (an.getD i []).contains k || (apartF p r ops k i || ok k i)) && pairsW p r ops an ok l
theorem pairsW_sound {p r : Nat -> Bool} {ops : Array Oper} (hz : HZ P r ops) {ok : Nat -> Nat -> Bool} : ∀ {l : List Nat}, pairsW p r ops (ancs ops.toList []) ok l = true -> l.Pairwise fun k i => Before P p r ops k i ∨ ok k i = true
 | [], _ => .nil
 | k :: l, h => by
  simp only [pairsW, Bool.and_eq_true, List.all_eq_true, Bool.or_eq_true] at h
  refine .cons (fun i hi => ?_) (pairsW_sound hz h.2)
  rcases h.1 i hi with h | h | h
  ·exact .inl (.inl h)
  ·exact .inl (.inr (apartF_sound hz h))
  exact .inr h
theorem exc_ok {ops : Array Oper} {x y k i : Nat} (h : exc (ancs ops.toList []) x y k i = true) : k = x /\ (i = y ∨ ((ancs ops.toList []).getD i []).contains y = true) := by
 unfold exc at h
 simpa only [Bool.and_eq_true, Bool.or_eq_true, beq_iff_eq] using h
def detAll3 (p r : Nat -> Bool) (ops : Array Oper) (an : List (List Nat)) (x y z : Nat) : Bool := (List.range ops.size).all fun j => match ops[j]? with
 | some o => decide (j = x) || (decide (j = y) || (decide (j = z) || (detL (p j) (r j) o.op || ((an.getD j []).contains x || (an.getD j []).contains z))))
 | none => true
def hangs (an : List (List Nat)) (x y : Nat) (l : List Nat) : Bool := l.all fun i => decide (i = x) || ((an.getD i []).contains x || (an.getD i []).contains y)
def regX3 (N : Nat) (p r : Nat -> Bool) (σ1 π ρ2 ρ3 : List Nat) (x y z : Nat) (τ : List Nat) (ops : Array Oper) : Bool :=
 (dstB N ops && (noAl r ops && (orderQ σ1 ops && (orderQ (π ++ y :: ρ2) ops && (orderQ (π ++ y :: ρ3) ops && (pairsX p r ops (ancs ops.toList []) x y σ1 && (pairsW p r ops (ancs ops.toList []) (fun _ _ => false) (π ++ [y]) && (pairsW p r ops (ancs ops.toList []) (fun k i => k == y || exc (ancs ops.toList []) x z k i) (π ++ y :: ρ2) && (pairsW p r ops (ancs ops.toList []) (fun k i => k == y || exc (ancs ops.toList []) z x k i) (π ++ y :: ρ3) && (detAll3 p r ops (ancs ops.toList []) x y z && (hangs (ancs ops.toList []) x y ρ2 && (hangs (ancs ops.toList []) x y ρ3 && (σ1.contains x && (σ1.contains y && (decide (x ≠ y) && (decide (x ≠ z) && (decide (y ≠ z) && (((ancs ops.toList []).getD z []).contains y && decide (z < ops.size))))))))))))))))))) && (acycAll .text ops (List.range ops.size) && acycAll .gc ops τ && acycAll .any ops τ)
theorem scheduleY_sound {N : Nat} {p r : Nat -> Bool} {σ1 π ρ2 ρ3 τ : List Nat} {x y z : Nat} {ops : Array Oper} {K : St -> Prop} (hB : regX3 N p r σ1 π ρ2 ρ3 x y z τ ops = true) (mixed : Bool) (t : Nat) (s : St) (h1 : AOpsF P p r ops K σ1 s) (h2 : AOpsF P p r ops (fun s => AOpsF P p r ops K ρ2 s /\ AOpsF P p r ops K ρ3 s) (π ++ [y]) s) : AOpsF P p r ops K (Region.schedule mixed ops t) s := by
 unfold regX3 at hB
 rw [Bool.and_eq_true] at hB
 obtain ⟨hB, hT⟩ := hB
 simp only [Bool.and_eq_true] at hB hT
 obtain ⟨_, hz, o1, o2, o3, p1, p0, p2, p3, hdet, a2, a3, cx, cy, hxy, hxz, hyz, hzy, hzo⟩ := hB
 have hz := noAl_hz (P := P) hz
 have hxy : x ≠ y := by simpa using hxy
 have hxz : x ≠ z := by simpa using hxz
 have hyz : y ≠ z := by simpa using hyz
 have hzo : z < ops.size := by simpa using hzo
 have hrem : rem ops.size (Array.replicate ops.size false) = List.range ops.size := by
  unfold rem
  rw [List.filter_eq_self]
  intro i hi
  have := List.mem_range.1 hi
  simp [Array.getD_eq_getD_getElem?, this]
 have facts : ∀ σ, orderQ σ ops = true -> remF σ (Array.replicate ops.size false) = σ /\ ops.size = σ.length := by
  intro σ ho
  unfold orderQ at ho
  simp only [Bool.and_eq_true, List.all_eq_true, List.mem_range, decide_eq_true_eq] at ho
  obtain ⟨⟨⟨hBr, hσ1⟩, hσ2⟩, _⟩ := ho
  refine ⟨?_, ?_⟩
  ·unfold remF
   rw [List.filter_eq_self]
   intro i hi
   have := hσ1 i hi
   simp [Array.getD_eq_getD_getElem?, this]
  have hp : σ.Perm (List.range ops.size) := (List.perm_ext_iff_of_nodup hσ2 List.nodup_range).2 fun a => ⟨fun h => List.mem_range.2 (hσ1 a h), fun h => by simpa using hBr a (List.mem_range.1 h)⟩
  simpa using hp.length_eq.symm
 have hdet' : ∀ (j : Nat) (o : Oper), ops[j]? = some o -> j = x ∨ j = y ∨ j = z ∨ detL (p j) (r j) o.op = true ∨ ((ancs ops.toList []).getD j []).contains x = true ∨ ((ancs ops.toList []).getD j []).contains z = true := by
  intro j o ho
  unfold detAll3 at hdet
  rw [List.all_eq_true] at hdet
  have := hdet j (List.mem_range.2 (Array.getElem?_eq_some_iff.1 ho).1)
  rw [ho] at this
  simpa only [Bool.or_eq_true, decide_eq_true_eq] using this
 have hh : ∀ l, hangs (ancs ops.toList []) x y l = true -> ∀ i ∈ l, i = x ∨ ((ancs ops.toList []).getD i []).contains x = true ∨ ((ancs ops.toList []).getD i []).contains y = true := fun l h i hi => by
  unfold hangs at h
  rw [List.all_eq_true] at h
  have := h i hi
  simpa only [Bool.or_eq_true, decide_eq_true_eq] using this
 obtain ⟨r1, l1⟩ := facts σ1 o1
 have r0 : remF (π ++ [y]) (Array.replicate ops.size false) = π ++ [y] := by
  unfold remF
  rw [List.filter_eq_self]
  intro i hi
  have : i < ops.size := by
   have h := o2
   unfold orderQ at h
   simp only [Bool.and_eq_true, List.all_eq_true, decide_eq_true_eq] at h
   refine h.1.1.2 i ?_
   rcases List.mem_append.1 hi with h | h
   ·simp [h]
   simp only [List.mem_singleton] at h; simp [h]
  simp [Array.getD_eq_getD_getElem?, this]
 have key : ∀ md t (τ : List Nat), acycAll md ops τ = true -> AOpsF P p r ops K (Region.linearise md ops t) s := by
  intro md t τ hT
  obtain ⟨υ, hgo, hυ⟩ := linearY_sound (P := P) (p := p) (r := r) (x := x) (y := y) (z := z) md (K := K) o1 o2 o3 hT hxy hxz hyz hzy hzo hdet' (hh _ a2) (hh _ a3) ((pairsW_sound hz p0).imp fun h => by
    rcases h with h | h
    ·exact h
    ·cases h) ((pairsW_sound hz p2).imp fun {k i} h => by
    rcases h with h | h
    ·exact .inl h
    ·simp only [Bool.or_eq_true, beq_iff_eq] at h
     rcases h with h | h
     ·exact .inr (.inl h)
     exact .inr (.inr (exc_ok h))) ((pairsW_sound hz p3).imp fun {k i} h => by
    rcases h with h | h
    ·exact .inl h
    simp only [Bool.or_eq_true, beq_iff_eq] at h
    rcases h with h | h
    ·exact .inr (.inl h)
    exact .inr (.inr (exc_ok h))) ops.size t (Array.replicate ops.size false) [] (by simp) (by rw [hrem]; simp) (by rw [r1]; exact l1) (by rw [r1]; exact pairsX_sound hz p1) (by rw [r1]; simpa using cx) (by rw [r1]; simpa using cy) (fun j o ho hj => by
   have hlt := (Array.getElem?_eq_some_iff.1 ho).1
   simp [Array.getD_eq_getD_getElem?, hlt] at hj)
  unfold Region.linearise
  rw [hgo, List.reverse_nil, List.nil_append]
  exact hυ s (by rw [r1]; exact h1) (by rw [r0]; exact h2)
 unfold Region.schedule
 split
 ·exact key _ _ τ hT.2
 split
 ·exact key _ _ _ hT.1.1
 exact key _ _ τ hT.1.2
theorem AWp.regionX3 {N : Nat} {id : Nat} {ops : Array Oper} {Q : Exit -> St -> Prop} {s : St} (p r : Nat -> Bool) (σ1 π ρ2 ρ3 : List Nat) (x y z : Nat) (τ : List Nat) (hB : regX3 N p r σ1 π ρ2 ρ3 x y z τ ops = true) (h1 : AOpsF P p r ops (Q .normal) σ1 s) (h2 : AOpsF P p r ops (fun s => AOpsF P p r ops (Q .normal) ρ2 s /\ AOpsF P p r ops (Q .normal) ρ3 s) (π ++ [y]) s) : AWp P N (.region id ops true) Q s := by
 intro C a w hr hN
 have hB' := hB
 unfold regX3 at hB
 simp only [Bool.and_eq_true] at hB
 have hd := hB.1.1
 have hb : ∀ (j : Nat) (d : Tmp), (ops[j]?).bind (·.dst) = some d -> d < N := by
  intro j d hj
  unfold dstB at hd
  rw [Array.all_eq_true'] at hd
  cases hq : ops[j]? with
  | none => rw [hq] at hj; cases hj
  | some o =>
   rw [hq] at hj
   have := hd o (Array.mem_of_getElem? hq)
   simp at hj
   rw [hj] at this
   simpa using this
 have hQ : NextOk C (Q .normal) N (Lift C N Q .normal) := fun s a w h1 h2 h3 => ⟨s, h1, h2, h3⟩
 refine wp_region_draw fun t => ?_
 refine aopsF_sound hb hQ _ s a _ ?_ hN (scheduleY_sound hB' _ t s h1 h2)
 obtain ⟨S, h1, h2, h3⟩ := hr.ex
 exact ⟨⟨S, h1, memRep_drew h2 _, fun t => Rep.mono (w := w) (w' := { w with drawn := w.drawn + 1 }) (fun _ _ => rfl) (fun _ h => h) (h3 t)⟩, hr.defers, hr.keep.drew _, hr.dom⟩
end Go.T
