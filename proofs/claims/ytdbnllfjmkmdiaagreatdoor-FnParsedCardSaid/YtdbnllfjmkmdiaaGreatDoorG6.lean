/- Parts of the proof of FnParsed: How large what is read is. -/
import Derived.Test.YtdbnllfjmkmdiaaGreatDoorG5
import Derived.Test.YtdbnllfjmkmdiaaGreatDoorG4
set_option linter.unusedSimpArgs false
set_option linter.unusedVariables false
namespace Go.T
open Go
def ysa {α : Type} (n : Nat) (w : α -> Nat) (f : PA α) : Prop := ∀ ts x r, f ts = some (x, r) -> r <:+ ts /\ r.length + n <= ts.length /\ w x + W r <= W ts
theorem ysa.bind {α β : Type} {n m : Nat} {u : α -> Nat} {w : β -> Nat} {g : PA α} {h : α -> PA β} (hg : ysa n u g) (hh : ∀ x, ysa m (fun y => w y - u x) (h x)) : ysa (n + m) w (zXa g h) := by
 intro ts y r he;obtain ⟨x, r1, h1, h2⟩ := zla.1 he;obtain ⟨a1, a2, a3⟩ := hg _ _ _ h1;obtain ⟨b1, b2, b3⟩ := hh x _ _ _ h2;simp only at b3;exact ⟨b1.trans a1, by omega, by omega⟩
theorem ysa.pure {α : Type} {w : α -> Nat} {x : α} (h : w x = 0) : ysa 0 w (xca x) := by
 intro ts y r he;cases he;exact ⟨List.suffix_refl _, by omega, by omega⟩
theorem ysa.less {α : Type} {n m : Nat} {u w : α -> Nat} {g : PA α} (h : ysa n u g) (hm : m <= n) (hw : ∀ x, w x <= u x) : ysa m w g := by
 intro ts y r he;obtain ⟨a1, a2, a3⟩ := h _ _ _ he;have := hw y;exact ⟨a1, by omega, by omega⟩
theorem zTb (s : ByteArray) : ysa 1 (fun _ => s.size + 2) (tkR s) := by
 intro ts x r h;unfold tkR at h;rw [Option.map_eq_some_iff] at h;obtain ⟨r', h, e⟩ := h;cases e;obtain ⟨t, rfl, ht⟩ := z4a h;unfold Tk.is at ht;simp only [Bool.and_eq_true, decide_eq_true_eq] at ht;rw [xba, ht.2];exact ⟨List.suffix_cons _ _, by simp, by simp only; omega⟩
theorem zne (s : ByteArray) : ysa 1 (fun _ => s.size + 2) (kpR s) := by
 intro ts x r h;unfold kpR at h;rw [Option.map_eq_some_iff] at h;obtain ⟨r', h, e⟩ := h;cases e;obtain ⟨t, rfl, ht⟩ := z4a h;unfold Tk.is at ht;simp only [Bool.and_eq_true, decide_eq_true_eq] at ht;rw [xba, ht.2];exact ⟨List.suffix_cons _ _, by simp, by simp only; omega⟩
theorem y3c : ysa 1 (fun s => s.size + 2) nmP := by
 intro ts x r h;cases ts with
 | nil => cases h
 | cons t l =>
  simp only [nmP] at h;split at h
  ·cases h;rw [xba];exact ⟨List.suffix_cons _ _, by simp, by simp only; omega⟩
  cases h
theorem xRd : ysa 1 (fun _ => 2) xod := by
 intro ts x r h;cases ts with
 | nil => cases h
 | cons t l =>
  simp only [xod] at h;split at h
  ·cases h;rw [xba];exact ⟨List.suffix_cons _ _, by simp, by simp only; omega⟩
  cases h
theorem y4c : ysa 1 Ex.tot exP := by
 intro ts x r h;obtain ⟨a, b, c⟩ := x2a 30 ts x r h;exact ⟨a, by omega, c⟩
theorem zoe (c : UInt8) : (ch c).size = 1 := rfl
theorem zpb (c : UInt8) : ysa 2 (fun e => e.tot + 3) (xOb c) :=
 ysa.bind y4c fun e => ysa.bind (zTb (ch c)) fun _ => ysa.pure (by rw [zoe]; omega)
theorem zqb : zE.tot = 0 := by unfold zE; rw [Ex.tot_mk]; rfl
def Sm.w (x : Sm) : Nat := 1 + x.tot
theorem x2e (s : ByteArray) (e : Ex) : (xda s e).w = 1 + s.size + e.tot := by unfold Sm.w xda; rw [Sm.tot_mk, zqb]; simp only [zAa]; omega
theorem x3e (s : ByteArray) (a e : Ex) : (xea s a e).w = 1 + s.size + a.tot + e.tot := by unfold Sm.w xea; rw [Sm.tot_mk, zqb]; simp only [zAa]; omega
theorem zpe (e : Ex) : (zOa e).w = 1 + e.tot := by unfold Sm.w zOa; rw [Sm.tot_mk, zqb]; simp only [zAa]; have : (⟨#[]⟩ : ByteArray).size = 0 := rfl; omega
theorem x4e (s : ByteArray) (lo hi : Ex) (b : List Sm) : (yea s lo hi b).w = 1 + s.size + lo.tot + hi.tot + zAa Sm.tot b := by unfold Sm.w yea; rw [Sm.tot_mk, zqb]; omega
theorem xSd (s : ByteArray) : ysa 3 (fun x : Sm => x.w - (s.size + 1)) (xpe s) :=
 ysa.bind (zTb _) fun _ => ysa.bind (zpb _) fun e => ysa.pure (by rw [x2e]; omega)
theorem xTd (s : ByteArray) : ysa 3 (fun x : Sm => x.w - (s.size + 1)) (xqe s) :=
 ysa.less (ysa.bind (w := fun x : Sm => x.w - (s.size + 1)) (zpb _) fun a => ysa.bind (zTb _) fun _ => ysa.bind (zpb _) fun e => ysa.pure (by rw [x3e]; omega)) (by omega) fun _ => Nat.le_refl _
theorem xUd : ysa 2 Sm.w xre := ysa.bind (zpb _) fun e => ysa.pure (by rw [zpe]; omega)
theorem yHa {α : Type} {n : Nat} {w : α -> Nat} {g : PA α} (h : ysa n w g) {k : Int} {s : ByteArray} {ts r1 r : List Tk} {x : α} (h1 : tkS k s ts = some r1) (h2 : g r1 = some (x, r)) : r <:+ ts /\ r.length + (n + 1) <= ts.length /\ w x + W r <= W ts := by
 obtain ⟨t, rfl, _⟩ := z4a h1;obtain ⟨a, b, c⟩ := h _ _ _ h2;rw [xba, List.length_cons];exact ⟨a.trans (List.suffix_cons _ _), by omega, by omega⟩
theorem xVd (s : ByteArray) : ysa 3 (fun x : Sm => x.w - (s.size + 1)) (xpd s) := by
 intro ts x r h;unfold xpd at h;split at h
 ·rename_i r1 h1
  obtain ⟨a, b, c⟩ := yHa (xTd s) h1 h;exact ⟨a, by omega, c⟩
 exact xSd s _ _ _ h
theorem zUb : ysa 3 Sm.w yRa := by
 intro ts x r h;unfold yRa at h;split at h
 ·rename_i r1 h1
  exact yHa xUd h1 h
 have := ysa.bind (w := Sm.w) y3c (fun s => ysa.less (xVd s) (Nat.le_refl _) fun x => by omega) _ _ _ h;exact ⟨this.1, by omega, this.2.2⟩
theorem xTa (l : List Sm) (x : Sm) : zAa Sm.tot (l ++ [x]) = zAa Sm.tot l + x.w := by
 induction l with
 | nil => simp [zAa, Sm.w]
 | cons y l ih => simp only [List.cons_append, zAa, ih]; omega
theorem xXc {sub : PA Sm} (hs : ysa 1 Sm.w sub) : ∀ (k : Nat) (l : List Sm) (ts : List Tk) (b : List Sm) (r : List Tk), znb sub k l ts = some (b, r) -> r <:+ ts /\ r.length + 1 <= ts.length /\ zAa Sm.tot b + W r <= zAa Sm.tot l + W ts
 | 0, _, _, _, _, h => by cases h
 | k + 1, l, ts, b, r, h => by
  simp only [znb] at h;split at h
  ·rename_i r1 h1
   cases h;obtain ⟨t, rfl, _⟩ := z4a h1;rw [xba];exact ⟨List.suffix_cons _ _, by simp, by omega⟩
  obtain ⟨⟨x, r1⟩, h1, h2⟩ := Option.bind_eq_some_iff.1 h;obtain ⟨a1, a2, a3⟩ := hs _ _ _ h1;obtain ⟨b1, b2, b3⟩ := xXc hs k _ _ _ _ h2;rw [xTa] at b3;simp only at b1 b2 b3 a3;exact ⟨b1.trans a1, by omega, by omega⟩
theorem xYc {sub : PA Sm} (hs : ysa 1 Sm.w sub) : ysa 7 Sm.w (zSb sub) := by
 have hb : ysa 1 (zAa Sm.tot) (zRb sub []) := fun ts b r h => by
  have := xXc hs _ _ _ _ _ h;exact ⟨this.1, this.2.1, by have := this.2.2; simp only [zAa] at this; omega⟩
 exact ysa.bind y3c fun s => ysa.bind (zTb _) fun _ => ysa.bind y4c fun lo => ysa.bind (zne _) fun _ => ysa.bind y4c fun hi => ysa.bind (zTb _) fun _ => ysa.bind hb fun b => ysa.pure (by rw [x4e]; omega)
theorem yua : ∀ d, ysa 1 Sm.w (zZa d)
 | 0 => fun ts x r h => by
  simp only [zZa] at h;split at h
  ·cases h
  have := zUb _ _ _ h;exact ⟨this.1, by omega, this.2.2⟩
 | d + 1 => fun ts x r h => by
  simp only [zZa] at h;split at h
  ·rename_i r1 h1
   have := yHa (xYc (yua d)) h1 h;exact ⟨this.1, by omega, this.2.2⟩
  have := zUb _ _ _ h;exact ⟨this.1, by omega, this.2.2⟩
theorem zLa : ∀ d, ysa 1 Sm.w (yta d)
 | 0 => fun ts x r h => by cases h
 | d + 1 => fun ts x r h => by
  simp only [yta] at h;split at h
  ·rename_i r1 h1
   have := yHa (xYc (zLa d)) h1 h;exact ⟨this.1, by omega, this.2.2⟩
  have := zUb _ _ _ h;exact ⟨this.1, by omega, this.2.2⟩
theorem xZc {sub : PA Sm} (hs : ysa 1 Sm.w sub) : ∀ (k : Nat) (l : List Sm) (ts : List Tk) (b : List Sm) (r : List Tk), wJa sub k l ts = some (b, r) -> r <:+ ts /\ zAa Sm.tot b + W r <= zAa Sm.tot l + W ts
 | k, l, [], b, r, h => by
  have e : wJa sub k l [] = some (l, []) := by cases k <;> rfl
  rw [e] at h;cases h;exact ⟨List.suffix_refl _, Nat.le_refl _⟩
 | 0, _, _ :: _, _, _, h => by cases h
 | k + 1, l, t :: ts, b, r, h => by
  simp only [wJa] at h;obtain ⟨⟨x, r1⟩, h1, h2⟩ := Option.bind_eq_some_iff.1 h;obtain ⟨a1, a2, a3⟩ := hs _ _ _ h1;obtain ⟨b1, b3⟩ := xZc hs k _ _ _ _ h2;rw [xTa] at b3;simp only at b1 b3 a3;exact ⟨b1.trans a1, by omega⟩
theorem wBa : ysa 3 (fun a : Ar => 1 + a.tot) xqd :=
 ysa.bind y3c fun s => ysa.bind xRd fun n => ysa.bind (zTb _) fun _ => ysa.pure (by unfold Ar.tot; simp only; omega)
theorem wSc (l : List Ar) (x : Ar) : zAa Ar.tot (l ++ [x]) = zAa Ar.tot l + (1 + x.tot) := by
 induction l with
 | nil => simp [zAa]
 | cons y l ih => simp only [List.cons_append, zAa, ih]; omega
theorem x0c : ∀ (k : Nat) (l : List Ar) (ts : List Tk) (b : List Ar) (r : List Tk), zob k l ts = some (b, r) -> r <:+ ts /\ zAa Ar.tot b + W r <= zAa Ar.tot l + W ts
 | 0, l, ts, b, r, h => by cases h; exact ⟨List.suffix_refl _, Nat.le_refl _⟩
 | k + 1, l, ts, b, r, h => by
  simp only [zob] at h;split at h
  ·cases h; exact ⟨List.suffix_refl _, Nat.le_refl _⟩
  rename_i r1 h1
  obtain ⟨⟨x, r2⟩, h2, h3⟩ := Option.bind_eq_some_iff.1 h;obtain ⟨a1, a2, a3⟩ := yHa wBa h1 h2;obtain ⟨b1, b3⟩ := x0c k _ _ _ _ h3;rw [wSc] at b3;simp only at b1 b3 a3;exact ⟨b1.trans a1, by omega⟩
-- fuel
theorem z4c {sub : PA Sm} (hs : ysa 1 Sm.w sub) : ∀ (k j : Nat) (l : List Sm) (ts : List Tk), ts.length < k -> ts.length < j -> znb sub k l ts = znb sub j l ts
 | 0, _, _, _, h, _ => by omega
 | _ + 1, 0, _, _, _, h => by omega
 | k + 1, j + 1, l, ts, h1, h2 => by
  simp only [znb];cases hq : tkS 4 (ch 125) ts with
  | some r => rfl
  | none =>
   simp only;cases hx : sub ts with
   | none => rfl
   | some p =>
    obtain ⟨x, r⟩ := p;have := (hs _ _ _ hx).2.1;simp only [Option.bind_some];exact z4c hs k j _ _ (by omega) (by omega)
theorem yhd {sub : PA Sm} (hs : ysa 1 Sm.w sub) (l : List Sm) (ts : List Tk) : zRb sub l ts = match tkS 4 (ch 125) ts with
  | some r => some (l, r)
  | none => (sub ts).bind fun p => zRb sub (l ++ [p.1]) p.2 := by
 unfold zRb;simp only [znb];cases hq : tkS 4 (ch 125) ts with
 | some r => rfl
 | none =>
  simp only;cases hx : sub ts with
  | none => rfl
  | some p =>
   obtain ⟨x, r⟩ := p;have := (hs _ _ _ hx).2.1;simp only [Option.bind_some];exact z4c hs ts.length (r.length + 1) _ r (by omega) (by omega)
theorem z5c {sub : PA Sm} (hs : ysa 1 Sm.w sub) : ∀ (k j : Nat) (l : List Sm) (ts : List Tk), ts.length <= k -> ts.length <= j -> wJa sub k l ts = wJa sub j l ts
 | k, j, l, [], _, _ => by cases k <;> cases j <;> rfl
 | 0, _, _, _ :: _, h, _ => by simp at h
 | _ + 1, 0, _, _ :: _, _, h => by simp at h
 | k + 1, j + 1, l, t :: ts, h1, h2 => by
  simp only [wJa];cases hx : sub (t :: ts) with
  | none => rfl
  | some p =>
   obtain ⟨x, r⟩ := p;have := (hs _ _ _ hx).2.1;simp only [Option.bind_some];simp only [List.length_cons] at h1 h2 this;exact z5c hs k j _ _ (by omega) (by omega)
theorem yid {sub : PA Sm} (hs : ysa 1 Sm.w sub) (l : List Sm) (t : Tk) (ts : List Tk) : y7a sub l (t :: ts) = (sub (t :: ts)).bind fun p => y7a sub (l ++ [p.1]) p.2 := by
 unfold y7a;simp only [List.length_cons, wJa];cases hx : sub (t :: ts) with
 | none => rfl
 | some p =>
  obtain ⟨x, r⟩ := p;have := (hs _ _ _ hx).2.1;simp only [Option.bind_some];simp only [List.length_cons] at this;exact z5c hs _ _ _ _ (by omega) (Nat.le_refl _)
theorem z6c : ∀ (k j : Nat) (l : List Ar) (ts : List Tk), ts.length <= k -> ts.length <= j -> zob k l ts = zob j l ts
 | 0, 0, _, _, _, _ => rfl
 | 0, j + 1, l, ts, h, _ => by
  have : ts = [] := List.eq_nil_of_length_eq_zero (by omega);subst this;rfl
 | k + 1, 0, l, ts, _, h => by
  have : ts = [] := List.eq_nil_of_length_eq_zero (by omega);subst this;rfl
 | k + 1, j + 1, l, ts, h1, h2 => by
  simp only [zob];cases hq : tkS 3 y6a ts with
  | none => rfl
  | some r =>
   simp only;cases hx : xqd r with
   | none => rfl
   | some p =>
    obtain ⟨x, r2⟩ := p;have := (yHa wBa hq hx).2.1;simp only [Option.bind_some];exact z6c k j _ _ (by omega) (by omega)
theorem yjd (l : List Ar) (ts : List Tk) : xaa l ts = match tkS 3 y6a ts with
  | none => some (l, ts)
  | some r => (xqd r).bind fun p => xaa (l ++ [p.1]) p.2 := by
 unfold xaa;cases ts with
 | nil => rfl
 | cons t ts =>
  simp only [List.length_cons, zob];cases hq : tkS 3 y6a (t :: ts) with
  | none => rfl
  | some r =>
   simp only;cases hx : xqd r with
   | none => rfl
   | some p =>
    obtain ⟨x, r2⟩ := p;have := (yHa wBa hq hx).2.1;simp only [Option.bind_some];simp only [List.length_cons] at this;exact z6c _ _ _ _ (by omega) (Nat.le_refl _)
-- runs
theorem zfa.same {α : Type} {g g' : PA α} {T : List Tk} {a a' : Nat} {b b' : Bool} {x : α} (h : zfa g T a b x a' b') (e : b = false -> g' (T.drop a) = g (T.drop a)) : zfa g' T a b x a' b' := by
 refine ⟨fun x0 r hb he => h.good x0 r hb (by rw [<- e hb]; exact he), fun hi => ?_⟩;cases b with
 | true => exact h.ill (.inl rfl)
 | false => exact h.ill (.inr (by rw [<- e rfl]; exact hi.resolve_left (by simp)))
theorem zfa.then_ {α β : Type} {g : PA α} {h : α -> PA β} {T : List Tk} {a a1 a2 : Nat} {b b1 b2 : Bool} {x : α} {y : β} (h1 : zfa g T a b x a1 b1) (h2 : zfa (h x) T a1 b1 y a2 b2) : zfa (zXa g h) T a b y a2 b2 := h1.bind h2
theorem zfa.done {α : Type} (x : α) (T : List Tk) (a : Nat) (b : Bool) : zfa (xca x) T a b x a b := zfa.pure x T a b
theorem zfa.behind {α : Type} {g g' : PA α} {T : List Tk} {a a' : Nat} {b' : Bool} {x : α} (hlt : a < T.length) {k : Int} {s : ByteArray} (hm : T[a].is k s = true) (h : zfa g T (a + 1) false x a' b') (e : ∀ ts r, tkS k s ts = some r -> g' ts = g r) : zfa g' T a false x a' b' :=
 zfa.cons hlt h fun l => e _ _ (by simp only [tkS, hm, if_true])
theorem zfa.past {α : Type} {g g' : PA α} {T : List Tk} {a a' : Nat} {b b' : Bool} {x : α} {k : Int} {s : ByteArray} (hm : b = true ∨ ∀ hlt : a < T.length, T[a].is k s = false) (h : zfa g T a b x a' b') (e : ∀ ts, tkS k s ts = none -> g' ts = g ts) : zfa g' T a b x a' b' := by
 refine h.same fun hb => e _ ?_;have hm := hm.resolve_left (by simp [hb]);by_cases hlt : a < T.length
 ·rw [List.drop_eq_getElem_cons hlt];simp only [tkS, hm hlt, Bool.false_eq_true, if_false]
 rw [List.drop_eq_nil_of_le (by omega)];rfl
theorem zfa.ltN {α : Type} {g : PA α} {w : α -> Nat} (hf : ysa 1 w g) {T : List Tk} {a a' : Nat} {b : Bool} {x : α} (h : zfa g T a b x a' false) (ha : a' <= T.length) : T.length - a' < T.length - a /\ w x + W (T.drop a') <= W (T.drop a) := by
 have hb : b = false := by
  cases b with
  | false => rfl
  | true => have := h.ill (.inl rfl); cases this
 cases hg : g (T.drop a) with
 | none => have := h.ill (.inr hg); cases this
 | some p =>
  obtain ⟨x0, r⟩ := p;obtain ⟨rfl, _, hd⟩ := h.good x0 r hb hg;have h1 := hf _ _ _ hg;have h2 := congrArg List.length hd;simp at h1 h2;rw [hd];exact ⟨by omega, h1.2.2⟩
theorem zfa.not_bad {α : Type} {g : PA α} {T : List Tk} {a a' : Nat} {b : Bool} {x : α} (h : zfa g T a b x a' false) : b = false /\ ∃ r, g (T.drop a) = some (x, r) /\ T.drop a' = r := by
 have hb : b = false := by
  cases b with
  | false => rfl
  | true => have := h.ill (.inl rfl); cases this
 refine ⟨hb, ?_⟩;cases hg : g (T.drop a) with
 | none => have := h.ill (.inr hg); cases this
 | some p =>
  obtain ⟨x0, r⟩ := p;obtain ⟨rfl, _, hd⟩ := h.good x0 r hb hg;exact ⟨r, rfl, hd⟩
theorem zfa.nope {α : Type} {g : PA α} {T : List Tk} {a a' : Nat} {b : Bool} {x : α} (h : b = true ∨ g (T.drop a) = none) : zfa g T a b x a' true := ⟨fun x0 r hb he => (by
 have h := h.resolve_left (by simp [hb]);rw [h] at he;cases he), fun _ => rfl⟩
theorem ykd {d : Nat} {T : List Tk} {a a' : Nat} {b' : Bool} {x : Sm} (hlt : a < T.length) (hm : T[a].is 3 yvb = true) (h : zfa (zSb (zZa d)) T (a + 1) false x a' b') : zfa (zZa (d + 1)) T a false x a' b' :=
 h.behind hlt hm fun ts r hr => by simp only [zZa, hr]
theorem wTc {T : List Tk} {a a' : Nat} {x : Sm} (hlt : a < T.length) (hm : T[a].is 3 yvb = true) : zfa (zZa 0) T a false x a' true :=
 zfa.nope (.inr (by rw [List.drop_eq_getElem_cons hlt]; simp only [zZa, tkS, hm, if_true]))
theorem wWa {d : Nat} {T : List Tk} {a a' : Nat} {b b' : Bool} {x : Sm} (hm : b = true ∨ ∀ hlt : a < T.length, T[a].is 3 yvb = false) (h : zfa yRa T a b x a' b') : zfa (zZa d) T a b x a' b' :=
 h.past hm fun ts hr => by cases d <;> simp only [zZa, hr]
theorem yld {d : Nat} {T : List Tk} {a a' : Nat} {b' : Bool} {x : Sm} (hlt : a < T.length) (hm : T[a].is 3 yvb = true) (h : zfa (zSb (yta d)) T (a + 1) false x a' b') : zfa (yta (d + 1)) T a false x a' b' :=
 h.behind hlt hm fun ts r hr => by simp only [yta, hr]
theorem wXa {d : Nat} {T : List Tk} {a a' : Nat} {b b' : Bool} {x : Sm} (hm : b = true ∨ ∀ hlt : a < T.length, T[a].is 3 yvb = false) (h : zfa yRa T a b x a' b') : zfa (yta (d + 1)) T a b x a' b' :=
 h.past hm fun ts hr => by simp only [yta, hr]
theorem y8b {T : List Tk} {a a' : Nat} {b' : Bool} {x : Sm} (hlt : a < T.length) (hm : T[a].is 3 xza = true) (h : zfa xre T (a + 1) false x a' b') : zfa yRa T a false x a' b' :=
 h.behind hlt hm fun ts r hr => by simp only [yRa, hr]
theorem wCa {T : List Tk} {a a' : Nat} {b b' : Bool} {x : Sm} (hm : b = true ∨ ∀ hlt : a < T.length, T[a].is 3 xza = false) (h : zfa (zXa nmP xpd) T a b x a' b') : zfa yRa T a b x a' b' :=
 h.past hm fun ts hr => by simp only [yRa, hr]
theorem ymd {s : ByteArray} {T : List Tk} {a a' : Nat} {b' : Bool} {x : Sm} (hlt : a < T.length) (hm : T[a].is 4 (ch 91) = true) (h : zfa (xqe s) T (a + 1) false x a' b') : zfa (xpd s) T a false x a' b' :=
 h.behind hlt hm fun ts r hr => by simp only [xpd, hr]
theorem ynd {s : ByteArray} {T : List Tk} {a a' : Nat} {b b' : Bool} {x : Sm} (hm : b = true ∨ xPd T a 91) (h : zfa (xpe s) T a b x a' b') : zfa (xpd s) T a b x a' b' :=
 h.past hm fun ts hr => by simp only [xpd, hr]
theorem z7c {sub : PA Sm} (hs : ysa 1 Sm.w sub) (l : List Sm) {T : List Tk} {a a' : Nat} {b b' : Bool} (hb : b = true ∨ ∃ hlt : a < T.length, T[a].is 4 (ch 125) = true) (h : zfa (tkR (ch 125)) T a b () a' b') : zfa (zRb sub l) T a b l a' b' := by
 cases b with
 | true => rw [h.ill (.inl rfl)]; exact zfa.nope (.inl rfl)
 | false =>
  obtain ⟨hlt, hm⟩ := hb.resolve_left (by simp);have h2 := h.bind (h := fun _ => xca l) (zfa.pure l T a' b');refine h2.same fun _ => ?_;rw [List.drop_eq_getElem_cons hlt, yhd hs];simp only [tkR, tkS, hm, if_true, xca, Option.map_some, Option.bind_some]
theorem y9b {sub : PA Sm} (hs : ysa 1 Sm.w sub) {l y : List Sm} {x : Sm} {T : List Tk} {a a1 a2 : Nat} {b b1 b2 : Bool} (hm : b = true ∨ xPd T a 125) (h1 : zfa sub T a b x a1 b1) (h2 : zfa (zRb sub (l ++ [x])) T a1 b1 y a2 b2) : zfa (zRb sub l) T a b y a2 b2 :=
 (h1.bind (h := fun x => zRb sub (l ++ [x])) h2).past hm fun ts hr => by rw [yhd hs, hr]
theorem zrb {sub : PA Sm} (l : List Sm) {T : List Tk} {a : Nat} {b : Bool} (h : b = true ∨ T.length <= a) : zfa (y7a sub l) T a b l a b := by
 cases b with
 | true => exact zfa.bad _ _ _ _ _
 | false =>
  have h := h.resolve_left (by simp);refine (zfa.pure l T a false).same fun _ => ?_;rw [List.drop_eq_nil_of_le h];rfl
theorem xab {sub : PA Sm} (hs : ysa 1 Sm.w sub) {l y : List Sm} {x : Sm} {T : List Tk} {a a1 a2 : Nat} {b b1 b2 : Bool} (hlt : a < T.length) (h1 : zfa sub T a b x a1 b1) (h2 : zfa (y7a sub (l ++ [x])) T a1 b1 y a2 b2) : zfa (y7a sub l) T a b y a2 b2 :=
 (h1.bind (h := fun x => y7a sub (l ++ [x])) h2).same fun _ => by rw [List.drop_eq_getElem_cons hlt, yid hs]
theorem wlb (l : List Ar) {T : List Tk} {a : Nat} {b : Bool} (hm : b = true ∨ ∀ hlt : a < T.length, T[a].is 3 y6a = false) : zfa (xaa l) T a b l a b :=
 (zfa.pure l T a b).past hm fun ts hr => by rw [yjd, hr]
theorem wmb {l y : List Ar} {x : Ar} {T : List Tk} {a a1 a2 : Nat} {b1 b2 : Bool} (hlt : a < T.length) (hm : T[a].is 3 y6a = true) (h1 : zfa xqd T (a + 1) false x a1 b1) (h2 : zfa (xaa (l ++ [x])) T a1 b1 y a2 b2) : zfa (xaa l) T a false y a2 b2 :=
 (h1.bind (h := fun x => xaa (l ++ [x])) h2).behind hlt hm fun ts r hr => by rw [yjd, hr]
theorem zqe {T : List Tk} (hT : ∀ t ∈ T, t.fine) {a : Nat} {bad : Bool} {s : ByteArray} (hs : 2 <= s.size) (t : Tk) (ht : t = if bad = true then ⟨0, ⟨#[]⟩, 0⟩ else (T[a]?).getD ⟨0, ⟨#[]⟩, 0⟩) :
  zfa (kpR s) T a bad () (if ((decide (t.k = 4) || decide (t.k = 3)) && decide (t.s = s)) = true then a + 1 else a) (!((decide (t.k = 4) || decide (t.k = 3)) && decide (t.s = s))) := by
 cases bad with
 | true =>
  subst ht;have : ¬ (⟨#[]⟩ : ByteArray) = s := by rintro rfl; exact absurd hs (by decide)
  simp;exact zfa.bad _ _ _ _ _
 | false =>
  by_cases hlt : a < T.length
  ·have ht2 : t = T[a] := by rw [ht, List.getElem?_eq_getElem hlt]; rfl
   subst ht2;rw [y2c (hT _ (List.getElem_mem hlt)) hs];have hd : T.drop a = T[a] :: T.drop (a + 1) := List.drop_eq_getElem_cons hlt;cases hi : T[a].is 3 s with
   | true =>
    refine ⟨fun x0 r _ he => ?_, fun h => ?_⟩
    ·rw [hd] at he;simp only [kpR, tkS, hi, if_true, Option.map_some, Option.some.injEq, Prod.mk.injEq] at he;exact ⟨rfl, rfl, he.2⟩
    have h := h.resolve_left (by simp);rw [hd] at h;simp [kpR, tkS, hi] at h
   | false =>
    refine ⟨fun x0 r _ he => ?_, fun _ => rfl⟩;rw [hd] at he;simp [kpR, tkS, hi] at he
  have ht2 : t = ⟨0, ⟨#[]⟩, 0⟩ := by rw [ht, List.getElem?_eq_none (by omega)]; rfl
  subst ht2;have hd : T.drop a = [] := List.drop_eq_nil_of_le (by omega);refine ⟨fun x0 r _ he => ?_, fun _ => by simp⟩;rw [hd] at he;simp [kpR, tkS] at he
theorem yod {T : List Tk} {a : Nat} {bad : Bool} (t : Tk) (ht : t = if bad = true then ⟨0, ⟨#[]⟩, 0⟩ else (T[a]?).getD ⟨0, ⟨#[]⟩, 0⟩) : zfa nmP T a bad (if t.k = 1 then t else ⟨0, ⟨#[]⟩, 0⟩).s (if t.k = 1 then a + 1 else a) (!decide (t.k = 1)) := by
 cases bad with
 | true => subst ht; exact zfa.bad _ _ _ _ _
 | false =>
  by_cases hlt : a < T.length
  ·have ht2 : t = T[a] := by rw [ht, List.getElem?_eq_getElem hlt]; rfl
   subst ht2;have hd : T.drop a = T[a] :: T.drop (a + 1) := List.drop_eq_getElem_cons hlt;by_cases hk : T[a].k = 1
   ·rw [if_pos hk, if_pos hk, decide_eq_true hk];refine (zfa.pure T[a].s T (a + 1) false).cons hlt fun l => ?_;simp only [nmP, if_pos hk]
   rw [if_neg hk, if_neg hk, decide_eq_false hk];exact zfa.nope (.inr (by rw [hd]; simp only [nmP, if_neg hk]))
  have ht2 : t = ⟨0, ⟨#[]⟩, 0⟩ := by rw [ht, List.getElem?_eq_none (by omega)]; rfl
  subst ht2;exact zfa.nope (.inr (by rw [List.drop_eq_nil_of_le (by omega)]; rfl))
theorem x1c {T : List Tk} {a : Nat} {bad : Bool} (t : Tk) (ht : t = if bad = true then ⟨0, ⟨#[]⟩, 0⟩ else (T[a]?).getD ⟨0, ⟨#[]⟩, 0⟩) : zfa xod T a bad (if t.k = 2 then t else ⟨0, ⟨#[]⟩, 0⟩).n (if t.k = 2 then a + 1 else a) (!decide (t.k = 2)) := by
 cases bad with
 | true => subst ht; exact zfa.bad _ _ _ _ _
 | false =>
  by_cases hlt : a < T.length
  ·have ht2 : t = T[a] := by rw [ht, List.getElem?_eq_getElem hlt]; rfl
   subst ht2;have hd : T.drop a = T[a] :: T.drop (a + 1) := List.drop_eq_getElem_cons hlt;by_cases hk : T[a].k = 2
   ·rw [if_pos hk, if_pos hk, decide_eq_true hk];refine (zfa.pure T[a].n T (a + 1) false).cons hlt fun l => ?_;simp only [xod, if_pos hk]
   rw [if_neg hk, if_neg hk, decide_eq_false hk];exact zfa.nope (.inr (by rw [hd]; simp only [xod, if_neg hk]))
  have ht2 : t = ⟨0, ⟨#[]⟩, 0⟩ := by rw [ht, List.getElem?_eq_none (by omega)]; rfl
  subst ht2;exact zfa.nope (.inr (by rw [List.drop_eq_nil_of_le (by omega)]; rfl))
variable {P : Program}
def zJa (σ : List Nat) (ops : Array Oper) : Bool := ((List.range ops.size).all fun j => σ.contains j) && (σ.all fun j => j < ops.size) && decide σ.Nodup && ops.all fun (o : Oper) => o.after.all fun (e : Edge) => decide (e.on < ops.size)
theorem w0b (md : Region.Mode) {σ : List Nat} {ops : Array Oper} (hB : zJa σ ops = true) {τ : List Nat} (hT : zTa md ops τ = true) (fuel t : Nat) (listed : Array Bool) (acc : List Nat) (hs : listed.size = ops.size) (hf0 : fuel + 1 = (rem ops.size listed).length)
  (hc : ∀ (j : Nat) (o : Oper), ops[j]? = some o -> listed.getD j true = true -> ∀ e ∈ direct o, listed.getD e true = true) :
  ∃ (i : Nat) (o : Oper) (t' : Nat), ops[i]? = some o /\ i < listed.size /\ listed.getD i true = false /\ i ∈ yaa σ listed /\ (∀ e ∈ direct o, listed.getD e true = true) /\ Region.linearise.go md ops (fuel + 1) t listed acc = Region.linearise.go md ops fuel t' (listed.setIfInBounds i true) (i :: acc) /\
   fuel = (rem ops.size (listed.setIfInBounds i true)).length /\ ∀ (j : Nat) (o' : Oper), ops[j]? = some o' -> (listed.setIfInBounds i true).getD j true = true -> ∀ e ∈ direct o', (listed.setIfInBounds i true).getD e true = true := by
 unfold zJa at hB;simp only [Bool.and_eq_true, List.all_eq_true, List.mem_range, decide_eq_true_eq, Array.all_eq_true'] at hB;obtain ⟨⟨⟨hB, hσ1⟩, hσ2⟩, hE0⟩ := hB;have hE : ∀ (i : Nat) (o : Oper), ops[i]? = some o -> ∀ e ∈ o.after, e.on < ops.size := by
  intro i o ho e he;have h1 := hE0 o (Array.mem_of_getElem? ho);exact h1 e he
 have hready : ∀ (i : Nat) (o : Oper), ops[i]? = some o -> (((ops[i]?).map (·.after.all fun e => !Region.binds md e || listed.getD e.on false)).getD false = true -> ∀ e ∈ direct o, listed.getD e false = true) := by
  intro i o ho;rw [ho];simp only [Option.map_some, Option.getD_some, Array.all_eq_true', direct, List.mem_map, List.mem_filter];rintro h e ⟨x, ⟨hx, hb⟩, rfl⟩;have := h x (by simpa using hx);simpa [zIc (m := md) hb] using this
 have hgo : ∀ rs, ((List.range ops.size).filter fun i => !listed.getD i true && ((ops[i]?).map (·.after.all fun e => !Region.binds md e || listed.getD e.on false)).getD false) = rs -> Region.linearise.go md ops (fuel + 1) t listed acc = match rs[t % rs.length]? with
  | some i => Region.linearise.go md ops fuel (t / rs.length) (listed.setIfInBounds i true) (i :: acc)
  | none => acc.reverse := by
  rintro rs rfl;rw [Region.linearise.go];rfl
 generalize hrs : ((List.range ops.size).filter fun i => !listed.getD i true && ((ops[i]?).map (·.after.all fun e => !Region.binds md e || listed.getD e.on false)).getD false) = rs at hgo;have hgo := hgo rs rfl;have hmem : ∀ i, i ∈ rs -> i ∈ rem ops.size listed /\ i ∈ yaa σ listed /\ ∃ o, ops[i]? = some o /\ ∀ e ∈ direct o, listed.getD e false = true := by
  intro i hi;rw [<- hrs] at hi;obtain ⟨h1, h2⟩ := List.mem_filter.1 hi;simp only [Bool.and_eq_true] at h2;have hlt := List.mem_range.1 h1;refine ⟨List.mem_filter.2 ⟨h1, h2.1⟩, List.mem_filter.2 ⟨by simpa using hB i hlt, h2.1⟩, ?_⟩;exact ⟨ops[i], by simp [hlt], hready i _ (by simp [hlt]) h2.2⟩
 have hne : rs ≠ [] := by
  have hrem : rem ops.size listed ≠ [] := by intro h; rw [h] at hf0; simp at hf0
  obtain ⟨i0, l0, hil⟩ := List.exists_cons_of_ne_nil hrem;have hi0 : i0 ∈ rem ops.size listed := by rw [hil]; simp
  obtain ⟨hin0, hiu0⟩ := List.mem_filter.1 hi0;unfold zTa at hT;simp only [Bool.and_eq_true, List.all_eq_true, List.mem_range] at hT;obtain ⟨i, hiτ, h1, h2⟩ := zMb (L := fun j => listed.getD j true) τ [] hT.1 (fun j hj => by cases hj) ⟨i0, by simpa using hT.2 i0 (List.mem_range.1 hin0), by simpa using hiu0⟩;have hin : i < ops.size := by
   rcases Nat.lt_or_ge i ops.size with h | h
   ·exact h
   simp [Array.getD_eq_getD_getElem?, Array.getElem?_eq_none (show listed.size <= i by omega)] at h1
  intro hnil;have : i ∈ rs := by
   rw [<- hrs];refine List.mem_filter.2 ⟨List.mem_range.2 hin, ?_⟩;simp only [Bool.and_eq_true];refine ⟨by simp [h1], ?_⟩;have h3 := h2 ops[i] (by simp [hin]);rw [show ops[i]? = some ops[i] from by simp [hin]]
   simp only [Option.map_some, Option.getD_some, Array.all_eq_true', Bool.or_eq_true] at h3 ⊢;intro e he;rcases h3 e he with h | h
   ·exact .inl h
   cases hb : Region.binds md e with
   | false => exact .inl rfl
   | true =>
    refine .inr ?_;have hes := (hE i ops[i] (by simp [hin])) e he;simp only [Array.getD_eq_getD_getElem?] at h ⊢;rw [show listed[e.on]? = some (listed[e.on]'(by omega)) from by simp [hs, hes]] at h ⊢
    simpa using h
  rw [hnil] at this; cases this
 have hpos : 0 < rs.length := List.length_pos_iff.2 hne;have hlt : t % rs.length < rs.length := Nat.mod_lt _ hpos;rw [List.getElem?_eq_getElem hlt] at hgo;simp only at hgo;obtain ⟨hi0, hi, o, ho, hd⟩ := hmem _ (List.getElem_mem hlt);generalize rs[t % rs.length] = i at *;obtain ⟨k1, k2, hl0⟩ := List.append_of_mem hi0;have hin := List.mem_range.1 (List.mem_filter.1 hi0).1;have hset0 := ySc hs hl0;have hlisted : ∀ e, listed.getD e false = true -> listed.getD e true = true := by
  intro e he;simp only [Array.getD_eq_getD_getElem?] at he ⊢;cases hq : listed[e]? with
  | none => rfl
  | some b => rw [hq] at he; simpa using he
 refine ⟨i, o, t / rs.length, ho, by omega, by simpa using (List.mem_filter.1 hi0).2, hi, fun e he => hlisted e (hd e he), hgo, by rw [hset0]; rw [hl0] at hf0; simp at hf0 ⊢; omega, ?_⟩;intro j o' ho' hj e he;have key : ∀ q, listed.getD q true = true -> (listed.setIfInBounds i true).getD q true = true := by
  intro q hq;by_cases hqi : q = i
  ·subst hqi; simp [Array.getD_eq_getD_getElem?]
  simpa [Array.getD_eq_getD_getElem?, Array.getElem?_setIfInBounds_ne (Ne.symm hqi)] using hq
 by_cases hji : j = i
 ·subst hji;rw [ho] at ho';obtain rfl := Option.some.inj ho';exact key e (hlisted e (hd e he))
 have : listed.getD j true = true := by simpa [Array.getD_eq_getD_getElem?, Array.getElem?_setIfInBounds_ne (Ne.symm hji)] using hj
 exact key e (hc j o' ho' this e he)
def Before (P : Program) (p r : Nat -> Bool) (ops : Array Oper) (k i : Nat) : Prop := ((ancs ops.toList []).getD i []).contains k = true ∨ wxa P p r ops k i
theorem yfa {p r : Nat -> Bool} {σ : List Nat} {ops : Array Oper} (hn : σ.Nodup) {listed : Array Bool} {K : St -> Prop} (hs : listed.size = ops.size) {i : Nat} {o : Oper} (ho : ops[i]? = some o) (hi : i ∈ yaa σ listed) (hin : i < listed.size) (hd : ∀ e ∈ direct o, listed.getD e true = true)
  (hc : ∀ (j : Nat) (o : Oper), ops[j]? = some o -> listed.getD j true = true -> ∀ e ∈ direct o, listed.getD e true = true) (hp : (yaa σ listed).Pairwise fun k j => j = i -> Before P p r ops k j) :
  (yaa σ (listed.setIfInBounds i true)).length + 1 = (yaa σ listed).length /\ (yaa σ (listed.setIfInBounds i true)).Sublist (yaa σ listed) /\ i ∉ yaa σ (listed.setIfInBounds i true) /\ ∀ s, zra P p r ops K (yaa σ listed) s -> zra P p r ops K (i :: yaa σ (listed.setIfInBounds i true)) s := by
 obtain ⟨l1, l2, hl⟩ := List.append_of_mem hi;have hset := xLc hn hin hl;have hap : ∀ k ∈ l1, wxa P p r ops k i := by
  intro k hk1;have hkm : k ∈ yaa σ listed := by rw [hl]; simp [hk1]
  rw [hl] at hp;rcases (List.pairwise_append.1 hp).2.2 k hk1 i (by simp) rfl with h | h
  ·have hclosed := yBa ops (fun e => listed.getD e true = true) hc ops.toList [] 0 rfl (Nat.zero_le _) (fun q => by simp) (fun j o _ _ k hk => by simp [List.getD_eq_getElem?_getD] at hk) i o ho hd k (by simpa using h);have := (List.mem_filter.1 hkm).2;rw [hclosed] at this; cases this
  exact h
 refine ⟨by rw [hset, hl]; simp; omega, by rw [hset, hl]; exact (List.Sublist.refl _).append (List.sublist_cons_self _ _), ?_, fun s hk => ?_⟩
 ·intro hm;have := (List.mem_filter.1 hm).2;simp [Array.getD_eq_getD_getElem?, hin] at this
 rw [hl] at hk;rw [hset];exact wVa l1 s hap hk
theorem xWd {f : Bool} {ev : Operand -> AV} {op : Op} (hc : zFc op = false) {v v' : AV} (h : yPc P f ev op v) (h' : yPc P f ev op v') : v = v' := by
 cases op with
 | buildSlice T len parts =>
  simp only [yPc] at h h';cases he : esz P T with
  | none => rw [he] at h; exact h.elim
  | some n =>
   rw [he] at h h';obtain ⟨_, _, _, _, h⟩ := h;obtain ⟨_, _, _, _, h'⟩ := h';cases hl : zda n (parts.toList.map fun q => (q.1, ev q.2)) with
   | none => rw [hl] at h; exact h.elim
   | some xs =>
    rw [hl] at h h';exact h.trans h'.symm
 | call c =>
  simp only [yPc] at h h';cases hcal : c.callee with
  | value f => simp [zFc, hcal] at hc
  | _ =>
   rw [hcal] at h h';exact Option.some.inj (h.symm.trans h')
 | _ => exact Option.some.inj (h.symm.trans h')
theorem z8c {f r : Bool} {ops : Array Oper} {o : Oper} (hc : zFc o.op = false) {s : St} {v v' : AV} (h : zeb P f r ops o s v) (h' : zeb P f r ops o s v') : v = v' := by
 unfold zeb at h h';cases hw : zGa ops o s with
 | none => rw [hw] at h; exact h.elim
 | some b =>
  rw [hw] at h h';cases b with
  | false => exact h.trans h'.symm
  | true =>
   simp only at h h';split at h
   ·rename_i hr
    rw [if_pos hr] at h';rw [h] at h';exact Option.some.inj h'
   rename_i hr
   rw [if_neg hr] at h';split at h
   ·rename_i h0
    rw [if_pos h0] at h';exact xWd hc h h'
   rename_i h0
   rw [if_neg h0] at h';rw [h] at h';exact Option.some.inj h'
def w1b (f r : Bool) (op : Op) : Bool := decide (zFb f r op <= 1) && !zFc op
theorem wUc {p r : Nat -> Bool} {ops : Array Oper} {K : St -> Prop} {i : Nat} {o : Oper} {l1 l2 π : List Nat} (ho : ops[i]? = some o) (hd : w1b (p i) (r i) o.op = true) (hπ : ∀ s, zra P p r ops K l1 s -> zra P p r ops K l2 s -> zra P p r ops K π s) {s : St} (h1 : zra P p r ops K (i :: l1) s) (h2 : zra P p r ops K (i :: l2) s) : zra P p r ops K (i :: π) s := by
 unfold w1b at hd;rw [Bool.and_eq_true, decide_eq_true_eq, Bool.not_eq_true'] at hd;rw [z9a ho] at h1 h2 ⊢;rw [wma hd.1] at h1 h2 ⊢;obtain ⟨v1, a1, b1⟩ := h1;obtain ⟨v2, a2, b2⟩ := h2;have := z8c hd.2 a1 a2;subst this;exact ⟨v1, a1, hπ _ b1 b2⟩
theorem yKa (md : Region.Mode) {p r : Nat -> Bool} {σ : List Nat} {ops : Array Oper} {K : St -> Prop} (hB : zJa σ ops = true) {τ : List Nat} (hT : zTa md ops τ = true) : ∀ (fuel t : Nat) (listed : Array Bool) (acc : List Nat), listed.size = ops.size -> fuel = (rem ops.size listed).length -> fuel = (yaa σ listed).length ->
  ((yaa σ listed).Pairwise fun k i => Before P p r ops k i) -> (∀ (j : Nat) (o : Oper), ops[j]? = some o -> listed.getD j true = true -> ∀ e ∈ direct o, listed.getD e true = true) ->
  ∃ π, Region.linearise.go md ops fuel t listed acc = acc.reverse ++ π /\ ∀ s, zra P p r ops K (yaa σ listed) s -> zra P p r ops K π s := by
 have hn : σ.Nodup := by
  unfold zJa at hB;simp only [Bool.and_eq_true, decide_eq_true_eq] at hB;exact hB.1.2
 intro fuel
 induction fuel with
 | zero =>
  intro t listed acc hs hf0 hf hp hc;have : yaa σ listed = [] := List.eq_nil_of_length_eq_zero hf.symm;rw [this];exact ⟨[], by simp [Region.linearise.go], fun s hk => hk⟩
 | succ fuel ih =>
  intro t listed acc hs hf0 hf hp hc;obtain ⟨i, o, t', ho, hin, hli, hi, hd, hgo, hr, hc'⟩ := w0b md hB hT fuel t listed acc hs hf0 hc;obtain ⟨f1, f2, f3, f4⟩ := yfa (K := K) (P := P) (p := p) (r := r) hn hs ho hi hin hd hc (hp.imp (S := fun k j => j = i -> Before P p r ops k j) fun h _ => h);obtain ⟨π, hg, hπ⟩ := ih t' (listed.setIfInBounds i true) (i :: acc) (by simpa using hs) hr (by omega) (hp.sublist f2) hc';exact ⟨i :: π, by rw [hgo, hg]; simp, fun s hk => yla hπ i s (f4 s hk)⟩
theorem w2b (md : Region.Mode) {p r : Nat -> Bool} {σ1 σ2 : List Nat} {ops : Array Oper} {K : St -> Prop} {x y : Nat} (hB1 : zJa σ1 ops = true) (hB2 : zJa σ2 ops = true) {τ : List Nat} (hT : zTa md ops τ = true) : ∀ (fuel t : Nat) (listed : Array Bool) (acc : List Nat), listed.size = ops.size -> fuel = (rem ops.size listed).length -> fuel = (yaa σ1 listed).length -> fuel = (yaa σ2 listed).length ->
  ((yaa σ1 listed).Pairwise fun k i => Before P p r ops k i ∨ (k = x /\ (i = y ∨ ((ancs ops.toList []).getD i []).contains y = true))) -> ((yaa σ2 listed).Pairwise fun k i => Before P p r ops k i ∨ (k = y /\ (i = x ∨ ((ancs ops.toList []).getD i []).contains x = true))) -> x ∈ yaa σ1 listed -> y ∈ yaa σ1 listed -> x ≠ y -> (∀ (j : Nat) (o : Oper), ops[j]? = some o -> j = x ∨ j = y ∨ w1b (p j) (r j) o.op = true ∨ ((ancs ops.toList []).getD j []).contains x = true ∨ ((ancs ops.toList []).getD j []).contains y = true) -> (∀ (j : Nat) (o : Oper), ops[j]? = some o -> listed.getD j true = true -> ∀ e ∈ direct o, listed.getD e true = true) ->
  ∃ π, Region.linearise.go md ops fuel t listed acc = acc.reverse ++ π /\ ∀ s, zra P p r ops K (yaa σ1 listed) s -> zra P p r ops K (yaa σ2 listed) s -> zra P p r ops K π s := by
 have hn1 : σ1.Nodup := by
  unfold zJa at hB1;simp only [Bool.and_eq_true, decide_eq_true_eq] at hB1;exact hB1.1.2
 have hn2 : σ2.Nodup := by
  unfold zJa at hB2;simp only [Bool.and_eq_true, decide_eq_true_eq] at hB2;exact hB2.1.2
 intro fuel
 induction fuel with
 | zero =>
  intro t listed acc hs hf0 hf1 hf2 hp1 hp2 hx hy hxy hdet hc;have : yaa σ1 listed = [] := List.eq_nil_of_length_eq_zero hf1.symm;rw [this] at hx;cases hx
 | succ fuel ih =>
  intro t listed acc hs hf0 hf1 hf2 hp1 hp2 hx hy hxy hdet hc;obtain ⟨i, o, t', ho, hin, hli, hi1, hd, hgo, hr, hc'⟩ := w0b md hB1 hT fuel t listed acc hs hf0 hc;have hi2 : i ∈ yaa σ2 listed := by
   refine List.mem_filter.2 ⟨?_, (List.mem_filter.1 hi1).2⟩;have hB2' := hB2;unfold zJa at hB2';simp only [Bool.and_eq_true, List.all_eq_true, List.mem_range] at hB2';have := hB2'.1.1.1 i (by omega);simpa using this
  have hclosed : ∀ k, ((ancs ops.toList []).getD i []).contains k = true -> listed.getD k true = true := fun k hk => yBa ops (fun e => listed.getD e true = true) hc ops.toList [] 0 rfl (Nat.zero_le _) (fun q => by simp) (fun j o _ _ k hk => by simp [List.getD_eq_getElem?_getD] at hk) i o ho hd k (by simpa using hk);have nox : ¬ ((ancs ops.toList []).getD i []).contains x = true := fun h => by
   have h1 := hclosed x h;have h2 := (List.mem_filter.1 hx).2;rw [h1] at h2; cases h2
  have noy : ¬ ((ancs ops.toList []).getD i []).contains y = true := fun h => by
   have h1 := hclosed y h;have h2 := (List.mem_filter.1 hy).2;rw [h1] at h2; cases h2
  by_cases hiy : i = y
  ·subst hiy;obtain ⟨f1, f2, f3, f4⟩ := yfa (K := K) (P := P) (p := p) (r := r) hn2 hs ho hi2 hin hd hc (hp2.imp fun {k j} h e => by
    subst e;rcases h with h | ⟨_, h | h⟩
    ·exact h
    ·exact absurd h.symm hxy
    exact absurd h nox)
   have hp : (yaa σ2 (listed.setIfInBounds i true)).Pairwise fun k j => Before P p r ops k j := (hp2.sublist f2).imp_of_mem fun {k j} hk hj h => by
    rcases h with h | ⟨rfl, _⟩
    ·exact h
    exact absurd hk f3
   obtain ⟨π, hg, hπ⟩ := yKa (P := P) (K := K) md hB2 hT fuel t' (listed.setIfInBounds i true) (i :: acc) (by simpa using hs) hr (by omega) hp hc';exact ⟨i :: π, by rw [hgo, hg]; simp, fun s _ hk => yla hπ i s (f4 s hk)⟩
  obtain ⟨f1, f2, f3, f4⟩ := yfa (K := K) (P := P) (p := p) (r := r) hn1 hs ho hi1 hin hd hc (hp1.imp fun {k j} h e => by
   subst e;rcases h with h | ⟨_, h | h⟩
   ·exact h
   ·exact absurd h hiy
   exact absurd h noy)
  by_cases hix : i = x
  ·subst hix;have hp : (yaa σ1 (listed.setIfInBounds i true)).Pairwise fun k j => Before P p r ops k j := (hp1.sublist f2).imp_of_mem fun {k j} hk hj h => by
    rcases h with h | ⟨rfl, _⟩
    ·exact h
    exact absurd hk f3
   obtain ⟨π, hg, hπ⟩ := yKa (P := P) (K := K) md hB1 hT fuel t' (listed.setIfInBounds i true) (i :: acc) (by simpa using hs) hr (by omega) hp hc';exact ⟨i :: π, by rw [hgo, hg]; simp, fun s hk _ => yla hπ i s (f4 s hk)⟩
  obtain ⟨g1, g2, g3, g4⟩ := yfa (K := K) (P := P) (p := p) (r := r) hn2 hs ho hi2 hin hd hc (hp2.imp fun {k j} h e => by
   subst e;rcases h with h | ⟨_, h | h⟩
   ·exact h
   ·exact absurd h hix
   exact absurd h nox)
  have hx2 : x ∈ yaa σ1 (listed.setIfInBounds i true) := by
   refine List.mem_filter.2 ⟨(List.mem_filter.1 hx).1, ?_⟩;have := (List.mem_filter.1 hx).2;simpa [Array.getD_eq_getD_getElem?, Array.getElem?_setIfInBounds_ne hix] using this
  have hy2 : y ∈ yaa σ1 (listed.setIfInBounds i true) := by
   refine List.mem_filter.2 ⟨(List.mem_filter.1 hy).1, ?_⟩;have := (List.mem_filter.1 hy).2;simpa [Array.getD_eq_getD_getElem?, Array.getElem?_setIfInBounds_ne hiy] using this
  have hdo : w1b (p i) (r i) o.op = true := by
   rcases hdet i o ho with h | h | h | h | h
   ·exact absurd h hix
   ·exact absurd h hiy
   ·exact h
   ·exact absurd h nox
   exact absurd h noy
  obtain ⟨π, hg, hπ⟩ := ih t' (listed.setIfInBounds i true) (i :: acc) (by simpa using hs) hr (by omega) (by omega) (hp1.sublist f2) (hp2.sublist g2) hx2 hy2 hxy hdet hc';refine ⟨i :: π, by rw [hgo, hg]; simp, fun s hk1 hk2 => ?_⟩;have a1 := f4 s hk1;have a2 := g4 s hk2;exact wUc ho hdo hπ a1 a2
def wnb (p r : Nat -> Bool) (ops : Array Oper) (an : List (List Nat)) (x y : Nat) : List Nat -> Bool
 | [] => true
 | k :: l => (l.all fun i => (an.getD i []).contains k || (zGc p r ops k i || (k == x && (i == y || (an.getD i []).contains y)))) && wnb p r ops an x y l
theorem xAa {p r : Nat -> Bool} {ops : Array Oper} (hz : HZ P r ops) {x y : Nat} : ∀ {l : List Nat}, wnb p r ops (ancs ops.toList []) x y l = true -> l.Pairwise fun k i => Before P p r ops k i ∨ (k = x /\ (i = y ∨ ((ancs ops.toList []).getD i []).contains y = true))
 | [], _ => .nil
 | k :: l, h => by
  simp only [wnb, Bool.and_eq_true, List.all_eq_true, Bool.or_eq_true] at h;refine .cons (fun i hi => ?_) (xAa hz h.2);rcases h.1 i hi with h | h | h
  ·exact .inl (.inl h)
  ·exact .inl (.inr (wna hz h))
  simp only [Bool.and_eq_true, Bool.or_eq_true, beq_iff_eq] at h;exact .inr h
def wBd (p r : Nat -> Bool) (ops : Array Oper) (x y : Nat) : Bool := (List.range ops.size).all fun j => match ops[j]? with
 | some o => decide (j = x) || (decide (j = y) || (w1b (p j) (r j) o.op || (((ancs ops.toList []).getD j []).contains x || ((ancs ops.toList []).getD j []).contains y)))
 | none => true
def xse (N : Nat) (p r : Nat -> Bool) (σ1 σ2 : List Nat) (x y : Nat) (τ : List Nat) (ops : Array Oper) : Bool := (xmd N ops && (z3e r ops && (zJa σ1 ops && (zJa σ2 ops && (wnb p r ops (ancs ops.toList []) x y σ1 && (wnb p r ops (ancs ops.toList []) y x σ2 && (wBd p r ops x y && (σ1.contains x && (σ1.contains y && decide (x ≠ y)))))))))) && (zTa .text ops (List.range ops.size) && zTa .gc ops τ && zTa .any ops τ)
theorem xbb {N : Nat} {p r : Nat -> Bool} {σ1 σ2 τ : List Nat} {x y : Nat} {ops : Array Oper} {K : St -> Prop} (hB : xse N p r σ1 σ2 x y τ ops = true) (mixed : Bool) (t : Nat) (s : St) (h1 : zra P p r ops K σ1 s) (h2 : zra P p r ops K σ2 s) : zra P p r ops K (Region.schedule mixed ops t) s := by
 unfold xse at hB;rw [Bool.and_eq_true] at hB;obtain ⟨hB, hT⟩ := hB;simp only [Bool.and_eq_true] at hB hT;obtain ⟨_, hz, o1, o2, p1, p2, hdet, cx, cy, hxy⟩ := hB;have hz := yWc (P := P) hz;have hxy : x ≠ y := by simpa using hxy
 have hrem : rem ops.size (Array.replicate ops.size false) = List.range ops.size := by
  unfold rem;rw [List.filter_eq_self];intro i hi;have := List.mem_range.1 hi;simp [Array.getD_eq_getD_getElem?, this]
 have facts : ∀ σ, zJa σ ops = true -> yaa σ (Array.replicate ops.size false) = σ /\ ops.size = σ.length := by
  intro σ ho;unfold zJa at ho;simp only [Bool.and_eq_true, List.all_eq_true, List.mem_range, decide_eq_true_eq] at ho;obtain ⟨⟨⟨hBr, hσ1⟩, hσ2⟩, _⟩ := ho;refine ⟨?_, ?_⟩
  ·unfold yaa;rw [List.filter_eq_self];intro i hi;have := hσ1 i hi;simp [Array.getD_eq_getD_getElem?, this]
  have hp : σ.Perm (List.range ops.size) := (List.perm_ext_iff_of_nodup hσ2 List.nodup_range).2 fun a => ⟨fun h => List.mem_range.2 (hσ1 a h), fun h => by simpa using hBr a (List.mem_range.1 h)⟩;simpa using hp.length_eq.symm
 obtain ⟨r1, l1⟩ := facts σ1 o1;obtain ⟨r2, l2⟩ := facts σ2 o2;have hdet' : ∀ (j : Nat) (o : Oper), ops[j]? = some o -> j = x ∨ j = y ∨ w1b (p j) (r j) o.op = true ∨ ((ancs ops.toList []).getD j []).contains x = true ∨ ((ancs ops.toList []).getD j []).contains y = true := by
  intro j o ho;unfold wBd at hdet;rw [List.all_eq_true] at hdet;have := hdet j (List.mem_range.2 (Array.getElem?_eq_some_iff.1 ho).1);rw [ho] at this;simpa only [Bool.or_eq_true, decide_eq_true_eq] using this
 have key : ∀ md t (τ : List Nat), zTa md ops τ = true -> zra P p r ops K (Region.linearise md ops t) s := by
  intro md t τ hT;obtain ⟨π, hgo, hπ⟩ := w2b (P := P) (p := p) (r := r) (x := x) (y := y) md (K := K) o1 o2 hT ops.size t (Array.replicate ops.size false) [] (by simp) (by rw [hrem]; simp) (by rw [r1]; exact l1) (by rw [r2]; exact l2) (by rw [r1]; exact xAa hz p1) (by rw [r2]; exact xAa hz p2) (by rw [r1]; simpa using cx) (by rw [r1]; simpa using cy) hxy hdet' (fun j o ho hj => by
   have hlt := (Array.getElem?_eq_some_iff.1 ho).1;simp [Array.getD_eq_getD_getElem?, hlt] at hj)
  unfold Region.linearise;rw [hgo, List.reverse_nil, List.nil_append];exact hπ s (by rw [r1]; exact h1) (by rw [r2]; exact h2)
 unfold Region.schedule;split
 ·exact key _ _ τ hT.2
 split
 ·exact key _ _ _ hT.1.1
 exact key _ _ τ hT.1.2
theorem AWp.regionX {N : Nat} {id : Nat} {ops : Array Oper} {Q : Exit -> St -> Prop} {s : St} (p r : Nat -> Bool) (σ1 σ2 : List Nat) (x y : Nat) (τ : List Nat) (hB : xse N p r σ1 σ2 x y τ ops = true) (h1 : zra P p r ops (Q .normal) σ1 s) (h2 : zra P p r ops (Q .normal) σ2 s) : AWp P N (.region id ops true) Q s := by
 intro C a w hr hN;have hB' := hB;unfold xse at hB;simp only [Bool.and_eq_true] at hB;have hd := hB.1.1;have hb : ∀ (j : Nat) (d : Tmp), (ops[j]?).bind (·.dst) = some d -> d < N := by
  intro j d hj;unfold xmd at hd;rw [Array.all_eq_true'] at hd;cases hq : ops[j]? with
  | none => rw [hq] at hj; cases hj
  | some o =>
   rw [hq] at hj;have := hd o (Array.mem_of_getElem? hq);simp at hj;rw [hj] at this;simpa using this
 have hQ : xKa C (Q .normal) N (Lift C N Q .normal) := fun s a w h1 h2 h3 => ⟨s, h1, h2, h3⟩;refine wp_region_draw fun t => ?_;refine yCa hb hQ _ s a _ ?_ hN (xbb hB' _ t s h1 h2);obtain ⟨S, h1, h2, h3⟩ := hr.ex;exact ⟨⟨S, h1, yTa h2 _, fun t => Rep.mono (w := w) (w' := { w with drawn := w.drawn + 1 }) (fun _ _ => rfl) (fun _ h => h) (h3 t)⟩, hr.defers, hr.keep.drew _, hr.dom⟩
theorem AWp.lastQ {N : Nat} {c : Code} {Q : Exit -> St -> Prop} {s : St} (M : St -> Prop) (h : AWp P N c (wSa M Q) s) (hm : ∀ s', M s' -> Q .normal s') : AWp P N c Q s :=
 h.mono fun e s' hq => by
  cases e with
  | normal => exact hm s' hq
  | _ => exact hq
variable {P : Program}
theorem unset {listed : Array Bool} {i j : Nat} (h : (listed.setIfInBounds i true).getD j true = false) : listed.getD j true = false := by
 by_cases hij : i = j
 ·subst hij;rw [Array.getD_eq_getD_getElem?] at h;rcases Nat.lt_or_ge i listed.size with h1 | h1
  ·simp [h1] at h
  simp [Array.getElem?_eq_none (show (listed.setIfInBounds i true).size <= i by simpa using h1)] at h
 simpa [Array.getD_eq_getD_getElem?, Array.getElem?_setIfInBounds_ne hij] using h
theorem xcb {p r : Nat -> Bool} {ops : Array Oper} {K : St -> Prop} : ∀ (l1 l2 : List Nat) (s : St), zra P p r ops K (l1 ++ l2) s = zra P p r ops (zra P p r ops K l2) l1 s
 | [], l2, s => rfl
 | i :: l1, l2, s => by
  have ih : zra P p r ops K (l1 ++ l2) = zra P p r ops (zra P p r ops K l2) l1 := funext fun s => xcb l1 l2 s;simp only [List.cons_append, zra, ih]
theorem zsb {p r : Nat -> Bool} {ops : Array Oper} {K K' : St -> Prop} (h : ∀ s, K s -> K' s) : ∀ (l : List Nat) (s : St), zra P p r ops K l s -> zra P p r ops K' l s
 | [], s, hk => h s hk
 | i :: l, s, hk => by
  cases ho : ops[i]? with
  | none => simp only [zra, ho] at hk ⊢; exact zsb h l s hk
  | some o => rw [z9a ho] at hk ⊢; exact xPa (zsb h l) hk
theorem ypd {f r : Bool} {ops : Array Oper} {o : Oper} (hd : w1b f r o.op = true) {A B C : St -> Prop} (h : ∀ s, A s -> B s -> C s) {s : St} (h1 : wMa P f r ops o s A) (h2 : wMa P f r ops o s B) : wMa P f r ops o s C := by
 unfold w1b at hd;rw [Bool.and_eq_true, decide_eq_true_eq, Bool.not_eq_true'] at hd;rw [wma hd.1] at h1 h2 ⊢;obtain ⟨v1, a1, b1⟩ := h1;obtain ⟨v2, a2, b2⟩ := h2;have := z8c hd.2 a1 a2;subst this;exact ⟨v1, a1, h _ b1 b2⟩
theorem xXd {f : Bool} {ops : Array Oper} {o : Oper} (hd : xOa o.op = true) {A B C : St -> Prop} (h : ∀ s, A s -> B s -> C s) {s : St} (h1 : wMa P f false ops o s A) (h2 : wMa P f false ops o s B) : wMa P f false ops o s C := by
 unfold wMa at h1 h2 ⊢;cases hw : zGa ops o s with
 | none => rw [hw] at h1; exact h1.elim
 | some b =>
  rw [hw] at h1 h2;cases b with
  | false => exact h _ h1 h2
  | true =>
   obtain ⟨d, op, T, pos, af, g⟩ := o;cases op with
   | buildSlice U n parts =>
    simp only [wSb, Bool.false_and, Bool.false_eq_true, if_false, xLb] at h1 h2 ⊢;cases he : esz P U with
    | none => rw [he] at h1; exact h1.elim
    | some k =>
     rw [he] at h1 h2;simp only at h1 h2 ⊢;obtain ⟨a1, a2, a3, a4, a5⟩ := h1;obtain ⟨_, _, _, _, b5⟩ := h2;refine ⟨a1, a2, a3, a4, ?_⟩;cases hl : zda k (parts.toList.map fun q => (q.1, s.eval q.2)) with
     | none => rw [hl] at a5; exact a5.elim
     | some xs =>
      rw [hl] at a5 b5;exact h _ a5 b5
   | _ => cases hd
def wCd (f r : Bool) (op : Op) : Bool := w1b f r op || (xOa op && !r)
theorem wob {f r : Bool} {ops : Array Oper} {o : Oper} (hd : wCd f r o.op = true) {A B C : St -> Prop} (h : ∀ s, A s -> B s -> C s) {s : St} (h1 : wMa P f r ops o s A) (h2 : wMa P f r ops o s B) : wMa P f r ops o s C := by
 unfold wCd at hd;rw [Bool.or_eq_true, Bool.and_eq_true, Bool.not_eq_true'] at hd;rcases hd with hd | ⟨hd, rfl⟩
 ·exact ypd hd h h1 h2
 exact xXd hd h h1 h2
theorem xPb (md : Region.Mode) {p r : Nat -> Bool} {σ1 σ2 : List Nat} {ops : Array Oper} {K : St -> Prop} {x y : Nat} (hB1 : zJa σ1 ops = true) (hB2 : zJa σ2 ops = true) {τ : List Nat} (hT : zTa md ops τ = true) : ∀ (fuel t : Nat) (listed : Array Bool) (acc : List Nat), listed.size = ops.size -> fuel = (rem ops.size listed).length -> fuel = (yaa σ1 listed).length -> fuel = (yaa σ2 listed).length ->
  ((yaa σ1 listed).Pairwise fun k i => Before P p r ops k i ∨ (k = x /\ (i = y ∨ ((ancs ops.toList []).getD i []).contains y = true))) -> ((yaa σ2 listed).Pairwise fun k i => Before P p r ops k i ∨ (k = y /\ (i = x ∨ ((ancs ops.toList []).getD i []).contains x = true))) -> x ∈ yaa σ1 listed -> y ∈ yaa σ1 listed -> x ≠ y -> (∀ (j : Nat) (o : Oper), ops[j]? = some o -> listed.getD j true = false -> j = x ∨ j = y ∨ wCd (p j) (r j) o.op = true ∨ ((ancs ops.toList []).getD j []).contains x = true ∨ ((ancs ops.toList []).getD j []).contains y = true) -> (∀ (j : Nat) (o : Oper), ops[j]? = some o -> listed.getD j true = true -> ∀ e ∈ direct o, listed.getD e true = true) ->
  ∃ π, Region.linearise.go md ops fuel t listed acc = acc.reverse ++ π /\ ∀ s, zra P p r ops K (yaa σ1 listed) s -> zra P p r ops K (yaa σ2 listed) s -> zra P p r ops K π s := by
 have hn1 : σ1.Nodup := by
  unfold zJa at hB1;simp only [Bool.and_eq_true, decide_eq_true_eq] at hB1;exact hB1.1.2
 have hn2 : σ2.Nodup := by
  unfold zJa at hB2;simp only [Bool.and_eq_true, decide_eq_true_eq] at hB2;exact hB2.1.2
 intro fuel
 induction fuel with
 | zero =>
  intro t listed acc hs hf0 hf1 hf2 hp1 hp2 hx hy hxy hdet hc;have : yaa σ1 listed = [] := List.eq_nil_of_length_eq_zero hf1.symm;rw [this] at hx;cases hx
 | succ fuel ih =>
  intro t listed acc hs hf0 hf1 hf2 hp1 hp2 hx hy hxy hdet hc;obtain ⟨i, o, t', ho, hin, hli, hi1, hd, hgo, hr, hc'⟩ := w0b md hB1 hT fuel t listed acc hs hf0 hc;have hi2 : i ∈ yaa σ2 listed := by
   refine List.mem_filter.2 ⟨?_, (List.mem_filter.1 hi1).2⟩;have hB2' := hB2;unfold zJa at hB2';simp only [Bool.and_eq_true, List.all_eq_true, List.mem_range] at hB2';have := hB2'.1.1.1 i (by omega);simpa using this
  have hclosed : ∀ k, ((ancs ops.toList []).getD i []).contains k = true -> listed.getD k true = true := fun k hk => yBa ops (fun e => listed.getD e true = true) hc ops.toList [] 0 rfl (Nat.zero_le _) (fun q => by simp) (fun j o _ _ k hk => by simp [List.getD_eq_getElem?_getD] at hk) i o ho hd k (by simpa using hk);have nox : ¬ ((ancs ops.toList []).getD i []).contains x = true := fun h => by
   have h1 := hclosed x h;have h2 := (List.mem_filter.1 hx).2;rw [h1] at h2; cases h2
  have noy : ¬ ((ancs ops.toList []).getD i []).contains y = true := fun h => by
   have h1 := hclosed y h;have h2 := (List.mem_filter.1 hy).2;rw [h1] at h2; cases h2
  by_cases hiy : i = y
  ·subst hiy;obtain ⟨f1, f2, f3, f4⟩ := yfa (K := K) (P := P) (p := p) (r := r) hn2 hs ho hi2 hin hd hc (hp2.imp fun {k j} h e => by
    subst e;rcases h with h | ⟨_, h | h⟩
    ·exact h
    ·exact absurd h.symm hxy
    exact absurd h nox)
   have hp : (yaa σ2 (listed.setIfInBounds i true)).Pairwise fun k j => Before P p r ops k j := (hp2.sublist f2).imp_of_mem fun {k j} hk hj h => by
    rcases h with h | ⟨rfl, _⟩
    ·exact h
    exact absurd hk f3
   obtain ⟨π, hg, hπ⟩ := yKa (P := P) (K := K) md hB2 hT fuel t' (listed.setIfInBounds i true) (i :: acc) (by simpa using hs) hr (by omega) hp hc';exact ⟨i :: π, by rw [hgo, hg]; simp, fun s _ hk => yla hπ i s (f4 s hk)⟩
  obtain ⟨f1, f2, f3, f4⟩ := yfa (K := K) (P := P) (p := p) (r := r) hn1 hs ho hi1 hin hd hc (hp1.imp fun {k j} h e => by
   subst e;rcases h with h | ⟨_, h | h⟩
   ·exact h
   ·exact absurd h hiy
   exact absurd h noy)
  by_cases hix : i = x
  ·subst hix;have hp : (yaa σ1 (listed.setIfInBounds i true)).Pairwise fun k j => Before P p r ops k j := (hp1.sublist f2).imp_of_mem fun {k j} hk hj h => by
    rcases h with h | ⟨rfl, _⟩
    ·exact h
    exact absurd hk f3
   obtain ⟨π, hg, hπ⟩ := yKa (P := P) (K := K) md hB1 hT fuel t' (listed.setIfInBounds i true) (i :: acc) (by simpa using hs) hr (by omega) hp hc';exact ⟨i :: π, by rw [hgo, hg]; simp, fun s hk _ => yla hπ i s (f4 s hk)⟩
  obtain ⟨g1, g2, g3, g4⟩ := yfa (K := K) (P := P) (p := p) (r := r) hn2 hs ho hi2 hin hd hc (hp2.imp fun {k j} h e => by
   subst e;rcases h with h | ⟨_, h | h⟩
   ·exact h
   ·exact absurd h hix
   exact absurd h nox)
  have hx2 : x ∈ yaa σ1 (listed.setIfInBounds i true) := by
   refine List.mem_filter.2 ⟨(List.mem_filter.1 hx).1, ?_⟩;have := (List.mem_filter.1 hx).2;simpa [Array.getD_eq_getD_getElem?, Array.getElem?_setIfInBounds_ne hix] using this
  have hy2 : y ∈ yaa σ1 (listed.setIfInBounds i true) := by
   refine List.mem_filter.2 ⟨(List.mem_filter.1 hy).1, ?_⟩;have := (List.mem_filter.1 hy).2;simpa [Array.getD_eq_getD_getElem?, Array.getElem?_setIfInBounds_ne hiy] using this
  have hdo : wCd (p i) (r i) o.op = true := by
   rcases hdet i o ho hli with h | h | h | h | h
   ·exact absurd h hix
   ·exact absurd h hiy
   ·exact h
   ·exact absurd h nox
   exact absurd h noy
  obtain ⟨π, hg, hπ⟩ := ih t' (listed.setIfInBounds i true) (i :: acc) (by simpa using hs) hr (by omega) (by omega) (hp1.sublist f2) (hp2.sublist g2) hx2 hy2 hxy (fun j o ho hj => hdet j o ho (unset hj)) hc';refine ⟨i :: π, by rw [hgo, hg]; simp, fun s hk1 hk2 => ?_⟩;have a1 := f4 s hk1;have a2 := g4 s hk2;rw [z9a ho] at a1 a2 ⊢;exact wob hdo hπ a1 a2
theorem w3b (md : Region.Mode) {p r : Nat -> Bool} {σ1 π ρ2 ρ3 : List Nat} {ops : Array Oper} {K : St -> Prop} {x y z : Nat} (hB1 : zJa σ1 ops = true) (hB2 : zJa (π ++ y :: ρ2) ops = true) (hB3 : zJa (π ++ y :: ρ3) ops = true) {τ : List Nat} (hT : zTa md ops τ = true)
  (hxy : x ≠ y) (hxz : x ≠ z) (hyz : y ≠ z) (hzy : ((ancs ops.toList []).getD z []).contains y = true) (hzo : z < ops.size) (hdet : ∀ (j : Nat) (o : Oper), ops[j]? = some o -> j = x ∨ j = y ∨ j = z ∨ wCd (p j) (r j) o.op = true ∨ ((ancs ops.toList []).getD j []).contains x = true ∨ ((ancs ops.toList []).getD j []).contains z = true)
  (hρ2 : ∀ i ∈ ρ2, i = x ∨ ((ancs ops.toList []).getD i []).contains x = true ∨ ((ancs ops.toList []).getD i []).contains y = true) (hρ3 : ∀ i ∈ ρ3, i = x ∨ ((ancs ops.toList []).getD i []).contains x = true ∨ ((ancs ops.toList []).getD i []).contains y = true)
  (hp0 : (π ++ [y]).Pairwise fun k i => Before P p r ops k i)
  (hp2 : (π ++ y :: ρ2).Pairwise fun k i => Before P p r ops k i ∨ (k = y ∨ (k = x /\ (i = z ∨ ((ancs ops.toList []).getD i []).contains z = true))))
  (hp3 : (π ++ y :: ρ3).Pairwise fun k i => Before P p r ops k i ∨ (k = y ∨ (k = z /\ (i = x ∨ ((ancs ops.toList []).getD i []).contains x = true)))) : ∀ (fuel t : Nat) (listed : Array Bool) (acc : List Nat), listed.size = ops.size -> fuel = (rem ops.size listed).length -> fuel = (yaa σ1 listed).length ->
  ((yaa σ1 listed).Pairwise fun k i => Before P p r ops k i ∨ (k = x /\ (i = y ∨ ((ancs ops.toList []).getD i []).contains y = true))) -> x ∈ yaa σ1 listed -> y ∈ yaa σ1 listed -> (∀ (j : Nat) (o : Oper), ops[j]? = some o -> listed.getD j true = true -> ∀ e ∈ direct o, listed.getD e true = true) ->
  ∃ υ, Region.linearise.go md ops fuel t listed acc = acc.reverse ++ υ /\ ∀ s, zra P p r ops K (yaa σ1 listed) s -> zra P p r ops (fun s => zra P p r ops K ρ2 s /\ zra P p r ops K ρ3 s) (yaa (π ++ [y]) listed) s -> zra P p r ops K υ s := by
 have nd : ∀ σ, zJa σ ops = true -> σ.Nodup := fun σ h => by
  unfold zJa at h;simp only [Bool.and_eq_true, decide_eq_true_eq] at h;exact h.1.2
 have full : ∀ σ, zJa σ ops = true -> ∀ i, i < ops.size -> i ∈ σ := fun σ h i hi => by
  unfold zJa at h;simp only [Bool.and_eq_true, List.all_eq_true, List.mem_range] at h;simpa using h.1.1.1 i hi
 have hn1 := nd _ hB1;have hn2 := nd _ hB2;have hn3 := nd _ hB3;have hn0 : (π ++ [y]).Nodup := hn2.sublist ((List.Sublist.refl π).append (List.cons_sublist_cons.2 (List.nil_sublist _)));intro fuel
 induction fuel with
 | zero =>
  intro t listed acc hs hf0 hf1 hp1 hx hy hc;have : yaa σ1 listed = [] := List.eq_nil_of_length_eq_zero hf1.symm;rw [this] at hx;cases hx
 | succ fuel ih =>
  intro t listed acc hs hf0 hf1 hp1 hx hy hc;obtain ⟨i, o, t', ho, hin, hli, hi1, hd, hgo, hr, hc'⟩ := w0b md hB1 hT fuel t listed acc hs hf0 hc;have closed : ∀ (j : Nat) (q : Oper), ops[j]? = some q -> (∀ e ∈ direct q, listed.getD e true = true) -> ∀ k, ((ancs ops.toList []).getD j []).contains k = true -> listed.getD k true = true := fun j q hq hdq k hk => yBa ops (fun e => listed.getD e true = true) hc ops.toList [] 0 rfl (Nat.zero_le _) (fun q => by simp) (fun j o _ _ k hk => by simp [List.getD_eq_getElem?_getD] at hk) j q hq hdq k (by simpa using hk);have ux : listed.getD x true = false := by simpa using (List.mem_filter.1 hx).2
  have uy : listed.getD y true = false := by simpa using (List.mem_filter.1 hy).2
  have nox : ¬ ((ancs ops.toList []).getD i []).contains x = true := fun h => by have h1 := closed i o ho hd x h; rw [ux] at h1; cases h1
  have noy : ¬ ((ancs ops.toList []).getD i []).contains y = true := fun h => by have h1 := closed i o ho hd y h; rw [uy] at h1; cases h1
  have hang : ∀ j, (((ancs ops.toList []).getD j []).contains x = true ∨ ((ancs ops.toList []).getD j []).contains y = true) -> j < ops.size -> listed.getD j true = false := fun j h hj => by
   cases hq : listed.getD j true with
   | false => rfl
   | true =>
    have hj2 : ops[j]? = some ops[j] := by simp [hj]
    rcases h with h | h
    ·have h1 := closed j _ hj2 (hc j _ hj2 hq) x h; rw [ux] at h1; cases h1
    have h1 := closed j _ hj2 (hc j _ hj2 hq) y h; rw [uy] at h1; cases h1
  have hix0 : ∀ (A : List Nat), (∀ i ∈ A, i = x ∨ ((ancs ops.toList []).getD i []).contains x = true ∨ ((ancs ops.toList []).getD i []).contains y = true) -> (∀ i ∈ A, i < ops.size) -> ∀ k ∈ A, listed.getD k true = false := fun A hA hA2 k hk => by
   rcases hA k hk with rfl | h | h
   ·exact ux
   ·exact hang k (.inl h) (hA2 k hk)
   exact hang k (.inr h) (hA2 k hk)
  have small : ∀ σ, zJa σ ops = true -> ∀ i ∈ σ, i < ops.size := fun σ h i hi => by
   unfold zJa at h;simp only [Bool.and_eq_true, List.all_eq_true, decide_eq_true_eq] at h;exact h.1.1.2 i hi
  have u2 := hix0 ρ2 hρ2 fun i hi => small _ hB2 i (by simp [hi]);have u3 := hix0 ρ3 hρ3 fun i hi => small _ hB3 i (by simp [hi]);have uz : listed.getD z true = false := hang z (.inr hzy) hzo;by_cases hiy : i = y
  ·subst hiy;have hi0 : i ∈ yaa (π ++ [i]) listed := List.mem_filter.2 ⟨by simp, by simp [hli]⟩;obtain ⟨f1, f2, f3, f4⟩ := yfa (K := fun s => zra P p r ops K ρ2 s /\ zra P p r ops K ρ3 s) (P := P) (p := p) (r := r) hn0 hs ho hi0 hin hd hc ((hp0.sublist List.filter_sublist).imp (S := fun k j => j = i -> Before P p r ops k j) fun h _ => h);have keep : ∀ k, k ≠ i -> (listed.setIfInBounds i true).getD k true = listed.getD k true := fun k hk => by
    simp [Array.getD_eq_getD_getElem?, Array.getElem?_setIfInBounds_ne (Ne.symm hk)]
   have gone : (listed.setIfInBounds i true).getD i true = true := by simp [Array.getD_eq_getD_getElem?, hin]
   have rp : ∀ ρ : List Nat, (∀ k ∈ ρ, listed.getD k true = false) -> i ∉ ρ -> yaa (π ++ i :: ρ) (listed.setIfInBounds i true) = yaa (π ++ [i]) (listed.setIfInBounds i true) ++ ρ := fun ρ hu hni => by
    unfold yaa;rw [List.filter_append, List.filter_append, List.filter_cons, List.filter_cons, List.filter_nil, gone];have : ρ.filter (fun k => !(listed.setIfInBounds i true).getD k true) = ρ := List.filter_eq_self.2 fun k hk => by
     rw [keep k (fun e => hni (e ▸ hk)), hu k hk]; rfl
    rw [this];simp only [Bool.not_true, Bool.false_eq_true, if_false, List.append_nil]
   have ni2 : i ∉ ρ2 := (List.nodup_cons.1 (List.nodup_append.1 hn2).2.1).1;have ni3 : i ∉ ρ3 := (List.nodup_cons.1 (List.nodup_append.1 hn3).2.1).1;have r2 := rp ρ2 u2 ni2;have r3 := rp ρ3 u3 ni3;have noi : ∀ ρ, i ∉ yaa (π ++ i :: ρ) (listed.setIfInBounds i true) := fun ρ h => by
    have := (List.mem_filter.1 h).2;rw [gone] at this; cases this
   have len : ∀ σ, zJa σ ops = true -> (yaa σ (listed.setIfInBounds i true)).length = (rem ops.size (listed.setIfInBounds i true)).length := fun σ h => by
    refine List.Perm.length_eq ((List.perm_ext_iff_of_nodup ((nd _ h).sublist List.filter_sublist) (List.nodup_range.sublist List.filter_sublist)).2 fun a => ?_);simp only [yaa, rem, List.mem_filter, List.mem_range];exact ⟨fun q => ⟨small _ h a q.1, q.2⟩, fun q => ⟨full _ h a q.1, q.2⟩⟩
   obtain ⟨υ, hg, hυ⟩ := xPb (P := P) (K := K) (x := x) (y := z) md hB2 hB3 hT fuel t' (listed.setIfInBounds i true) (i :: acc) (by simpa using hs) hr (by rw [len _ hB2]; exact hr) (by rw [len _ hB3]; exact hr)
    ((hp2.sublist List.filter_sublist).imp_of_mem fun {k j} hk hj h => by
     rcases h with h | rfl | h
     ·exact .inl h
     ·exact absurd hk (noi ρ2)
     exact .inr h)
    ((hp3.sublist List.filter_sublist).imp_of_mem fun {k j} hk hj h => by
     rcases h with h | rfl | h
     ·exact .inl h
     ·exact absurd hk (noi ρ3)
     exact .inr h)
    (List.mem_filter.2 ⟨full _ hB2 x (small _ hB1 x (List.mem_filter.1 hx).1), by rw [keep x hxy, ux]; rfl⟩)
    (List.mem_filter.2 ⟨full _ hB2 z hzo, by rw [keep z (Ne.symm hyz), uz]; rfl⟩) hxz
    (fun j q hq hj => by
     rcases hdet j q hq with h | h | h | h | h | h
     ·exact .inl h
     ·subst h; rw [gone] at hj; cases hj
     ·exact .inr (.inl h)
     ·exact .inr (.inr (.inl h))
     ·exact .inr (.inr (.inr (.inl h)))
     exact .inr (.inr (.inr (.inr h)))) hc'
   refine ⟨i :: υ, by rw [hgo, hg]; simp, fun s _ hk => ?_⟩;have hk := f4 s hk;rw [z9a ho] at hk ⊢;refine xPa (fun s' h' => ?_) hk;refine hυ s' ?_ ?_
   ·rw [r2, xcb];exact zsb (fun _ h => h.1) _ _ h'
   rw [r3, xcb];exact zsb (fun _ h => h.2) _ _ h'
  obtain ⟨f1, f2, f3, f4⟩ := yfa (K := K) (P := P) (p := p) (r := r) hn1 hs ho hi1 hin hd hc (hp1.imp fun {k j} h e => by
   subst e;rcases h with h | ⟨_, h | h⟩
   ·exact h
   ·exact absurd h hiy
   exact absurd h noy)
  by_cases hix : i = x
  ·subst hix;have hp : (yaa σ1 (listed.setIfInBounds i true)).Pairwise fun k j => Before P p r ops k j := (hp1.sublist f2).imp_of_mem fun {k j} hk hj h => by
    rcases h with h | ⟨rfl, _⟩
    ·exact h
    exact absurd hk f3
   obtain ⟨υ, hg, hυ⟩ := yKa (P := P) (K := K) md hB1 hT fuel t' (listed.setIfInBounds i true) (i :: acc) (by simpa using hs) hr (by omega) hp hc';exact ⟨i :: υ, by rw [hgo, hg]; simp, fun s hk _ => yla hυ i s (f4 s hk)⟩
  have hi0 : i ∈ yaa (π ++ [y]) listed := by
   refine List.mem_filter.2 ⟨?_, (List.mem_filter.1 hi1).2⟩;have := full _ hB2 i (by omega);rcases List.mem_append.1 this with h | h
   ·simp [h]
   rcases List.mem_cons.1 h with h | h
   ·exact absurd h hiy
   rcases hρ2 i h with h | h | h
   ·exact absurd h hix
   ·exact absurd h nox
   exact absurd h noy
  obtain ⟨g1, g2, g3, g4⟩ := yfa (K := fun s => zra P p r ops K ρ2 s /\ zra P p r ops K ρ3 s) (P := P) (p := p) (r := r) hn0 hs ho hi0 hin hd hc ((hp0.sublist List.filter_sublist).imp (S := fun k j => j = i -> Before P p r ops k j) fun h _ => h);have hx2 : x ∈ yaa σ1 (listed.setIfInBounds i true) := by
   refine List.mem_filter.2 ⟨(List.mem_filter.1 hx).1, ?_⟩;have := (List.mem_filter.1 hx).2;simpa [Array.getD_eq_getD_getElem?, Array.getElem?_setIfInBounds_ne hix] using this
  have hy2 : y ∈ yaa σ1 (listed.setIfInBounds i true) := by
   refine List.mem_filter.2 ⟨(List.mem_filter.1 hy).1, ?_⟩;have := (List.mem_filter.1 hy).2;simpa [Array.getD_eq_getD_getElem?, Array.getElem?_setIfInBounds_ne hiy] using this
  have hiz : i ≠ z := fun e => noy (e ▸ hzy);have noz : ¬ ((ancs ops.toList []).getD i []).contains z = true := fun h => by have h1 := closed i o ho hd z h; rw [uz] at h1; cases h1
  have hdo : wCd (p i) (r i) o.op = true := by
   rcases hdet i o ho with h | h | h | h | h | h
   ·exact absurd h hix
   ·exact absurd h hiy
   ·exact absurd h hiz
   ·exact h
   ·exact absurd h nox
   exact absurd h noz
  obtain ⟨υ, hg, hυ⟩ := ih t' (listed.setIfInBounds i true) (i :: acc) (by simpa using hs) hr (by omega) (hp1.sublist f2) hx2 hy2 hc';refine ⟨i :: υ, by rw [hgo, hg]; simp, fun s hk1 hk2 => ?_⟩;have a1 := f4 s hk1;have a2 := g4 s hk2;rw [z9a ho] at a1 a2 ⊢;exact wob hdo hυ a1 a2
def exc (an : List (List Nat)) (x y k i : Nat) : Bool := k == x && (i == y || (an.getD i []).contains y)
def wpb (p r : Nat -> Bool) (ops : Array Oper) (an : List (List Nat)) (ok : Nat -> Nat -> Bool) : List Nat -> Bool
 | [] => true
 | k :: l => (l.all fun i => (an.getD i []).contains k || (zGc p r ops k i || ok k i)) && wpb p r ops an ok l
theorem xBa {p r : Nat -> Bool} {ops : Array Oper} (hz : HZ P r ops) {ok : Nat -> Nat -> Bool} : ∀ {l : List Nat}, wpb p r ops (ancs ops.toList []) ok l = true -> l.Pairwise fun k i => Before P p r ops k i ∨ ok k i = true
 | [], _ => .nil
 | k :: l, h => by
  simp only [wpb, Bool.and_eq_true, List.all_eq_true, Bool.or_eq_true] at h;refine .cons (fun i hi => ?_) (xBa hz h.2);rcases h.1 i hi with h | h | h
  ·exact .inl (.inl h)
  ·exact .inl (.inr (wna hz h))
  exact .inr h
theorem wDd {ops : Array Oper} {x y k i : Nat} (h : exc (ancs ops.toList []) x y k i = true) : k = x /\ (i = y ∨ ((ancs ops.toList []).getD i []).contains y = true) := by
 unfold exc at h;simpa only [Bool.and_eq_true, Bool.or_eq_true, beq_iff_eq] using h
def yqd (p r : Nat -> Bool) (ops : Array Oper) (an : List (List Nat)) (x y z : Nat) : Bool := (List.range ops.size).all fun j => match ops[j]? with
 | some o => decide (j = x) || (decide (j = y) || (decide (j = z) || (wCd (p j) (r j) o.op || ((an.getD j []).contains x || (an.getD j []).contains z))))
 | none => true
def hangs (an : List (List Nat)) (x y : Nat) (l : List Nat) : Bool := l.all fun i => decide (i = x) || ((an.getD i []).contains x || (an.getD i []).contains y)
def xYd (N : Nat) (p r : Nat -> Bool) (σ1 π ρ2 ρ3 : List Nat) (x y z : Nat) (τ : List Nat) (ops : Array Oper) : Bool :=
 (xmd N ops && (z3e r ops && (zJa σ1 ops && (zJa (π ++ y :: ρ2) ops && (zJa (π ++ y :: ρ3) ops && (wnb p r ops (ancs ops.toList []) x y σ1 && (wpb p r ops (ancs ops.toList []) (fun _ _ => false) (π ++ [y]) && (wpb p r ops (ancs ops.toList []) (fun k i => k == y || exc (ancs ops.toList []) x z k i) (π ++ y :: ρ2) && (wpb p r ops (ancs ops.toList []) (fun k i => k == y || exc (ancs ops.toList []) z x k i) (π ++ y :: ρ3) && (yqd p r ops (ancs ops.toList []) x y z && (hangs (ancs ops.toList []) x y ρ2 && (hangs (ancs ops.toList []) x y ρ3 && (σ1.contains x && (σ1.contains y && (decide (x ≠ y) && (decide (x ≠ z) && (decide (y ≠ z) && (((ancs ops.toList []).getD z []).contains y && decide (z < ops.size))))))))))))))))))) && (zTa .text ops (List.range ops.size) && zTa .gc ops τ && zTa .any ops τ)
theorem xdb {N : Nat} {p r : Nat -> Bool} {σ1 π ρ2 ρ3 τ : List Nat} {x y z : Nat} {ops : Array Oper} {K : St -> Prop} (hB : xYd N p r σ1 π ρ2 ρ3 x y z τ ops = true) (mixed : Bool) (t : Nat) (s : St) (h1 : zra P p r ops K σ1 s) (h2 : zra P p r ops (fun s => zra P p r ops K ρ2 s /\ zra P p r ops K ρ3 s) (π ++ [y]) s) : zra P p r ops K (Region.schedule mixed ops t) s := by
 unfold xYd at hB;rw [Bool.and_eq_true] at hB;obtain ⟨hB, hT⟩ := hB;simp only [Bool.and_eq_true] at hB hT;obtain ⟨_, hz, o1, o2, o3, p1, p0, p2, p3, hdet, a2, a3, cx, cy, hxy, hxz, hyz, hzy, hzo⟩ := hB;have hz := yWc (P := P) hz;have hxy : x ≠ y := by simpa using hxy
 have hxz : x ≠ z := by simpa using hxz
 have hyz : y ≠ z := by simpa using hyz
 have hzo : z < ops.size := by simpa using hzo
 have hrem : rem ops.size (Array.replicate ops.size false) = List.range ops.size := by
  unfold rem;rw [List.filter_eq_self];intro i hi;have := List.mem_range.1 hi;simp [Array.getD_eq_getD_getElem?, this]
 have facts : ∀ σ, zJa σ ops = true -> yaa σ (Array.replicate ops.size false) = σ /\ ops.size = σ.length := by
  intro σ ho;unfold zJa at ho;simp only [Bool.and_eq_true, List.all_eq_true, List.mem_range, decide_eq_true_eq] at ho;obtain ⟨⟨⟨hBr, hσ1⟩, hσ2⟩, _⟩ := ho;refine ⟨?_, ?_⟩
  ·unfold yaa;rw [List.filter_eq_self];intro i hi;have := hσ1 i hi;simp [Array.getD_eq_getD_getElem?, this]
  have hp : σ.Perm (List.range ops.size) := (List.perm_ext_iff_of_nodup hσ2 List.nodup_range).2 fun a => ⟨fun h => List.mem_range.2 (hσ1 a h), fun h => by simpa using hBr a (List.mem_range.1 h)⟩;simpa using hp.length_eq.symm
 have hdet' : ∀ (j : Nat) (o : Oper), ops[j]? = some o -> j = x ∨ j = y ∨ j = z ∨ wCd (p j) (r j) o.op = true ∨ ((ancs ops.toList []).getD j []).contains x = true ∨ ((ancs ops.toList []).getD j []).contains z = true := by
  intro j o ho;unfold yqd at hdet;rw [List.all_eq_true] at hdet;have := hdet j (List.mem_range.2 (Array.getElem?_eq_some_iff.1 ho).1);rw [ho] at this;simpa only [Bool.or_eq_true, decide_eq_true_eq] using this
 have hh : ∀ l, hangs (ancs ops.toList []) x y l = true -> ∀ i ∈ l, i = x ∨ ((ancs ops.toList []).getD i []).contains x = true ∨ ((ancs ops.toList []).getD i []).contains y = true := fun l h i hi => by
  unfold hangs at h;rw [List.all_eq_true] at h;have := h i hi;simpa only [Bool.or_eq_true, decide_eq_true_eq] using this
 obtain ⟨r1, l1⟩ := facts σ1 o1;have r0 : yaa (π ++ [y]) (Array.replicate ops.size false) = π ++ [y] := by
  unfold yaa;rw [List.filter_eq_self];intro i hi;have : i < ops.size := by
   have h := o2;unfold zJa at h;simp only [Bool.and_eq_true, List.all_eq_true, decide_eq_true_eq] at h;refine h.1.1.2 i ?_;rcases List.mem_append.1 hi with h | h
   ·simp [h]
   simp only [List.mem_singleton] at h; simp [h]
  simp [Array.getD_eq_getD_getElem?, this]
 have key : ∀ md t (τ : List Nat), zTa md ops τ = true -> zra P p r ops K (Region.linearise md ops t) s := by
  intro md t τ hT;obtain ⟨υ, hgo, hυ⟩ := w3b (P := P) (p := p) (r := r) (x := x) (y := y) (z := z) md (K := K) o1 o2 o3 hT hxy hxz hyz hzy hzo hdet' (hh _ a2) (hh _ a3) ((xBa hz p0).imp fun h => by
    rcases h with h | h
    ·exact h
    ·cases h) ((xBa hz p2).imp fun {k i} h => by
    rcases h with h | h
    ·exact .inl h
    ·simp only [Bool.or_eq_true, beq_iff_eq] at h;rcases h with h | h
     ·exact .inr (.inl h)
     exact .inr (.inr (wDd h))) ((xBa hz p3).imp fun {k i} h => by
    rcases h with h | h
    ·exact .inl h
    simp only [Bool.or_eq_true, beq_iff_eq] at h;rcases h with h | h
    ·exact .inr (.inl h)
    exact .inr (.inr (wDd h))) ops.size t (Array.replicate ops.size false) [] (by simp) (by rw [hrem]; simp) (by rw [r1]; exact l1) (by rw [r1]; exact xAa hz p1) (by rw [r1]; simpa using cx) (by rw [r1]; simpa using cy) (fun j o ho hj => by
   have hlt := (Array.getElem?_eq_some_iff.1 ho).1;simp [Array.getD_eq_getD_getElem?, hlt] at hj)
  unfold Region.linearise;rw [hgo, List.reverse_nil, List.nil_append];exact hυ s (by rw [r1]; exact h1) (by rw [r0]; exact h2)
 unfold Region.schedule;split
 ·exact key _ _ τ hT.2
 split
 ·exact key _ _ _ hT.1.1
 exact key _ _ τ hT.1.2
theorem AWp.regionX3 {N : Nat} {id : Nat} {ops : Array Oper} {Q : Exit -> St -> Prop} {s : St} (p r : Nat -> Bool) (σ1 π ρ2 ρ3 : List Nat) (x y z : Nat) (τ : List Nat) (hB : xYd N p r σ1 π ρ2 ρ3 x y z τ ops = true) (h1 : zra P p r ops (Q .normal) σ1 s) (h2 : zra P p r ops (fun s => zra P p r ops (Q .normal) ρ2 s /\ zra P p r ops (Q .normal) ρ3 s) (π ++ [y]) s) : AWp P N (.region id ops true) Q s := by
 intro C a w hr hN;have hB' := hB;unfold xYd at hB;simp only [Bool.and_eq_true] at hB;have hd := hB.1.1;have hb : ∀ (j : Nat) (d : Tmp), (ops[j]?).bind (·.dst) = some d -> d < N := by
  intro j d hj;unfold xmd at hd;rw [Array.all_eq_true'] at hd;cases hq : ops[j]? with
  | none => rw [hq] at hj; cases hj
  | some o =>
   rw [hq] at hj;have := hd o (Array.mem_of_getElem? hq);simp at hj;rw [hj] at this;simpa using this
 have hQ : xKa C (Q .normal) N (Lift C N Q .normal) := fun s a w h1 h2 h3 => ⟨s, h1, h2, h3⟩;refine wp_region_draw fun t => ?_;refine yCa hb hQ _ s a _ ?_ hN (xdb hB' _ t s h1 h2);obtain ⟨S, h1, h2, h3⟩ := hr.ex;exact ⟨⟨S, h1, yTa h2 _, fun t => Rep.mono (w := w) (w' := { w with drawn := w.drawn + 1 }) (fun _ _ => rfl) (fun _ h => h) (h3 t)⟩, hr.defers, hr.keep.drew _, hr.dom⟩
end Go.T
