/- Parts of the proof of FnParsed: Expressions as text, in plain Lean, and the text's tokens. -/
import Derived.Test.YtdbnllfjmkmdiaaGreatDoorG6
import Derived.Test.YtdbnllfjmkmdiaaGreatDoorG5
set_option linter.unusedSimpArgs false
set_option linter.unusedVariables false
namespace Go.T
open Go
def tkM (c : UInt8) : Tk := ⟨4, ch c, 0⟩
def tkK (s : ByteArray) : Tk := ⟨3, s, 0⟩
def tkN (s : ByteArray) : Tk := ⟨1, s, 0⟩
def tkI (n : Int) : Tk := ⟨2, ⟨#[]⟩, n⟩
def lev (k : Int) : Nat := if k = 4 then 1 else if k = 5 then 1 else if k = 6 then 2 else 3
def yib (b : Bool) (l : List UInt8) : List UInt8 := if b then 40 :: (l ++ [41]) else l
def w5a (b : Bool) (l : List Tk) : List Tk := if b then tkM 40 :: (l ++ [tkM 41]) else l
def prK (k n : Int) (s : ByteArray) : List (List UInt8 × Nat) -> List UInt8
 | [] => if k = 1 then Lib.itoa n else s.data.toList
 | [a] => s.data.toList ++ 91 :: (a.1 ++ [93])
 | a :: b :: _ => if k = 4 then a.1 ++ 32 :: 43 :: 32 :: yib (decide (b.2 < 2)) b.1
  else if k = 5 then a.1 ++ 32 :: 45 :: 32 :: yib (decide (b.2 < 2)) b.1
  else if k = 6 then yib (decide (a.2 < 2)) a.1 ++ 32 :: 42 :: 32 :: yib (decide (b.2 < 3)) b.1
  else if k = 7 then 109 :: 105 :: 110 :: 40 :: (a.1 ++ 44 :: 32 :: (b.1 ++ [41]))
  else 109 :: 97 :: 120 :: 40 :: (a.1 ++ 44 :: 32 :: (b.1 ++ [41]))
def tkL (k n : Int) (s : ByteArray) : List (List Tk × Nat) -> List Tk
 | [] => if k = 1 then [tkI n] else [tkN s]
 | [a] => tkN s :: tkM 91 :: (a.1 ++ [tkM 93])
 | a :: b :: _ => if k = 4 then a.1 ++ tkM 43 :: w5a (decide (b.2 < 2)) b.1
  else if k = 5 then a.1 ++ tkM 45 :: w5a (decide (b.2 < 2)) b.1
  else if k = 6 then w5a (decide (a.2 < 2)) a.1 ++ tkM 42 :: w5a (decide (b.2 < 3)) b.1
  else if k = 7 then tkK wjb :: tkM 40 :: (a.1 ++ tkM 44 :: (b.1 ++ [tkM 41]))
  else tkK xGb :: tkM 40 :: (a.1 ++ tkM 44 :: (b.1 ++ [tkM 41]))
def Ex.kind : Ex -> Int
 | .mk k _ _ _ => k
mutual
def Ex.pr : Ex -> List UInt8
 | .mk k n s l => prK k n s (Ex.prs l)
def Ex.prs : List Ex -> List (List UInt8 × Nat)
 | [] => []
 | e :: l => (e.pr, lev e.kind) :: Ex.prs l
end
mutual
def Ex.tk : Ex -> List Tk
 | .mk k n s l => tkL k n s (Ex.tks l)
def Ex.tks : List Ex -> List (List Tk × Nat)
 | [] => []
 | e :: l => (e.tk, lev e.kind) :: Ex.tks l
end
inductive Shape (d : Nat) : Ex -> Prop
 | num (n : Int) : 0 <= n -> n <= 999999 -> Shape d (.mk 1 n ⟨#[]⟩ [])
 | var (s : ByteArray) : zxa s = true -> Shape d (.mk 2 0 s [])
 | at_ (s : ByteArray) (a : Ex) : zxa s = true -> a.good (d + 1) = true -> Shape d (.mk 3 0 s [a])
 | two (k : Int) (a b : Ex) : 4 <= k -> k <= 8 -> a.good (d + 1) = true -> b.good (d + 1) = true -> Shape d (.mk k 0 ⟨#[]⟩ [a, b])
theorem shape {e : Ex} {d : Nat} (h : e.good d = true) : d <= 8 /\ Shape d e := by
 obtain ⟨k, n, s, l⟩ := e;unfold Ex.good at h;simp only [Bool.and_eq_true, decide_eq_true_eq] at h;obtain ⟨⟨hd, hp⟩, hg⟩ := h;refine ⟨hd, ?_⟩;unfold zSa noS inR at hp;by_cases k1 : k = 1
 ·rw [if_pos k1] at hp;simp only [Bool.and_eq_true, decide_eq_true_eq] at hp;obtain ⟨⟨hn, rfl⟩, hl⟩ := hp;have : l = [] := List.eq_nil_of_length_eq_zero (by omega);subst this k1;exact .num n hn.1 hn.2
 rw [if_neg k1] at hp;by_cases k2 : k = 2
 ·rw [if_pos k2] at hp;simp only [Bool.and_eq_true, decide_eq_true_eq] at hp;obtain ⟨⟨hn, rfl⟩, hl⟩ := hp;have : l = [] := List.eq_nil_of_length_eq_zero (by omega);subst this k2;exact .var s hn
 rw [if_neg k2] at hp;by_cases k3 : k = 3
 ·rw [if_pos k3] at hp;simp only [Bool.and_eq_true, decide_eq_true_eq] at hp;obtain ⟨⟨hn, rfl⟩, hl⟩ := hp;subst k3
  match l, hl with
  | [a], _ =>
   simp only [Ex.goods, Bool.and_true] at hg;exact .at_ s a hn hg
  | [], hl => simp at hl
  | _ :: _ :: _, hl => simp at hl; omega
 rw [if_neg k3] at hp;simp only [Bool.and_eq_true, decide_eq_true_eq] at hp;obtain ⟨⟨⟨hk, rfl⟩, rfl⟩, hl⟩ := hp
 match l, hl with
 | [a, b], _ =>
  simp only [Ex.goods, Bool.and_true, Bool.and_eq_true] at hg;exact .two k a b hk.1 hk.2 hg.1 hg.2
 | [], hl => simp at hl
 | [_], hl => simp at hl
 | _ :: _ :: _ :: _, hl => simp at hl; omega
def Lx (l : List UInt8) (ts : List Tk) : Prop := ∀ k n, n <= 600 -> l.length <= k -> ytb k n l = if n + ts.length <= 600 then some ts else none
def Stop (r : List UInt8) : Prop := ∀ c, r.head? = some c -> small c = false /\ figure c = false
theorem Lx.nil : Lx [] [] := fun k n hn hk => by
 have : ytb k n [] = some [] := by cases k <;> rfl
 rw [this, if_pos (by simpa using hn)]
theorem Lx.blank {c : UInt8} {l : List UInt8} {ts : List Tk} (hc : T.blank c = true) (h : Lx l ts) : Lx (c :: l) ts := fun k n hn hk => by
 cases k with
 | zero => simp at hk
 | succ k =>
  simp only [ytb, hc, if_true];exact h k n hn (by simpa using hk)
theorem Lx.tok {c : UInt8} {l r : List UInt8} {t : Tk} {ts : List Tk} (hc : T.blank c = false) (ht : zhb (c :: l) = some (t, r)) (hr : r.length <= l.length) (h : Lx r ts) : Lx (c :: l) (t :: ts) := fun k n hn hk => by
 cases k with
 | zero => simp at hk
 | succ k =>
  simp only [ytb, hc, ht, Bool.false_eq_true, if_false];by_cases h6 : 600 <= n
  ·rw [if_pos h6, if_neg (by simp; omega)]
  rw [if_neg h6, h k (n + 1) (by omega) (by simp at hk; omega)];by_cases hq : n + 1 + ts.length <= 600
  ·rw [if_pos hq, if_pos (by simp; omega)]; rfl
  rw [if_neg hq, if_neg (by simp; omega)]; rfl
theorem zVb {p : UInt8 -> Bool} : ∀ (w r : List UInt8), w.all p = true -> (∀ c, r.head? = some c -> p c = false) -> (w ++ r).takeWhile p = w /\ (w ++ r).dropWhile p = r
 | [], r, _, hr => by
  cases r with
  | nil => exact ⟨rfl, rfl⟩
  | cons c r => simp [List.takeWhile_cons, List.dropWhile_cons, hr c rfl]
 | x :: w, r, hw, hr => by
  simp only [List.all_cons, Bool.and_eq_true] at hw;obtain ⟨h1, h2⟩ := zVb w r hw.2 hr;simp [List.takeWhile_cons, List.dropWhile_cons, hw.1, h1, h2]
theorem y5c {c : UInt8} (h : small c = true) : T.blank c = false /\ figure c = false := by
 unfold small inR at h;simp at h;refine ⟨?_, ?_⟩
 ·unfold T.blank;simp only [Bool.or_eq_false_iff, decide_eq_false_iff_not];refine ⟨?_, ?_⟩ <;> (rintro rfl; simp at h)
 unfold figure inR;simp;omega
theorem z9b {c : UInt8} (h : figure c = true) : T.blank c = false /\ small c = false := by
 have h := xRa h;refine ⟨?_, ?_⟩
 ·unfold T.blank;simp only [Bool.or_eq_false_iff, decide_eq_false_iff_not];refine ⟨?_, ?_⟩ <;> (rintro rfl; simp at h)
 unfold small inR;simp;omega
theorem Lx.word {w r : List UInt8} {ts : List Tk} {t : Tk} (h0 : w ≠ []) (hw : w.all small = true) (ht : (if kept ⟨w.toArray⟩ then some (⟨3, ⟨w.toArray⟩, 0⟩, r) else if zxa ⟨w.toArray⟩ then some (⟨1, ⟨w.toArray⟩, 0⟩, r) else none) = some (t, r)) (hr : Stop r) (h : Lx r ts) : Lx (w ++ r) (t :: ts) := by
 obtain ⟨h1, h2⟩ := zVb w r hw fun c hc => (hr c hc).1;cases w with
 | nil => exact absurd rfl h0
 | cons c w =>
  have hc : small c = true := by simp only [List.all_cons, Bool.and_eq_true] at hw; exact hw.1
  rw [List.cons_append] at h1 h2 ⊢;refine Lx.tok (y5c hc).1 ?_ (by simp) h;simp only [zhb];rw [if_pos hc, h1, h2];exact ht
theorem Lx.name {s : ByteArray} {r : List UInt8} {ts : List Tk} (hs : zxa s = true) (hr : Stop r) (h : Lx r ts) : Lx (s.data.toList ++ r) (tkN s :: ts) := by
 have hs' := hs;unfold zxa inR at hs';simp only [Bool.and_eq_true, decide_eq_true_eq, Bool.not_eq_true'] at hs';refine Lx.word ?_ hs'.1 ?_ hr h
 ·intro e;have := hs'.2.1.1;have h9 := z2a s;rw [e, List.length_nil] at h9;omega
 rw [y9a, hs'.2.2, hs];rfl
theorem Lx.kept {s : ByteArray} {r : List UInt8} {ts : List Tk} (hk : T.kept s = true) (h0 : s.data.toList ≠ []) (hs : s.data.toList.all small = true) (hr : Stop r) (h : Lx r ts) : Lx (s.data.toList ++ r) (tkK s :: ts) := by
 refine Lx.word h0 hs ?_ hr h;rw [y9a, hk];rfl
theorem Lx.mark {c : UInt8} {r : List UInt8} {ts : List Tk} (hc : (T.blank c || small c || figure c) = false) (hm : yqa.contains c = true) (h : Lx r ts) : Lx (c :: r) (tkM c :: ts) := by
 simp only [Bool.or_eq_false_iff] at hc;refine Lx.tok hc.1.1 ?_ (Nat.le_refl _) h;simp only [zhb];rw [hc.1.2, hc.2, hm];rfl
theorem zre : ∀ u : Nat, (Lib.decDigits u).all figure = true /\ Lib.decDigits u ≠ [] /\ yVa (Lib.decDigits u) = u := by
 intro u
 induction u using Nat.strongRecOn with
 | _ u ih =>
  rw [Lib.decDigits];have hf : ∀ i : Nat, i < 10 -> figure (UInt8.ofNat (48 + i)) = true /\ (UInt8.ofNat (48 + i)).toNat = 48 + i := fun i hi => by
   have : (UInt8.ofNat (48 + i)).toNat = 48 + i := by simp; omega
   refine ⟨?_, this⟩;unfold figure inR;rw [this];simp;omega
  split
  ·rename_i h
   have := hf u h;refine ⟨by simpa using this.1, by simp, ?_⟩;simp only [yVa, List.foldl_cons, List.foldl_nil, this.2];omega
  rename_i h
  obtain ⟨h1, h2, h3⟩ := ih (u / 10) (by omega);have := hf (u % 10) (by omega);refine ⟨?_, by simp, ?_⟩
  ·rw [List.all_append, h1]; simpa using this.1
  rw [zib, h3, this.2]; omega
theorem y6c : ∀ (k u : Nat), u < 10 ^ (k + 1) -> Lib.nDigits u <= k + 1
 | 0, u, h => by rw [Lib.nDigits_small (by simpa using h)]; omega
 | k + 1, u, h => by
  by_cases hu : u < 10
  ·rw [Lib.nDigits_small hu]; omega
  rw [Lib.nDigits_big hu];have := y6c k (u / 10) (by rw [Nat.pow_succ] at h; omega);omega
theorem Lx.num {n : Int} {r : List UInt8} {ts : List Tk} (h0 : 0 <= n) (h1 : n <= 999999) (hr : Stop r) (h : Lx r ts) : Lx (Lib.itoa n ++ r) (tkI n :: ts) := by
 obtain ⟨u, rfl⟩ := Int.eq_ofNat_of_zero_le h0;have e : Lib.itoa (u : Int) = Lib.decDigits u := by unfold Lib.itoa; rw [if_neg (by omega)]; simp
 rw [e];obtain ⟨f1, f2, f3⟩ := zre u;obtain ⟨t1, t2⟩ := zVb _ r f1 fun c hc => (hr c hc).2;have hlen : (Lib.decDigits u).length <= 10 := by
  rw [Lib.decDigits_length];exact y6c 9 u (by omega)
 have hn : woa (Lib.decDigits u) = some (u : Int) := by
  unfold woa;rw [if_pos ⟨hlen, f2, f1, (z8d f2 f1).1 (by rw [f3]), by rw [f3]; omega⟩, f3]
 generalize Lib.decDigits u = w at *;cases w with
 | nil => exact absurd rfl f2
 | cons c w =>
  have hc : figure c = true := by simp only [List.all_cons, Bool.and_eq_true] at f1; exact f1.1
  rw [List.cons_append] at t1 t2 ⊢;refine Lx.tok (z9b hc).1 ?_ (by simp) h;simp only [zhb];rw [if_neg (by rw [(z9b hc).2]; decide), if_pos hc, t1, t2, hn];simp only;rw [if_pos (by omega)];rfl
theorem z0a {c : UInt8} {r : List UInt8} (h : (small c || figure c) = false) : Stop (c :: r) := fun x hx => by
 simp only [List.head?_cons, Option.some.injEq] at hx;subst hx;simpa using h
theorem Lx.brk {b : Bool} {l r : List UInt8} {t ts : List Tk} (h : ∀ r ts, Stop r -> Lx r ts -> Lx (l ++ r) (t ++ ts)) (hr : Stop r) (hl : Lx r ts) : Lx (yib b l ++ r) (w5a b t ++ ts) := by
 cases b with
 | false => exact h r ts hr hl
 | true =>
  show Lx (40 :: (l ++ [41]) ++ r) (tkM 40 :: (t ++ [tkM 41]) ++ ts);have e1 : (40 :: (l ++ [41]) ++ r : List UInt8) = 40 :: (l ++ 41 :: r) := by simp
  have e2 : tkM 40 :: (t ++ [tkM 41]) ++ ts = tkM 40 :: (t ++ tkM 41 :: ts) := by simp
  rw [e1, e2];exact Lx.mark (by decide) (by decide) (h _ _ (z0a (by decide)) (Lx.mark (by decide) (by decide) hl))
theorem x5e : ∀ (N : Nat) (e : Ex) (d : Nat), e.nodes <= N -> e.good d = true -> ∀ r ts, Stop r -> Lx r ts -> Lx (e.pr ++ r) (e.tk ++ ts) := by
 intro N
 induction N with
 | zero =>
  intro e d hN;obtain ⟨k, n, s, l⟩ := e;rw [Ex.nodes] at hN;omega
 | succ N ih =>
  intro e d hN hg r ts hr hl;obtain ⟨_, hs⟩ := shape hg;cases hs with
  | num n h0 h1 => exact Lx.num h0 h1 hr hl
  | var s hn => exact Lx.name hn hr hl
  | at_ s a hn ha =>
   have hna : a.nodes <= N := by simp only [Ex.nodes, Ex.nodess] at hN; omega
   have e1 : (Ex.mk 3 0 s [a]).pr ++ r = s.data.toList ++ 91 :: (a.pr ++ 93 :: r) := by simp [Ex.pr, Ex.prs, prK]
   have e2 : (Ex.mk 3 0 s [a]).tk ++ ts = tkN s :: tkM 91 :: (a.tk ++ tkM 93 :: ts) := by simp [Ex.tk, Ex.tks, tkL]
   rw [e1, e2];exact Lx.name hn (z0a (by decide)) (Lx.mark (by decide) (by decide) (ih a _ hna ha _ _ (z0a (by decide)) (Lx.mark (by decide) (by decide) hl)))
  | two k a b k0 k1 ha hb =>
   have hna : a.nodes <= N := by simp only [Ex.nodes, Ex.nodess] at hN; omega
   have hnb : b.nodes <= N := by simp only [Ex.nodes, Ex.nodess] at hN; omega
   have la := ih a _ hna ha;have lb := ih b _ hnb hb;have op : ∀ (c : UInt8) (x y r : List UInt8) (t u ts : List Tk), (T.blank c || small c || figure c) = false -> yqa.contains c = true -> (∀ r ts, Stop r -> Lx r ts -> Lx (x ++ r) (t ++ ts)) -> (∀ r ts, Stop r -> Lx r ts -> Lx (y ++ r) (u ++ ts)) -> Stop r -> Lx r ts -> Lx (x ++ 32 :: c :: 32 :: y ++ r) (t ++ tkM c :: u ++ ts) := fun c x y r t u ts h1 h2 hx hy hr hl => by
    have e1 : x ++ 32 :: c :: 32 :: y ++ r = x ++ 32 :: c :: 32 :: (y ++ r) := by simp
    have e2 : t ++ tkM c :: u ++ ts = t ++ tkM c :: (u ++ ts) := by simp
    rw [e1, e2];exact hx _ _ (z0a (by decide)) (Lx.blank (by decide) (Lx.mark h1 h2 (Lx.blank (by decide) (hy _ _ hr hl))))
   have fn : ∀ (s : ByteArray) (r : List UInt8) (ts : List Tk), T.kept s = true -> s.data.toList ≠ [] -> s.data.toList.all small = true -> Stop r -> Lx r ts -> Lx (s.data.toList ++ 40 :: (a.pr ++ 44 :: 32 :: (b.pr ++ [41])) ++ r) (tkK s :: tkM 40 :: (a.tk ++ tkM 44 :: (b.tk ++ [tkM 41])) ++ ts) := fun s r ts h1 h2 h3 hr hl => by
    have e1 : s.data.toList ++ 40 :: (a.pr ++ 44 :: 32 :: (b.pr ++ [41])) ++ r = s.data.toList ++ 40 :: (a.pr ++ 44 :: 32 :: (b.pr ++ 41 :: r)) := by simp
    have e2 : tkK s :: tkM 40 :: (a.tk ++ tkM 44 :: (b.tk ++ [tkM 41])) ++ ts = tkK s :: tkM 40 :: (a.tk ++ tkM 44 :: (b.tk ++ tkM 41 :: ts)) := by simp
    rw [e1, e2];exact Lx.kept h1 h2 h3 (z0a (by decide)) (Lx.mark (by decide) (by decide) (la _ _ (z0a (by decide)) (Lx.mark (by decide) (by decide) (Lx.blank (by decide) (lb _ _ (z0a (by decide)) (Lx.mark (by decide) (by decide) hl))))))
   simp only [Ex.pr, Ex.prs, prK, Ex.tk, Ex.tks, tkL];by_cases k4 : k = 4
   ·rw [if_pos k4, if_pos k4];exact op 43 _ _ r _ _ ts (by decide) (by decide) la (fun r ts => Lx.brk lb) hr hl
   rw [if_neg k4, if_neg k4];by_cases k5 : k = 5
   ·rw [if_pos k5, if_pos k5];exact op 45 _ _ r _ _ ts (by decide) (by decide) la (fun r ts => Lx.brk lb) hr hl
   rw [if_neg k5, if_neg k5];by_cases k6 : k = 6
   ·rw [if_pos k6, if_pos k6];exact op 42 _ _ r _ _ ts (by decide) (by decide) (fun r ts => Lx.brk la) (fun r ts => Lx.brk lb) hr hl
   rw [if_neg k6, if_neg k6];by_cases k7 : k = 7
   ·rw [if_pos k7, if_pos k7];exact fn wjb r ts (by decide) (by decide) (by decide) hr hl
   rw [if_neg k7, if_neg k7];exact fn xGb r ts (by decide) (by decide) (by decide) hr hl
mutual
def Ex.ht : Ex -> Nat
 | .mk _ _ _ l => 1 + Ex.hts l
def Ex.hts : List Ex -> Nat
 | [] => 0
 | e :: l => max e.ht (Ex.hts l)
end
theorem zse : ∀ (N : Nat) (e : Ex) (d : Nat), e.nodes <= N -> e.good d = true -> e.ht + d <= 9 := by
 intro N
 induction N with
 | zero =>
  intro e d hN;obtain ⟨k, n, s, l⟩ := e;rw [Ex.nodes] at hN;omega
 | succ N ih =>
  intro e d hN hg;obtain ⟨hd, hs⟩ := shape hg;cases hs with
  | num n h0 h1 => simp only [Ex.ht, Ex.hts]; omega
  | var s hn => simp only [Ex.ht, Ex.hts]; omega
  | at_ s a hn ha =>
   have := ih a _ (by simp only [Ex.nodes, Ex.nodess] at hN; omega) ha;simp only [Ex.ht, Ex.hts];omega
  | two k a b k0 k1 ha hb =>
   have := ih a _ (by simp only [Ex.nodes, Ex.nodess] at hN; omega) ha;have := ih b _ (by simp only [Ex.nodes, Ex.nodess] at hN; omega) hb;simp only [Ex.ht, Ex.hts];omega
def NoT (cs : List UInt8) (r : List Tk) : Prop := ∀ c ∈ cs, tkS 4 (ch c) r = none
theorem NoT.sub {cs cs' : List UInt8} {r : List Tk} (h : NoT cs r) (hs : ∀ c ∈ cs', c ∈ cs) : NoT cs' r := fun c hc => h c (hs c hc)
theorem yJe {c c' : UInt8} (h : c ≠ c') : ch c ≠ ch c' := fun e => h (by
 have := congrArg (fun s : ByteArray => s.data.toList) e;simpa [ch] using this)
theorem NoT.mark {cs : List UInt8} {c : UInt8} (r : List Tk) (h : c ∉ cs) : NoT cs (tkM c :: r) := fun x hx => by
 have : c ≠ x := fun e => h (e ▸ hx);simp [tkS, Tk.is, tkM, yJe this]
theorem yya (c : UInt8) (r : List Tk) : tkS 4 (ch c) (tkM c :: r) = some r := by simp [tkS, Tk.is, tkM]
theorem xZd (b : Bool) (t r : List Tk) : w5a b t ++ r = if b then tkM 40 :: (t ++ tkM 41 :: r) else t ++ r := by
 cases b <;> simp [w5a]
section
variable {d : Nat} {sub : PE} (hsub : ∀ (e : Ex) (g : Nat), e.good g = true -> e.ht <= d -> ∀ r, NoT [91, 42, 43, 45] r -> sub (e.tk ++ r) = some (e, r))
include hsub
theorem z9c {e : Ex} {g : Nat} (hg : e.good g = true) (h3 : e.ht <= d + 1) (h2 : lev e.kind < 3 -> e.ht <= d) {r : List Tk} (hr : NoT [91] r) : yda sub (w5a (decide (lev e.kind < 3)) e.tk ++ r) = some (e, r) := by
 rw [xZd];by_cases hl : lev e.kind < 3
 ·rw [decide_eq_true hl, if_pos rfl];have := hsub e g hg (h2 hl) (tkM 41 :: r) (NoT.mark _ (by decide));have i1 : (tkM 40).is 4 (ch 40) = true := by simp [Tk.is, tkM]
  have k1 : (tkM 40).k = 4 := rfl;simp only [yda, k1, i1, this, Option.bind_some, yya];simp
 rw [decide_eq_false hl];simp only [Bool.false_eq_true, if_false];obtain ⟨_, hs⟩ := shape hg;cases hs with
 | num n h0 h1 => simp [Ex.tk, Ex.tks, tkL, tkI, yda]
 | var s hn => simp [Ex.tk, Ex.tks, tkL, tkN, yda, hr 91 (by simp)]
 | at_ s a hn ha =>
  have hh : a.ht <= d := by simp only [Ex.ht, Ex.hts] at h3; omega
  have := hsub a _ ha hh (tkM 93 :: r) (NoT.mark _ (by decide));have e2 : (Ex.mk 3 0 s [a]).tk ++ r = tkN s :: tkM 91 :: (a.tk ++ tkM 93 :: r) := by simp [Ex.tk, Ex.tks, tkL]
  rw [e2];have k1 : (tkN s).k = 1 := rfl;simp only [yda, k1, yya, this, Option.bind_some];simp [tkN]
 | two k a b k0 k1 ha hb =>
  have hha : a.ht <= d := by simp only [Ex.ht, Ex.hts] at h3; omega
  have hhb : b.ht <= d := by simp only [Ex.ht, Ex.hts] at h3; omega
  have fn : ∀ (s : ByteArray) (q : Int), y1b sub q (tkM 40 :: (a.tk ++ tkM 44 :: (b.tk ++ tkM 41 :: r))) = some (T.two q a b, r) := fun s q => by
   have p1 := hsub a _ ha hha (tkM 44 :: (b.tk ++ tkM 41 :: r)) (NoT.mark _ (by decide));have p2 := hsub b _ hb hhb (tkM 41 :: r) (NoT.mark _ (by decide));simp only [y1b, yya, Option.bind_some, p1, p2]
  have hk : k = 7 ∨ k = 8 := by
   have : lev k = 3 := by
    have : lev k <= 3 := by unfold lev; split <;> (try omega); split <;> (try omega); split <;> omega
    simp only [Ex.kind] at hl;omega
   unfold lev at this;split at this
   ·omega
   split at this
   ·omega
   split at this
   ·omega
   omega
  rcases hk with rfl | rfl
  ·have e2 : (Ex.mk 7 0 ⟨#[]⟩ [a, b]).tk ++ r = tkK wjb :: tkM 40 :: (a.tk ++ tkM 44 :: (b.tk ++ tkM 41 :: r)) := by simp [Ex.tk, Ex.tks, tkL]
   rw [e2];have i0 : (tkK wjb).k = 3 := rfl;have i1 : (tkK wjb).is 4 (ch 40) = false := by simp [Tk.is, tkK]
   have i2 : (tkK wjb).is 3 wjb = true := by simp [Tk.is, tkK]
   simp only [yda, i0, i1, i2, fn wjb];simp [T.two]
  have e2 : (Ex.mk 8 0 ⟨#[]⟩ [a, b]).tk ++ r = tkK xGb :: tkM 40 :: (a.tk ++ tkM 44 :: (b.tk ++ tkM 41 :: r)) := by simp [Ex.tk, Ex.tks, tkL]
  rw [e2];have i0 : (tkK xGb).k = 3 := rfl;have i1 : (tkK xGb).is 4 (ch 40) = false := by simp [Tk.is, tkK]
  have i2 : (tkK xGb).is 3 wjb = false := by simp only [Tk.is, tkK]; decide
  have i3 : (tkK xGb).is 3 xGb = true := by simp [Tk.is, tkK]
  simp only [yda, i0, i1, i2, i3, fn xGb];simp [T.two]
theorem yrd : ∀ (N : Nat) (e : Ex) (g : Nat), e.nodes <= N -> e.good g = true -> e.ht <= d + 1 -> (lev e.kind < 2 -> e.ht <= d) -> ∃ x tl m, m <= tl.length /\ ∀ r, NoT [91] r -> yda sub (w5a (decide (lev e.kind < 2)) e.tk ++ r) = some (x, tl ++ r) /\ ∀ n, zPb sub (n + m) x (tl ++ r) = zPb sub n e r := by
 intro N
 induction N with
 | zero =>
  intro e g hN;obtain ⟨k, n, s, l⟩ := e;rw [Ex.nodes] at hN;omega
 | succ N ih =>
  intro e g hN hg h3 h2;by_cases h6 : e.kind = 6
  ·obtain ⟨_, hs⟩ := shape hg;cases hs with
   | num n h0 h1 => simp [Ex.kind] at h6
   | var s hn => simp [Ex.kind] at h6
   | at_ s a hn ha => simp [Ex.kind] at h6
   | two k a b k0 k1 ha hb =>
    simp only [Ex.kind] at h6;subst h6;have hha : a.ht <= d := by simp only [Ex.ht, Ex.hts] at h3; omega
    have hhb : b.ht <= d := by simp only [Ex.ht, Ex.hts] at h3; omega
    obtain ⟨x, tl, m, hm, hx⟩ := ih a _ (by simp only [Ex.nodes, Ex.nodess] at hN; omega) ha (by omega) (fun _ => hha);refine ⟨x, tl ++ tkM 42 :: w5a (decide (lev b.kind < 3)) b.tk, m + 1, by simp; omega, fun r hr => ?_⟩;obtain ⟨p1, p2⟩ := hx (tkM 42 :: (w5a (decide (lev b.kind < 3)) b.tk ++ r)) (NoT.mark _ (by decide));have l6 : lev 6 = 2 := rfl;have e2 : w5a (decide (lev (Ex.mk 6 0 ⟨#[]⟩ [a, b]).kind < 2)) (Ex.mk 6 0 ⟨#[]⟩ [a, b]).tk ++ r = w5a (decide (lev a.kind < 2)) a.tk ++ tkM 42 :: (w5a (decide (lev b.kind < 3)) b.tk ++ r) := by
     show (Ex.mk 6 0 ⟨#[]⟩ [a, b]).tk ++ r = _;simp [Ex.tk, Ex.tks, tkL]
    have e3 : tl ++ tkM 42 :: w5a (decide (lev b.kind < 3)) b.tk ++ r = tl ++ tkM 42 :: (w5a (decide (lev b.kind < 3)) b.tk ++ r) := by simp
    rw [e2, e3];refine ⟨p1, fun n => ?_⟩;rw [show n + (m + 1) = (n + 1) + m by omega, p2];simp only [zPb, yya];rw [z9c hsub hb (by omega) (fun _ => hhb) hr];rfl
  have hlev : decide (lev e.kind < 2) = decide (lev e.kind < 3) := by
   have : lev e.kind ≠ 2 := by
    unfold lev;by_cases q4 : e.kind = 4
    ·simp [q4]
    by_cases q5 : e.kind = 5
    ·simp [q5]
    simp [q4, q5, h6]
   simp only [decide_eq_decide];omega
  refine ⟨e, [], 0, by simp, fun r hr => ⟨?_, fun n => rfl⟩⟩;rw [hlev];refine z9c hsub hg h3 (fun h => h2 ?_) hr;have : decide (lev e.kind < 2) = true := by rw [hlev]; exact decide_eq_true h
  exact of_decide_eq_true this
theorem w4b {e : Ex} {g : Nat} (hg : e.good g = true) (h3 : e.ht <= d + 1) (h2 : lev e.kind < 2 -> e.ht <= d) {r : List Tk} (hr : NoT [91, 42] r) : zjb sub (w5a (decide (lev e.kind < 2)) e.tk ++ r) = some (e, r) := by
 obtain ⟨x, tl, m, hm, hx⟩ := yrd hsub e.nodes e g (Nat.le_refl _) hg h3 h2;obtain ⟨p1, p2⟩ := hx r (hr.sub (by simp));unfold zjb;rw [p1];have := p2 ((tl ++ r).length - m);rw [show (tl ++ r).length - m + m = (tl ++ r).length by simp; omega] at this;simp only [Option.bind_some];rw [this];cases (tl ++ r).length - m with
 | zero => rfl
 | succ n => simp only [zPb, hr 42 (by simp)]
theorem ysd : ∀ (N : Nat) (e : Ex) (g : Nat), e.nodes <= N -> e.good g = true -> e.ht <= d + 1 -> ∃ x tl m, m <= tl.length /\ ∀ r, NoT [91, 42] r -> zjb sub (e.tk ++ r) = some (x, tl ++ r) /\ ∀ n, xSa sub (n + m) x (tl ++ r) = xSa sub n e r := by
 intro N
 induction N with
 | zero =>
  intro e g hN;obtain ⟨k, n, s, l⟩ := e;rw [Ex.nodes] at hN;omega
 | succ N ih =>
  intro e g hN hg h3;by_cases h6 : e.kind = 4 ∨ e.kind = 5
  ·obtain ⟨_, hs⟩ := shape hg;cases hs with
   | num n h0 h1 => simp [Ex.kind] at h6
   | var s hn => simp [Ex.kind] at h6
   | at_ s a hn ha => simp [Ex.kind] at h6
   | two k a b k0 k1 ha hb =>
    simp only [Ex.kind] at h6;have hha : a.ht <= d := by simp only [Ex.ht, Ex.hts] at h3; omega
    have hhb : b.ht <= d := by simp only [Ex.ht, Ex.hts] at h3; omega
    obtain ⟨x, tl, m, hm, hx⟩ := ih a _ (by simp only [Ex.nodes, Ex.nodess] at hN; omega) ha (by omega);rcases h6 with rfl | rfl
    ·refine ⟨x, tl ++ tkM 43 :: w5a (decide (lev b.kind < 2)) b.tk, m + 1, by simp; omega, fun r hr => ?_⟩;obtain ⟨p1, p2⟩ := hx (tkM 43 :: (w5a (decide (lev b.kind < 2)) b.tk ++ r)) (NoT.mark _ (by decide));have e2 : (Ex.mk 4 0 ⟨#[]⟩ [a, b]).tk ++ r = a.tk ++ tkM 43 :: (w5a (decide (lev b.kind < 2)) b.tk ++ r) := by simp [Ex.tk, Ex.tks, tkL]
     have e3 : tl ++ tkM 43 :: w5a (decide (lev b.kind < 2)) b.tk ++ r = tl ++ tkM 43 :: (w5a (decide (lev b.kind < 2)) b.tk ++ r) := by simp
     rw [e2, e3];refine ⟨p1, fun n => ?_⟩;rw [show n + (m + 1) = (n + 1) + m by omega, p2];simp only [xSa, yya];rw [w4b hsub hb (by omega) (fun _ => hhb) hr];rfl
    refine ⟨x, tl ++ tkM 45 :: w5a (decide (lev b.kind < 2)) b.tk, m + 1, by simp; omega, fun r hr => ?_⟩;obtain ⟨p1, p2⟩ := hx (tkM 45 :: (w5a (decide (lev b.kind < 2)) b.tk ++ r)) (NoT.mark _ (by decide));have e2 : (Ex.mk 5 0 ⟨#[]⟩ [a, b]).tk ++ r = a.tk ++ tkM 45 :: (w5a (decide (lev b.kind < 2)) b.tk ++ r) := by simp [Ex.tk, Ex.tks, tkL]
    have e3 : tl ++ tkM 45 :: w5a (decide (lev b.kind < 2)) b.tk ++ r = tl ++ tkM 45 :: (w5a (decide (lev b.kind < 2)) b.tk ++ r) := by simp
    rw [e2, e3];refine ⟨p1, fun n => ?_⟩;rw [show n + (m + 1) = (n + 1) + m by omega, p2];have n43 : tkS 4 (ch 43) (tkM 45 :: (w5a (decide (lev b.kind < 2)) b.tk ++ r)) = none := NoT.mark (cs := [43]) _ (by decide) 43 (by simp);simp only [xSa, yya, n43];rw [w4b hsub hb (by omega) (fun _ => hhb) hr];rfl
  have hlev : ¬ lev e.kind < 2 := by
   unfold lev;rw [if_neg (fun h => h6 (.inl h)), if_neg (fun h => h6 (.inr h))];split <;> omega
  refine ⟨e, [], 0, by simp, fun r hr => ⟨?_, fun n => rfl⟩⟩;have := w4b hsub hg h3 (fun h => absurd h hlev) hr;rw [decide_eq_false hlev] at this;exact this
end
theorem x2c : ∀ (d : Nat) (e : Ex) (g : Nat), e.good g = true -> e.ht <= d -> ∀ r, NoT [91, 42, 43, 45] r -> yPa d (e.tk ++ r) = some (e, r)
 | 0, e, g, hg, hd, r, hr => by
  obtain ⟨k, n, s, l⟩ := e;rw [Ex.ht] at hd;omega
 | d + 1, e, g, hg, hd, r, hr => by
  obtain ⟨x, tl, m, hm, hx⟩ := ysd (x2c d) e.nodes e g (Nat.le_refl _) hg hd;obtain ⟨p1, p2⟩ := hx r (hr.sub (by simp));unfold yPa;rw [p1];have := p2 ((tl ++ r).length - m);rw [show (tl ++ r).length - m + m = (tl ++ r).length by simp; omega] at this;simp only [Option.bind_some];rw [this];cases (tl ++ r).length - m with
  | zero => rfl
  | succ n => simp only [xSa, hr 43 (by simp), hr 45 (by simp)]
theorem z8a {s : ByteArray} (h : zxa s = true) : s.data.toList.length <= 6 := by
 unfold zxa inR at h;simp only [Bool.and_eq_true, decide_eq_true_eq] at h;have := z2a s;have := h.2.1.2;omega
theorem w5b {n : Int} (h0 : 0 <= n) (h1 : n <= 999999) : (Lib.itoa n).length <= 6 := by
 obtain ⟨u, rfl⟩ := Int.eq_ofNat_of_zero_le h0;have e : Lib.itoa (u : Int) = Lib.decDigits u := by unfold Lib.itoa; rw [if_neg (by omega)]; simp
 rw [e, Lib.decDigits_length];exact y6c 5 u (by omega)
theorem yma (b : Bool) (l : List UInt8) : (yib b l).length <= l.length + 2 := by cases b <;> simp [yib]
theorem w6b (b : Bool) (l : List Tk) : (w5a b l).length <= l.length + 2 := by cases b <;> simp [w5a]
theorem ztb : ∀ (N : Nat) (e : Ex) (d : Nat), e.nodes <= N -> e.good d = true -> e.pr.length <= 8 * e.nodes /\ e.tk.length <= 5 * e.nodes := by
 intro N
 induction N with
 | zero =>
  intro e d hN;obtain ⟨k, n, s, l⟩ := e;rw [Ex.nodes] at hN;omega
 | succ N ih =>
  intro e d hN hg;obtain ⟨hd, hs⟩ := shape hg;cases hs with
  | num n h0 h1 =>
   have := w5b h0 h1;simp only [Ex.nodes, Ex.nodess, Ex.pr, Ex.prs, prK, Ex.tk, Ex.tks, tkL, if_true, List.length_singleton];omega
  | var s hn =>
   have := z8a hn;have e1 : (Ex.mk 2 0 s []).pr = s.data.toList := rfl;have e2 : (Ex.mk 2 0 s []).tk = [tkN s] := rfl;rw [e1, e2];simp only [Ex.nodes, Ex.nodess, List.length_singleton];omega
  | at_ s a hn ha =>
   have := ih a _ (by simp only [Ex.nodes, Ex.nodess] at hN; omega) ha;have := z8a hn;simp only [Ex.nodes, Ex.nodess, Ex.pr, Ex.prs, prK, Ex.tk, Ex.tks, tkL, List.length_append, List.length_cons, List.length_nil];omega
  | two k a b k0 k1 ha hb =>
   have := ih a _ (by simp only [Ex.nodes, Ex.nodess] at hN; omega) ha;have := ih b _ (by simp only [Ex.nodes, Ex.nodess] at hN; omega) hb;have t1 := yma (decide (lev b.kind < 2)) b.pr;have t2 := yma (decide (lev a.kind < 2)) a.pr;have t3 := yma (decide (lev b.kind < 3)) b.pr;have u1 := w6b (decide (lev b.kind < 2)) b.tk;have u2 := w6b (decide (lev a.kind < 2)) a.tk;have u3 := w6b (decide (lev b.kind < 3)) b.tk;simp only [Ex.nodes, Ex.nodess, Ex.pr, Ex.prs, prK, Ex.tk, Ex.tks, tkL];by_cases k4 : k = 4
   ·simp only [if_pos k4, List.length_append, List.length_cons, List.length_nil]; omega
   by_cases k5 : k = 5
   ·simp only [if_neg k4, if_pos k5, List.length_append, List.length_cons, List.length_nil]; omega
   by_cases k6 : k = 6
   ·simp only [if_neg k4, if_neg k5, if_pos k6, List.length_append, List.length_cons, List.length_nil]; omega
   by_cases k7 : k = 7
   ·simp only [if_neg k4, if_neg k5, if_neg k6, if_pos k7, List.length_append, List.length_cons, List.length_nil]; omega
   simp only [if_neg k4, if_neg k5, if_neg k6, if_neg k7, List.length_append, List.length_cons, List.length_nil]; omega
def txt (l : List UInt8) : ByteArray := ⟨l.toArray⟩
theorem zte {l : List UInt8} {ts : List Tk} (h : Lx l ts) (h3 : l.length <= 3000) (h6 : ts.length <= 600) : lex (txt l) = some ts := by
 unfold lex txt;rw [zUa, if_neg (by omega)];have := h l.length 0 (by omega) (Nat.le_refl _);rw [if_pos (by omega)] at this;simpa using this
theorem wra {e : Ex} (h : e.ok = true) : e.good 1 = true /\ e.nodes <= 60 /\ e.ht <= 30 := by
 unfold Ex.ok at h;rw [Bool.and_eq_true, decide_eq_true_eq] at h;have := zse e.nodes e 1 (Nat.le_refl _) h.1;exact ⟨h.1, by omega, by omega⟩
def Ex.txt (e : Ex) : ByteArray := if e.ok = true then T.txt e.pr else ⟨#[]⟩
def zxd : List UInt8 := [102, 111, 114]
def toT : List UInt8 := [116, 111]
def prT : List UInt8 := [112, 114, 105, 110, 116]
def arT : List UInt8 := [97, 114, 114, 97, 121]
mutual
def Sm.pr : Sm -> List UInt8 -> List UInt8
 | .mk k s a e lo hi b, pad =>
  if k = 1 then pad ++ (s.data.toList ++ 32 :: 61 :: 32 :: (e.pr ++ [59, 10]))
  else if k = 2 then pad ++ (s.data.toList ++ 91 :: (a.pr ++ 93 :: 32 :: 61 :: 32 :: (e.pr ++ [59, 10])))
  else if k = 3 then pad ++ (zxd ++ 32 :: (s.data.toList ++ 32 :: 61 :: 32 :: (lo.pr ++ 32 :: (toT ++ 32 :: (hi.pr ++ 32 :: 123 :: 10 :: (Sm.prs b (pad ++ [32, 32]) ++ (pad ++ [125, 10]))))))) 
  else pad ++ (prT ++ 32 :: (e.pr ++ [59, 10]))
def Sm.prs : List Sm -> List UInt8 -> List UInt8
 | [], _ => []
 | x :: l, pad => x.pr pad ++ Sm.prs l pad
end
mutual
def Sm.tk : Sm -> List Tk
 | .mk k s a e lo hi b =>
  if k = 1 then tkN s :: tkM 61 :: (e.tk ++ [tkM 59])
  else if k = 2 then tkN s :: tkM 91 :: (a.tk ++ tkM 93 :: tkM 61 :: (e.tk ++ [tkM 59]))
  else if k = 3 then tkK yvb :: tkN s :: tkM 61 :: (lo.tk ++ tkK toB :: (hi.tk ++ tkM 123 :: (Sm.tks b ++ [tkM 125])))
  else tkK xza :: (e.tk ++ [tkM 59])
def Sm.tks : List Sm -> List Tk
 | [] => []
 | x :: l => x.tk ++ Sm.tks l
end
inductive yac (d : Nat) : Sm -> Prop
 | set (s : ByteArray) (e : Ex) : zxa s = true -> e.ok = true -> yac d (xda s e)
 | put (s : ByteArray) (a e : Ex) : zxa s = true -> a.ok = true -> e.ok = true -> yac d (xea s a e)
 | for_ (s : ByteArray) (lo hi : Ex) (b : List Sm) : zxa s = true -> lo.ok = true -> hi.ok = true -> d < 3 -> Sm.rights b (d + 1) = true -> yac d (yea s lo hi b)
 | print (e : Ex) : e.ok = true -> yac d (zOa e)
theorem xQb {e : Ex} (h : e.no = true) : e = zE := by
 obtain ⟨k, n, s, l⟩ := e;unfold Ex.no noS at h;simp only [Bool.and_eq_true, decide_eq_true_eq] at h;obtain ⟨⟨⟨rfl, rfl⟩, rfl⟩, hl⟩ := h;have : l = [] := List.eq_nil_of_length_eq_zero (by omega);subst this;rfl
theorem wqb {x : Sm} {d : Nat} (h : x.right d = true) : yac d x := by
 obtain ⟨k, s, a, e, lo, hi, b⟩ := x;unfold Sm.right zta at h;rw [Bool.and_eq_true] at h;obtain ⟨h, hb⟩ := h;by_cases k1 : k = 1
 ·rw [if_pos k1] at h;simp only [Bool.and_eq_true, decide_eq_true_eq] at h;obtain ⟨⟨⟨⟨⟨ha, he⟩, hlo⟩, hhi⟩, hs⟩, hl⟩ := h;have : b = [] := List.eq_nil_of_length_eq_zero (by omega);rw [xQb ha, xQb hlo, xQb hhi, this, k1];exact .set s e hs he
 rw [if_neg k1] at h;by_cases k2 : k = 2
 ·rw [if_pos k2] at h;simp only [Bool.and_eq_true, decide_eq_true_eq] at h;obtain ⟨⟨⟨⟨⟨ha, he⟩, hlo⟩, hhi⟩, hs⟩, hl⟩ := h;have : b = [] := List.eq_nil_of_length_eq_zero (by omega);rw [xQb hlo, xQb hhi, this, k2];exact .put s a e hs ha he
 rw [if_neg k2] at h;by_cases k3 : k = 3
 ·rw [if_pos k3] at h;simp only [Bool.and_eq_true, decide_eq_true_eq] at h;obtain ⟨⟨⟨⟨⟨⟨ha, he⟩, hlo⟩, hhi⟩, hs⟩, hd⟩, hl⟩ := h;rw [xQb ha, xQb he, k3];refine .for_ s lo hi b hs hlo hhi hd ?_;simpa [k3] using hb
 rw [if_neg k3] at h;by_cases k4 : k = 4
 ·rw [if_pos k4] at h;unfold noS at h;simp only [Bool.and_eq_true, decide_eq_true_eq] at h;obtain ⟨⟨⟨⟨⟨ha, he⟩, hlo⟩, hhi⟩, rfl⟩, hl⟩ := h;have : b = [] := List.eq_nil_of_length_eq_zero (by omega);rw [xQb ha, xQb hlo, xQb hhi, this, k4];exact .print e he
 rw [if_neg k4] at h;cases h
theorem Lx.pad {l : List UInt8} {ts : List Tk} : ∀ (p : List UInt8), (∀ c ∈ p, T.blank c = true) -> Lx l ts -> Lx (p ++ l) ts
 | [], _, h => h
 | c :: p, hp, h => Lx.blank (hp c (by simp)) (Lx.pad p (fun x hx => hp x (by simp [hx])) h)
theorem wVc {e : Ex} (h : e.ok = true) {r : List UInt8} {ts : List Tk} (hr : Stop r) (hl : Lx r ts) : Lx (e.pr ++ r) (e.tk ++ ts) := x5e e.nodes e 1 (Nat.le_refl _) (wra h).1 r ts hr hl
theorem Lx.end_ {r : List UInt8} {ts : List Tk} (h : Lx r ts) : Lx (59 :: 10 :: r) (tkM 59 :: ts) := Lx.mark (by decide) (by decide) (Lx.blank (by decide) h)
theorem Lx.eq_ {r : List UInt8} {ts : List Tk} (h : Lx r ts) : Lx (32 :: 61 :: 32 :: r) (tkM 61 :: ts) := Lx.blank (by decide) (Lx.mark (by decide) (by decide) (Lx.blank (by decide) h))
theorem x6e : ∀ (N : Nat), (∀ (x : Sm) (d : Nat) (pad : List UInt8), x.size <= N -> x.right d = true -> (∀ c ∈ pad, T.blank c = true) -> ∀ r ts, Lx r ts -> Lx (x.pr pad ++ r) (x.tk ++ ts)) /\ (∀ (l : List Sm) (d : Nat) (pad : List UInt8), Sm.sizes l <= N -> Sm.rights l d = true -> (∀ c ∈ pad, T.blank c = true) -> ∀ r ts, Lx r ts -> Lx (Sm.prs l pad ++ r) (Sm.tks l ++ ts)) := by
 intro N
 induction N with
 | zero =>
  refine ⟨fun x d pad hN => ?_, fun l d pad hN hR hp r ts hl => ?_⟩
  ·obtain ⟨k, s, a, e, lo, hi, b⟩ := x;rw [Sm.size] at hN;omega
  cases l with
  | nil => exact hl
  | cons x l =>
   obtain ⟨k, s, a, e, lo, hi, b⟩ := x;rw [Sm.sizes, Sm.size] at hN;omega
 | succ N ih =>
  have one : ∀ (x : Sm) (d : Nat) (pad : List UInt8), x.size <= N + 1 -> x.right d = true -> (∀ c ∈ pad, T.blank c = true) -> ∀ r ts, Lx r ts -> Lx (x.pr pad ++ r) (x.tk ++ ts) := by
   intro x d pad hN hR hp r ts hl;cases wqb hR with
   | set s e hs he =>
    have e1 : (xda s e).pr pad ++ r = pad ++ (s.data.toList ++ 32 :: 61 :: 32 :: (e.pr ++ 59 :: 10 :: r)) := by simp [xda, Sm.pr]
    have e2 : (xda s e).tk ++ ts = tkN s :: tkM 61 :: (e.tk ++ tkM 59 :: ts) := by simp [xda, Sm.tk]
    rw [e1, e2];exact Lx.pad _ hp (Lx.name hs (z0a (by decide)) (Lx.eq_ (wVc he (z0a (by decide)) (Lx.end_ hl))))
   | put s a e hs ha he =>
    have e1 : (xea s a e).pr pad ++ r = pad ++ (s.data.toList ++ 91 :: (a.pr ++ 93 :: 32 :: 61 :: 32 :: (e.pr ++ 59 :: 10 :: r))) := by simp [xea, Sm.pr]
    have e2 : (xea s a e).tk ++ ts = tkN s :: tkM 91 :: (a.tk ++ tkM 93 :: tkM 61 :: (e.tk ++ tkM 59 :: ts)) := by simp [xea, Sm.tk]
    rw [e1, e2];exact Lx.pad _ hp (Lx.name hs (z0a (by decide)) (Lx.mark (by decide) (by decide) (wVc ha (z0a (by decide)) (Lx.mark (by decide) (by decide) (Lx.eq_ (wVc he (z0a (by decide)) (Lx.end_ hl)))))))
   | for_ s lo hi b hs hlo hhi hd hb =>
    have hN' : Sm.sizes b <= N := by simp only [yea, Sm.size] at hN; omega
    have e1 : (yea s lo hi b).pr pad ++ r = pad ++ (yvb.data.toList ++ 32 :: (s.data.toList ++ 32 :: 61 :: 32 :: (lo.pr ++ 32 :: (toB.data.toList ++ 32 :: (hi.pr ++ 32 :: 123 :: 10 :: (Sm.prs b (pad ++ [32, 32]) ++ (pad ++ 125 :: 10 :: r))))))) := by simp [yea, Sm.pr, zxd, toT, yvb, toB]
    have e2 : (yea s lo hi b).tk ++ ts = tkK yvb :: tkN s :: tkM 61 :: (lo.tk ++ tkK toB :: (hi.tk ++ tkM 123 :: (Sm.tks b ++ tkM 125 :: ts))) := by simp [yea, Sm.tk]
    rw [e1, e2];refine Lx.pad _ hp (Lx.kept (by decide) (by decide) (by decide) (z0a (by decide)) (Lx.blank (by decide) (Lx.name hs (z0a (by decide)) (Lx.eq_ (wVc hlo (z0a (by decide)) (Lx.blank (by decide) (Lx.kept (by decide) (by decide) (by decide) (z0a (by decide)) (Lx.blank (by decide) (wVc hhi (z0a (by decide)) (Lx.blank (by decide) (Lx.mark (by decide) (by decide) (Lx.blank (by decide) ?_))))))))))));refine ih.2 b _ _ hN' hb (fun c hc => ?_) _ _ (Lx.pad _ hp (Lx.mark (by decide) (by decide) (Lx.blank (by decide) hl)));rcases List.mem_append.1 hc with h | h
    ·exact hp c h
    simp at h; subst h; decide
   | print e he =>
    have e1 : (zOa e).pr pad ++ r = pad ++ (xza.data.toList ++ 32 :: (e.pr ++ 59 :: 10 :: r)) := by simp [zOa, Sm.pr, prT, xza]
    have e2 : (zOa e).tk ++ ts = tkK xza :: (e.tk ++ tkM 59 :: ts) := by simp [zOa, Sm.tk]
    rw [e1, e2];exact Lx.pad _ hp (Lx.kept (by decide) (by decide) (by decide) (z0a (by decide)) (Lx.blank (by decide) (wVc he (z0a (by decide)) (Lx.end_ hl))))
  refine ⟨one, fun l d pad hN hR hp r ts hl => ?_⟩;cases l with
  | nil => exact hl
  | cons x l =>
   rw [Sm.rights, Bool.and_eq_true] at hR;have hx0 : 1 <= x.size := by obtain ⟨k, s, a, e, lo, hi, b⟩ := x; rw [Sm.size]; omega
   rw [Sm.sizes] at hN;rw [Sm.prs, Sm.tks, List.append_assoc, List.append_assoc];exact one x d pad (by omega) hR.1 hp _ _ (ih.2 l d pad (by omega) hR.2 hp r ts hl)
theorem y7c {e : Ex} (h : e.ok = true) {r : List Tk} (hr : NoT [91, 42, 43, 45] r) : exP (e.tk ++ r) = some (e, r) := x2c 30 e 1 (wra h).1 (wra h).2.2 r hr
theorem wDa {e : Ex} (h : e.ok = true) {c : UInt8} (hc : c ∉ [(91 : UInt8), 42, 43, 45]) (r : List Tk) : xOb c (e.tk ++ tkM c :: r) = some (e, r) := by
 have := y7c h (NoT.mark (cs := [91, 42, 43, 45]) r hc);simp only [xOb, zXa, this, Option.bind_some, tkR, yya, Option.map_some, xca]
theorem ytd (s s' : ByteArray) (r : List Tk) : tkS 3 s (tkN s' :: r) = none := by simp [tkS, Tk.is, tkN]
theorem zue (s : ByteArray) (r : List Tk) : tkS 3 s (tkK s :: r) = some r := by simp [tkS, Tk.is, tkK]
theorem zve {s s' : ByteArray} (h : s' ≠ s) (r : List Tk) : tkS 3 s (tkK s' :: r) = none := by simp [tkS, Tk.is, tkK, h]
theorem x7e (s s' : ByteArray) (r : List Tk) : tkS 4 s (tkN s' :: r) = none := by simp [tkS, Tk.is, tkN]
theorem zwe (s s' : ByteArray) (r : List Tk) : tkS 4 s (tkK s' :: r) = none := by simp [tkS, Tk.is, tkK]
theorem NoT.kept (cs : List UInt8) (s : ByteArray) (r : List Tk) : NoT cs (tkK s :: r) := fun c _ => zwe _ _ _
theorem wEd (s : ByteArray) (e : Ex) (r : List Tk) : (xda s e).tk ++ r = tkN s :: tkM 61 :: (e.tk ++ tkM 59 :: r) := by simp [xda, Sm.tk]
theorem wFd (s : ByteArray) (a e : Ex) (r : List Tk) : (xea s a e).tk ++ r = tkN s :: tkM 91 :: (a.tk ++ tkM 93 :: tkM 61 :: (e.tk ++ tkM 59 :: r)) := by simp [xea, Sm.tk]
theorem wGd (s : ByteArray) (lo hi : Ex) (b : List Sm) (r : List Tk) : (yea s lo hi b).tk ++ r = tkK yvb :: tkN s :: tkM 61 :: (lo.tk ++ tkK toB :: (hi.tk ++ tkM 123 :: (Sm.tks b ++ tkM 125 :: r))) := by simp [yea, Sm.tk]
theorem x3c (e : Ex) (r : List Tk) : (zOa e).tk ++ r = tkK xza :: (e.tk ++ tkM 59 :: r) := by simp [zOa, Sm.tk]
theorem w7b {x : Sm} {d : Nat} (h : x.right d = true) : ∃ t r, x.tk = t :: r /\ ((∃ s, t = tkN s) ∨ t = tkK yvb ∨ t = tkK xza) := by
 cases wqb h with
 | set s e hs he => exact ⟨_, _, by simpa using wEd s e [], .inl ⟨s, rfl⟩⟩
 | put s a e hs ha he => exact ⟨_, _, by simpa using wFd s a e [], .inl ⟨s, rfl⟩⟩
 | for_ s lo hi b hs hlo hhi hd hb => exact ⟨_, _, by simpa using wGd s lo hi b [], .inr (.inl rfl)⟩
 | print e he => exact ⟨_, _, by simpa using x3c e [], .inr (.inr rfl)⟩
theorem yud {s : ByteArray} {e : Ex} (he : e.ok = true) (r : List Tk) : yRa (tkN s :: tkM 61 :: (e.tk ++ tkM 59 :: r)) = some (xda s e, r) := by
 have h1 := wDa he (c := 59) (by decide) r;have h2 : tkS 4 (ch 91) (tkM 61 :: (e.tk ++ tkM 59 :: r)) = none := NoT.mark (cs := [91]) _ (by decide) 91 (by simp);have k1 : (tkN s).k = 1 := rfl;have k2 : (tkN s).s = s := rfl;simp only [yRa, ytd, zXa, nmP, k1, k2, if_true, Option.bind_some, xpd, h2, xpe, tkR, yya, Option.map_some, h1, xca]
theorem yvd {s : ByteArray} {a e : Ex} (ha : a.ok = true) (he : e.ok = true) (r : List Tk) : yRa (tkN s :: tkM 91 :: (a.tk ++ tkM 93 :: tkM 61 :: (e.tk ++ tkM 59 :: r))) = some (xea s a e, r) := by
 have h1 := wDa he (c := 59) (by decide) r;have h2 := wDa ha (c := 93) (by decide) (tkM 61 :: (e.tk ++ tkM 59 :: r));have k1 : (tkN s).k = 1 := rfl;have k2 : (tkN s).s = s := rfl;simp only [yRa, ytd, zXa, nmP, k1, k2, if_true, Option.bind_some, xpd, yya, xqe, h2, tkR, Option.map_some, h1, xca]
theorem wWc {e : Ex} (he : e.ok = true) (r : List Tk) : yRa (tkK xza :: (e.tk ++ tkM 59 :: r)) = some (zOa e, r) := by
 have h1 := wDa he (c := 59) (by decide) r;simp only [yRa, zue, xre, zXa, h1, Option.bind_some, xca]
theorem zWb {ts : List Tk} {x : Sm × List Tk} (hn : tkS 3 yvb ts = none) (h : yRa ts = some x) (k : Nat) : zZa k ts = some x := by
 cases k <;> simp only [zZa, hn, h]
theorem ybc {sub : PA Sm} {d : Nat} : ∀ (l acc : List Sm) (k : Nat) (r : List Tk), Sm.rights l d = true -> (∀ x ∈ l, ∀ r, sub (x.tk ++ r) = some (x, r)) -> l.length < k -> znb sub k acc (Sm.tks l ++ tkM 125 :: r) = some (acc ++ l, r)
 | [], acc, 0, r, _, _, hk => by simp at hk
 | [], acc, k + 1, r, _, _, _ => by simp only [Sm.tks, List.nil_append, znb, yya, List.append_nil]
 | x :: l, acc, 0, r, _, _, hk => by simp at hk
 | x :: l, acc, k + 1, r, hR, hs, hk => by
  rw [Sm.rights, Bool.and_eq_true] at hR;obtain ⟨t, q, ht, hh⟩ := w7b hR.1;have e1 : Sm.tks (x :: l) ++ tkM 125 :: r = x.tk ++ (Sm.tks l ++ tkM 125 :: r) := by rw [Sm.tks, List.append_assoc]
  have hn : tkS 4 (ch 125) (x.tk ++ (Sm.tks l ++ tkM 125 :: r)) = none := by
   rw [ht, List.cons_append];rcases hh with ⟨s, rfl⟩ | rfl | rfl
   ·exact x7e _ _ _
   ·exact zwe _ _ _
   exact zwe _ _ _
  rw [e1, znb, hn];simp only;rw [hs x (by simp)];simp only [Option.bind_some];rw [ybc l (acc ++ [x]) k r hR.2 (fun y hy => hs y (by simp [hy])) (by simpa using hk)];simp
theorem y8c : ∀ (l : List Sm) (d : Nat), Sm.rights l d = true -> l.length <= (Sm.tks l).length
 | [], _, _ => by simp
 | x :: l, d, h => by
  rw [Sm.rights, Bool.and_eq_true] at h;obtain ⟨t, q, ht, _⟩ := w7b h.1;have := y8c l d h.2;rw [Sm.tks, ht];simp;omega
theorem x4a : ∀ (l : List Sm) (d : Nat), Sm.rights l d = true -> ∀ x ∈ l, x.right d = true
 | [], _, _, x, hx => by cases hx
 | y :: l, d, h, x, hx => by
  rw [Sm.rights, Bool.and_eq_true] at h;rcases List.mem_cons.1 hx with rfl | hx
  ·exact h.1
  exact x4a l d h.2 x hx
theorem ywb : ∀ (l : List Sm), ∀ x ∈ l, x.size <= Sm.sizes l
 | [], x, hx => by cases hx
 | y :: l, x, hx => by
  rw [Sm.sizes];rcases List.mem_cons.1 hx with rfl | hx
  ·omega
  have := ywb l x hx; omega
theorem ywd : ∀ (N : Nat) (x : Sm) (d k : Nat), x.size <= N -> x.right d = true -> 3 <= d + k -> ∀ r, zZa k (x.tk ++ r) = some (x, r) := by
 intro N
 induction N with
 | zero =>
  intro x d k hN;obtain ⟨q, s, a, e, lo, hi, b⟩ := x;rw [Sm.size] at hN;omega
 | succ N ih =>
  intro x d k hN hR hk r;cases wqb hR with
  | set s e hs he => rw [wEd]; exact zWb (ytd _ _ _) (yud he r) k
  | put s a e hs ha he => rw [wFd]; exact zWb (ytd _ _ _) (yvd ha he r) k
  | print e he => rw [x3c]; exact zWb (zve (by decide) _) (wWc he r) k
  | for_ s lo hi b hs hlo hhi hd hb =>
   have hN' : Sm.sizes b <= N := by simp only [yea, Sm.size] at hN; omega
   cases k with
   | zero => omega
   | succ k =>
    rw [wGd];have h1 := y7c hlo (NoT.kept [91, 42, 43, 45] toB (hi.tk ++ tkM 123 :: (Sm.tks b ++ tkM 125 :: r)));have h2 := y7c hhi (NoT.mark (cs := [91, 42, 43, 45]) (c := 123) (Sm.tks b ++ tkM 125 :: r) (by decide));have h3 := ybc (sub := zZa k) b [] ((Sm.tks b ++ tkM 125 :: r).length + 1) r hb (fun x hx r => ih x (d + 1) k (Nat.le_trans (ywb b x hx) hN') (x4a b _ hb x hx) (by omega) r) (by have := y8c b _ hb; simp; omega);have k1 : (tkN s).k = 1 := rfl;have k2 : (tkN s).s = s := rfl;simp only [zZa, zue, zSb, zXa, nmP, k1, k2, if_true, Option.bind_some, tkR, yya, Option.map_some, h1, kpR, h2, zRb, h3, List.nil_append, xca]
def Ar.pr (a : Ar) : List UInt8 := arT ++ 32 :: (a.s.data.toList ++ 32 :: (Lib.itoa a.n ++ [59, 10]))
def Ar.tk (a : Ar) : List Tk := [tkK y6a, tkN a.s, tkI a.n, tkM 59]
def yLa (l : List Ar) : List UInt8 := l.flatMap Ar.pr
def wYa (l : List Ar) : List Tk := l.flatMap Ar.tk
def Pg.pr (p : Pg) : List UInt8 := yLa p.arrs ++ Sm.prs p.body []
def Pg.tk (p : Pg) : List Tk := wYa p.arrs ++ Sm.tks p.body
theorem wHd : ∀ (l : List Ar) (q : Option ByteArray), zqa q l = true -> ∀ r ts, Lx r ts -> Lx (yLa l ++ r) (wYa l ++ ts)
 | [], _, _, r, ts, h => h
 | a :: l, q, hA, r, ts, h => by
  unfold zqa at hA;rw [Bool.and_eq_true, Bool.and_eq_true, Bool.and_eq_true] at hA;obtain ⟨hn, hr, _, hl⟩ := hA;unfold inR at hr;simp only [Bool.and_eq_true, decide_eq_true_eq] at hr;have e1 : yLa (a :: l) ++ r = y6a.data.toList ++ 32 :: (a.s.data.toList ++ 32 :: (Lib.itoa a.n ++ 59 :: 10 :: (yLa l ++ r))) := by simp [yLa, Ar.pr, arT, y6a]
  have e2 : wYa (a :: l) ++ ts = tkK y6a :: tkN a.s :: tkI a.n :: tkM 59 :: (wYa l ++ ts) := by simp [wYa, Ar.tk]
  rw [e1, e2];exact Lx.kept (by decide) (by decide) (by decide) (z0a (by decide)) (Lx.blank (by decide) (Lx.name hn (z0a (by decide)) (Lx.blank (by decide) (Lx.num (by omega) (by omega) (z0a (by decide)) (Lx.end_ (wHd l _ hl r ts h))))))
theorem ycc : ∀ (l acc : List Ar) (k : Nat) (r : List Tk), l.length <= k -> tkS 3 y6a r = none -> zob k acc (wYa l ++ r) = some (acc ++ l, r)
 | [], acc, 0, r, _, _ => by simp [wYa, zob]
 | [], acc, k + 1, r, _, hr => by simp [wYa, zob, hr]
 | a :: l, acc, 0, r, hk, _ => by simp at hk
 | a :: l, acc, k + 1, r, hk, hr => by
  have e2 : wYa (a :: l) ++ r = tkK y6a :: tkN a.s :: tkI a.n :: tkM 59 :: (wYa l ++ r) := by simp [wYa, Ar.tk]
  have k1 : (tkN a.s).k = 1 := rfl;have k2 : (tkN a.s).s = a.s := rfl;have k3 : (tkI a.n).k = 2 := rfl;have k4 : (tkI a.n).n = a.n := rfl;rw [e2];simp only [zob, zue, xqd, zXa, nmP, k1, k2, if_true, xod, k3, k4, Option.bind_some, tkR, yya, Option.map_some, xca];rw [ycc l (acc ++ [a]) k r (by simpa using hk) hr];simp
theorem ydc {sub : PA Sm} {d : Nat} : ∀ (l acc : List Sm) (k : Nat), Sm.rights l d = true -> (∀ x ∈ l, ∀ r, sub (x.tk ++ r) = some (x, r)) -> l.length <= k -> wJa sub k acc (Sm.tks l) = some (acc ++ l, [])
 | [], acc, k, _, _, _ => by cases k <;> simp [Sm.tks, wJa]
 | x :: l, acc, 0, _, _, hk => by simp at hk
 | x :: l, acc, k + 1, hR, hs, hk => by
  rw [Sm.rights, Bool.and_eq_true] at hR;obtain ⟨t, q, ht, hh⟩ := w7b hR.1;have hx := hs x (by simp) (Sm.tks l);rw [Sm.tks];rw [ht, List.cons_append] at hx ⊢;simp only [wJa, hx, Option.bind_some];rw [ydc l (acc ++ [x]) k hR.2 (fun y hy => hs y (by simp [hy])) (by simpa using hk)];simp
theorem wZa : ∀ (l : List Sm), l.all Sm.ok = true -> Sm.rights l 0 = true
 | [], _ => rfl
 | x :: l, h => by
  rw [List.all_cons, Bool.and_eq_true] at h;have h1 := h.1;unfold Sm.ok at h1;rw [Bool.and_eq_true] at h1;rw [Sm.rights, h1.1, wZa l h.2];rfl
theorem yec : ∀ l : List Ar, l.length <= (wYa l).length
 | [] => by simp
 | a :: l => by
  have := yec l;have e : wYa (a :: l) = Ar.tk a ++ wYa l := rfl;rw [e, List.length_append, show (Ar.tk a).length = 4 from rfl, List.length_cons]
  omega
theorem yfc : ∀ (l P : List Ar) (q : Option ByteArray), zqa q l = true -> (∀ x, P.getLast? = some x -> q = some x.s) -> l.foldl zYc P = P ++ l
 | [], P, q, _, _ => by simp
 | a :: l, P, q, hA, hP => by
  unfold zqa at hA;rw [Bool.and_eq_true, Bool.and_eq_true, Bool.and_eq_true] at hA;obtain ⟨_, _, hq, hl⟩ := hA;have h1 : zYc P a = P ++ [a] := by
   have := wYb (P := P) (Q := []) (a := a) (by simp) fun x hx => by
    have := hP x hx;subst this;simp only at hq;cases hb : blt a.s x.s with
    | false => rfl
    | true =>
     have := wla hq hb;rw [yka] at this;cases this
   simpa using this
  rw [List.foldl_cons, h1, yfc l (P ++ [a]) (some a.s) hl (fun x hx => by simp at hx; rw [hx])];simp
def Pg.txt (p : Pg) : ByteArray := if p.ok = true then T.txt p.pr else ⟨#[]⟩
theorem wXc {p : Pg} (h : p.ok = true) : lex p.txt = none ∨ parse p.txt = some p := by
 have h0 := h;unfold Pg.ok Pg.head at h;simp only [Bool.and_eq_true, decide_eq_true_eq] at h;obtain ⟨⟨hA, _, _, _, hB⟩, _⟩ := h;have hR := wZa p.body hB;have hl : Lx p.pr p.tk := by
  have h1 := (x6e (Sm.sizes p.body)).2 p.body 0 [] (Nat.le_refl _) hR (fun c hc => by cases hc) [] [] Lx.nil;rw [List.append_nil, List.append_nil] at h1;exact wHd p.arrs none hA _ _ h1
 unfold Pg.txt;rw [if_pos h0];by_cases h3 : 3000 < p.pr.length
 ·left;unfold lex txt;rw [zUa, if_pos h3]
 by_cases h6 : 600 < p.tk.length
 ·left;unfold lex txt;rw [zUa, if_neg h3];have := hl p.pr.length 0 (by omega) (Nat.le_refl _);rw [if_neg (by omega)] at this;simpa using this
 right;unfold parse wqa;rw [zte hl (by omega) (by omega)];have ha : tkS 3 y6a (Sm.tks p.body) = none := by
  cases hb : p.body with
  | nil => rfl
  | cons x l =>
   have hx := x4a p.body 0 hR x (by rw [hb]; simp);obtain ⟨t, q, ht, hh⟩ := w7b hx;rw [Sm.tks, ht, List.cons_append];rcases hh with ⟨s, rfl⟩ | rfl | rfl
   ·exact ytd _ _ _
   ·exact zve (by decide) _
   exact zve (by decide) _
 have h1 := ycc p.arrs [] p.tk.length (Sm.tks p.body) (by
  have := yec p.arrs;unfold Pg.tk;rw [List.length_append];omega) ha
 have h2 := ydc (sub := zZa 3) p.body [] (Sm.tks p.body).length hR (fun x hx r => ywd x.size x 0 3 (Nat.le_refl _) (x4a p.body 0 hR x hx) (by omega) r) (y8c p.body 0 hR);have h4 := yfc p.arrs [] none hA (fun x hx => by cases hx);have e : p.tk = wYa p.arrs ++ Sm.tks p.body := rfl;have e5 : zXa (xaa []) (fun as => zXa (y7a (zZa 3) []) fun b => xca (Pg.mk (zsa as) b)) p.tk = some (p, []) := by
  unfold zXa xaa;rw [e] at h1 ⊢;rw [h1];simp only [Option.bind_some, y7a, h2, xca, List.nil_append];unfold zsa;rw [h4];rfl
 simp only [e5, h0, if_true]
theorem y9c (pad : List UInt8) : ∀ l l' : List Sm, Sm.prs (l ++ l') pad = Sm.prs l pad ++ Sm.prs l' pad
 | [], l' => rfl
 | x :: l, l' => by rw [List.cons_append, Sm.prs, Sm.prs, y9c pad l l', List.append_assoc]
theorem yMa {e : Ex} (h : e.ok = true) : e.pr.length <= 480 := by
 obtain ⟨hg, hn, _⟩ := wra h;have := (ztb e.nodes e 1 (Nat.le_refl _) hg).1;omega
theorem xeb : ∀ (N : Nat), (∀ (x : Sm) (d : Nat) (pad : List UInt8), x.size <= N -> x.right d = true -> pad.length <= 2 * d -> d <= 3 -> (x.pr pad).length <= 1100 * x.size) /\ (∀ (l : List Sm) (d : Nat) (pad : List UInt8), Sm.sizes l <= N -> Sm.rights l d = true -> pad.length <= 2 * d -> d <= 3 -> (Sm.prs l pad).length <= 1100 * Sm.sizes l) := by
 intro N
 induction N with
 | zero =>
  refine ⟨fun x d pad hN => ?_, fun l d pad hN hR hp hd => ?_⟩
  ·obtain ⟨k, s, a, e, lo, hi, b⟩ := x;rw [Sm.size] at hN;omega
  cases l with
  | nil => simp [Sm.prs]
  | cons x l =>
   obtain ⟨k, s, a, e, lo, hi, b⟩ := x;rw [Sm.sizes, Sm.size] at hN;omega
 | succ N ih =>
  have one : ∀ (x : Sm) (d : Nat) (pad : List UInt8), x.size <= N + 1 -> x.right d = true -> pad.length <= 2 * d -> d <= 3 -> (x.pr pad).length <= 1100 * x.size := by
   intro x d pad hN hR hp hd;cases wqb hR with
   | set s e hs he =>
    have e1 : (xda s e).pr pad = pad ++ (s.data.toList ++ 32 :: 61 :: 32 :: (e.pr ++ [59, 10])) := by simp [xda, Sm.pr]
    have := z8a hs;have := yMa he;rw [e1];simp only [xda, Sm.size, Sm.sizes, List.length_append, List.length_cons, List.length_nil];omega
   | put s a e hs ha he =>
    have e1 : (xea s a e).pr pad = pad ++ (s.data.toList ++ 91 :: (a.pr ++ 93 :: 32 :: 61 :: 32 :: (e.pr ++ [59, 10]))) := by simp [xea, Sm.pr]
    have := z8a hs;have := yMa he;have := yMa ha;rw [e1];simp only [xea, Sm.size, Sm.sizes, List.length_append, List.length_cons, List.length_nil];omega
   | for_ s lo hi b hs hlo hhi hd3 hb =>
    have hN' : Sm.sizes b <= N := by simp only [yea, Sm.size] at hN; omega
    have e1 : (yea s lo hi b).pr pad = pad ++ (zxd ++ 32 :: (s.data.toList ++ 32 :: 61 :: 32 :: (lo.pr ++ 32 :: (toT ++ 32 :: (hi.pr ++ 32 :: 123 :: 10 :: (Sm.prs b (pad ++ [32, 32]) ++ (pad ++ [125, 10]))))))) := by simp [yea, Sm.pr]
    have := z8a hs;have := yMa hlo;have := yMa hhi;have := ih.2 b (d + 1) (pad ++ [32, 32]) hN' hb (by simp; omega) (by omega);rw [e1];simp only [yea, Sm.size, List.length_append, List.length_cons, List.length_nil, zxd, toT];omega
   | print e he =>
    have e1 : (zOa e).pr pad = pad ++ (prT ++ 32 :: (e.pr ++ [59, 10])) := by simp [zOa, Sm.pr]
    have := yMa he;rw [e1];simp only [zOa, Sm.size, Sm.sizes, List.length_append, List.length_cons, List.length_nil, prT];omega
  refine ⟨one, fun l d pad hN hR hp hd => ?_⟩;cases l with
  | nil => simp [Sm.prs]
  | cons x l =>
   rw [Sm.rights, Bool.and_eq_true] at hR;have hx0 : 1 <= x.size := by obtain ⟨k, s, a, e, lo, hi, b⟩ := x; rw [Sm.size]; omega
   rw [Sm.sizes] at hN ⊢;have h1 := one x d pad (by omega) hR.1 hp hd;have h2 := ih.2 l d pad (by omega) hR.2 hp hd;rw [Sm.prs, List.length_append];omega
end Go.T
