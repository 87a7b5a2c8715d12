/- Parts of the proof of FnParsed: What a function is told of, statement by statement, expression by expression. -/
import Derived.Test.YtdbnllfjmkmdiaaGreatDoorG11
import Derived.Ground.Names2Prog
import Derived.Shelf.Slices.Clone
import Derived.Test.YtdbnllfjmkmdiaaGreatDoorG5
import Derived.Test.YtdbnllfjmkmdiaaGreatDoorG4
import Derived.Test.YtdbnllfjmkmdiaaGreatDoorG3
import Derived.Test.YtdbnllfjmkmdiaaGreatDoorG9
import Derived.Shelf.Lay
import Derived.Ground.NamesProg
import Derived.Shelf.Strconv.Itoa3
import Derived.WalkKit
set_option linter.unusedSimpArgs false
set_option linter.unusedVariables false
namespace Go.T
open Go Go.Proofs
set_option maxRecDepth 10000
set_option maxHeartbeats 1000000
def Col (m0 : Mem) (gk go : Nat) (q : Int) (xs : List ByteArray) (m : Mem) : Prop := m0 go = none /\ m0 gk = some (.box [.int .i64 q]) /\ ∃ v, m go = some (.box [v]) /\ GO m0 xs v m
theorem Col.fresh {m0 m : Mem} {gk go : Nat} {q : Int} {xs : List ByteArray} (h : Col m0 gk go q xs m) {g : Nat} (hg : m g = none) (b : Blk) : Col m0 gk go q xs (m.set g b) := by
 obtain ⟨h1, h2, v, h3, h4⟩ := h;refine ⟨h1, h2, v, ?_, h4.fresh hg b⟩;rw [zia, if_neg]
 ·exact h3
 rintro rfl; rw [hg] at h3; cases h3
theorem Col.ext {m0 m : Mem} {gk go : Nat} {q : Int} {xs : List ByteArray} (h : Col m0 gk go q xs m) : Ext m0 m := by
 obtain ⟨h1, h2, v, h3, h4⟩ := h;exact h4.1
theorem Col.keep {m0 m : Mem} {gk go : Nat} {q : Int} {xs : List ByteArray} (h : Col m0 gk go q xs m) {g : Nat} (hg : m g = none) (b : Blk) : Col (m0.set g b) gk go q xs (m.set g b) := by
 obtain ⟨h1, h2, v, h3, h4, h5⟩ := h;have hgo : go ≠ g := by rintro rfl; rw [hg] at h3; cases h3
 have hgk : gk ≠ g := by rintro rfl; have := h4 _ _ h2; rw [hg] at this; cases this
 refine ⟨by rw [zia, if_neg hgo]; exact h1, by rw [zia, if_neg hgk]; exact h2, v, by rw [zia, if_neg hgo]; exact h3, fun k x hk => ?_, h5.imp id ?_⟩
 ·rw [zia] at hk ⊢;by_cases e : k = g
  ·rw [if_pos e] at hk ⊢; exact hk
  rw [if_neg e] at hk ⊢; exact h4 k x hk
 rintro ⟨g', c, a, hb, h0⟩;have hne : g' ≠ g := by rintro rfl; rw [hg] at hb; cases hb
 exact ⟨g', c, a, by rw [zia, if_neg hne]; exact hb, by rw [zia, if_neg hne]; exact h0⟩
theorem Col.less {m0 m : Mem} {gk go : Nat} {q : Int} {xs : List ByteArray} {g : Nat} {b : Blk} (h : Col (m0.set g b) gk go q xs m) (h0 : m0 g = none) (hk : m0 gk = some (.box [.int .i64 q])) : Col m0 gk go q xs m := by
 obtain ⟨h1, h2, v, h3, h4⟩ := h;have hgo : go ≠ g := by rintro rfl; rw [zia, if_pos rfl] at h1; cases h1
 rw [zia, if_neg hgo] at h1;refine ⟨h1, hk, v, h3, h4.mono fun k x hkx => ?_⟩;rw [zia, if_neg]
 ·exact hkx
 rintro rfl; rw [h0] at hkx; cases hkx
theorem Col.push {m0 m : Mem} {gk go : Nat} {q : Int} {xs : List ByteArray} {v : AV} (h1 : m0 go = none) (h2 : m0 gk = some (.box [.int .i64 q])) (h3 : m go = some (.box [v])) (h4 : GO m0 xs v m) (s : ByteArray) (hb : xs.length <= 8388608) {k : AV -> Mem -> Prop}
  (hk : ∀ v' m', m' go = some (.box [v]) -> v'.cells = [v'] -> zya v' = true -> v' ≠ .undef -> Col m0 gk go q (xs ++ [s]) (m'.set go (.box [v'])) -> k v' m') : zNa Tryz.prog m k #[70, 70] v (.lst true 1 [.str s]) := by
 -- the box is no row, and what is taken is none of its
 have hE : Ext (m0.set go (.box [v])) m := fun g b hg => by
  rw [zia] at hg;by_cases e : g = go
  ·subst e; rw [if_pos rfl] at hg; obtain rfl := Option.some.inj hg; exact h3
  rw [if_neg e] at hg; exact h4.1 g b hg
 have h5 : GO (m0.set go (.box [v])) xs v m := by
  refine ⟨hE, h4.2.imp id ?_⟩;rintro ⟨g, c, a, b, h0⟩;refine ⟨g, c, a, b, ?_⟩;rw [zia, if_neg]
  ·exact h0
  rintro rfl; rw [h3] at b; cases b
 refine h5.app true [s] (by simp; omega) fun v' m' hG => ?_;have hgo : m' go = some (.box [v]) := hG.1 go _ (zaa _ _ _);have hex : Ext m0 m' := fun g b hg => hG.1 g b (by
  rw [zia, if_neg]
  ·exact hg
  rintro rfl; rw [h1] at hg; cases hg)
 obtain ⟨o1, o2, o3⟩ := hG.ok;refine hk v' m' hgo o1 o2 o3 ⟨h1, h2, v', zaa _ _ _, hex.set h1 _, hG.2.imp id ?_⟩;rintro ⟨g, c, a, b, h0⟩;have hgn : g ≠ go := by rintro rfl; rw [hgo] at b; cases b
 refine ⟨g, c, a, by rw [zia, if_neg hgn]; exact b, ?_⟩;rw [zia, if_neg hgn] at h0;exact h0
theorem zad (x : Sm) {m0 m : Mem} {gk go : Nat} {q : Int} {xs : List ByteArray} (h : Col m0 gk go q xs m) (hb : xs.length <= 8388608) {K : AV -> Mem -> Prop} (hK : ∀ m', Col m0 gk go q (xs ++ one (x.k = q) x.s) m' -> K (.tup []) m') :
  zka Tryz.prog 172 [x.av, .ptr gk 0, .ptr go 0] m K := by
 refine wO Tryz.func172 ?_;unfold Sm.av;refine rA ?_;simp;intro g hg;have h' := h.fresh hg (.box x.cells);obtain ⟨h1, h2, v, h3, h4⟩ := h';have hgk : (m.set g (.box x.cells)) gk = some (.box [.int .i64 q]) := h4.1 gk _ h2;have hgg : (m.set g (.box x.cells)) g = some (.box x.cells) := zaa _ _ _;generalize m.set g (.box x.cells) = m1 at *;refine rA ?_;simp [hgk, hgg];(repeat refine qA ?_);refine AWp.cond (b := decide (x.k = q)) (by simp) (fun hk => ?_) (fun hk => ?_)
 ·simp at hk;refine rA ?_;simp [h3, hgg];refine Col.push h1 h2 h3 h4 x.s hb fun v' m' hgo o1 o2 o3 hC => ?_;simp [o1, o2, hgo];refine y5a rfl (hK _ ?_);have e : one (x.k = q) x.s = [x.s] := by simp [one, hk]
  rw [e];exact hC
 simp at hk;refine kA ?_;try simp
 refine y5a rfl ?_;have e : xs ++ one (x.k = q) x.s = xs := by simp [one, hk]
 refine hK _ ?_;rw [e];exact ⟨h1, h2, v, by simpa using h3, by simpa using h4⟩
theorem xTb (x : Ex) {m0 m : Mem} {gk go : Nat} {q : Int} {xs : List ByteArray} (h : Col m0 gk go q xs m) (hb : xs.length <= 8388608) {K : AV -> Mem -> Prop} (hK : ∀ m', Col m0 gk go q (xs ++ one (x.k = q) x.s) m' -> K (.tup []) m') :
  zka Tryz.prog 170 [x.av, .ptr gk 0, .ptr go 0] m K := by
 refine wO Tryz.func170 ?_;unfold Ex.av;refine rA ?_;simp;intro g hg;have h' := h.fresh hg (.box x.cells);obtain ⟨h1, h2, v, h3, h4⟩ := h';have hgk : (m.set g (.box x.cells)) gk = some (.box [.int .i64 q]) := h4.1 gk _ h2;have hgg : (m.set g (.box x.cells)) g = some (.box x.cells) := zaa _ _ _;generalize m.set g (.box x.cells) = m1 at *;refine rA ?_;simp [hgk, hgg];(repeat refine qA ?_);refine AWp.cond (b := decide (x.k = q)) (by simp) (fun hk => ?_) (fun hk => ?_)
 ·simp at hk;refine rA ?_;simp [h3, hgg];refine Col.push h1 h2 h3 h4 x.s hb fun v' m' hgo o1 o2 o3 hC => ?_;simp [o1, o2, hgo];refine y5a rfl (hK _ ?_);have e : one (x.k = q) x.s = [x.s] := by simp [one, hk]
  rw [e];exact hC
 simp at hk;refine kA ?_;try simp
 refine y5a rfl ?_;have e : xs ++ one (x.k = q) x.s = xs := by simp [one, hk]
 refine hK _ ?_;rw [e];exact ⟨h1, h2, v, by simpa using h3, by simpa using h4⟩
-- what is told of statements, one behind the other, those of Bodies too
mutual
def Sm.walk (f : Sm -> List ByteArray) : Sm -> List ByteArray
 | .mk k s a e lo hi b => f (.mk k s a e lo hi b) ++ Sm.walkL f b
def Sm.walkL (f : Sm -> List ByteArray) : List Sm -> List ByteArray
 | [] => []
 | x :: l => x.walk f ++ Sm.walkL f l
end
theorem Sm.walk_eq (f : Sm -> List ByteArray) (e : Sm) : e.walk f = f e ++ Sm.walkL f e.body := by cases e; rfl
def Step (n : FuncId) (gk go : Nat) (q : Int) (f : Sm -> List ByteArray) : Prop := ∀ (x : Sm), x.tot <= 1048576 -> ∀ (m0 m : Mem) (xs : List ByteArray), Col m0 gk go q xs m -> xs.length + (f x).length <= 8388608 -> ∀ K : AV -> Mem -> Prop, (∀ m', Col m0 gk go q (xs ++ f x) m' -> K (.tup []) m') -> zka Tryz.prog n [x.av, .ptr gk 0, .ptr go 0] m K
theorem xmb {n : FuncId} {gk go : Nat} {q : Int} {f : Sm -> List ByteArray} (hstep : Step n gk go q f) (l : List Sm) (ht : zAa Sm.tot l <= 1048576)
  (h : ∀ x ∈ l, ∀ (m0 m : Mem) (xs : List ByteArray), Col m0 gk go q xs m -> xs.length + (Sm.walkL f x.body).length <= 8388608 -> ∀ K : AV -> Mem -> Prop, (∀ m', Col m0 gk go q (xs ++ Sm.walkL f x.body) m' -> K (.tup []) m') -> zka Tryz.prog 167 [.lst false 19 (x.body.map Sm.av), .func (.func n) [.ptr gk 0, .ptr go 0]] m K)
  (m0 m : Mem) (xs : List ByteArray) (hC : Col m0 gk go q xs m) (hb : xs.length + (Sm.walkL f l).length <= 8388608) (K : AV -> Mem -> Prop) (hK : ∀ m', Col m0 gk go q (xs ++ Sm.walkL f l) m' -> K (.tup []) m') :
  zka Tryz.prog 167 [.lst false 19 (l.map Sm.av), .func (.func n) [.ptr gk 0, .ptr go 0]] m K := by
 have hlen := zua Sm.tot l;refine wO Tryz.func167 ?_;refine rA ?_;simp;(repeat refine qA ?_);refine AWp.block (AWp.ro (fun k st => ∃ (i : Nat) (ys : List ByteArray), k = l.length - i /\ i <= l.length /\ st.sl 6 = .lst false 19 (l.map Sm.av) /\ st.sl 7 = .int .i64 l.length /\ st.sl 8 = .int .i64 i /\ st.sl 1 = .func (.func n) [.ptr gk 0, .ptr go 0] /\ Col m0 gk go q ys st.mem /\
  xs ++ Sm.walkL f l = ys ++ Sm.walkL f (l.drop i)) l.length ⟨0, xs, by simp, by simp, by simp, by simp, by simp, by simp, by simpa using hC, by simp⟩ ?_)
 rintro R k st hR ⟨i, ys, rfl, hi, s6, s7, s8, s1, hC, hr⟩;refine rA ?_;simp [s6, s7, s8];(repeat refine qA ?_);refine AWp.cond (b := decide (i < l.length)) (by simp) (fun hb2 => ?_) (fun hb2 => ?_)
 ·simp at hb2;have hg : l[i]? = some l[i] := gE hb2;have hdr : l.drop i = l[i] :: l.drop (i + 1) := List.drop_eq_getElem_cons hb2;have htm := zoa Sm.tot (List.getElem_mem hb2);have htb := l[i].tot_body;rw [hdr, Sm.walkL, Sm.walk_eq] at hr;have hll := congrArg List.length hr;simp only [List.length_append] at hll;have hx : ∀ m, yga Tryz.prog m 30 (.lst false 19 (l.map Sm.av)) (.int .i64 i) = some (.ref l[i].cells) := fun m => idx (y := l[i].av) es_30 (by simp [hg]);have hw := iA i (by omega);refine kA ?_;try simp
  (repeat refine qA ?_);refine bA ?_;refine rA ?_;simp [s6, s8, hx];intro g hgf;try simp [zia, xFa]
  have hC1 := hC.keep hgf (.box l[i].cells);have hm0g : m0 g = none := hC.ext.none hgf;have hm0k := hC.2.1;have hgg : (st.mem.set g (.box l[i].cells)) g = some (.box l[i].cells) := zaa _ _ _;generalize st.mem.set g (.box l[i].cells) = m1 at *;refine rA ?_;simp [s1, hgg];refine xna _ _ _ _ _ _ _ _ rfl (n := n) (caps := [.ptr gk 0, .ptr go 0]) (by simp [s1]) ?_;try simp [hgg]
  refine hstep l[i] (by omega) _ _ _ hC1 (by omega) _ fun m2 hC2 => ?_;have hg2 : m2 g = some (.box l[i].cells) := hC2.ext g _ (zaa _ _ _);try simp
  refine rA ?_;simp [s1, hg2];refine wA ?_;refine h l[i] (List.getElem_mem _) _ _ _ hC2 (by simp; omega) _ fun m3 hC3 => ?_;try simp
  refine rA ?_;simp [s8, hw];refine hR _ (l.length - (i + 1)) (by omega) ⟨i + 1, _, rfl, hb2, by simp [s6], by simp [s7], by simp, by simp [s1], by simpa using hC3.less hm0g hm0k, ?_⟩;rw [hr]; simp
 simp at hb2;refine eA ?_;have : i = l.length := by omega
 subst this;simp [Sm.walkL] at hr;try simp
 exact y5a rfl (hK _ (by rw [hr]; exact hC))
theorem wyb {n : FuncId} {gk go : Nat} {q : Int} {f : Sm -> List ByteArray} (hstep : Step n gk go q f) (l : List Sm) (ht : zAa Sm.tot l <= 1048576) (m0 m : Mem) (xs : List ByteArray) (hC : Col m0 gk go q xs m) (hb : xs.length + (Sm.walkL f l).length <= 8388608) (K : AV -> Mem -> Prop) (hK : ∀ m', Col m0 gk go q (xs ++ Sm.walkL f l) m' -> K (.tup []) m') :
  zka Tryz.prog 167 [.lst false 19 (l.map Sm.av), .func (.func n) [.ptr gk 0, .ptr go 0]] m K := by
 have key : ∀ e : Sm, e.tot <= 1048576 -> ∀ (m0 m : Mem) (xs : List ByteArray), Col m0 gk go q xs m -> xs.length + (Sm.walkL f e.body).length <= 8388608 -> ∀ K : AV -> Mem -> Prop, (∀ m', Col m0 gk go q (xs ++ Sm.walkL f e.body) m' -> K (.tup []) m') -> zka Tryz.prog 167 [.lst false 19 (e.body.map Sm.av), .func (.func n) [.ptr gk 0, .ptr go 0]] m K := by
  intro e
  induction e using Sm.ind' with | h e h =>
  intro ht;have := e.tot_body;exact xmb hstep e.body (by omega) (fun x hx => h x hx (by have := zoa Sm.tot hx; omega))
 exact xmb hstep l ht (fun x hx => key x (by have := zoa Sm.tot hx; omega)) m0 m xs hC hb K hK
theorem yNd (e : Ex) {gk go : Nat} {q : Int} : e.tot <= 1048576 -> ∀ (m0 m : Mem) (xs : List ByteArray), Col m0 gk go q xs m -> xs.length + (e.post q).length <= 8388608 -> ∀ K : AV -> Mem -> Prop, (∀ m', Col m0 gk go q (xs ++ e.post q) m' -> K (.tup []) m') ->
  zka Tryz.prog 186 [e.av, .func (.func 170) [.ptr gk 0, .ptr go 0]] m K := by
 induction e using Ex.ind' with | h e h =>
 intro ht m0 m xs hC hb K hK;have htl := e.tot_l;have hlen := e.len_l;refine wO Tryz.func186 ?_;unfold Ex.av;rw [e.post_eq] at hb hK;rw [List.length_append] at hb;refine rA ?_;try simp
 intro g0 hg0;have hm0 : m0 g0 = none := hC.ext.none hg0;have hk0 := hC.2.1;have hC0 := hC.keep hg0 (.box e.cells);have hgg : (m.set g0 (.box e.cells)) g0 = some (.box e.cells) := zaa _ _ _;generalize m.set g0 (.box e.cells) = m1 at *;refine rA ?_;simp [hgg]
 (try refine qA ?_)
 refine AWp.cA (fun st => st.sl 2 = .ptr g0 0 /\ st.sl 1 = .func (.func 170) [.ptr gk 0, .ptr go 0] /\ Col (m0.set g0 (.box e.cells)) gk go q (xs ++ Ex.posts q e.l) st.mem) ?_ ?_
 ·refine AWp.block (AWp.ro (fun k st => ∃ (i : Nat) (ys : List ByteArray), k = e.l.length - i /\ i <= e.l.length /\ st.sl 2 = .ptr g0 0 /\ st.sl 1 = .func (.func 170) [.ptr gk 0, .ptr go 0] /\ st.sl 7 = .lst false 4 (e.l.map Ex.av) /\ st.sl 8 = .int .i64 e.l.length /\ st.sl 9 = .int .i64 i /\ Col (m0.set g0 (.box e.cells)) gk go q ys st.mem /\
   xs ++ Ex.posts q e.l = ys ++ Ex.posts q (e.l.drop i)) e.l.length ⟨0, xs, by simp, by simp, by simp, by simp, by simp, by simp, by simp, by simpa using hC0, by simp⟩ ?_)
  clear hC hC0 hgg;rintro R k st hR ⟨i, ys, rfl, hi, s2, s1, s7, s8, s9, hC, hr⟩;refine rA ?_;simp [s7, s8, s9];(repeat refine qA ?_);refine AWp.cond (b := decide (i < e.l.length)) (by simp) (fun hb2 => ?_) (fun hb2 => ?_)
  ·simp at hb2;have hg : e.l[i]? = some e.l[i] := gE hb2;have hdr : e.l.drop i = e.l[i] :: e.l.drop (i + 1) := List.drop_eq_getElem_cons hb2;have htm := zoa Ex.tot (List.getElem_mem hb2);rw [hdr, Ex.posts] at hr;have hll := congrArg List.length hr;simp only [List.length_append] at hll;have hx : ∀ m, yga Tryz.prog m 24 (.lst false 4 (e.l.map Ex.av)) (.int .i64 i) = some (.ref e.l[i].cells) := fun m => idx (y := e.l[i].av) es_24 (by simp [hg]);have hw := iA i (by omega);refine kA ?_;try simp
   (repeat refine qA ?_);refine bA ?_;refine rA ?_;simp [s7, s9, hx];intro g hgf;try simp [zia, xFa]
   have hC1 := hC.fresh hgf (.box e.l[i].cells);have hgg : (st.mem.set g (.box e.l[i].cells)) g = some (.box e.l[i].cells) := zaa _ _ _;generalize st.mem.set g (.box e.l[i].cells) = m2 at *;refine rA ?_;simp [s1, hgg];refine wA ?_;refine h e.l[i] (List.getElem_mem _) (by omega) _ _ _ hC1 (by omega) _ fun m3 hC3 => ?_;try simp
   refine rA ?_;simp [s9, hw];refine hR _ (e.l.length - (i + 1)) (by omega) ⟨i + 1, _, rfl, hb2, by simp [s2], by simp [s1], by simp [s7], by simp [s8], by simp, by simpa using hC3, ?_⟩;rw [hr]; simp
  simp at hb2;refine eA ?_;have : i = e.l.length := by omega
  subst this;simp [Ex.posts] at hr;simp [s2, s1, hr, hC]
 clear hC hC0 hgg;rintro st ⟨s2, s1, hC⟩;have hg2 : st.mem g0 = some (.box e.cells) := hC.ext g0 _ (zaa _ _ _);refine rA ?_;simp [s2, s1, hg2];refine xna _ _ _ _ _ _ _ _ rfl (n := 170) (caps := [.ptr gk 0, .ptr go 0]) (by simp [s1]) ?_;try simp [hg2]
 refine xTb e hC (by simp; omega) fun m' hC' => ?_;try simp
 refine y5a rfl (hK _ ?_);have := hC'.less hm0 hk0;simpa [List.append_assoc] using this
theorem zbd (x : Sm) {gk go : Nat} {q : Int} (ht : x.tot <= 1048576) (m0 m : Mem) (xs : List ByteArray) (hC : Col m0 gk go q xs m) (hb : xs.length + (Ex.posts q [x.a, x.e, x.lo, x.hi]).length <= 8388608) (K : AV -> Mem -> Prop) (hK : ∀ m', Col m0 gk go q (xs ++ Ex.posts q [x.a, x.e, x.lo, x.hi]) m' -> K (.tup []) m') :
  zka Tryz.prog 169 [x.av, .func (.func 170) [.ptr gk 0, .ptr go 0]] m K := by
 have htp := x.tot_parts;refine wO Tryz.func169 ?_;unfold Sm.av;refine rA ?_;try simp
 intro g0 hg0;have hC0 := hC.fresh hg0 (.box x.cells);have hgg : (m.set g0 (.box x.cells)) g0 = some (.box x.cells) := zaa _ _ _;generalize m.set g0 (.box x.cells) = m1 at *;refine rA ?_;simp [hgg];have hP : ∀ e ∈ [x.a, x.e, x.lo, x.hi], e.tot <= 1048576 := by
  intro e he;simp at he;rcases he with rfl | rfl | rfl | rfl <;> omega
 have hcs : ∀ i : Nat, i < 4 -> ∃ e : Ex, [x.a, x.e, x.lo, x.hi][i]? = some e /\ xXa Tryz.prog 176 (.agg (x.a.cells ++ (x.e.cells ++ (x.lo.cells ++ x.hi.cells)))) (.int .i64 i) = some (.agg e.cells) := by
  intro i hi
  match i, hi with
  | 0, _ => exact ⟨x.a, rfl, by simp⟩
  | 1, _ => exact ⟨x.e, rfl, by simp⟩
  | 2, _ => exact ⟨x.lo, rfl, by simp⟩
  | 3, _ => exact ⟨x.hi, rfl, by simp⟩
 have hL : [x.a, x.e, x.lo, x.hi].length = 4 := rfl;generalize [x.a, x.e, x.lo, x.hi] = PS at *
 (try refine qA ?_)
 refine AWp.block (AWp.ro (fun k st => ∃ (i : Nat) (ys : List ByteArray), k = 4 - i /\ i <= 4 /\ st.sl 1 = .func (.func 170) [.ptr gk 0, .ptr go 0] /\ st.sl 14 = .agg (x.a.cells ++ (x.e.cells ++ (x.lo.cells ++ x.hi.cells))) /\ st.sl 15 = .int .i64 i /\ Col m0 gk go q ys st.mem /\
   xs ++ Ex.posts q PS = ys ++ Ex.posts q (PS.drop i)) 4 ⟨0, xs, by simp, by simp, by simp, by simp, by simp, by simpa using hC0, by simp⟩ ?_)
 clear hC hC0 hgg;rintro R k st hR ⟨i, ys, rfl, hi, s1, s14, s15, hC, hr⟩;refine rA ?_;simp [s15];(repeat refine qA ?_);refine AWp.cond (b := decide ((i : Int) < 4)) (by simp) (fun hb2 => ?_) (fun hb2 => ?_)
 ·simp at hb2;have hi4 : i < 4 := by omega
  obtain ⟨e, he, hx⟩ := hcs i hi4;have hdr : PS.drop i = e :: PS.drop (i + 1) := by
   obtain ⟨h1, h2⟩ := List.getElem?_eq_some_iff.1 he;rw [List.drop_eq_getElem_cons h1, h2]
  have hte := hP e (List.mem_of_getElem? he);rw [hdr, Ex.posts] at hr;have hll := congrArg List.length hr;simp only [List.length_append] at hll hb;have hw := iA i (by omega);refine kA ?_;try simp
  (repeat refine qA ?_);refine bA ?_;refine rA ?_;simp [-xGd, s14, s15, hx];intro g hgf;try simp [zia, xFa]
  have hC1 := hC.keep hgf (.box e.cells);have hm0g : m0 g = none := hC.ext.none hgf;have hm0k := hC.2.1;have hgg : (st.mem.set g (.box e.cells)) g = some (.box e.cells) := zaa _ _ _;generalize st.mem.set g (.box e.cells) = m2 at *;refine rA ?_;simp [s1, hgg];refine wA ?_;refine yNd e hte _ _ _ hC1 (by omega) _ fun m3 hC3 => ?_;try simp
  refine rA ?_;simp [s15, hw];refine hR _ (4 - (i + 1)) (by omega) ⟨i + 1, _, rfl, by omega, by simp [s1], by simp [s14], by simp, by simpa using hC3.less hm0g hm0k, ?_⟩;rw [hr]; simp
 simp at hb2;refine eA ?_;have : i = 4 := by omega
 subst this;rw [List.drop_eq_nil_of_le (by omega), Ex.posts, List.append_nil] at hr;try simp
 exact y5a rfl (hK _ (by rw [hr]; exact hC))
theorem zfc {gk go : Nat} {q : Int} : Step 168 gk go q (fun x => Ex.posts q [x.a, x.e, x.lo, x.hi]) := by
 intro x ht m0 m xs hC hb K hK;refine wO Tryz.func168 ?_;unfold Sm.av;refine rA ?_;try simp
 intro g hg;have hC0 := hC.fresh hg (.box x.cells);have hgg : (m.set g (.box x.cells)) g = some (.box x.cells) := zaa _ _ _;generalize m.set g (.box x.cells) = m1 at *;refine rA ?_;simp [hgg];refine wA ?_;refine zbd x ht _ _ _ hC0 hb _ fun m' hC' => ?_;exact y5a rfl (hK _ hC')
theorem xkc {gk go : Nat} {q : Int} : Step 172 gk go q (fun x => one (x.k = q) x.s) := by
 intro x ht m0 m xs hC hb K hK;exact zad x hC (by have := hb; omega) hK
mutual
theorem zcd (q : Int) : ∀ e : Sm, e.walk (fun x => one (x.k = q) x.s) = e.names q
 | .mk k s a e lo hi b => by rw [Sm.walk, Sm.names, x7a q b]; rfl
theorem x7a (q : Int) : ∀ l : List Sm, Sm.walkL (fun x => one (x.k = q) x.s) l = Sm.namesL q l
 | [] => rfl
 | x :: l => by rw [Sm.walkL, Sm.namesL, zcd q x, x7a q l]
end
mutual
theorem yOd (q : Int) : ∀ e : Sm, e.walk (fun x => Ex.posts q [x.a, x.e, x.lo, x.hi]) = e.exps (Ex.post q)
 | .mk k s a e lo hi b => by rw [Sm.walk, Sm.exps, wEa q b]; simp [Ex.posts, Sm.a, Sm.e, Sm.lo, Sm.hi]
theorem wEa (q : Int) : ∀ l : List Sm, Sm.walkL (fun x => Ex.posts q [x.a, x.e, x.lo, x.hi]) l = Sm.expsL (Ex.post q) l
 | [] => rfl
 | x :: l => by rw [Sm.walkL, Sm.expsL, yOd q x, wEa q l]
end
theorem xnb (l : List Sm) (q : Int) (ht : zAa Sm.tot l <= 1048576) : zca Tryz.prog 138 [.lst false 19 (l.map Sm.av), .int .i64 q] (strs (zCa (Sm.namesL q l))) := by
 have hb : (Sm.namesL q l).length <= 8388600 := by have := Sm.namesL_len q l; have := Sm.tots_eq l; omega
 refine pO Tryz.func138 ?_;refine rA ?_;try simp
 intro gk;refine rA ?_;try simp
 intro go hgo;have hne : go ≠ gk := by rintro rfl; simp [zia] at hgo
 have hC : Col (Mem.set (fun _ => none) gk (.box [.int .i64 q])) gk go q [] ((Mem.set (fun _ => none) gk (.box [.int .i64 q])).set go (.box [.lst true 0 []])) :=
  ⟨by simp [zia, hne], by simp [zia], .lst true 0 [], by simp [zia], (Ext.refl _).set (by simp [zia, hne]) _, .inl ⟨rfl, 0, rfl⟩⟩
 generalize (Mem.set (fun _ => none) gk (.box [.int .i64 q])).set go (.box [.lst true 0 []]) = m1 at *;generalize (Mem.set (fun _ => none) gk (.box [.int .i64 q])) = m0 at *;refine rA ?_;try simp
 refine wA ?_;refine wyb xkc l ht m0 _ [] (by simpa using hC) (by rw [x7a]; simp; omega) _ fun m' hC' => ?_;rw [x7a, List.nil_append] at hC';obtain ⟨h1, h2, v, h3, h4⟩ := hC';try simp
 refine rA ?_;simp [h3];refine wA ?_;refine ytc (m0 := m0) (xs := Sm.namesL q l) (by simpa using h4) (by omega) ?_;try simp
 exact AWp.ret (pR1 rfl (by simp))
theorem ydb (l : List Sm) (q : Int) (ht : zAa Sm.tot l <= 1048576) : zca Tryz.prog 137 [.lst false 19 (l.map Sm.av), .int .i64 q] (strs (zCa (Sm.expsL (Ex.post q) l))) := by
 have hb : (Sm.expsL (Ex.post q) l).length <= 8388600 := by have := Sm.expsL_len (f := Ex.post q) (fun e => Ex.post_len q e) l; have := Sm.tots_eq l; omega
 refine pO Tryz.func137 ?_;refine rA ?_;try simp
 intro gk;refine rA ?_;try simp
 intro go hgo;have hne : go ≠ gk := by rintro rfl; simp [zia] at hgo
 have hC : Col (Mem.set (fun _ => none) gk (.box [.int .i64 q])) gk go q [] ((Mem.set (fun _ => none) gk (.box [.int .i64 q])).set go (.box [.lst true 0 []])) :=
  ⟨by simp [zia, hne], by simp [zia], .lst true 0 [], by simp [zia], (Ext.refl _).set (by simp [zia, hne]) _, .inl ⟨rfl, 0, rfl⟩⟩
 generalize (Mem.set (fun _ => none) gk (.box [.int .i64 q])).set go (.box [.lst true 0 []]) = m1 at *;generalize (Mem.set (fun _ => none) gk (.box [.int .i64 q])) = m0 at *;refine rA ?_;try simp
 refine wA ?_;refine wyb zfc l ht m0 _ [] (by simpa using hC) (by rw [wEa]; simp; omega) _ fun m' hC' => ?_;rw [wEa, List.nil_append] at hC';obtain ⟨h1, h2, v, h3, h4⟩ := hC';try simp
 refine rA ?_;simp [h3];refine wA ?_;refine ytc (m0 := m0) (xs := Sm.expsL (Ex.post q) l) (by simpa using h4) (by omega) ?_;try simp
 exact AWp.ret (pR1 rfl (by simp))
theorem zgc (l : List Sm) (ht : zAa Sm.tot l <= 1048576) : zca Tryz.prog 133 [.lst false 19 (l.map Sm.av)] (strs (zCa (Sm.namesL 1 l))) := by
 have c1 := xnb l 1 ht;refine pO Tryz.func133 ?_;refine rA ?_;try simp
 refine raA ?_;try simp
 refine oC' c1 ?_;try simp
 exact AWp.ret (pR1 rfl (by simp))
theorem xob (l : List Sm) (ht : zAa Sm.tot l <= 1048576) : zca Tryz.prog 134 [.lst false 19 (l.map Sm.av)] (strs (zCa (Sm.namesL 3 l))) := by
 have c1 := xnb l 3 ht;refine pO Tryz.func134 ?_;refine rA ?_;try simp
 refine raA ?_;try simp
 refine oC' c1 ?_;try simp
 exact AWp.ret (pR1 rfl (by simp))
theorem yuc (l : List Sm) (ht : zAa Sm.tot l <= 1048576) : zca Tryz.prog 140 [.lst false 19 (l.map Sm.av)] (strs (zCa (Sm.expsL (Ex.pre 2) l))) := by
 have c1 := ydb l 2 ht;refine pO Tryz.func140 ?_;refine rA ?_;try simp
 refine raA ?_;try simp
 refine oC' c1 ?_;try simp
 exact AWp.ret (pR1 rfl (by simp [web]))
end Go.T
namespace Go.Proofs
open Go.Shelf
shelf_lay Lays2.n16 Nm2 16 at Tryz as Tryz.laysClone -- 174
end Go.Proofs
namespace Go.T
open Go Go.Proofs Go.RowKit
set_option maxRecDepth 10000
set_option maxHeartbeats 1000000
theorem yvc : ∀ ns : List ByteArray, flat (ns.map AV.str) = ns.map AV.str
 | [] => rfl
 | n :: ns => by have := yvc ns; simp only [flat, List.map_cons, List.flatMap_cons] at this ⊢; rw [this]; rfl
theorem x7d : y8a Tryz.prog 174 := ⟨_, Tryz.func174, by kernel_rfl, rfl⟩
theorem ywc {w w' : World} {S : Nat -> Prop} {m : Mem} (hm : zva w S m) (hbel : Below w.heap.size w w') {g c : Nat} {T : TypeId} {xs : List ByteArray} {us : List Value} (hg : w.heap.size <= g) (hh : w'.heap[g]? = some (.cells (xs.map Value.string ++ us).toArray T (0, 0))) (hl : (xs.map Value.string ++ us).length = c * 1) (hle : xs.length <= c) :
  zva w' S (m.set g (.arr T 1 c (xs.map .str))) /\ m g = none /\ Keep (fun _ => False) w w' := by
 have hfree : m g = none := by
  cases hq : m g with
  | none => rfl
  | some b => have := (hm.blk _ b hq).lt; omega
 have hk : Keep (fun _ => False) w w' := ⟨hbel.os, hbel.tape, hbel.output, hbel.size, fun b hb _ => hbel.block b hb⟩;have hst : Stays S w w' := fun b hb => hbel.block b (hm.apart b hb).2;refine ⟨⟨fun g' b hb => ?_, fun b hb => ⟨?_, ?_⟩⟩, hfree, hk⟩
 ·rw [zia] at hb;by_cases e : g' = g
  ·subst e;rw [if_pos rfl] at hb;obtain rfl := Option.some.inj hb;exact ⟨_, us, hh, y0b _ _ xs, hl, fun x hx => by obtain ⟨y, _, rfl⟩ := List.mem_map.1 hx; rfl, by simpa using hle⟩
  rw [if_neg e] at hb;exact (hm.blk g' b hb).mono hst (fun _ h => h) (hbel.block g' (hm.blk g' b hb).lt)
 ·have := hm.apart b hb;rw [zia, if_neg (by omega)];exact this.1
 exact Nat.lt_of_lt_of_le (hm.apart b hb).2 hbel.size
theorem zFe (ns : List ByteArray) (hb : ns.length <= 8388608) {m : Mem} {K : AV -> Mem -> Prop} (hK : ∀ v m', GO m ns v m' -> K v m') : zka Tryz.prog 174 [strs ns] m K := by
 refine ⟨x7d, fun w S cargs hm hargs => ?_⟩;cases hargs with | @cons _ v _ vs hv ht =>
 cases ht;have fin : ∀ (n : Nat) (e : Ending) (w' : World), n = ns.length -> (∃ v', e = .returned v' /\ w'.ownsRow w.heap.size 9 1 v' n (ns.map Value.string) /\ v' ≠ .slice none 0 0 /\ Below w.heap.size w w') -> ∃ v r m' S', e = .returned v /\ K r m' /\ (∀ b, S b -> S' b) /\ (∀ b, S' b -> S b ∨ m b ≠ none ∨ w.heap.size <= b) /\ zva w' S' m' /\ Rep w' S' r v /\ Keep (fun g => m g ≠ none) w w' /\ (∀ g b, m' g = some b -> m g ≠ none ∨ w.heap.size <= g) := by
  rintro n e w' rfl ⟨v', he, ⟨hl, ho⟩, hne, hbel⟩;rcases ho with ⟨h0, _⟩ | ⟨g, cap, cur, rfl, hg, hh, hnc, _, hsz, htk⟩
  ·exact absurd h0 hne
  rw [Nat.mul_one] at htk hsz;have hcur : cur = (ns.map Value.string ++ cur.toList.drop ns.length).toArray := by
   rw [<- htk, List.take_append_drop, Array.toArray_toList]
  rw [hcur] at hh;obtain ⟨h1, h2, h3⟩ := ywc (c := cap) hm hbel hg hh (by simp; omega) hnc;refine ⟨_, _, _, S, he, hK (.own g ns.length cap) _ ⟨(Ext.refl m).set h2 _, .inr ⟨g, cap, rfl, zaa _ _ _, h2⟩⟩, fun _ h => h, fun _ h => .inl h, h1, .own g _ cap, h3.mono (fun _ h => h.elim), fun g' b hb' => ?_⟩;rw [zia] at hb';by_cases e : g' = g
  ·exact .inr (by omega)
  rw [if_neg e] at hb'; exact .inl (by rw [hb']; simp)
 unfold strs at hv;generalize hxs : ns.map AV.str = xs at hv;cases hv with
 | lnil _ _ A c hc =>
  have hns : ns = [] := by simpa using hxs
  subst hns;cases A with
  | none =>
   refine zma (Any.slices_Clone_string_nil Tryz.laysClone 0 c w) ?_;rintro e w' ⟨rfl, rfl⟩;exact ⟨_, _, _, S, rfl, hK (.lst true 0 []) m ⟨Ext.refl m, .inl ⟨rfl, 0, rfl⟩⟩, fun _ h => h, fun _ h => .inl h, hm, .lnil _ _ none 0 (fun _ => rfl), Keep.refl _ _, fun g b hb' => .inl (by rw [hb']; simp)⟩
  | some a => exact zma (Any.slices_Clone_string_zero Tryz.laysClone a c w) fun e w' h => fin 0 e w' rfl h
 | lst _ _ b o c h1 h2 h3 h4 h5 =>
  subst hxs;have hcell : ∀ j, j < ns.length -> w.cell? ⟨b, o + j, none⟩ = some (.string (ns.getD j ByteArray.empty)) := by
   intro j hj;rw [yvc] at h5;obtain ⟨v, hv, hr⟩ := h5.get j (.str ns[j]) (by simp [hj]);cases hr;rw [hv, List.getD_eq_getElem?_getD, gE hj];rfl
  have h := Any.slices_Clone_string Tryz.laysClone b o ns.length c ns w (Nat.le_refl _) (by omega) hcell;rw [List.take_length] at h;have h2 : Calls Tryz.prog 174 #[.slice (some ⟨b, o, none⟩) ns.length c] w _ := h;rw [List.length_map];exact zma h2 fun e w' h => fin ns.length e w' rfl h
theorem x8d (a : Ar) (s : ByteArray) {m : Mem} {gn : Nat} {K : AV -> Mem -> Prop} (hm : m gn = some (.box [.str s])) (hK : ∀ m', Ext m m' -> K (.bool (decide (a.s = s))) m') : zka Tryz.prog 185 [a.av, .ptr gn 0] m K := by
 refine wO Tryz.func185 ?_;unfold Ar.av Ar.cells;refine rA ?_;try simp
 intro g hg;have hgg : (m.set g (.box [.str a.s, .int .i64 a.n])) g = some (.box [.str a.s, .int .i64 a.n]) := zaa _ _ _;have hE := (Ext.refl m).set hg (.box [.str a.s, .int .i64 a.n]);have hgn := hE gn _ hm;generalize m.set g (.box [.str a.s, .int .i64 a.n]) = m1 at *;refine rA ?_;simp [hgg, hgn];exact AWp.ret (zea rfl ⟨_, _, View.refl _ _, hK _ hE⟩)
theorem xlc (A : List Ar) (s : ByteArray) (hl : A.length <= 1048576) {m : Mem} {gn : Nat} {K : AV -> Mem -> Prop} (hm : m gn = some (.box [.str s])) (hK : ∀ m', Ext m m' -> K (.int .i64 (at_ (A.map Ar.s) s)) m') :
  zka Tryz.prog 184 [.lst false 2 (A.map Ar.av), .func (.func 185) [.ptr gn 0]] m K := by
 refine wO Tryz.func184 ?_;refine rA ?_;try simp
 refine rA ?_;try simp
 (repeat refine qA ?_);refine AWp.block (AWp.ro (fun k st => ∃ (i : Nat), k = A.length - i /\ i <= A.length /\ st.sl 0 = .lst false 2 (A.map Ar.av) /\ st.sl 1 = .func (.func 185) [.ptr gn 0] /\ st.sl 7 = .int .i64 A.length /\ st.sl 8 = .int .i64 i /\ Ext m st.mem /\ at_ (A.map Ar.s) s = xNa i ((A.map Ar.s).drop i) s) A.length ⟨0, by simp, by simp, by simp, by simp, by simp, by simp, by simpa using Ext.refl m, by simp [at_]⟩ ?_);rintro R k st hR ⟨i, rfl, hi, s0, s1, s7, s8, hE, hr⟩;refine rA ?_;simp [s7, s8];(repeat refine qA ?_);refine AWp.cond (b := decide (i < A.length)) (by simp) (fun hb => ?_) (fun hb => ?_)
 ·simp at hb;have hg : A[i]? = some A[i] := gE hb;have hdr : (A.map Ar.s).drop i = A[i].s :: (A.map Ar.s).drop (i + 1) := by
   rw [List.drop_eq_getElem_cons (by simpa using hb)]; simp
  have hz : at_ (A.map Ar.s) s = if A[i].s = s then (i : Int) else xNa (i + 1) ((A.map Ar.s).drop (i + 1)) s := by rw [hr, hdr, xNa]
  have hx : ∀ m, yga Tryz.prog m 29 (.lst false 2 (A.map Ar.av)) (.int .i64 i) = some (.ref A[i].cells) := fun m => idx (y := A[i].av) es_29 (by simp [hg]);have hw := iA i (by omega);refine kA ?_;try simp
  (repeat refine qA ?_);refine bA ?_;refine rA ?_;simp [s8];refine rA ?_;simp [s0, s1, hx];refine xna _ _ _ _ _ _ _ _ rfl (n := 185) (caps := [.ptr gn 0]) (by simp [s1]) ?_;try simp [s0, s1, hx]
  refine x8d A[i] s (hE gn _ hm) fun m' hE' => ?_;try simp
  (repeat refine qA ?_);refine AWp.cond (b := decide (A[i].s = s)) (by simp) (fun he => ?_) (fun he => ?_)
  ·simp at he;refine rA ?_;try simp
   refine AWp.ret (zea rfl ⟨_, _, View.refl _ _, ?_⟩);try simp
   have := hK m' (fun g b h => hE' g b (hE g b h));rw [hz, if_pos he] at this;exact this
  simp at he;refine kA ?_;try simp
  refine rA ?_;simp [s8, hw];exact hR _ (A.length - (i + 1)) (by omega) ⟨i + 1, rfl, hb, by simp [s0], by simp [s1], by simp [s7], by simp, (fun g b h => hE' g b (hE g b h)), by rw [hz, if_neg he]⟩
 simp at hb;refine eA ?_;try simp
 refine rA ?_;try simp
 have : i = A.length := by omega
 subst this;rw [List.drop_eq_nil_of_le (by simp), xNa] at hr;refine AWp.ret (zea rfl ⟨_, _, View.refl _ _, ?_⟩);try simp
 have := hK st.mem hE;rw [hr] at this;exact this
theorem yxc (p : Pg) (s : ByteArray) (ht : p.arrs.length <= 1048576) : zca Tryz.prog 166 [p.av, .str s] (.int .i64 (at_ p.arrNames s)) := by
 refine pO Tryz.func166 ?_;have hc : p.cells = [.lst false 2 (p.arrs.map Ar.av), .lst false 19 (p.body.map Sm.av)] := rfl;unfold Pg.av;rw [hc];refine rA ?_;try simp
 intro g1 g2 h2;have hne : g2 ≠ g1 := by rintro rfl; simp [zia] at h2
 refine rA ?_;simp [zia, hne, hne.symm];refine wA ?_;refine xlc p.arrs s ht (by simp [zia]) fun m' hE => ?_;try simp
 exact AWp.ret (pR1 rfl (by simp [Pg.arrNames]))
theorem xpb (p : Pg) (l : List ByteArray) (ht : p.arrs.length <= 1048576) (hl : l.length <= 16777216) : zca Tryz.prog 136 [p.av, strs l] (.tup [.bool (l.all p.isArr), .bool (l.any p.isArr)]) := by
 refine pO Tryz.func136 ?_;unfold Pg.av;have c1 := fun s => yxc p s ht;unfold Pg.av at c1;refine rA ?_;try simp
 intro g;refine rA ?_;try simp
 refine rA ?_;simp [strs];(repeat refine qA ?_);refine AWp.block (AWp.ro (fun m st => ∃ (i : Nat), m = l.length - i /\ i <= l.length /\ st.sl 2 = .ptr g 0 /\ st.mem g = some (.box p.cells) /\ st.sl 11 = .lst false 1 (l.map .str) /\ st.sl 12 = .int .i64 l.length /\ st.sl 13 = .int .i64 i /\ st.sl 6 = .bool ((l.take i).all p.isArr) /\ st.sl 7 = .bool ((l.take i).any p.isArr)) l.length ⟨0, by simp, by simp, by simp, by simp, by simp, by simp, by simp, by simp, by simp⟩ ?_);rintro R m st hR ⟨i, rfl, hi, s2, sg, s11, s12, s13, s6, s7⟩;refine rA ?_;simp [s11, s12, s13];(repeat refine qA ?_);refine AWp.cond (b := decide (i < l.length)) (by simp) (fun hb => ?_) (fun hb => ?_)
 ·simp at hb;have hg : l[i]? = some l[i] := gE hb;have hx : ∀ m, yga Tryz.prog m 70 (.lst false 1 (l.map .str)) (.int .i64 i) = some (.ref [.str l[i]]) := fun m => idx (y := .str l[i]) es_70 (by simp [hg]);have hi2 := zcb l[i] p.arrNames 0;have hyes : decide (0 <= at_ p.arrNames l[i]) = p.isArr l[i] := by
   unfold Pg.isArr at_;cases hh : has p.arrNames l[i] with
   | true => simpa using hi2.2 hh
   | false =>
    have : ¬ 0 <= xNa 0 p.arrNames l[i] := fun k => by rw [hi2.1 k] at hh; cases hh
    simpa using this
  have hw := iA i (by omega);have e1 : (l.take (i + 1)).all p.isArr = ((l.take i).all p.isArr && p.isArr l[i]) := by rw [List.take_add_one, hg, List.all_append]; simp
  have e2 : (l.take (i + 1)).any p.isArr = ((l.take i).any p.isArr || p.isArr l[i]) := by rw [List.take_add_one, hg, List.any_append]; simp
  refine kA ?_;try simp
  (repeat refine qA ?_);refine bA ?_;refine rA ?_;simp [s11, s13, hx];refine raA ?_;simp [s2, sg];refine oC' (c1 l[i]) ?_;simp [hyes];generalize (l.take i).all p.isArr = u1 at *;generalize (l.take i).any p.isArr = u2 at *;generalize p.isArr l[i] = u3 at *;cases u1 <;> cases u2 <;> cases u3 <;>
  ·refine rA ?_;simp [s6];refine rA ?_;simp [s7];refine rA ?_;simp [s13, hw];exact hR _ (l.length - (i + 1)) (by omega) ⟨i + 1, rfl, hb, by simp [s2], by simp [sg], by simp [s11], by simp [s12], by simp, by simp [e1, s6], by simp [e2, s7]⟩
 simp at hb;refine eA ?_;try simp
 refine rA ?_;have : i = l.length := by omega
 subst this;rw [List.take_length] at s6 s7;simp [s6, s7];exact AWp.ret (yWb rfl (by simp) (by simp))
end Go.T
namespace Go.T
open Go Go.Proofs
set_option maxRecDepth 10000
set_option maxHeartbeats 1000000
theorem zGe (a q : ByteArray) : (Op.bytesLess a.toList q.toList || decide (a = q)) = !blt q a := by
 show (blt a q || decide (a = q)) = !blt q a;by_cases h : a = q
 ·subst h; simp [yka]
 cases h1 : blt a q with
 | true =>
  cases h2 : blt q a with
  | true => have := wla h1 h2; rw [yka] at this; cases this
  | false => rfl
 | false => rw [wPb h h1]; simp [h]
theorem x9d (A : List Ar) (ht : zAa Ar.tot A <= 1048576) : zca Tryz.prog 80 [.lst false 2 (A.map Ar.av)] (.bool (zqa none A && decide (A.length <= 4))) := by
 have h1 := zua Ar.tot A;refine pO Tryz.func80 ?_;refine rA ?_;try simp
 refine rA ?_;try simp
 (try refine qA ?_)
 refine AWp.cA (fun st => st.sl 0 = .lst false 2 (A.map Ar.av) /\ zqa none A = true) ?_ ?_
 ·refine AWp.block (AWp.ro (fun m st => ∃ (i : Nat) (pr : Option ByteArray), m = A.length - i /\ i <= A.length /\ st.sl 0 = .lst false 2 (A.map Ar.av) /\ st.sl 5 = .lst false 2 (A.map Ar.av) /\ st.sl 6 = .int .i64 A.length /\ st.sl 7 = .int .i64 i /\ Ahead A i pr /\ zqa none A = zqa pr (A.drop i)) A.length ⟨0, none, by simp, by simp, by simp, by simp, by simp, by simp, .inl ⟨rfl, rfl⟩, by simp⟩ ?_);rintro R m st hR ⟨i, pr, rfl, hi, s0, s5, s6, s7, hah, hr⟩;refine rA ?_;simp [s5, s6, s7];(repeat refine qA ?_);refine AWp.cond (b := decide (i < A.length)) (by simp) (fun hb => ?_) (fun hb => ?_)
  ·simp at hb;have hg : A[i]? = some A[i] := gE hb;have hx : ∀ m, yga Tryz.prog m 29 (.lst false 2 (A.map Ar.av)) (.int .i64 i) = some (.ref [.str A[i].s, .int .i64 A[i].n]) := fun m => idx (y := A[i].av) es_29 (by simp [hg]);have hw := iA i (by omega);have htm := zoa Ar.tot (List.getElem_mem hb);have hs : A[i].s.size <= 9223372036854775806 := by unfold Ar.tot at htm ht h1; omega
   rw [yqc _ _ hb] at hr;have hnx := wwb A i hb;refine kA ?_;try simp
   refine qA ?_;refine AWp.cA (fun st => st.sl 0 = .lst false 2 (A.map Ar.av) /\ st.sl 5 = .lst false 2 (A.map Ar.av) /\ st.sl 6 = .int .i64 A.length /\ st.sl 7 = .int .i64 i /\ zqa none A = zqa (some A[i].s) (A.drop (i + 1))) ?_ ?_
   ·refine bA ?_;refine rA ?_;simp [s5, s7, hx];intro g hgf;try simp [zia, xFa]
    have hgg : (st.mem.set g (.box [.str A[i].s, .int .i64 A[i].n])) g = some (.box [.str A[i].s, .int .i64 A[i].n]) := zaa _ _ _;generalize st.mem.set g (.box [.str A[i].s, .int .i64 A[i].n]) = m1 at *;refine raA ?_;simp [hgg];refine oC' (zpa _ hs) ?_;cases x1 : zxa A[i].s
    ·rw [x1] at hr;have hph : zqa none A = false := by rw [hr]; rfl
     try simp
     refine tA ?_;refine rA ?_;try simp
     exact AWp.ret (pR1 rfl (by simp [hph]))
    rw [x1] at hr;simp [hgg];refine oC' (zza _ _ _) ?_;cases x2 : inR A[i].n 1 16
    ·rw [x2] at hr;have hph : zqa none A = false := by rw [hr]; rfl
     try simp
     refine tA ?_;refine rA ?_;try simp
     exact AWp.ret (pR1 rfl (by simp [hph]))
    rw [x2] at hr;rcases hah with ⟨rfl, rfl⟩ | ⟨a, hi0, ha, rfl⟩
    ·simp [s0, s7, hgg];refine fA ?_;refine kA ?_;simp at hr;simp [s0, s5, s6, s7, hr]
    replace hr : zqa none A = (true && (true && (blt a.s A[i].s && zqa (some A[i].s) (A.drop (i + 1))))) := hr;have hxp : ∀ m, yga Tryz.prog m 29 (.lst false 2 (A.map Ar.av)) (.int .i64 ((i - 1 : Nat) : Int)) = some (.ref [.str a.s, .int .i64 a.n]) := fun m => idx (y := a.av) es_29 (by simp [ha]);have hwm : IntKind.wrap .i64 ((i : Int) - 1) = ((i - 1 : Nat) : Int) := by rw [zga (by omega) (by omega)]; omega
    have hi1 : (0 : Int) < i := by omega
    have hbl := zGe A[i].s a.s;simp [s0, s7, hgg, hi0, hi1, hwm, hxp, hbl];cases x3 : blt a.s A[i].s
    ·rw [x3] at hr;have hph : zqa none A = false := by rw [hr]; rfl
     refine tA ?_;refine rA ?_;simp;exact AWp.ret (pR1 rfl (by simp [hph]))
    rw [x3] at hr;refine fA ?_;refine kA ?_;simp at hr;simp [s0, s5, s6, s7, hr]
   clear s0 s5 s6 s7 hr;rintro st ⟨s0, s5, s6, s7, hr⟩;refine rA ?_;simp [s7, hw];exact hR _ (A.length - (i + 1)) (by omega) ⟨i + 1, _, rfl, hb, by simp [s0], by simp [s5], by simp [s6], by simp, hnx, hr⟩
  simp at hb;refine eA ?_;have : i = A.length := by omega
  subst this;simp [zqa] at hr;simp [s0, hr]
 rintro st ⟨s0, hA⟩;refine rA ?_;simp [s0];by_cases l1 : A.length <= 4
 ·have l1' : (A.length : Int) <= 4 := by omega
  exact AWp.ret (pR1 rfl (by simp [hA, l1, l1']))
 have l1' : ¬ (A.length : Int) <= 4 := by omega
 exact AWp.ret (pR1 rfl (by simp [hA, l1, l1']))
theorem View.freezeBox {m : Mem} {g : Nat} {cs : List AV} (hg : m g = some (.box cs)) : View m (.ptr g 0) (m.del g) (.ref cs) := fun w S v h1 h2 => by
 obtain ⟨T, vs, hb, hr⟩ := h1.blk g _ hg;have hSS : ∀ b, S b -> S b ∨ b = g := fun b hb => .inl hb;refine ⟨fun b => S b ∨ b = g, hSS, fun b hb => hb.imp id (fun h => by rw [h, hg]; simp), ⟨fun g' b' hg' => ?_, fun b hb' => ?_⟩, ?_, fun g' b' hg' => ?_⟩
 ·unfold Mem.del at hg';split at hg'
  ·cases hg'
  exact (h1.blk g' b' hg').mono (fun _ _ => rfl) hSS rfl
 ·rcases hb' with hb' | rfl
  ·refine ⟨?_, (h1.apart b hb').2⟩;unfold Mem.del;split
   ·rfl
   exact (h1.apart b hb').1
  exact ⟨by simp [Mem.del], (Array.getElem?_eq_some_iff.1 hb).1⟩
 ·cases h2;exact .ref g 0 (.inr rfl) (Cells.of_block hb (hr.mono (fun _ _ => rfl) hSS) 0 (fun i v hv => by simpa using hv))
 unfold Mem.del at hg';split at hg'
 ·cases hg'
 rw [hg']; simp
theorem wzb (l : List Sm) (ht : zAa Sm.tot l <= 1048576) (h : ∀ x ∈ l, ∀ ns : List ByteArray, ns.length + zAa Sm.tot x.body <= 2097152 -> zca Tryz.prog 141 [.lst false 19 (x.body.map Sm.av), strs ns] (.bool (Sm.nests x.body ns)))
  (ns : List ByteArray) (hb : ns.length + zAa Sm.tot l <= 2097152) : zca Tryz.prog 141 [.lst false 19 (l.map Sm.av), strs ns] (.bool (Sm.nests l ns)) := by
 have hlen := zua Sm.tot l;refine pO Tryz.func141 ?_;have c1 := fun s => wub ns s (by omega);refine rA ?_;try simp
 refine rA ?_;try simp
 (repeat refine qA ?_);refine AWp.block (AWp.ro (fun m st => ∃ (i : Nat), m = l.length - i /\ i <= l.length /\ st.sl 7 = .lst false 19 (l.map Sm.av) /\ st.sl 8 = .int .i64 l.length /\ st.sl 1 = strs ns /\ st.sl 9 = .int .i64 i /\ Sm.nests l ns = Sm.nests (l.drop i) ns) l.length ⟨0, by simp, by simp, by simp, by simp, by simp, by simp, by simp⟩ ?_);rintro R m st hR ⟨i, rfl, hi, s7, s8, s1, s9, hr⟩;refine rA ?_;simp [s7, s8, s9];(repeat refine qA ?_);refine AWp.cond (b := decide (i < l.length)) (by simp) (fun hb => ?_) (fun hb => ?_)
 ·simp at hb;have hg : l[i]? = some l[i] := gE hb;have hdr : l.drop i = l[i] :: l.drop (i + 1) := List.drop_eq_getElem_cons hb;have htm := zoa Sm.tot (List.getElem_mem hb);have htb := l[i].tot_body;have hx : ∀ m, yga Tryz.prog m 30 (.lst false 19 (l.map Sm.av)) (.int .i64 i) = some (.ref l[i].cells) := fun m => idx (y := l[i].av) es_30 (by simp [hg]);have hw := iA i (by omega);have hz : Sm.nests l ns = ((decide (l[i].k ≠ 3) || (!has ns l[i].s && Sm.nests l[i].body (ns ++ [l[i].s]))) && Sm.nests (l.drop (i + 1)) ns) := by rw [hr, hdr, Sm.nests, Sm.nest_eq]
  refine kA ?_;try simp
  (repeat refine qA ?_);refine bA ?_;refine rA ?_;simp [s7, s9, hx];intro g hgf;try simp [zia, xFa]
  have hgg : (st.mem.set g (.box l[i].cells)) g = some (.box l[i].cells) := zaa _ _ _;generalize st.mem.set g (.box l[i].cells) = m1 at *;refine rA ?_;simp [hgg];(repeat refine qA ?_);refine AWp.cond (b := !decide (l[i].k = 3)) (by simp) (fun hk => ?_) (fun hk => ?_)
  ·simp at hk;refine eA ?_;try simp
   refine rA ?_;simp [s9, hw];exact hR _ (l.length - (i + 1)) (by omega) ⟨i + 1, rfl, hb, by simp [s7], by simp [s8], by simp [s1], by simp, by rw [hz]; simp [hk]⟩
  simp at hk;refine kA ?_;try simp
  refine AWp.se (Sees.view (t := 6) (m' := m1.del g) (r' := .ref l[i].cells) (by simpa using View.freezeBox hgg)) ?_;try simp
  generalize hst : (St.mk _ _ : St) = st2;have t6 : st2.sl 6 = .ref l[i].cells := by rw [<- hst]; simp
  have t7 : st2.sl 7 = .lst false 19 (l.map Sm.av) := by rw [<- hst]; simp [s7]
  have t8 : st2.sl 8 = .int .i64 l.length := by rw [<- hst]; simp [s8]
  have t1 : st2.sl 1 = strs ns := by rw [<- hst]; simp [s1]
  have t9 : st2.sl 9 = .int .i64 i := by rw [<- hst]; simp [s9]
  clear hst;(repeat refine qA ?_);refine AWp.regionF (fun i => i == 3) (fun i => i == 2 || i == 6 || i == 10) [0, 1, 2, 3, 4, 5, 6, 9, 10, 11, 7, 8, 12, 13, 14, 15] (by kernel_rfl) ?_;simp [t1, t6];refine oC' (c1 _) ?_;cases hh : has ns l[i].s
  ·simp [t1, t6];refine wA ?_;refine zFe ns (by omega) fun v1 m2 h1 => ?_;try simp
   refine GO.app h1 true [l[i].s] (by simp; omega) fun v2 m3 h2 => ?_;try simp
   refine wA ?_;refine zca.viewed (l := [.lst false 19 (l[i].body.map Sm.av)]) (l' := []) (h l[i] (List.getElem_mem _) (ns ++ [l[i].s]) (by simp; omega)) (by simpa using h2.view) ?_;try simp
   (repeat refine qA ?_);refine AWp.cond (b := !Sm.nests l[i].body (ns ++ [l[i].s])) (by simp) (fun he => ?_) (fun he => ?_)
   ·simp at he;refine rA ?_;try simp
    exact AWp.ret (pR1 rfl (by simp only [yYa, reduceIte]; rw [hz, hh, he]; simp [hk]))
   simp at he;refine kA ?_;try simp
   refine rA ?_;simp [t9, hw];exact hR _ (l.length - (i + 1)) (by omega) ⟨i + 1, rfl, hb, by simp [t7], by simp [t8], by simp [t1], by simp, by rw [hz, hh, he]; simp⟩
  simp;refine tA ?_;refine rA ?_;try simp
  exact AWp.ret (pR1 rfl (by simp only [yYa, reduceIte]; rw [hz, hh]; simp [hk]))
 simp at hb;refine eA ?_;try simp
 refine rA ?_;try simp
 have : i = l.length := by omega
 subst this;exact AWp.ret (pR1 rfl (by simp only [yYa, reduceIte]; rw [hr]; simp [Sm.nests]))
theorem zdd (e : Sm) : e.tot <= 1048576 -> ∀ ns : List ByteArray, ns.length + zAa Sm.tot e.body <= 2097152 -> zca Tryz.prog 141 [.lst false 19 (e.body.map Sm.av), strs ns] (.bool (Sm.nests e.body ns)) := by
 induction e using Sm.ind' with | h e h =>
 intro ht;have := e.tot_body;exact wzb e.body (by omega) (fun x hx => h x hx (by have := zoa Sm.tot hx; omega))
theorem yPd (l : List Sm) (ht : zAa Sm.tot l <= 1048576) (ns : List ByteArray) (hb : ns.length + zAa Sm.tot l <= 2097152) : zca Tryz.prog 141 [.lst false 19 (l.map Sm.av), strs ns] (.bool (Sm.nests l ns)) :=
 wzb l ht (fun x hx => zdd x (by have := zoa Sm.tot hx; omega)) ns hb
theorem yQd (p : Pg) (ht : p.tot <= 1048576) : zca Tryz.prog 83 [p.av] (.bool p.namesB) := by
 have h2 := zua Sm.tot p.body;have h3 : p.tot = zAa Ar.tot p.arrs + zAa Sm.tot p.body := rfl;obtain ⟨L0, L1, L3, L2, L4⟩ := p.lens ht;have L42 := L4 2;have L43 := L4 3;have hc : p.cells = [.lst false 2 (p.arrs.map Ar.av), .lst false 19 (p.body.map Sm.av)] := rfl;have cV := zgc p.body (by omega);have cL := xob p.body (by omega);have cA := yuc p.body (by omega);have cP := xnb p.body 2 (by omega);have cQ := ydb p.body 3 (by omega);rw [web] at cQ;have cN := (yPd p.body (by omega) [] (by simp; omega)).arg (args := [.lst false 19 (p.body.map Sm.av), .lst true 0 []]) (.cons (Le.refl _) (.cons (Le.nil _ _ _) .nil));have d1 := xpb p p.puts L0 (by omega);have d2 := xpb p (p.asked 3) L0 (by omega);have d3 := xpb p [p.vars, p.loops, p.asked 2].flatten L0 (by simp; omega);have cC := yMd [p.vars, p.loops, p.asked 2] true (by simp [zYa]; omega) (by simp);have cO := fun s => wub p.vars s (by omega)
 change zca _ _ _ (strs p.vars) at cV
 change zca _ _ _ (strs p.loops) at cL
 change zca _ _ _ (strs (p.asked 2)) at cA
 change zca _ _ _ (strs p.puts) at cP
 change zca _ _ _ (strs (p.asked 3)) at cQ
 simp only [List.map_cons, List.map_nil] at cC;have hother : [p.vars, p.loops, p.asked 2].flatten.any p.isArr = (p.vars.any p.isArr || (p.loops.any p.isArr || (p.asked 2).any p.isArr)) := by simp
 rw [hother] at d3;generalize [p.vars, p.loops, p.asked 2].flatten = names3 at d3 cC;generalize names3.all p.isArr = all3 at d3;generalize (p.asked 3).any p.isArr = any1 at d2;generalize p.puts.any p.isArr = any2 at d1;unfold strs at *;refine pO Tryz.func83 ?_;unfold Pg.av at *;rw [hc] at *;refine rA ?_;try simp
 intro g;(repeat refine qA ?_);refine AWp.regionF (fun _ => true) (fun _ => false) [0, 1, 2, 3, 4, 5, 6, 7] (by kernel_rfl) ?_;try simp
 refine oC' cV ?_;try simp
 refine oC' cL ?_;try simp
 refine rA ?_;try simp
 (try refine qA ?_)
 refine AWp.cA (fun st => st.sl 1 = .ptr g 0 /\ st.mem g = some (.box [.lst false 2 (p.arrs.map Ar.av), .lst false 19 (p.body.map Sm.av)]) /\ st.sl 3 = .lst false 1 (p.vars.map .str) /\ st.sl 4 = .lst false 1 (p.loops.map .str) /\ p.loops.any (fun x => has p.vars x) = false) ?_ ?_
 ·refine AWp.block (AWp.ro (fun k st => ∃ (i : Nat), k = p.loops.length - i /\ i <= p.loops.length /\ st.sl 1 = .ptr g 0 /\ st.mem g = some (.box [.lst false 2 (p.arrs.map Ar.av), .lst false 19 (p.body.map Sm.av)]) /\ st.sl 3 = .lst false 1 (p.vars.map .str) /\ st.sl 4 = .lst false 1 (p.loops.map .str) /\ st.sl 19 = .lst false 1 (p.loops.map .str) /\ st.sl 20 = .int .i64 p.loops.length /\ st.sl 21 = .int .i64 i /\
   p.loops.any (fun x => has p.vars x) = (p.loops.drop i).any (fun x => has p.vars x)) p.loops.length ⟨0, by simp, by simp, by simp, by simp, by simp, by simp, by simp, by simp, by simp, by simp⟩ ?_)
  rintro R k st hR ⟨i, rfl, hi, s1, sg, s3, s4, s19, s20, s21, hr⟩;refine rA ?_;simp [s19, s20, s21];(repeat refine qA ?_);refine AWp.cond (b := decide (i < p.loops.length)) (by simp) (fun hb => ?_) (fun hb => ?_)
  ·simp at hb;have hg : p.loops[i]? = some p.loops[i] := gE hb;have hdr : p.loops.drop i = p.loops[i] :: p.loops.drop (i + 1) := List.drop_eq_getElem_cons hb;have hx : ∀ m, yga Tryz.prog m 70 (.lst false 1 (p.loops.map .str)) (.int .i64 i) = some (.ref [.str p.loops[i]]) := fun m => idx (y := .str p.loops[i]) es_70 (by simp [hg]);have hw := iA i (by omega);rw [hdr, List.any_cons] at hr;refine kA ?_;try simp
   (repeat refine qA ?_);refine bA ?_;refine rA ?_;simp [s19, s21, hx];refine raA ?_;simp [s3];refine oC' (cO p.loops[i]) ?_;try simp
   (repeat refine qA ?_);refine AWp.cond (b := has p.vars p.loops[i]) (by simp) (fun he => ?_) (fun he => ?_)
   ·refine rA ?_;try simp
    rw [he, Bool.true_or] at hr;have hnb : p.namesB = false := by unfold Pg.namesB; rw [hr]; simp
    exact AWp.ret (pR1 rfl (by simp [hnb]))
   refine kA ?_;try simp
   refine rA ?_;simp [s21, hw];exact hR _ (p.loops.length - (i + 1)) (by omega) ⟨i + 1, rfl, hb, by simp [s1], by simp [sg], by simp [s3], by simp [s4], by simp [s19], by simp [s20], by simp, by rw [hr, he, Bool.false_or]⟩
  simp at hb;refine eA ?_;have : i = p.loops.length := by omega
  subst this;rw [List.drop_length, List.any_nil] at hr;simp [s1, sg, s3, s4];simpa using hr
 rintro st ⟨s1, sg, s3, s4, hap⟩;(repeat refine qA ?_);refine AWp.rG (fun _ => true) (fun _ => false) [0, 1, 2, 3, 4, 5, 6, 7, 8, 9] [0, 1, 2, 3, 4, 5, 6, 8, 7, 9] (by kernel_rfl) ?_;simp [s1, sg];refine oC' cQ ?_;try simp
 refine oC' d2 ?_;try simp
 (repeat refine qA ?_);refine AWp.rG (fun _ => true) (fun _ => false) [0, 1, 2, 3, 4, 5, 6, 7, 8, 9] [0, 1, 2, 3, 4, 5, 6, 8, 7, 9] (by kernel_rfl) ?_;simp [s1, sg];refine oC' cP ?_;try simp
 refine oC' d1 ?_;try simp
 (repeat refine qA ?_);refine AWp.rG (fun _ => true) (fun _ => false) [0, 1, 2, 3, 4, 5, 6, 7, 8, 9, 10, 11, 12, 13] [0, 1, 2, 3, 4, 5, 6, 7, 8, 9, 10, 12, 11, 13] (by kernel_rfl) ?_;simp [s1, s3, s4, sg];refine oC' cA ?_;simp [s1, s3, s4, sg];refine oC' cC ?_;try simp
 refine oC' d3 ?_;try simp
 unfold Pg.namesB;rw [hap];refine raA ?_;cases v2 : (p.asked 3).all p.isArr
 ·simp [s1, s3, sg];exact AWp.ret (pR1 rfl (by simp [v2]))
 cases v1 : p.puts.all p.isArr
 ·simp [s1, s3, sg];exact AWp.ret (pR1 rfl (by simp [v1]))
 cases v3 : p.vars.any p.isArr;rotate_left
 ·simp [s1, s3, sg];exact AWp.ret (pR1 rfl (by simp [v3]))
 cases v4 : p.loops.any p.isArr;rotate_left
 ·simp [s1, s3, sg];exact AWp.ret (pR1 rfl (by simp [v4]))
 cases v5 : (p.asked 2).any p.isArr;rotate_left
 ·simp [s1, s3, sg];exact AWp.ret (pR1 rfl (by simp [v5]))
 by_cases v8 : p.vars.length <= 6;rotate_left
 ·have w8 : ¬ (p.vars.length : Int) <= 6 := by omega
  simp [s1, s3, sg, w8];exact AWp.ret (pR1 rfl (by simp [v8]))
 have w8 : (p.vars.length : Int) <= 6 := by omega
 simp [s1, s3, sg, w8];refine oC' cN ?_;try simp
 exact AWp.ret (pR1 rfl (by simp [v1, v2, v3, v4, v5, v8]))
theorem x8a (p : Pg) (ht : p.tot <= 1048576) : zca Tryz.prog 27 [p.av] (.bool p.ok) := by
 have h1 := zua Ar.tot p.arrs;have h2 := zua Sm.tot p.body;have h3 : p.tot = zAa Ar.tot p.arrs + zAa Sm.tot p.body := rfl;have hc : p.cells = [.lst false 2 (p.arrs.map Ar.av), .lst false 19 (p.body.map Sm.av)] := rfl;have cH := x9d p.arrs (by omega);have cZ := xib p.body (by omega);have cN := yQd p ht;refine pO Tryz.func27 ?_;unfold Pg.av at *;rw [hc] at *;refine rA ?_;try simp
 intro g;have hbad : p.head = false -> p.ok = false := fun h => by unfold Pg.ok; rw [h]; rfl
 refine raA ?_;try simp
 refine oC' cH ?_;cases x1 : (zqa none p.arrs && decide (p.arrs.length <= 4))
 ·have hz : p.ok = false := hbad (by unfold Pg.head; rw [<- Bool.and_assoc, x1]; rfl);try simp
  refine tA ?_;refine rA ?_;try simp
  exact AWp.ret (pR1 rfl (by simp [hz]))
 by_cases l2 : p.body.length <= 12;rotate_left
 ·have l2' : (12 : Int) < p.body.length := by omega
  have hz : p.ok = false := hbad (by unfold Pg.head; simp [l2]);simp [l2'];refine tA ?_;refine rA ?_;try simp
  exact AWp.ret (pR1 rfl (by simp [hz]))
 have l2' : ¬ (12 : Int) < p.body.length := by omega
 simp [l2'];refine oC' cZ ?_;by_cases l3 : zYa Sm.size p.body <= 40;rotate_left
 ·have l3' : (40 : Int) < zYa Sm.size p.body := by omega
  have hz : p.ok = false := hbad (by unfold Pg.head; simp [l3]);simp [l3'];refine tA ?_;refine rA ?_;try simp
  exact AWp.ret (pR1 rfl (by simp [hz]))
 have l3' : ¬ (40 : Int) < zYa Sm.size p.body := by omega
 simp [l3'];refine fA ?_;refine kA ?_;try simp
 refine rA ?_;try simp
 (try refine qA ?_)
 refine AWp.cA (fun st => st.sl 1 = .ptr g 0 /\ st.mem g = some (.box [.lst false 2 (p.arrs.map Ar.av), .lst false 19 (p.body.map Sm.av)]) /\ p.body.all Sm.ok = true) ?_ ?_
 ·refine AWp.block (AWp.ro (fun k st => ∃ (i : Nat), k = p.body.length - i /\ i <= p.body.length /\ st.sl 1 = .ptr g 0 /\ st.mem g = some (.box [.lst false 2 (p.arrs.map Ar.av), .lst false 19 (p.body.map Sm.av)]) /\ st.sl 22 = .lst false 19 (p.body.map Sm.av) /\ st.sl 23 = .int .i64 p.body.length /\ st.sl 24 = .int .i64 i /\ p.body.all Sm.ok = (p.body.drop i).all Sm.ok) p.body.length ⟨0, by simp, by simp, by simp, by simp, by simp, by simp, by simp, by simp⟩ ?_);rintro R k st hR ⟨i, rfl, hi, s1, sg, s22, s23, s24, hr⟩;refine rA ?_;simp [s22, s23, s24];(repeat refine qA ?_);refine AWp.cond (b := decide (i < p.body.length)) (by simp) (fun hb => ?_) (fun hb => ?_)
  ·simp at hb;have hg : p.body[i]? = some p.body[i] := gE hb;have hdr : p.body.drop i = p.body[i] :: p.body.drop (i + 1) := List.drop_eq_getElem_cons hb;have hx : ∀ m, yga Tryz.prog m 30 (.lst false 19 (p.body.map Sm.av)) (.int .i64 i) = some (.ref p.body[i].cells) := fun m => idx (y := p.body[i].av) es_30 (by simp [hg]);have hw := iA i (by omega);have htm := zoa Sm.tot (List.getElem_mem hb);rw [hdr, List.all_cons] at hr;refine kA ?_;try simp
   (repeat refine qA ?_);refine bA ?_;refine rA ?_;simp [s22, s24, hx];intro g2 hgf;try simp [zia, xFa]
   have hgg : (st.mem.set g2 (.box p.body[i].cells)) g2 = some (.box p.body[i].cells) := zaa _ _ _;have hsg : (st.mem.set g2 (.box p.body[i].cells)) g = some (.box [.lst false 2 (p.arrs.map Ar.av), .lst false 19 (p.body.map Sm.av)]) := by
    rw [zia, if_neg]
    ·exact sg
    rintro rfl; rw [hgf] at sg; cases sg
   generalize st.mem.set g2 (.box p.body[i].cells) = m1 at *;refine raA ?_;simp [hgg];refine oC' (zcc p.body[i] (by omega)) ?_;try simp
   (repeat refine qA ?_);refine AWp.cond (b := !p.body[i].ok) (by simp) (fun he => ?_) (fun he => ?_)
   ·simp at he;refine rA ?_;try simp
    have hz : p.ok = false := hbad (by unfold Pg.head; rw [hr, he]; simp);exact AWp.ret (pR1 rfl (by simp [hz]))
   simp at he;refine kA ?_;try simp
   refine rA ?_;simp [s24, hw];exact hR _ (p.body.length - (i + 1)) (by omega) ⟨i + 1, rfl, hb, by simp [s1], by simp [hsg], by simp [s22], by simp [s23], by simp, by rw [hr, he, Bool.true_and]⟩
  simp at hb;refine eA ?_;have : i = p.body.length := by omega
  subst this;simp only [List.drop_length, List.all_nil] at hr;simp [s1, sg];simpa using hr
 rintro st ⟨s1, sg, hB⟩;have hok : p.ok = p.namesB := by
  unfold Pg.ok Pg.head;rw [<- Bool.and_assoc, x1, hB];simp [l2, l3]
 refine raA ?_;simp [s1, sg];refine oC' cN ?_;try simp
 exact AWp.ret (pR1 rfl (by simp [hok]))



section
variable {H : Type} {enc : TypeId × Value -> H} {W : World}
end

def z5e (n : Int) : Bool := inR n (-2147483648) 2147483647
theorem wad (n : Int) : zca Tryz.prog 152 [.int .i64 n] (.bool (z5e n)) := by
 have c1 := zza n (-2147483648) 2147483647;refine pO Tryz.func152 ?_;repeat' (first|refine qA ?_|((first|refine raA ?_|refine gA ?_|refine oC' (c1) ?_);simp)|((first|refine kA ?_|refine eA ?_);try simp)|refine bA ?_|(refine AWp.ret (pR1 rfl ?_); (simp [z5e]; done))|((first|refine zja ?_ ?_|refine cRI ?_ ?_)<;>intro hq<;>(try simp at hq)<;>(try simp))|(refine zWa ?_ ?_<;>intro hq<;>(try simp)))
end Go.T
namespace Go.T
open Go Go.Proofs
set_option maxRecDepth 10000
set_option maxHeartbeats 1000000
open Go Go.Sort
theorem wOa (n : Int) (h0 : -9223372036854775808 <= n) (h1 : n <= 9223372036854775807) : zca Tryz.prog 38 [.int .i64 n] (.str (xNc n)) := by
 refine pO Tryz.func38 ?_;refine rA ?_;try simp
 refine rA ?_;simp;by_cases hz : n = 0
 ·(repeat refine qA ?_);refine AWp.condT (by simp [hz]) ?_;refine rA ?_;simp;refine AWp.ret (pR1 rfl ?_);subst hz;simp [xNc, z6d];try rfl
 (repeat refine qA ?_);refine AWp.condF (by simp [hz]) ?_;refine kA ?_;try simp
 refine rA ?_;simp;refine rA ?_;simp
 (try refine qA ?_)
 refine AWp.cA (fun st => st.sl 0 = .int .i64 n /\ st.sl 3 = .str ⟨(dig n.natAbs).toArray⟩) ?_ ?_
 ·refine AWp.block (AWp.ro (fun k st => ∃ (v : Int) (s : List UInt8), k = v.natAbs /\ v.natAbs <= n.natAbs /\ (-9223372036854775808 <= v /\ v <= 9223372036854775807) /\ dig v.natAbs ++ s = dig n.natAbs /\ st.sl 0 = .int .i64 n /\ st.sl 3 = .str ⟨s.toArray⟩ /\ st.sl 4 = .int .i64 v) n.natAbs ⟨n, [], rfl, Nat.le_refl _, ⟨h0, h1⟩, by simp, by simp, by simp; try rfl, by simp⟩ ?_);rintro RR k st hR ⟨v, s, rfl, hvn, hvb, hd, s0, s3, s4⟩;by_cases hv : v = 0
  ·refine rA ?_;simp [s4, hv];refine fA ?_;refine eA ?_;subst hv;simp [dig] at hd;simp [s0, s3, hd, dig]
  have e1 := yIe v;have e2 := yHe v;have hne : v.natAbs ≠ 0 := by omega
  have hstep := xMc hne;have hlt : v.natAbs % 10 < 10 := Nat.mod_lt _ (by omega);refine rA ?_;simp [s4, hv];refine tA ?_;refine kA ?_;try simp
  (repeat refine qA ?_);refine bA ?_;refine rA ?_;simp [s4];generalize v.tmod 10 = t at *;refine rA ?_;simp
  (try refine qA ?_)
  refine AWp.cA (fun st' => st'.sl 0 = .int .i64 n /\ st'.sl 3 = .str ⟨s.toArray⟩ /\ st'.sl 4 = .int .i64 v /\ st'.sl 5 = .int .i64 (v.natAbs % 10 : Nat)) ?_ ?_
  ·by_cases ht : t < 0
   ·have hw : IntKind.wrap .i64 (0 - t) = ((v.natAbs % 10 : Nat) : Int) := by rw [zga (by omega) (by omega)]; omega
    have hw' : IntKind.wrap .i64 (-t) = ((v.natAbs % 10 : Nat) : Int) := by rw [zga (by omega) (by omega)]; omega
    refine AWp.condT (by simp [ht]) ?_;refine rA ?_;simp [s0, s3, s4, hw, hw']
   have ht' : t = ((v.natAbs % 10 : Nat) : Int) := by omega
   refine AWp.condF (by simp [ht]) ?_;refine kA ?_;simp [s0, s3, s4, ht']
  rintro st' ⟨q0, q3, q4, q5⟩;have hb1 := z7d (v.natAbs % 10) hlt;generalize v.natAbs % 10 = d at *;have hw : IntKind.wrap .i64 (48 + (d : Int)) = 48 + (d : Int) := zga (by omega) (by omega);have hw8 : IntKind.wrap .u8 (48 + (d : Int)) = 48 + (d : Int) := by rw [IntKind.wrap_u8]; omega
  have hlen : s.length <= 19 := by
   have := xOc h0 h1;rw [<- hd] at this;simp at this;omega
  refine rA ?_;have hle : 1 + s.length <= 9223372036854775807 := by omega
  simp [q5, q3, hw, hw8, hb1, yJb, yia, zwd, wzc, wVe, zUa, hle];have hwq : IntKind.wrap .i64 (v.tdiv 10) = v.tdiv 10 := zga (by omega) (by omega);refine rA ?_;simp [q4, hwq];exact hR _ (v.tdiv 10).natAbs (by omega) ⟨v.tdiv 10, UInt8.ofNat (48 + d) :: s, rfl, by omega, by omega, by rw [e2, <- hd, hstep]; simp, by simp [q0], by simp, by simp⟩
 rintro st ⟨s0, s3⟩;refine rA ?_;simp [s0];have hlen := xOc h0 h1;by_cases hneg : n < 0
 ·(repeat refine qA ?_);refine AWp.condT (by simp [hneg]) ?_;refine rA ?_;have hle : 1 + (dig n.natAbs).length <= 9223372036854775807 := by omega
  simp [s3, yia, zwd, wVe, zUa, hle];refine AWp.ret (pR1 rfl ?_);simp [xNc, xLd hneg]
 (repeat refine qA ?_);refine AWp.condF (by simp [hneg]) ?_;refine kA ?_;try simp
 refine rA ?_;simp [s3];refine AWp.ret (pR1 rfl ?_);simp [xNc, xMd (show 0 < n by omega)]
end Go.T
namespace Go.Proofs
open Go.Shelf
shelf_lay LaysM.n171 Nm 171 at Tryz as Tryz.laysItoa -- 94
end Go.Proofs
namespace Go.T
open Go Go.Proofs
set_option maxRecDepth 10000
set_option maxHeartbeats 1000000
open Go Go.Sort Go.Shelf
def TB : Nat := 1
theorem x8c : Tryz.prog.globalNamed "internal/strconv.uint64pow10" = some TB := by kernel_rfl
theorem yOe (n : Int) (h0 : -9223372036854775808 <= n) (h1 : n <= 9223372036854775807) {T : TypeId} {m : Mem} (hm : m TB = some (yba T)) {k : AV -> Mem -> Prop} (hk : k (.str (xNc n)) m) : zka Tryz.prog 94 [.int .i64 n] m k :=
 zge ⟨Tryz.f94, Tryz.func94, by kernel_rfl, by kernel_rfl⟩ x8c (fun n h0 h1 w htab => Any.strconv_Itoa Tryz.laysItoa n h0 h1 w htab) n h0 h1 hm hk
theorem xGa (n : Int) (h0 : -9223372036854775808 <= n) (h1 : n <= 9223372036854775807) {T : TypeId} {m : Mem} (hm : m TB = some (yba T)) {K : AV -> Mem -> Prop} (hK : K (.str (xNc n)) m) : zka Tryz.prog 34 [.int .i64 n] m K := by
 refine wO Tryz.func34 ?_;refine rA ?_;try simp
 refine rA ?_;simp;refine wA ?_;try simp
 refine yOe n h0 h1 hm ?_;try simp
 refine AWp.ret (zea rfl ⟨_, _, View.refl _ _, ?_⟩);simp;exact hK
end Go.T
