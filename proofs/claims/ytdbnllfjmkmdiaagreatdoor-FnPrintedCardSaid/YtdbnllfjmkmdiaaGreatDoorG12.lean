/- What a function is told of, statement by statement, expression by expression. The names of statements and expressions: what the program computes. A list of names cloned; where an array is; are all of these arrays, is any: what the program computes. Programs that are right: what the program computes. Programs that are right: what the program computes, whole. Where all of a program stands: what the program and the reference compute. Bases, words, flags, slots, bars, registers: what the program and the reference compute. Where something of a program stands: what the program and the reference compute. The laws' functions, of where something of a program stands; programs as arguments. What the laws' measuring, copying and comparing functions compute, of machines. Machines that are right: what the program and the reference compute. Numbers and instructions as text. Numbers and instructions as text: the program's hand. Figures; numbers read. -/
import Derived.Test.YtdbnllfjmkmdiaaGreatDoorG11
import Derived.Ground.Names2Prog
import Derived.Shelf.Slices.Clone
import Derived.Test.YtdbnllfjmkmdiaaGreatDoorG5
import Derived.Test.YtdbnllfjmkmdiaaGreatDoorG4
import Derived.Test.YtdbnllfjmkmdiaaGreatDoorG3
import Derived.Test.YtdbnllfjmkmdiaaGreatDoorG9
import Derived.Shelf.Lay
import Derived.Ground.NamesProg
import Derived.Shelf.Strconv.Itoa3
import Derived.WalkKit
import Derived.Shelf.Strings.Search3
set_option linter.unusedSimpArgs false
set_option linter.unusedVariables false
namespace Go.T
open Go Go.Proofs
set_option maxRecDepth 10000
set_option maxHeartbeats 1000000
def Col (m0 : Mem) (gk go : Nat) (q : Int) (xs : List ByteArray) (m : Mem) : Prop := m0 go = none /\ m0 gk = some (.box [.int .i64 q]) /\ ∃ v, m go = some (.box [v]) /\ GO m0 xs v m
theorem Col.fresh {m0 m : Mem} {gk go : Nat} {q : Int} {xs : List ByteArray} (h : Col m0 gk go q xs m) {g : Nat} (hg : m g = none) (b : Blk) : Col m0 gk go q xs (m.set g b) := by
 obtain ⟨h1, h2, v, h3, h4⟩ := h
 refine ⟨h1, h2, v, ?_, h4.fresh hg b⟩
 rw [set_at, if_neg]
 ·exact h3
 rintro rfl; rw [hg] at h3; cases h3
theorem Col.ext {m0 m : Mem} {gk go : Nat} {q : Int} {xs : List ByteArray} (h : Col m0 gk go q xs m) : Ext m0 m := by
 obtain ⟨h1, h2, v, h3, h4⟩ := h
 exact h4.1
theorem Col.keep {m0 m : Mem} {gk go : Nat} {q : Int} {xs : List ByteArray} (h : Col m0 gk go q xs m) {g : Nat} (hg : m g = none) (b : Blk) : Col (m0.set g b) gk go q xs (m.set g b) := by
 obtain ⟨h1, h2, v, h3, h4, h5⟩ := h
 have hgo : go ≠ g := by rintro rfl; rw [hg] at h3; cases h3
 have hgk : gk ≠ g := by rintro rfl; have := h4 _ _ h2; rw [hg] at this; cases this
 refine ⟨by rw [set_at, if_neg hgo]; exact h1, by rw [set_at, if_neg hgk]; exact h2, v, by rw [set_at, if_neg hgo]; exact h3, fun k x hk => ?_, h5.imp id ?_⟩
 ·rw [set_at] at hk ⊢
  by_cases e : k = g
  ·rw [if_pos e] at hk ⊢; exact hk
  rw [if_neg e] at hk ⊢; exact h4 k x hk
 rintro ⟨g', c, a, hb, h0⟩
 have hne : g' ≠ g := by rintro rfl; rw [hg] at hb; cases hb
 exact ⟨g', c, a, by rw [set_at, if_neg hne]; exact hb, by rw [set_at, if_neg hne]; exact h0⟩
theorem Col.less {m0 m : Mem} {gk go : Nat} {q : Int} {xs : List ByteArray} {g : Nat} {b : Blk} (h : Col (m0.set g b) gk go q xs m) (h0 : m0 g = none) (hk : m0 gk = some (.box [.int .i64 q])) : Col m0 gk go q xs m := by
 obtain ⟨h1, h2, v, h3, h4⟩ := h
 have hgo : go ≠ g := by rintro rfl; rw [set_at, if_pos rfl] at h1; cases h1
 rw [set_at, if_neg hgo] at h1
 refine ⟨h1, hk, v, h3, h4.mono fun k x hkx => ?_⟩
 rw [set_at, if_neg]
 ·exact hkx
 rintro rfl; rw [h0] at hkx; cases hkx
theorem Col.push {m0 m : Mem} {gk go : Nat} {q : Int} {xs : List ByteArray} {v : AV} (h1 : m0 go = none) (h2 : m0 gk = some (.box [.int .i64 q])) (h3 : m go = some (.box [v])) (h4 : GO m0 xs v m) (s : ByteArray) (hb : xs.length <= 8388608) {k : AV -> Mem -> Prop}
  (hk : ∀ v' m', m' go = some (.box [v]) -> v'.cells = [v'] -> okCell v' = true -> v' ≠ .undef -> Col m0 gk go q (xs ++ [s]) (m'.set go (.box [v'])) -> k v' m') : appendW Tryz.prog m k #[70, 70] v (.lst true 1 [.str s]) := by
 -- the box is no row, and what is taken is none of its
 have hE : Ext (m0.set go (.box [v])) m := fun g b hg => by
  rw [set_at] at hg
  by_cases e : g = go
  ·subst e; rw [if_pos rfl] at hg; obtain rfl := Option.some.inj hg; exact h3
  rw [if_neg e] at hg; exact h4.1 g b hg
 have h5 : GO (m0.set go (.box [v])) xs v m := by
  refine ⟨hE, h4.2.imp id ?_⟩
  rintro ⟨g, c, a, b, h0⟩
  refine ⟨g, c, a, b, ?_⟩
  rw [set_at, if_neg]
  ·exact h0
  rintro rfl; rw [h3] at b; cases b
 refine h5.app true [s] (by simp; omega) fun v' m' hG => ?_
 have hgo : m' go = some (.box [v]) := hG.1 go _ (set_same _ _ _)
 have hex : Ext m0 m' := fun g b hg => hG.1 g b (by
  rw [set_at, if_neg]
  ·exact hg
  rintro rfl; rw [h1] at hg; cases hg)
 obtain ⟨o1, o2, o3⟩ := hG.ok
 refine hk v' m' hgo o1 o2 o3 ⟨h1, h2, v', set_same _ _ _, hex.set h1 _, hG.2.imp id ?_⟩
 rintro ⟨g, c, a, b, h0⟩
 have hgn : g ≠ go := by rintro rfl; rw [hgo] at b; cases b
 refine ⟨g, c, a, by rw [set_at, if_neg hgn]; exact b, ?_⟩
 rw [set_at, if_neg hgn] at h0
 exact h0
theorem c_namesOf1 (x : Sm) {m0 m : Mem} {gk go : Nat} {q : Int} {xs : List ByteArray} (h : Col m0 gk go q xs m) (hb : xs.length <= 8388608) {K : AV -> Mem -> Prop} (hK : ∀ m', Col m0 gk go q (xs ++ one (x.k = q) x.s) m' -> K (.tup []) m') :
  WCall Tryz.prog 172 [x.av, .ptr gk 0, .ptr go 0] m K := by
 refine wcall_of Tryz.func172 (by kernel_rfl) rfl (by simp [Tryz.f172]) ?_
 unfold Sm.av
 (repeat refine qA ?_);refine rA ?_
 simp
 intro g hg
 have h' := h.fresh hg (.box x.cells)
 obtain ⟨h1, h2, v, h3, h4⟩ := h'
 have hgk : (m.set g (.box x.cells)) gk = some (.box [.int .i64 q]) := h4.1 gk _ h2
 have hgg : (m.set g (.box x.cells)) g = some (.box x.cells) := set_same _ _ _
 generalize m.set g (.box x.cells) = m1 at *
 (repeat refine qA ?_);refine rA ?_
 simp [hgk, hgg]
 (repeat refine qA ?_);refine AWp.cond (b := decide (x.k = q)) (by simp) (fun hk => ?_) (fun hk => ?_)
 ·simp at hk
  (repeat refine qA ?_);refine rA ?_
  simp [h3, hgg]
  refine Col.push h1 h2 h3 h4 x.s hb fun v' m' hgo o1 o2 o3 hC => ?_
  simp [o1, o2, hgo]
  refine post_nrm0 rfl (hK _ ?_)
  have e : one (x.k = q) x.s = [x.s] := by simp [one, hk]
  rw [e]
  exact hC
 simp at hk
 refine kA ?_
 try simp
 refine post_nrm0 rfl ?_
 have e : xs ++ one (x.k = q) x.s = xs := by simp [one, hk]
 refine hK _ ?_
 rw [e]
 exact ⟨h1, h2, v, by simpa using h3, by simpa using h4⟩
theorem c_namesAsked11 (x : Ex) {m0 m : Mem} {gk go : Nat} {q : Int} {xs : List ByteArray} (h : Col m0 gk go q xs m) (hb : xs.length <= 8388608) {K : AV -> Mem -> Prop} (hK : ∀ m', Col m0 gk go q (xs ++ one (x.k = q) x.s) m' -> K (.tup []) m') :
  WCall Tryz.prog 170 [x.av, .ptr gk 0, .ptr go 0] m K := by
 refine wcall_of Tryz.func170 (by kernel_rfl) rfl (by simp [Tryz.f170]) ?_
 unfold Ex.av
 (repeat refine qA ?_);refine rA ?_
 simp
 intro g hg
 have h' := h.fresh hg (.box x.cells)
 obtain ⟨h1, h2, v, h3, h4⟩ := h'
 have hgk : (m.set g (.box x.cells)) gk = some (.box [.int .i64 q]) := h4.1 gk _ h2
 have hgg : (m.set g (.box x.cells)) g = some (.box x.cells) := set_same _ _ _
 generalize m.set g (.box x.cells) = m1 at *
 (repeat refine qA ?_);refine rA ?_
 simp [hgk, hgg]
 (repeat refine qA ?_);refine AWp.cond (b := decide (x.k = q)) (by simp) (fun hk => ?_) (fun hk => ?_)
 ·simp at hk
  (repeat refine qA ?_);refine rA ?_
  simp [h3, hgg]
  refine Col.push h1 h2 h3 h4 x.s hb fun v' m' hgo o1 o2 o3 hC => ?_
  simp [o1, o2, hgo]
  refine post_nrm0 rfl (hK _ ?_)
  have e : one (x.k = q) x.s = [x.s] := by simp [one, hk]
  rw [e]
  exact hC
 simp at hk
 refine kA ?_
 try simp
 refine post_nrm0 rfl ?_
 have e : xs ++ one (x.k = q) x.s = xs := by simp [one, hk]
 refine hK _ ?_
 rw [e]
 exact ⟨h1, h2, v, by simpa using h3, by simpa using h4⟩
-- what is told of statements, one behind the other, those of Bodies too
mutual
def Sm.walk (f : Sm -> List ByteArray) : Sm -> List ByteArray
 | .mk k s a e lo hi b => f (.mk k s a e lo hi b) ++ Sm.walkL f b
def Sm.walkL (f : Sm -> List ByteArray) : List Sm -> List ByteArray
 | [] => []
 | x :: l => x.walk f ++ Sm.walkL f l
end
theorem Sm.walk_eq (f : Sm -> List ByteArray) (e : Sm) : e.walk f = f e ++ Sm.walkL f e.body := by cases e; rfl
def Step (n : FuncId) (gk go : Nat) (q : Int) (f : Sm -> List ByteArray) : Prop := ∀ (x : Sm), x.tot <= 1048576 -> ∀ (m0 m : Mem) (xs : List ByteArray), Col m0 gk go q xs m -> xs.length + (f x).length <= 8388608 -> ∀ K : AV -> Mem -> Prop, (∀ m', Col m0 gk go q (xs ++ f x) m' -> K (.tup []) m') -> WCall Tryz.prog n [x.av, .ptr gk 0, .ptr go 0] m K
theorem c_eachStmt0 {n : FuncId} {gk go : Nat} {q : Int} {f : Sm -> List ByteArray} (hstep : Step n gk go q f) (l : List Sm) (ht : totL Sm.tot l <= 1048576)
  (h : ∀ x ∈ l, ∀ (m0 m : Mem) (xs : List ByteArray), Col m0 gk go q xs m -> xs.length + (Sm.walkL f x.body).length <= 8388608 -> ∀ K : AV -> Mem -> Prop, (∀ m', Col m0 gk go q (xs ++ Sm.walkL f x.body) m' -> K (.tup []) m') -> WCall Tryz.prog 167 [.lst false 19 (x.body.map Sm.av), .func (.func n) [.ptr gk 0, .ptr go 0]] m K)
  (m0 m : Mem) (xs : List ByteArray) (hC : Col m0 gk go q xs m) (hb : xs.length + (Sm.walkL f l).length <= 8388608) (K : AV -> Mem -> Prop) (hK : ∀ m', Col m0 gk go q (xs ++ Sm.walkL f l) m' -> K (.tup []) m') :
  WCall Tryz.prog 167 [.lst false 19 (l.map Sm.av), .func (.func n) [.ptr gk 0, .ptr go 0]] m K := by
 have hlen := totL_len Sm.tot l
 refine wcall_of Tryz.func167 (by kernel_rfl) rfl (by simp [Tryz.f167]) ?_
 (repeat refine qA ?_);refine rA ?_
 simp
 (repeat refine qA ?_);refine AWp.block (AWp.rounds (fun k st => ∃ (i : Nat) (ys : List ByteArray), k = l.length - i /\ i <= l.length /\ st.slots 6 = .lst false 19 (l.map Sm.av) /\ st.slots 7 = .int .i64 l.length /\ st.slots 8 = .int .i64 i /\ st.slots 1 = .func (.func n) [.ptr gk 0, .ptr go 0] /\ Col m0 gk go q ys st.mem /\
  xs ++ Sm.walkL f l = ys ++ Sm.walkL f (l.drop i)) l.length ⟨0, xs, by simp, by simp, by simp, by simp, by simp, by simp, by simpa using hC, by simp⟩ ?_)
 rintro R k st hR ⟨i, ys, rfl, hi, s6, s7, s8, s1, hC, hr⟩
 (repeat refine qA ?_);refine rA ?_
 simp [s6, s7, s8]
 (repeat refine qA ?_);refine AWp.cond (b := decide (i < l.length)) (by simp) (fun hb2 => ?_) (fun hb2 => ?_)
 ·simp at hb2
  have hg : l[i]? = some l[i] := List.getElem?_eq_getElem hb2
  have hdr : l.drop i = l[i] :: l.drop (i + 1) := List.drop_eq_getElem_cons hb2
  have htm := totL_mem Sm.tot (List.getElem_mem hb2)
  have htb := l[i].tot_body
  rw [hdr, Sm.walkL, Sm.walk_eq] at hr
  have hll := congrArg List.length hr
  simp only [List.length_append] at hll
  have hx : ∀ m, idxA Tryz.prog m 30 (.lst false 19 (l.map Sm.av)) (.int .i64 i) = some (.ref l[i].cells) := fun m => idx (y := l[i].av) es_30 (by simp [hg])
  have hw := iA i (by omega)
  refine kA ?_
  try simp
  (repeat refine qA ?_);refine bA ?_;(repeat refine qA ?_);refine rA ?_
  simp [s6, s8, hx]
  intro g hgf
  try simp [set_at, set_set]
  have hC1 := hC.keep hgf (.box l[i].cells)
  have hm0g : m0 g = none := hC.ext.none hgf
  have hm0k := hC.2.1
  have hgg : (st.mem.set g (.box l[i].cells)) g = some (.box l[i].cells) := set_same _ _ _
  generalize st.mem.set g (.box l[i].cells) = m1 at *
  (repeat refine qA ?_);refine rA ?_
  simp [s1, hgg]
  refine aop_wcall _ _ _ _ _ _ _ _ rfl (n := n) (caps := [.ptr gk 0, .ptr go 0]) (by simp [s1]) ?_
  try simp [hgg]
  refine hstep l[i] (by omega) _ _ _ hC1 (by omega) _ fun m2 hC2 => ?_
  have hg2 : m2 g = some (.box l[i].cells) := hC2.ext g _ (set_same _ _ _)
  try simp
  (repeat refine qA ?_);refine rA ?_
  simp [s1, hg2]
  refine wA ?_
  refine h l[i] (List.getElem_mem _) _ _ _ hC2 (by simp; omega) _ fun m3 hC3 => ?_
  try simp
  (repeat refine qA ?_);refine rA ?_
  simp [s8, hw]
  refine hR _ (l.length - (i + 1)) (by omega) ⟨i + 1, _, rfl, hb2, by simp [s6], by simp [s7], by simp, by simp [s1], by simpa using hC3.less hm0g hm0k, ?_⟩
  rw [hr]; simp
 simp at hb2
 refine eA ?_
 have : i = l.length := by omega
 subst this
 simp [Sm.walkL] at hr
 try simp
 exact post_nrm0 rfl (hK _ (by rw [hr]; exact hC))
theorem c_eachStmt {n : FuncId} {gk go : Nat} {q : Int} {f : Sm -> List ByteArray} (hstep : Step n gk go q f) (l : List Sm) (ht : totL Sm.tot l <= 1048576) (m0 m : Mem) (xs : List ByteArray) (hC : Col m0 gk go q xs m) (hb : xs.length + (Sm.walkL f l).length <= 8388608) (K : AV -> Mem -> Prop) (hK : ∀ m', Col m0 gk go q (xs ++ Sm.walkL f l) m' -> K (.tup []) m') :
  WCall Tryz.prog 167 [.lst false 19 (l.map Sm.av), .func (.func n) [.ptr gk 0, .ptr go 0]] m K := by
 have key : ∀ e : Sm, e.tot <= 1048576 -> ∀ (m0 m : Mem) (xs : List ByteArray), Col m0 gk go q xs m -> xs.length + (Sm.walkL f e.body).length <= 8388608 -> ∀ K : AV -> Mem -> Prop, (∀ m', Col m0 gk go q (xs ++ Sm.walkL f e.body) m' -> K (.tup []) m') -> WCall Tryz.prog 167 [.lst false 19 (e.body.map Sm.av), .func (.func n) [.ptr gk 0, .ptr go 0]] m K := by
  intro e
  induction e using Sm.ind' with | h e h =>
  intro ht
  have := e.tot_body
  exact c_eachStmt0 hstep e.body (by omega) (fun x hx => h x hx (by have := totL_mem Sm.tot hx; omega))
 exact c_eachStmt0 hstep l ht (fun x hx => key x (by have := totL_mem Sm.tot hx; omega)) m0 m xs hC hb K hK
theorem c_eachExp (e : Ex) {gk go : Nat} {q : Int} : e.tot <= 1048576 -> ∀ (m0 m : Mem) (xs : List ByteArray), Col m0 gk go q xs m -> xs.length + (e.post q).length <= 8388608 -> ∀ K : AV -> Mem -> Prop, (∀ m', Col m0 gk go q (xs ++ e.post q) m' -> K (.tup []) m') ->
  WCall Tryz.prog 186 [e.av, .func (.func 170) [.ptr gk 0, .ptr go 0]] m K := by
 induction e using Ex.ind' with | h e h =>
 intro ht m0 m xs hC hb K hK
 have htl := e.tot_l
 have hlen := e.len_l
 refine wcall_of Tryz.func186 (by kernel_rfl) rfl (by simp [Tryz.f186]) ?_
 unfold Ex.av
 rw [e.post_eq] at hb hK
 rw [List.length_append] at hb
 (repeat refine qA ?_);refine rA ?_
 try simp
 intro g0 hg0
 have hm0 : m0 g0 = none := hC.ext.none hg0
 have hk0 := hC.2.1
 have hC0 := hC.keep hg0 (.box e.cells)
 have hgg : (m.set g0 (.box e.cells)) g0 = some (.box e.cells) := set_same _ _ _
 generalize m.set g0 (.box e.cells) = m1 at *
 (repeat refine qA ?_);refine rA ?_
 simp [hgg]
 (try refine qA ?_)
 refine AWp.cutA (fun st => st.slots 2 = .ptr g0 0 /\ st.slots 1 = .func (.func 170) [.ptr gk 0, .ptr go 0] /\ Col (m0.set g0 (.box e.cells)) gk go q (xs ++ Ex.posts q e.l) st.mem) ?_ ?_
 ·refine AWp.block (AWp.rounds (fun k st => ∃ (i : Nat) (ys : List ByteArray), k = e.l.length - i /\ i <= e.l.length /\ st.slots 2 = .ptr g0 0 /\ st.slots 1 = .func (.func 170) [.ptr gk 0, .ptr go 0] /\ st.slots 7 = .lst false 4 (e.l.map Ex.av) /\ st.slots 8 = .int .i64 e.l.length /\ st.slots 9 = .int .i64 i /\ Col (m0.set g0 (.box e.cells)) gk go q ys st.mem /\
   xs ++ Ex.posts q e.l = ys ++ Ex.posts q (e.l.drop i)) e.l.length ⟨0, xs, by simp, by simp, by simp, by simp, by simp, by simp, by simp, by simpa using hC0, by simp⟩ ?_)
  clear hC hC0 hgg
  rintro R k st hR ⟨i, ys, rfl, hi, s2, s1, s7, s8, s9, hC, hr⟩
  (repeat refine qA ?_);refine rA ?_
  simp [s7, s8, s9]
  (repeat refine qA ?_);refine AWp.cond (b := decide (i < e.l.length)) (by simp) (fun hb2 => ?_) (fun hb2 => ?_)
  ·simp at hb2
   have hg : e.l[i]? = some e.l[i] := List.getElem?_eq_getElem hb2
   have hdr : e.l.drop i = e.l[i] :: e.l.drop (i + 1) := List.drop_eq_getElem_cons hb2
   have htm := totL_mem Ex.tot (List.getElem_mem hb2)
   rw [hdr, Ex.posts] at hr
   have hll := congrArg List.length hr
   simp only [List.length_append] at hll
   have hx : ∀ m, idxA Tryz.prog m 24 (.lst false 4 (e.l.map Ex.av)) (.int .i64 i) = some (.ref e.l[i].cells) := fun m => idx (y := e.l[i].av) es_24 (by simp [hg])
   have hw := iA i (by omega)
   refine kA ?_
   try simp
   (repeat refine qA ?_);refine bA ?_;(repeat refine qA ?_);refine rA ?_
   simp [s7, s9, hx]
   intro g hgf
   try simp [set_at, set_set]
   have hC1 := hC.fresh hgf (.box e.l[i].cells)
   have hgg : (st.mem.set g (.box e.l[i].cells)) g = some (.box e.l[i].cells) := set_same _ _ _
   generalize st.mem.set g (.box e.l[i].cells) = m2 at *
   (repeat refine qA ?_);refine rA ?_
   simp [s1, hgg]
   refine wA ?_
   refine h e.l[i] (List.getElem_mem _) (by omega) _ _ _ hC1 (by omega) _ fun m3 hC3 => ?_
   try simp
   (repeat refine qA ?_);refine rA ?_
   simp [s9, hw]
   refine hR _ (e.l.length - (i + 1)) (by omega) ⟨i + 1, _, rfl, hb2, by simp [s2], by simp [s1], by simp [s7], by simp [s8], by simp, by simpa using hC3, ?_⟩
   rw [hr]; simp
  simp at hb2
  refine eA ?_
  have : i = e.l.length := by omega
  subst this
  simp [Ex.posts] at hr
  simp [s2, s1, hr, hC]
 clear hC hC0 hgg
 rintro st ⟨s2, s1, hC⟩
 have hg2 : st.mem g0 = some (.box e.cells) := hC.ext g0 _ (set_same _ _ _)
 (repeat refine qA ?_);refine rA ?_
 simp [s2, s1, hg2]
 refine aop_wcall _ _ _ _ _ _ _ _ rfl (n := 170) (caps := [.ptr gk 0, .ptr go 0]) (by simp [s1]) ?_
 try simp [hg2]
 refine c_namesAsked11 e hC (by simp; omega) fun m' hC' => ?_
 try simp
 refine post_nrm0 rfl (hK _ ?_)
 have := hC'.less hm0 hk0
 simpa [List.append_assoc] using this
theorem c_eachPart (x : Sm) {gk go : Nat} {q : Int} (ht : x.tot <= 1048576) (m0 m : Mem) (xs : List ByteArray) (hC : Col m0 gk go q xs m) (hb : xs.length + (Ex.posts q [x.a, x.e, x.lo, x.hi]).length <= 8388608) (K : AV -> Mem -> Prop) (hK : ∀ m', Col m0 gk go q (xs ++ Ex.posts q [x.a, x.e, x.lo, x.hi]) m' -> K (.tup []) m') :
  WCall Tryz.prog 169 [x.av, .func (.func 170) [.ptr gk 0, .ptr go 0]] m K := by
 have htp := x.tot_parts
 refine wcall_of Tryz.func169 (by kernel_rfl) rfl (by simp [Tryz.f169]) ?_
 unfold Sm.av
 (repeat refine qA ?_);refine rA ?_
 try simp
 intro g0 hg0
 have hC0 := hC.fresh hg0 (.box x.cells)
 have hgg : (m.set g0 (.box x.cells)) g0 = some (.box x.cells) := set_same _ _ _
 generalize m.set g0 (.box x.cells) = m1 at *
 (repeat refine qA ?_);refine rA ?_
 simp [hgg]
 have hP : ∀ e ∈ [x.a, x.e, x.lo, x.hi], e.tot <= 1048576 := by
  intro e he
  simp at he
  rcases he with rfl | rfl | rfl | rfl <;> omega
 have hcs : ∀ i : Nat, i < 4 -> ∃ e : Ex, [x.a, x.e, x.lo, x.hi][i]? = some e /\ sidxA Tryz.prog 176 (.agg (x.a.cells ++ (x.e.cells ++ (x.lo.cells ++ x.hi.cells)))) (.int .i64 i) = some (.agg e.cells) := by
  intro i hi
  match i, hi with
  | 0, _ => exact ⟨x.a, rfl, by simp⟩
  | 1, _ => exact ⟨x.e, rfl, by simp⟩
  | 2, _ => exact ⟨x.lo, rfl, by simp⟩
  | 3, _ => exact ⟨x.hi, rfl, by simp⟩
 have hL : [x.a, x.e, x.lo, x.hi].length = 4 := rfl
 generalize [x.a, x.e, x.lo, x.hi] = PS at *
 (try refine qA ?_)
 refine AWp.block (AWp.rounds (fun k st => ∃ (i : Nat) (ys : List ByteArray), k = 4 - i /\ i <= 4 /\ st.slots 1 = .func (.func 170) [.ptr gk 0, .ptr go 0] /\ st.slots 14 = .agg (x.a.cells ++ (x.e.cells ++ (x.lo.cells ++ x.hi.cells))) /\ st.slots 15 = .int .i64 i /\ Col m0 gk go q ys st.mem /\
   xs ++ Ex.posts q PS = ys ++ Ex.posts q (PS.drop i)) 4 ⟨0, xs, by simp, by simp, by simp, by simp, by simp, by simpa using hC0, by simp⟩ ?_)
 clear hC hC0 hgg
 rintro R k st hR ⟨i, ys, rfl, hi, s1, s14, s15, hC, hr⟩
 (repeat refine qA ?_);refine rA ?_
 simp [s15]
 (repeat refine qA ?_);refine AWp.cond (b := decide ((i : Int) < 4)) (by simp) (fun hb2 => ?_) (fun hb2 => ?_)
 ·simp at hb2
  have hi4 : i < 4 := by omega
  obtain ⟨e, he, hx⟩ := hcs i hi4
  have hdr : PS.drop i = e :: PS.drop (i + 1) := by
   obtain ⟨h1, h2⟩ := List.getElem?_eq_some_iff.1 he
   rw [List.drop_eq_getElem_cons h1, h2]
  have hte := hP e (List.mem_of_getElem? he)
  rw [hdr, Ex.posts] at hr
  have hll := congrArg List.length hr
  simp only [List.length_append] at hll hb
  have hw := iA i (by omega)
  refine kA ?_
  try simp
  (repeat refine qA ?_);refine bA ?_;(repeat refine qA ?_);refine rA ?_
  simp [-sidx_agg, s14, s15, hx]
  intro g hgf
  try simp [set_at, set_set]
  have hC1 := hC.keep hgf (.box e.cells)
  have hm0g : m0 g = none := hC.ext.none hgf
  have hm0k := hC.2.1
  have hgg : (st.mem.set g (.box e.cells)) g = some (.box e.cells) := set_same _ _ _
  generalize st.mem.set g (.box e.cells) = m2 at *
  (repeat refine qA ?_);refine rA ?_
  simp [s1, hgg]
  refine wA ?_
  refine c_eachExp e hte _ _ _ hC1 (by omega) _ fun m3 hC3 => ?_
  try simp
  (repeat refine qA ?_);refine rA ?_
  simp [s15, hw]
  refine hR _ (4 - (i + 1)) (by omega) ⟨i + 1, _, rfl, by omega, by simp [s1], by simp [s14], by simp, by simpa using hC3.less hm0g hm0k, ?_⟩
  rw [hr]; simp
 simp at hb2
 refine eA ?_
 have : i = 4 := by omega
 subst this
 rw [List.drop_eq_nil_of_le (by omega), Ex.posts, List.append_nil] at hr
 try simp
 exact post_nrm0 rfl (hK _ (by rw [hr]; exact hC))
theorem c_namesAsked1 {gk go : Nat} {q : Int} : Step 168 gk go q (fun x => Ex.posts q [x.a, x.e, x.lo, x.hi]) := by
 intro x ht m0 m xs hC hb K hK
 refine wcall_of Tryz.func168 (by kernel_rfl) rfl (by simp [Tryz.f168]) ?_
 unfold Sm.av
 (repeat refine qA ?_);refine rA ?_
 try simp
 intro g hg
 have hC0 := hC.fresh hg (.box x.cells)
 have hgg : (m.set g (.box x.cells)) g = some (.box x.cells) := set_same _ _ _
 generalize m.set g (.box x.cells) = m1 at *
 (repeat refine qA ?_);refine rA ?_
 simp [hgg]
 refine wA ?_
 refine c_eachPart x ht _ _ _ hC0 hb _ fun m' hC' => ?_
 exact post_nrm0 rfl (hK _ hC')
theorem c_namesOf1s {gk go : Nat} {q : Int} : Step 172 gk go q (fun x => one (x.k = q) x.s) := by
 intro x ht m0 m xs hC hb K hK
 exact c_namesOf1 x hC (by have := hb; omega) hK
mutual
theorem walk_names (q : Int) : ∀ e : Sm, e.walk (fun x => one (x.k = q) x.s) = e.names q
 | .mk k s a e lo hi b => by rw [Sm.walk, Sm.names, walk_namesL q b]; rfl
theorem walk_namesL (q : Int) : ∀ l : List Sm, Sm.walkL (fun x => one (x.k = q) x.s) l = Sm.namesL q l
 | [] => rfl
 | x :: l => by rw [Sm.walkL, Sm.namesL, walk_names q x, walk_namesL q l]
end
mutual
theorem walk_exps (q : Int) : ∀ e : Sm, e.walk (fun x => Ex.posts q [x.a, x.e, x.lo, x.hi]) = e.exps (Ex.post q)
 | .mk k s a e lo hi b => by rw [Sm.walk, Sm.exps, walk_expsL q b]; simp [Ex.posts, Sm.a, Sm.e, Sm.lo, Sm.hi]
theorem walk_expsL (q : Int) : ∀ l : List Sm, Sm.walkL (fun x => Ex.posts q [x.a, x.e, x.lo, x.hi]) l = Sm.expsL (Ex.post q) l
 | [] => rfl
 | x :: l => by rw [Sm.walkL, Sm.expsL, walk_exps q x, walk_expsL q l]
end
theorem c_namesOf (l : List Sm) (q : Int) (ht : totL Sm.tot l <= 1048576) : PCall Tryz.prog 138 [.lst false 19 (l.map Sm.av), .int .i64 q] (strs (nameSet (Sm.namesL q l))) := by
 have hb : (Sm.namesL q l).length <= 8388600 := by have := Sm.namesL_len q l; have := Sm.tots_eq l; omega
 refine pO Tryz.func138 (by kernel_rfl) rfl (by simp [Tryz.f138]) ?_
 (repeat refine qA ?_);refine rA ?_
 try simp
 intro gk
 (repeat refine qA ?_);refine rA ?_
 try simp
 intro go hgo
 have hne : go ≠ gk := by rintro rfl; simp [set_at] at hgo
 have hC : Col (Mem.set (fun _ => none) gk (.box [.int .i64 q])) gk go q [] ((Mem.set (fun _ => none) gk (.box [.int .i64 q])).set go (.box [.lst true 0 []])) :=
  ⟨by simp [set_at, hne], by simp [set_at], .lst true 0 [], by simp [set_at], (Ext.refl _).set (by simp [set_at, hne]) _, .inl ⟨rfl, 0, rfl⟩⟩
 generalize (Mem.set (fun _ => none) gk (.box [.int .i64 q])).set go (.box [.lst true 0 []]) = m1 at *
 generalize (Mem.set (fun _ => none) gk (.box [.int .i64 q])) = m0 at *
 (repeat refine qA ?_);refine rA ?_
 try simp
 refine wA ?_
 refine c_eachStmt c_namesOf1s l ht m0 _ [] (by simpa using hC) (by rw [walk_namesL]; simp; omega) _ fun m' hC' => ?_
 rw [walk_namesL, List.nil_append] at hC'
 obtain ⟨h1, h2, v, h3, h4⟩ := hC'
 try simp
 (repeat refine qA ?_);refine rA ?_
 simp [h3]
 refine wA ?_
 refine c_ordered (m0 := m0) (xs := Sm.namesL q l) (by simpa using h4) (by omega) ?_
 try simp
 exact AWp.ret (pR1 rfl (by simp))
theorem c_namesAsked (l : List Sm) (q : Int) (ht : totL Sm.tot l <= 1048576) : PCall Tryz.prog 137 [.lst false 19 (l.map Sm.av), .int .i64 q] (strs (nameSet (Sm.expsL (Ex.post q) l))) := by
 have hb : (Sm.expsL (Ex.post q) l).length <= 8388600 := by have := Sm.expsL_len (f := Ex.post q) (fun e => Ex.post_len q e) l; have := Sm.tots_eq l; omega
 refine pO Tryz.func137 (by kernel_rfl) rfl (by simp [Tryz.f137]) ?_
 (repeat refine qA ?_);refine rA ?_
 try simp
 intro gk
 (repeat refine qA ?_);refine rA ?_
 try simp
 intro go hgo
 have hne : go ≠ gk := by rintro rfl; simp [set_at] at hgo
 have hC : Col (Mem.set (fun _ => none) gk (.box [.int .i64 q])) gk go q [] ((Mem.set (fun _ => none) gk (.box [.int .i64 q])).set go (.box [.lst true 0 []])) :=
  ⟨by simp [set_at, hne], by simp [set_at], .lst true 0 [], by simp [set_at], (Ext.refl _).set (by simp [set_at, hne]) _, .inl ⟨rfl, 0, rfl⟩⟩
 generalize (Mem.set (fun _ => none) gk (.box [.int .i64 q])).set go (.box [.lst true 0 []]) = m1 at *
 generalize (Mem.set (fun _ => none) gk (.box [.int .i64 q])) = m0 at *
 (repeat refine qA ?_);refine rA ?_
 try simp
 refine wA ?_
 refine c_eachStmt c_namesAsked1 l ht m0 _ [] (by simpa using hC) (by rw [walk_expsL]; simp; omega) _ fun m' hC' => ?_
 rw [walk_expsL, List.nil_append] at hC'
 obtain ⟨h1, h2, v, h3, h4⟩ := hC'
 try simp
 (repeat refine qA ?_);refine rA ?_
 simp [h3]
 refine wA ?_
 refine c_ordered (m0 := m0) (xs := Sm.expsL (Ex.post q) l) (by simpa using h4) (by omega) ?_
 try simp
 exact AWp.ret (pR1 rfl (by simp))
theorem c_impl_VarsOf (l : List Sm) (ht : totL Sm.tot l <= 1048576) : PCall Tryz.prog 133 [.lst false 19 (l.map Sm.av)] (strs (nameSet (Sm.namesL 1 l))) := by
 have c1 := c_namesOf l 1 ht
 refine pO Tryz.func133 (by kernel_rfl) rfl (by simp [Tryz.f133]) ?_
 (repeat refine qA ?_);refine rA ?_
 try simp
 (repeat refine qA ?_);refine raA ?_
 try simp
 refine oC' c1 ?_
 try simp
 exact AWp.ret (pR1 rfl (by simp))
theorem c_impl_LoopVars (l : List Sm) (ht : totL Sm.tot l <= 1048576) : PCall Tryz.prog 134 [.lst false 19 (l.map Sm.av)] (strs (nameSet (Sm.namesL 3 l))) := by
 have c1 := c_namesOf l 3 ht
 refine pO Tryz.func134 (by kernel_rfl) rfl (by simp [Tryz.f134]) ?_
 (repeat refine qA ?_);refine rA ?_
 try simp
 (repeat refine qA ?_);refine raA ?_
 try simp
 refine oC' c1 ?_
 try simp
 exact AWp.ret (pR1 rfl (by simp))
theorem c_impl_Asked (l : List Sm) (ht : totL Sm.tot l <= 1048576) : PCall Tryz.prog 140 [.lst false 19 (l.map Sm.av)] (strs (nameSet (Sm.expsL (Ex.pre 2) l))) := by
 have c1 := c_namesAsked l 2 ht
 refine pO Tryz.func140 (by kernel_rfl) rfl (by simp [Tryz.f140]) ?_
 (repeat refine qA ?_);refine rA ?_
 try simp
 (repeat refine qA ?_);refine raA ?_
 try simp
 refine oC' c1 ?_
 try simp
 exact AWp.ret (pR1 rfl (by simp [asked_same]))
end Go.T
namespace Go.Proofs
open Go.Shelf
shelf_lay Lays2.n16 Nm2 16 at Tryz as Tryz.laysClone -- 174
end Go.Proofs
namespace Go.T
open Go Go.Proofs Go.RowKit
set_option maxRecDepth 10000
set_option maxHeartbeats 1000000
theorem flat_strs : ∀ ns : List ByteArray, flat (ns.map AV.str) = ns.map AV.str
 | [] => rfl
 | n :: ns => by have := flat_strs ns; simp only [flat, List.map_cons, List.flatMap_cons] at this ⊢; rw [this]; rfl
theorem hb_Clone : HasBody Tryz.prog 174 := ⟨_, Tryz.func174, by kernel_rfl, rfl⟩
theorem memRep_grown {w w' : World} {S : Nat -> Prop} {m : Mem} (hm : MemRep w S m) (hbel : Below w.heap.size w w') {g c : Nat} {T : TypeId} {xs : List ByteArray} {us : List Value} (hg : w.heap.size <= g) (hh : w'.heap[g]? = some (.cells (xs.map Value.string ++ us).toArray T (0, 0))) (hl : (xs.map Value.string ++ us).length = c * 1) (hle : xs.length <= c) :
  MemRep w' S (m.set g (.arr T 1 c (xs.map .str))) /\ m g = none /\ Keep (fun _ => False) w w' := by
 have hfree : m g = none := by
  cases hq : m g with
  | none => rfl
  | some b => have := (hm.blk _ b hq).lt; omega
 have hk : Keep (fun _ => False) w w' := ⟨hbel.os, hbel.tape, hbel.output, hbel.size, fun b hb _ => hbel.block b hb⟩
 have hst : Stays S w w' := fun b hb => hbel.block b (hm.apart b hb).2
 refine ⟨⟨fun g' b hb => ?_, fun b hb => ⟨?_, ?_⟩⟩, hfree, hk⟩
 ·rw [set_at] at hb
  by_cases e : g' = g
  ·subst e
   rw [if_pos rfl] at hb
   obtain rfl := Option.some.inj hb
   exact ⟨_, us, hh, strs_reps _ _ xs, hl, fun x hx => by obtain ⟨y, _, rfl⟩ := List.mem_map.1 hx; rfl, by simpa using hle⟩
  rw [if_neg e] at hb
  exact (hm.blk g' b hb).mono hst (fun _ h => h) (hbel.block g' (hm.blk g' b hb).lt)
 ·have := hm.apart b hb
  rw [set_at, if_neg (by omega)]
  exact this.1
 exact Nat.lt_of_lt_of_le (hm.apart b hb).2 hbel.size
theorem c_Clone (ns : List ByteArray) (hb : ns.length <= 8388608) {m : Mem} {K : AV -> Mem -> Prop} (hK : ∀ v m', GO m ns v m' -> K v m') : WCall Tryz.prog 174 [strs ns] m K := by
 refine ⟨hb_Clone, fun w S cargs hm hargs => ?_⟩
 cases hargs with | @cons _ v _ vs hv ht =>
 cases ht
 have fin : ∀ (n : Nat) (e : Ending) (w' : World), n = ns.length -> (∃ v', e = .returned v' /\ w'.ownsRow w.heap.size 9 1 v' n (ns.map Value.string) /\ v' ≠ .slice none 0 0 /\ Below w.heap.size w w') -> ∃ v r m' S', e = .returned v /\ K r m' /\ (∀ b, S b -> S' b) /\ (∀ b, S' b -> S b ∨ m b ≠ none ∨ w.heap.size <= b) /\ MemRep w' S' m' /\ Rep w' S' r v /\ Keep (fun g => m g ≠ none) w w' /\ (∀ g b, m' g = some b -> m g ≠ none ∨ w.heap.size <= g) := by
  rintro n e w' rfl ⟨v', he, ⟨hl, ho⟩, hne, hbel⟩
  rcases ho with ⟨h0, _⟩ | ⟨g, cap, cur, rfl, hg, hh, hnc, _, hsz, htk⟩
  ·exact absurd h0 hne
  rw [Nat.mul_one] at htk hsz
  have hcur : cur = (ns.map Value.string ++ cur.toList.drop ns.length).toArray := by
   rw [<- htk, List.take_append_drop, Array.toArray_toList]
  rw [hcur] at hh
  obtain ⟨h1, h2, h3⟩ := memRep_grown (c := cap) hm hbel hg hh (by simp; omega) hnc
  refine ⟨_, _, _, S, he, hK (.own g ns.length cap) _ ⟨(Ext.refl m).set h2 _, .inr ⟨g, cap, rfl, set_same _ _ _, h2⟩⟩, fun _ h => h, fun _ h => .inl h, h1, .own g _ cap, h3.mono (fun _ h => h.elim), fun g' b hb' => ?_⟩
  rw [set_at] at hb'
  by_cases e : g' = g
  ·exact .inr (by omega)
  rw [if_neg e] at hb'; exact .inl (by rw [hb']; simp)
 unfold strs at hv
 generalize hxs : ns.map AV.str = xs at hv
 cases hv with
 | lnil _ _ A c hc =>
  have hns : ns = [] := by simpa using hxs
  subst hns
  cases A with
  | none =>
   refine calls_mono (Any.slices_Clone_string_nil Tryz.laysClone 0 c w) ?_
   rintro e w' ⟨rfl, rfl⟩
   exact ⟨_, _, _, S, rfl, hK (.lst true 0 []) m ⟨Ext.refl m, .inl ⟨rfl, 0, rfl⟩⟩, fun _ h => h, fun _ h => .inl h, hm, .lnil _ _ none 0 (fun _ => rfl), Keep.refl _ _, fun g b hb' => .inl (by rw [hb']; simp)⟩
  | some a => exact calls_mono (Any.slices_Clone_string_zero Tryz.laysClone a c w) fun e w' h => fin 0 e w' rfl h
 | lst _ _ b o c h1 h2 h3 h4 h5 =>
  subst hxs
  have hcell : ∀ j, j < ns.length -> w.cell? ⟨b, o + j, none⟩ = some (.string (ns.getD j ByteArray.empty)) := by
   intro j hj
   rw [flat_strs] at h5
   obtain ⟨v, hv, hr⟩ := h5.get j (.str ns[j]) (by simp [hj])
   cases hr
   rw [hv, List.getD_eq_getElem?_getD, List.getElem?_eq_getElem hj]
   rfl
  have h := Any.slices_Clone_string Tryz.laysClone b o ns.length c ns w (Nat.le_refl _) (by omega) hcell
  rw [List.take_length] at h
  have h2 : Calls Tryz.prog 174 #[.slice (some ⟨b, o, none⟩) ns.length c] w _ := h
  rw [List.length_map]
  exact calls_mono h2 fun e w' h => fin ns.length e w' rfl h
theorem c_ArrAt1 (a : Ar) (s : ByteArray) {m : Mem} {gn : Nat} {K : AV -> Mem -> Prop} (hm : m gn = some (.box [.str s])) (hK : ∀ m', Ext m m' -> K (.bool (decide (a.s = s))) m') : WCall Tryz.prog 185 [a.av, .ptr gn 0] m K := by
 refine wcall_of Tryz.func185 (by kernel_rfl) rfl (by simp [Tryz.f185]) ?_
 unfold Ar.av Ar.cells
 (repeat refine qA ?_);refine rA ?_
 try simp
 intro g hg
 have hgg : (m.set g (.box [.str a.s, .int .i64 a.n])) g = some (.box [.str a.s, .int .i64 a.n]) := set_same _ _ _
 have hE := (Ext.refl m).set hg (.box [.str a.s, .int .i64 a.n])
 have hgn := hE gn _ hm
 generalize m.set g (.box [.str a.s, .int .i64 a.n]) = m1 at *
 (repeat refine qA ?_);refine rA ?_
 simp [hgg, hgn]
 exact AWp.ret (post_retW rfl ⟨_, _, View.refl _ _, hK _ hE⟩)
theorem c_IndexFunc (A : List Ar) (s : ByteArray) (hl : A.length <= 1048576) {m : Mem} {gn : Nat} {K : AV -> Mem -> Prop} (hm : m gn = some (.box [.str s])) (hK : ∀ m', Ext m m' -> K (.int .i64 (at_ (A.map Ar.s) s)) m') :
  WCall Tryz.prog 184 [.lst false 2 (A.map Ar.av), .func (.func 185) [.ptr gn 0]] m K := by
 refine wcall_of Tryz.func184 (by kernel_rfl) rfl (by simp [Tryz.f184]) ?_
 (repeat refine qA ?_);refine rA ?_
 try simp
 (repeat refine qA ?_);refine rA ?_
 try simp
 (repeat refine qA ?_);refine AWp.block (AWp.rounds (fun k st => ∃ (i : Nat), k = A.length - i /\ i <= A.length /\ st.slots 0 = .lst false 2 (A.map Ar.av) /\ st.slots 1 = .func (.func 185) [.ptr gn 0] /\ st.slots 7 = .int .i64 A.length /\ st.slots 8 = .int .i64 i /\ Ext m st.mem /\ at_ (A.map Ar.s) s = idxAt i ((A.map Ar.s).drop i) s) A.length ⟨0, by simp, by simp, by simp, by simp, by simp, by simp, by simpa using Ext.refl m, by simp [at_]⟩ ?_)
 rintro R k st hR ⟨i, rfl, hi, s0, s1, s7, s8, hE, hr⟩
 (repeat refine qA ?_);refine rA ?_
 simp [s7, s8]
 (repeat refine qA ?_);refine AWp.cond (b := decide (i < A.length)) (by simp) (fun hb => ?_) (fun hb => ?_)
 ·simp at hb
  have hg : A[i]? = some A[i] := List.getElem?_eq_getElem hb
  have hdr : (A.map Ar.s).drop i = A[i].s :: (A.map Ar.s).drop (i + 1) := by
   rw [List.drop_eq_getElem_cons (by simpa using hb)]; simp
  have hz : at_ (A.map Ar.s) s = if A[i].s = s then (i : Int) else idxAt (i + 1) ((A.map Ar.s).drop (i + 1)) s := by rw [hr, hdr, idxAt]
  have hx : ∀ m, idxA Tryz.prog m 29 (.lst false 2 (A.map Ar.av)) (.int .i64 i) = some (.ref A[i].cells) := fun m => idx (y := A[i].av) es_29 (by simp [hg])
  have hw := iA i (by omega)
  refine kA ?_
  try simp
  (repeat refine qA ?_);refine bA ?_;(repeat refine qA ?_);refine rA ?_
  simp [s8]
  (repeat refine qA ?_);refine rA ?_
  simp [s0, s1, hx]
  refine aop_wcall _ _ _ _ _ _ _ _ rfl (n := 185) (caps := [.ptr gn 0]) (by simp [s1]) ?_
  try simp [s0, s1, hx]
  refine c_ArrAt1 A[i] s (hE gn _ hm) fun m' hE' => ?_
  try simp
  (repeat refine qA ?_);refine AWp.cond (b := decide (A[i].s = s)) (by simp) (fun he => ?_) (fun he => ?_)
  ·simp at he
   (repeat refine qA ?_);refine rA ?_
   try simp
   refine AWp.ret (post_retW rfl ⟨_, _, View.refl _ _, ?_⟩)
   try simp
   have := hK m' (fun g b h => hE' g b (hE g b h))
   rw [hz, if_pos he] at this
   exact this
  simp at he
  refine kA ?_
  try simp
  (repeat refine qA ?_);refine rA ?_
  simp [s8, hw]
  exact hR _ (A.length - (i + 1)) (by omega) ⟨i + 1, rfl, hb, by simp [s0], by simp [s1], by simp [s7], by simp, (fun g b h => hE' g b (hE g b h)), by rw [hz, if_neg he]⟩
 simp at hb
 refine eA ?_
 try simp
 (repeat refine qA ?_);refine rA ?_
 try simp
 have : i = A.length := by omega
 subst this
 rw [List.drop_eq_nil_of_le (by simp), idxAt] at hr
 refine AWp.ret (post_retW rfl ⟨_, _, View.refl _ _, ?_⟩)
 try simp
 have := hK st.mem hE
 rw [hr] at this
 exact this
theorem c_impl_ArrAt (p : Pg) (s : ByteArray) (ht : p.arrs.length <= 1048576) : PCall Tryz.prog 166 [p.av, .str s] (.int .i64 (at_ p.arrNames s)) := by
 refine pO Tryz.func166 (by kernel_rfl) rfl (by simp [Tryz.f166]) ?_
 have hc : p.cells = [.lst false 2 (p.arrs.map Ar.av), .lst false 19 (p.body.map Sm.av)] := rfl
 unfold Pg.av
 rw [hc]
 (repeat refine qA ?_);refine rA ?_
 try simp
 intro g1 g2 h2
 have hne : g2 ≠ g1 := by rintro rfl; simp [set_at] at h2
 (repeat refine qA ?_);refine rA ?_
 simp [set_at, hne, hne.symm]
 refine wA ?_
 refine c_IndexFunc p.arrs s ht (by simp [set_at]) fun m' hE => ?_
 try simp
 exact AWp.ret (pR1 rfl (by simp [Pg.arrNames]))
theorem c_areArrs (p : Pg) (l : List ByteArray) (ht : p.arrs.length <= 1048576) (hl : l.length <= 16777216) : PCall Tryz.prog 136 [p.av, strs l] (.tup [.bool (l.all p.isArr), .bool (l.any p.isArr)]) := by
 refine pO Tryz.func136 (by kernel_rfl) rfl (by simp [Tryz.f136]) ?_
 unfold Pg.av
 have c1 := fun s => c_impl_ArrAt p s ht
 unfold Pg.av at c1
 (repeat refine qA ?_);refine rA ?_
 try simp
 intro g
 (repeat refine qA ?_);refine rA ?_
 try simp
 (repeat refine qA ?_);refine rA ?_
 simp [strs]
 (repeat refine qA ?_);refine AWp.block (AWp.rounds (fun m st => ∃ (i : Nat), m = l.length - i /\ i <= l.length /\ st.slots 2 = .ptr g 0 /\ st.mem g = some (.box p.cells) /\ st.slots 11 = .lst false 1 (l.map .str) /\ st.slots 12 = .int .i64 l.length /\ st.slots 13 = .int .i64 i /\ st.slots 6 = .bool ((l.take i).all p.isArr) /\ st.slots 7 = .bool ((l.take i).any p.isArr)) l.length ⟨0, by simp, by simp, by simp, by simp, by simp, by simp, by simp, by simp, by simp⟩ ?_)
 rintro R m st hR ⟨i, rfl, hi, s2, sg, s11, s12, s13, s6, s7⟩
 (repeat refine qA ?_);refine rA ?_
 simp [s11, s12, s13]
 (repeat refine qA ?_);refine AWp.cond (b := decide (i < l.length)) (by simp) (fun hb => ?_) (fun hb => ?_)
 ·simp at hb
  have hg : l[i]? = some l[i] := List.getElem?_eq_getElem hb
  have hx : ∀ m, idxA Tryz.prog m 70 (.lst false 1 (l.map .str)) (.int .i64 i) = some (.ref [.str l[i]]) := fun m => idx (y := .str l[i]) es_70 (by simp [hg])
  have hi2 := idxAt_has l[i] p.arrNames 0
  have hyes : decide (0 <= at_ p.arrNames l[i]) = p.isArr l[i] := by
   unfold Pg.isArr at_
   cases hh : has p.arrNames l[i] with
   | true => simpa using hi2.2 hh
   | false =>
    have : ¬ 0 <= idxAt 0 p.arrNames l[i] := fun k => by rw [hi2.1 k] at hh; cases hh
    simpa using this
  have hw := iA i (by omega)
  have e1 : (l.take (i + 1)).all p.isArr = ((l.take i).all p.isArr && p.isArr l[i]) := by rw [List.take_add_one, hg, List.all_append]; simp
  have e2 : (l.take (i + 1)).any p.isArr = ((l.take i).any p.isArr || p.isArr l[i]) := by rw [List.take_add_one, hg, List.any_append]; simp
  refine kA ?_
  try simp
  (repeat refine qA ?_);refine bA ?_;(repeat refine qA ?_);refine rA ?_
  simp [s11, s13, hx]
  (repeat refine qA ?_);refine raA ?_
  simp [s2, sg]
  refine oC' (c1 l[i]) ?_
  simp [hyes]
  generalize (l.take i).all p.isArr = u1 at *
  generalize (l.take i).any p.isArr = u2 at *
  generalize p.isArr l[i] = u3 at *
  cases u1 <;> cases u2 <;> cases u3 <;>
  ·(repeat refine qA ?_);refine rA ?_
   simp [s6]
   (repeat refine qA ?_);refine rA ?_
   simp [s7]
   (repeat refine qA ?_);refine rA ?_
   simp [s13, hw]
   exact hR _ (l.length - (i + 1)) (by omega) ⟨i + 1, rfl, hb, by simp [s2], by simp [sg], by simp [s11], by simp [s12], by simp, by simp [e1, s6], by simp [e2, s7]⟩
 simp at hb
 refine eA ?_
 try simp
 (repeat refine qA ?_);refine rA ?_
 have : i = l.length := by omega
 subst this
 rw [List.take_length] at s6 s7
 simp [s6, s7]
 exact AWp.ret (post_ret2 rfl (by simp) (by simp))
end Go.T
namespace Go.T
open Go Go.Proofs
set_option maxRecDepth 10000
set_option maxHeartbeats 1000000
theorem leq_not (a q : ByteArray) : (Op.bytesLess a.toList q.toList || decide (a = q)) = !blt q a := by
 show (blt a q || decide (a = q)) = !blt q a
 by_cases h : a = q
 ·subst h; simp [blt_irrefl]
 cases h1 : blt a q with
 | true =>
  cases h2 : blt q a with
  | true => have := blt_trans h1 h2; rw [blt_irrefl] at this; cases this
  | false => rfl
 | false => rw [blt_tri h h1]; simp [h]
theorem c_arrsOk (A : List Ar) (ht : totL Ar.tot A <= 1048576) : PCall Tryz.prog 80 [.lst false 2 (A.map Ar.av)] (.bool (arrsFrom none A && decide (A.length <= 4))) := by
 have h1 := totL_len Ar.tot A
 refine pO Tryz.func80 (by kernel_rfl) rfl (by simp [Tryz.f80]) ?_
 (repeat refine qA ?_);refine rA ?_
 try simp
 (repeat refine qA ?_);refine rA ?_
 try simp
 (try refine qA ?_)
 refine AWp.cutA (fun st => st.slots 0 = .lst false 2 (A.map Ar.av) /\ arrsFrom none A = true) ?_ ?_
 ·refine AWp.block (AWp.rounds (fun m st => ∃ (i : Nat) (pr : Option ByteArray), m = A.length - i /\ i <= A.length /\ st.slots 0 = .lst false 2 (A.map Ar.av) /\ st.slots 5 = .lst false 2 (A.map Ar.av) /\ st.slots 6 = .int .i64 A.length /\ st.slots 7 = .int .i64 i /\ Ahead A i pr /\ arrsFrom none A = arrsFrom pr (A.drop i)) A.length ⟨0, none, by simp, by simp, by simp, by simp, by simp, by simp, .inl ⟨rfl, rfl⟩, by simp⟩ ?_)
  rintro R m st hR ⟨i, pr, rfl, hi, s0, s5, s6, s7, hah, hr⟩
  (repeat refine qA ?_);refine rA ?_
  simp [s5, s6, s7]
  (repeat refine qA ?_);refine AWp.cond (b := decide (i < A.length)) (by simp) (fun hb => ?_) (fun hb => ?_)
  ·simp at hb
   have hg : A[i]? = some A[i] := List.getElem?_eq_getElem hb
   have hx : ∀ m, idxA Tryz.prog m 29 (.lst false 2 (A.map Ar.av)) (.int .i64 i) = some (.ref [.str A[i].s, .int .i64 A[i].n]) := fun m => idx (y := A[i].av) es_29 (by simp [hg])
   have hw := iA i (by omega)
   have htm := totL_mem Ar.tot (List.getElem_mem hb)
   have hs : A[i].s.size <= 9223372036854775806 := by unfold Ar.tot at htm ht h1; omega
   rw [arrs_step _ _ hb] at hr
   have hnx := ahead_next A i hb
   refine kA ?_
   try simp
   refine qA ?_
   refine AWp.cutA (fun st => st.slots 0 = .lst false 2 (A.map Ar.av) /\ st.slots 5 = .lst false 2 (A.map Ar.av) /\ st.slots 6 = .int .i64 A.length /\ st.slots 7 = .int .i64 i /\ arrsFrom none A = arrsFrom (some A[i].s) (A.drop (i + 1))) ?_ ?_
   ·refine bA ?_
    (repeat refine qA ?_);refine rA ?_
    simp [s5, s7, hx]
    intro g hgf
    try simp [set_at, set_set]
    have hgg : (st.mem.set g (.box [.str A[i].s, .int .i64 A[i].n])) g = some (.box [.str A[i].s, .int .i64 A[i].n]) := set_same _ _ _
    generalize st.mem.set g (.box [.str A[i].s, .int .i64 A[i].n]) = m1 at *
    (repeat refine qA ?_);refine raA ?_
    simp [hgg]
    refine oC' (c_impl_NameOk _ hs) ?_
    cases x1 : nameOk A[i].s
    ·rw [x1] at hr
     have hph : arrsFrom none A = false := by rw [hr]; rfl
     try simp
     (repeat refine qA ?_);refine tA ?_
     (repeat refine qA ?_);refine rA ?_
     try simp
     exact AWp.ret (pR1 rfl (by simp [hph]))
    rw [x1] at hr
    simp [hgg]
    refine oC' (c_inRange _ _ _) ?_
    cases x2 : inR A[i].n 1 16
    ·rw [x2] at hr
     have hph : arrsFrom none A = false := by rw [hr]; rfl
     try simp
     (repeat refine qA ?_);refine tA ?_
     (repeat refine qA ?_);refine rA ?_
     try simp
     exact AWp.ret (pR1 rfl (by simp [hph]))
    rw [x2] at hr
    rcases hah with ⟨rfl, rfl⟩ | ⟨a, hi0, ha, rfl⟩
    ·simp [s0, s7, hgg]
     (repeat refine qA ?_);refine fA ?_
     refine kA ?_
     simp at hr
     simp [s0, s5, s6, s7, hr]
    replace hr : arrsFrom none A = (true && (true && (blt a.s A[i].s && arrsFrom (some A[i].s) (A.drop (i + 1))))) := hr
    have hxp : ∀ m, idxA Tryz.prog m 29 (.lst false 2 (A.map Ar.av)) (.int .i64 ((i - 1 : Nat) : Int)) = some (.ref [.str a.s, .int .i64 a.n]) := fun m => idx (y := a.av) es_29 (by simp [ha])
    have hwm : IntKind.wrap .i64 ((i : Int) - 1) = ((i - 1 : Nat) : Int) := by rw [wrap64 (by omega) (by omega)]; omega
    have hi1 : (0 : Int) < i := by omega
    have hbl := leq_not A[i].s a.s
    simp [s0, s7, hgg, hi0, hi1, hwm, hxp, hbl]
    cases x3 : blt a.s A[i].s
    ·rw [x3] at hr
     have hph : arrsFrom none A = false := by rw [hr]; rfl
     (repeat refine qA ?_);refine tA ?_
     (repeat refine qA ?_);refine rA ?_
     simp
     exact AWp.ret (pR1 rfl (by simp [hph]))
    rw [x3] at hr
    (repeat refine qA ?_);refine fA ?_
    refine kA ?_
    simp at hr
    simp [s0, s5, s6, s7, hr]
   clear s0 s5 s6 s7 hr
   rintro st ⟨s0, s5, s6, s7, hr⟩
   (repeat refine qA ?_);refine rA ?_
   simp [s7, hw]
   exact hR _ (A.length - (i + 1)) (by omega) ⟨i + 1, _, rfl, hb, by simp [s0], by simp [s5], by simp [s6], by simp, hnx, hr⟩
  simp at hb
  refine eA ?_
  have : i = A.length := by omega
  subst this
  simp [arrsFrom] at hr
  simp [s0, hr]
 rintro st ⟨s0, hA⟩
 (repeat refine qA ?_);refine rA ?_
 simp [s0]
 by_cases l1 : A.length <= 4
 ·have l1' : (A.length : Int) <= 4 := by omega
  exact AWp.ret (pR1 rfl (by simp [hA, l1, l1']))
 have l1' : ¬ (A.length : Int) <= 4 := by omega
 exact AWp.ret (pR1 rfl (by simp [hA, l1, l1']))
theorem View.freezeBox {m : Mem} {g : Nat} {cs : List AV} (hg : m g = some (.box cs)) : View m (.ptr g 0) (m.del g) (.ref cs) := fun w S v h1 h2 => by
 obtain ⟨T, vs, hb, hr⟩ := h1.blk g _ hg
 have hSS : ∀ b, S b -> S b ∨ b = g := fun b hb => .inl hb
 refine ⟨fun b => S b ∨ b = g, hSS, fun b hb => hb.imp id (fun h => by rw [h, hg]; simp), ⟨fun g' b' hg' => ?_, fun b hb' => ?_⟩, ?_, fun g' b' hg' => ?_⟩
 ·unfold Mem.del at hg'
  split at hg'
  ·cases hg'
  exact (h1.blk g' b' hg').mono (fun _ _ => rfl) hSS rfl
 ·rcases hb' with hb' | rfl
  ·refine ⟨?_, (h1.apart b hb').2⟩
   unfold Mem.del
   split
   ·rfl
   exact (h1.apart b hb').1
  exact ⟨by simp [Mem.del], (Array.getElem?_eq_some_iff.1 hb).1⟩
 ·cases h2
  exact .ref g 0 (.inr rfl) (Cells.of_block hb (hr.mono (fun _ _ => rfl) hSS) 0 (fun i v hv => by simpa using hv))
 unfold Mem.del at hg'
 split at hg'
 ·cases hg'
 rw [hg']; simp
theorem c_loopsOk0 (l : List Sm) (ht : totL Sm.tot l <= 1048576) (h : ∀ x ∈ l, ∀ ns : List ByteArray, ns.length + totL Sm.tot x.body <= 2097152 -> PCall Tryz.prog 141 [.lst false 19 (x.body.map Sm.av), strs ns] (.bool (Sm.nests x.body ns)))
  (ns : List ByteArray) (hb : ns.length + totL Sm.tot l <= 2097152) : PCall Tryz.prog 141 [.lst false 19 (l.map Sm.av), strs ns] (.bool (Sm.nests l ns)) := by
 have hlen := totL_len Sm.tot l
 refine pO Tryz.func141 (by kernel_rfl) rfl (by simp [Tryz.f141]) ?_
 have c1 := fun s => c_Contains ns s (by omega)
 (repeat refine qA ?_);refine rA ?_
 try simp
 (repeat refine qA ?_);refine rA ?_
 try simp
 (repeat refine qA ?_);refine AWp.block (AWp.rounds (fun m st => ∃ (i : Nat), m = l.length - i /\ i <= l.length /\ st.slots 7 = .lst false 19 (l.map Sm.av) /\ st.slots 8 = .int .i64 l.length /\ st.slots 1 = strs ns /\ st.slots 9 = .int .i64 i /\ Sm.nests l ns = Sm.nests (l.drop i) ns) l.length ⟨0, by simp, by simp, by simp, by simp, by simp, by simp, by simp⟩ ?_)
 rintro R m st hR ⟨i, rfl, hi, s7, s8, s1, s9, hr⟩
 (repeat refine qA ?_);refine rA ?_
 simp [s7, s8, s9]
 (repeat refine qA ?_);refine AWp.cond (b := decide (i < l.length)) (by simp) (fun hb => ?_) (fun hb => ?_)
 ·simp at hb
  have hg : l[i]? = some l[i] := List.getElem?_eq_getElem hb
  have hdr : l.drop i = l[i] :: l.drop (i + 1) := List.drop_eq_getElem_cons hb
  have htm := totL_mem Sm.tot (List.getElem_mem hb)
  have htb := l[i].tot_body
  have hx : ∀ m, idxA Tryz.prog m 30 (.lst false 19 (l.map Sm.av)) (.int .i64 i) = some (.ref l[i].cells) := fun m => idx (y := l[i].av) es_30 (by simp [hg])
  have hw := iA i (by omega)
  have hz : Sm.nests l ns = ((decide (l[i].k ≠ 3) || (!has ns l[i].s && Sm.nests l[i].body (ns ++ [l[i].s]))) && Sm.nests (l.drop (i + 1)) ns) := by rw [hr, hdr, Sm.nests, Sm.nest_eq]
  refine kA ?_
  try simp
  (repeat refine qA ?_);refine bA ?_;(repeat refine qA ?_);refine rA ?_
  simp [s7, s9, hx]
  intro g hgf
  try simp [set_at, set_set]
  have hgg : (st.mem.set g (.box l[i].cells)) g = some (.box l[i].cells) := set_same _ _ _
  generalize st.mem.set g (.box l[i].cells) = m1 at *
  (repeat refine qA ?_);refine rA ?_
  simp [hgg]
  (repeat refine qA ?_);refine AWp.cond (b := !decide (l[i].k = 3)) (by simp) (fun hk => ?_) (fun hk => ?_)
  ·simp at hk
   refine eA ?_
   try simp
   (repeat refine qA ?_);refine rA ?_
   simp [s9, hw]
   exact hR _ (l.length - (i + 1)) (by omega) ⟨i + 1, rfl, hb, by simp [s7], by simp [s8], by simp [s1], by simp, by rw [hz]; simp [hk]⟩
  simp at hk
  refine kA ?_
  try simp
  refine AWp.sees (Sees.view (t := 6) (m' := m1.del g) (r' := .ref l[i].cells) (by simpa using View.freezeBox hgg)) ?_
  try simp
  generalize hst : (St.mk _ _ : St) = st2
  have t6 : st2.slots 6 = .ref l[i].cells := by rw [<- hst]; simp
  have t7 : st2.slots 7 = .lst false 19 (l.map Sm.av) := by rw [<- hst]; simp [s7]
  have t8 : st2.slots 8 = .int .i64 l.length := by rw [<- hst]; simp [s8]
  have t1 : st2.slots 1 = strs ns := by rw [<- hst]; simp [s1]
  have t9 : st2.slots 9 = .int .i64 i := by rw [<- hst]; simp [s9]
  clear hst
  (repeat refine qA ?_);refine AWp.regionF (fun i => i == 3) (fun i => i == 2 || i == 6 || i == 10) [0, 1, 2, 3, 4, 5, 6, 9, 10, 11, 7, 8, 12, 13, 14, 15] (by kernel_rfl) ?_
  simp [t1, t6]
  refine oC' (c1 _) ?_
  cases hh : has ns l[i].s
  ·simp [t1, t6]
   refine wA ?_
   refine c_Clone ns (by omega) fun v1 m2 h1 => ?_
   try simp
   refine GO.app h1 true [l[i].s] (by simp; omega) fun v2 m3 h2 => ?_
   try simp
   refine wA ?_
   refine PCall.viewed (l := [.lst false 19 (l[i].body.map Sm.av)]) (l' := []) (h l[i] (List.getElem_mem _) (ns ++ [l[i].s]) (by simp; omega)) (by simpa using h2.view) ?_
   try simp
   (repeat refine qA ?_);refine AWp.cond (b := !Sm.nests l[i].body (ns ++ [l[i].s])) (by simp) (fun he => ?_) (fun he => ?_)
   ·simp at he
    (repeat refine qA ?_);refine rA ?_
    try simp
    exact AWp.ret (pR1 rfl (by simp only [put_slot, reduceIte]; rw [hz, hh, he]; simp [hk]))
   simp at he
   refine kA ?_
   try simp
   (repeat refine qA ?_);refine rA ?_
   simp [t9, hw]
   exact hR _ (l.length - (i + 1)) (by omega) ⟨i + 1, rfl, hb, by simp [t7], by simp [t8], by simp [t1], by simp, by rw [hz, hh, he]; simp⟩
  simp
  (repeat refine qA ?_);refine tA ?_
  (repeat refine qA ?_);refine rA ?_
  try simp
  exact AWp.ret (pR1 rfl (by simp only [put_slot, reduceIte]; rw [hz, hh]; simp [hk]))
 simp at hb
 refine eA ?_
 try simp
 (repeat refine qA ?_);refine rA ?_
 try simp
 have : i = l.length := by omega
 subst this
 exact AWp.ret (pR1 rfl (by simp only [put_slot, reduceIte]; rw [hr]; simp [Sm.nests]))
theorem c_loopsOkB (e : Sm) : e.tot <= 1048576 -> ∀ ns : List ByteArray, ns.length + totL Sm.tot e.body <= 2097152 -> PCall Tryz.prog 141 [.lst false 19 (e.body.map Sm.av), strs ns] (.bool (Sm.nests e.body ns)) := by
 induction e using Sm.ind' with | h e h =>
 intro ht
 have := e.tot_body
 exact c_loopsOk0 e.body (by omega) (fun x hx => h x hx (by have := totL_mem Sm.tot hx; omega))
theorem c_loopsOk (l : List Sm) (ht : totL Sm.tot l <= 1048576) (ns : List ByteArray) (hb : ns.length + totL Sm.tot l <= 2097152) : PCall Tryz.prog 141 [.lst false 19 (l.map Sm.av), strs ns] (.bool (Sm.nests l ns)) :=
 c_loopsOk0 l ht (fun x hx => c_loopsOkB x (by have := totL_mem Sm.tot hx; omega)) ns hb
theorem c_namesOk (p : Pg) (ht : p.tot <= 1048576) : PCall Tryz.prog 83 [p.av] (.bool p.namesB) := by
 have h2 := totL_len Sm.tot p.body
 have h3 : p.tot = totL Ar.tot p.arrs + totL Sm.tot p.body := rfl
 obtain ⟨L0, L1, L3, L2, L4⟩ := p.lens ht
 have L42 := L4 2
 have L43 := L4 3
 have hc : p.cells = [.lst false 2 (p.arrs.map Ar.av), .lst false 19 (p.body.map Sm.av)] := rfl
 have cV := c_impl_VarsOf p.body (by omega)
 have cL := c_impl_LoopVars p.body (by omega)
 have cA := c_impl_Asked p.body (by omega)
 have cP := c_namesOf p.body 2 (by omega)
 have cQ := c_namesAsked p.body 3 (by omega)
 rw [asked_same] at cQ
 have cN := (c_loopsOk p.body (by omega) [] (by simp; omega)).arg (args := [.lst false 19 (p.body.map Sm.av), .lst true 0 []]) (.cons (Le.refl _) (.cons (Le.nil _ _ _) .nil))
 have d1 := c_areArrs p p.puts L0 (by omega)
 have d2 := c_areArrs p (p.asked 3) L0 (by omega)
 have d3 := c_areArrs p [p.vars, p.loops, p.asked 2].flatten L0 (by simp; omega)
 have cC := c_ConcatP [p.vars, p.loops, p.asked 2] true (by simp [sumL]; omega) (by simp)
 have cO := fun s => c_Contains p.vars s (by omega)
 change PCall _ _ _ (strs p.vars) at cV
 change PCall _ _ _ (strs p.loops) at cL
 change PCall _ _ _ (strs (p.asked 2)) at cA
 change PCall _ _ _ (strs p.puts) at cP
 change PCall _ _ _ (strs (p.asked 3)) at cQ
 simp only [List.map_cons, List.map_nil] at cC
 have hother : [p.vars, p.loops, p.asked 2].flatten.any p.isArr = (p.vars.any p.isArr || (p.loops.any p.isArr || (p.asked 2).any p.isArr)) := by simp
 rw [hother] at d3
 generalize [p.vars, p.loops, p.asked 2].flatten = names3 at d3 cC
 generalize names3.all p.isArr = all3 at d3
 generalize (p.asked 3).any p.isArr = any1 at d2
 generalize p.puts.any p.isArr = any2 at d1
 unfold strs at *
 refine pO Tryz.func83 (by kernel_rfl) rfl (by simp [Tryz.f83]) ?_
 unfold Pg.av at *
 rw [hc] at *
 (repeat refine qA ?_);refine rA ?_
 try simp
 intro g
 (repeat refine qA ?_);refine AWp.regionF (fun _ => true) (fun _ => false) [0, 1, 2, 3, 4, 5, 6, 7] (by kernel_rfl) ?_
 try simp
 refine oC' cV ?_
 try simp
 refine oC' cL ?_
 try simp
 (repeat refine qA ?_);refine rA ?_
 try simp
 (try refine qA ?_)
 refine AWp.cutA (fun st => st.slots 1 = .ptr g 0 /\ st.mem g = some (.box [.lst false 2 (p.arrs.map Ar.av), .lst false 19 (p.body.map Sm.av)]) /\ st.slots 3 = .lst false 1 (p.vars.map .str) /\ st.slots 4 = .lst false 1 (p.loops.map .str) /\ p.loops.any (fun x => has p.vars x) = false) ?_ ?_
 ·refine AWp.block (AWp.rounds (fun k st => ∃ (i : Nat), k = p.loops.length - i /\ i <= p.loops.length /\ st.slots 1 = .ptr g 0 /\ st.mem g = some (.box [.lst false 2 (p.arrs.map Ar.av), .lst false 19 (p.body.map Sm.av)]) /\ st.slots 3 = .lst false 1 (p.vars.map .str) /\ st.slots 4 = .lst false 1 (p.loops.map .str) /\ st.slots 19 = .lst false 1 (p.loops.map .str) /\ st.slots 20 = .int .i64 p.loops.length /\ st.slots 21 = .int .i64 i /\
   p.loops.any (fun x => has p.vars x) = (p.loops.drop i).any (fun x => has p.vars x)) p.loops.length ⟨0, by simp, by simp, by simp, by simp, by simp, by simp, by simp, by simp, by simp, by simp⟩ ?_)
  rintro R k st hR ⟨i, rfl, hi, s1, sg, s3, s4, s19, s20, s21, hr⟩
  (repeat refine qA ?_);refine rA ?_
  simp [s19, s20, s21]
  (repeat refine qA ?_);refine AWp.cond (b := decide (i < p.loops.length)) (by simp) (fun hb => ?_) (fun hb => ?_)
  ·simp at hb
   have hg : p.loops[i]? = some p.loops[i] := List.getElem?_eq_getElem hb
   have hdr : p.loops.drop i = p.loops[i] :: p.loops.drop (i + 1) := List.drop_eq_getElem_cons hb
   have hx : ∀ m, idxA Tryz.prog m 70 (.lst false 1 (p.loops.map .str)) (.int .i64 i) = some (.ref [.str p.loops[i]]) := fun m => idx (y := .str p.loops[i]) es_70 (by simp [hg])
   have hw := iA i (by omega)
   rw [hdr, List.any_cons] at hr
   refine kA ?_
   try simp
   (repeat refine qA ?_);refine bA ?_;(repeat refine qA ?_);refine rA ?_
   simp [s19, s21, hx]
   (repeat refine qA ?_);refine raA ?_
   simp [s3]
   refine oC' (cO p.loops[i]) ?_
   try simp
   (repeat refine qA ?_);refine AWp.cond (b := has p.vars p.loops[i]) (by simp) (fun he => ?_) (fun he => ?_)
   ·(repeat refine qA ?_);refine rA ?_
    try simp
    rw [he, Bool.true_or] at hr
    have hnb : p.namesB = false := by unfold Pg.namesB; rw [hr]; simp
    exact AWp.ret (pR1 rfl (by simp [hnb]))
   refine kA ?_
   try simp
   (repeat refine qA ?_);refine rA ?_
   simp [s21, hw]
   exact hR _ (p.loops.length - (i + 1)) (by omega) ⟨i + 1, rfl, hb, by simp [s1], by simp [sg], by simp [s3], by simp [s4], by simp [s19], by simp [s20], by simp, by rw [hr, he, Bool.false_or]⟩
  simp at hb
  refine eA ?_
  have : i = p.loops.length := by omega
  subst this
  rw [List.drop_length, List.any_nil] at hr
  simp [s1, sg, s3, s4]
  simpa using hr
 rintro st ⟨s1, sg, s3, s4, hap⟩
 (repeat refine qA ?_);refine AWp.regionG (fun _ => true) (fun _ => false) [0, 1, 2, 3, 4, 5, 6, 7, 8, 9] [0, 1, 2, 3, 4, 5, 6, 8, 7, 9] (by kernel_rfl) ?_
 simp [s1, sg]
 refine oC' cQ ?_
 try simp
 refine oC' d2 ?_
 try simp
 (repeat refine qA ?_);refine AWp.regionG (fun _ => true) (fun _ => false) [0, 1, 2, 3, 4, 5, 6, 7, 8, 9] [0, 1, 2, 3, 4, 5, 6, 8, 7, 9] (by kernel_rfl) ?_
 simp [s1, sg]
 refine oC' cP ?_
 try simp
 refine oC' d1 ?_
 try simp
 (repeat refine qA ?_);refine AWp.regionG (fun _ => true) (fun _ => false) [0, 1, 2, 3, 4, 5, 6, 7, 8, 9, 10, 11, 12, 13] [0, 1, 2, 3, 4, 5, 6, 7, 8, 9, 10, 12, 11, 13] (by kernel_rfl) ?_
 simp [s1, s3, s4, sg]
 refine oC' cA ?_
 simp [s1, s3, s4, sg]
 refine oC' cC ?_
 try simp
 refine oC' d3 ?_
 try simp
 unfold Pg.namesB
 rw [hap]
 (repeat refine qA ?_);refine raA ?_
 cases v2 : (p.asked 3).all p.isArr
 ·simp [s1, s3, sg]
  exact AWp.ret (pR1 rfl (by simp [v2]))
 cases v1 : p.puts.all p.isArr
 ·simp [s1, s3, sg]
  exact AWp.ret (pR1 rfl (by simp [v1]))
 cases v3 : p.vars.any p.isArr
 rotate_left
 ·simp [s1, s3, sg]
  exact AWp.ret (pR1 rfl (by simp [v3]))
 cases v4 : p.loops.any p.isArr
 rotate_left
 ·simp [s1, s3, sg]
  exact AWp.ret (pR1 rfl (by simp [v4]))
 cases v5 : (p.asked 2).any p.isArr
 rotate_left
 ·simp [s1, s3, sg]
  exact AWp.ret (pR1 rfl (by simp [v5]))
 by_cases v8 : p.vars.length <= 6
 rotate_left
 ·have w8 : ¬ (p.vars.length : Int) <= 6 := by omega
  simp [s1, s3, sg, w8]
  exact AWp.ret (pR1 rfl (by simp [v8]))
 have w8 : (p.vars.length : Int) <= 6 := by omega
 simp [s1, s3, sg, w8]
 refine oC' cN ?_
 try simp
 exact AWp.ret (pR1 rfl (by simp [v1, v2, v3, v4, v5, v8]))
theorem c_impl_ProgOk (p : Pg) (ht : p.tot <= 1048576) : PCall Tryz.prog 27 [p.av] (.bool p.ok) := by
 have h1 := totL_len Ar.tot p.arrs
 have h2 := totL_len Sm.tot p.body
 have h3 : p.tot = totL Ar.tot p.arrs + totL Sm.tot p.body := rfl
 have hc : p.cells = [.lst false 2 (p.arrs.map Ar.av), .lst false 19 (p.body.map Sm.av)] := rfl
 have cH := c_arrsOk p.arrs (by omega)
 have cZ := c_impl_Size p.body (by omega)
 have cN := c_namesOk p ht
 refine pO Tryz.func27 (by kernel_rfl) rfl (by simp [Tryz.f27]) ?_
 unfold Pg.av at *
 rw [hc] at *
 (repeat refine qA ?_);refine rA ?_
 try simp
 intro g
 have hbad : p.head = false -> p.ok = false := fun h => by unfold Pg.ok; rw [h]; rfl
 (repeat refine qA ?_);refine raA ?_
 try simp
 refine oC' cH ?_
 cases x1 : (arrsFrom none p.arrs && decide (p.arrs.length <= 4))
 ·have hz : p.ok = false := hbad (by unfold Pg.head; rw [<- Bool.and_assoc, x1]; rfl)
  try simp
  (repeat refine qA ?_);refine tA ?_
  (repeat refine qA ?_);refine rA ?_
  try simp
  exact AWp.ret (pR1 rfl (by simp [hz]))
 by_cases l2 : p.body.length <= 12
 rotate_left
 ·have l2' : (12 : Int) < p.body.length := by omega
  have hz : p.ok = false := hbad (by unfold Pg.head; simp [l2])
  simp [l2']
  (repeat refine qA ?_);refine tA ?_
  (repeat refine qA ?_);refine rA ?_
  try simp
  exact AWp.ret (pR1 rfl (by simp [hz]))
 have l2' : ¬ (12 : Int) < p.body.length := by omega
 simp [l2']
 refine oC' cZ ?_
 by_cases l3 : sumL Sm.size p.body <= 40
 rotate_left
 ·have l3' : (40 : Int) < sumL Sm.size p.body := by omega
  have hz : p.ok = false := hbad (by unfold Pg.head; simp [l3])
  simp [l3']
  (repeat refine qA ?_);refine tA ?_
  (repeat refine qA ?_);refine rA ?_
  try simp
  exact AWp.ret (pR1 rfl (by simp [hz]))
 have l3' : ¬ (40 : Int) < sumL Sm.size p.body := by omega
 simp [l3']
 (repeat refine qA ?_);refine fA ?_
 refine kA ?_
 try simp
 (repeat refine qA ?_);refine rA ?_
 try simp
 (try refine qA ?_)
 refine AWp.cutA (fun st => st.slots 1 = .ptr g 0 /\ st.mem g = some (.box [.lst false 2 (p.arrs.map Ar.av), .lst false 19 (p.body.map Sm.av)]) /\ p.body.all Sm.ok = true) ?_ ?_
 ·refine AWp.block (AWp.rounds (fun k st => ∃ (i : Nat), k = p.body.length - i /\ i <= p.body.length /\ st.slots 1 = .ptr g 0 /\ st.mem g = some (.box [.lst false 2 (p.arrs.map Ar.av), .lst false 19 (p.body.map Sm.av)]) /\ st.slots 22 = .lst false 19 (p.body.map Sm.av) /\ st.slots 23 = .int .i64 p.body.length /\ st.slots 24 = .int .i64 i /\ p.body.all Sm.ok = (p.body.drop i).all Sm.ok) p.body.length ⟨0, by simp, by simp, by simp, by simp, by simp, by simp, by simp, by simp⟩ ?_)
  rintro R k st hR ⟨i, rfl, hi, s1, sg, s22, s23, s24, hr⟩
  (repeat refine qA ?_);refine rA ?_
  simp [s22, s23, s24]
  (repeat refine qA ?_);refine AWp.cond (b := decide (i < p.body.length)) (by simp) (fun hb => ?_) (fun hb => ?_)
  ·simp at hb
   have hg : p.body[i]? = some p.body[i] := List.getElem?_eq_getElem hb
   have hdr : p.body.drop i = p.body[i] :: p.body.drop (i + 1) := List.drop_eq_getElem_cons hb
   have hx : ∀ m, idxA Tryz.prog m 30 (.lst false 19 (p.body.map Sm.av)) (.int .i64 i) = some (.ref p.body[i].cells) := fun m => idx (y := p.body[i].av) es_30 (by simp [hg])
   have hw := iA i (by omega)
   have htm := totL_mem Sm.tot (List.getElem_mem hb)
   rw [hdr, List.all_cons] at hr
   refine kA ?_
   try simp
   (repeat refine qA ?_);refine bA ?_;(repeat refine qA ?_);refine rA ?_
   simp [s22, s24, hx]
   intro g2 hgf
   try simp [set_at, set_set]
   have hgg : (st.mem.set g2 (.box p.body[i].cells)) g2 = some (.box p.body[i].cells) := set_same _ _ _
   have hsg : (st.mem.set g2 (.box p.body[i].cells)) g = some (.box [.lst false 2 (p.arrs.map Ar.av), .lst false 19 (p.body.map Sm.av)]) := by
    rw [set_at, if_neg]
    ·exact sg
    rintro rfl; rw [hgf] at sg; cases sg
   generalize st.mem.set g2 (.box p.body[i].cells) = m1 at *
   (repeat refine qA ?_);refine raA ?_
   simp [hgg]
   refine oC' (c_impl_StmtOk p.body[i] (by omega)) ?_
   try simp
   (repeat refine qA ?_);refine AWp.cond (b := !p.body[i].ok) (by simp) (fun he => ?_) (fun he => ?_)
   ·simp at he
    (repeat refine qA ?_);refine rA ?_
    try simp
    have hz : p.ok = false := hbad (by unfold Pg.head; rw [hr, he]; simp)
    exact AWp.ret (pR1 rfl (by simp [hz]))
   simp at he
   refine kA ?_
   try simp
   (repeat refine qA ?_);refine rA ?_
   simp [s24, hw]
   exact hR _ (p.body.length - (i + 1)) (by omega) ⟨i + 1, rfl, hb, by simp [s1], by simp [hsg], by simp [s22], by simp [s23], by simp, by rw [hr, he, Bool.true_and]⟩
  simp at hb
  refine eA ?_
  have : i = p.body.length := by omega
  subst this
  simp only [List.drop_length, List.all_nil] at hr
  simp [s1, sg]
  simpa using hr
 rintro st ⟨s1, sg, hB⟩
 have hok : p.ok = p.namesB := by
  unfold Pg.ok Pg.head
  rw [<- Bool.and_assoc, x1, hB]
  simp [l2, l3]
 (repeat refine qA ?_);refine raA ?_
 simp [s1, sg]
 refine oC' cN ?_
 try simp
 exact AWp.ret (pR1 rfl (by simp [hok]))



section
variable {H : Type} {enc : TypeId × Value -> H} {W : World}
end

def isWd (n : Int) : Bool := inR n (-2147483648) 2147483647
theorem c_isWord (n : Int) : PCall Tryz.prog 152 [.int .i64 n] (.bool (isWd n)) := by
 have c1 := c_inRange n (-2147483648) 2147483647
 refine pO Tryz.func152 (by kernel_rfl) rfl (by simp [Tryz.f152]) ?_
 repeat' (first
  | refine qA ?_
  | (refine raA ?_; simp)
  | (refine gA ?_; simp)
  | (refine kA ?_; try simp)
  | (refine eA ?_; try simp)
  | refine bA ?_
  | (refine oC' (c1) ?_; simp)
  | (refine AWp.ret (pR1 rfl ?_); (simp [isWd]; done))
  | (refine guardI (fun hq => ?_) (fun hq => ?_) <;> (try simp at hq) <;> (try simp))
  | (refine cRI (fun hq => ?_) (fun hq => ?_) <;> (try simp at hq) <;> (try simp))
  | (refine iteI ?_ ?_ <;> intro hq <;> (try simp)))
end Go.T
namespace Go.T
open Go Go.Proofs
set_option maxRecDepth 10000
set_option maxHeartbeats 1000000
open Go Go.Sort
theorem c_spec_NumText (n : Int) (h0 : -9223372036854775808 <= n) (h1 : n <= 9223372036854775807) : PCall Tryz.prog 38 [.int .i64 n] (.str (numB n)) := by
 refine pO Tryz.func38 (by kernel_rfl) rfl (by simp [Tryz.f38]) ?_
 (repeat refine qA ?_);refine rA ?_
 try simp
 (repeat refine qA ?_);refine rA ?_
 simp
 by_cases hz : n = 0
 ·(repeat refine qA ?_);refine AWp.condT (by simp [hz]) ?_
  (repeat refine qA ?_);refine rA ?_
  simp
  refine AWp.ret (pR1 rfl ?_)
  subst hz
  simp [numB, itoa_zero]
  try rfl
 (repeat refine qA ?_);refine AWp.condF (by simp [hz]) ?_
 refine kA ?_
 try simp
 (repeat refine qA ?_);refine rA ?_
 simp
 (repeat refine qA ?_);refine rA ?_
 simp
 (try refine qA ?_)
 refine AWp.cutA (fun st => st.slots 0 = .int .i64 n /\ st.slots 3 = .str ⟨(dig n.natAbs).toArray⟩) ?_ ?_
 ·refine AWp.block (AWp.rounds (fun k st => ∃ (v : Int) (s : List UInt8), k = v.natAbs /\ v.natAbs <= n.natAbs /\ (-9223372036854775808 <= v /\ v <= 9223372036854775807) /\ dig v.natAbs ++ s = dig n.natAbs /\ st.slots 0 = .int .i64 n /\ st.slots 3 = .str ⟨s.toArray⟩ /\ st.slots 4 = .int .i64 v) n.natAbs ⟨n, [], rfl, Nat.le_refl _, ⟨h0, h1⟩, by simp, by simp, by simp; try rfl, by simp⟩ ?_)
  rintro RR k st hR ⟨v, s, rfl, hvn, hvb, hd, s0, s3, s4⟩
  by_cases hv : v = 0
  ·(repeat refine qA ?_);refine rA ?_
   simp [s4, hv]
   (repeat refine qA ?_);refine fA ?_
   refine eA ?_
   subst hv
   simp [dig] at hd
   simp [s0, s3, hd, dig]
  have e1 := tmod10 v
  have e2 := tdiv10 v
  have hne : v.natAbs ≠ 0 := by omega
  have hstep := dig_step hne
  have hlt : v.natAbs % 10 < 10 := Nat.mod_lt _ (by omega)
  (repeat refine qA ?_);refine rA ?_
  simp [s4, hv]
  (repeat refine qA ?_);refine tA ?_
  refine kA ?_
  try simp
  (repeat refine qA ?_);refine bA ?_
  (repeat refine qA ?_);refine rA ?_
  simp [s4]
  generalize v.tmod 10 = t at *
  (repeat refine qA ?_);refine rA ?_
  simp
  (try refine qA ?_)
  refine AWp.cutA (fun st' => st'.slots 0 = .int .i64 n /\ st'.slots 3 = .str ⟨s.toArray⟩ /\ st'.slots 4 = .int .i64 v /\ st'.slots 5 = .int .i64 (v.natAbs % 10 : Nat)) ?_ ?_
  ·by_cases ht : t < 0
   ·have hw : IntKind.wrap .i64 (0 - t) = ((v.natAbs % 10 : Nat) : Int) := by rw [wrap64 (by omega) (by omega)]; omega
    have hw' : IntKind.wrap .i64 (-t) = ((v.natAbs % 10 : Nat) : Int) := by rw [wrap64 (by omega) (by omega)]; omega
    refine AWp.condT (by simp [ht]) ?_
    (repeat refine qA ?_);refine rA ?_
    simp [s0, s3, s4, hw, hw']
   have ht' : t = ((v.natAbs % 10 : Nat) : Int) := by omega
   refine AWp.condF (by simp [ht]) ?_
   refine kA ?_
   simp [s0, s3, s4, ht']
  rintro st' ⟨q0, q3, q4, q5⟩
  have hb1 := bytes_one (v.natAbs % 10) hlt
  generalize v.natAbs % 10 = d at *
  have hw : IntKind.wrap .i64 (48 + (d : Int)) = 48 + (d : Int) := wrap64 (by omega) (by omega)
  have hw8 : IntKind.wrap .u8 (48 + (d : Int)) = 48 + (d : Int) := by rw [IntKind.wrap_u8]; omega
  have hlen : s.length <= 19 := by
   have := dig_word h0 h1
   rw [<- hd] at this
   simp at this
   omega
  (repeat refine qA ?_);refine rA ?_
  have hle : 1 + s.length <= 9223372036854775807 := by omega
  simp [q5, q3, hw, hw8, hb1, numsA, binA, strA, convA, cat1, size_mk, hle]
  have hwq : IntKind.wrap .i64 (v.tdiv 10) = v.tdiv 10 := wrap64 (by omega) (by omega)
  (repeat refine qA ?_);refine rA ?_
  simp [q4, hwq]
  exact hR _ (v.tdiv 10).natAbs (by omega) ⟨v.tdiv 10, UInt8.ofNat (48 + d) :: s, rfl, by omega, by omega, by rw [e2, <- hd, hstep]; simp, by simp [q0], by simp, by simp⟩
 rintro st ⟨s0, s3⟩
 (repeat refine qA ?_);refine rA ?_
 simp [s0]
 have hlen := dig_word h0 h1
 by_cases hneg : n < 0
 ·(repeat refine qA ?_);refine AWp.condT (by simp [hneg]) ?_
  (repeat refine qA ?_);refine rA ?_
  have hle : 1 + (dig n.natAbs).length <= 9223372036854775807 := by omega
  simp [s3, binA, strA, cat1, size_mk, hle]
  refine AWp.ret (pR1 rfl ?_)
  simp [numB, itoa_neg hneg]
 (repeat refine qA ?_);refine AWp.condF (by simp [hneg]) ?_
 refine kA ?_
 try simp
 (repeat refine qA ?_);refine rA ?_
 simp [s3]
 refine AWp.ret (pR1 rfl ?_)
 simp [numB, itoa_pos (show 0 < n by omega)]
end Go.T
namespace Go.Proofs
open Go.Shelf
shelf_lay LaysM.n171 Nm 171 at Tryz as Tryz.laysItoa -- 94
end Go.Proofs
namespace Go.T
open Go Go.Proofs
set_option maxRecDepth 10000
set_option maxHeartbeats 1000000
open Go Go.Sort Go.Shelf
def TB : Nat := 1
theorem tb_named : Tryz.prog.globalNamed "internal/strconv.uint64pow10" = some TB := by kernel_rfl
theorem c_Itoa (n : Int) (h0 : -9223372036854775808 <= n) (h1 : n <= 9223372036854775807) {T : TypeId} {m : Mem} (hm : m TB = some (tabBlk T)) {k : AV -> Mem -> Prop} (hk : k (.str (numB n)) m) : WCall Tryz.prog 94 [.int .i64 n] m k :=
 wc_itoa ⟨Tryz.f94, Tryz.func94, by kernel_rfl, by kernel_rfl⟩ tb_named (fun n h0 h1 w htab => Any.strconv_Itoa Tryz.laysItoa n h0 h1 w htab) n h0 h1 hm hk
theorem c_impl_NumText (n : Int) (h0 : -9223372036854775808 <= n) (h1 : n <= 9223372036854775807) {T : TypeId} {m : Mem} (hm : m TB = some (tabBlk T)) {K : AV -> Mem -> Prop} (hK : K (.str (numB n)) m) : WCall Tryz.prog 34 [.int .i64 n] m K := by
 refine wcall_of Tryz.func34 (by kernel_rfl) rfl (by simp [Tryz.f34]) ?_
 (repeat refine qA ?_);refine rA ?_
 try simp
 (repeat refine qA ?_);refine rA ?_
 simp
 refine wA ?_
 try simp
 refine c_Itoa n h0 h1 hm ?_
 try simp
 refine AWp.ret (post_retW rfl ⟨_, _, View.refl _ _, ?_⟩)
 simp
 exact hK
end Go.T
namespace Go.Proofs
open Go.Shelf
shelf_lay Lays.n144 Nm 144 at Tryz as Tryz.laysContains -- 113
end Go.Proofs
namespace Go.T
open Go Go.Proofs
set_option maxRecDepth 10000
set_option maxHeartbeats 1000000
open Go Go.Sort Go.Shelf
theorem c_sContains (s : ByteArray) (c : UInt8) : PCall Tryz.prog 113 [.str s, .str ⟨#[c]⟩] (.bool (s.data.toList.contains c)) :=
 ⟨⟨Tryz.f113, Tryz.func113, by kernel_rfl, by kernel_rfl⟩, fun w S cargs m hm hr => by
  cases hr with
  | cons h1 hr =>
   cases hr with
   | cons h2 hr =>
    cases hr
    cases h1
    cases h2
    refine calls_mono (Any.strings_Contains_one Tryz.laysContains s c w) fun e w' ⟨he, hw⟩ => ?_
    subst hw
    rw [<- marks_has]
    exact ⟨_, S, he, fun _ h => h, fun _ h => .inl h, hm, .bool _, Keep.refl _ _⟩⟩
theorem c_isFigure (c : UInt8) : PCall Tryz.prog 111 [.int .u8 c.toNat] (.bool (figure c)) := by
 refine pO Tryz.func111 (by kernel_rfl) rfl (by simp [Tryz.f111]) ?_
 (repeat refine qA ?_);refine rA ?_
 simp
 (repeat refine qA ?_);refine rA ?_
 by_cases h : (48 : Int) <= c.toNat
 ·simp [h]
  exact AWp.ret (pR1 rfl (by simp [inR, figure, h]))
 simp [h]
 exact AWp.ret (pR1 rfl (by simp [inR, figure, h]))
theorem all_take {L : List UInt8} {f : UInt8 -> Bool} {i : Nat} (h : i < L.length) (ha : (L.take i).all f = true) (hf : f L[i] = true) : (L.take (i + 1)).all f = true := by
 rw [List.take_succ_eq_append_getElem h, List.all_append, ha]
 simp [hf]
theorem val_take {L : List UInt8} {i : Nat} (h : i < L.length) : valD (L.take (i + 1)) = valD (L.take i) * 10 + (L[i].toNat - 48) := by
 rw [List.take_succ_eq_append_getElem h, valD_snoc]
theorem not_all {L : List UInt8} {f : UInt8 -> Bool} {i : Nat} (h : i < L.length) (hf : f L[i] = false) : L.all f = false := by
 rw [Bool.eq_false_iff]
 intro ha
 rw [List.all_eq_true] at ha
 rw [ha _ (List.getElem_mem h)] at hf
 cases hf
theorem pow10_le {k n : Nat} (h : k <= n) : 10 ^ k <= 10 ^ n := Nat.pow_le_pow_right (by omega) h
theorem c_impl_ParseNum (s : ByteArray) {T : TypeId} {m : Mem} (hm : m TB = some (tabBlk T)) {K : AV -> Mem -> Prop} (hK : K (.tup [.int .i64 ((numD s.data.toList).getD 0), .bool (numD s.data.toList).isSome]) m) : WCall Tryz.prog 112 [.str s] m K := by
 have hsz := size_list s
 generalize hL : s.data.toList = L at *
 refine wcall_of Tryz.func112 (by kernel_rfl) rfl (by simp [Tryz.f112]) ?_
 (repeat refine qA ?_);refine rA ?_
 try simp
 (repeat refine qA ?_);refine rA ?_
 simp
 refine oC' (c_inRange s.size 1 10) ?_
 simp
 have fail : ∀ st : St, numD L = none -> st.slots 2 = .int .i64 0 -> st.slots 3 = .bool false -> st.mem = m -> Post Tryz.prog Tryz.f112 K .ret st := fun st hn s2 s3 sm => by
  rw [hn] at hK
  exact ⟨[.int .i64 0, .bool false], _, m, by simp [Tryz.f112, resA, s2, s3], by rw [sm]; exact View.refl _ _, hK⟩
 by_cases hin : 1 <= L.length /\ L.length <= 10
 rotate_left
 ·have hi2 : inR s.size 1 10 = false := by simp [inR]; omega
  (repeat refine qA ?_);refine AWp.condT (by simp [hi2]) ?_
  (repeat refine qA ?_);refine rA ?_
  simp
  refine AWp.ret (fail _ ?_ (by simp) (by simp) (by simp))
  unfold numD
  rw [if_neg]
  intro h
  apply hin
  refine ⟨?_, h.1⟩
  have := h.2.1
  cases L with
  | nil => exact absurd rfl this
  | cons c l => simp
 have hi2 : inR s.size 1 10 = true := by simp [inR]; omega
 have hne : L ≠ [] := by rintro rfl; simp at hin
 (repeat refine qA ?_);refine AWp.condF (by simp [hi2]) ?_
 refine kA ?_
 try simp
 (repeat refine qA ?_);refine rA ?_
 simp
 (repeat refine qA ?_);refine rA ?_
 simp
 obtain ⟨M, hM⟩ : ∃ M : St -> Prop, M = (fun st => L.all figure = true /\ st.slots 0 = .str s /\ st.slots 4 = .int .i64 (valD L : Nat) /\ st.mem = m) := ⟨_, rfl⟩
 refine AWp.cutA M ?_ ?_
 ·refine AWp.block (AWp.rounds (fun q st => ∃ i : Nat, q = L.length - i /\ i <= L.length /\ (L.take i).all figure = true /\ st.slots 0 = .str s /\ st.slots 4 = .int .i64 (valD (L.take i) : Nat) /\ st.slots 5 = .int .i64 i /\ st.mem = m) L.length ⟨0, by simp, by simp, by simp, by simp, by simp [valD], by simp, by simp⟩ ?_)
  rintro RR q st hRR ⟨i, rfl, hi, ha, s0, s4, s5, sm⟩
  by_cases hb : i < L.length
  ·have hget : s.data.toList[i]? = some L[i] := by rw [hL]; exact List.getElem?_eq_getElem hb
   have hx : sidxA Tryz.prog 9 (.str s) (.int .i64 i) = some (.int .u8 L[i].toNat) := sidx Tryz.underlying9 hget
   have hlt : (i : Int) < s.size := by omega
   have hw := iA i (by omega)
   (repeat refine qA ?_);refine rA ?_
   simp [s0, s5, hlt]
   (repeat refine qA ?_);refine tA ?_
   refine kA ?_
   try simp
   (repeat refine qA ?_);refine bA ?_
   (repeat refine qA ?_);refine rA ?_
   simp [s0, s5, hx]
   by_cases hf : figure L[i] = true
   ·have hf2 := figure_le hf
    have h1 : ¬ ((L[i].toNat : Int) < 48) := by omega
    have h2 : ¬ ((57 : Int) < L[i].toNat) := by omega
    have hv := valD_lt _ ha
    have hp := pow10_le (show (L.take i).length <= 9 by simp; omega)
    have hw8 : IntKind.wrap .u8 ((L[i].toNat : Int) - 48) = ((L[i].toNat - 48 : Nat) : Int) := by rw [IntKind.wrap_u8]; omega
    have hwc : IntKind.wrap .i64 ((L[i].toNat - 48 : Nat) : Int) = ((L[i].toNat - 48 : Nat) : Int) := wrap64 (by omega) (by omega)
    have hw1 : IntKind.wrap .i64 ((valD (L.take i) : Int) * 10) = (valD (L.take i) : Int) * 10 := wrap64 (by omega) (by omega)
    have hw2 : IntKind.wrap .i64 ((valD (L.take i) : Int) * 10 + ((L[i].toNat - 48 : Nat) : Int)) = (valD (L.take (i + 1)) : Nat) := by rw [val_take hb, wrap64 (by omega) (by omega)]; push_cast; omega
    simp [h1, h2]
    (repeat refine qA ?_);refine fA ?_
    refine kA ?_
    try simp
    (repeat refine qA ?_);refine rA ?_
    simp [s0, s4, s5, hx, hw8, hwc, hw1, hw2]
    (repeat refine qA ?_);refine rA ?_
    simp [s5, hw]
    exact hRR _ (L.length - (i + 1)) (by omega) ⟨i + 1, rfl, by omega, all_take hb ha hf, by simp [s0], by simp, by simp, by simp [sm]⟩
   have hf : figure L[i] = false := by simpa using hf
   have hn : numD L = none := by
    unfold numD
    rw [if_neg]
    intro h
    rw [not_all hb hf] at h
    exact absurd h.2.2.1 (by simp)
   have h3 : (L[i].toNat : Int) < 48 ∨ (57 : Int) < L[i].toNat := by
    unfold figure inR at hf
    simp at hf
    omega
   by_cases h1 : (L[i].toNat : Int) < 48
   ·simp [h1]
    (repeat refine qA ?_);refine tA ?_
    (repeat refine qA ?_);refine rA ?_
    simp
    exact AWp.ret (fail _ hn (by simp) (by simp) (by simp [sm]))
   have h2 := h3.resolve_left h1
   simp [h1, h2]
   (repeat refine qA ?_);refine tA ?_
   (repeat refine qA ?_);refine rA ?_
   simp
   exact AWp.ret (fail _ hn (by simp) (by simp) (by simp [sm]))
  have : i = L.length := by omega
  subst this
  have hlt : ¬ ((L.length : Int) < s.size) := by omega
  (repeat refine qA ?_);refine rA ?_
  simp [s0, s5, hlt]
  (repeat refine qA ?_);refine fA ?_
  refine eA ?_
  rw [List.take_length] at ha s4
  subst hM
  exact ⟨ha, by simp [s0], by simp [s4], by simp [sm]⟩
 intro st hst
 subst hM
 obtain ⟨ha, s0, s4, sm⟩ := hst
 have hv := valD_lt _ ha
 have hp := pow10_le hin.2
 have hnb := numB_iff hne ha
 have hs2 : s = ⟨L.toArray⟩ := by rw [<- hL]
 (repeat refine qA ?_);refine rA ?_
 simp [s0, s4]
 refine wA ?_
 simp [sm]
 refine c_impl_NumText (valD L : Nat) (by omega) (by omega) hm ?_
 try simp
 by_cases hh : L.length = 1 ∨ L.head? ≠ some 48
 ·have e1 : numB (valD L : Nat) = s := by rw [hs2]; exact hnb.2 hh
  simp [e1, s4, s0]
  refine oC' (c_isWord (valD L : Nat)) ?_
  simp
  by_cases hmx : valD L <= 2147483647
  ·have hwd : isWd (valD L : Nat) = true := by unfold isWd inR; simp; omega
   simp [hwd]
   (repeat refine qA ?_);refine fA ?_
   refine kA ?_
   try simp
   (repeat refine qA ?_);refine rA ?_
   simp [s4]
   refine AWp.ret ?_
   have hn : numD L = some ((valD L : Nat) : Int) := by unfold numD; rw [if_pos ⟨hin.2, hne, ha, hh, hmx⟩]
   rw [hn] at hK
   exact ⟨[.int .i64 (valD L : Nat), .bool true], _, m, by simp [Tryz.f112, resA, s4], by simp [sm]; exact View.refl _ _, hK⟩
  have hwd : isWd (valD L : Nat) = false := by unfold isWd inR; simp; omega
  simp [hwd]
  (repeat refine qA ?_);refine tA ?_
  (repeat refine qA ?_);refine rA ?_
  simp
  exact AWp.ret (fail _ (by unfold numD; rw [if_neg (fun h => hmx h.2.2.2.2)]) (by simp) (by simp) (by simp [sm]))
 have e1 : ¬ numB (valD L : Nat) = s := by rw [hs2]; exact fun e => hh (hnb.1 e)
 simp [e1, s0]
 (repeat refine qA ?_);refine tA ?_
 (repeat refine qA ?_);refine rA ?_
 simp
 exact AWp.ret (fail _ (by unfold numD; rw [if_neg (fun h => hh h.2.2.2.1)]) (by simp) (by simp) (by simp [sm]))
end Go.T
