/- Statements that are right: what the program and the reference compute. How many statements there are: what the program and the reference compute. Statements that are right, but for loops: what the program computes. Statements that are right: what the program computes. Statements that are right, but for loops: what the reference computes. Statements that are right: what the reference computes; StmtOk. Where a name is: what the program and the reference compute. -/
import Derived.Test.YtdbnllfjmkmdiaaGreatDoorG9
import Derived.Test.YtdbnllfjmkmdiaaGreatDoorG3
import Derived.Test.YtdbnllfjmkmdiaaGreatDoorG4
set_option linter.unusedSimpArgs false
set_option linter.unusedVariables false
namespace Go.T
open Go Go.Proofs
set_option maxRecDepth 10000
set_option maxHeartbeats 1000000
theorem c_isZero (e : Ex) : PCall Tryz.prog 183 [e.av] (.bool e.no) := by
 refine pO Tryz.func183 (by kernel_rfl) rfl (by simp [Tryz.f183]) ?_
 cases e with | mk k n s l =>
 unfold Ex.av
 rw [Ex.cells_mk]
 (repeat refine qA ?_);refine rA ?_
 simp
 intro g
 by_cases h1 : k = 0
 ·by_cases h2 : n = 0
  ·by_cases h3 : s = ⟨#[]⟩
   repeat' (first
  | refine qA ?_
  | (refine raA ?_; simp [*])
  | (refine gA ?_; simp [*])
  | (refine kA ?_; try simp)
  | (refine eA ?_; try simp)
  | refine bA ?_
  | (refine AWp.ret (pR1 rfl ?_); (simp [Ex.no, noS, *]; done))
  | (refine guardI (fun hq => ?_) (fun hq => ?_) <;> (try simp at hq) <;> (try simp [*]))
  | (refine cRI (fun hq => ?_) (fun hq => ?_) <;> (try simp at hq) <;> (try simp [*]))
  | (refine iteI ?_ ?_ <;> intro hq <;> (try simp [*])))
   repeat' (first
  | refine qA ?_
  | (refine raA ?_; simp [*])
  | (refine gA ?_; simp [*])
  | (refine kA ?_; try simp)
  | (refine eA ?_; try simp)
  | refine bA ?_
  | (refine AWp.ret (pR1 rfl ?_); (simp [Ex.no, noS, *]; done))
  | (refine guardI (fun hq => ?_) (fun hq => ?_) <;> (try simp at hq) <;> (try simp [*]))
  | (refine cRI (fun hq => ?_) (fun hq => ?_) <;> (try simp at hq) <;> (try simp [*]))
  | (refine iteI ?_ ?_ <;> intro hq <;> (try simp [*])))
  ·repeat' (first
  | refine qA ?_
  | (refine raA ?_; simp [*])
  | (refine gA ?_; simp [*])
  | (refine kA ?_; try simp)
  | (refine eA ?_; try simp)
  | refine bA ?_
  | (refine AWp.ret (pR1 rfl ?_); (simp [Ex.no, noS, *]; done))
  | (refine guardI (fun hq => ?_) (fun hq => ?_) <;> (try simp at hq) <;> (try simp [*]))
  | (refine cRI (fun hq => ?_) (fun hq => ?_) <;> (try simp at hq) <;> (try simp [*]))
  | (refine iteI ?_ ?_ <;> intro hq <;> (try simp [*])))
 repeat' (first
 | refine qA ?_
 | (refine raA ?_; simp [*])
 | (refine gA ?_; simp [*])
 | (refine kA ?_; try simp)
 | (refine eA ?_; try simp)
 | refine bA ?_
 | (refine AWp.ret (pR1 rfl ?_); (simp [Ex.no, noS, *]; done))
 | (refine guardI (fun hq => ?_) (fun hq => ?_) <;> (try simp at hq) <;> (try simp [*]))
 | (refine cRI (fun hq => ?_) (fun hq => ?_) <;> (try simp at hq) <;> (try simp [*]))
 | (refine iteI ?_ ?_ <;> intro hq <;> (try simp [*])))
theorem c_l3No (e : Ex) : PCall Tryz.prog 177 [e.av] (.bool e.no) := by
 refine pO Tryz.func177 (by kernel_rfl) rfl (by simp [Tryz.f177]) ?_
 cases e with | mk k n s l =>
 unfold Ex.av
 rw [Ex.cells_mk]
 (repeat refine qA ?_);refine rA ?_
 simp
 intro g
 by_cases h1 : k = 0
 ·by_cases h2 : n = 0
  ·by_cases h3 : s = ⟨#[]⟩
   repeat' (first
  | refine qA ?_
  | (refine raA ?_; simp [*])
  | (refine gA ?_; simp [*])
  | (refine kA ?_; try simp)
  | (refine eA ?_; try simp)
  | refine bA ?_
  | (refine AWp.ret (pR1 rfl ?_); (simp [Ex.no, noS, *]; done))
  | (refine guardI (fun hq => ?_) (fun hq => ?_) <;> (try simp at hq) <;> (try simp [*]))
  | (refine cRI (fun hq => ?_) (fun hq => ?_) <;> (try simp at hq) <;> (try simp [*]))
  | (refine iteI ?_ ?_ <;> intro hq <;> (try simp [*])))
   repeat' (first
  | refine qA ?_
  | (refine raA ?_; simp [*])
  | (refine gA ?_; simp [*])
  | (refine kA ?_; try simp)
  | (refine eA ?_; try simp)
  | refine bA ?_
  | (refine AWp.ret (pR1 rfl ?_); (simp [Ex.no, noS, *]; done))
  | (refine guardI (fun hq => ?_) (fun hq => ?_) <;> (try simp at hq) <;> (try simp [*]))
  | (refine cRI (fun hq => ?_) (fun hq => ?_) <;> (try simp at hq) <;> (try simp [*]))
  | (refine iteI ?_ ?_ <;> intro hq <;> (try simp [*])))
  ·repeat' (first
  | refine qA ?_
  | (refine raA ?_; simp [*])
  | (refine gA ?_; simp [*])
  | (refine kA ?_; try simp)
  | (refine eA ?_; try simp)
  | refine bA ?_
  | (refine AWp.ret (pR1 rfl ?_); (simp [Ex.no, noS, *]; done))
  | (refine guardI (fun hq => ?_) (fun hq => ?_) <;> (try simp at hq) <;> (try simp [*]))
  | (refine cRI (fun hq => ?_) (fun hq => ?_) <;> (try simp at hq) <;> (try simp [*]))
  | (refine iteI ?_ ?_ <;> intro hq <;> (try simp [*])))
 repeat' (first
 | refine qA ?_
 | (refine raA ?_; simp [*])
 | (refine gA ?_; simp [*])
 | (refine kA ?_; try simp)
 | (refine eA ?_; try simp)
 | refine bA ?_
 | (refine AWp.ret (pR1 rfl ?_); (simp [Ex.no, noS, *]; done))
 | (refine guardI (fun hq => ?_) (fun hq => ?_) <;> (try simp at hq) <;> (try simp [*]))
 | (refine cRI (fun hq => ?_) (fun hq => ?_) <;> (try simp at hq) <;> (try simp [*]))
 | (refine iteI ?_ ?_ <;> intro hq <;> (try simp [*])))
theorem c_fieldOk (e : Ex) (b : Bool) (ht : e.tot <= 1048576) : PCall Tryz.prog 164 [e.av, .bool b] (.bool (if b then e.ok else e.no)) := by
 refine pO Tryz.func164 (by kernel_rfl) rfl (by simp [Tryz.f164]) ?_
 have c1 := c_impl_ExpOk e ht
 have c2 := c_isZero e
 unfold Ex.av at c1 c2 ⊢
 (repeat refine qA ?_);refine rA ?_
 simp
 intro g
 cases b
 ·repeat' (first
  | refine qA ?_
  | (refine raA ?_; simp [*])
  | (refine gA ?_; simp [*])
  | (refine kA ?_; try simp)
  | (refine eA ?_; try simp)
  | refine bA ?_
  | (refine oC' (c1) ?_; simp [*])
  | (refine oC' (c2) ?_; simp [*])
  | (refine AWp.ret (pR1 rfl ?_); (simp [*]; done))
  | (refine guardI (fun hq => ?_) (fun hq => ?_) <;> (try simp at hq) <;> (try simp [*]))
  | (refine cRI (fun hq => ?_) (fun hq => ?_) <;> (try simp at hq) <;> (try simp [*]))
  | (refine iteI ?_ ?_ <;> intro hq <;> (try simp [*])))
 repeat' (first
 | refine qA ?_
 | (refine raA ?_; simp [*])
 | (refine gA ?_; simp [*])
 | (refine kA ?_; try simp)
 | (refine eA ?_; try simp)
 | refine bA ?_
 | (refine oC' (c1) ?_; simp [*])
 | (refine oC' (c2) ?_; simp [*])
 | (refine AWp.ret (pR1 rfl ?_); (simp [*]; done))
 | (refine guardI (fun hq => ?_) (fun hq => ?_) <;> (try simp at hq) <;> (try simp [*]))
 | (refine cRI (fun hq => ?_) (fun hq => ?_) <;> (try simp at hq) <;> (try simp [*]))
 | (refine iteI ?_ ?_ <;> intro hq <;> (try simp [*])))
theorem post_ret4 {P : Program} {fn : Func} {t u v w : Tmp} {a b c d : AV} {s : St} (hr : fn.results = #[.tmp t, .tmp u, .tmp v, .tmp w]) (h : s.slots t = a /\ s.slots u = b /\ s.slots v = c /\ s.slots w = d) : Post P fn (fun r' _ => r' = .tup [a, b, c, d]) .ret s := by
 obtain ⟨rfl, rfl, rfl, rfl⟩ := h
 exact ⟨_, _, s.mem, by rw [hr]; rfl, View.refl _ _, rfl⟩
theorem c_fields (k : Int) : PCall Tryz.prog 163 [.int .i64 k] (.tup [.bool (decide (k = 2)), .bool (decide (k ≠ 3)), .bool (decide (k = 3)), .bool (decide (k = 1 ∨ k = 2 ∨ k = 3))]) := by
 refine pO Tryz.func163 (by kernel_rfl) rfl (by simp [Tryz.f163]) ?_
 by_cases h1 : k = 1
 ·subst h1
  repeat' (first
  | refine qA ?_
  | (refine raA ?_; simp)
  | (refine gA ?_; simp)
  | (refine kA ?_; try simp)
  | (refine eA ?_; try simp)
  | refine bA ?_
  | (refine AWp.ret (post_ret4 rfl ?_); (simp; done))
  | (refine guardI (fun hq => ?_) (fun hq => ?_) <;> (try simp at hq) <;> (try simp))
  | (refine cRI (fun hq => ?_) (fun hq => ?_) <;> (try simp at hq) <;> (try simp))
  | (refine iteI ?_ ?_ <;> intro hq <;> (try simp)))
 by_cases h2 : k = 2
 ·subst h2
  repeat' (first
  | refine qA ?_
  | (refine raA ?_; simp)
  | (refine gA ?_; simp)
  | (refine kA ?_; try simp)
  | (refine eA ?_; try simp)
  | refine bA ?_
  | (refine AWp.ret (post_ret4 rfl ?_); (simp; done))
  | (refine guardI (fun hq => ?_) (fun hq => ?_) <;> (try simp at hq) <;> (try simp))
  | (refine cRI (fun hq => ?_) (fun hq => ?_) <;> (try simp at hq) <;> (try simp))
  | (refine iteI ?_ ?_ <;> intro hq <;> (try simp)))
 by_cases h3 : k = 3
 ·subst h3
  repeat' (first
  | refine qA ?_
  | (refine raA ?_; simp)
  | (refine gA ?_; simp)
  | (refine kA ?_; try simp)
  | (refine eA ?_; try simp)
  | refine bA ?_
  | (refine AWp.ret (post_ret4 rfl ?_); (simp; done))
  | (refine guardI (fun hq => ?_) (fun hq => ?_) <;> (try simp at hq) <;> (try simp))
  | (refine cRI (fun hq => ?_) (fun hq => ?_) <;> (try simp at hq) <;> (try simp))
  | (refine iteI ?_ ?_ <;> intro hq <;> (try simp)))
 repeat' (first
  | refine qA ?_
  | (refine raA ?_; simp [*])
  | (refine gA ?_; simp [*])
  | (refine kA ?_; try simp)
  | (refine eA ?_; try simp)
  | refine bA ?_
  | (refine AWp.ret (post_ret4 rfl ?_); (simp [*]; done))
  | (refine guardI (fun hq => ?_) (fun hq => ?_) <;> (try simp at hq) <;> (try simp [*]))
  | (refine cRI (fun hq => ?_) (fun hq => ?_) <;> (try simp at hq) <;> (try simp [*]))
  | (refine iteI ?_ ?_ <;> intro hq <;> (try simp [*])))
theorem c_impl_Size0 (l : List Sm) (ht : totL Sm.tot l <= 1048576) (h : ∀ x ∈ l, PCall Tryz.prog 81 [.lst false 19 (x.body.map Sm.av)] (.int .i64 (sumL Sm.size x.body))) :
  PCall Tryz.prog 81 [.lst false 19 (l.map Sm.av)] (.int .i64 (sumL Sm.size l)) := by
 have hlen := totL_len Sm.tot l
 have hsum := sumL_le Sm.size Sm.tot l (fun x _ => x.size_le)
 refine pO Tryz.func81 (by kernel_rfl) rfl (by simp [Tryz.f81]) ?_
 repeat' (first
  | refine qA ?_
  | (refine raA ?_; simp)
  | (refine gA ?_; simp)
  | (refine kA ?_; try simp)
  | (refine eA ?_; try simp)
  | refine bA ?_
  | (refine guardI (fun hq => ?_) (fun hq => ?_) <;> (try simp at hq) <;> (try simp))
  | (refine cRI (fun hq => ?_) (fun hq => ?_) <;> (try simp at hq) <;> (try simp))
  | (refine iteI ?_ ?_ <;> intro hq <;> (try simp)))
 refine (AWp.rounds (fun m st => ∃ (i : Nat) (q : Int), m = l.length - i /\ i <= l.length /\ st.slots 8 = .lst false 19 (l.map Sm.av) /\ st.slots 9 = .int .i64 l.length /\ st.slots 10 = .int .i64 i /\ st.slots 3 = .int .i64 q /\ 0 <= q /\ q + sumL Sm.size (l.drop i) = sumL Sm.size l + (l.length - i)) l.length ⟨0, l.length, by simp, by simp, by simp, by simp, by simp, by simp, by omega, by simp; omega⟩ ?_)
 rintro R m st hR ⟨i, q, rfl, hi, s8, s9, s10, s3, hq0, hq1⟩
 (repeat refine qA ?_);refine rA ?_
 simp [s9, s10]
 (repeat refine qA ?_)
 refine AWp.cond (b := decide (i < l.length)) (by simp) (fun hb => ?_) (fun hb => ?_)
 ·simp at hb
  have hg : l[i]? = some l[i] := List.getElem?_eq_getElem hb
  have hdr : l.drop i = l[i] :: l.drop (i + 1) := List.drop_eq_getElem_cons hb
  refine kA ?_
  simp
  (repeat refine qA ?_);refine bA ?_;(repeat refine qA ?_);refine rA ?_
  have hx : idxA Tryz.prog st.mem 30 (.lst false 19 (l.map Sm.av)) (.int .i64 i) = some (.ref l[i].cells) := idx (y := l[i].av) es_30 (by simp [hg])
  simp [s8, s9, s10, hx]
  intro g2 hg2
  (repeat refine qA ?_);refine raA ?_
  simp [s3]
  refine oC' (h l[i] (List.getElem_mem _)) ?_
  rw [hdr, sumL, Sm.size_body] at hq1
  have hw2 : IntKind.wrap .i64 (q + (sumL Sm.size l[i].body : Int)) = q + (sumL Sm.size l[i].body : Int) := wrap64 (by omega) (by omega)
  simp [hw2]
  (repeat refine qA ?_);refine rA ?_
  have hw := iA i (by omega)
  simp [s10, hw]
  exact hR _ (l.length - (i + 1)) (by omega) ⟨i + 1, q + (sumL Sm.size l[i].body : Int), rfl, hb, by simp [s8], by simp [s9], by simp, by simp, by omega, by omega⟩
 simp at hb
 refine eA ?_
 simp
 (repeat refine qA ?_);refine rA ?_
 simp [s3]
 have : i = l.length := by omega
 subst this
 simp [sumL] at hq1
 exact AWp.ret (pR1 rfl (by simp [hq1]))
theorem c_impl_SizeB (e : Sm) : e.tot <= 1048576 -> PCall Tryz.prog 81 [.lst false 19 (e.body.map Sm.av)] (.int .i64 (sumL Sm.size e.body)) := by
 induction e using Sm.ind with | h k s a e lo hi b h =>
 intro ht
 rw [Sm.tot_mk] at ht
 exact c_impl_Size0 b (by omega) (fun x hx => h x hx (by have := totL_mem Sm.tot hx; omega))
theorem c_impl_Size (l : List Sm) (ht : totL Sm.tot l <= 1048576) : PCall Tryz.prog 81 [.lst false 19 (l.map Sm.av)] (.int .i64 (sumL Sm.size l)) :=
 c_impl_Size0 l ht (fun x hx => c_impl_SizeB x (by have := totL_mem Sm.tot hx; omega))
theorem c_spec_Size0 (l : List Sm) (ht : totL Sm.tot l <= 1048576) (h : ∀ x ∈ l, PCall Tryz.prog 102 [.lst false 19 (x.body.map Sm.av)] (.int .i64 (sumL Sm.size x.body))) :
  PCall Tryz.prog 102 [.lst false 19 (l.map Sm.av)] (.int .i64 (sumL Sm.size l)) := by
 have hlen := totL_len Sm.tot l
 have hsum := sumL_le Sm.size Sm.tot l (fun x _ => x.size_le)
 refine pO Tryz.func102 (by kernel_rfl) rfl (by simp [Tryz.f102]) ?_
 repeat' (first
  | refine qA ?_
  | (refine raA ?_; simp)
  | (refine gA ?_; simp)
  | (refine kA ?_; try simp)
  | (refine eA ?_; try simp)
  | refine bA ?_
  | (refine guardI (fun hq => ?_) (fun hq => ?_) <;> (try simp at hq) <;> (try simp))
  | (refine cRI (fun hq => ?_) (fun hq => ?_) <;> (try simp at hq) <;> (try simp))
  | (refine iteI ?_ ?_ <;> intro hq <;> (try simp)))
 refine (AWp.rounds (fun m st => ∃ (i : Nat) (q : Int), m = l.length - i /\ i <= l.length /\ st.slots 0 = .lst false 19 (l.map Sm.av) /\ st.slots 4 = .int .i64 i /\ st.slots 3 = .int .i64 q /\ 0 <= q /\ q + sumL Sm.size (l.drop i) = sumL Sm.size l) l.length ⟨0, 0, by simp, by simp, by simp, by simp, by simp, by omega, by simp⟩ ?_)
 rintro R m st hR ⟨i, q, rfl, hi, s0, s4, s3, hq0, hq1⟩
 (repeat refine qA ?_);refine rA ?_
 simp [s0, s4]
 (repeat refine qA ?_)
 refine AWp.cond (b := decide (i < l.length)) (by simp) (fun hb => ?_) (fun hb => ?_)
 ·simp at hb
  have hg : l[i]? = some l[i] := List.getElem?_eq_getElem hb
  have hdr : l.drop i = l[i] :: l.drop (i + 1) := List.drop_eq_getElem_cons hb
  refine kA ?_
  simp
  (repeat refine qA ?_);refine bA ?_;(repeat refine qA ?_);refine raA ?_
  have hx : idxA Tryz.prog st.mem 30 (.lst false 19 (l.map Sm.av)) (.int .i64 i) = some (.ref l[i].cells) := idx (y := l[i].av) es_30 (by simp [hg])
  rw [hdr, sumL, Sm.size_body] at hq1
  have hw1 : IntKind.wrap .i64 (q + 1) = q + 1 := wrap64 (by omega) (by omega)
  have hw2 : IntKind.wrap .i64 (q + 1 + (sumL Sm.size l[i].body : Int)) = q + 1 + (sumL Sm.size l[i].body : Int) := wrap64 (by omega) (by omega)
  simp [s0, s3, s4, hx, hw1]
  refine oC' (h l[i] (List.getElem_mem _)) ?_
  simp [hw2]
  (repeat refine qA ?_);refine rA ?_
  have hw := iA i (by omega)
  simp [s4, hw]
  exact hR _ (l.length - (i + 1)) (by omega) ⟨i + 1, q + 1 + (sumL Sm.size l[i].body : Int), rfl, hb, by simp [s0], by simp, by simp, by omega, by omega⟩
 simp at hb
 refine eA ?_
 simp
 (repeat refine qA ?_);refine rA ?_
 simp [s3]
 have : i = l.length := by omega
 subst this
 simp [sumL] at hq1
 exact AWp.ret (pR1 rfl (by simp [hq1]))
theorem c_spec_SizeB (e : Sm) : e.tot <= 1048576 -> PCall Tryz.prog 102 [.lst false 19 (e.body.map Sm.av)] (.int .i64 (sumL Sm.size e.body)) := by
 induction e using Sm.ind with | h k s a e lo hi b h =>
 intro ht
 rw [Sm.tot_mk] at ht
 exact c_spec_Size0 b (by omega) (fun x hx => h x hx (by have := totL_mem Sm.tot hx; omega))
theorem c_spec_Size (l : List Sm) (ht : totL Sm.tot l <= 1048576) : PCall Tryz.prog 102 [.lst false 19 (l.map Sm.av)] (.int .i64 (sumL Sm.size l)) :=
 c_spec_Size0 l ht (fun x hx => c_spec_SizeB x (by have := totL_mem Sm.tot hx; omega))
theorem c_isRight_1 (s : ByteArray) (a e lo hi : Ex) (b : List Sm) (hs : s.size <= 9223372036854775806) (ha : a.tot <= 1048576) (he : e.tot <= 1048576) (hlo : lo.tot <= 1048576) (hhi : hi.tot <= 1048576) (d : Nat) :
  PCall Tryz.prog 132 [(Sm.mk 1 s a e lo hi b).av, .int .i64 d] (.bool (stHere 1 s a e lo hi b.length d)) := by
 refine pO Tryz.func132 (by kernel_rfl) rfl (by simp [Tryz.f132]) ?_
 unfold Sm.av
 rw [Sm.cells_mk]
 (repeat refine qA ?_);refine rA ?_
 simp
 intro g
 have r : inR 1 1 4 = true := rfl
 repeat' (first
  | refine qA ?_
  | (refine raA ?_; simp [*])
  | (refine gA ?_; simp [*])
  | (refine kA ?_; try simp)
  | (refine eA ?_; try simp)
  | refine bA ?_
  | (refine oC' (c_inRange _ _ _) ?_; simp [*])
  | (refine oC' (c_fields _) ?_; simp [*])
  | (refine oC' (c_fieldOk a _ ha) ?_; simp [*])
  | (refine oC' (c_fieldOk e _ he) ?_; simp [*])
  | (refine oC' (c_fieldOk lo _ hlo) ?_; simp [*])
  | (refine oC' (c_fieldOk hi _ hhi) ?_; simp [*])
  | (refine oC' (c_impl_NameOk _ hs) ?_; simp [*])
  | (refine AWp.ret (pR1 rfl ?_); (simp [stHere, noS, *]; done))
  | (refine guardI (fun hq => ?_) (fun hq => ?_) <;> (try simp at hq) <;> (try simp [*]))
  | (refine cRI (fun hq => ?_) (fun hq => ?_) <;> (try simp at hq) <;> (try simp [*]))
  | (refine iteI ?_ ?_ <;> intro hq <;> (try simp [*])))
theorem c_isRight_2 (s : ByteArray) (a e lo hi : Ex) (b : List Sm) (hs : s.size <= 9223372036854775806) (ha : a.tot <= 1048576) (he : e.tot <= 1048576) (hlo : lo.tot <= 1048576) (hhi : hi.tot <= 1048576) (d : Nat) :
  PCall Tryz.prog 132 [(Sm.mk 2 s a e lo hi b).av, .int .i64 d] (.bool (stHere 2 s a e lo hi b.length d)) := by
 refine pO Tryz.func132 (by kernel_rfl) rfl (by simp [Tryz.f132]) ?_
 unfold Sm.av
 rw [Sm.cells_mk]
 (repeat refine qA ?_);refine rA ?_
 simp
 intro g
 have r : inR 2 1 4 = true := rfl
 repeat' (first
  | refine qA ?_
  | (refine raA ?_; simp [*])
  | (refine gA ?_; simp [*])
  | (refine kA ?_; try simp)
  | (refine eA ?_; try simp)
  | refine bA ?_
  | (refine oC' (c_inRange _ _ _) ?_; simp [*])
  | (refine oC' (c_fields _) ?_; simp [*])
  | (refine oC' (c_fieldOk a _ ha) ?_; simp [*])
  | (refine oC' (c_fieldOk e _ he) ?_; simp [*])
  | (refine oC' (c_fieldOk lo _ hlo) ?_; simp [*])
  | (refine oC' (c_fieldOk hi _ hhi) ?_; simp [*])
  | (refine oC' (c_impl_NameOk _ hs) ?_; simp [*])
  | (refine AWp.ret (pR1 rfl ?_); (simp [stHere, noS, *]; done))
  | (refine guardI (fun hq => ?_) (fun hq => ?_) <;> (try simp at hq) <;> (try simp [*]))
  | (refine cRI (fun hq => ?_) (fun hq => ?_) <;> (try simp at hq) <;> (try simp [*]))
  | (refine iteI ?_ ?_ <;> intro hq <;> (try simp [*])))
theorem c_isRight_4 (s : ByteArray) (a e lo hi : Ex) (b : List Sm) (hs : s.size <= 9223372036854775806) (ha : a.tot <= 1048576) (he : e.tot <= 1048576) (hlo : lo.tot <= 1048576) (hhi : hi.tot <= 1048576) (d : Nat) :
  PCall Tryz.prog 132 [(Sm.mk 4 s a e lo hi b).av, .int .i64 d] (.bool (stHere 4 s a e lo hi b.length d)) := by
 refine pO Tryz.func132 (by kernel_rfl) rfl (by simp [Tryz.f132]) ?_
 unfold Sm.av
 rw [Sm.cells_mk]
 (repeat refine qA ?_);refine rA ?_
 simp
 intro g
 have r : inR 4 1 4 = true := rfl
 repeat' (first
  | refine qA ?_
  | (refine raA ?_; simp [*])
  | (refine gA ?_; simp [*])
  | (refine kA ?_; try simp)
  | (refine eA ?_; try simp)
  | refine bA ?_
  | (refine oC' (c_inRange _ _ _) ?_; simp [*])
  | (refine oC' (c_fields _) ?_; simp [*])
  | (refine oC' (c_fieldOk a _ ha) ?_; simp [*])
  | (refine oC' (c_fieldOk e _ he) ?_; simp [*])
  | (refine oC' (c_fieldOk lo _ hlo) ?_; simp [*])
  | (refine oC' (c_fieldOk hi _ hhi) ?_; simp [*])
  | (refine oC' (c_impl_NameOk _ hs) ?_; simp [*])
  | (refine AWp.ret (pR1 rfl ?_); (simp [stHere, noS, *]; done))
  | (refine guardI (fun hq => ?_) (fun hq => ?_) <;> (try simp at hq) <;> (try simp [*]))
  | (refine cRI (fun hq => ?_) (fun hq => ?_) <;> (try simp at hq) <;> (try simp [*]))
  | (refine iteI ?_ ?_ <;> intro hq <;> (try simp [*])))
theorem c_isRight_k (k : Int) (s : ByteArray) (a e lo hi : Ex) (b : List Sm) (hs : s.size <= 9223372036854775806) (ha : a.tot <= 1048576) (he : e.tot <= 1048576) (hlo : lo.tot <= 1048576) (hhi : hi.tot <= 1048576) (d : Nat) (k1 : ¬ k = 1) (k2 : ¬ k = 2) (k3 : ¬ k = 3) (k4 : ¬ k = 4) :
  PCall Tryz.prog 132 [(Sm.mk k s a e lo hi b).av, .int .i64 d] (.bool (stHere k s a e lo hi b.length d)) := by
 refine pO Tryz.func132 (by kernel_rfl) rfl (by simp [Tryz.f132]) ?_
 unfold Sm.av
 rw [Sm.cells_mk]
 (repeat refine qA ?_);refine rA ?_
 simp
 intro g
 have r : inR k 1 4 = false := by unfold inR; simp; omega
 repeat' (first
  | refine qA ?_
  | (refine raA ?_; simp [*])
  | (refine gA ?_; simp [*])
  | (refine kA ?_; try simp)
  | (refine eA ?_; try simp)
  | refine bA ?_
  | (refine oC' (c_inRange _ _ _) ?_; simp [*])
  | (refine oC' (c_fields _) ?_; simp [*])
  | (refine oC' (c_fieldOk a _ ha) ?_; simp [*])
  | (refine oC' (c_fieldOk e _ he) ?_; simp [*])
  | (refine oC' (c_fieldOk lo _ hlo) ?_; simp [*])
  | (refine oC' (c_fieldOk hi _ hhi) ?_; simp [*])
  | (refine oC' (c_impl_NameOk _ hs) ?_; simp [*])
  | (refine AWp.ret (pR1 rfl ?_); (simp [stHere, noS, *]; done))
  | (refine guardI (fun hq => ?_) (fun hq => ?_) <;> (try simp at hq) <;> (try simp [*]))
  | (refine cRI (fun hq => ?_) (fun hq => ?_) <;> (try simp at hq) <;> (try simp [*]))
  | (refine iteI ?_ ?_ <;> intro hq <;> (try simp [*])))
theorem c_isRight_3 (s : ByteArray) (a e lo hi : Ex) (b : List Sm) (hs : s.size <= 9223372036854775806) (ha : a.tot <= 1048576) (he : e.tot <= 1048576) (hlo : lo.tot <= 1048576) (hhi : hi.tot <= 1048576) (hlen : b.length <= 1048576)
  (h : ∀ x ∈ b, ∀ d : Nat, d <= 3 -> PCall Tryz.prog 132 [x.av, .int .i64 d] (.bool (x.right d))) (d : Nat) (hd : d <= 3) :
  PCall Tryz.prog 132 [(Sm.mk 3 s a e lo hi b).av, .int .i64 d] (.bool ((Sm.mk 3 s a e lo hi b).right d)) := by
 rw [Sm.right]
 refine pO Tryz.func132 (by kernel_rfl) rfl (by simp [Tryz.f132]) ?_
 unfold Sm.av
 rw [Sm.cells_mk]
 (repeat refine qA ?_);refine rA ?_
 simp
 intro g
 have r : inR 3 1 4 = true := rfl
 by_cases hx : stHere 3 s a e lo hi b.length d = true
 ·unfold stHere at hx
  simp at hx
  obtain ⟨⟨⟨⟨⟨⟨x1, x2⟩, x3⟩, x4⟩, x5⟩, x6⟩, x7⟩ := hx
  have hd3 : ¬ (d : Int) = 3 := by omega
  repeat' (first
  | refine qA ?_
  | (refine raA ?_; simp [x1, x2, x3, x4, x5, x7, hd3, r])
  | (refine gA ?_; simp [x1, x2, x3, x4, x5, x7, hd3, r])
  | (refine kA ?_; try simp)
  | (refine eA ?_; try simp)
  | refine bA ?_
  | (refine oC' (c_inRange _ _ _) ?_; simp [x1, x2, x3, x4, x5, x7, hd3, r])
  | (refine oC' (c_fields _) ?_; simp [x1, x2, x3, x4, x5, x7, hd3, r])
  | (refine oC' (c_fieldOk a _ ha) ?_; simp [x1, x2, x3, x4, x5, x7, hd3, r])
  | (refine oC' (c_fieldOk e _ he) ?_; simp [x1, x2, x3, x4, x5, x7, hd3, r])
  | (refine oC' (c_fieldOk lo _ hlo) ?_; simp [x1, x2, x3, x4, x5, x7, hd3, r])
  | (refine oC' (c_fieldOk hi _ hhi) ?_; simp [x1, x2, x3, x4, x5, x7, hd3, r])
  | (refine oC' (c_impl_NameOk _ hs) ?_; simp [x1, x2, x3, x4, x5, x7, hd3, r])
  | (refine guardI (fun hq => ?_) (fun hq => ?_) <;> (try simp at hq) <;> (try simp [x1, x2, x3, x4, x5, x7, hd3, r]))
  | (refine cRI (fun hq => ?_) (fun hq => ?_) <;> (try simp at hq) <;> (try simp [x1, x2, x3, x4, x5, x7, hd3, r]))
  | (refine iteI ?_ ?_ <;> intro hq <;> (try simp [x1, x2, x3, x4, x5, x7, hd3, r])))
  have hst : stHere 3 s a e lo hi b.length d = true := by unfold stHere; simp [x1, x2, x3, x4, x5, x6, x7]
  rw [hst]
  simp only [Bool.true_and, ne_eq, not_true_eq_false, decide_false, Bool.false_or]
  refine (AWp.rounds (fun m st => ∃ (i : Nat), m = b.length - i /\ i <= b.length /\ st.slots 81 = .lst false 19 (b.map Sm.av) /\ st.slots 82 = .int .i64 b.length /\ st.slots 83 = .int .i64 i /\ st.slots 1 = .int .i64 d /\ Sm.rights b (d + 1) = Sm.rights (b.drop i) (d + 1)) b.length ⟨0, by simp, by simp, by simp, by simp, by simp, by simp, by simp⟩ ?_)
  rintro R m st hR ⟨i, rfl, hi, s81, s82, s83, s1, hr⟩
  (repeat refine qA ?_);refine rA ?_
  simp [s82, s83]
  (repeat refine qA ?_)
  refine AWp.cond (b := decide (i < b.length)) (by simp) (fun hb => ?_) (fun hb => ?_)
  ·simp at hb
   have hg : b[i]? = some b[i] := List.getElem?_eq_getElem hb
   have hdr : b.drop i = b[i] :: b.drop (i + 1) := List.drop_eq_getElem_cons hb
   refine kA ?_
   simp
   (repeat refine qA ?_);refine bA ?_;(repeat refine qA ?_);refine rA ?_
   have hx : idxA Tryz.prog st.mem 30 (.lst false 19 (b.map Sm.av)) (.int .i64 i) = some (.ref b[i].cells) := idx (y := b[i].av) es_30 (by simp [hg])
   simp [s81, s82, s83, hx]
   intro g2 hg2
   have hw1 : IntKind.wrap .i64 ((d : Int) + 1) = ((d + 1 : Nat) : Int) := wrap64 (by omega) (by omega)
   (repeat refine qA ?_);refine raA ?_
   simp [s1, hw1]
   refine oC' (h b[i] (List.getElem_mem _) (d + 1) (by omega)) ?_
   simp
   have hz : Sm.rights b (d + 1) = (b[i].right (d + 1) && Sm.rights (b.drop (i + 1)) (d + 1)) := by rw [hr, hdr, Sm.rights]
   refine AWp.cond (b := !b[i].right (d + 1)) (by simp) (fun he => ?_) (fun he => ?_)
   ·simp at he
    (repeat refine qA ?_);refine rA ?_
    simp
    exact AWp.ret (pR1 rfl (by simp [hz, he]))
   simp at he
   refine kA ?_
   simp
   (repeat refine qA ?_);refine rA ?_
   have hw := iA i (by omega)
   simp [s83, hw]
   refine hR _ (b.length - (i + 1)) (by omega) ⟨i + 1, rfl, hb, by simp [s81], by simp [s82], by simp, by simp [s1], ?_⟩
   rw [hz, he, Bool.true_and]
  simp at hb
  refine eA ?_
  simp
  (repeat refine qA ?_);refine rA ?_
  simp
  have : i = b.length := by omega
  subst this
  exact AWp.ret (pR1 rfl (by simp [hr, Sm.rights]))
 have hf : stHere 3 s a e lo hi b.length d = false := by simpa using hx
 rw [hf]
 clear h hlen
 cases x1 : a.no
 ·clear hx hf
  repeat' (first
 | refine qA ?_
 | (refine raA ?_; simp [*])
 | (refine gA ?_; simp [*])
 | (refine kA ?_; try simp)
 | (refine eA ?_; try simp)
 | refine bA ?_
 | (refine oC' (c_inRange _ _ _) ?_; simp [*])
 | (refine oC' (c_fields _) ?_; simp [*])
 | (refine oC' (c_fieldOk a _ ha) ?_; simp [*])
 | (refine oC' (c_fieldOk e _ he) ?_; simp [*])
 | (refine oC' (c_fieldOk lo _ hlo) ?_; simp [*])
 | (refine oC' (c_fieldOk hi _ hhi) ?_; simp [*])
 | (refine oC' (c_impl_NameOk _ hs) ?_; simp [*])
 | (refine AWp.ret (pR1 rfl ?_); (simp; done))
 | (refine guardI (fun hq => ?_) (fun hq => ?_) <;> (try simp at hq) <;> (try simp [*]))
 | (refine cRI (fun hq => ?_) (fun hq => ?_) <;> (try simp at hq) <;> (try simp [*]))
 | (refine iteI ?_ ?_ <;> intro hq <;> (try simp [*])))
 cases x2 : e.no
 ·clear hx hf
  repeat' (first
 | refine qA ?_
 | (refine raA ?_; simp [*])
 | (refine gA ?_; simp [*])
 | (refine kA ?_; try simp)
 | (refine eA ?_; try simp)
 | refine bA ?_
 | (refine oC' (c_inRange _ _ _) ?_; simp [*])
 | (refine oC' (c_fields _) ?_; simp [*])
 | (refine oC' (c_fieldOk a _ ha) ?_; simp [*])
 | (refine oC' (c_fieldOk e _ he) ?_; simp [*])
 | (refine oC' (c_fieldOk lo _ hlo) ?_; simp [*])
 | (refine oC' (c_fieldOk hi _ hhi) ?_; simp [*])
 | (refine oC' (c_impl_NameOk _ hs) ?_; simp [*])
 | (refine AWp.ret (pR1 rfl ?_); (simp; done))
 | (refine guardI (fun hq => ?_) (fun hq => ?_) <;> (try simp at hq) <;> (try simp [*]))
 | (refine cRI (fun hq => ?_) (fun hq => ?_) <;> (try simp at hq) <;> (try simp [*]))
 | (refine iteI ?_ ?_ <;> intro hq <;> (try simp [*])))
 cases x3 : lo.ok
 ·clear hx hf
  repeat' (first
 | refine qA ?_
 | (refine raA ?_; simp [*])
 | (refine gA ?_; simp [*])
 | (refine kA ?_; try simp)
 | (refine eA ?_; try simp)
 | refine bA ?_
 | (refine oC' (c_inRange _ _ _) ?_; simp [*])
 | (refine oC' (c_fields _) ?_; simp [*])
 | (refine oC' (c_fieldOk a _ ha) ?_; simp [*])
 | (refine oC' (c_fieldOk e _ he) ?_; simp [*])
 | (refine oC' (c_fieldOk lo _ hlo) ?_; simp [*])
 | (refine oC' (c_fieldOk hi _ hhi) ?_; simp [*])
 | (refine oC' (c_impl_NameOk _ hs) ?_; simp [*])
 | (refine AWp.ret (pR1 rfl ?_); (simp; done))
 | (refine guardI (fun hq => ?_) (fun hq => ?_) <;> (try simp at hq) <;> (try simp [*]))
 | (refine cRI (fun hq => ?_) (fun hq => ?_) <;> (try simp at hq) <;> (try simp [*]))
 | (refine iteI ?_ ?_ <;> intro hq <;> (try simp [*])))
 cases x4 : hi.ok
 ·clear hx hf
  repeat' (first
 | refine qA ?_
 | (refine raA ?_; simp [*])
 | (refine gA ?_; simp [*])
 | (refine kA ?_; try simp)
 | (refine eA ?_; try simp)
 | refine bA ?_
 | (refine oC' (c_inRange _ _ _) ?_; simp [*])
 | (refine oC' (c_fields _) ?_; simp [*])
 | (refine oC' (c_fieldOk a _ ha) ?_; simp [*])
 | (refine oC' (c_fieldOk e _ he) ?_; simp [*])
 | (refine oC' (c_fieldOk lo _ hlo) ?_; simp [*])
 | (refine oC' (c_fieldOk hi _ hhi) ?_; simp [*])
 | (refine oC' (c_impl_NameOk _ hs) ?_; simp [*])
 | (refine AWp.ret (pR1 rfl ?_); (simp; done))
 | (refine guardI (fun hq => ?_) (fun hq => ?_) <;> (try simp at hq) <;> (try simp [*]))
 | (refine cRI (fun hq => ?_) (fun hq => ?_) <;> (try simp at hq) <;> (try simp [*]))
 | (refine iteI ?_ ?_ <;> intro hq <;> (try simp [*])))
 cases x5 : nameOk s
 ·clear hx hf
  repeat' (first
 | refine qA ?_
 | (refine raA ?_; simp [*])
 | (refine gA ?_; simp [*])
 | (refine kA ?_; try simp)
 | (refine eA ?_; try simp)
 | refine bA ?_
 | (refine oC' (c_inRange _ _ _) ?_; simp [*])
 | (refine oC' (c_fields _) ?_; simp [*])
 | (refine oC' (c_fieldOk a _ ha) ?_; simp [*])
 | (refine oC' (c_fieldOk e _ he) ?_; simp [*])
 | (refine oC' (c_fieldOk lo _ hlo) ?_; simp [*])
 | (refine oC' (c_fieldOk hi _ hhi) ?_; simp [*])
 | (refine oC' (c_impl_NameOk _ hs) ?_; simp [*])
 | (refine AWp.ret (pR1 rfl ?_); (simp; done))
 | (refine guardI (fun hq => ?_) (fun hq => ?_) <;> (try simp at hq) <;> (try simp [*]))
 | (refine cRI (fun hq => ?_) (fun hq => ?_) <;> (try simp at hq) <;> (try simp [*]))
 | (refine iteI ?_ ?_ <;> intro hq <;> (try simp [*])))
 by_cases hd3 : (d : Int) = 3
 ·clear hx hf
  repeat' (first
 | refine qA ?_
 | (refine raA ?_; simp [*])
 | (refine gA ?_; simp [*])
 | (refine kA ?_; try simp)
 | (refine eA ?_; try simp)
 | refine bA ?_
 | (refine oC' (c_inRange _ _ _) ?_; simp [*])
 | (refine oC' (c_fields _) ?_; simp [*])
 | (refine oC' (c_fieldOk a _ ha) ?_; simp [*])
 | (refine oC' (c_fieldOk e _ he) ?_; simp [*])
 | (refine oC' (c_fieldOk lo _ hlo) ?_; simp [*])
 | (refine oC' (c_fieldOk hi _ hhi) ?_; simp [*])
 | (refine oC' (c_impl_NameOk _ hs) ?_; simp [*])
 | (refine AWp.ret (pR1 rfl ?_); (simp; done))
 | (refine guardI (fun hq => ?_) (fun hq => ?_) <;> (try simp at hq) <;> (try simp [*]))
 | (refine cRI (fun hq => ?_) (fun hq => ?_) <;> (try simp at hq) <;> (try simp [*]))
 | (refine iteI ?_ ?_ <;> intro hq <;> (try simp [*])))
 have hd4 : d < 3 := by omega
 cases x7 : inR b.length 1 6
 ·clear hx hf
  repeat' (first
 | refine qA ?_
 | (refine raA ?_; simp [*])
 | (refine gA ?_; simp [*])
 | (refine kA ?_; try simp)
 | (refine eA ?_; try simp)
 | refine bA ?_
 | (refine oC' (c_inRange _ _ _) ?_; simp [*])
 | (refine oC' (c_fields _) ?_; simp [*])
 | (refine oC' (c_fieldOk a _ ha) ?_; simp [*])
 | (refine oC' (c_fieldOk e _ he) ?_; simp [*])
 | (refine oC' (c_fieldOk lo _ hlo) ?_; simp [*])
 | (refine oC' (c_fieldOk hi _ hhi) ?_; simp [*])
 | (refine oC' (c_impl_NameOk _ hs) ?_; simp [*])
 | (refine AWp.ret (pR1 rfl ?_); (simp; done))
 | (refine guardI (fun hq => ?_) (fun hq => ?_) <;> (try simp at hq) <;> (try simp [*]))
 | (refine cRI (fun hq => ?_) (fun hq => ?_) <;> (try simp at hq) <;> (try simp [*]))
 | (refine iteI ?_ ?_ <;> intro hq <;> (try simp [*])))
 exact absurd (by unfold stHere; simp [*]) hx
theorem c_isRight (e : Sm) : e.tot <= 1048576 -> ∀ d : Nat, d <= 3 -> PCall Tryz.prog 132 [e.av, .int .i64 d] (.bool (e.right d)) := by
 induction e using Sm.ind with | h k s a e lo hi b h =>
 intro ht d hd
 rw [Sm.tot_mk] at ht
 have hlen := totL_len Sm.tot b
 have hh : ∀ x ∈ b, ∀ d : Nat, d <= 3 -> PCall Tryz.prog 132 [x.av, .int .i64 d] (.bool (x.right d)) := fun x hx => h x hx (by have := totL_mem Sm.tot hx; omega)
 by_cases k3 : k = 3
 ·subst k3
  exact c_isRight_3 s a e lo hi b (by omega) (by omega) (by omega) (by omega) (by omega) (by omega) hh d hd
 have hr : (Sm.mk k s a e lo hi b).right d = stHere k s a e lo hi b.length d := by rw [Sm.right]; simp [k3]
 rw [hr]
 by_cases k1 : k = 1
 ·subst k1
  exact c_isRight_1 s a e lo hi b (by omega) (by omega) (by omega) (by omega) (by omega) d
 by_cases k2 : k = 2
 ·subst k2
  exact c_isRight_2 s a e lo hi b (by omega) (by omega) (by omega) (by omega) (by omega) d
 by_cases k4 : k = 4
 ·subst k4
  exact c_isRight_4 s a e lo hi b (by omega) (by omega) (by omega) (by omega) (by omega) d
 exact c_isRight_k k s a e lo hi b (by omega) (by omega) (by omega) (by omega) (by omega) d k1 k2 k3 k4
theorem c_l3Stmt_1 (s : ByteArray) (a e lo hi : Ex) (b : List Sm) (hs : s.size <= 9223372036854775806) (ha : a.tot <= 1048576) (he : e.tot <= 1048576) (hlo : lo.tot <= 1048576) (hhi : hi.tot <= 1048576) (d : Nat) :
  PCall Tryz.prog 151 [(Sm.mk 1 s a e lo hi b).av, .int .i64 d] (.int .i64 (if stHere 1 s a e lo hi b.length d = true then 1 else 100)) := by
 refine pO Tryz.func151 (by kernel_rfl) rfl (by simp [Tryz.f151]) ?_
 unfold Sm.av
 rw [Sm.cells_mk]
 (repeat refine qA ?_);refine rA ?_
 simp
 intro g
 have r : inR 1 1 4 = true := rfl
 cases x1 : a.no
 ·repeat' (first
  | refine qA ?_
  | (refine raA ?_; simp [*])
  | (refine gA ?_; simp [*])
  | (refine kA ?_; try simp)
  | (refine eA ?_; try simp)
  | refine bA ?_
  | (refine oC' (c_l1In _ _ _) ?_; simp [*])
  | (refine oC' (c_l3No _) ?_; simp [*])
  | (refine oC' (xEO a ha) ?_; simp [*])
  | (refine oC' (xEO e he) ?_; simp [*])
  | (refine oC' (xEO lo hlo) ?_; simp [*])
  | (refine oC' (xEO hi hhi) ?_; simp [*])
  | (refine oC' (xNO _ hs) ?_; simp [*])
  | (refine AWp.ret (pR1 rfl ?_); (simp [stHere, noS, *]; done))
  | (refine guardI (fun hq => ?_) (fun hq => ?_) <;> (try simp at hq) <;> (try simp [*]))
  | (refine cRI (fun hq => ?_) (fun hq => ?_) <;> (try simp at hq) <;> (try simp [*]))
  | (refine iteI ?_ ?_ <;> intro hq <;> (try simp [*])))
 cases x2 : e.ok
 ·repeat' (first
  | refine qA ?_
  | (refine raA ?_; simp [*])
  | (refine gA ?_; simp [*])
  | (refine kA ?_; try simp)
  | (refine eA ?_; try simp)
  | refine bA ?_
  | (refine oC' (c_l1In _ _ _) ?_; simp [*])
  | (refine oC' (c_l3No _) ?_; simp [*])
  | (refine oC' (xEO a ha) ?_; simp [*])
  | (refine oC' (xEO e he) ?_; simp [*])
  | (refine oC' (xEO lo hlo) ?_; simp [*])
  | (refine oC' (xEO hi hhi) ?_; simp [*])
  | (refine oC' (xNO _ hs) ?_; simp [*])
  | (refine AWp.ret (pR1 rfl ?_); (simp [stHere, noS, *]; done))
  | (refine guardI (fun hq => ?_) (fun hq => ?_) <;> (try simp at hq) <;> (try simp [*]))
  | (refine cRI (fun hq => ?_) (fun hq => ?_) <;> (try simp at hq) <;> (try simp [*]))
  | (refine iteI ?_ ?_ <;> intro hq <;> (try simp [*])))
 cases x3 : lo.no
 ·repeat' (first
  | refine qA ?_
  | (refine raA ?_; simp [*])
  | (refine gA ?_; simp [*])
  | (refine kA ?_; try simp)
  | (refine eA ?_; try simp)
  | refine bA ?_
  | (refine oC' (c_l1In _ _ _) ?_; simp [*])
  | (refine oC' (c_l3No _) ?_; simp [*])
  | (refine oC' (xEO a ha) ?_; simp [*])
  | (refine oC' (xEO e he) ?_; simp [*])
  | (refine oC' (xEO lo hlo) ?_; simp [*])
  | (refine oC' (xEO hi hhi) ?_; simp [*])
  | (refine oC' (xNO _ hs) ?_; simp [*])
  | (refine AWp.ret (pR1 rfl ?_); (simp [stHere, noS, *]; done))
  | (refine guardI (fun hq => ?_) (fun hq => ?_) <;> (try simp at hq) <;> (try simp [*]))
  | (refine cRI (fun hq => ?_) (fun hq => ?_) <;> (try simp at hq) <;> (try simp [*]))
  | (refine iteI ?_ ?_ <;> intro hq <;> (try simp [*])))
 cases x4 : hi.no
 ·repeat' (first
  | refine qA ?_
  | (refine raA ?_; simp [*])
  | (refine gA ?_; simp [*])
  | (refine kA ?_; try simp)
  | (refine eA ?_; try simp)
  | refine bA ?_
  | (refine oC' (c_l1In _ _ _) ?_; simp [*])
  | (refine oC' (c_l3No _) ?_; simp [*])
  | (refine oC' (xEO a ha) ?_; simp [*])
  | (refine oC' (xEO e he) ?_; simp [*])
  | (refine oC' (xEO lo hlo) ?_; simp [*])
  | (refine oC' (xEO hi hhi) ?_; simp [*])
  | (refine oC' (xNO _ hs) ?_; simp [*])
  | (refine AWp.ret (pR1 rfl ?_); (simp [stHere, noS, *]; done))
  | (refine guardI (fun hq => ?_) (fun hq => ?_) <;> (try simp at hq) <;> (try simp [*]))
  | (refine cRI (fun hq => ?_) (fun hq => ?_) <;> (try simp at hq) <;> (try simp [*]))
  | (refine iteI ?_ ?_ <;> intro hq <;> (try simp [*])))
 cases x5 : nameOk s
 ·repeat' (first
  | refine qA ?_
  | (refine raA ?_; simp [*])
  | (refine gA ?_; simp [*])
  | (refine kA ?_; try simp)
  | (refine eA ?_; try simp)
  | refine bA ?_
  | (refine oC' (c_l1In _ _ _) ?_; simp [*])
  | (refine oC' (c_l3No _) ?_; simp [*])
  | (refine oC' (xEO a ha) ?_; simp [*])
  | (refine oC' (xEO e he) ?_; simp [*])
  | (refine oC' (xEO lo hlo) ?_; simp [*])
  | (refine oC' (xEO hi hhi) ?_; simp [*])
  | (refine oC' (xNO _ hs) ?_; simp [*])
  | (refine AWp.ret (pR1 rfl ?_); (simp [stHere, noS, *]; done))
  | (refine guardI (fun hq => ?_) (fun hq => ?_) <;> (try simp at hq) <;> (try simp [*]))
  | (refine cRI (fun hq => ?_) (fun hq => ?_) <;> (try simp at hq) <;> (try simp [*]))
  | (refine iteI ?_ ?_ <;> intro hq <;> (try simp [*])))
 by_cases hb : b = []
 ·subst hb
  repeat' (first
  | refine qA ?_
  | (refine raA ?_; simp [*])
  | (refine gA ?_; simp [*])
  | (refine kA ?_; try simp)
  | (refine eA ?_; try simp)
  | refine bA ?_
  | (refine oC' (c_l1In _ _ _) ?_; simp [*])
  | (refine oC' (c_l3No _) ?_; simp [*])
  | (refine oC' (xEO a ha) ?_; simp [*])
  | (refine oC' (xEO e he) ?_; simp [*])
  | (refine oC' (xEO lo hlo) ?_; simp [*])
  | (refine oC' (xEO hi hhi) ?_; simp [*])
  | (refine oC' (xNO _ hs) ?_; simp [*])
  | (refine AWp.ret (pR1 rfl ?_); (simp [stHere, noS, *]; done))
  | (refine guardI (fun hq => ?_) (fun hq => ?_) <;> (try simp at hq) <;> (try simp [*]))
  | (refine cRI (fun hq => ?_) (fun hq => ?_) <;> (try simp at hq) <;> (try simp [*]))
  | (refine iteI ?_ ?_ <;> intro hq <;> (try simp [*])))
 have hb2 : (0 : Int) < b.length := by have := List.length_pos_iff.2 hb; omega
 repeat' (first
  | refine qA ?_
  | (refine raA ?_; simp [*])
  | (refine gA ?_; simp [*])
  | (refine kA ?_; try simp)
  | (refine eA ?_; try simp)
  | refine bA ?_
  | (refine oC' (c_l1In _ _ _) ?_; simp [*])
  | (refine oC' (c_l3No _) ?_; simp [*])
  | (refine oC' (xEO a ha) ?_; simp [*])
  | (refine oC' (xEO e he) ?_; simp [*])
  | (refine oC' (xEO lo hlo) ?_; simp [*])
  | (refine oC' (xEO hi hhi) ?_; simp [*])
  | (refine oC' (xNO _ hs) ?_; simp [*])
  | (refine AWp.ret (pR1 rfl ?_); (simp [stHere, noS, *]; done))
  | (refine guardI (fun hq => ?_) (fun hq => ?_) <;> (try simp at hq) <;> (try simp [*]))
  | (refine cRI (fun hq => ?_) (fun hq => ?_) <;> (try simp at hq) <;> (try simp [*]))
  | (refine iteI ?_ ?_ <;> intro hq <;> (try simp [*])))
theorem c_l3Stmt_2 (s : ByteArray) (a e lo hi : Ex) (b : List Sm) (hs : s.size <= 9223372036854775806) (ha : a.tot <= 1048576) (he : e.tot <= 1048576) (hlo : lo.tot <= 1048576) (hhi : hi.tot <= 1048576) (d : Nat) :
  PCall Tryz.prog 151 [(Sm.mk 2 s a e lo hi b).av, .int .i64 d] (.int .i64 (if stHere 2 s a e lo hi b.length d = true then 1 else 100)) := by
 refine pO Tryz.func151 (by kernel_rfl) rfl (by simp [Tryz.f151]) ?_
 unfold Sm.av
 rw [Sm.cells_mk]
 (repeat refine qA ?_);refine rA ?_
 simp
 intro g
 have r : inR 2 1 4 = true := rfl
 cases x1 : a.ok
 ·repeat' (first
  | refine qA ?_
  | (refine raA ?_; simp [*])
  | (refine gA ?_; simp [*])
  | (refine kA ?_; try simp)
  | (refine eA ?_; try simp)
  | refine bA ?_
  | (refine oC' (c_l1In _ _ _) ?_; simp [*])
  | (refine oC' (c_l3No _) ?_; simp [*])
  | (refine oC' (xEO a ha) ?_; simp [*])
  | (refine oC' (xEO e he) ?_; simp [*])
  | (refine oC' (xEO lo hlo) ?_; simp [*])
  | (refine oC' (xEO hi hhi) ?_; simp [*])
  | (refine oC' (xNO _ hs) ?_; simp [*])
  | (refine AWp.ret (pR1 rfl ?_); (simp [stHere, noS, *]; done))
  | (refine guardI (fun hq => ?_) (fun hq => ?_) <;> (try simp at hq) <;> (try simp [*]))
  | (refine cRI (fun hq => ?_) (fun hq => ?_) <;> (try simp at hq) <;> (try simp [*]))
  | (refine iteI ?_ ?_ <;> intro hq <;> (try simp [*])))
 cases x2 : e.ok
 ·repeat' (first
  | refine qA ?_
  | (refine raA ?_; simp [*])
  | (refine gA ?_; simp [*])
  | (refine kA ?_; try simp)
  | (refine eA ?_; try simp)
  | refine bA ?_
  | (refine oC' (c_l1In _ _ _) ?_; simp [*])
  | (refine oC' (c_l3No _) ?_; simp [*])
  | (refine oC' (xEO a ha) ?_; simp [*])
  | (refine oC' (xEO e he) ?_; simp [*])
  | (refine oC' (xEO lo hlo) ?_; simp [*])
  | (refine oC' (xEO hi hhi) ?_; simp [*])
  | (refine oC' (xNO _ hs) ?_; simp [*])
  | (refine AWp.ret (pR1 rfl ?_); (simp [stHere, noS, *]; done))
  | (refine guardI (fun hq => ?_) (fun hq => ?_) <;> (try simp at hq) <;> (try simp [*]))
  | (refine cRI (fun hq => ?_) (fun hq => ?_) <;> (try simp at hq) <;> (try simp [*]))
  | (refine iteI ?_ ?_ <;> intro hq <;> (try simp [*])))
 cases x3 : lo.no
 ·repeat' (first
  | refine qA ?_
  | (refine raA ?_; simp [*])
  | (refine gA ?_; simp [*])
  | (refine kA ?_; try simp)
  | (refine eA ?_; try simp)
  | refine bA ?_
  | (refine oC' (c_l1In _ _ _) ?_; simp [*])
  | (refine oC' (c_l3No _) ?_; simp [*])
  | (refine oC' (xEO a ha) ?_; simp [*])
  | (refine oC' (xEO e he) ?_; simp [*])
  | (refine oC' (xEO lo hlo) ?_; simp [*])
  | (refine oC' (xEO hi hhi) ?_; simp [*])
  | (refine oC' (xNO _ hs) ?_; simp [*])
  | (refine AWp.ret (pR1 rfl ?_); (simp [stHere, noS, *]; done))
  | (refine guardI (fun hq => ?_) (fun hq => ?_) <;> (try simp at hq) <;> (try simp [*]))
  | (refine cRI (fun hq => ?_) (fun hq => ?_) <;> (try simp at hq) <;> (try simp [*]))
  | (refine iteI ?_ ?_ <;> intro hq <;> (try simp [*])))
 cases x4 : hi.no
 ·repeat' (first
  | refine qA ?_
  | (refine raA ?_; simp [*])
  | (refine gA ?_; simp [*])
  | (refine kA ?_; try simp)
  | (refine eA ?_; try simp)
  | refine bA ?_
  | (refine oC' (c_l1In _ _ _) ?_; simp [*])
  | (refine oC' (c_l3No _) ?_; simp [*])
  | (refine oC' (xEO a ha) ?_; simp [*])
  | (refine oC' (xEO e he) ?_; simp [*])
  | (refine oC' (xEO lo hlo) ?_; simp [*])
  | (refine oC' (xEO hi hhi) ?_; simp [*])
  | (refine oC' (xNO _ hs) ?_; simp [*])
  | (refine AWp.ret (pR1 rfl ?_); (simp [stHere, noS, *]; done))
  | (refine guardI (fun hq => ?_) (fun hq => ?_) <;> (try simp at hq) <;> (try simp [*]))
  | (refine cRI (fun hq => ?_) (fun hq => ?_) <;> (try simp at hq) <;> (try simp [*]))
  | (refine iteI ?_ ?_ <;> intro hq <;> (try simp [*])))
 cases x5 : nameOk s
 ·repeat' (first
  | refine qA ?_
  | (refine raA ?_; simp [*])
  | (refine gA ?_; simp [*])
  | (refine kA ?_; try simp)
  | (refine eA ?_; try simp)
  | refine bA ?_
  | (refine oC' (c_l1In _ _ _) ?_; simp [*])
  | (refine oC' (c_l3No _) ?_; simp [*])
  | (refine oC' (xEO a ha) ?_; simp [*])
  | (refine oC' (xEO e he) ?_; simp [*])
  | (refine oC' (xEO lo hlo) ?_; simp [*])
  | (refine oC' (xEO hi hhi) ?_; simp [*])
  | (refine oC' (xNO _ hs) ?_; simp [*])
  | (refine AWp.ret (pR1 rfl ?_); (simp [stHere, noS, *]; done))
  | (refine guardI (fun hq => ?_) (fun hq => ?_) <;> (try simp at hq) <;> (try simp [*]))
  | (refine cRI (fun hq => ?_) (fun hq => ?_) <;> (try simp at hq) <;> (try simp [*]))
  | (refine iteI ?_ ?_ <;> intro hq <;> (try simp [*])))
 by_cases hb : b = []
 ·subst hb
  repeat' (first
  | refine qA ?_
  | (refine raA ?_; simp [*])
  | (refine gA ?_; simp [*])
  | (refine kA ?_; try simp)
  | (refine eA ?_; try simp)
  | refine bA ?_
  | (refine oC' (c_l1In _ _ _) ?_; simp [*])
  | (refine oC' (c_l3No _) ?_; simp [*])
  | (refine oC' (xEO a ha) ?_; simp [*])
  | (refine oC' (xEO e he) ?_; simp [*])
  | (refine oC' (xEO lo hlo) ?_; simp [*])
  | (refine oC' (xEO hi hhi) ?_; simp [*])
  | (refine oC' (xNO _ hs) ?_; simp [*])
  | (refine AWp.ret (pR1 rfl ?_); (simp [stHere, noS, *]; done))
  | (refine guardI (fun hq => ?_) (fun hq => ?_) <;> (try simp at hq) <;> (try simp [*]))
  | (refine cRI (fun hq => ?_) (fun hq => ?_) <;> (try simp at hq) <;> (try simp [*]))
  | (refine iteI ?_ ?_ <;> intro hq <;> (try simp [*])))
 have hb2 : (0 : Int) < b.length := by have := List.length_pos_iff.2 hb; omega
 repeat' (first
  | refine qA ?_
  | (refine raA ?_; simp [*])
  | (refine gA ?_; simp [*])
  | (refine kA ?_; try simp)
  | (refine eA ?_; try simp)
  | refine bA ?_
  | (refine oC' (c_l1In _ _ _) ?_; simp [*])
  | (refine oC' (c_l3No _) ?_; simp [*])
  | (refine oC' (xEO a ha) ?_; simp [*])
  | (refine oC' (xEO e he) ?_; simp [*])
  | (refine oC' (xEO lo hlo) ?_; simp [*])
  | (refine oC' (xEO hi hhi) ?_; simp [*])
  | (refine oC' (xNO _ hs) ?_; simp [*])
  | (refine AWp.ret (pR1 rfl ?_); (simp [stHere, noS, *]; done))
  | (refine guardI (fun hq => ?_) (fun hq => ?_) <;> (try simp at hq) <;> (try simp [*]))
  | (refine cRI (fun hq => ?_) (fun hq => ?_) <;> (try simp at hq) <;> (try simp [*]))
  | (refine iteI ?_ ?_ <;> intro hq <;> (try simp [*])))
theorem c_l3Stmt_4 (s : ByteArray) (a e lo hi : Ex) (b : List Sm) (hs : s.size <= 9223372036854775806) (ha : a.tot <= 1048576) (he : e.tot <= 1048576) (hlo : lo.tot <= 1048576) (hhi : hi.tot <= 1048576) (d : Nat) :
  PCall Tryz.prog 151 [(Sm.mk 4 s a e lo hi b).av, .int .i64 d] (.int .i64 (if stHere 4 s a e lo hi b.length d = true then 1 else 100)) := by
 refine pO Tryz.func151 (by kernel_rfl) rfl (by simp [Tryz.f151]) ?_
 unfold Sm.av
 rw [Sm.cells_mk]
 (repeat refine qA ?_);refine rA ?_
 simp
 intro g
 have r : inR 4 1 4 = true := rfl
 cases x1 : a.no
 ·repeat' (first
  | refine qA ?_
  | (refine raA ?_; simp [*])
  | (refine gA ?_; simp [*])
  | (refine kA ?_; try simp)
  | (refine eA ?_; try simp)
  | refine bA ?_
  | (refine oC' (c_l1In _ _ _) ?_; simp [*])
  | (refine oC' (c_l3No _) ?_; simp [*])
  | (refine oC' (xEO a ha) ?_; simp [*])
  | (refine oC' (xEO e he) ?_; simp [*])
  | (refine oC' (xEO lo hlo) ?_; simp [*])
  | (refine oC' (xEO hi hhi) ?_; simp [*])
  | (refine oC' (xNO _ hs) ?_; simp [*])
  | (refine AWp.ret (pR1 rfl ?_); (simp [stHere, noS, *]; done))
  | (refine guardI (fun hq => ?_) (fun hq => ?_) <;> (try simp at hq) <;> (try simp [*]))
  | (refine cRI (fun hq => ?_) (fun hq => ?_) <;> (try simp at hq) <;> (try simp [*]))
  | (refine iteI ?_ ?_ <;> intro hq <;> (try simp [*])))
 cases x2 : e.ok
 ·repeat' (first
  | refine qA ?_
  | (refine raA ?_; simp [*])
  | (refine gA ?_; simp [*])
  | (refine kA ?_; try simp)
  | (refine eA ?_; try simp)
  | refine bA ?_
  | (refine oC' (c_l1In _ _ _) ?_; simp [*])
  | (refine oC' (c_l3No _) ?_; simp [*])
  | (refine oC' (xEO a ha) ?_; simp [*])
  | (refine oC' (xEO e he) ?_; simp [*])
  | (refine oC' (xEO lo hlo) ?_; simp [*])
  | (refine oC' (xEO hi hhi) ?_; simp [*])
  | (refine oC' (xNO _ hs) ?_; simp [*])
  | (refine AWp.ret (pR1 rfl ?_); (simp [stHere, noS, *]; done))
  | (refine guardI (fun hq => ?_) (fun hq => ?_) <;> (try simp at hq) <;> (try simp [*]))
  | (refine cRI (fun hq => ?_) (fun hq => ?_) <;> (try simp at hq) <;> (try simp [*]))
  | (refine iteI ?_ ?_ <;> intro hq <;> (try simp [*])))
 cases x3 : lo.no
 ·repeat' (first
  | refine qA ?_
  | (refine raA ?_; simp [*])
  | (refine gA ?_; simp [*])
  | (refine kA ?_; try simp)
  | (refine eA ?_; try simp)
  | refine bA ?_
  | (refine oC' (c_l1In _ _ _) ?_; simp [*])
  | (refine oC' (c_l3No _) ?_; simp [*])
  | (refine oC' (xEO a ha) ?_; simp [*])
  | (refine oC' (xEO e he) ?_; simp [*])
  | (refine oC' (xEO lo hlo) ?_; simp [*])
  | (refine oC' (xEO hi hhi) ?_; simp [*])
  | (refine oC' (xNO _ hs) ?_; simp [*])
  | (refine AWp.ret (pR1 rfl ?_); (simp [stHere, noS, *]; done))
  | (refine guardI (fun hq => ?_) (fun hq => ?_) <;> (try simp at hq) <;> (try simp [*]))
  | (refine cRI (fun hq => ?_) (fun hq => ?_) <;> (try simp at hq) <;> (try simp [*]))
  | (refine iteI ?_ ?_ <;> intro hq <;> (try simp [*])))
 cases x4 : hi.no
 ·repeat' (first
  | refine qA ?_
  | (refine raA ?_; simp [*])
  | (refine gA ?_; simp [*])
  | (refine kA ?_; try simp)
  | (refine eA ?_; try simp)
  | refine bA ?_
  | (refine oC' (c_l1In _ _ _) ?_; simp [*])
  | (refine oC' (c_l3No _) ?_; simp [*])
  | (refine oC' (xEO a ha) ?_; simp [*])
  | (refine oC' (xEO e he) ?_; simp [*])
  | (refine oC' (xEO lo hlo) ?_; simp [*])
  | (refine oC' (xEO hi hhi) ?_; simp [*])
  | (refine oC' (xNO _ hs) ?_; simp [*])
  | (refine AWp.ret (pR1 rfl ?_); (simp [stHere, noS, *]; done))
  | (refine guardI (fun hq => ?_) (fun hq => ?_) <;> (try simp at hq) <;> (try simp [*]))
  | (refine cRI (fun hq => ?_) (fun hq => ?_) <;> (try simp at hq) <;> (try simp [*]))
  | (refine iteI ?_ ?_ <;> intro hq <;> (try simp [*])))
 by_cases xs : s = ⟨#[]⟩
 rotate_left
 ·repeat' (first
  | refine qA ?_
  | (refine raA ?_; simp [*])
  | (refine gA ?_; simp [*])
  | (refine kA ?_; try simp)
  | (refine eA ?_; try simp)
  | refine bA ?_
  | (refine oC' (c_l1In _ _ _) ?_; simp [*])
  | (refine oC' (c_l3No _) ?_; simp [*])
  | (refine oC' (xEO a ha) ?_; simp [*])
  | (refine oC' (xEO e he) ?_; simp [*])
  | (refine oC' (xEO lo hlo) ?_; simp [*])
  | (refine oC' (xEO hi hhi) ?_; simp [*])
  | (refine oC' (xNO _ hs) ?_; simp [*])
  | (refine AWp.ret (pR1 rfl ?_); (simp [stHere, noS, *]; done))
  | (refine guardI (fun hq => ?_) (fun hq => ?_) <;> (try simp at hq) <;> (try simp [*]))
  | (refine cRI (fun hq => ?_) (fun hq => ?_) <;> (try simp at hq) <;> (try simp [*]))
  | (refine iteI ?_ ?_ <;> intro hq <;> (try simp [*])))
 subst xs
 by_cases hb : b = []
 ·subst hb
  repeat' (first
  | refine qA ?_
  | (refine raA ?_; simp [*])
  | (refine gA ?_; simp [*])
  | (refine kA ?_; try simp)
  | (refine eA ?_; try simp)
  | refine bA ?_
  | (refine oC' (c_l1In _ _ _) ?_; simp [*])
  | (refine oC' (c_l3No _) ?_; simp [*])
  | (refine oC' (xEO a ha) ?_; simp [*])
  | (refine oC' (xEO e he) ?_; simp [*])
  | (refine oC' (xEO lo hlo) ?_; simp [*])
  | (refine oC' (xEO hi hhi) ?_; simp [*])
  | (refine oC' (xNO _ hs) ?_; simp [*])
  | (refine AWp.ret (pR1 rfl ?_); (simp [stHere, noS, *]; done))
  | (refine guardI (fun hq => ?_) (fun hq => ?_) <;> (try simp at hq) <;> (try simp [*]))
  | (refine cRI (fun hq => ?_) (fun hq => ?_) <;> (try simp at hq) <;> (try simp [*]))
  | (refine iteI ?_ ?_ <;> intro hq <;> (try simp [*])))
 have hb2 : (0 : Int) < b.length := by have := List.length_pos_iff.2 hb; omega
 repeat' (first
  | refine qA ?_
  | (refine raA ?_; simp [*])
  | (refine gA ?_; simp [*])
  | (refine kA ?_; try simp)
  | (refine eA ?_; try simp)
  | refine bA ?_
  | (refine oC' (c_l1In _ _ _) ?_; simp [*])
  | (refine oC' (c_l3No _) ?_; simp [*])
  | (refine oC' (xEO a ha) ?_; simp [*])
  | (refine oC' (xEO e he) ?_; simp [*])
  | (refine oC' (xEO lo hlo) ?_; simp [*])
  | (refine oC' (xEO hi hhi) ?_; simp [*])
  | (refine oC' (xNO _ hs) ?_; simp [*])
  | (refine AWp.ret (pR1 rfl ?_); (simp [stHere, noS, *]; done))
  | (refine guardI (fun hq => ?_) (fun hq => ?_) <;> (try simp at hq) <;> (try simp [*]))
  | (refine cRI (fun hq => ?_) (fun hq => ?_) <;> (try simp at hq) <;> (try simp [*]))
  | (refine iteI ?_ ?_ <;> intro hq <;> (try simp [*])))
theorem c_l3Stmt_k (k : Int) (s : ByteArray) (a e lo hi : Ex) (b : List Sm) (hs : s.size <= 9223372036854775806) (ha : a.tot <= 1048576) (he : e.tot <= 1048576) (hlo : lo.tot <= 1048576) (hhi : hi.tot <= 1048576) (d : Nat) (k1 : ¬ k = 1) (k2 : ¬ k = 2) (k3 : ¬ k = 3) (k4 : ¬ k = 4) :
  PCall Tryz.prog 151 [(Sm.mk k s a e lo hi b).av, .int .i64 d] (.int .i64 (if stHere k s a e lo hi b.length d = true then 1 else 100)) := by
 refine pO Tryz.func151 (by kernel_rfl) rfl (by simp [Tryz.f151]) ?_
 unfold Sm.av
 rw [Sm.cells_mk]
 (repeat refine qA ?_);refine rA ?_
 simp
 intro g
 have r : inR k 1 4 = false := by unfold inR; simp; omega
 cases x1 : a.no
 ·repeat' (first
  | refine qA ?_
  | (refine raA ?_; simp [*])
  | (refine gA ?_; simp [*])
  | (refine kA ?_; try simp)
  | (refine eA ?_; try simp)
  | refine bA ?_
  | (refine oC' (c_l1In _ _ _) ?_; simp [*])
  | (refine oC' (c_l3No _) ?_; simp [*])
  | (refine oC' (xEO a ha) ?_; simp [*])
  | (refine oC' (xEO e he) ?_; simp [*])
  | (refine oC' (xEO lo hlo) ?_; simp [*])
  | (refine oC' (xEO hi hhi) ?_; simp [*])
  | (refine oC' (xNO _ hs) ?_; simp [*])
  | (refine AWp.ret (pR1 rfl ?_); (simp [stHere, noS, *]; done))
  | (refine guardI (fun hq => ?_) (fun hq => ?_) <;> (try simp at hq) <;> (try simp [*]))
  | (refine cRI (fun hq => ?_) (fun hq => ?_) <;> (try simp at hq) <;> (try simp [*]))
  | (refine iteI ?_ ?_ <;> intro hq <;> (try simp [*])))
 cases x2 : e.ok
 ·repeat' (first
  | refine qA ?_
  | (refine raA ?_; simp [*])
  | (refine gA ?_; simp [*])
  | (refine kA ?_; try simp)
  | (refine eA ?_; try simp)
  | refine bA ?_
  | (refine oC' (c_l1In _ _ _) ?_; simp [*])
  | (refine oC' (c_l3No _) ?_; simp [*])
  | (refine oC' (xEO a ha) ?_; simp [*])
  | (refine oC' (xEO e he) ?_; simp [*])
  | (refine oC' (xEO lo hlo) ?_; simp [*])
  | (refine oC' (xEO hi hhi) ?_; simp [*])
  | (refine oC' (xNO _ hs) ?_; simp [*])
  | (refine AWp.ret (pR1 rfl ?_); (simp [stHere, noS, *]; done))
  | (refine guardI (fun hq => ?_) (fun hq => ?_) <;> (try simp at hq) <;> (try simp [*]))
  | (refine cRI (fun hq => ?_) (fun hq => ?_) <;> (try simp at hq) <;> (try simp [*]))
  | (refine iteI ?_ ?_ <;> intro hq <;> (try simp [*])))
 cases x3 : lo.no
 ·repeat' (first
  | refine qA ?_
  | (refine raA ?_; simp [*])
  | (refine gA ?_; simp [*])
  | (refine kA ?_; try simp)
  | (refine eA ?_; try simp)
  | refine bA ?_
  | (refine oC' (c_l1In _ _ _) ?_; simp [*])
  | (refine oC' (c_l3No _) ?_; simp [*])
  | (refine oC' (xEO a ha) ?_; simp [*])
  | (refine oC' (xEO e he) ?_; simp [*])
  | (refine oC' (xEO lo hlo) ?_; simp [*])
  | (refine oC' (xEO hi hhi) ?_; simp [*])
  | (refine oC' (xNO _ hs) ?_; simp [*])
  | (refine AWp.ret (pR1 rfl ?_); (simp [stHere, noS, *]; done))
  | (refine guardI (fun hq => ?_) (fun hq => ?_) <;> (try simp at hq) <;> (try simp [*]))
  | (refine cRI (fun hq => ?_) (fun hq => ?_) <;> (try simp at hq) <;> (try simp [*]))
  | (refine iteI ?_ ?_ <;> intro hq <;> (try simp [*])))
 cases x4 : hi.no
 ·repeat' (first
  | refine qA ?_
  | (refine raA ?_; simp [*])
  | (refine gA ?_; simp [*])
  | (refine kA ?_; try simp)
  | (refine eA ?_; try simp)
  | refine bA ?_
  | (refine oC' (c_l1In _ _ _) ?_; simp [*])
  | (refine oC' (c_l3No _) ?_; simp [*])
  | (refine oC' (xEO a ha) ?_; simp [*])
  | (refine oC' (xEO e he) ?_; simp [*])
  | (refine oC' (xEO lo hlo) ?_; simp [*])
  | (refine oC' (xEO hi hhi) ?_; simp [*])
  | (refine oC' (xNO _ hs) ?_; simp [*])
  | (refine AWp.ret (pR1 rfl ?_); (simp [stHere, noS, *]; done))
  | (refine guardI (fun hq => ?_) (fun hq => ?_) <;> (try simp at hq) <;> (try simp [*]))
  | (refine cRI (fun hq => ?_) (fun hq => ?_) <;> (try simp at hq) <;> (try simp [*]))
  | (refine iteI ?_ ?_ <;> intro hq <;> (try simp [*])))
 cases x5 : nameOk s
 ·repeat' (first
  | refine qA ?_
  | (refine raA ?_; simp [*])
  | (refine gA ?_; simp [*])
  | (refine kA ?_; try simp)
  | (refine eA ?_; try simp)
  | refine bA ?_
  | (refine oC' (c_l1In _ _ _) ?_; simp [*])
  | (refine oC' (c_l3No _) ?_; simp [*])
  | (refine oC' (xEO a ha) ?_; simp [*])
  | (refine oC' (xEO e he) ?_; simp [*])
  | (refine oC' (xEO lo hlo) ?_; simp [*])
  | (refine oC' (xEO hi hhi) ?_; simp [*])
  | (refine oC' (xNO _ hs) ?_; simp [*])
  | (refine AWp.ret (pR1 rfl ?_); (simp [stHere, noS, *]; done))
  | (refine guardI (fun hq => ?_) (fun hq => ?_) <;> (try simp at hq) <;> (try simp [*]))
  | (refine cRI (fun hq => ?_) (fun hq => ?_) <;> (try simp at hq) <;> (try simp [*]))
  | (refine iteI ?_ ?_ <;> intro hq <;> (try simp [*])))
 repeat' (first
  | refine qA ?_
  | (refine raA ?_; simp [*])
  | (refine gA ?_; simp [*])
  | (refine kA ?_; try simp)
  | (refine eA ?_; try simp)
  | refine bA ?_
  | (refine oC' (c_l1In _ _ _) ?_; simp [*])
  | (refine oC' (c_l3No _) ?_; simp [*])
  | (refine oC' (xEO a ha) ?_; simp [*])
  | (refine oC' (xEO e he) ?_; simp [*])
  | (refine oC' (xEO lo hlo) ?_; simp [*])
  | (refine oC' (xEO hi hhi) ?_; simp [*])
  | (refine oC' (xNO _ hs) ?_; simp [*])
  | (refine AWp.ret (pR1 rfl ?_); (simp [stHere, noS, *]; done))
  | (refine guardI (fun hq => ?_) (fun hq => ?_) <;> (try simp at hq) <;> (try simp [*]))
  | (refine cRI (fun hq => ?_) (fun hq => ?_) <;> (try simp at hq) <;> (try simp [*]))
  | (refine iteI ?_ ?_ <;> intro hq <;> (try simp [*])))
theorem c_l3Stmt_3fa (s : ByteArray) (a e lo hi : Ex) (b : List Sm) (hs : s.size <= 9223372036854775806) (ha : a.tot <= 1048576) (he : e.tot <= 1048576) (hlo : lo.tot <= 1048576) (hhi : hi.tot <= 1048576) (d : Nat) (hx : ¬ (a.no = true /\ e.no = true /\ lo.ok = true /\ hi.ok = true /\ nameOk s = true)) :
  PCall Tryz.prog 151 [(Sm.mk 3 s a e lo hi b).av, .int .i64 d] (.int .i64 100) := by
 refine pO Tryz.func151 (by kernel_rfl) rfl (by simp [Tryz.f151]) ?_
 unfold Sm.av
 rw [Sm.cells_mk]
 (repeat refine qA ?_);refine rA ?_
 simp
 intro g
 have r : inR 3 1 4 = true := rfl
 cases x1 : a.no
 ·clear hx
  repeat' (first
  | refine qA ?_
  | (refine raA ?_; simp [*])
  | (refine gA ?_; simp [*])
  | (refine kA ?_; try simp)
  | (refine eA ?_; try simp)
  | refine bA ?_
  | (refine oC' (c_l1In _ _ _) ?_; simp [*])
  | (refine oC' (c_l3No _) ?_; simp [*])
  | (refine oC' (xEO a ha) ?_; simp [*])
  | (refine oC' (xEO e he) ?_; simp [*])
  | (refine oC' (xEO lo hlo) ?_; simp [*])
  | (refine oC' (xEO hi hhi) ?_; simp [*])
  | (refine oC' (xNO _ hs) ?_; simp [*])
  | (refine AWp.ret (pR1 rfl ?_); (simp; done))
  | (refine guardI (fun hq => ?_) (fun hq => ?_) <;> (try simp at hq) <;> (try simp [*]))
  | (refine cRI (fun hq => ?_) (fun hq => ?_) <;> (try simp at hq) <;> (try simp [*]))
  | (refine iteI ?_ ?_ <;> intro hq <;> (try simp [*])))
 cases x2 : e.no
 ·clear hx
  repeat' (first
  | refine qA ?_
  | (refine raA ?_; simp [*])
  | (refine gA ?_; simp [*])
  | (refine kA ?_; try simp)
  | (refine eA ?_; try simp)
  | refine bA ?_
  | (refine oC' (c_l1In _ _ _) ?_; simp [*])
  | (refine oC' (c_l3No _) ?_; simp [*])
  | (refine oC' (xEO a ha) ?_; simp [*])
  | (refine oC' (xEO e he) ?_; simp [*])
  | (refine oC' (xEO lo hlo) ?_; simp [*])
  | (refine oC' (xEO hi hhi) ?_; simp [*])
  | (refine oC' (xNO _ hs) ?_; simp [*])
  | (refine AWp.ret (pR1 rfl ?_); (simp; done))
  | (refine guardI (fun hq => ?_) (fun hq => ?_) <;> (try simp at hq) <;> (try simp [*]))
  | (refine cRI (fun hq => ?_) (fun hq => ?_) <;> (try simp at hq) <;> (try simp [*]))
  | (refine iteI ?_ ?_ <;> intro hq <;> (try simp [*])))
 cases x3 : lo.ok
 ·clear hx
  repeat' (first
  | refine qA ?_
  | (refine raA ?_; simp [*])
  | (refine gA ?_; simp [*])
  | (refine kA ?_; try simp)
  | (refine eA ?_; try simp)
  | refine bA ?_
  | (refine oC' (c_l1In _ _ _) ?_; simp [*])
  | (refine oC' (c_l3No _) ?_; simp [*])
  | (refine oC' (xEO a ha) ?_; simp [*])
  | (refine oC' (xEO e he) ?_; simp [*])
  | (refine oC' (xEO lo hlo) ?_; simp [*])
  | (refine oC' (xEO hi hhi) ?_; simp [*])
  | (refine oC' (xNO _ hs) ?_; simp [*])
  | (refine AWp.ret (pR1 rfl ?_); (simp; done))
  | (refine guardI (fun hq => ?_) (fun hq => ?_) <;> (try simp at hq) <;> (try simp [*]))
  | (refine cRI (fun hq => ?_) (fun hq => ?_) <;> (try simp at hq) <;> (try simp [*]))
  | (refine iteI ?_ ?_ <;> intro hq <;> (try simp [*])))
 cases x4 : hi.ok
 ·clear hx
  repeat' (first
  | refine qA ?_
  | (refine raA ?_; simp [*])
  | (refine gA ?_; simp [*])
  | (refine kA ?_; try simp)
  | (refine eA ?_; try simp)
  | refine bA ?_
  | (refine oC' (c_l1In _ _ _) ?_; simp [*])
  | (refine oC' (c_l3No _) ?_; simp [*])
  | (refine oC' (xEO a ha) ?_; simp [*])
  | (refine oC' (xEO e he) ?_; simp [*])
  | (refine oC' (xEO lo hlo) ?_; simp [*])
  | (refine oC' (xEO hi hhi) ?_; simp [*])
  | (refine oC' (xNO _ hs) ?_; simp [*])
  | (refine AWp.ret (pR1 rfl ?_); (simp; done))
  | (refine guardI (fun hq => ?_) (fun hq => ?_) <;> (try simp at hq) <;> (try simp [*]))
  | (refine cRI (fun hq => ?_) (fun hq => ?_) <;> (try simp at hq) <;> (try simp [*]))
  | (refine iteI ?_ ?_ <;> intro hq <;> (try simp [*])))
 cases x5 : nameOk s
 ·clear hx
  repeat' (first
  | refine qA ?_
  | (refine raA ?_; simp [*])
  | (refine gA ?_; simp [*])
  | (refine kA ?_; try simp)
  | (refine eA ?_; try simp)
  | refine bA ?_
  | (refine oC' (c_l1In _ _ _) ?_; simp [*])
  | (refine oC' (c_l3No _) ?_; simp [*])
  | (refine oC' (xEO a ha) ?_; simp [*])
  | (refine oC' (xEO e he) ?_; simp [*])
  | (refine oC' (xEO lo hlo) ?_; simp [*])
  | (refine oC' (xEO hi hhi) ?_; simp [*])
  | (refine oC' (xNO _ hs) ?_; simp [*])
  | (refine AWp.ret (pR1 rfl ?_); (simp; done))
  | (refine guardI (fun hq => ?_) (fun hq => ?_) <;> (try simp at hq) <;> (try simp [*]))
  | (refine cRI (fun hq => ?_) (fun hq => ?_) <;> (try simp at hq) <;> (try simp [*]))
  | (refine iteI ?_ ?_ <;> intro hq <;> (try simp [*])))
 exact absurd ⟨x1, x2, x3, x4, x5⟩ hx
theorem c_l3Stmt_3fb (s : ByteArray) (a e lo hi : Ex) (b : List Sm) (hs : s.size <= 9223372036854775806) (ha : a.tot <= 1048576) (he : e.tot <= 1048576) (hlo : lo.tot <= 1048576) (hhi : hi.tot <= 1048576) (d : Nat) (x1 : a.no = true) (x2 : e.no = true) (x3 : lo.ok = true) (x4 : hi.ok = true) (x5 : nameOk s = true) (hx : ¬ (d < 3 /\ inR b.length 1 6 = true)) :
  PCall Tryz.prog 151 [(Sm.mk 3 s a e lo hi b).av, .int .i64 d] (.int .i64 100) := by
 refine pO Tryz.func151 (by kernel_rfl) rfl (by simp [Tryz.f151]) ?_
 unfold Sm.av
 rw [Sm.cells_mk]
 (repeat refine qA ?_);refine rA ?_
 simp
 intro g
 have r : inR 3 1 4 = true := rfl
 by_cases hd3 : (3 : Int) <= d
 ·clear hx
  repeat' (first
  | refine qA ?_
  | (refine raA ?_; simp [*])
  | (refine gA ?_; simp [*])
  | (refine kA ?_; try simp)
  | (refine eA ?_; try simp)
  | refine bA ?_
  | (refine oC' (c_l1In _ _ _) ?_; simp [*])
  | (refine oC' (c_l3No _) ?_; simp [*])
  | (refine oC' (xEO a ha) ?_; simp [*])
  | (refine oC' (xEO e he) ?_; simp [*])
  | (refine oC' (xEO lo hlo) ?_; simp [*])
  | (refine oC' (xEO hi hhi) ?_; simp [*])
  | (refine oC' (xNO _ hs) ?_; simp [*])
  | (refine AWp.ret (pR1 rfl ?_); (simp; done))
  | (refine guardI (fun hq => ?_) (fun hq => ?_) <;> (try simp at hq) <;> (try simp [*]))
  | (refine cRI (fun hq => ?_) (fun hq => ?_) <;> (try simp at hq) <;> (try simp [*]))
  | (refine iteI ?_ ?_ <;> intro hq <;> (try simp [*])))
 have hd4 : d < 3 := by omega
 have hd5 : (d : Int) < 3 := by omega
 cases x7 : inR b.length 1 6
 ·clear hx
  repeat' (first
  | refine qA ?_
  | (refine raA ?_; simp [*])
  | (refine gA ?_; simp [*])
  | (refine kA ?_; try simp)
  | (refine eA ?_; try simp)
  | refine bA ?_
  | (refine oC' (c_l1In _ _ _) ?_; simp [*])
  | (refine oC' (c_l3No _) ?_; simp [*])
  | (refine oC' (xEO a ha) ?_; simp [*])
  | (refine oC' (xEO e he) ?_; simp [*])
  | (refine oC' (xEO lo hlo) ?_; simp [*])
  | (refine oC' (xEO hi hhi) ?_; simp [*])
  | (refine oC' (xNO _ hs) ?_; simp [*])
  | (refine AWp.ret (pR1 rfl ?_); (simp; done))
  | (refine guardI (fun hq => ?_) (fun hq => ?_) <;> (try simp at hq) <;> (try simp [*]))
  | (refine cRI (fun hq => ?_) (fun hq => ?_) <;> (try simp at hq) <;> (try simp [*]))
  | (refine iteI ?_ ?_ <;> intro hq <;> (try simp [*])))
 exact absurd ⟨hd4, x7⟩ hx
theorem c_l3Stmt_3f (s : ByteArray) (a e lo hi : Ex) (b : List Sm) (hs : s.size <= 9223372036854775806) (ha : a.tot <= 1048576) (he : e.tot <= 1048576) (hlo : lo.tot <= 1048576) (hhi : hi.tot <= 1048576) (d : Nat) (hx : ¬ stHere 3 s a e lo hi b.length d = true) :
  PCall Tryz.prog 151 [(Sm.mk 3 s a e lo hi b).av, .int .i64 d] (.int .i64 100) := by
 by_cases h5 : a.no = true /\ e.no = true /\ lo.ok = true /\ hi.ok = true /\ nameOk s = true
 ·obtain ⟨x1, x2, x3, x4, x5⟩ := h5
  refine c_l3Stmt_3fb s a e lo hi b hs ha he hlo hhi d x1 x2 x3 x4 x5 fun h => hx ?_
  unfold stHere
  simp [x1, x2, x3, x4, x5, h.1, h.2]
 exact c_l3Stmt_3fa s a e lo hi b hs ha he hlo hhi d h5
theorem c_l3Stmt_3t (s : ByteArray) (a e lo hi : Ex) (b : List Sm) (hs : s.size <= 9223372036854775806) (ha : a.tot <= 1048576) (he : e.tot <= 1048576) (hlo : lo.tot <= 1048576) (hhi : hi.tot <= 1048576) (hlen : b.length <= 1048576) (hsz : sumL Sm.size b <= 2097152)
  (h : ∀ x ∈ b, ∀ d : Nat, d <= 3 -> PCall Tryz.prog 151 [x.av, .int .i64 d] (.int .i64 (x.cnt d))) (d : Nat) (hx : stHere 3 s a e lo hi b.length d = true) :
  PCall Tryz.prog 151 [(Sm.mk 3 s a e lo hi b).av, .int .i64 d] (.int .i64 (Sm.cnts b (d + 1) 1)) := by
 refine pO Tryz.func151 (by kernel_rfl) rfl (by simp [Tryz.f151]) ?_
 unfold Sm.av
 rw [Sm.cells_mk]
 (repeat refine qA ?_);refine rA ?_
 simp
 intro g
 have r : inR 3 1 4 = true := rfl
 unfold stHere at hx
 simp at hx
 obtain ⟨⟨⟨⟨⟨⟨x1, x2⟩, x3⟩, x4⟩, x5⟩, x6⟩, x7⟩ := hx
 have hd3 : ¬ (3 : Int) <= d := by omega
 have hd5 : (d : Int) < 3 := by omega
 repeat' (first
  | refine qA ?_
  | (refine raA ?_; simp [x1, x2, x3, x4, x5, x7, hd3, hd5, r])
  | (refine gA ?_; simp [x1, x2, x3, x4, x5, x7, hd3, hd5, r])
  | (refine kA ?_; try simp)
  | (refine eA ?_; try simp)
  | refine bA ?_
  | (refine oC' (c_l1In _ _ _) ?_; simp [x1, x2, x3, x4, x5, x7, hd3, hd5, r])
  | (refine oC' (c_l3No _) ?_; simp [x1, x2, x3, x4, x5, x7, hd3, hd5, r])
  | (refine oC' (xEO a ha) ?_; simp [x1, x2, x3, x4, x5, x7, hd3, hd5, r])
  | (refine oC' (xEO e he) ?_; simp [x1, x2, x3, x4, x5, x7, hd3, hd5, r])
  | (refine oC' (xEO lo hlo) ?_; simp [x1, x2, x3, x4, x5, x7, hd3, hd5, r])
  | (refine oC' (xEO hi hhi) ?_; simp [x1, x2, x3, x4, x5, x7, hd3, hd5, r])
  | (refine oC' (xNO _ hs) ?_; simp [x1, x2, x3, x4, x5, x7, hd3, hd5, r])
  | (refine guardI (fun hq => ?_) (fun hq => ?_) <;> (try simp at hq) <;> (try simp [x1, x2, x3, x4, x5, x7, hd3, hd5, r]))
  | (refine cRI (fun hq => ?_) (fun hq => ?_) <;> (try simp at hq) <;> (try simp [x1, x2, x3, x4, x5, x7, hd3, hd5, r]))
  | (refine iteI ?_ ?_ <;> intro hq <;> (try simp [x1, x2, x3, x4, x5, x7, hd3, hd5, r])))
 refine (AWp.rounds (fun m st => ∃ (i : Nat) (q : Int), m = b.length - i /\ i <= b.length /\ st.slots 2 = .ptr g 0 /\ st.mem g = some (.box (.int .i64 3 :: .str s :: (a.cells ++ (e.cells ++ (lo.cells ++ (hi.cells ++ [.lst false 19 (b.map Sm.av)])))))) /\ st.slots 11 = .int .i64 i /\ st.slots 1 = .int .i64 d /\ st.slots 10 = .int .i64 q /\ 0 <= q /\ q + 100 * sumL Sm.size (b.drop i) <= 1 + 100 * sumL Sm.size b /\ Sm.cnts b (d + 1) 1 = Sm.cnts (b.drop i) (d + 1) q) b.length ⟨0, 1, by simp, by simp, by simp, by simp, by simp, by simp, by simp, by omega, by simp, by simp⟩ ?_)
 rintro R m st hR ⟨i, q, rfl, hi2, s2, sg, s11, s1, s10, hq0, hq1, hr⟩
 have hF : i < b.length /\ q <= 40 ∨ Sm.cnts b (d + 1) 1 = q := by
  by_cases hb : i < b.length
  ·by_cases hq : q <= 40
   ·exact .inl ⟨hb, hq⟩
   refine .inr ?_
   rw [hr, List.drop_eq_getElem_cons hb, Sm.cnts, if_neg hq]
  refine .inr ?_
  rw [hr, List.drop_eq_nil_of_le (by omega), Sm.cnts]
 by_cases hb : i < b.length /\ q <= 40
 ·obtain ⟨hb, hq⟩ := hb
  have hg : b[i]? = some b[i] := List.getElem?_eq_getElem hb
  have hdr : b.drop i = b[i] :: b.drop (i + 1) := List.drop_eq_getElem_cons hb
  have hbi : (i : Int) < b.length := by omega
  (repeat refine qA ?_);refine rA ?_
  simp [s2, sg, s10, s11, hb, hq]
  (repeat refine qA ?_);refine tA ?_
  refine kA ?_
  simp
  (repeat refine qA ?_);refine bA ?_;(repeat refine qA ?_);refine raA ?_
  have hx : idxA Tryz.prog st.mem 30 (.lst false 19 (b.map Sm.av)) (.int .i64 i) = some (.ref b[i].cells) := idx (y := b[i].av) es_30 (by simp [hg])
  have hw1 : IntKind.wrap .i64 ((d : Int) + 1) = ((d + 1 : Nat) : Int) := wrap64 (by omega) (by omega)
  simp [s2, sg, s1, s10, s11, hx, hw1]
  refine oC' (h b[i] (List.getElem_mem _) (d + 1) (by omega)) ?_
  have hc0 := b[i].cnt_pos (d + 1)
  have hc1 := b[i].cnt_le (d + 1)
  rw [hdr, sumL] at hq1
  have hw2 : IntKind.wrap .i64 (q + b[i].cnt (d + 1)) = q + b[i].cnt (d + 1) := wrap64 (by omega) (by omega)
  simp [hw2]
  (repeat refine qA ?_);refine rA ?_
  have hw := iA i (by omega)
  simp [s11, hw]
  refine hR _ (b.length - (i + 1)) (by omega) ⟨i + 1, q + b[i].cnt (d + 1), rfl, hb, by simp [s2], by simp [sg], by simp, by simp [s1], by simp, by omega, by omega, ?_⟩
  rw [hr, hdr, Sm.cnts, if_pos hq]
 have hfin : Sm.cnts b (d + 1) 1 = q := hF.resolve_left hb
 (repeat refine qA ?_);refine rA ?_
 by_cases hb1 : i < b.length
 ·have hq : ¬ q <= 40 := fun hq => hb ⟨hb1, hq⟩
  simp [s2, sg, s10, s11, hb1, hq]
  (repeat refine qA ?_);refine AWp.condF (by simp [hq]) ?_
  refine eA ?_
  simp
  (repeat refine qA ?_);refine rA ?_
  simp [s10]
  exact AWp.ret (pR1 rfl (by simp [hfin]))
 simp [s2, sg, s10, s11, hb1]
 (repeat refine qA ?_);refine fA ?_
 refine eA ?_
 simp
 (repeat refine qA ?_);refine rA ?_
 simp [s10]
 exact AWp.ret (pR1 rfl (by simp [hfin]))
theorem c_l3Stmt (e : Sm) : e.tot <= 1048576 -> ∀ d : Nat, d <= 3 -> PCall Tryz.prog 151 [e.av, .int .i64 d] (.int .i64 (e.cnt d)) := by
 induction e using Sm.ind with | h k s a e lo hi b h =>
 intro ht d hd
 rw [Sm.tot_mk] at ht
 have hlen := totL_len Sm.tot b
 have hsz : sumL Sm.size b <= 2097152 := by
  have := sumL_le Sm.size Sm.tot b (fun x _ => x.size_le)
  omega
 have hh : ∀ x ∈ b, ∀ d : Nat, d <= 3 -> PCall Tryz.prog 151 [x.av, .int .i64 d] (.int .i64 (x.cnt d)) := fun x hx => h x hx (by have := totL_mem Sm.tot hx; omega)
 by_cases k3 : k = 3
 ·subst k3
  by_cases hx : stHere 3 s a e lo hi b.length d = true
  ·have e1 : (Sm.mk 3 s a e lo hi b).cnt d = Sm.cnts b (d + 1) 1 := by rw [Sm.cnt, if_pos hx, if_pos rfl]
   rw [e1]
   exact c_l3Stmt_3t s a e lo hi b (by omega) (by omega) (by omega) (by omega) (by omega) (by omega) hsz hh d hx
  have e1 : (Sm.mk 3 s a e lo hi b).cnt d = 100 := by rw [Sm.cnt, if_neg hx]
  rw [e1]
  exact c_l3Stmt_3f s a e lo hi b (by omega) (by omega) (by omega) (by omega) (by omega) d hx
 have hr : (Sm.mk k s a e lo hi b).cnt d = if stHere k s a e lo hi b.length d = true then 1 else 100 := by rw [Sm.cnt, if_neg k3]
 rw [hr]
 by_cases k1 : k = 1
 ·subst k1
  exact c_l3Stmt_1 s a e lo hi b (by omega) (by omega) (by omega) (by omega) (by omega) d
 by_cases k2 : k = 2
 ·subst k2
  exact c_l3Stmt_2 s a e lo hi b (by omega) (by omega) (by omega) (by omega) (by omega) d
 by_cases k4 : k = 4
 ·subst k4
  exact c_l3Stmt_4 s a e lo hi b (by omega) (by omega) (by omega) (by omega) (by omega) d
 exact c_l3Stmt_k k s a e lo hi b (by omega) (by omega) (by omega) (by omega) (by omega) d k1 k2 k3 k4
theorem c_spec_StmtOk (e : Sm) (ht : e.tot <= 1048576) : PCall Tryz.prog 101 [e.av] (.bool e.ok) := by
 refine pO Tryz.func101 (by kernel_rfl) rfl (by simp [Tryz.f101]) ?_
 have c1 := c_l3Stmt e ht 0 (by omega)
 unfold Sm.av at c1 ⊢
 (repeat refine qA ?_);refine rA ?_
 simp
 intro g
 (repeat refine qA ?_);refine raA ?_
 simp
 refine oC' c1 ?_
 simp
 exact AWp.ret (pR1 rfl (by simp [Sm.ok_cnt]))
theorem c_impl_StmtOk (e : Sm) (ht : e.tot < 1048576) : PCall Tryz.prog 82 [e.av] (.bool e.ok) := by
 refine pO Tryz.func82 (by kernel_rfl) rfl (by simp [Tryz.f82]) ?_
 have c1 := c_isRight e (by omega) 0 (by omega)
 have c2 := c_impl_Size [e] (by simp only [totL]; omega)
 have hz : sumL Sm.size [e] = e.size := by simp [sumL]
 rw [hz] at c2
 replace c2 : PCall Tryz.prog 81 [.lst true 19 [.agg e.cells]] (.int .i64 e.size) := c2.arg (.cons (Le.lst _ _ _) .nil)
 unfold Sm.av at c1 ⊢
 (repeat refine qA ?_);refine rA ?_
 simp
 intro g
 (repeat refine qA ?_);refine raA ?_
 simp
 refine oC' c1 ?_
 cases x1 : e.right 0
 ·simp
  exact AWp.ret (pR1 rfl (by simp [Sm.ok, x1]))
 simp
 refine oC' c2 ?_
 simp
 exact AWp.ret (pR1 rfl (by simp [Sm.ok, x1]; omega))
theorem c_Index (l : List ByteArray) (s : ByteArray) (hl : l.length <= 9223372036854775806) : PCall Tryz.prog 165 [strs l, .str s] (.int .i64 (at_ l s)) := by
 refine pO Tryz.func165 (by kernel_rfl) rfl (by simp [Tryz.f165]) ?_
 (repeat refine qA ?_);refine rA ?_
 simp
 (repeat refine qA ?_);refine rA ?_
 simp [strs]
 (repeat refine qA ?_);refine AWp.block (AWp.rounds (fun m st => ∃ (i : Nat), m = l.length - i /\ i <= l.length /\ st.slots 6 = .lst false 1 (l.map .str) /\ st.slots 0 = .lst false 1 (l.map .str) /\ st.slots 7 = .int .i64 l.length /\ st.slots 8 = .int .i64 i /\ st.slots 1 = .str s /\ at_ l s = idxAt i (l.drop i) s) l.length ⟨0, by simp, by simp, by (simp [strs]), by simp, by simp [strs], by simp, by simp, by simp [at_]⟩ ?_)
 rintro R m st hR ⟨i, rfl, hi, s6, s0, s7, s8, s1, hr⟩
 (repeat refine qA ?_);refine rA ?_
 simp [s6, s0, s7, s8]
 (repeat refine qA ?_);refine AWp.cond (b := decide (i < l.length)) (by simp) (fun hb => ?_) (fun hb => ?_)
 ·simp at hb
  have hg : l[i]? = some l[i] := List.getElem?_eq_getElem hb
  have hdr : l.drop i = l[i] :: l.drop (i + 1) := List.drop_eq_getElem_cons hb
  have hz : at_ l s = if l[i] = s then (i : Int) else idxAt (i + 1) (l.drop (i + 1)) s := by rw [hr, hdr, idxAt]
  have hx : idxA Tryz.prog st.mem 70 (.lst false 1 (l.map .str)) (.int .i64 i) = some (.ref [.str l[i]]) := idx (y := .str l[i]) es_70 (by simp [hg])
  refine kA ?_
  simp
  (repeat refine qA ?_);refine bA ?_;(repeat refine qA ?_);refine rA ?_
  simp [s6, s0, s7, s8, s1, hx]
  ((repeat refine qA ?_);refine rA ?_; simp [s8, s6, s0, s1, hx])
  rw [show decide (s = l[i]) = decide (l[i] = s) from by simp [eq_comm]]
  (repeat refine qA ?_);refine AWp.cond (b := decide (l[i] = s)) (by simp) (fun he => ?_) (fun he => ?_)
  ·simp at he
   (repeat refine qA ?_);refine rA ?_
   simp [s8]
   exact AWp.ret (pR1 rfl (by simp [hz, he]))
  simp at he
  refine kA ?_
  simp
  (repeat refine qA ?_);refine rA ?_
  have hw := iA i (by omega)
  simp [s8, hw]
  exact hR _ (l.length - (i + 1)) (by omega) ⟨i + 1, rfl, hb, by simp [s6], by simp [s0], by simp [s7], by simp, by simp [s1], by rw [hz, if_neg he]⟩
 simp at hb
 refine eA ?_
 simp
 (repeat refine qA ?_);refine rA ?_
 simp
 have : i = l.length := by omega
 subst this
 exact AWp.ret (pR1 rfl (by simp [hr, idxAt]))
theorem c_Contains (l : List ByteArray) (s : ByteArray) (hl : l.length <= 9223372036854775806) : PCall Tryz.prog 135 [strs l, .str s] (.bool (has l s)) := by
 refine pO Tryz.func135 (by kernel_rfl) rfl (by simp [Tryz.f135]) ?_
 have h := idxAt_has s l 0
 (repeat refine qA ?_);refine rA ?_
 simp
 (repeat refine qA ?_);refine raA ?_
 simp
 refine oC' (c_Index l s hl) ?_
 simp
 refine AWp.ret (pR1 rfl ?_)
 simp
 unfold at_
 by_cases hh : has l s = true
 ·rw [hh]; simp [h.2 hh]
 have : ¬ 0 <= idxAt 0 l s := fun k => hh (h.1 k)
 simp [this]
 simpa using hh
end Go.T
