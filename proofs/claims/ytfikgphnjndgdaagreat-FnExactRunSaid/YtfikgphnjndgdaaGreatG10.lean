/- Names of arrays, names apart, nested loops: what the reference computes. Programs that are right: what the reference computes. The library's functions on strings, as this program has them. Strings sorted, each once: what the program's library calls come to. Lists of names joined, put in order: what the program computes. What a function is told of, statement by statement, expression by expression. The names of statements and expressions: what the program computes. -/
import Derived.Test.YtfikgphnjndgdaaGreatG9
import Derived.Test.YtfikgphnjndgdaaGreatG3
import Derived.Shelf.Lay
import Derived.Ground.NamesProg
import Derived.Shelf.Sort.Plain
import Derived.Shelf.Slices.In.SortNone
import Derived.Shelf.Slices.CompactS
import Derived.Shelf.Spec.SlicesGrow
import Derived.WalkKit
namespace Go.T
open Go Go.Proofs
set_option maxRecDepth 10000
set_option maxHeartbeats 1000000
set_option linter.unusedSimpArgs false
set_option linter.unusedVariables false
theorem c_spec_ArrAt (p : Pg) (s : ByteArray) (ht : p.arrs.length ≤ 1048576) : PCall Tryz.prog 234 [p.av, .str s] (.int .i64 (at_ p.arrNames s)) := by
  refine pcall_of Tryz.func234 (by kernel_rfl) rfl (by simp [Tryz.f234]) ?_
  have hc : p.cells = [.lst false 2 (p.arrs.map Ar.av), .lst false 19 (p.body.map Sm.av)] := rfl
  unfold Pg.av
  rw [hc]
  have hn : p.arrNames.length = p.arrs.length := by unfold Pg.arrNames; simp
  (repeat refine AWp.seq ?_); refine AWp.region noP (by kernel_rfl) ?_
  try simp
  intro g
  (repeat refine AWp.seq ?_); refine AWp.region noP (by kernel_rfl) ?_
  try simp
  (repeat refine AWp.seq ?_); refine AWp.block (AWp.rounds (fun m st => ∃ (i : Nat), m = p.arrs.length - i ∧ i ≤ p.arrs.length ∧ st.slots 2 = .ptr g 0 ∧ st.mem g = some (.box [.lst false 2 (p.arrs.map Ar.av), .lst false 19 (p.body.map Sm.av)]) ∧ st.slots 5 = .int .i64 i ∧ st.slots 1 = .str s ∧ at_ p.arrNames s = idxAt i (p.arrNames.drop i) s) p.arrs.length ⟨0, by simp, by simp, by simp, by simp, by simp, by simp, by simp [at_]⟩ ?_)
  rintro R m st hR ⟨i, rfl, hi, s2, sg, s5, s1, hr⟩
  (repeat refine AWp.seq ?_); refine AWp.region noP (by kernel_rfl) ?_
  simp [s2, sg, s5]
  (repeat refine AWp.seq ?_); refine AWp.cond (b := decide (i < p.arrs.length)) (by simp) (fun hb => ?_) (fun hb => ?_)
  · simp at hb
    have hg : p.arrs[i]? = some p.arrs[i] := List.getElem?_eq_getElem hb
    have hdr : p.arrNames.drop i = p.arrs[i].s :: p.arrNames.drop (i + 1) := by
      rw [List.drop_eq_getElem_cons (by rw [hn]; exact hb)]; simp [Pg.arrNames]
    have hz : at_ p.arrNames s = if p.arrs[i].s = s then (i : Int) else idxAt (i + 1) (p.arrNames.drop (i + 1)) s := by rw [hr, hdr, idxAt]
    have hx : idxA Tryz.prog st.mem 35 (.lst false 2 (p.arrs.map Ar.av)) (.int .i64 i) = some (.ref [.str p.arrs[i].s, .int .i64 p.arrs[i].n]) := idx (y := p.arrs[i].av) es_35 (by simp [hg])
    refine AWp.skip ?_
    try simp
    (repeat refine AWp.seq ?_); refine AWp.block ?_; (repeat refine AWp.seq ?_); refine AWp.region noP (by kernel_rfl) ?_
    simp [s2, sg, s5, s1, hx]
    (repeat refine AWp.seq ?_); refine AWp.cond (b := decide (p.arrs[i].s = s)) (by simp) (fun he => ?_) (fun he => ?_)
    · simp at he
      (repeat refine AWp.seq ?_); refine AWp.region noP (by kernel_rfl) ?_
      simp [s5]
      exact AWp.ret (post_ret1 rfl (by simp [hz, he]))
    · simp at he
      refine AWp.skip ?_
      try simp
      (repeat refine AWp.seq ?_); refine AWp.region noP (by kernel_rfl) ?_
      have hw : IntKind.wrap .i64 ((i : Int) + 1) = (i + 1 : Nat) := wrap64 (by omega) (by omega)
      simp [s5, hw]
      exact hR _ (p.arrs.length - (i + 1)) (by omega) ⟨i + 1, rfl, hb, by simp [s2], by simp [sg], by simp, by simp [s1], by rw [hz, if_neg he]⟩
  · simp at hb
    refine AWp.exit ?_
    try simp
    (repeat refine AWp.seq ?_); refine AWp.region noP (by kernel_rfl) ?_
    try simp
    have : i = p.arrs.length := by omega
    subst this
    have hd : p.arrNames.drop p.arrs.length = [] := List.drop_eq_nil_of_le (by omega)
    exact AWp.ret (post_ret1 rfl (by simp [hr, hd, idxAt]))
theorem c_l4Arrs (p : Pg) (l : List ByteArray) (ht : p.arrs.length ≤ 1048576) (hl : l.length ≤ 8388608) : PCall Tryz.prog 196 [p.av, strs l] (.bool (l.all p.isArr)) := by
  refine pcall_of Tryz.func196 (by kernel_rfl) rfl (by simp [Tryz.f196]) ?_
  unfold Pg.av
  have c1 := fun s => c_spec_ArrAt p s ht
  unfold Pg.av at c1
  (repeat refine AWp.seq ?_); refine AWp.region noP (by kernel_rfl) ?_
  try simp
  intro g
  (repeat refine AWp.seq ?_); refine AWp.region noP (by kernel_rfl) ?_
  try simp
  (repeat refine AWp.seq ?_); refine AWp.block (AWp.rounds (fun m st => ∃ (i : Nat), m = l.length - i ∧ i ≤ l.length ∧ st.slots 2 = .ptr g 0 ∧ st.mem g = some (.box p.cells) ∧ st.slots 5 = .int .i64 i ∧ st.slots 1 = .lst false 1 (l.map .str) ∧ l.all p.isArr = (l.drop i).all p.isArr) l.length ⟨0, by simp, by simp, by simp, by simp, by simp, by (simp [strs]), by simp⟩ ?_)
  rintro R m st hR ⟨i, rfl, hi, s2, sg, s5, s1, hr⟩
  (repeat refine AWp.seq ?_); refine AWp.region noP (by kernel_rfl) ?_
  simp [s1, s5]
  (repeat refine AWp.seq ?_); refine AWp.cond (b := decide (i < l.length)) (by simp) (fun hb => ?_) (fun hb => ?_)
  · simp at hb
    have hg : l[i]? = some l[i] := List.getElem?_eq_getElem hb
    have hdr : l.drop i = l[i] :: l.drop (i + 1) := List.drop_eq_getElem_cons hb
    have hx : idxA Tryz.prog st.mem 26 (.lst false 1 (l.map .str)) (.int .i64 i) = some (.ref [.str l[i]]) := idx (y := .str l[i]) es_26 (by simp [hg])
    have hi2 := idxAt_has l[i] p.arrNames 0
    have hz : l.all p.isArr = (p.isArr l[i] && (l.drop (i + 1)).all p.isArr) := by rw [hr, hdr, List.all_cons]
    refine AWp.skip ?_
    try simp
    (repeat refine AWp.seq ?_); refine AWp.block ?_; (repeat refine AWp.seq ?_); refine AWp.region allP (by kernel_rfl) ?_
    simp [s2, sg, s5, s1, hx]
    refine aop_call' (c1 l[i]) ?_
    try simp
    (repeat refine AWp.seq ?_); refine AWp.cond (b := decide (at_ p.arrNames l[i] < 0)) (by simp) (fun he => ?_) (fun he => ?_)
    · simp at he
      (repeat refine AWp.seq ?_); refine AWp.region noP (by kernel_rfl) ?_
      try simp
      have hno : p.isArr l[i] = false := by
        unfold Pg.isArr
        cases hh : has p.arrNames l[i] with
        | false => rfl
        | true => have := hi2.2 hh; unfold at_ at he; omega
      exact AWp.ret (post_ret1 rfl (by simp [hz, hno]))
    · simp at he
      refine AWp.skip ?_
      try simp
      (repeat refine AWp.seq ?_); refine AWp.region noP (by kernel_rfl) ?_
      have hyes : p.isArr l[i] = true := hi2.1 he
      have hw : IntKind.wrap .i64 ((i : Int) + 1) = (i + 1 : Nat) := wrap64 (by omega) (by omega)
      simp [s5, hw]
      exact hR _ (l.length - (i + 1)) (by omega) ⟨i + 1, rfl, hb, by simp [s2], by simp [sg], by simp, by simp [s1], by rw [hz, hyes, Bool.true_and]⟩
  · simp at hb
    refine AWp.exit ?_
    try simp
    (repeat refine AWp.seq ?_); refine AWp.region noP (by kernel_rfl) ?_
    try simp
    have : i = l.length := by omega
    subst this
    exact AWp.ret (post_ret1 rfl (by simp only [put_slot, reduceIte]; rw [hr]; simp))
theorem c_l4Apart (a b : List ByteArray) (ha : a.length ≤ 8388608) (hb : b.length ≤ 8388608) : PCall Tryz.prog 198 [strs a, strs b] (.bool (!a.any (has b))) := by
  refine pcall_of Tryz.func198 (by kernel_rfl) rfl (by simp [Tryz.f198]) ?_
  have c1 := fun s => c_l2Has b s (by omega)
  (repeat refine AWp.seq ?_); refine AWp.region noP (by kernel_rfl) ?_
  try simp
  (repeat refine AWp.seq ?_); refine AWp.region noP (by kernel_rfl) ?_
  try simp
  (repeat refine AWp.seq ?_); refine AWp.block (AWp.rounds (fun m st => ∃ (i : Nat), m = a.length - i ∧ i ≤ a.length ∧ st.slots 0 = .lst false 1 (a.map .str) ∧ st.slots 1 = strs b ∧ st.slots 5 = .int .i64 i ∧ a.any (has b) = (a.drop i).any (has b)) a.length ⟨0, by simp, by simp, by (simp [strs]), by simp, by simp, by simp⟩ ?_)
  rintro R m st hR ⟨i, rfl, hi, s0, s1, s5, hr⟩
  (repeat refine AWp.seq ?_); refine AWp.region noP (by kernel_rfl) ?_
  simp [s0, s5]
  (repeat refine AWp.seq ?_); refine AWp.cond (b := decide (i < a.length)) (by simp) (fun hb => ?_) (fun hb => ?_)
  · simp at hb
    have hg : a[i]? = some a[i] := List.getElem?_eq_getElem hb
    have hdr : a.drop i = a[i] :: a.drop (i + 1) := List.drop_eq_getElem_cons hb
    have hx : idxA Tryz.prog st.mem 26 (.lst false 1 (a.map .str)) (.int .i64 i) = some (.ref [.str a[i]]) := idx (y := .str a[i]) es_26 (by simp [hg])
    have hz : a.any (has b) = (has b a[i] || (a.drop (i + 1)).any (has b)) := by rw [hr, hdr, List.any_cons]
    refine AWp.skip ?_
    try simp
    (repeat refine AWp.seq ?_); refine AWp.block ?_; (repeat refine AWp.seq ?_); refine AWp.region allP (by kernel_rfl) ?_
    simp [s0, s1, s5, hx]
    refine aop_call' (c1 a[i]) ?_
    try simp
    (repeat refine AWp.seq ?_); refine AWp.cond (b := has b a[i]) (by simp) (fun he => ?_) (fun he => ?_)
    · (repeat refine AWp.seq ?_); refine AWp.region noP (by kernel_rfl) ?_
      try simp
      exact AWp.ret (post_ret1 rfl (by simp only [put_slot, reduceIte]; rw [hz, he]; simp))
    · refine AWp.skip ?_
      try simp
      (repeat refine AWp.seq ?_); refine AWp.region noP (by kernel_rfl) ?_
      have hw : IntKind.wrap .i64 ((i : Int) + 1) = (i + 1 : Nat) := wrap64 (by omega) (by omega)
      simp [s5, hw]
      exact hR _ (a.length - (i + 1)) (by omega) ⟨i + 1, rfl, hb, by simp [s0], by simp [s1], by simp, by rw [hz, he, Bool.false_or]⟩
  · simp at hb
    refine AWp.exit ?_
    try simp
    (repeat refine AWp.seq ?_); refine AWp.region noP (by kernel_rfl) ?_
    try simp
    have : i = a.length := by omega
    subst this
    exact AWp.ret (post_ret1 rfl (by simp only [put_slot, reduceIte]; rw [hr]; simp))
theorem c_l4Nest0 (l : List Sm) (ht : totL Sm.tot l ≤ 1048576) (h : ∀ x ∈ l, ∀ ns : List ByteArray, ns.length + totL Sm.tot x.body ≤ 2097152 → PCall Tryz.prog 200 [.lst false 19 (x.body.map Sm.av), strs ns] (.bool (Sm.nests x.body ns)))
    (ns : List ByteArray) (hb : ns.length + totL Sm.tot l ≤ 2097152) : PCall Tryz.prog 200 [.lst false 19 (l.map Sm.av), strs ns] (.bool (Sm.nests l ns)) := by
  have hlen := totL_len Sm.tot l
  refine pcall_of Tryz.func200 (by kernel_rfl) rfl (by simp [Tryz.f200]) ?_
  have c1 := fun s => c_l2Has ns s (by omega)
  (repeat refine AWp.seq ?_); refine AWp.region noP (by kernel_rfl) ?_
  try simp
  (repeat refine AWp.seq ?_); refine AWp.region noP (by kernel_rfl) ?_
  try simp
  (repeat refine AWp.seq ?_); refine AWp.block (AWp.rounds (fun m st => ∃ (i : Nat), m = l.length - i ∧ i ≤ l.length ∧ st.slots 0 = .lst false 19 (l.map Sm.av) ∧ st.slots 1 = strs ns ∧ st.slots 5 = .int .i64 i ∧ Sm.nests l ns = Sm.nests (l.drop i) ns) l.length ⟨0, by simp, by simp, by simp, by simp, by simp, by simp⟩ ?_)
  rintro R m st hR ⟨i, rfl, hi, s0, s1, s5, hr⟩
  (repeat refine AWp.seq ?_); refine AWp.region noP (by kernel_rfl) ?_
  simp [s0, s5]
  (repeat refine AWp.seq ?_); refine AWp.cond (b := decide (i < l.length)) (by simp) (fun hb => ?_) (fun hb => ?_)
  · simp at hb
    have hg : l[i]? = some l[i] := List.getElem?_eq_getElem hb
    have hdr : l.drop i = l[i] :: l.drop (i + 1) := List.drop_eq_getElem_cons hb
    have htm := totL_mem Sm.tot (List.getElem_mem hb)
    have htb := l[i].tot_body
    have hx : ∀ m, idxA Tryz.prog m 36 (.lst false 19 (l.map Sm.av)) (.int .i64 i) = some (.ref l[i].cells) := fun m => idx (y := l[i].av) es_36 (by simp [hg])
    have hw : IntKind.wrap .i64 ((i : Int) + 1) = (i + 1 : Nat) := wrap64 (by omega) (by omega)
    have hz : Sm.nests l ns = ((decide (l[i].k ≠ 3) || (!has ns l[i].s && Sm.nests l[i].body (ns ++ [l[i].s]))) && Sm.nests (l.drop (i + 1)) ns) := by rw [hr, hdr, Sm.nests, Sm.nest_eq]
    refine AWp.skip ?_
    try simp
    (repeat refine AWp.seq ?_); refine AWp.block ?_; (repeat refine AWp.seq ?_); refine AWp.region noP (by kernel_rfl) ?_
    simp [s0, s5, hx]
    (repeat refine AWp.seq ?_); refine AWp.cond (b := !decide (l[i].k = 3)) (by simp) (fun hk => ?_) (fun hk => ?_)
    · simp at hk
      refine AWp.exit ?_
      try simp
      (repeat refine AWp.seq ?_); refine AWp.region noP (by kernel_rfl) ?_
      simp [s5, hw]
      exact hR _ (l.length - (i + 1)) (by omega) ⟨i + 1, rfl, hb, by simp [s0], by simp [s1], by simp, by rw [hz]; simp [hk]⟩
    · simp at hk
      refine AWp.skip ?_
      try simp
      (repeat refine AWp.seq ?_); refine AWp.regionF (fun i => i == 6) (fun i => i == 3 || i == 5 || i == 10 || i == 12 || i == 18 || i == 20) [0, 1, 2, 3, 4, 5, 6, 7, 8, 9, 10, 11, 12, 13, 14, 16, 17, 18, 19, 20, 21, 15, 22, 23, 24, 25] (by kernel_rfl) ?_
      simp [s0, s1, s5, hx]
      refine aop_call' (c1 _) ?_
      cases hh : has ns l[i].s
      · simp [s0, s1, s5, hx]
        refine GS.app (m0 := st.mem) (xs := []) (.lit 1 _ (.inl rfl) (Ext.refl _)) false ns (by simp; omega) fun v1 m1 h1 => ?_
        try simp
        refine GS.push h1 l[i].s (by simp; omega) fun v2 m2 h2 => ?_
        try simp
        refine aop_wcall _ _ _ _ _ _ _ _ rfl (eval_func _ _) ?_
        refine PCall.viewed (l := [.lst false 19 (l[i].body.map Sm.av)]) (l' := []) (h l[i] (List.getElem_mem _) (ns ++ [l[i].s]) (by simp; omega)) (by simpa using h2.view) ?_
        try simp
        (repeat refine AWp.seq ?_); refine AWp.cond (b := !Sm.nests l[i].body (ns ++ [l[i].s])) (by simp) (fun he => ?_) (fun he => ?_)
        · simp at he
          (repeat refine AWp.seq ?_); refine AWp.region noP (by kernel_rfl) ?_
          try simp
          exact AWp.ret (post_ret1 rfl (by simp only [put_slot, reduceIte]; rw [hz, hh, he]; simp [hk]))
        · simp at he
          refine AWp.skip ?_
          try simp
          (repeat refine AWp.seq ?_); refine AWp.region noP (by kernel_rfl) ?_
          simp [s5, hw]
          exact hR _ (l.length - (i + 1)) (by omega) ⟨i + 1, rfl, hb, by simp [s0], by simp [s1], by simp, by rw [hz, hh, he]; simp⟩
      · simp
        (repeat refine AWp.seq ?_); refine AWp.condT (by simp) ?_
        (repeat refine AWp.seq ?_); refine AWp.region noP (by kernel_rfl) ?_
        try simp
        exact AWp.ret (post_ret1 rfl (by simp only [put_slot, reduceIte]; rw [hz, hh]; simp [hk]))
  · simp at hb
    refine AWp.exit ?_
    try simp
    (repeat refine AWp.seq ?_); refine AWp.region noP (by kernel_rfl) ?_
    try simp
    have : i = l.length := by omega
    subst this
    exact AWp.ret (post_ret1 rfl (by simp only [put_slot, reduceIte]; rw [hr]; simp [Sm.nests]))
theorem c_l4NestB (e : Sm) : e.tot ≤ 1048576 → ∀ ns : List ByteArray, ns.length + totL Sm.tot e.body ≤ 2097152 → PCall Tryz.prog 200 [.lst false 19 (e.body.map Sm.av), strs ns] (.bool (Sm.nests e.body ns)) := by
  induction e using Sm.ind' with | h e h =>
  intro ht
  have := e.tot_body
  exact c_l4Nest0 e.body (by omega) (fun x hx => h x hx (by have := totL_mem Sm.tot hx; omega))
theorem c_l4Nest (l : List Sm) (ht : totL Sm.tot l ≤ 1048576) (ns : List ByteArray) (hb : ns.length + totL Sm.tot l ≤ 2097152) : PCall Tryz.prog 200 [.lst false 19 (l.map Sm.av), strs ns] (.bool (Sm.nests l ns)) :=
  c_l4Nest0 l ht (fun x hx => c_l4NestB x (by have := totL_mem Sm.tot hx; omega)) ns hb
end Go.T
namespace Go.T
open Go Go.Proofs
set_option maxRecDepth 10000
set_option maxHeartbeats 1000000
set_option linter.unusedSimpArgs false
set_option linter.unusedVariables false
/-- What stands ahead of an array. -/
def Ahead (A : List Ar) (i : Nat) (pr : Option ByteArray) : Prop := (i = 0 ∧ pr = none) ∨ (∃ a : Ar, 0 < i ∧ A[i - 1]? = some a ∧ pr = some a.s)
theorem arrs_step (A : List Ar) (i : Nat) (hb : i < A.length) (pr : Option ByteArray) : arrsFrom pr (A.drop i) = (nameOk A[i].s && (inR A[i].n 1 16 && ((match pr with | none => true | some q => blt q A[i].s) && arrsFrom (some A[i].s) (A.drop (i + 1))))) := by
  rw [List.drop_eq_getElem_cons hb]; rfl
theorem ahead_next (A : List Ar) (i : Nat) (hb : i < A.length) : Ahead A (i + 1) (some A[i].s) := .inr ⟨A[i], by omega, by simp [hb], rfl⟩
theorem c_l4Head (p : Pg) (ht : p.tot ≤ 1048576) : PCall Tryz.prog 193 [p.av] (.bool p.head) := by
  have h1 := totL_len Ar.tot p.arrs
  have h2 := totL_len Sm.tot p.body
  have h3 : p.tot = totL Ar.tot p.arrs + totL Sm.tot p.body := rfl
  have hc : p.cells = [.lst false 2 (p.arrs.map Ar.av), .lst false 19 (p.body.map Sm.av)] := rfl
  refine pcall_of Tryz.func193 (by kernel_rfl) rfl (by simp [Tryz.f193]) ?_
  unfold Pg.av
  rw [hc]
  (repeat refine AWp.seq ?_); refine AWp.region noP (by kernel_rfl) ?_
  simp
  intro g
  (repeat refine AWp.seq ?_); refine AWp.region noP (by kernel_rfl) ?_
  simp
  (try refine AWp.seq ?_)
  refine AWp.cutA (fun st => st.slots 1 = .ptr g 0 ∧ st.mem g = some (.box [.lst false 2 (p.arrs.map Ar.av), .lst false 19 (p.body.map Sm.av)]) ∧ arrsFrom none p.arrs = true) ?_ ?_
  · refine AWp.block (AWp.rounds (fun m st => ∃ (i : Nat) (pr : Option ByteArray), m = p.arrs.length - i ∧ i ≤ p.arrs.length ∧ st.slots 1 = .ptr g 0 ∧ st.mem g = some (.box [.lst false 2 (p.arrs.map Ar.av), .lst false 19 (p.body.map Sm.av)]) ∧ st.slots 3 = .int .i64 i ∧ Ahead p.arrs i pr ∧ arrsFrom none p.arrs = arrsFrom pr (p.arrs.drop i)) p.arrs.length ⟨0, none, by simp, by simp, by simp, by simp, by simp, .inl ⟨rfl, rfl⟩, by simp⟩ ?_)
    rintro R m st hR ⟨i, pr, rfl, hi, s1, sg, s3, hah, hr⟩
    (repeat refine AWp.seq ?_); refine AWp.region noP (by kernel_rfl) ?_
    simp [s1, sg, s3]
    (repeat refine AWp.seq ?_); refine AWp.cond (b := decide (i < p.arrs.length)) (by simp) (fun hb => ?_) (fun hb => ?_)
    · simp at hb
      have hg : p.arrs[i]? = some p.arrs[i] := List.getElem?_eq_getElem hb
      have hx : ∀ m, idxA Tryz.prog m 35 (.lst false 2 (p.arrs.map Ar.av)) (.int .i64 i) = some (.ref [.str p.arrs[i].s, .int .i64 p.arrs[i].n]) := fun m => idx (y := p.arrs[i].av) es_35 (by simp [hg])
      have hw : IntKind.wrap .i64 ((i : Int) + 1) = (i + 1 : Nat) := wrap64 (by omega) (by omega)
      have htm := totL_mem Ar.tot (List.getElem_mem hb)
      have hs : p.arrs[i].s.size ≤ 9223372036854775806 := by unfold Ar.tot at htm h3 h1; omega
      rw [arrs_step _ _ hb] at hr
      have hnx := ahead_next p.arrs i hb
      refine AWp.skip ?_
      try simp
      refine AWp.seq ?_
      refine AWp.cutA (fun st => st.slots 1 = .ptr g 0 ∧ st.mem g = some (.box [.lst false 2 (p.arrs.map Ar.av), .lst false 19 (p.body.map Sm.av)]) ∧ st.slots 3 = .int .i64 i ∧ arrsFrom none p.arrs = arrsFrom (some p.arrs[i].s) (p.arrs.drop (i + 1))) ?_ ?_
      · refine AWp.block ?_
        (repeat refine AWp.seq ?_); refine AWp.region allP (by kernel_rfl) ?_
        simp [s1, sg, s3, hx]
        refine aop_call' (c_spec_NameOk _ hs) ?_
        have hpf : p.head = false ∨ arrsFrom none p.arrs = true := by
          cases hq : arrsFrom none p.arrs
          · left; unfold Pg.head; rw [hq]; rfl
          · exact .inr rfl
        cases x1 : nameOk p.arrs[i].s
        · rw [x1] at hr
          have hph : p.head = false := by unfold Pg.head; rw [hr]; rfl
          simp
          (repeat refine AWp.seq ?_); refine AWp.condT (by simp) ?_
          (repeat refine AWp.seq ?_); refine AWp.region noP (by kernel_rfl) ?_
          simp
          exact AWp.ret (post_ret1 rfl (by simp [hph]))
        rw [x1] at hr
        simp [s1, sg, s3, hx]
        refine aop_call' (c_l1In _ _ _) ?_
        cases x2 : inR p.arrs[i].n 1 16
        · rw [x2] at hr
          have hph : p.head = false := by unfold Pg.head; rw [hr]; rfl
          simp
          (repeat refine AWp.seq ?_); refine AWp.condT (by simp) ?_
          (repeat refine AWp.seq ?_); refine AWp.region noP (by kernel_rfl) ?_
          simp
          exact AWp.ret (post_ret1 rfl (by simp [hph]))
        rw [x2] at hr
        rcases hah with ⟨rfl, rfl⟩ | ⟨a, hi0, ha, rfl⟩
        · simp [s1, sg, s3, hx]
          (repeat refine AWp.seq ?_); refine AWp.condF (by simp) ?_
          refine AWp.skip ?_
          simp at hr
          simp [s1, sg, s3, hr]
        · replace hr : arrsFrom none p.arrs = (true && (true && (blt a.s p.arrs[i].s && arrsFrom (some p.arrs[i].s) (p.arrs.drop (i + 1))))) := hr
          have hxp : ∀ m, idxA Tryz.prog m 35 (.lst false 2 (p.arrs.map Ar.av)) (.int .i64 ((i - 1 : Nat) : Int)) = some (.ref [.str a.s, .int .i64 a.n]) := fun m => idx (y := a.av) es_35 (by simp [ha])
          have hwm : IntKind.wrap .i64 ((i : Int) - 1) = ((i - 1 : Nat) : Int) := by rw [wrap64 (by omega) (by omega)]; omega
          have hi1 : (0 : Int) < i := by omega
          have hbl : Op.bytesLess a.s.toList p.arrs[i].s.toList = blt a.s p.arrs[i].s := rfl
          simp [s1, sg, s3, hx, hi0, hi1, hwm, hxp, hbl]
          cases x3 : blt a.s p.arrs[i].s
          · rw [x3] at hr
            have hph : p.head = false := by unfold Pg.head; rw [hr]; rfl
            (repeat refine AWp.seq ?_); refine AWp.condT (by simp) ?_
            (repeat refine AWp.seq ?_); refine AWp.region noP (by kernel_rfl) ?_
            simp
            exact AWp.ret (post_ret1 rfl (by simp [hph]))
          · rw [x3] at hr
            (repeat refine AWp.seq ?_); refine AWp.condF (by simp) ?_
            refine AWp.skip ?_
            simp at hr
            simp [s1, sg, s3, hr]
      · clear s1 sg s3 hr
        rintro st ⟨s1, sg, s3, hr⟩
        (repeat refine AWp.seq ?_); refine AWp.region noP (by kernel_rfl) ?_
        simp [s3, hw]
        exact hR _ (p.arrs.length - (i + 1)) (by omega) ⟨i + 1, _, rfl, hb, by simp [s1], by simp [sg], by simp, hnx, hr⟩
    · simp at hb
      refine AWp.exit ?_
      have : i = p.arrs.length := by omega
      subst this
      simp [arrsFrom] at hr
      simp [s1, sg, hr]
  rintro st ⟨s1, sg, hA⟩
  (repeat refine AWp.seq ?_); refine AWp.region noP (by kernel_rfl) ?_
  simp
  (try refine AWp.seq ?_)
  refine AWp.cutA (fun st => st.slots 1 = .ptr g 0 ∧ st.mem g = some (.box [.lst false 2 (p.arrs.map Ar.av), .lst false 19 (p.body.map Sm.av)]) ∧ p.body.all Sm.ok = true) ?_ ?_
  · refine AWp.block (AWp.rounds (fun m st => ∃ (i : Nat), m = p.body.length - i ∧ i ≤ p.body.length ∧ st.slots 1 = .ptr g 0 ∧ st.mem g = some (.box [.lst false 2 (p.arrs.map Ar.av), .lst false 19 (p.body.map Sm.av)]) ∧ st.slots 4 = .int .i64 i ∧ p.body.all Sm.ok = (p.body.drop i).all Sm.ok) p.body.length ⟨0, by simp, by simp, by simp [s1], by simp [sg], by simp, by simp⟩ ?_)
    clear s1 sg
    rintro R m st hR ⟨i, rfl, hi, s1, sg, s4, hr⟩
    (repeat refine AWp.seq ?_); refine AWp.region noP (by kernel_rfl) ?_
    simp [s1, sg, s4]
    (repeat refine AWp.seq ?_); refine AWp.cond (b := decide (i < p.body.length)) (by simp) (fun hb => ?_) (fun hb => ?_)
    · simp at hb
      have hg : p.body[i]? = some p.body[i] := List.getElem?_eq_getElem hb
      have hdr : p.body.drop i = p.body[i] :: p.body.drop (i + 1) := List.drop_eq_getElem_cons hb
      have hx : ∀ m, idxA Tryz.prog m 36 (.lst false 19 (p.body.map Sm.av)) (.int .i64 i) = some (.ref p.body[i].cells) := fun m => idx (y := p.body[i].av) es_36 (by simp [hg])
      have hw : IntKind.wrap .i64 ((i : Int) + 1) = (i + 1 : Nat) := wrap64 (by omega) (by omega)
      have htm := totL_mem Sm.tot (List.getElem_mem hb)
      rw [hdr, List.all_cons] at hr
      refine AWp.skip ?_
      try simp
      (repeat refine AWp.seq ?_); refine AWp.block ?_; (repeat refine AWp.seq ?_); refine AWp.region allP (by kernel_rfl) ?_
      simp [s1, sg, s4, hx]
      refine aop_call' (c_spec_StmtOk p.body[i] (by omega)) ?_
      try simp
      (repeat refine AWp.seq ?_); refine AWp.cond (b := !p.body[i].ok) (by simp) (fun he => ?_) (fun he => ?_)
      · simp at he
        (repeat refine AWp.seq ?_); refine AWp.region noP (by kernel_rfl) ?_
        simp
        have hph : p.head = false := by unfold Pg.head; rw [hr, he]; simp
        exact AWp.ret (post_ret1 rfl (by simp [hph]))
      · simp at he
        refine AWp.skip ?_
        simp
        (repeat refine AWp.seq ?_); refine AWp.region noP (by kernel_rfl) ?_
        simp [s4, hw]
        exact hR _ (p.body.length - (i + 1)) (by omega) ⟨i + 1, rfl, hb, by simp [s1], by simp [sg], by simp, by rw [hr, he, Bool.true_and]⟩
    · simp at hb
      refine AWp.exit ?_
      have : i = p.body.length := by omega
      subst this
      simp only [List.drop_length, List.all_nil] at hr
      simp [s1, sg]
      simpa using hr
  clear s1 sg
  rintro st ⟨s1, sg, hB⟩
  have hph : p.head = (decide (p.arrs.length ≤ 4) && (decide (p.body.length ≤ 12) && decide (sumL Sm.size p.body ≤ 40))) := by unfold Pg.head; rw [hA, hB]; simp
  (repeat refine AWp.seq ?_); refine AWp.region allP (by kernel_rfl) ?_
  simp [s1, sg]
  by_cases l1 : p.arrs.length ≤ 4
  · have l1' : (p.arrs.length : Int) ≤ 4 := by omega
    simp [l1', s1, sg]
    by_cases l2 : p.body.length ≤ 12
    · have l2' : (p.body.length : Int) ≤ 12 := by omega
      simp [l2', s1, sg]
      refine aop_call' (c_spec_Size p.body (by omega)) ?_
      by_cases l3 : sumL Sm.size p.body ≤ 40
      · have l3' : (sumL Sm.size p.body : Int) ≤ 40 := by omega
        simp [l3']
        exact AWp.ret (post_ret1 rfl (by simp [hph, l1, l2, l3]))
      · have l3' : ¬ (sumL Sm.size p.body : Int) ≤ 40 := by omega
        simp [l3']
        exact AWp.ret (post_ret1 rfl (by simp [hph, l1, l2, l3]))
    · have l2' : ¬ (p.body.length : Int) ≤ 12 := by omega
      simp [l2', s1, sg]
      exact AWp.ret (post_ret1 rfl (by simp [hph, l1, l2]))
  · have l1' : ¬ (p.arrs.length : Int) ≤ 4 := by omega
    simp [l1', s1, sg]
    exact AWp.ret (post_ret1 rfl (by simp [hph, l1]))
theorem any_comm (a b : List ByteArray) : a.any (has b) = b.any (has a) := by
  rw [Bool.eq_iff_iff]
  simp only [List.any_eq_true, has, decide_eq_true_eq]
  constructor
  · rintro ⟨x, hx, y, hy, rfl⟩; exact ⟨_, hy, _, hx, rfl⟩
  · rintro ⟨x, hx, y, hy, rfl⟩; exact ⟨_, hy, _, hx, rfl⟩
theorem Pg.lens (p : Pg) (ht : p.tot ≤ 1048576) : p.arrs.length ≤ 1048576 ∧ p.vars.length ≤ 1048576 ∧ p.loops.length ≤ 1048576 ∧ p.puts.length ≤ 1048576 ∧ ∀ q, (p.asked q).length ≤ 4194304 := by
  have h1 := totL_len Ar.tot p.arrs
  have h3 : p.tot = totL Ar.tot p.arrs + totL Sm.tot p.body := rfl
  have h4 := Sm.tots_eq p.body
  have a1 := nameSet_len (Sm.namesL 1 p.body)
  have a2 := nameSet_len (Sm.namesL 2 p.body)
  have a3 := nameSet_len (Sm.namesL 3 p.body)
  have b1 := Sm.namesL_len 1 p.body
  have b2 := Sm.namesL_len 2 p.body
  have b3 := Sm.namesL_len 3 p.body
  unfold Pg.vars Pg.loops Pg.puts Pg.asked
  refine ⟨by omega, by omega, by omega, by omega, fun q => ?_⟩
  have a4 := nameSet_len (Sm.expsL (Ex.pre q) p.body)
  have b4 := Sm.expsL_len (f := Ex.pre q) (fun e => Ex.pre_len q e) p.body
  omega
theorem c_spec_ProgOk (p : Pg) (ht : p.tot ≤ 1048576) : PCall Tryz.prog 88 [p.av] (.bool p.ok) := by
  have h2 := totL_len Sm.tot p.body
  have h3 : p.tot = totL Ar.tot p.arrs + totL Sm.tot p.body := rfl
  have h4 := Sm.tots_eq p.body
  have b2 := Sm.namesL_len 2 p.body
  have b3 := Sm.expsL_len (f := Ex.pre 3) (fun e => Ex.pre_len 3 e) p.body
  obtain ⟨L0, L1, L3, L2, L4⟩ := p.lens ht
  have hc : p.cells = [.lst false 2 (p.arrs.map Ar.av), .lst false 19 (p.body.map Sm.av)] := rfl
  have cH := c_l4Head p ht
  have cV := c_spec_VarsOf p.body (by omega)
  have cL := c_spec_LoopVars p.body (by omega)
  have cA := c_spec_Asked p.body (by omega)
  have cP := (c_l4Names p.body 2 (by omega) [] (by simp; omega)).arg (.cons (Le.lst true _ _) (.cons (Le.refl _) (.cons (Le.refl _) .nil)))
  have cQ := (c_l4Exps p.body 3 (by omega) [] (by simp; omega)).arg (.cons (Le.lst true _ _) (.cons (Le.refl _) (.cons (Le.refl _) .nil)))
  have cN := (c_l4Nest p.body (by omega) [] (by simp; omega)).arg (.cons (Le.refl _) (.cons (Le.lst true _ _) .nil))
  have d1 := c_l4Arrs p p.puts L0 (by omega)
  have d2 := c_l4Arrs p (p.asked 3) L0 (by have := L4 3; omega)
  have hn : p.arrNames.length ≤ 1048576 := by unfold Pg.arrNames; simpa using L0
  have e1 := c_l4Apart p.arrNames p.vars (by omega) (by omega)
  have e2 := c_l4Apart p.arrNames p.loops (by omega) (by omega)
  have e3 := c_l4Apart p.arrNames (p.asked 2) (by omega) (by have := L4 2; omega)
  have e4 := c_l4Apart p.vars p.loops (by omega) (by omega)
  have r1 : p.arrNames.any (has p.vars) = p.vars.any p.isArr := any_comm _ _
  have r2 : p.arrNames.any (has p.loops) = p.loops.any p.isArr := any_comm _ _
  have r3 : p.arrNames.any (has (p.asked 2)) = (p.asked 2).any p.isArr := any_comm _ _
  have r4 : p.vars.any (has p.loops) = p.loops.any (has p.vars) := any_comm _ _
  rw [r1] at e1; rw [r2] at e2; rw [r3] at e3; rw [r4] at e4
  change PCall _ _ _ (strs p.vars) at cV
  change PCall _ _ _ (strs p.loops) at cL
  change PCall _ _ _ (strs (p.asked 2)) at cA
  change PCall _ _ _ (strs p.puts) at cP
  change PCall _ _ _ (strs (p.asked 3)) at cQ
  unfold strs at *
  refine pcall_of Tryz.func88 (by kernel_rfl) rfl (by simp [Tryz.f88]) ?_
  unfold Pg.av at *
  rw [hc] at *
  (repeat refine AWp.seq ?_); refine AWp.region noP (by kernel_rfl) ?_
  simp
  intro g
  (repeat refine AWp.seq ?_); refine AWp.region allP (by kernel_rfl) ?_
  simp
  refine aop_call' cH ?_
  cases xH : p.head
  · simp
    (repeat refine AWp.seq ?_); refine AWp.condT (by simp) ?_
    (repeat refine AWp.seq ?_); refine AWp.region noP (by kernel_rfl) ?_
    simp
    exact AWp.ret (post_ret1 rfl (by simp [Pg.ok, xH]))
  have hok : p.ok = p.namesB := by unfold Pg.ok; rw [xH]; rfl
  rw [hok]
  simp
  (repeat refine AWp.seq ?_); refine AWp.condF (by simp) ?_
  refine AWp.skip ?_
  simp
  (repeat refine AWp.seq ?_); refine AWp.region noP (by kernel_rfl) ?_
  simp
  (repeat refine AWp.seq ?_); refine AWp.region noP (by kernel_rfl) ?_
  simp
  (repeat refine AWp.seq ?_)
  refine AWp.cutA (fun st => ∃ v, st.slots 1 = .ptr g 0 ∧ st.slots 3 = v ∧ GS (Mem.set (fun _ => none) g (.box [.lst false 2 (p.arrs.map Ar.av), .lst false 19 (p.body.map Sm.av)])) p.arrNames v st.mem) ?_ ?_
  · refine AWp.block (AWp.rounds (fun m st => ∃ (i : Nat) (v : AV), m = p.arrs.length - i ∧ i ≤ p.arrs.length ∧ st.slots 1 = .ptr g 0 ∧ st.slots 3 = v ∧ st.slots 4 = .int .i64 i ∧ GS (Mem.set (fun _ => none) g (.box [.lst false 2 (p.arrs.map Ar.av), .lst false 19 (p.body.map Sm.av)])) (p.arrNames.take i) v st.mem) p.arrs.length ⟨0, .lst true 1 [], by simp, by simp, by simp, by simp, by simp, .lit 1 _ (.inl rfl) (by simp; exact Ext.refl _)⟩ ?_)
    rintro R m st hR ⟨i, v, rfl, hi, s1, s3, s4, hG⟩
    have hE : Ext (Mem.set (fun _ => none) g (.box [.lst false 2 (p.arrs.map Ar.av), .lst false 19 (p.body.map Sm.av)])) st.mem := hG.ext
    have sg : st.mem g = some (.box [.lst false 2 (p.arrs.map Ar.av), .lst false 19 (p.body.map Sm.av)]) := hE g _ (set_same _ _ _)
    (repeat refine AWp.seq ?_); refine AWp.region noP (by kernel_rfl) ?_
    simp [s1, sg, s4]
    (repeat refine AWp.seq ?_); refine AWp.cond (b := decide (i < p.arrs.length)) (by simp) (fun hb => ?_) (fun hb => ?_)
    · simp at hb
      have hg : p.arrs[i]? = some p.arrs[i] := List.getElem?_eq_getElem hb
      have hx : ∀ m, idxA Tryz.prog m 35 (.lst false 2 (p.arrs.map Ar.av)) (.int .i64 i) = some (.ref [.str p.arrs[i].s, .int .i64 p.arrs[i].n]) := fun m => idx (y := p.arrs[i].av) es_35 (by simp [hg])
      have hw : IntKind.wrap .i64 ((i : Int) + 1) = (i + 1 : Nat) := wrap64 (by omega) (by omega)
      have htk : p.arrNames.take (i + 1) = p.arrNames.take i ++ [p.arrs[i].s] := by
        rw [List.take_add_one]; simp [Pg.arrNames, hg]
      refine AWp.skip ?_
      try simp
      (repeat refine AWp.seq ?_); refine AWp.block ?_; (repeat refine AWp.seq ?_); refine AWp.region noP (by kernel_rfl) ?_
      simp [s1, sg, s3, s4, hx]
      refine hG.push p.arrs[i].s (by simp; omega) fun v' m' hG' => ?_
      try simp
      (repeat refine AWp.seq ?_); refine AWp.region noP (by kernel_rfl) ?_
      simp [s4, hw]
      exact hR _ (p.arrs.length - (i + 1)) (by omega) ⟨i + 1, v', rfl, hb, by simp [s1], by simp, by simp, by rw [htk]; simpa using hG'⟩
    · simp at hb
      refine AWp.exit ?_
      have : i = p.arrs.length := by omega
      subst this
      have htk : p.arrNames.take p.arrs.length = p.arrNames := List.take_of_length_le (by unfold Pg.arrNames; simp)
      rw [htk] at hG
      try simp
      exact ⟨s1, by rw [s3]; exact hG⟩
  rintro st0 ⟨v, t1, t3, hG⟩
  refine AWp.sees (Sees.view (t := 3) (by rw [t3]; exact hG.view)) ?_
  have sg0 : (⟨fun k => if k = 3 then strs p.arrNames else st0.slots k, Mem.set (fun _ => none) g (.box [.lst false 2 (p.arrs.map Ar.av), .lst false 19 (p.body.map Sm.av)])⟩ : St).mem g = some (.box [.lst false 2 (p.arrs.map Ar.av), .lst false 19 (p.body.map Sm.av)]) := by simp [set_at]
  have s10 : (⟨fun k => if k = 3 then strs p.arrNames else st0.slots k, Mem.set (fun _ => none) g (.box [.lst false 2 (p.arrs.map Ar.av), .lst false 19 (p.body.map Sm.av)])⟩ : St).slots 1 = .ptr g 0 := t1
  have s30 : (⟨fun k => if k = 3 then strs p.arrNames else st0.slots k, Mem.set (fun _ => none) g (.box [.lst false 2 (p.arrs.map Ar.av), .lst false 19 (p.body.map Sm.av)])⟩ : St).slots 3 = .lst false 1 (p.arrNames.map .str) := rfl
  revert sg0 s10 s30
  generalize (⟨fun k => if k = 3 then strs p.arrNames else st0.slots k, Mem.set (fun _ => none) g (.box [.lst false 2 (p.arrs.map Ar.av), .lst false 19 (p.body.map Sm.av)])⟩ : St) = st
  intro sg s1 s3
  (repeat refine AWp.seq ?_); refine AWp.region allP (by kernel_rfl) ?_
  simp [s1, sg]
  refine aop_call' cV ?_
  simp
  (repeat refine AWp.seq ?_); refine AWp.region allP (by kernel_rfl) ?_
  simp [s1, sg]
  refine aop_call' cL ?_
  simp
  (repeat refine AWp.seq ?_); refine AWp.region allP (by kernel_rfl) ?_
  simp [s1, sg]
  refine aop_call' cP ?_
  simp
  (repeat refine AWp.seq ?_); refine AWp.region allP (by kernel_rfl) ?_
  simp [s1, s3, sg]
  refine aop_call' d1 ?_
  cases v1 : p.puts.all p.isArr
  · simp
    exact AWp.ret (post_ret1 rfl (by simp [Pg.namesB, v1]))
  simp [s1, s3, sg]
  refine aop_call' cQ ?_
  simp [s1, s3, sg]
  refine aop_call' d2 ?_
  cases v2 : (p.asked 3).all p.isArr
  · simp
    exact AWp.ret (post_ret1 rfl (by simp [Pg.namesB, v1, v2]))
  simp [s1, s3, sg]
  refine aop_call' e1 ?_
  cases v3 : p.vars.any p.isArr
  rotate_left
  · simp
    exact AWp.ret (post_ret1 rfl (by simp [Pg.namesB, v1, v2, v3]))
  simp [s1, s3, sg]
  refine aop_call' e2 ?_
  cases v4 : p.loops.any p.isArr
  rotate_left
  · simp
    exact AWp.ret (post_ret1 rfl (by simp [Pg.namesB, v1, v2, v3, v4]))
  simp [s1, s3, sg]
  refine aop_call' cA ?_
  simp [s1, s3, sg]
  refine aop_call' e3 ?_
  cases v5 : (p.asked 2).any p.isArr
  rotate_left
  · simp
    exact AWp.ret (post_ret1 rfl (by simp [Pg.namesB, v1, v2, v3, v4, v5]))
  simp [s1, s3, sg]
  refine aop_call' e4 ?_
  cases v6 : p.loops.any (has p.vars)
  rotate_left
  · simp
    exact AWp.ret (post_ret1 rfl (by simp [Pg.namesB, v1, v2, v3, v4, v5, v6]))
  simp [s1, s3, sg]
  refine aop_call' cN ?_
  cases v7 : Sm.nests p.body []
  · simp
    exact AWp.ret (post_ret1 rfl (by simp [Pg.namesB, v1, v2, v3, v4, v5, v6, v7]))
  simp [s1, s3, sg]
  by_cases v8 : p.vars.length ≤ 6
  · have w8 : (p.vars.length : Int) ≤ 6 := by omega
    simp [w8]
    exact AWp.ret (post_ret1 rfl (by simp [Pg.namesB, v1, v2, v3, v4, v5, v6, v7, v8]))
  · have w8 : ¬ (p.vars.length : Int) ≤ 6 := by omega
    simp [w8]
    exact AWp.ret (post_ret1 rfl (by simp [Pg.namesB, v1, v2, v3, v4, v5, v6, v7, v8]))
end Go.T
namespace Go.Proofs
open Go.Shelf
shelf_lay Lays.n190 Nm 190 at Tryz as Tryz.laysSort -- 353
shelf_lay Lays.n194 Nm 194 at Tryz as Tryz.laysCompact -- 355
shelf_lay_g Lays8.n4 Nm8 4 at Tryz 420 as Tryz.laysGrow
end Go.Proofs
namespace Go.Proofs
open Go.T
theorem clip_c (A : Option Addr) (n c : Nat) (w : World) (h : n ≤ c) : Calls Tryz.prog 354 #[.slice A n c] w fun e w' => e = .returned (.slice A n n) ∧ w' = w := by
  go_enter Tryz.func354, Tryz.ntmps354
  go_wp2
  go_ret
  exact ⟨rfl, rfl⟩
end Go.Proofs
namespace Go.T
open Go Go.Proofs Go.Sort
set_option maxRecDepth 10000
set_option maxHeartbeats 1000000
set_option linter.unusedSimpArgs false
set_option linter.unusedVariables false
theorem hb_Sort : HasBody Tryz.prog 353 := ⟨_, Tryz.func353, by kernel_rfl, rfl⟩
theorem hb_Compact : HasBody Tryz.prog 355 := ⟨_, Tryz.func355, by kernel_rfl, rfl⟩
theorem hb_Clip : HasBody Tryz.prog 354 := ⟨_, Tryz.func354, by kernel_rfl, rfl⟩
theorem hb_Grow : HasBody Tryz.prog 420 := ⟨_, Tryz.func420, by kernel_rfl, rfl⟩
def sortL (xs : List ByteArray) : List ByteArray := ((xs.map toL).mergeSort fun x y => decide (x ≤ y)).map ofL
def compL (xs : List ByteArray) : List ByteArray := (Go.Lib.compact (xs.map toL)).map ofL
theorem map_toL_ofL (l : List (List UInt8)) : (l.map ofL).map toL = l := by rw [List.map_map]; exact List.map_id'' (fun x => toL_ofL x) l
theorem sortL_len (xs : List ByteArray) : (sortL xs).length = xs.length := by unfold sortL; simp
theorem comp_sort (xs : List ByteArray) : compL (sortL xs) = nameSet xs := by
  rw [← ordered_set]; unfold compL sortL; rw [map_toL_ofL]
theorem compact_le (zs : List (List UInt8)) : (Go.Lib.compact zs).length ≤ zs.length := by
  unfold Go.Lib.compact Go.Lib.compactUpTo
  rw [List.length_map]
  exact Nat.le_trans (List.length_filter_le _ _) (by simp)
theorem c_Sort {m : Mem} {g c : Nat} {xs : List ByteArray} (hg : m g = some (.arr 9 1 c (xs.map .str))) (hb : xs.length ≤ 16777216) {K : AV → Mem → Prop} (hK : K (.tup []) (m.set g (.arr 9 1 c ((sortL xs).map .str)))) : WCall Tryz.prog 353 [.own g xs.length c] m K := by
  refine WCall.row hb_Sort (ys := sortL xs) (zs := []) (u := .tuple #[]) hg rfl (by simp [sortL_len]) (fun _ _ => .tup .nil) (fun w hH hgs hkc => ?_) hK
  have h := Any.slices_Sort_string Tryz.laysSort g 0 c (xs.map toL) w hH hgs (by simp; omega)
  have h2 : Calls Tryz.prog 353 #[.slice (some ⟨g, 0, none⟩) (xs.map toL).length c] w _ := h
  rw [List.length_map] at h2
  refine calls_mono h2 ?_
  rintro e w' ⟨he, n, os, hw⟩
  refine ⟨he, n, os, ?_⟩
  rw [hw, List.append_nil]
  unfold sortL
  rw [map_toL_ofL]
theorem c_Compact {m : Mem} {g c : Nat} {xs : List ByteArray} (hg : m g = some (.arr 9 1 c (xs.map .str))) (hb : xs.length ≤ 16777216) {K : AV → Mem → Prop} (hK : K (.own g (compL xs).length c) (m.set g (.arr 9 1 c ((compL xs).map .str)))) : WCall Tryz.prog 355 [.own g xs.length c] m K := by
  have hle := compact_le (xs.map toL)
  have hl : (compL xs).length = (Go.Lib.compact (xs.map toL)).length := by unfold compL; simp
  refine WCall.row hb_Compact (ys := compL xs) (zs := List.replicate (xs.length - (compL xs).length) (ofL [])) (u := .slice (some ⟨g, 0, none⟩) (compL xs).length c) hg rfl (by simp at hle ⊢; omega) (fun _ _ => .own g _ c) (fun w hH hgs hkc => ?_) hK
  have h := Any.slices_Compact_string Tryz.laysCompact g 0 c (xs.map toL) w hH (by simp; omega) (by simpa using hkc)
  have h2 : Calls Tryz.prog 355 #[.slice (some ⟨g, 0, none⟩) (xs.map toL).length c] w _ := h
  rw [List.length_map] at h2
  refine calls_mono h2 ?_
  rintro e w' ⟨he, n, hw⟩
  refine ⟨by rw [he, hl], n, #[], ?_⟩
  rw [hw, grow_empty, List.map_append, List.map_replicate, toL_ofL, hl]
  unfold compL
  rw [map_toL_ofL]
theorem slice_of_lst {w : World} {S : Nat → Prop} {f : Nat} {v : Value} (h : Rep w S (.lst true f []) v) : ∃ A, v = .slice A 0 0 := by
  cases h with
  | lnil _ _ A c hc => exact ⟨A, by rw [hc rfl]⟩
  | lst _ _ b o c h1 h2 h3 h4 h5 => have := h4 rfl; simp at this; exact ⟨_, by rw [this]; rfl⟩
theorem c_Sort0 (f : Nat) : PCall Tryz.prog 353 [.lst true f []] (.tup []) :=
  PCall.same hb_Sort fun w S v h => by
    obtain ⟨A, rfl⟩ := slice_of_lst h
    exact ⟨_, .tup .nil, Any.slices_Sort_string_none Tryz.laysSort A 0 w⟩
theorem c_Compact0 (f : Nat) : PCall Tryz.prog 355 [.lst true f []] (.lst true f []) :=
  PCall.same hb_Compact fun w S v h => by
    obtain ⟨A, rfl⟩ := slice_of_lst h
    exact ⟨_, .lnil _ _ A 0 (fun _ => rfl), Any.slices_Compact_string_empty Tryz.laysCompact A 0 w⟩
theorem c_Clip (xs : List AV) (n : Nat) (hb : xs.length ≤ 16777216) : PCall Tryz.prog 354 [.lst false n xs] (.lst true n xs) := by
  refine ⟨hb_Clip, fun w S cargs m hm hargs => ?_⟩
  cases hargs with | @cons _ v _ vs hv ht =>
  cases ht
  have key : ∀ A l c, v = .slice A l c → l ≤ c → Rep w S (.lst true n xs) (.slice A l l) → Calls Tryz.prog 354 #[v] w fun e w' => ∃ v' S', e = .returned v' ∧ (∀ b, S b → S' b) ∧ (∀ b, S' b → S b ∨ w.heap.size ≤ b) ∧ MemRep w' S' m ∧ Rep w' S' (.lst true n xs) v' ∧ Keep (fun _ => False) w w' := by
    rintro A l c rfl hlc hrep
    refine calls_mono (clip_c A l c w hlc) ?_
    rintro e w' ⟨rfl, rfl⟩
    exact ⟨_, S, rfl, fun _ h => h, fun _ h => .inl h, hm, hrep, Keep.refl _ _⟩
  cases hv with
  | lnil _ _ A c hc => exact key A 0 c rfl (Nat.zero_le _) (.lnil _ _ A 0 (fun _ => rfl))
  | lst _ _ b o c h1 h2 h3 h4 h5 => exact key _ _ c rfl h3 (.lst true n b o _ h1 h2 (Nat.le_refl _) (fun _ => rfl) h5)
/-- A list of strings that grows: nil, or a row of its own. -/
def GO (m0 : Mem) (xs : List ByteArray) (v : AV) (m : Mem) : Prop := Ext m0 m ∧ ((xs = [] ∧ ∃ f, v = .lst true f []) ∨ ∃ g c, v = .own g xs.length c ∧ m g = some (.arr 9 1 c (xs.map .str)) ∧ m0 g = none)
theorem GO.gs {m0 m : Mem} {xs : List ByteArray} {v : AV} (h : GO m0 xs v m) : GS m0 xs v m := by
  obtain ⟨he, ⟨rfl, f, rfl⟩ | ⟨g, c, rfl, hg, h0⟩⟩ := h
  · exact .lit f m (.inr rfl) he
  · exact .own g c _ m (by simp) hg h0 he
theorem GO.ok {m0 m : Mem} {xs : List ByteArray} {v : AV} (h : GO m0 xs v m) : v.cells = [v] ∧ okCell v = true ∧ v ≠ .undef := by
  obtain ⟨he, ⟨rfl, f, rfl⟩ | ⟨g, c, rfl, hg, h0⟩⟩ := h
  · exact ⟨rfl, rfl, by simp⟩
  · exact ⟨rfl, rfl, by simp⟩
theorem GO.app {m0 m : Mem} {xs : List ByteArray} {v : AV} (h : GO m0 xs v m) (f : Bool) (ys : List ByteArray) (hb : xs.length + ys.length ≤ 16777216) {k : AV → Mem → Prop} (hk : ∀ v' m', GO m0 (xs ++ ys) v' m' → k v' m') : appendW Tryz.prog m k #[26, 26] v (.lst f 1 (ys.map .str)) := by
  have hT := et_26
  obtain ⟨z, hz, hzl⟩ := hT.zero
  unfold appendW
  simp only [List.getElem?_toArray, List.getElem?_cons_zero, List.getElem?_cons_succ, hT.int, hT.elem, hT.size, hT.byte, hz, srcA, true_and, if_true]
  refine ⟨hT.pos.1, hT.pos.2, hzl, ?_⟩
  obtain ⟨he, ⟨rfl, e, rfl⟩ | ⟨g, c, rfl, hg, h0⟩⟩ := h
  · refine ⟨.inr rfl, by simp at hb ⊢; omega, fun h0 => ?_, fun _ g c hg hle => ?_⟩
    · have : ys = [] := by simpa using h0
      subst this
      exact hk _ _ ⟨he, .inl ⟨rfl, e, rfl⟩⟩
    · refine hk _ _ ⟨he.set (he.none hg) _, .inr ⟨g, c, by simp, by simp [set_same], he.none hg⟩⟩
  · simp only [hg]
    refine ⟨trivial, trivial, trivial, by simp, by simp, by simp at hb ⊢; omega, fun g' c' hg' hle => ?_⟩
    have hg0 : m0 g' = none := by
      rcases hg' with rfl | h
      · exact h0
      · exact he.none h
    exact hk _ _ ⟨he.set hg0 _, .inr ⟨g', c', by simp, by simp [set_same], hg0⟩⟩
/-- A call that is told for no memory only answers. -/
theorem WCall.p {P : Program} {n : FuncId} {args : List AV} {r : AV} (hw : WCall P n args (fun _ => none) fun r' _ => r' = r) : PCall P n args r := by
  refine ⟨hw.1, fun w S cargs m hm hr => ?_⟩
  have hm0 : MemRep w S (fun _ => none) := ⟨(fun g b h => by cases h), fun b hb => ⟨rfl, (hm.apart b hb).2⟩⟩
  refine calls_mono (hw.2 w S cargs hm0 hr) ?_
  rintro e w' ⟨v, r', m', S', rfl, rfl, h1, h2, h3, h4, h5, h6⟩
  have hk : Keep (fun _ => False) w w' := h5.mono (fun b h => absurd rfl h)
  refine ⟨v, S', rfl, h1, fun b hb => (h2 b hb).imp id (fun h => h.elim (fun h => absurd rfl h) id), ⟨fun g b hg => ?_, fun b hb => ?_⟩, h4, hk⟩
  · have hlt := (hm.blk g b hg).lt
    exact (hm.blk g b hg).mono (fun b' hb' => hk.block b' (hm.apart b' hb').2 id) h1 (hk.block g hlt id)
  · refine ⟨?_, (h3.apart b hb).2⟩
    rcases h2 b hb with h | h | h
    · exact (hm.apart b h).1
    · exact absurd rfl h
    · cases hq : m b with
      | none => rfl
      | some x => have := (hm.blk b x hq).lt; omega
theorem c_Grow0 (f : Nat) : PCall Tryz.prog 420 [.lst true f [], .int .i64 0] (.lst true f []) := by
  refine ⟨hb_Grow, fun w S cargs m hm hargs => ?_⟩
  cases hargs with | @cons _ v _ vs hv ht =>
  cases ht with | @cons _ v2 _ vs2 hv2 ht2 =>
  cases ht2
  cases hv2
  obtain ⟨A, rfl⟩ := slice_of_lst hv
  refine calls_mono (Any8.slices_Grow_room Tryz.laysGrow A 0 0 0 w (by omega) (by omega) (by omega) (by omega)) ?_
  rintro e w' ⟨rfl, rfl⟩
  exact ⟨_, S, rfl, fun _ h => h, fun _ h => .inl h, hm, hv, Keep.refl _ _⟩
theorem c_Grow (f n : Nat) (hn : 0 < n) (hb : n ≤ 16777216) {m : Mem} {K : AV → Mem → Prop} (hK : ∀ g c, m g = none → n ≤ c → K (.own g 0 c) (m.set g (.arr 9 1 c []))) : WCall Tryz.prog 420 [.lst true f [], .int .i64 n] m K := by
  refine ⟨hb_Grow, fun w S cargs hm hargs => ?_⟩
  cases hargs with | @cons _ v _ vs hv ht =>
  cases ht with | @cons _ v2 _ vs2 hv2 ht2 =>
  cases ht2
  cases hv2
  obtain ⟨A, rfl⟩ := slice_of_lst hv
  have hinf : (Tryz.prog.info? 9).map (fun i => (i.zero, i.size, i.bytes)) = some (some (.string ⟨#[]⟩), 1, 16) := by kernel_rfl
  obtain ⟨i0, hi0, hi1⟩ := Option.map_eq_some_iff.1 hinf
  simp only [Prod.mk.injEq] at hi1
  obtain ⟨hz0, hs0, hb0⟩ := hi1
  have h := Any8.slices_Grow_grow Tryz.laysGrow i0 (.string ⟨#[]⟩) hi0 hz0 (by omega) A 0 0 n [] w (by omega) (by omega) (by rw [hb0]; omega) (by omega) (by simp) (fun _ => rfl) (fun a _ j v hj => by simp at hj)
  refine calls_mono h ?_
  rintro e w' ⟨he, hw⟩
  have he2 : e = .returned (.slice (some ⟨w.heap.size, 0, none⟩) 0 (grownCap w (0 + n) 0 9)) := he
  have hw2 : w' = addO { w with drawn := w.drawn + 1 } (.cells ((#[] : Array Value) ++ Builtin.zeroCells (Value.string ⟨#[]⟩).cells (0 + n - 0) ++ Builtin.zeroCells (Value.string ⟨#[]⟩).cells (grownCap w (0 + n) 0 9 - (0 + n))) 9) := hw
  have hge := grownCap_ge w (0 + n) 0 9
  clear he hw h
  generalize grownCap w (0 + n) 0 9 = c at he2 hw2 hge
  subst he2
  have hm1 : MemRep { w with drawn := w.drawn + 1 } S m := memRep_drew hm _
  have hfree : m w.heap.size = none := by
    cases hq : m w.heap.size with
    | none => rfl
    | some b => have := (hm.blk _ b hq).lt; omega
  have hm2 := memRep_new (b := .arr 9 1 c []) hm1 (.cells ((#[] : Array Value) ++ Builtin.zeroCells (Value.string ⟨#[]⟩).cells (0 + n - 0) ++ Builtin.zeroCells (Value.string ⟨#[]⟩).cells (c - (0 + n))) 9)
    ⟨[], ((#[] : Array Value) ++ Builtin.zeroCells (Value.string ⟨#[]⟩).cells (0 + n - 0) ++ Builtin.zeroCells (Value.string ⟨#[]⟩).cells (c - (0 + n))).toList, by rw [List.nil_append, Array.toArray_toList]; exact addO_new _ _, .nil, by simp [Builtin.zeroCells, Value.cells]; omega, by simp, by simp⟩
  rw [← hw2] at hm2
  have hk1 : Keep (fun g => m g ≠ none) w w' := by rw [hw2]; exact ((Keep.refl _ w).drew (w.drawn + 1)).trans (keep_addO (fun g => m g ≠ none) { w with drawn := w.drawn + 1 } _) (fun g h => .inl h)
  refine ⟨_, _, _, S, rfl, hK w.heap.size c hfree (by omega), fun _ h => h, fun _ h => .inl h, hm2, .own _ 0 _, hk1, fun g b hb' => ?_⟩
  rw [set_at] at hb'
  by_cases hgg : g = w.heap.size
  · exact .inr (by omega)
  · rw [if_neg hgg] at hb'
    exact .inl (by rw [hb']; simp)
end Go.T
namespace Go.T
open Go Go.Proofs
set_option maxRecDepth 10000
set_option maxHeartbeats 1000000
set_option linter.unusedSimpArgs false
set_option linter.unusedVariables false
theorem GO.view {m0 m : Mem} {xs : List ByteArray} {v : AV} (h : GO m0 xs v m) : View m v m0 (strs xs) := h.gs.view
theorem GO.mono {m0 m1 m : Mem} {xs : List ByteArray} {v : AV} (h : GO m1 xs v m) (he : Ext m0 m1) : GO m0 xs v m := by
  obtain ⟨h1, h2⟩ := h
  refine ⟨fun g b hg => h1 g b (he g b hg), h2.imp id ?_⟩
  rintro ⟨g, c, a, b, h0⟩
  exact ⟨g, c, a, b, he.none h0⟩
theorem GO.fresh {m0 m : Mem} {xs : List ByteArray} {v : AV} (h : GO m0 xs v m) {g : Nat} (hg : m g = none) (b : Blk) : GO m0 xs v (m.set g b) := by
  obtain ⟨h1, h2⟩ := h
  refine ⟨h1.set (h1.none hg) b, h2.imp id ?_⟩
  rintro ⟨g', c, a, hb, h0⟩
  refine ⟨g', c, a, ?_, h0⟩
  rw [set_at, if_neg]
  · exact hb
  · rintro rfl; rw [hg] at hb; cases hb
theorem sumL_app {X : Type} (f : X → Nat) : ∀ a b : List X, sumL f (a ++ b) = sumL f a + sumL f b
  | [], b => by simp [sumL]
  | x :: a, b => by simp only [List.cons_append, sumL, sumL_app f a b]; omega
theorem sumL_flat : ∀ L : List (List ByteArray), L.flatten.length = sumL List.length L
  | [] => rfl
  | a :: L => by rw [List.flatten_cons, List.length_append, sumL, sumL_flat L]
theorem c_Concat (L : List (List ByteArray)) (f : Bool) (hb : sumL List.length L ≤ 8388608) (hl : L.length ≤ 1000) {m : Mem} {K : AV → Mem → Prop} (hK : ∀ v m', GO m L.flatten v m' → ∃ r m'', View m' v m'' r ∧ K r m'') :
    WCall Tryz.prog 315 [.lst f 1 (L.map strs)] m K := by
  refine wcall_of Tryz.func315 (by kernel_rfl) rfl (by simp [Tryz.f315]) ?_
  (repeat refine AWp.seq ?_); refine AWp.region noP (by kernel_rfl) ?_
  simp
  (repeat refine AWp.seq ?_); refine AWp.region noP (by kernel_rfl) ?_
  simp
  (repeat refine AWp.seq ?_); refine AWp.region noP (by kernel_rfl) ?_
  simp
  (try refine AWp.seq ?_)
  refine AWp.cutA (fun st => st.slots 0 = .lst f 1 (L.map strs) ∧ st.slots 3 = .int .i64 (sumL List.length L : Nat) ∧ st.mem = m) ?_ ?_
  · refine AWp.block (AWp.rounds (fun k st => ∃ (i : Nat), k = L.length - i ∧ i ≤ L.length ∧ st.slots 0 = .lst f 1 (L.map strs) ∧ st.slots 9 = .lst f 1 (L.map strs) ∧ st.slots 10 = .int .i64 L.length ∧ st.slots 11 = .int .i64 i ∧ st.slots 3 = .int .i64 (sumL List.length (L.take i) : Nat) ∧ st.mem = m) L.length ⟨0, by simp, by simp, by simp, by simp, by simp, by simp, by simp [sumL], by simp⟩ ?_)
    rintro R k st hR ⟨i, rfl, hi, s0, s9, s10, s11, s3, sm⟩
    (repeat refine AWp.seq ?_); refine AWp.region noP (by kernel_rfl) ?_
    simp [s9, s10, s11]
    (repeat refine AWp.seq ?_); refine AWp.cond (b := decide (i < L.length)) (by simp) (fun hb2 => ?_) (fun hb2 => ?_)
    · simp at hb2
      have hg : L[i]? = some L[i] := List.getElem?_eq_getElem hb2
      have hx : ∀ m, idxA Tryz.prog m 413 (.lst f 1 (L.map strs)) (.int .i64 i) = some (.ref [strs L[i]]) := fun m => idx (y := strs L[i]) es_413 (by simp [hg])
      have hw : IntKind.wrap .i64 ((i : Int) + 1) = (i + 1 : Nat) := wrap64 (by omega) (by omega)
      have hs1 : sumL List.length (L.take (i + 1)) = sumL List.length (L.take i) + L[i].length := by
        rw [List.take_add_one, hg, sumL_app]; simp [sumL]
      have hs2 : sumL List.length (L.take (i + 1)) ≤ sumL List.length L := by
        have := sumL_app List.length (L.take (i + 1)) (L.drop (i + 1))
        rw [List.take_append_drop] at this
        omega
      have hw2 : IntKind.wrap .i64 ((sumL List.length (L.take i) : Nat) + (L[i].length : Int)) = (sumL List.length (L.take (i + 1)) : Nat) := by rw [wrap64 (by omega) (by omega), hs1]; omega
      refine AWp.skip ?_
      try simp
      (repeat refine AWp.seq ?_); refine AWp.block ?_; (repeat refine AWp.seq ?_); refine AWp.region noP (by kernel_rfl) ?_
      simp [s9, s11, hx]
      (repeat refine AWp.seq ?_); refine AWp.region noP (by kernel_rfl) ?_
      simp [s3, strs, hw2]
      (repeat refine AWp.seq ?_); refine AWp.region noP (by kernel_rfl) ?_
      try simp
      (repeat refine AWp.seq ?_); refine AWp.condF (by simp) ?_
      refine AWp.skip ?_
      try simp
      (repeat refine AWp.seq ?_); refine AWp.region noP (by kernel_rfl) ?_
      simp [s11, hw]
      exact hR _ (L.length - (i + 1)) (by omega) ⟨i + 1, rfl, hb2, by simp [s0], by simp [s9], by simp [s10], by simp, by simp, by simp [sm]⟩
    · simp at hb2
      refine AWp.exit ?_
      have : i = L.length := by omega
      subst this
      rw [List.take_length] at s3
      simp [s0, s3, sm]
  rintro st ⟨s0, s3, sm⟩
  have hG : ∀ (st : St) (v : AV), st.slots 0 = .lst f 1 (L.map strs) → st.slots 6 = v → GO m [] v st.mem → True := fun _ _ _ _ _ => trivial
  refine AWp.seq ?_
  refine AWp.cutA (fun st => ∃ v, st.slots 0 = .lst f 1 (L.map strs) ∧ st.slots 6 = v ∧ GO m [] v st.mem) ?_ ?_
  · (repeat refine AWp.seq ?_); refine AWp.region noP (by kernel_rfl) ?_
    simp [s3]
    by_cases h0 : sumL List.length L = 0
    · refine aop_wcall _ _ _ _ _ _ _ _ rfl (eval_func _ _) ?_
      refine PCall.w (by simpa [h0] using c_Grow0 0) ?_
      simp [s0]
      rw [sm]
      exact ⟨Ext.refl _, .inl ⟨rfl, 0, rfl⟩⟩
    · refine aop_wcall _ _ _ _ _ _ _ _ rfl (eval_func _ _) ?_
      refine c_Grow 0 _ (by omega) (by omega) fun g c hg hc => ?_
      simp [s0]
      simp at hg
      rw [sm] at hg ⊢
      exact ⟨(Ext.refl m).set hg _, .inr ⟨g, c, by simp, by simp [set_same], hg⟩⟩
  clear s0 s3 sm hG
  rintro st ⟨v, s0, s6, hG⟩
  (repeat refine AWp.seq ?_); refine AWp.region noP (by kernel_rfl) ?_
  simp [s0]
  (try refine AWp.seq ?_)
  refine AWp.cutA (fun st => ∃ v, st.slots 6 = v ∧ GO m L.flatten v st.mem) ?_ ?_
  · refine AWp.block (AWp.rounds (fun k st => ∃ (i : Nat) (v : AV), k = L.length - i ∧ i ≤ L.length ∧ st.slots 25 = .lst f 1 (L.map strs) ∧ st.slots 26 = .int .i64 L.length ∧ st.slots 27 = .int .i64 i ∧ st.slots 6 = v ∧ GO m (L.take i).flatten v st.mem) L.length ⟨0, v, by simp, by simp, by simp, by simp, by simp, by simp [s6], by simpa using hG⟩ ?_)
    clear s0 s6 hG
    rintro R k st hR ⟨i, v, rfl, hi, s25, s26, s27, s6, hG⟩
    (repeat refine AWp.seq ?_); refine AWp.region noP (by kernel_rfl) ?_
    simp [s25, s26, s27]
    (repeat refine AWp.seq ?_); refine AWp.cond (b := decide (i < L.length)) (by simp) (fun hb2 => ?_) (fun hb2 => ?_)
    · simp at hb2
      have hg : L[i]? = some L[i] := List.getElem?_eq_getElem hb2
      have hx : ∀ m, idxA Tryz.prog m 413 (.lst f 1 (L.map strs)) (.int .i64 i) = some (.ref [strs L[i]]) := fun m => idx (y := strs L[i]) es_413 (by simp [hg])
      have hw : IntKind.wrap .i64 ((i : Int) + 1) = (i + 1 : Nat) := wrap64 (by omega) (by omega)
      have hs1 : (L.take (i + 1)).flatten = (L.take i).flatten ++ L[i] := by
        rw [List.take_add_one, hg, List.flatten_append]; simp
      have hs2 : ((L.take i).flatten ++ L[i]).length ≤ sumL List.length L := by
        rw [← hs1, sumL_flat]
        have := sumL_app List.length (L.take (i + 1)) (L.drop (i + 1))
        rw [List.take_append_drop] at this
        omega
      rw [List.length_append] at hs2
      refine AWp.skip ?_
      try simp
      (repeat refine AWp.seq ?_); refine AWp.block ?_; (repeat refine AWp.seq ?_); refine AWp.region noP (by kernel_rfl) ?_
      simp [s25, s27, hx]
      (repeat refine AWp.seq ?_); refine AWp.region noP (by kernel_rfl) ?_
      simp [s6, strs]
      refine hG.app false L[i] (by omega) fun v' m' hG' => ?_
      try simp
      (repeat refine AWp.seq ?_); refine AWp.region noP (by kernel_rfl) ?_
      simp [s27, hw]
      exact hR _ (L.length - (i + 1)) (by omega) ⟨i + 1, v', rfl, hb2, by simp [s25], by simp [s26], by simp, by simp, by rw [hs1]; simpa using hG'⟩
    · simp at hb2
      refine AWp.exit ?_
      have : i = L.length := by omega
      subst this
      rw [List.take_length] at hG
      simp [s6]
      exact hG
  clear s0 s6 hG
  rintro st ⟨v, s6, hG⟩
  (repeat refine AWp.seq ?_); refine AWp.region noP (by kernel_rfl) ?_
  simp [s6]
  obtain ⟨r, m'', h1, h2⟩ := hK v st.mem hG
  exact AWp.ret (post_retW rfl ⟨r, m'', by simpa using h1, h2⟩)
theorem c_ConcatP (L : List (List ByteArray)) (f : Bool) (hb : sumL List.length L ≤ 8388608) (hl : L.length ≤ 1000) : PCall Tryz.prog 315 [.lst f 1 (L.map strs)] (strs L.flatten) :=
  WCall.p (c_Concat L f hb hl fun v m' h => ⟨_, _, h.view, rfl⟩)
theorem c_ordered {m0 m : Mem} {xs : List ByteArray} {v : AV} (h : GO m0 xs v m) (hb : xs.length ≤ 8388608) {K : AV → Mem → Prop} (hK : K (strs (nameSet xs)) m0) : WCall Tryz.prog 243 [v] m K := by
  refine wcall_of Tryz.func243 (by kernel_rfl) rfl (by simp [Tryz.f243]) ?_
  obtain ⟨he, ⟨rfl, f, rfl⟩ | ⟨g, c, rfl, hg, h0⟩⟩ := h
  · (repeat refine AWp.seq ?_); refine AWp.region noP (by kernel_rfl) ?_
    try simp
    (repeat refine AWp.seq ?_); refine AWp.region allP (by kernel_rfl) ?_
    try simp
    refine aop_call' (c_Sort0 f) ?_
    try simp
    (repeat refine AWp.seq ?_); refine AWp.region allP (by kernel_rfl) ?_
    try simp
    refine aop_call' (c_Compact0 f) ?_
    try simp
    refine aop_call' ((c_Clip [] f (by simp)).arg (.cons (Le.lst true f []) .nil)) ?_
    try simp
    refine AWp.ret (post_retW rfl ⟨strs [], m0, ?_, by simpa [nameSet] using hK⟩)
    try simp
    refine (View.forget he _).trans ?_
    intro w S u h1 h2
    exact ⟨S, fun _ h => h, fun _ h => .inl h, h1, Le.nil _ _ _ _ _ _ h2, fun g b h => by rw [h]; simp⟩
  · (repeat refine AWp.seq ?_); refine AWp.region noP (by kernel_rfl) ?_
    try simp
    (repeat refine AWp.seq ?_); refine AWp.region noP (by kernel_rfl) ?_
    try simp
    refine aop_wcall _ _ _ _ _ _ _ _ rfl (eval_func _ _) ?_
    refine c_Sort hg (by omega) ?_
    try simp
    (repeat refine AWp.seq ?_); refine AWp.region noP (by kernel_rfl) ?_
    try simp
    refine aop_wcall _ _ _ _ _ _ _ _ rfl (eval_func _ _) ?_
    have hl := sortL_len xs
    have hg2 : (m.set g (.arr 9 1 c ((sortL xs).map .str))) g = some (.arr 9 1 c ((sortL xs).map .str)) := set_same _ _ _
    have c2 := @c_Compact (m.set g (.arr 9 1 c ((sortL xs).map .str))) g c (sortL xs) hg2 (by omega)
    rw [hl, comp_sort] at c2
    refine c2 ?_
    try simp
    refine aop_wcall _ _ _ _ _ _ _ _ rfl (eval_func _ _) ?_
    have hlen := nameSet_len xs
    refine PCall.viewed (l := []) (l' := []) (c_Clip ((nameSet xs).map .str) 1 (by simp; omega)) (View.freeze (T := 9) (e := 1) (by simp) (by simp)) ?_
    try simp
    refine AWp.ret (post_retW rfl ⟨strs (nameSet xs), m0, ?_, hK⟩)
    try simp
    refine (View.forget (m' := m0) (fun k b hk => ?_) _).trans ?_
    · have hkg : k ≠ g := fun e => by rw [e, h0] at hk; cases hk
      simp only [Mem.del, set_at, if_neg hkg]
      exact he k b hk
    · intro w S u h1 h2
      exact ⟨S, fun _ h => h, fun _ h => .inl h, h1, Le.lst _ _ _ _ _ _ h2, fun g b h => by rw [h]; simp⟩
end Go.T
namespace Go.T
open Go Go.Proofs
set_option maxRecDepth 10000
set_option maxHeartbeats 1000000
set_option linter.unusedSimpArgs false
set_option linter.unusedVariables false
/-- A list of names that a function's own variable collects: the variable go, another variable gk that holds k. -/
def Col (m0 : Mem) (gk go : Nat) (q : Int) (xs : List ByteArray) (m : Mem) : Prop := m0 go = none ∧ m0 gk = some (.box [.int .i64 q]) ∧ ∃ v, m go = some (.box [v]) ∧ GO m0 xs v m
theorem Col.fresh {m0 m : Mem} {gk go : Nat} {q : Int} {xs : List ByteArray} (h : Col m0 gk go q xs m) {g : Nat} (hg : m g = none) (b : Blk) : Col m0 gk go q xs (m.set g b) := by
  obtain ⟨h1, h2, v, h3, h4⟩ := h
  refine ⟨h1, h2, v, ?_, h4.fresh hg b⟩
  rw [set_at, if_neg]
  · exact h3
  · rintro rfl; rw [hg] at h3; cases h3
theorem Col.ext {m0 m : Mem} {gk go : Nat} {q : Int} {xs : List ByteArray} (h : Col m0 gk go q xs m) : Ext m0 m := by
  obtain ⟨h1, h2, v, h3, h4⟩ := h
  exact h4.1
theorem Col.keep {m0 m : Mem} {gk go : Nat} {q : Int} {xs : List ByteArray} (h : Col m0 gk go q xs m) {g : Nat} (hg : m g = none) (b : Blk) : Col (m0.set g b) gk go q xs (m.set g b) := by
  obtain ⟨h1, h2, v, h3, h4, h5⟩ := h
  have hgo : go ≠ g := by rintro rfl; rw [hg] at h3; cases h3
  have hgk : gk ≠ g := by rintro rfl; have := h4 _ _ h2; rw [hg] at this; cases this
  refine ⟨by rw [set_at, if_neg hgo]; exact h1, by rw [set_at, if_neg hgk]; exact h2, v, by rw [set_at, if_neg hgo]; exact h3, fun k x hk => ?_, h5.imp id ?_⟩
  · rw [set_at] at hk ⊢
    by_cases e : k = g
    · rw [if_pos e] at hk ⊢; exact hk
    · rw [if_neg e] at hk ⊢; exact h4 k x hk
  · rintro ⟨g', c, a, hb, h0⟩
    have hne : g' ≠ g := by rintro rfl; rw [hg] at hb; cases hb
    exact ⟨g', c, a, by rw [set_at, if_neg hne]; exact hb, by rw [set_at, if_neg hne]; exact h0⟩
theorem Col.less {m0 m : Mem} {gk go : Nat} {q : Int} {xs : List ByteArray} {g : Nat} {b : Blk} (h : Col (m0.set g b) gk go q xs m) (h0 : m0 g = none) (hk : m0 gk = some (.box [.int .i64 q])) : Col m0 gk go q xs m := by
  obtain ⟨h1, h2, v, h3, h4⟩ := h
  have hgo : go ≠ g := by rintro rfl; rw [set_at, if_pos rfl] at h1; cases h1
  rw [set_at, if_neg hgo] at h1
  refine ⟨h1, hk, v, h3, h4.mono fun k x hkx => ?_⟩
  rw [set_at, if_neg]
  · exact hkx
  · rintro rfl; rw [h0] at hkx; cases hkx
/-- It takes one more. -/
theorem Col.push {m0 m : Mem} {gk go : Nat} {q : Int} {xs : List ByteArray} {v : AV} (h1 : m0 go = none) (h2 : m0 gk = some (.box [.int .i64 q])) (h3 : m go = some (.box [v])) (h4 : GO m0 xs v m) (s : ByteArray) (hb : xs.length ≤ 8388608) {k : AV → Mem → Prop}
    (hk : ∀ v' m', m' go = some (.box [v]) → v'.cells = [v'] → okCell v' = true → v' ≠ .undef → Col m0 gk go q (xs ++ [s]) (m'.set go (.box [v'])) → k v' m') : appendW Tryz.prog m k #[26, 26] v (.lst true 1 [.str s]) := by
  -- the box is no row, and what is taken is none of its
  have hE : Ext (m0.set go (.box [v])) m := fun g b hg => by
    rw [set_at] at hg
    by_cases e : g = go
    · subst e; rw [if_pos rfl] at hg; obtain rfl := Option.some.inj hg; exact h3
    · rw [if_neg e] at hg; exact h4.1 g b hg
  have h5 : GO (m0.set go (.box [v])) xs v m := by
    refine ⟨hE, h4.2.imp id ?_⟩
    rintro ⟨g, c, a, b, h0⟩
    refine ⟨g, c, a, b, ?_⟩
    rw [set_at, if_neg]
    · exact h0
    · rintro rfl; rw [h3] at b; cases b
  refine h5.app true [s] (by simp; omega) fun v' m' hG => ?_
  have hgo : m' go = some (.box [v]) := hG.1 go _ (set_same _ _ _)
  have hex : Ext m0 m' := fun g b hg => hG.1 g b (by
    rw [set_at, if_neg]
    · exact hg
    · rintro rfl; rw [h1] at hg; cases hg)
  obtain ⟨o1, o2, o3⟩ := hG.ok
  refine hk v' m' hgo o1 o2 o3 ⟨h1, h2, v', set_same _ _ _, hex.set h1 _, hG.2.imp id ?_⟩
  rintro ⟨g, c, a, b, h0⟩
  have hgn : g ≠ go := by rintro rfl; rw [hgo] at b; cases b
  refine ⟨g, c, a, by rw [set_at, if_neg hgn]; exact b, ?_⟩
  rw [set_at, if_neg hgn] at h0
  exact h0
theorem c_namesOf1 (x : Sm) {m0 m : Mem} {gk go : Nat} {q : Int} {xs : List ByteArray} (h : Col m0 gk go q xs m) (hb : xs.length ≤ 8388608) {K : AV → Mem → Prop} (hK : ∀ m', Col m0 gk go q (xs ++ one (x.k = q) x.s) m' → K (.tup []) m') :
    WCall Tryz.prog 242 [x.av, .ptr gk 0, .ptr go 0] m K := by
  refine wcall_of Tryz.func242 (by kernel_rfl) rfl (by simp [Tryz.f242]) ?_
  unfold Sm.av
  (repeat refine AWp.seq ?_); refine AWp.region noP (by kernel_rfl) ?_
  simp
  intro g hg
  have h' := h.fresh hg (.box x.cells)
  obtain ⟨h1, h2, v, h3, h4⟩ := h'
  have hgk : (m.set g (.box x.cells)) gk = some (.box [.int .i64 q]) := h4.1 gk _ h2
  have hgg : (m.set g (.box x.cells)) g = some (.box x.cells) := set_same _ _ _
  generalize m.set g (.box x.cells) = m1 at *
  (repeat refine AWp.seq ?_); refine AWp.region noP (by kernel_rfl) ?_
  simp [hgk, hgg]
  (repeat refine AWp.seq ?_); refine AWp.cond (b := decide (x.k = q)) (by simp) (fun hk => ?_) (fun hk => ?_)
  · simp at hk
    (repeat refine AWp.seq ?_); refine AWp.region noP (by kernel_rfl) ?_
    simp [h3, hgg]
    refine Col.push h1 h2 h3 h4 x.s hb fun v' m' hgo o1 o2 o3 hC => ?_
    simp [o1, o2, hgo]
    refine post_nrm0 rfl (hK _ ?_)
    have e : one (x.k = q) x.s = [x.s] := by simp [one, hk]
    rw [e]
    exact hC
  · simp at hk
    refine AWp.skip ?_
    try simp
    refine post_nrm0 rfl ?_
    have e : xs ++ one (x.k = q) x.s = xs := by simp [one, hk]
    refine hK _ ?_
    rw [e]
    exact ⟨h1, h2, v, by simpa using h3, by simpa using h4⟩
theorem c_namesAsked11 (x : Ex) {m0 m : Mem} {gk go : Nat} {q : Int} {xs : List ByteArray} (h : Col m0 gk go q xs m) (hb : xs.length ≤ 8388608) {K : AV → Mem → Prop} (hK : ∀ m', Col m0 gk go q (xs ++ one (x.k = q) x.s) m' → K (.tup []) m') :
    WCall Tryz.prog 419 [x.av, .ptr gk 0, .ptr go 0] m K := by
  refine wcall_of Tryz.func419 (by kernel_rfl) rfl (by simp [Tryz.f419]) ?_
  unfold Ex.av
  (repeat refine AWp.seq ?_); refine AWp.region noP (by kernel_rfl) ?_
  simp
  intro g hg
  have h' := h.fresh hg (.box x.cells)
  obtain ⟨h1, h2, v, h3, h4⟩ := h'
  have hgk : (m.set g (.box x.cells)) gk = some (.box [.int .i64 q]) := h4.1 gk _ h2
  have hgg : (m.set g (.box x.cells)) g = some (.box x.cells) := set_same _ _ _
  generalize m.set g (.box x.cells) = m1 at *
  (repeat refine AWp.seq ?_); refine AWp.region noP (by kernel_rfl) ?_
  simp [hgk, hgg]
  (repeat refine AWp.seq ?_); refine AWp.cond (b := decide (x.k = q)) (by simp) (fun hk => ?_) (fun hk => ?_)
  · simp at hk
    (repeat refine AWp.seq ?_); refine AWp.region noP (by kernel_rfl) ?_
    simp [h3, hgg]
    refine Col.push h1 h2 h3 h4 x.s hb fun v' m' hgo o1 o2 o3 hC => ?_
    simp [o1, o2, hgo]
    refine post_nrm0 rfl (hK _ ?_)
    have e : one (x.k = q) x.s = [x.s] := by simp [one, hk]
    rw [e]
    exact hC
  · simp at hk
    refine AWp.skip ?_
    try simp
    refine post_nrm0 rfl ?_
    have e : xs ++ one (x.k = q) x.s = xs := by simp [one, hk]
    refine hK _ ?_
    rw [e]
    exact ⟨h1, h2, v, by simpa using h3, by simpa using h4⟩
-- what is told of statements, one behind the other, those of Bodies too
mutual
def Sm.walk (f : Sm → List ByteArray) : Sm → List ByteArray
  | .mk k s a e lo hi b => f (.mk k s a e lo hi b) ++ Sm.walkL f b
def Sm.walkL (f : Sm → List ByteArray) : List Sm → List ByteArray
  | [] => []
  | x :: l => x.walk f ++ Sm.walkL f l
end
theorem Sm.walk_eq (f : Sm → List ByteArray) (e : Sm) : e.walk f = f e ++ Sm.walkL f e.body := by cases e; rfl
def Step (n : FuncId) (gk go : Nat) (q : Int) (f : Sm → List ByteArray) : Prop := ∀ (x : Sm), x.tot ≤ 1048576 → ∀ (m0 m : Mem) (xs : List ByteArray), Col m0 gk go q xs m → xs.length + (f x).length ≤ 8388608 → ∀ K : AV → Mem → Prop, (∀ m', Col m0 gk go q (xs ++ f x) m' → K (.tup []) m') → WCall Tryz.prog n [x.av, .ptr gk 0, .ptr go 0] m K
theorem c_eachStmt0 {n : FuncId} {gk go : Nat} {q : Int} {f : Sm → List ByteArray} (hstep : Step n gk go q f) (l : List Sm) (ht : totL Sm.tot l ≤ 1048576)
    (h : ∀ x ∈ l, ∀ (m0 m : Mem) (xs : List ByteArray), Col m0 gk go q xs m → xs.length + (Sm.walkL f x.body).length ≤ 8388608 → ∀ K : AV → Mem → Prop, (∀ m', Col m0 gk go q (xs ++ Sm.walkL f x.body) m' → K (.tup []) m') → WCall Tryz.prog 241 [.lst false 19 (x.body.map Sm.av), .func (.func n) [.ptr gk 0, .ptr go 0]] m K)
    (m0 m : Mem) (xs : List ByteArray) (hC : Col m0 gk go q xs m) (hb : xs.length + (Sm.walkL f l).length ≤ 8388608) (K : AV → Mem → Prop) (hK : ∀ m', Col m0 gk go q (xs ++ Sm.walkL f l) m' → K (.tup []) m') :
    WCall Tryz.prog 241 [.lst false 19 (l.map Sm.av), .func (.func n) [.ptr gk 0, .ptr go 0]] m K := by
  have hlen := totL_len Sm.tot l
  refine wcall_of Tryz.func241 (by kernel_rfl) rfl (by simp [Tryz.f241]) ?_
  (repeat refine AWp.seq ?_); refine AWp.region noP (by kernel_rfl) ?_
  simp
  (repeat refine AWp.seq ?_); refine AWp.block (AWp.rounds (fun k st => ∃ (i : Nat) (ys : List ByteArray), k = l.length - i ∧ i ≤ l.length ∧ st.slots 6 = .lst false 19 (l.map Sm.av) ∧ st.slots 7 = .int .i64 l.length ∧ st.slots 8 = .int .i64 i ∧ st.slots 1 = .func (.func n) [.ptr gk 0, .ptr go 0] ∧ Col m0 gk go q ys st.mem ∧
    xs ++ Sm.walkL f l = ys ++ Sm.walkL f (l.drop i)) l.length ⟨0, xs, by simp, by simp, by simp, by simp, by simp, by simp, by simpa using hC, by simp⟩ ?_)
  rintro R k st hR ⟨i, ys, rfl, hi, s6, s7, s8, s1, hC, hr⟩
  (repeat refine AWp.seq ?_); refine AWp.region noP (by kernel_rfl) ?_
  simp [s6, s7, s8]
  (repeat refine AWp.seq ?_); refine AWp.cond (b := decide (i < l.length)) (by simp) (fun hb2 => ?_) (fun hb2 => ?_)
  · simp at hb2
    have hg : l[i]? = some l[i] := List.getElem?_eq_getElem hb2
    have hdr : l.drop i = l[i] :: l.drop (i + 1) := List.drop_eq_getElem_cons hb2
    have htm := totL_mem Sm.tot (List.getElem_mem hb2)
    have htb := l[i].tot_body
    rw [hdr, Sm.walkL, Sm.walk_eq] at hr
    have hll := congrArg List.length hr
    simp only [List.length_append] at hll
    have hx : ∀ m, idxA Tryz.prog m 36 (.lst false 19 (l.map Sm.av)) (.int .i64 i) = some (.ref l[i].cells) := fun m => idx (y := l[i].av) es_36 (by simp [hg])
    have hw : IntKind.wrap .i64 ((i : Int) + 1) = (i + 1 : Nat) := wrap64 (by omega) (by omega)
    refine AWp.skip ?_
    try simp
    (repeat refine AWp.seq ?_); refine AWp.block ?_; (repeat refine AWp.seq ?_); refine AWp.region noP (by kernel_rfl) ?_
    simp [s6, s8, hx]
    intro g hgf
    try simp [set_at, set_set]
    have hC1 := hC.keep hgf (.box l[i].cells)
    have hm0g : m0 g = none := hC.ext.none hgf
    have hm0k := hC.2.1
    have hgg : (st.mem.set g (.box l[i].cells)) g = some (.box l[i].cells) := set_same _ _ _
    generalize st.mem.set g (.box l[i].cells) = m1 at *
    (repeat refine AWp.seq ?_); refine AWp.region noP (by kernel_rfl) ?_
    simp [s1, hgg]
    refine aop_wcall _ _ _ _ _ _ _ _ rfl (n := n) (caps := [.ptr gk 0, .ptr go 0]) (by simp [s1]) ?_
    try simp [hgg]
    refine hstep l[i] (by omega) _ _ _ hC1 (by omega) _ fun m2 hC2 => ?_
    have hg2 : m2 g = some (.box l[i].cells) := hC2.ext g _ (set_same _ _ _)
    try simp
    (repeat refine AWp.seq ?_); refine AWp.region noP (by kernel_rfl) ?_
    simp [s1, hg2]
    refine aop_wcall _ _ _ _ _ _ _ _ rfl (eval_func _ _) ?_
    refine h l[i] (List.getElem_mem _) _ _ _ hC2 (by simp; omega) _ fun m3 hC3 => ?_
    try simp
    (repeat refine AWp.seq ?_); refine AWp.region noP (by kernel_rfl) ?_
    simp [s8, hw]
    refine hR _ (l.length - (i + 1)) (by omega) ⟨i + 1, _, rfl, hb2, by simp [s6], by simp [s7], by simp, by simp [s1], by simpa using hC3.less hm0g hm0k, ?_⟩
    rw [hr]; simp
  · simp at hb2
    refine AWp.exit ?_
    have : i = l.length := by omega
    subst this
    simp [Sm.walkL] at hr
    try simp
    exact post_nrm0 rfl (hK _ (by rw [hr]; exact hC))
theorem c_eachStmt {n : FuncId} {gk go : Nat} {q : Int} {f : Sm → List ByteArray} (hstep : Step n gk go q f) (l : List Sm) (ht : totL Sm.tot l ≤ 1048576) (m0 m : Mem) (xs : List ByteArray) (hC : Col m0 gk go q xs m) (hb : xs.length + (Sm.walkL f l).length ≤ 8388608) (K : AV → Mem → Prop) (hK : ∀ m', Col m0 gk go q (xs ++ Sm.walkL f l) m' → K (.tup []) m') :
    WCall Tryz.prog 241 [.lst false 19 (l.map Sm.av), .func (.func n) [.ptr gk 0, .ptr go 0]] m K := by
  have key : ∀ e : Sm, e.tot ≤ 1048576 → ∀ (m0 m : Mem) (xs : List ByteArray), Col m0 gk go q xs m → xs.length + (Sm.walkL f e.body).length ≤ 8388608 → ∀ K : AV → Mem → Prop, (∀ m', Col m0 gk go q (xs ++ Sm.walkL f e.body) m' → K (.tup []) m') → WCall Tryz.prog 241 [.lst false 19 (e.body.map Sm.av), .func (.func n) [.ptr gk 0, .ptr go 0]] m K := by
    intro e
    induction e using Sm.ind' with | h e h =>
    intro ht
    have := e.tot_body
    exact c_eachStmt0 hstep e.body (by omega) (fun x hx => h x hx (by have := totL_mem Sm.tot hx; omega))
  exact c_eachStmt0 hstep l ht (fun x hx => key x (by have := totL_mem Sm.tot hx; omega)) m0 m xs hC hb K hK
end Go.T
namespace Go.T
open Go Go.Proofs
set_option maxRecDepth 10000
set_option maxHeartbeats 1000000
set_option linter.unusedSimpArgs false
set_option linter.unusedVariables false
theorem c_eachExp (e : Ex) {gk go : Nat} {q : Int} : e.tot ≤ 1048576 → ∀ (m0 m : Mem) (xs : List ByteArray), Col m0 gk go q xs m → xs.length + (e.post q).length ≤ 8388608 → ∀ K : AV → Mem → Prop, (∀ m', Col m0 gk go q (xs ++ e.post q) m' → K (.tup []) m') →
    WCall Tryz.prog 356 [e.av, .func (.func 419) [.ptr gk 0, .ptr go 0]] m K := by
  induction e using Ex.ind' with | h e h =>
  intro ht m0 m xs hC hb K hK
  have htl := e.tot_l
  have hlen := e.len_l
  refine wcall_of Tryz.func356 (by kernel_rfl) rfl (by simp [Tryz.f356]) ?_
  unfold Ex.av
  rw [e.post_eq] at hb hK
  rw [List.length_append] at hb
  (repeat refine AWp.seq ?_); refine AWp.region noP (by kernel_rfl) ?_
  try simp
  intro g0 hg0
  have hm0 : m0 g0 = none := hC.ext.none hg0
  have hk0 := hC.2.1
  have hC0 := hC.keep hg0 (.box e.cells)
  have hgg : (m.set g0 (.box e.cells)) g0 = some (.box e.cells) := set_same _ _ _
  generalize m.set g0 (.box e.cells) = m1 at *
  (repeat refine AWp.seq ?_); refine AWp.region noP (by kernel_rfl) ?_
  simp [hgg]
  (try refine AWp.seq ?_)
  refine AWp.cutA (fun st => st.slots 2 = .ptr g0 0 ∧ st.slots 1 = .func (.func 419) [.ptr gk 0, .ptr go 0] ∧ Col (m0.set g0 (.box e.cells)) gk go q (xs ++ Ex.posts q e.l) st.mem) ?_ ?_
  · refine AWp.block (AWp.rounds (fun k st => ∃ (i : Nat) (ys : List ByteArray), k = e.l.length - i ∧ i ≤ e.l.length ∧ st.slots 2 = .ptr g0 0 ∧ st.slots 1 = .func (.func 419) [.ptr gk 0, .ptr go 0] ∧ st.slots 7 = .lst false 4 (e.l.map Ex.av) ∧ st.slots 8 = .int .i64 e.l.length ∧ st.slots 9 = .int .i64 i ∧ Col (m0.set g0 (.box e.cells)) gk go q ys st.mem ∧
      xs ++ Ex.posts q e.l = ys ++ Ex.posts q (e.l.drop i)) e.l.length ⟨0, xs, by simp, by simp, by simp, by simp, by simp, by simp, by simp, by simpa using hC0, by simp⟩ ?_)
    clear hC hC0 hgg
    rintro R k st hR ⟨i, ys, rfl, hi, s2, s1, s7, s8, s9, hC, hr⟩
    (repeat refine AWp.seq ?_); refine AWp.region noP (by kernel_rfl) ?_
    simp [s7, s8, s9]
    (repeat refine AWp.seq ?_); refine AWp.cond (b := decide (i < e.l.length)) (by simp) (fun hb2 => ?_) (fun hb2 => ?_)
    · simp at hb2
      have hg : e.l[i]? = some e.l[i] := List.getElem?_eq_getElem hb2
      have hdr : e.l.drop i = e.l[i] :: e.l.drop (i + 1) := List.drop_eq_getElem_cons hb2
      have htm := totL_mem Ex.tot (List.getElem_mem hb2)
      rw [hdr, Ex.posts] at hr
      have hll := congrArg List.length hr
      simp only [List.length_append] at hll
      have hx : ∀ m, idxA Tryz.prog m 41 (.lst false 4 (e.l.map Ex.av)) (.int .i64 i) = some (.ref e.l[i].cells) := fun m => idx (y := e.l[i].av) es_41 (by simp [hg])
      have hw : IntKind.wrap .i64 ((i : Int) + 1) = (i + 1 : Nat) := wrap64 (by omega) (by omega)
      refine AWp.skip ?_
      try simp
      (repeat refine AWp.seq ?_); refine AWp.block ?_; (repeat refine AWp.seq ?_); refine AWp.region noP (by kernel_rfl) ?_
      simp [s7, s9, hx]
      intro g hgf
      try simp [set_at, set_set]
      have hC1 := hC.fresh hgf (.box e.l[i].cells)
      have hgg : (st.mem.set g (.box e.l[i].cells)) g = some (.box e.l[i].cells) := set_same _ _ _
      generalize st.mem.set g (.box e.l[i].cells) = m2 at *
      (repeat refine AWp.seq ?_); refine AWp.region noP (by kernel_rfl) ?_
      simp [s1, hgg]
      refine aop_wcall _ _ _ _ _ _ _ _ rfl (eval_func _ _) ?_
      refine h e.l[i] (List.getElem_mem _) (by omega) _ _ _ hC1 (by omega) _ fun m3 hC3 => ?_
      try simp
      (repeat refine AWp.seq ?_); refine AWp.region noP (by kernel_rfl) ?_
      simp [s9, hw]
      refine hR _ (e.l.length - (i + 1)) (by omega) ⟨i + 1, _, rfl, hb2, by simp [s2], by simp [s1], by simp [s7], by simp [s8], by simp, by simpa using hC3, ?_⟩
      rw [hr]; simp
    · simp at hb2
      refine AWp.exit ?_
      have : i = e.l.length := by omega
      subst this
      simp [Ex.posts] at hr
      simp [s2, s1, hr, hC]
  clear hC hC0 hgg
  rintro st ⟨s2, s1, hC⟩
  have hg2 : st.mem g0 = some (.box e.cells) := hC.ext g0 _ (set_same _ _ _)
  (repeat refine AWp.seq ?_); refine AWp.region noP (by kernel_rfl) ?_
  simp [s2, s1, hg2]
  refine aop_wcall _ _ _ _ _ _ _ _ rfl (n := 419) (caps := [.ptr gk 0, .ptr go 0]) (by simp [s1]) ?_
  try simp [hg2]
  refine c_namesAsked11 e hC (by simp; omega) fun m' hC' => ?_
  try simp
  refine post_nrm0 rfl (hK _ ?_)
  have := hC'.less hm0 hk0
  simpa [List.append_assoc] using this
theorem c_eachPart (x : Sm) {gk go : Nat} {q : Int} (ht : x.tot ≤ 1048576) (m0 m : Mem) (xs : List ByteArray) (hC : Col m0 gk go q xs m) (hb : xs.length + (Ex.posts q [x.a, x.e, x.lo, x.hi]).length ≤ 8388608) (K : AV → Mem → Prop) (hK : ∀ m', Col m0 gk go q (xs ++ Ex.posts q [x.a, x.e, x.lo, x.hi]) m' → K (.tup []) m') :
    WCall Tryz.prog 418 [x.av, .func (.func 419) [.ptr gk 0, .ptr go 0]] m K := by
  have htp := x.tot_parts
  refine wcall_of Tryz.func418 (by kernel_rfl) rfl (by simp [Tryz.f418]) ?_
  unfold Sm.av
  (repeat refine AWp.seq ?_); refine AWp.region noP (by kernel_rfl) ?_
  try simp
  intro g0 hg0
  have hC0 := hC.fresh hg0 (.box x.cells)
  have hgg : (m.set g0 (.box x.cells)) g0 = some (.box x.cells) := set_same _ _ _
  generalize m.set g0 (.box x.cells) = m1 at *
  (repeat refine AWp.seq ?_); refine AWp.region noP (by kernel_rfl) ?_
  simp [hgg]
  have hP : ∀ e ∈ [x.a, x.e, x.lo, x.hi], e.tot ≤ 1048576 := by
    intro e he
    simp at he
    rcases he with rfl | rfl | rfl | rfl <;> omega
  have hcs : ∀ i : Nat, i < 4 → ∃ e : Ex, [x.a, x.e, x.lo, x.hi][i]? = some e ∧ sidxA Tryz.prog 275 (.agg (x.a.cells ++ (x.e.cells ++ (x.lo.cells ++ x.hi.cells)))) (.int .i64 i) = some (.agg e.cells) := by
    intro i hi
    match i, hi with
    | 0, _ => exact ⟨x.a, rfl, by simp⟩
    | 1, _ => exact ⟨x.e, rfl, by simp⟩
    | 2, _ => exact ⟨x.lo, rfl, by simp⟩
    | 3, _ => exact ⟨x.hi, rfl, by simp⟩
  have hL : [x.a, x.e, x.lo, x.hi].length = 4 := rfl
  generalize [x.a, x.e, x.lo, x.hi] = PS at *
  (try refine AWp.seq ?_)
  refine AWp.block (AWp.rounds (fun k st => ∃ (i : Nat) (ys : List ByteArray), k = 4 - i ∧ i ≤ 4 ∧ st.slots 1 = .func (.func 419) [.ptr gk 0, .ptr go 0] ∧ st.slots 14 = .agg (x.a.cells ++ (x.e.cells ++ (x.lo.cells ++ x.hi.cells))) ∧ st.slots 15 = .int .i64 i ∧ Col m0 gk go q ys st.mem ∧
      xs ++ Ex.posts q PS = ys ++ Ex.posts q (PS.drop i)) 4 ⟨0, xs, by simp, by simp, by simp, by simp, by simp, by simpa using hC0, by simp⟩ ?_)
  clear hC hC0 hgg
  rintro R k st hR ⟨i, ys, rfl, hi, s1, s14, s15, hC, hr⟩
  (repeat refine AWp.seq ?_); refine AWp.region noP (by kernel_rfl) ?_
  simp [s15]
  (repeat refine AWp.seq ?_); refine AWp.cond (b := decide ((i : Int) < 4)) (by simp) (fun hb2 => ?_) (fun hb2 => ?_)
  · simp at hb2
    have hi4 : i < 4 := by omega
    obtain ⟨e, he, hx⟩ := hcs i hi4
    have hdr : PS.drop i = e :: PS.drop (i + 1) := by
      obtain ⟨h1, h2⟩ := List.getElem?_eq_some_iff.1 he
      rw [List.drop_eq_getElem_cons h1, h2]
    have hte := hP e (List.mem_of_getElem? he)
    rw [hdr, Ex.posts] at hr
    have hll := congrArg List.length hr
    simp only [List.length_append] at hll hb
    have hw : IntKind.wrap .i64 ((i : Int) + 1) = (i + 1 : Nat) := wrap64 (by omega) (by omega)
    refine AWp.skip ?_
    try simp
    (repeat refine AWp.seq ?_); refine AWp.block ?_; (repeat refine AWp.seq ?_); refine AWp.region noP (by kernel_rfl) ?_
    simp [-sidx_agg, s14, s15, hx]
    intro g hgf
    try simp [set_at, set_set]
    have hC1 := hC.keep hgf (.box e.cells)
    have hm0g : m0 g = none := hC.ext.none hgf
    have hm0k := hC.2.1
    have hgg : (st.mem.set g (.box e.cells)) g = some (.box e.cells) := set_same _ _ _
    generalize st.mem.set g (.box e.cells) = m2 at *
    (repeat refine AWp.seq ?_); refine AWp.region noP (by kernel_rfl) ?_
    simp [s1, hgg]
    refine aop_wcall _ _ _ _ _ _ _ _ rfl (eval_func _ _) ?_
    refine c_eachExp e hte _ _ _ hC1 (by omega) _ fun m3 hC3 => ?_
    try simp
    (repeat refine AWp.seq ?_); refine AWp.region noP (by kernel_rfl) ?_
    simp [s15, hw]
    refine hR _ (4 - (i + 1)) (by omega) ⟨i + 1, _, rfl, by omega, by simp [s1], by simp [s14], by simp, by simpa using hC3.less hm0g hm0k, ?_⟩
    rw [hr]; simp
  · simp at hb2
    refine AWp.exit ?_
    have : i = 4 := by omega
    subst this
    rw [List.drop_eq_nil_of_le (by omega), Ex.posts, List.append_nil] at hr
    try simp
    exact post_nrm0 rfl (hK _ (by rw [hr]; exact hC))
theorem c_namesAsked1 {gk go : Nat} {q : Int} : Step 417 gk go q (fun x => Ex.posts q [x.a, x.e, x.lo, x.hi]) := by
  intro x ht m0 m xs hC hb K hK
  refine wcall_of Tryz.func417 (by kernel_rfl) rfl (by simp [Tryz.f417]) ?_
  unfold Sm.av
  (repeat refine AWp.seq ?_); refine AWp.region noP (by kernel_rfl) ?_
  try simp
  intro g hg
  have hC0 := hC.fresh hg (.box x.cells)
  have hgg : (m.set g (.box x.cells)) g = some (.box x.cells) := set_same _ _ _
  generalize m.set g (.box x.cells) = m1 at *
  (repeat refine AWp.seq ?_); refine AWp.region noP (by kernel_rfl) ?_
  simp [hgg]
  refine aop_wcall _ _ _ _ _ _ _ _ rfl (eval_func _ _) ?_
  refine c_eachPart x ht _ _ _ hC0 hb _ fun m' hC' => ?_
  exact post_nrm0 rfl (hK _ hC')
theorem c_namesOf1s {gk go : Nat} {q : Int} : Step 242 gk go q (fun x => one (x.k = q) x.s) := by
  intro x ht m0 m xs hC hb K hK
  exact c_namesOf1 x hC (by have := hb; omega) hK
mutual
theorem walk_names (q : Int) : ∀ e : Sm, e.walk (fun x => one (x.k = q) x.s) = e.names q
  | .mk k s a e lo hi b => by rw [Sm.walk, Sm.names, walk_namesL q b]; rfl
theorem walk_namesL (q : Int) : ∀ l : List Sm, Sm.walkL (fun x => one (x.k = q) x.s) l = Sm.namesL q l
  | [] => rfl
  | x :: l => by rw [Sm.walkL, Sm.namesL, walk_names q x, walk_namesL q l]
end
mutual
theorem walk_exps (q : Int) : ∀ e : Sm, e.walk (fun x => Ex.posts q [x.a, x.e, x.lo, x.hi]) = e.exps (Ex.post q)
  | .mk k s a e lo hi b => by rw [Sm.walk, Sm.exps, walk_expsL q b]; simp [Ex.posts, Sm.a, Sm.e, Sm.lo, Sm.hi]
theorem walk_expsL (q : Int) : ∀ l : List Sm, Sm.walkL (fun x => Ex.posts q [x.a, x.e, x.lo, x.hi]) l = Sm.expsL (Ex.post q) l
  | [] => rfl
  | x :: l => by rw [Sm.walkL, Sm.expsL, walk_exps q x, walk_expsL q l]
end
theorem c_namesOf (l : List Sm) (q : Int) (ht : totL Sm.tot l ≤ 1048576) : PCall Tryz.prog 136 [.lst false 19 (l.map Sm.av), .int .i64 q] (strs (nameSet (Sm.namesL q l))) := by
  have hb : (Sm.namesL q l).length ≤ 8388600 := by have := Sm.namesL_len q l; have := Sm.tots_eq l; omega
  refine pcall_of Tryz.func136 (by kernel_rfl) rfl (by simp [Tryz.f136]) ?_
  (repeat refine AWp.seq ?_); refine AWp.region noP (by kernel_rfl) ?_
  try simp
  intro gk
  (repeat refine AWp.seq ?_); refine AWp.region noP (by kernel_rfl) ?_
  try simp
  intro go hgo
  have hne : go ≠ gk := by rintro rfl; simp [set_at] at hgo
  have hC : Col (Mem.set (fun _ => none) gk (.box [.int .i64 q])) gk go q [] ((Mem.set (fun _ => none) gk (.box [.int .i64 q])).set go (.box [.lst true 0 []])) :=
    ⟨by simp [set_at, hne], by simp [set_at], .lst true 0 [], by simp [set_at], (Ext.refl _).set (by simp [set_at, hne]) _, .inl ⟨rfl, 0, rfl⟩⟩
  generalize (Mem.set (fun _ => none) gk (.box [.int .i64 q])).set go (.box [.lst true 0 []]) = m1 at *
  generalize (Mem.set (fun _ => none) gk (.box [.int .i64 q])) = m0 at *
  (repeat refine AWp.seq ?_); refine AWp.region noP (by kernel_rfl) ?_
  try simp
  refine aop_wcall _ _ _ _ _ _ _ _ rfl (eval_func _ _) ?_
  refine c_eachStmt c_namesOf1s l ht m0 _ [] (by simpa using hC) (by rw [walk_namesL]; simp; omega) _ fun m' hC' => ?_
  rw [walk_namesL, List.nil_append] at hC'
  obtain ⟨h1, h2, v, h3, h4⟩ := hC'
  try simp
  (repeat refine AWp.seq ?_); refine AWp.region noP (by kernel_rfl) ?_
  simp [h3]
  refine aop_wcall _ _ _ _ _ _ _ _ rfl (eval_func _ _) ?_
  refine c_ordered (m0 := m0) (xs := Sm.namesL q l) (by simpa using h4) (by omega) ?_
  try simp
  exact AWp.ret (post_ret1 rfl (by simp))
theorem c_namesAsked (l : List Sm) (q : Int) (ht : totL Sm.tot l ≤ 1048576) : PCall Tryz.prog 314 [.lst false 19 (l.map Sm.av), .int .i64 q] (strs (nameSet (Sm.expsL (Ex.post q) l))) := by
  have hb : (Sm.expsL (Ex.post q) l).length ≤ 8388600 := by have := Sm.expsL_len (f := Ex.post q) (fun e => Ex.post_len q e) l; have := Sm.tots_eq l; omega
  refine pcall_of Tryz.func314 (by kernel_rfl) rfl (by simp [Tryz.f314]) ?_
  (repeat refine AWp.seq ?_); refine AWp.region noP (by kernel_rfl) ?_
  try simp
  intro gk
  (repeat refine AWp.seq ?_); refine AWp.region noP (by kernel_rfl) ?_
  try simp
  intro go hgo
  have hne : go ≠ gk := by rintro rfl; simp [set_at] at hgo
  have hC : Col (Mem.set (fun _ => none) gk (.box [.int .i64 q])) gk go q [] ((Mem.set (fun _ => none) gk (.box [.int .i64 q])).set go (.box [.lst true 0 []])) :=
    ⟨by simp [set_at, hne], by simp [set_at], .lst true 0 [], by simp [set_at], (Ext.refl _).set (by simp [set_at, hne]) _, .inl ⟨rfl, 0, rfl⟩⟩
  generalize (Mem.set (fun _ => none) gk (.box [.int .i64 q])).set go (.box [.lst true 0 []]) = m1 at *
  generalize (Mem.set (fun _ => none) gk (.box [.int .i64 q])) = m0 at *
  (repeat refine AWp.seq ?_); refine AWp.region noP (by kernel_rfl) ?_
  try simp
  refine aop_wcall _ _ _ _ _ _ _ _ rfl (eval_func _ _) ?_
  refine c_eachStmt c_namesAsked1 l ht m0 _ [] (by simpa using hC) (by rw [walk_expsL]; simp; omega) _ fun m' hC' => ?_
  rw [walk_expsL, List.nil_append] at hC'
  obtain ⟨h1, h2, v, h3, h4⟩ := hC'
  try simp
  (repeat refine AWp.seq ?_); refine AWp.region noP (by kernel_rfl) ?_
  simp [h3]
  refine aop_wcall _ _ _ _ _ _ _ _ rfl (eval_func _ _) ?_
  refine c_ordered (m0 := m0) (xs := Sm.expsL (Ex.post q) l) (by simpa using h4) (by omega) ?_
  try simp
  exact AWp.ret (post_ret1 rfl (by simp))
theorem c_impl_VarsOf (l : List Sm) (ht : totL Sm.tot l ≤ 1048576) : PCall Tryz.prog 52 [.lst false 19 (l.map Sm.av)] (strs (nameSet (Sm.namesL 1 l))) := by
  have c1 := c_namesOf l 1 ht
  refine pcall_of Tryz.func52 (by kernel_rfl) rfl (by simp [Tryz.f52]) ?_
  (repeat refine AWp.seq ?_); refine AWp.region noP (by kernel_rfl) ?_
  try simp
  (repeat refine AWp.seq ?_); refine AWp.region allP (by kernel_rfl) ?_
  try simp
  refine aop_call' c1 ?_
  try simp
  exact AWp.ret (post_ret1 rfl (by simp))
theorem c_impl_LoopVars (l : List Sm) (ht : totL Sm.tot l ≤ 1048576) : PCall Tryz.prog 311 [.lst false 19 (l.map Sm.av)] (strs (nameSet (Sm.namesL 3 l))) := by
  have c1 := c_namesOf l 3 ht
  refine pcall_of Tryz.func311 (by kernel_rfl) rfl (by simp [Tryz.f311]) ?_
  (repeat refine AWp.seq ?_); refine AWp.region noP (by kernel_rfl) ?_
  try simp
  (repeat refine AWp.seq ?_); refine AWp.region allP (by kernel_rfl) ?_
  try simp
  refine aop_call' c1 ?_
  try simp
  exact AWp.ret (post_ret1 rfl (by simp))
theorem c_impl_Asked (l : List Sm) (ht : totL Sm.tot l ≤ 1048576) : PCall Tryz.prog 316 [.lst false 19 (l.map Sm.av)] (strs (nameSet (Sm.expsL (Ex.pre 2) l))) := by
  have c1 := c_namesAsked l 2 ht
  refine pcall_of Tryz.func316 (by kernel_rfl) rfl (by simp [Tryz.f316]) ?_
  (repeat refine AWp.seq ?_); refine AWp.region noP (by kernel_rfl) ?_
  try simp
  (repeat refine AWp.seq ?_); refine AWp.region allP (by kernel_rfl) ?_
  try simp
  refine aop_call' c1 ?_
  try simp
  exact AWp.ret (post_ret1 rfl (by simp [asked_same]))
end Go.T
