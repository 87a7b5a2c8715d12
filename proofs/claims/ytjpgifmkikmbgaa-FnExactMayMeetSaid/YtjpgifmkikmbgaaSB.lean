/- Boxes that are right; where sums are from and to: what the program and the reference compute. Where sums are from and to: what the program and the reference compute. The greatest that divides both; terms joined: what the program and the reference compute. -/
import Derived.Test.YtjpgifmkikmbgaaSA
import Derived.Test.YtjpgifmkikmbgaaB1
import Derived.Shelf.Lay
import Derived.Ground.NamesProg
import Derived.Shelf.Spec.SlicesGrow
namespace Go.T
open Go Go.Proofs
set_option maxRecDepth 10000
set_option linter.unusedSimpArgs false
set_option linter.unusedVariables false
theorem c_spec_BoxOk (l : List Rg) (hz : szR l) : PCall Try.prog 122 [rgs l] (.bool (boxOk l)) := by
  obtain ⟨hl, hsz⟩ := hz
  refine pcall_of Try.func122 (by kernel_rfl) rfl (by simp [Try.f122]) ?_
  unfold rgs
  (repeat refine AWp.seq ?_); refine AWp.region noP (by kernel_rfl) ?_
  try simp
  (repeat refine AWp.seq ?_); refine AWp.region noP (by kernel_rfl) ?_
  try simp
  (repeat refine AWp.seq ?_); refine AWp.block (AWp.rounds (fun m st => ∃ (i : Nat), m = l.length - i ∧ i ≤ l.length ∧ boxRows l i = true ∧ st.slots 0 = .lst false 3 (l.map Rg.av) ∧ st.slots 3 = .int .i64 i) l.length ⟨0, by simp, by simp, by simp [boxRows], by simp, by simp⟩ ?_)
  rintro R m st hR ⟨i, rfl, hi, hrow, s0, s3⟩
  (repeat refine AWp.seq ?_); refine AWp.region noP (by kernel_rfl) ?_
  try simp [s0, s3]
  (repeat refine AWp.seq ?_); refine AWp.cond (b := decide (i < l.length)) (by simp) (fun hb => ?_) (fun hb => ?_)
  · simp at hb
    have hq : l[i]? = some l[i] := List.getElem?_eq_getElem hb
    have hw : IntKind.wrap .i64 ((i : Int) + 1) = (i + 1 : Nat) := wrap64 (by omega) (by omega)
    have hsi := hsz _ (List.getElem_mem hb)
    have hx : ∀ m, idxA Try.prog m 45 (.lst false 3 (l.map Rg.av)) (.int .i64 i) = some (.ref [.str l[i].s, .int .i64 l[i].lo, .int .i64 l[i].hi]) := fun m => idx (y := l[i].av) es_45 (by simp [hq])
    refine AWp.skip ?_
    try simp
    (repeat refine AWp.seq ?_); refine AWp.block ?_; (repeat refine AWp.seq ?_)
    refine AWp.cutA (fun u => u.slots 45 = .bool (!(boxRow l i)) ∧ u.slots 0 = .lst false 3 (l.map Rg.av) ∧ u.slots 3 = .int .i64 i) ?_ ?_
    · refine AWp.region allP (by kernel_rfl) ?_
      unfold boxRow
      rw [hq]
      simp only
      cases x1 : nameOk l[i].s <;> cases x2 : inR l[i].lo (-10000) 10000 <;> cases x3 : inR l[i].hi (-10000) 10000 <;> by_cases x4 : rgAt l l[i].s = (i : Int) <;>
        (repeat (first | refine aop_call' (c_spec_NameOk _ (by omega)) ?_ | refine aop_call' (c_l1In _ _ _) ?_ | refine aop_call' (c_l9At l _ hl) ?_ | simp [hx, s0, s3, x1, x2, x3, x4]))
    rintro u ⟨uc, u0, u3⟩
    cases hz : boxRow l i
    · rw [hz] at uc
      (repeat refine AWp.seq ?_); refine AWp.condT (by simp [uc]) ?_
      (repeat refine AWp.seq ?_); refine AWp.region noP (by kernel_rfl) ?_
      try simp
      exact AWp.ret (post_ret1 rfl (by simp [boxOk, boxRows_bad hz hb]))
    · rw [hz] at uc
      (repeat refine AWp.seq ?_); refine AWp.condF (by simp [uc]) ?_
      refine AWp.skip ?_
      try simp
      (repeat refine AWp.seq ?_); refine AWp.region noP (by kernel_rfl) ?_
      simp [u3, hw]
      exact hR _ (l.length - (i + 1)) (by omega) ⟨i + 1, rfl, hb, by rw [boxRows_succ, hrow, hz]; rfl, by simp [u0], by simp⟩
  · simp at hb
    have : i = l.length := by omega
    subst this
    have hok : boxOk l = decide (l.length ≤ 8) := by unfold boxOk; rw [hrow]; rfl
    rw [hok]
    refine AWp.exit ?_
    try simp
    (repeat refine AWp.seq ?_); refine AWp.region noP (by kernel_rfl) ?_
    simp [s0]
    refine AWp.ret (post_ret1 rfl ?_)
    try simp
    try omega
theorem c_impl_BoxOk (l : List Rg) (hz : szR l) : PCall Try.prog 109 [rgs l] (.bool (boxOk l)) := by
  obtain ⟨hl, hsz⟩ := hz
  refine pcall_of Try.func109 (by kernel_rfl) rfl (by simp [Try.f109]) ?_
  unfold rgs
  (repeat refine AWp.seq ?_); refine AWp.region noP (by kernel_rfl) ?_
  try simp
  (repeat refine AWp.seq ?_); refine AWp.region noP (by kernel_rfl) ?_
  try simp
  (repeat refine AWp.seq ?_); refine AWp.block (AWp.rounds (fun m st => ∃ (i : Nat), m = l.length - i ∧ i ≤ l.length ∧ boxRows l i = true ∧ st.slots 0 = .lst false 3 (l.map Rg.av) ∧ st.slots 5 = .lst false 3 (l.map Rg.av) ∧ st.slots 6 = .int .i64 l.length ∧ st.slots 7 = .int .i64 i) l.length ⟨0, by simp, by simp, by simp [boxRows], by simp, by simp, by simp, by simp⟩ ?_)
  rintro R m st hR ⟨i, rfl, hi, hrow, s0, s5, s6, s7⟩
  (repeat refine AWp.seq ?_); refine AWp.region noP (by kernel_rfl) ?_
  try simp [s0, s5, s6, s7]
  (repeat refine AWp.seq ?_); refine AWp.cond (b := decide (i < l.length)) (by simp) (fun hb => ?_) (fun hb => ?_)
  · simp at hb
    have hq : l[i]? = some l[i] := List.getElem?_eq_getElem hb
    have hw : IntKind.wrap .i64 ((i : Int) + 1) = (i + 1 : Nat) := wrap64 (by omega) (by omega)
    have hsi := hsz _ (List.getElem_mem hb)
    have hx : ∀ m, idxA Try.prog m 45 (.lst false 3 (l.map Rg.av)) (.int .i64 i) = some (.ref [.str l[i].s, .int .i64 l[i].lo, .int .i64 l[i].hi]) := fun m => idx (y := l[i].av) es_45 (by simp [hq])
    refine AWp.skip ?_
    try simp
    (repeat refine AWp.seq ?_); refine AWp.block ?_; (repeat refine AWp.seq ?_)
    refine AWp.region noP (by kernel_rfl) ?_
    simp [hx, s0, s5, s6, s7]
    intro g2 hg2
    have hgg := set_same st.mem g2 (.box [.str l[i].s, .int .i64 l[i].lo, .int .i64 l[i].hi])
    try simp [set_set]
    generalize st.mem.set g2 (.box [.str l[i].s, .int .i64 l[i].lo, .int .i64 l[i].hi]) = m1 at *
    (repeat refine AWp.seq ?_)
    refine AWp.cutA (fun u => u.slots 35 = .bool (!(boxRow l i)) ∧ u.slots 0 = .lst false 3 (l.map Rg.av) ∧ u.slots 5 = .lst false 3 (l.map Rg.av) ∧ u.slots 6 = .int .i64 l.length ∧ u.slots 7 = .int .i64 i) ?_ ?_
    · refine AWp.region allP (by kernel_rfl) ?_
      unfold boxRow
      rw [hq]
      simp only
      cases x1 : nameOk l[i].s <;> cases x2 : inR l[i].lo (-10000) 10000 <;> cases x3 : inR l[i].hi (-10000) 10000 <;> by_cases x4 : rgAt l l[i].s = (i : Int) <;>
        (repeat (first | refine aop_call' (c_impl_NameOk _ (by omega)) ?_ | refine aop_call' (c_inRange _ _ _) ?_ | refine aop_call' (c_rngAt l _ hl) ?_ | simp [hx, s0, s5, s6, s7, hgg, x1, x2, x3, x4]))
    rintro u ⟨uc, u0, u5, u6, u7⟩
    cases hz : boxRow l i
    · rw [hz] at uc
      (repeat refine AWp.seq ?_); refine AWp.condT (by simp [uc]) ?_
      (repeat refine AWp.seq ?_); refine AWp.region noP (by kernel_rfl) ?_
      try simp
      exact AWp.ret (post_ret1 rfl (by simp [boxOk, boxRows_bad hz hb]))
    · rw [hz] at uc
      (repeat refine AWp.seq ?_); refine AWp.condF (by simp [uc]) ?_
      refine AWp.skip ?_
      try simp
      (repeat refine AWp.seq ?_); refine AWp.region noP (by kernel_rfl) ?_
      simp [u7, hw]
      exact hR _ (l.length - (i + 1)) (by omega) ⟨i + 1, rfl, hb, by rw [boxRows_succ, hrow, hz]; rfl, by simp [u0], by simp [u5], by simp [u6], by simp⟩
  · simp at hb
    have : i = l.length := by omega
    subst this
    have hok : boxOk l = decide (l.length ≤ 8) := by unfold boxOk; rw [hrow]; rfl
    rw [hok]
    refine AWp.exit ?_
    try simp
    (repeat refine AWp.seq ?_); refine AWp.region noP (by kernel_rfl) ?_
    simp [s0]
    refine AWp.ret (post_ret1 rfl ?_)
    try simp
    try omega
theorem upOk_bad {l : List Rg} {i : Nat} (hb : i < l.length) (h : ¬ l[i].lo ≤ l[i].hi) : upOk l = false := by
  unfold upOk
  rw [List.all_eq_false]
  exact ⟨l[i], List.getElem_mem hb, by simpa using h⟩
theorem upOk_take {l : List Rg} {i : Nat} (hb : i < l.length) (h : l[i].lo ≤ l[i].hi) (hi : upOk (l.take i) = true) : upOk (l.take (i + 1)) = true := by
  unfold upOk at hi ⊢
  rw [List.take_add_one, List.getElem?_eq_getElem hb, List.all_append, hi]
  simp [h]
theorem c_l9Full (l : List Rg) (hz : szR l) : PCall Try.prog 103 [rgs l] (.bool (full l)) := by
  obtain ⟨hl, hsz⟩ := id hz
  refine pcall_of Try.func103 (by kernel_rfl) rfl (by simp [Try.f103]) ?_
  unfold rgs
  (repeat refine AWp.seq ?_); refine AWp.region noP (by kernel_rfl) ?_
  try simp
  (repeat refine AWp.seq ?_); refine AWp.region noP (by kernel_rfl) ?_
  try simp
  (repeat refine AWp.seq ?_); refine AWp.block (AWp.rounds (fun m st => ∃ (i : Nat), m = l.length - i ∧ i ≤ l.length ∧ upOk (l.take i) = true ∧ st.slots 0 = .lst false 3 (l.map Rg.av) ∧ st.slots 3 = .int .i64 i) l.length ⟨0, by simp, by simp, by simp [upOk], by simp, by simp⟩ ?_)
  rintro R m st hR ⟨i, rfl, hi, hrow, s0, s3⟩
  (repeat refine AWp.seq ?_); refine AWp.region noP (by kernel_rfl) ?_
  try simp [s0, s3]
  (repeat refine AWp.seq ?_); refine AWp.cond (b := decide (i < l.length)) (by simp) (fun hb => ?_) (fun hb => ?_)
  · simp at hb
    have hq : l[i]? = some l[i] := List.getElem?_eq_getElem hb
    have hw : IntKind.wrap .i64 ((i : Int) + 1) = (i + 1 : Nat) := wrap64 (by omega) (by omega)
    have hx : ∀ m, idxA Try.prog m 45 (.lst false 3 (l.map Rg.av)) (.int .i64 i) = some (.ref [.str l[i].s, .int .i64 l[i].lo, .int .i64 l[i].hi]) := fun m => idx (y := l[i].av) es_45 (by simp [hq])
    refine AWp.skip ?_
    try simp
    (repeat refine AWp.seq ?_); refine AWp.block ?_; (repeat refine AWp.seq ?_)
    (repeat refine AWp.seq ?_); refine AWp.region allP (by kernel_rfl) ?_
    simp [hx, s0, s3]
    by_cases hle : l[i].lo ≤ l[i].hi
    · (repeat refine AWp.seq ?_); refine AWp.condF (by simp; omega) ?_
      refine AWp.skip ?_
      try simp
      (repeat refine AWp.seq ?_); refine AWp.region noP (by kernel_rfl) ?_
      simp [s3, hw]
      exact hR _ (l.length - (i + 1)) (by omega) ⟨i + 1, rfl, hb, upOk_take hb hle hrow, by simp [s0], by simp⟩
    · (repeat refine AWp.seq ?_); refine AWp.condT (by simp; omega) ?_
      (repeat refine AWp.seq ?_); refine AWp.region noP (by kernel_rfl) ?_
      try simp
      exact AWp.ret (post_ret1 rfl (by simp [full, upOk_bad hb hle]))
  · simp at hb
    have : i = l.length := by omega
    subst this
    rw [List.take_length] at hrow
    have hok : full l = boxOk l := by unfold full; rw [hrow]; rfl
    rw [hok]
    refine AWp.exit ?_
    try simp
    (repeat refine AWp.seq ?_); refine AWp.region allP (by kernel_rfl) ?_
    simp [s0]
    refine aop_call' (c_spec_BoxOk l hz) ?_
    try simp
    exact AWp.ret (post_ret1 rfl (by simp))
theorem c_isRight (l : List Rg) (hz : szR l) : PCall Try.prog 83 [rgs l] (.bool (full l)) := by
  obtain ⟨hl, hsz⟩ := id hz
  refine pcall_of Try.func83 (by kernel_rfl) rfl (by simp [Try.f83]) ?_
  unfold rgs
  (repeat refine AWp.seq ?_); refine AWp.region noP (by kernel_rfl) ?_
  try simp
  (repeat refine AWp.seq ?_); refine AWp.region noP (by kernel_rfl) ?_
  try simp
  (repeat refine AWp.seq ?_); refine AWp.block (AWp.rounds (fun m st => ∃ (i : Nat), m = l.length - i ∧ i ≤ l.length ∧ upOk (l.take i) = true ∧ st.slots 0 = .lst false 3 (l.map Rg.av) ∧ st.slots 5 = .lst false 3 (l.map Rg.av) ∧ st.slots 6 = .int .i64 l.length ∧ st.slots 7 = .int .i64 i) l.length ⟨0, by simp, by simp, by simp [upOk], by simp, by simp, by simp, by simp⟩ ?_)
  rintro R m st hR ⟨i, rfl, hi, hrow, s0, s5, s6, s7⟩
  (repeat refine AWp.seq ?_); refine AWp.region noP (by kernel_rfl) ?_
  try simp [s0, s5, s6, s7]
  (repeat refine AWp.seq ?_); refine AWp.cond (b := decide (i < l.length)) (by simp) (fun hb => ?_) (fun hb => ?_)
  · simp at hb
    have hq : l[i]? = some l[i] := List.getElem?_eq_getElem hb
    have hw : IntKind.wrap .i64 ((i : Int) + 1) = (i + 1 : Nat) := wrap64 (by omega) (by omega)
    have hx : ∀ m, idxA Try.prog m 45 (.lst false 3 (l.map Rg.av)) (.int .i64 i) = some (.ref [.str l[i].s, .int .i64 l[i].lo, .int .i64 l[i].hi]) := fun m => idx (y := l[i].av) es_45 (by simp [hq])
    refine AWp.skip ?_
    try simp
    (repeat refine AWp.seq ?_); refine AWp.block ?_; (repeat refine AWp.seq ?_)
    refine AWp.region noP (by kernel_rfl) ?_
    simp [hx, s0, s5, s6, s7]
    intro g2 hg2
    have hgg := set_same st.mem g2 (.box [.str l[i].s, .int .i64 l[i].lo, .int .i64 l[i].hi])
    try simp [set_set]
    generalize st.mem.set g2 (.box [.str l[i].s, .int .i64 l[i].lo, .int .i64 l[i].hi]) = m1 at *
    (repeat refine AWp.seq ?_)
    (repeat refine AWp.seq ?_); refine AWp.region noP (by kernel_rfl) ?_
    simp [hx, s0, s5, s6, s7, hgg]
    by_cases hle : l[i].lo ≤ l[i].hi
    · (repeat refine AWp.seq ?_); refine AWp.condF (by simp; omega) ?_
      refine AWp.skip ?_
      try simp
      (repeat refine AWp.seq ?_); refine AWp.region noP (by kernel_rfl) ?_
      simp [s7, hw]
      exact hR _ (l.length - (i + 1)) (by omega) ⟨i + 1, rfl, hb, upOk_take hb hle hrow, by simp [s0], by simp [s5], by simp [s6], by simp⟩
    · (repeat refine AWp.seq ?_); refine AWp.condT (by simp; omega) ?_
      (repeat refine AWp.seq ?_); refine AWp.region noP (by kernel_rfl) ?_
      try simp
      exact AWp.ret (post_ret1 rfl (by simp [full, upOk_bad hb hle]))
  · simp at hb
    have : i = l.length := by omega
    subst this
    rw [List.take_length] at hrow
    have hok : full l = boxOk l := by unfold full; rw [hrow]; rfl
    rw [hok]
    refine AWp.exit ?_
    try simp
    (repeat refine AWp.seq ?_); refine AWp.region allP (by kernel_rfl) ?_
    simp [s0]
    refine aop_call' (c_impl_BoxOk l hz) ?_
    try simp
    exact AWp.ret (post_ret1 rfl (by simp))
end Go.T
namespace Go.T
open Go Go.Proofs
set_option maxRecDepth 10000
set_option linter.unusedSimpArgs false
set_option linter.unusedVariables false
theorem post_ret3 {P : Program} {fn : Func} {t u v : Tmp} {a b c : AV} {s : St} (hr : fn.results = #[.tmp t, .tmp u, .tmp v]) (h : s.slots t = a ∧ s.slots u = b ∧ s.slots v = c) : Post P fn (fun r' _ => r' = .tup [a, b, c]) .ret s := by
  obtain ⟨rfl, rfl, rfl⟩ := h
  exact ⟨_, _, _, by rw [hr]; rfl, View.refl _ _, rfl⟩
def addS (X Y : Int) : Option (Int × Int) → Option (Int × Int)
  | some p => some (X + p.1, Y + p.2)
  | none => none
theorem addS_none {l : List Rg} {T : List Tm} {i : Nat} (hb : i < T.length) (h : rgOf l T[i].s = none) (X Y : Int) : addS X Y (spanL l (T.drop i)) = none := by
  rw [List.drop_eq_getElem_cons hb, spanL, h]; rfl
theorem addS_some {l : List Rg} {T : List Tm} {i : Nat} (hb : i < T.length) {r : Rg} (h : rgOf l T[i].s = some r) (X Y : Int) :
    addS X Y (spanL l (T.drop i)) = addS (X + min (T[i].n * r.lo) (T[i].n * r.hi)) (Y + max (T[i].n * r.lo) (T[i].n * r.hi)) (spanL l (T.drop (i + 1))) := by
  rw [List.drop_eq_getElem_cons hb, spanL, h]
  cases hs : spanL l (T.drop (i + 1)) with
  | none => rfl
  | some p => obtain ⟨x, y⟩ := p; simp only [addS]; congr 2 <;> omega
theorem Af.ends_bad1 {a : Af} {l : List Rg} (h : a.ok = false) : a.ends l = (0, 0, false) := by unfold Af.ends; rw [if_neg (by simp [h])]
theorem Af.ends_bad2 {a : Af} {l : List Rg} (h : full l = false) : a.ends l = (0, 0, false) := by unfold Af.ends; rw [if_neg (by simp [h])]
theorem Af.ends_none {a : Af} {l : List Rg} (h1 : a.ok = true) (h2 : full l = true) (h : spanL l a.t = none) : a.ends l = (0, 0, false) := by unfold Af.ends; rw [if_pos ⟨h1, h2⟩, h]
theorem Af.ends_some {a : Af} {l : List Rg} (h1 : a.ok = true) (h2 : full l = true) {x y : Int} (h : spanL l a.t = some (x, y)) : a.ends l = (a.c + x, a.c + y, true) := by unfold Af.ends; rw [if_pos ⟨h1, h2⟩, h]
theorem rgOf_neg {l : List Rg} {s : ByteArray} (h : rgAt l s < 0) : rgOf l s = none := by unfold rgOf; rw [if_pos h]
theorem min_if (x y : Int) : (if y < x then y else x) = min x y := by omega
theorem max_if (x y : Int) : (if x < y then y else x) = max x y := by omega
theorem c_extremes (a : Af) (ht : a.tot ≤ 1048576) (l : List Rg) (hz : szR l) : PCall Try.prog 53 [a.av, rgs l] (.tup [.int .i64 (a.ends l).1, .int .i64 (a.ends l).2.1, .bool (a.ends l).2.2]) := by
  obtain ⟨hl, hsz⟩ := Af.szs ht
  have c1 := c_impl_AffOk a ht
  have c2 := c_isRight l hz
  refine pcall_of Try.func53 (by kernel_rfl) rfl (by simp [Try.f53]) ?_
  unfold Af.av at c1 ⊢
  have hc : a.cells = [.int .i64 a.c, .lst false 2 (a.t.map Tm.av)] := rfl
  rw [hc] at c1 ⊢
  unfold rgs at c2 ⊢
  cases x1 : a.ok
  · rw [x1] at c1
    rw [Af.ends_bad1 x1]
    (repeat refine AWp.seq ?_); refine AWp.region noP (by kernel_rfl) ?_
    simp
    intro g
    repeat' (first
    | refine AWp.seq ?_
    | (refine AWp.region allP (by kernel_rfl) ?_; simp [set_at])
    | (refine AWp.condG ?_; simp [set_at])
    | (refine AWp.skip ?_; try simp)
    | (refine AWp.exit ?_; try simp)
    | refine AWp.block ?_
    | (refine aop_call' (c1) ?_; simp [set_at])
    | (refine AWp.ret (post_ret3 rfl ?_); (simp; done))
    | (refine guardI (fun hq => ?_) (fun hq => ?_) <;> (try simp at hq) <;> (try simp [set_at]))
    | (refine condRunI (fun hq => ?_) (fun hq => ?_) <;> (try simp at hq) <;> (try simp [set_at]))
    | (refine iteI (fun hq => ?_) (fun hq => ?_) <;> (try simp [set_at])))
  cases x2 : full l
  · rw [x1] at c1
    rw [x2] at c2
    rw [Af.ends_bad2 x2]
    (repeat refine AWp.seq ?_); refine AWp.region noP (by kernel_rfl) ?_
    simp
    intro g
    repeat' (first
    | refine AWp.seq ?_
    | (refine AWp.region allP (by kernel_rfl) ?_; simp [set_at])
    | (refine AWp.condG ?_; simp [set_at])
    | (refine AWp.skip ?_; try simp)
    | (refine AWp.exit ?_; try simp)
    | refine AWp.block ?_
    | (refine aop_call' (c1) ?_; simp [set_at])
    | (refine aop_call' (c2) ?_; simp [set_at])
    | (refine AWp.ret (post_ret3 rfl ?_); (simp; done))
    | (refine guardI (fun hq => ?_) (fun hq => ?_) <;> (try simp at hq) <;> (try simp [set_at]))
    | (refine condRunI (fun hq => ?_) (fun hq => ?_) <;> (try simp at hq) <;> (try simp [set_at]))
    | (refine iteI (fun hq => ?_) (fun hq => ?_) <;> (try simp [set_at])))
  rw [x1] at c1
  rw [x2] at c2
  (repeat refine AWp.seq ?_); refine AWp.region noP (by kernel_rfl) ?_
  simp
  intro g
  (repeat refine AWp.seq ?_); refine AWp.region allP (by kernel_rfl) ?_
  simp [set_at]
  refine aop_call' c1 ?_
  simp [set_at]
  refine aop_call' c2 ?_
  simp [set_at]
  (repeat refine AWp.seq ?_); refine AWp.condF (by simp) ?_
  refine AWp.skip ?_
  try simp
  (repeat refine AWp.seq ?_); refine AWp.regionG (fun _ => false) (fun _ => false) [0, 1, 2, 3, 4, 5] [0, 1, 4, 2, 3, 5] (by kernel_rfl) ?_
  simp [set_at]
  (repeat refine AWp.seq ?_); refine AWp.region noP (by kernel_rfl) ?_
  simp [set_at]
  (repeat refine AWp.seq ?_); refine AWp.block (AWp.rounds (fun m st => ∃ (i : Nat) (X Y : Int), m = a.t.length - i ∧ i ≤ a.t.length ∧ spanL l a.t = addS X Y (spanL l (a.t.drop i)) ∧ (-(1000000000 * (i : Int)) ≤ X ∧ X ≤ 1000000000 * (i : Int) ∧ -(1000000000 * (i : Int)) ≤ Y ∧ Y ≤ 1000000000 * (i : Int)) ∧ st.slots 1 = .lst false 3 (l.map Rg.av) ∧ st.slots 27 = .lst false 2 (a.t.map Tm.av) ∧ st.slots 28 = .int .i64 a.t.length ∧ st.slots 7 = .int .i64 (a.c + X) ∧ st.slots 8 = .int .i64 (a.c + Y) ∧ st.slots 29 = .int .i64 i) a.t.length ⟨0, 0, 0, by simp, by simp, ?_, by simp, by simp [set_at], by simp [set_at], by simp [set_at], by simp [set_at], by simp [set_at], by simp [set_at]⟩ ?_)
  · rw [List.drop_zero]
    cases hs : spanL l a.t with
    | none => rfl
    | some p => simp [addS]
  have hac := Af.ok_c x1
  rintro R m st hR ⟨i, X, Y, rfl, hi, hr, hXY, s1, s27, s28, s7, s8, s29⟩
  (repeat refine AWp.seq ?_); refine AWp.region noP (by kernel_rfl) ?_
  try simp [s1, s27, s28, s7, s8, s29]
  (repeat refine AWp.seq ?_); refine AWp.cond (b := decide (i < a.t.length)) (by simp) (fun hb => ?_) (fun hb => ?_)
  · simp at hb
    have hq : a.t[i]? = some a.t[i] := List.getElem?_eq_getElem hb
    have hw : IntKind.wrap .i64 ((i : Int) + 1) = (i + 1 : Nat) := wrap64 (by omega) (by omega)
    have hx : ∀ m, idxA Try.prog m 41 (.lst false 2 (a.t.map Tm.av)) (.int .i64 i) = some (.ref [.str a.t[i].s, .int .i64 a.t[i].n]) := fun m => idx (y := a.t[i].av) es_41 (by simp [hq])
    have hrow := Af.ok_row x1 (List.getElem_mem hb)
    refine AWp.skip ?_
    try simp
    (repeat refine AWp.seq ?_); refine AWp.block ?_
    (repeat refine AWp.seq ?_); refine AWp.region noP (by kernel_rfl) ?_
    simp [hx, s1, s27, s28, s7, s8, s29]
    intro g2 hg2
    have hgg := set_same st.mem g2 (.box [.str a.t[i].s, .int .i64 a.t[i].n])
    try simp [set_set]
    generalize st.mem.set g2 (.box [.str a.t[i].s, .int .i64 a.t[i].n]) = m1 at *
    (repeat refine AWp.seq ?_); refine AWp.region allP (by kernel_rfl) ?_
    simp [hx, s1, s27, s28, s7, s8, s29, hgg]
    refine aop_call' (c_rngAt l _ hz.1) ?_
    try simp
    (repeat refine AWp.seq ?_); refine AWp.region noP (by kernel_rfl) ?_
    try simp
    by_cases hn : rgAt l a.t[i].s < 0
    · have he : spanL l a.t = none := hr.trans (addS_none hb (rgOf_neg hn) X Y)
      rw [Af.ends_none x1 x2 he]
      (repeat refine AWp.seq ?_); refine AWp.condT (by simp [hn]) ?_
      (repeat refine AWp.seq ?_); refine AWp.region noP (by kernel_rfl) ?_
      try simp
      exact AWp.ret (post_ret3 rfl (by simp))
    obtain ⟨k, hk, hka, hkr⟩ := rgAt_get hn
    have hfr := full_row x2 (List.getElem_mem hk)
    have hx3 : ∀ m, idxA Try.prog m 45 (.lst false 3 (l.map Rg.av)) (.int .i64 k) = some (.ref [.str l[k].s, .int .i64 l[k].lo, .int .i64 l[k].hi]) := fun m => idx (y := l[k].av) es_45 (by simp [List.getElem?_eq_getElem hk])
    have b1 := term_small (n := a.t[i].n) (x := l[k].lo) (by omega) (by omega) (by omega) (by omega)
    have b2 := term_small (n := a.t[i].n) (x := l[k].hi) (by omega) (by omega) (by omega) (by omega)
    have hr2 := hr.trans (addS_some hb hkr X Y)
    have hwl : IntKind.wrap .i64 (a.t[i].n * l[k].lo) = a.t[i].n * l[k].lo := wrap64 (by omega) (by omega)
    have hwh : IntKind.wrap .i64 (a.t[i].n * l[k].hi) = a.t[i].n * l[k].hi := wrap64 (by omega) (by omega)
    (repeat refine AWp.seq ?_); refine AWp.condF (by simp [hn]) ?_
    refine AWp.skip ?_
    try simp
    (repeat refine AWp.seq ?_); refine AWp.regionG (fun _ => false) (fun i => i == 6 || i == 14) [0, 1, 2, 3, 4, 5, 6, 7, 8, 9, 10, 11, 12, 13, 14, 15, 16, 17] [0, 1, 2, 3, 4, 5, 6, 7, 16, 8, 9, 10, 11, 12, 13, 14, 15, 17] (by kernel_rfl) ?_
    simp [hx, s1, s27, s28, s7, s8, s29, hgg, hka, hx3, hwl, hwh]
    (repeat refine AWp.seq ?_); refine AWp.region noP (by kernel_rfl) ?_
    have w1 : IntKind.wrap .i64 (a.c + X + min (a.t[i].n * l[k].lo) (a.t[i].n * l[k].hi)) = a.c + (X + min (a.t[i].n * l[k].lo) (a.t[i].n * l[k].hi)) := by rw [wrap64 (by omega) (by omega)]; omega
    have w2 : IntKind.wrap .i64 (a.c + Y + max (a.t[i].n * l[k].lo) (a.t[i].n * l[k].hi)) = a.c + (Y + max (a.t[i].n * l[k].lo) (a.t[i].n * l[k].hi)) := by rw [wrap64 (by omega) (by omega)]; omega
    simp [s7, min_if, max_if, w1]
    (repeat refine AWp.seq ?_); refine AWp.region noP (by kernel_rfl) ?_
    simp [s8, min_if, max_if, w2]
    (repeat refine AWp.seq ?_); refine AWp.region noP (by kernel_rfl) ?_
    simp [s29, hw]
    exact hR _ (a.t.length - (i + 1)) (by omega) ⟨i + 1, _, _, rfl, hb, hr2, by omega, by simp [s1], by simp [s27], by simp [s28], by simp, by simp, by simp⟩
  · simp at hb
    have : i = a.t.length := by omega
    subst this
    rw [List.drop_length, spanL] at hr
    have he : spanL l a.t = some (X, Y) := by rw [hr]; simp [addS]
    rw [Af.ends_some x1 x2 he]
    refine AWp.exit ?_
    try simp
    (repeat refine AWp.seq ?_); refine AWp.region noP (by kernel_rfl) ?_
    simp [s1, s27, s28, s7, s8, s29]
    exact AWp.ret (post_ret3 rfl (by simp))
theorem c_l9End (a : Af) (ht : a.tot ≤ 1048576) (l : List Rg) (hz : szR l) (most : Bool) : PCall Try.prog 76 [a.av, rgs l, .bool most] (.tup [.int .i64 (if most = true then (a.ends l).2.1 else (a.ends l).1), .bool (a.ends l).2.2]) := by
  obtain ⟨hl, hsz⟩ := Af.szs ht
  have c1 := c_spec_AffOk a ht
  have c2 := c_l9Full l hz
  refine pcall_of Try.func76 (by kernel_rfl) rfl (by simp [Try.f76]) ?_
  unfold Af.av at c1 ⊢
  have hc : a.cells = [.int .i64 a.c, .lst false 2 (a.t.map Tm.av)] := rfl
  rw [hc] at c1 ⊢
  unfold rgs at c2 ⊢
  cases x1 : a.ok
  · rw [x1] at c1
    rw [Af.ends_bad1 x1]
    (repeat refine AWp.seq ?_); refine AWp.region noP (by kernel_rfl) ?_
    simp
    intro g
    repeat' (first
    | refine AWp.seq ?_
    | (refine AWp.region allP (by kernel_rfl) ?_; simp [set_at])
    | (refine AWp.condG ?_; simp [set_at])
    | (refine AWp.skip ?_; try simp)
    | (refine AWp.exit ?_; try simp)
    | refine AWp.block ?_
    | (refine aop_call' (c1) ?_; simp [set_at])
    | (refine AWp.ret (post_ret2 rfl ?_ ?_); (all_goals simp; done))
    | (refine guardI (fun hq => ?_) (fun hq => ?_) <;> (try simp at hq) <;> (try simp [set_at]))
    | (refine condRunI (fun hq => ?_) (fun hq => ?_) <;> (try simp at hq) <;> (try simp [set_at]))
    | (refine iteI (fun hq => ?_) (fun hq => ?_) <;> (try simp [set_at])))
  cases x2 : full l
  · rw [x1] at c1
    rw [x2] at c2
    rw [Af.ends_bad2 x2]
    (repeat refine AWp.seq ?_); refine AWp.region noP (by kernel_rfl) ?_
    simp
    intro g
    repeat' (first
    | refine AWp.seq ?_
    | (refine AWp.region allP (by kernel_rfl) ?_; simp [set_at])
    | (refine AWp.condG ?_; simp [set_at])
    | (refine AWp.skip ?_; try simp)
    | (refine AWp.exit ?_; try simp)
    | refine AWp.block ?_
    | (refine aop_call' (c1) ?_; simp [set_at])
    | (refine aop_call' (c2) ?_; simp [set_at])
    | (refine AWp.ret (post_ret2 rfl ?_ ?_); (all_goals simp; done))
    | (refine guardI (fun hq => ?_) (fun hq => ?_) <;> (try simp at hq) <;> (try simp [set_at]))
    | (refine condRunI (fun hq => ?_) (fun hq => ?_) <;> (try simp at hq) <;> (try simp [set_at]))
    | (refine iteI (fun hq => ?_) (fun hq => ?_) <;> (try simp [set_at])))
  rw [x1] at c1
  rw [x2] at c2
  (repeat refine AWp.seq ?_); refine AWp.region noP (by kernel_rfl) ?_
  simp
  intro g
  (repeat refine AWp.seq ?_); refine AWp.region allP (by kernel_rfl) ?_
  simp [set_at]
  refine aop_call' c1 ?_
  simp [set_at]
  refine aop_call' c2 ?_
  simp [set_at]
  (repeat refine AWp.seq ?_); refine AWp.condF (by simp) ?_
  refine AWp.skip ?_
  try simp
  (repeat refine AWp.seq ?_); refine AWp.region noP (by kernel_rfl) ?_
  simp [set_at]
  (repeat refine AWp.seq ?_); refine AWp.region noP (by kernel_rfl) ?_
  simp [set_at]
  (repeat refine AWp.seq ?_); refine AWp.block (AWp.rounds (fun m st => ∃ (i : Nat) (X Y : Int), m = a.t.length - i ∧ i ≤ a.t.length ∧ spanL l a.t = addS X Y (spanL l (a.t.drop i)) ∧ (-(1000000000 * (i : Int)) ≤ X ∧ X ≤ 1000000000 * (i : Int) ∧ -(1000000000 * (i : Int)) ≤ Y ∧ Y ≤ 1000000000 * (i : Int)) ∧ st.slots 1 = .lst false 3 (l.map Rg.av) ∧ st.slots 2 = .bool most ∧ st.slots 3 = .ptr g 0 ∧ st.mem g = some (.box [.int .i64 a.c, .lst false 2 (a.t.map Tm.av)]) ∧ st.slots 8 = .int .i64 (a.c + (if most = true then Y else X)) ∧ st.slots 9 = .int .i64 i) a.t.length ⟨0, 0, 0, by simp, by simp, ?_, by simp, by simp [set_at], by simp [set_at], by simp [set_at], by simp [set_at], by simp [set_at], by simp [set_at]⟩ ?_)
  · rw [List.drop_zero]
    cases hs : spanL l a.t with
    | none => rfl
    | some p => simp [addS]
  have hac := Af.ok_c x1
  rintro R m st hR ⟨i, X, Y, rfl, hi, hr, hXY, s1, s2, s3, sg, s8, s9⟩
  (repeat refine AWp.seq ?_); refine AWp.region noP (by kernel_rfl) ?_
  try simp [s1, s2, s3, sg, s8, s9]
  (repeat refine AWp.seq ?_); refine AWp.cond (b := decide (i < a.t.length)) (by simp) (fun hb => ?_) (fun hb => ?_)
  · simp at hb
    have hq : a.t[i]? = some a.t[i] := List.getElem?_eq_getElem hb
    have hw : IntKind.wrap .i64 ((i : Int) + 1) = (i + 1 : Nat) := wrap64 (by omega) (by omega)
    have hx : ∀ m, idxA Try.prog m 41 (.lst false 2 (a.t.map Tm.av)) (.int .i64 i) = some (.ref [.str a.t[i].s, .int .i64 a.t[i].n]) := fun m => idx (y := a.t[i].av) es_41 (by simp [hq])
    have hrow := Af.ok_row x1 (List.getElem_mem hb)
    refine AWp.skip ?_
    try simp
    (repeat refine AWp.seq ?_); refine AWp.block ?_
    (repeat refine AWp.seq ?_); refine AWp.region allP (by kernel_rfl) ?_
    simp [hx, s1, s2, s3, sg, s8, s9]
    refine aop_call' (c_l9At l _ hz.1) ?_
    try simp
    (repeat refine AWp.seq ?_); refine AWp.region noP (by kernel_rfl) ?_
    try simp
    by_cases hn : rgAt l a.t[i].s < 0
    · have he : spanL l a.t = none := hr.trans (addS_none hb (rgOf_neg hn) X Y)
      rw [Af.ends_none x1 x2 he]
      (repeat refine AWp.seq ?_); refine AWp.condT (by simp [hn]) ?_
      (repeat refine AWp.seq ?_); refine AWp.region noP (by kernel_rfl) ?_
      try simp
      exact AWp.ret (post_ret2 rfl (by simp) (by simp))
    obtain ⟨k, hk, hka, hkr⟩ := rgAt_get hn
    have hfr := full_row x2 (List.getElem_mem hk)
    have hx3 : ∀ m, idxA Try.prog m 45 (.lst false 3 (l.map Rg.av)) (.int .i64 k) = some (.ref [.str l[k].s, .int .i64 l[k].lo, .int .i64 l[k].hi]) := fun m => idx (y := l[k].av) es_45 (by simp [List.getElem?_eq_getElem hk])
    have b1 := term_small (n := a.t[i].n) (x := l[k].lo) (by omega) (by omega) (by omega) (by omega)
    have b2 := term_small (n := a.t[i].n) (x := l[k].hi) (by omega) (by omega) (by omega) (by omega)
    have hr2 := hr.trans (addS_some hb hkr X Y)
    have hwl : IntKind.wrap .i64 (a.t[i].n * l[k].lo) = a.t[i].n * l[k].lo := wrap64 (by omega) (by omega)
    have hwh : IntKind.wrap .i64 (a.t[i].n * l[k].hi) = a.t[i].n * l[k].hi := wrap64 (by omega) (by omega)
    (repeat refine AWp.seq ?_); refine AWp.condF (by simp [hn]) ?_
    refine AWp.skip ?_
    try simp
    (repeat refine AWp.seq ?_); refine AWp.region noP (by kernel_rfl) ?_
    simp [hx, s1, s2, s3, sg, s8, s9, hka, hx3]
    (repeat refine AWp.seq ?_); refine AWp.region noP (by kernel_rfl) ?_
    simp [hx, s1, s2, s3, sg, s8, s9, hka, hx3]
    have mm := mul_min (n := a.t[i].n) hfr.2.1
    have mx := mul_max (n := a.t[i].n) hfr.2.1
    have hfin : ∀ v : Int, v = (if most = true then max (a.t[i].n * l[k].lo) (a.t[i].n * l[k].hi) else min (a.t[i].n * l[k].lo) (a.t[i].n * l[k].hi)) → IntKind.wrap .i64 (a.c + (if most = true then Y else X) + v) = a.c + (if most = true then Y + max (a.t[i].n * l[k].lo) (a.t[i].n * l[k].hi) else X + min (a.t[i].n * l[k].lo) (a.t[i].n * l[k].hi)) := by
      rintro v rfl
      cases most
      · simp only [Bool.false_eq_true, if_false]; rw [wrap64 (by omega) (by omega)]; omega
      · simp only [if_true]; rw [wrap64 (by omega) (by omega)]; omega
    have fin : ∀ (u : St), u.slots 1 = .lst false 3 (l.map Rg.av) → u.slots 2 = .bool most → u.slots 3 = .ptr g 0 → u.mem g = some (.box [.int .i64 a.c, .lst false 2 (a.t.map Tm.av)]) → u.slots 8 = .int .i64 (a.c + (if most = true then Y + max (a.t[i].n * l[k].lo) (a.t[i].n * l[k].hi) else X + min (a.t[i].n * l[k].lo) (a.t[i].n * l[k].hi))) → u.slots 9 = .int .i64 (i + 1 : Nat) → R u := fun u u1 u2 u3 ug u8 u9 =>
      hR u (a.t.length - (i + 1)) (by omega) ⟨i + 1, _, _, rfl, hb, hr2, by omega, u1, u2, u3, ug, u8, u9⟩
    by_cases hp : 0 < a.t[i].n
    · cases most
      · (repeat refine AWp.seq ?_); refine AWp.condF (by simp [hp]) ?_
        refine AWp.skip ?_
        try simp
        (repeat refine AWp.seq ?_); refine AWp.region noP (by kernel_rfl) ?_
        simp [hx, s1, s2, s3, sg, s8, s9, hka, hx3, hwl, hwh]
        (repeat refine AWp.seq ?_); refine AWp.region noP (by kernel_rfl) ?_
        simp [s9, hw]
        have hv := hfin (a.t[i].n * l[k].lo) (by simp; rw [mm, if_pos hp])
        simp at hv
        exact fin _ (by simp [s1]) (by simp [s2]) (by simp [s3]) (by simp [sg]) (by simp [hv]) (by simp)
      · (repeat refine AWp.seq ?_); refine AWp.condT (by simp [hp]) ?_
        (repeat refine AWp.seq ?_); refine AWp.region noP (by kernel_rfl) ?_
        simp [hx, s1, s2, s3, sg, s8, s9, hka, hx3]
        (repeat refine AWp.seq ?_); refine AWp.region noP (by kernel_rfl) ?_
        simp [hx, s1, s2, s3, sg, s8, s9, hka, hx3, hwl, hwh]
        (repeat refine AWp.seq ?_); refine AWp.region noP (by kernel_rfl) ?_
        simp [s9, hw]
        have hv := hfin (a.t[i].n * l[k].hi) (by simp; rw [mx, if_pos hp])
        simp at hv
        exact fin _ (by simp [s1]) (by simp [s2]) (by simp [s3]) (by simp [sg]) (by simp [hv]) (by simp)
    · cases most
      · (repeat refine AWp.seq ?_); refine AWp.condT (by simp [hp]) ?_
        (repeat refine AWp.seq ?_); refine AWp.region noP (by kernel_rfl) ?_
        simp [hx, s1, s2, s3, sg, s8, s9, hka, hx3]
        (repeat refine AWp.seq ?_); refine AWp.region noP (by kernel_rfl) ?_
        simp [hx, s1, s2, s3, sg, s8, s9, hka, hx3, hwl, hwh]
        (repeat refine AWp.seq ?_); refine AWp.region noP (by kernel_rfl) ?_
        simp [s9, hw]
        have hv := hfin (a.t[i].n * l[k].hi) (by simp; rw [mm, if_neg hp])
        simp at hv
        exact fin _ (by simp [s1]) (by simp [s2]) (by simp [s3]) (by simp [sg]) (by simp [hv]) (by simp)
      · (repeat refine AWp.seq ?_); refine AWp.condF (by simp [hp]) ?_
        refine AWp.skip ?_
        try simp
        (repeat refine AWp.seq ?_); refine AWp.region noP (by kernel_rfl) ?_
        simp [hx, s1, s2, s3, sg, s8, s9, hka, hx3, hwl, hwh]
        (repeat refine AWp.seq ?_); refine AWp.region noP (by kernel_rfl) ?_
        simp [s9, hw]
        have hv := hfin (a.t[i].n * l[k].lo) (by simp; rw [mx, if_neg hp])
        simp at hv
        exact fin _ (by simp [s1]) (by simp [s2]) (by simp [s3]) (by simp [sg]) (by simp [hv]) (by simp)
  · simp at hb
    have : i = a.t.length := by omega
    subst this
    rw [List.drop_length, spanL] at hr
    have he : spanL l a.t = some (X, Y) := by rw [hr]; simp [addS]
    rw [Af.ends_some x1 x2 he]
    refine AWp.exit ?_
    try simp
    (repeat refine AWp.seq ?_); refine AWp.region noP (by kernel_rfl) ?_
    simp [s1, s2, s3, sg, s8, s9]
    exact AWp.ret (post_ret2 rfl (by cases most <;> simp) (by simp))
theorem c_Least (a : Af) (ht : a.tot ≤ 1048576) (l : List Rg) (hz : szR l) : PCall Try.prog 45 [a.av, rgs l] (.tup [.int .i64 (a.ends l).1, .bool (a.ends l).2.2]) := by
  have c1 := c_l9End a ht l hz false
  refine pcall_of Try.func45 (by kernel_rfl) rfl (by simp [Try.f45]) ?_
  unfold Af.av at c1 ⊢
  have hc : a.cells = [.int .i64 a.c, .lst false 2 (a.t.map Tm.av)] := rfl
  rw [hc] at c1 ⊢
  (repeat refine AWp.seq ?_); refine AWp.region noP (by kernel_rfl) ?_
  simp
  intro g
  (repeat refine AWp.seq ?_); refine AWp.region allP (by kernel_rfl) ?_
  simp [set_at]
  refine aop_call' c1 ?_
  simp
  exact AWp.ret (post_ret2 rfl (by simp) (by simp))
theorem c_Most (a : Af) (ht : a.tot ≤ 1048576) (l : List Rg) (hz : szR l) : PCall Try.prog 46 [a.av, rgs l] (.tup [.int .i64 (a.ends l).2.1, .bool (a.ends l).2.2]) := by
  have c1 := c_l9End a ht l hz true
  refine pcall_of Try.func46 (by kernel_rfl) rfl (by simp [Try.f46]) ?_
  unfold Af.av at c1 ⊢
  have hc : a.cells = [.int .i64 a.c, .lst false 2 (a.t.map Tm.av)] := rfl
  rw [hc] at c1 ⊢
  (repeat refine AWp.seq ?_); refine AWp.region noP (by kernel_rfl) ?_
  simp
  intro g
  (repeat refine AWp.seq ?_); refine AWp.region allP (by kernel_rfl) ?_
  simp [set_at]
  refine aop_call' c1 ?_
  simp
  exact AWp.ret (post_ret2 rfl (by simp) (by simp))
end Go.T
namespace Go.Proofs
open Go.Shelf
shelf_lay_g Lays8.n4 Nm8 4 at Try 106 as Try.laysGrowT
end Go.Proofs
namespace Go.T
open Go Go.Proofs
set_option maxRecDepth 10000
set_option linter.unusedSimpArgs false
set_option linter.unusedVariables false
theorem wr32_rng (n : Int) : -2147483648 ≤ wr32 n ∧ wr32 n ≤ 2147483647 := by
  unfold wr32 IntKind.wrap
  simp [IntKind.bits, IntKind.signed]
  omega
theorem wr32_and (n : Int) : ((BitVec.ofInt 64 n &&& BitVec.ofInt 64 4294967295).toNat : Int) = n % 4294967296 := by
  rw [BitVec.toNat_and, BitVec.toNat_ofInt, BitVec.toNat_ofInt]
  have h : ((4294967295 : Int) % ((2 ^ 64 : Nat) : Int)).toNat = 2 ^ 32 - 1 := by decide
  rw [h, Nat.and_two_pow_sub_one_eq_mod]
  omega
theorem wr32_eq (n : Int) : wr32 n = if n % 4294967296 ≥ 2147483648 then n % 4294967296 - 4294967296 else n % 4294967296 := by
  unfold wr32 IntKind.wrap
  simp [IntKind.bits, IntKind.signed]
  try (split <;> omega)
theorem c_impl_Wrap (n : Int) : PCall Try.prog 108 [.int .i64 n] (.int .i64 (wr32 n)) := by
  refine pcall_of Try.func108 (by kernel_rfl) rfl (by simp [Try.f108]) ?_
  have hw : IntKind.wrap .i64 (IntKind.wrap .i32 n) = wr32 n := by have := wr32_rng n; unfold wr32 at this ⊢; exact wrap64 (by omega) (by omega)
  (repeat refine AWp.seq ?_); refine AWp.region noP (by kernel_rfl) ?_
  try simp
  (repeat refine AWp.seq ?_); refine AWp.region noP (by kernel_rfl) ?_
  simp [hw]
  exact AWp.ret (post_ret1 rfl (by simp))
theorem c_spec_Wrap (n : Int) : PCall Try.prog 102 [.int .i64 n] (.int .i64 (wr32 n)) := by
  refine pcall_of Try.func102 (by kernel_rfl) rfl (by simp [Try.f102]) ?_
  have hb := wr32_and n
  have he := wr32_eq n
  have hw1 : IntKind.wrap .i64 ((BitVec.ofInt 64 n &&& BitVec.ofInt 64 4294967295).toNat : Int) = n % 4294967296 := by rw [hb]; exact wrap64 (by omega) (by omega)
  have hand : intA .and .i64 n 4294967295 = some (.int .i64 (n % 4294967296)) := congrArg (fun x => some (AV.int .i64 x)) hw1
  have hw2 : IntKind.wrap .i64 (n % 4294967296 - 4294967296) = n % 4294967296 - 4294967296 := wrap64 (by omega) (by omega)
  (repeat refine AWp.seq ?_); refine AWp.region noP (by kernel_rfl) ?_
  try simp
  (repeat refine AWp.seq ?_); refine AWp.region noP (by kernel_rfl) ?_
  simp [hand]
  (repeat refine AWp.seq ?_); refine AWp.region noP (by kernel_rfl) ?_
  try simp
  by_cases h : n % 4294967296 ≥ 2147483648
  · rw [if_pos h] at he
    rw [he]
    (repeat refine AWp.seq ?_); refine AWp.condT (by simp; omega) ?_
    (repeat refine AWp.seq ?_); refine AWp.region noP (by kernel_rfl) ?_
    simp [hw2]
    exact AWp.ret (post_ret1 rfl (by simp))
  · rw [if_neg h] at he
    rw [he]
    (repeat refine AWp.seq ?_); refine AWp.condF (by simp; omega) ?_
    refine AWp.skip ?_
    try simp
    (repeat refine AWp.seq ?_); refine AWp.region noP (by kernel_rfl) ?_
    try simp
    exact AWp.ret (post_ret1 rfl (by simp))
theorem c_size (n : Int) (h : -2147483648 ≤ n ∧ n ≤ 2147483647) : PCall Try.prog 107 [.int .i64 n] (.int .i64 (n.natAbs : Nat)) := by
  refine pcall_of Try.func107 (by kernel_rfl) rfl (by simp [Try.f107]) ?_
  have hw : IntKind.wrap .i64 (-n) = -n := wrap64 (by omega) (by omega)
  have he : max n (-n) = (n.natAbs : Nat) := by omega
  (repeat refine AWp.seq ?_); refine AWp.region noP (by kernel_rfl) ?_
  try simp
  (repeat refine AWp.seq ?_); refine AWp.region noP (by kernel_rfl) ?_
  simp [hw, max_if, he]
  exact AWp.ret (post_ret1 rfl (by simp))
theorem c_l1Abs (n : Int) (h : -2147483648 ≤ n ∧ n ≤ 2147483647) : PCall Try.prog 101 [.int .i64 n] (.int .i64 (n.natAbs : Nat)) := by
  refine pcall_of Try.func101 (by kernel_rfl) rfl (by simp [Try.f101]) ?_
  have hw : IntKind.wrap .i64 (-n) = -n := wrap64 (by omega) (by omega)
  (repeat refine AWp.seq ?_); refine AWp.region noP (by kernel_rfl) ?_
  try simp
  (repeat refine AWp.seq ?_); refine AWp.region noP (by kernel_rfl) ?_
  try simp
  by_cases hn : n < 0
  · have he : ((n.natAbs : Nat) : Int) = -n := by omega
    rw [he]
    (repeat refine AWp.seq ?_); refine AWp.condT (by simp [hn]) ?_
    (repeat refine AWp.seq ?_); refine AWp.region noP (by kernel_rfl) ?_
    simp [hw]
    exact AWp.ret (post_ret1 rfl (by simp))
  · have he : ((n.natAbs : Nat) : Int) = n := by omega
    rw [he]
    (repeat refine AWp.seq ?_); refine AWp.condF (by simp [hn]) ?_
    refine AWp.skip ?_
    try simp
    (repeat refine AWp.seq ?_); refine AWp.region noP (by kernel_rfl) ?_
    try simp
    exact AWp.ret (post_ret1 rfl (by simp))
theorem c_impl_Gcd (a b : Int) : PCall Try.prog 80 [.int .i64 a, .int .i64 b] (.int .i64 (gcdW a b)) := by
  have ra := wr32_rng a
  have rb := wr32_rng b
  refine pcall_of Try.func80 (by kernel_rfl) rfl (by simp [Try.f80]) ?_
  (repeat refine AWp.seq ?_); refine AWp.region noP (by kernel_rfl) ?_
  try simp
  (repeat refine AWp.seq ?_); refine AWp.region allP (by kernel_rfl) ?_
  try simp
  refine aop_call' (c_impl_Wrap a) ?_
  try simp
  refine aop_call' (c_size _ ra) ?_
  try simp
  refine aop_call' (c_impl_Wrap b) ?_
  try simp
  refine aop_call' (c_size _ rb) ?_
  try simp
  (repeat refine AWp.seq ?_); refine AWp.block (AWp.rounds (fun m st => ∃ (x y : Nat), m = y ∧ x ≤ 2147483648 ∧ y ≤ 2147483648 ∧ Nat.gcd x y = Nat.gcd (wr32 a).natAbs (wr32 b).natAbs ∧ st.slots 0 = .int .i64 x ∧ st.slots 1 = .int .i64 y) (wr32 b).natAbs ⟨(wr32 a).natAbs, (wr32 b).natAbs, by simp, by omega, by omega, by simp, by simp, by simp⟩ ?_)
  rintro R m st hR ⟨x, y, rfl, hx, hy, hg, sa, sb⟩
  (repeat refine AWp.seq ?_); refine AWp.region noP (by kernel_rfl) ?_
  try simp [sa, sb]
  by_cases h : m = 0
  · (repeat refine AWp.seq ?_); refine AWp.condF (by simp [h]) ?_
    refine AWp.exit ?_
    try simp
    (repeat refine AWp.seq ?_); refine AWp.region noP (by kernel_rfl) ?_
    simp [sa, sb]
    have he : gcdW a b = x := by unfold gcdW; rw [← hg, h, Nat.gcd_zero_right]
    exact AWp.ret (post_ret1 rfl (by simp [he]))
  · (repeat refine AWp.seq ?_); refine AWp.condT (by simp [h]) ?_
    refine AWp.skip ?_
    try simp
    have hmod : ((x : Int).tmod (m : Int)) = ((x % m : Nat) : Int) := by rw [Int.tmod_eq_emod_of_nonneg (by omega)]; rfl
    have hlt : x % m < m := Nat.mod_lt _ (by omega)
    have hgm : Nat.gcd m (x % m) = Nat.gcd x m := by rw [Nat.gcd_comm m (x % m), ← Nat.gcd_rec, Nat.gcd_comm]
    (repeat refine AWp.seq ?_); refine AWp.block ?_
    (repeat refine AWp.seq ?_); refine AWp.regionF (fun _ => false) (fun _ => false) [0, 1, 2, 3, 4, 5] (by kernel_rfl) ?_
    simp [sa, sb, h, hmod]
    exact hR _ (x % m) (by omega) ⟨m, x % m, rfl, by omega, by omega, by rw [hgm, hg], by simp, by simp⟩
theorem c_spec_Gcd (a b : Int) : PCall Try.prog 75 [.int .i64 a, .int .i64 b] (.int .i64 (gcdW a b)) := by
  have ra := wr32_rng a
  have rb := wr32_rng b
  refine pcall_of Try.func75 (by kernel_rfl) rfl (by simp [Try.f75]) ?_
  (repeat refine AWp.seq ?_); refine AWp.region noP (by kernel_rfl) ?_
  try simp
  (repeat refine AWp.seq ?_); refine AWp.region allP (by kernel_rfl) ?_
  try simp
  refine aop_call' (c_spec_Wrap a) ?_
  try simp
  refine aop_call' (c_l1Abs _ ra) ?_
  try simp
  (repeat refine AWp.seq ?_); refine AWp.region allP (by kernel_rfl) ?_
  try simp
  refine aop_call' (c_spec_Wrap b) ?_
  try simp
  refine aop_call' (c_l1Abs _ rb) ?_
  try simp
  (repeat refine AWp.seq ?_); refine AWp.block (AWp.rounds (fun m st => ∃ (x y : Nat), m = y ∧ x ≤ 2147483648 ∧ y ≤ 2147483648 ∧ Nat.gcd x y = Nat.gcd (wr32 a).natAbs (wr32 b).natAbs ∧ st.slots 5 = .int .i64 x ∧ st.slots 6 = .int .i64 y) (wr32 b).natAbs ⟨(wr32 a).natAbs, (wr32 b).natAbs, by simp, by omega, by omega, by simp, by simp, by simp⟩ ?_)
  rintro R m st hR ⟨x, y, rfl, hx, hy, hg, sa, sb⟩
  (repeat refine AWp.seq ?_); refine AWp.region noP (by kernel_rfl) ?_
  try simp [sa, sb]
  by_cases h : m = 0
  · (repeat refine AWp.seq ?_); refine AWp.condF (by simp [h]) ?_
    refine AWp.exit ?_
    try simp
    (repeat refine AWp.seq ?_); refine AWp.region noP (by kernel_rfl) ?_
    simp [sa, sb]
    have he : gcdW a b = x := by unfold gcdW; rw [← hg, h, Nat.gcd_zero_right]
    exact AWp.ret (post_ret1 rfl (by simp [he]))
  · (repeat refine AWp.seq ?_); refine AWp.condT (by simp [h]) ?_
    refine AWp.skip ?_
    try simp
    have hmod : ((x : Int).tmod (m : Int)) = ((x % m : Nat) : Int) := by rw [Int.tmod_eq_emod_of_nonneg (by omega)]; rfl
    have hlt : x % m < m := Nat.mod_lt _ (by omega)
    have hgm : Nat.gcd m (x % m) = Nat.gcd x m := by rw [Nat.gcd_comm m (x % m), ← Nat.gcd_rec, Nat.gcd_comm]
    (repeat refine AWp.seq ?_); refine AWp.block ?_
    (repeat refine AWp.seq ?_); refine AWp.region noP (by kernel_rfl) ?_
    simp [sa, sb, h, hmod]
    (repeat refine AWp.seq ?_); refine AWp.region noP (by kernel_rfl) ?_
    simp [sa, sb, h, hmod]
    (repeat refine AWp.seq ?_); refine AWp.region noP (by kernel_rfl) ?_
    simp [sa, sb, h, hmod]
    exact hR _ (x % m) (by omega) ⟨m, x % m, rfl, by omega, by omega, by rw [hgm, hg], by simp, by simp⟩
@[simp] theorem Tm.av_cells (t : Tm) : t.av.cells = [.str t.s, .int .i64 t.n] := rfl
theorem hb_Grow : HasBody Try.prog 106 := ⟨_, Try.func106, by kernel_rfl, rfl⟩
theorem slice_of_lst {w : World} {S : Nat → Prop} {f : Nat} {v : Value} (h : Rep w S (.lst true f []) v) : ∃ A, v = .slice A 0 0 := by
  cases h with
  | lnil _ _ A c hc => exact ⟨A, by rw [hc rfl]⟩
  | lst _ _ b o c h1 h2 h3 h4 h5 => have := h4 rfl; simp at this; exact ⟨_, by rw [this]; rfl⟩
/-- A list of strings that grows: nil, or a row of its own. -/
def GT (m0 : Mem) (xs : List Tm) (v : AV) (m : Mem) : Prop := Ext m0 m ∧ ((xs = [] ∧ ∃ f, v = .lst true f []) ∨ ∃ g c, v = .own g xs.length c ∧ m g = some (.arr 126 2 c (xs.map Tm.av)) ∧ m0 g = none)
theorem GT.app {m0 m : Mem} {xs : List Tm} {v : AV} (h : GT m0 xs v m) (f : Bool) (ys : List Tm) (hb : xs.length + ys.length ≤ 16777216) {k : AV → Mem → Prop} (hk : ∀ v' m', GT m0 (xs ++ ys) v' m' → k v' m') : appendW Try.prog m k #[41, 41] v (.lst f 2 (ys.map Tm.av)) := by
  have hT := et_41
  obtain ⟨z, hz, hzl⟩ := hT.zero
  unfold appendW
  simp only [List.getElem?_toArray, List.getElem?_cons_zero, List.getElem?_cons_succ, hT.int, hT.elem, hT.size, hT.byte, hz, srcA, true_and, if_true]
  refine ⟨hT.pos.1, hT.pos.2, hzl, ?_⟩
  obtain ⟨he, ⟨rfl, e, rfl⟩ | ⟨g, c, rfl, hg, h0⟩⟩ := h
  · refine ⟨.inr rfl, by simp at hb ⊢; omega, fun h0 => ?_, fun _ g c hg hle => ?_⟩
    · have : ys = [] := by simpa using h0
      subst this
      exact hk _ _ ⟨he, .inl ⟨rfl, e, rfl⟩⟩
    · refine hk _ _ ⟨he.set (he.none hg) _, .inr ⟨g, c, by simp, by simp [set_same], he.none hg⟩⟩
  · simp only [hg]
    refine ⟨trivial, trivial, trivial, by simp, by simp, by simp at hb ⊢; omega, fun g' c' hg' hle => ?_⟩
    have hg0 : m0 g' = none := by
      rcases hg' with rfl | h
      · exact h0
      · exact he.none h
    exact hk _ _ ⟨he.set hg0 _, .inr ⟨g', c', by simp, by simp [set_same], hg0⟩⟩
theorem c_Grow0 (f : Nat) : PCall Try.prog 106 [.lst true f [], .int .i64 0] (.lst true f []) := by
  refine ⟨hb_Grow, fun w S cargs m hm hargs => ?_⟩
  cases hargs with | @cons _ v _ vs hv ht =>
  cases ht with | @cons _ v2 _ vs2 hv2 ht2 =>
  cases ht2
  cases hv2
  obtain ⟨A, rfl⟩ := slice_of_lst hv
  refine calls_mono (Any8.slices_Grow_room Try.laysGrowT A 0 0 0 w (by omega) (by omega) (by omega) (by omega)) ?_
  rintro e w' ⟨rfl, rfl⟩
  exact ⟨_, S, rfl, fun _ h => h, fun _ h => .inl h, hm, hv, Keep.refl _ _⟩
theorem c_Grow (f n : Nat) (hn : 0 < n) (hb : n ≤ 16777216) {m : Mem} {K : AV → Mem → Prop} (hK : ∀ g c, m g = none → n ≤ c → K (.own g 0 c) (m.set g (.arr 126 2 c []))) : WCall Try.prog 106 [.lst true f [], .int .i64 n] m K := by
  refine ⟨hb_Grow, fun w S cargs hm hargs => ?_⟩
  cases hargs with | @cons _ v _ vs hv ht =>
  cases ht with | @cons _ v2 _ vs2 hv2 ht2 =>
  cases ht2
  cases hv2
  obtain ⟨A, rfl⟩ := slice_of_lst hv
  have hinf : (Try.prog.info? 126).map (fun i => (i.zero, i.size, i.bytes)) = some (some (.agg #[.string ⟨#[]⟩, .int .i64 0]), 2, 24) := by kernel_rfl
  obtain ⟨i0, hi0, hi1⟩ := Option.map_eq_some_iff.1 hinf
  simp only [Prod.mk.injEq] at hi1
  obtain ⟨hz0, hs0, hb0⟩ := hi1
  have h := Any8.slices_Grow_grow Try.laysGrowT i0 (.agg #[.string ⟨#[]⟩, .int .i64 0]) hi0 hz0 (by omega) A 0 0 n [] w (by omega) (by omega) (by rw [hb0]; omega) (by omega) (by simp) (fun _ => rfl) (fun a _ j v hj => by simp at hj)
  refine calls_mono h ?_
  rintro e w' ⟨he, hw⟩
  have he2 : e = .returned (.slice (some ⟨w.heap.size, 0, none⟩) 0 (grownCap w (0 + n) 0 126)) := he
  have hw2 : w' = addO { w with drawn := w.drawn + 1 } (.cells ((#[] : Array Value) ++ Builtin.zeroCells (Value.agg #[.string ⟨#[]⟩, .int .i64 0]).cells (0 + n - 0) ++ Builtin.zeroCells (Value.agg #[.string ⟨#[]⟩, .int .i64 0]).cells (grownCap w (0 + n) 0 126 - (0 + n))) 126) := hw
  have hge := grownCap_ge w (0 + n) 0 126
  clear he hw h
  generalize grownCap w (0 + n) 0 126 = c at he2 hw2 hge
  subst he2
  have hm1 : MemRep { w with drawn := w.drawn + 1 } S m := memRep_drew hm _
  have hfree : m w.heap.size = none := by
    cases hq : m w.heap.size with
    | none => rfl
    | some b => have := (hm.blk _ b hq).lt; omega
  have hm2 := memRep_new (b := .arr 126 2 c []) hm1 (.cells ((#[] : Array Value) ++ Builtin.zeroCells (Value.agg #[.string ⟨#[]⟩, .int .i64 0]).cells (0 + n - 0) ++ Builtin.zeroCells (Value.agg #[.string ⟨#[]⟩, .int .i64 0]).cells (c - (0 + n))) 126)
    ⟨[], ((#[] : Array Value) ++ Builtin.zeroCells (Value.agg #[.string ⟨#[]⟩, .int .i64 0]).cells (0 + n - 0) ++ Builtin.zeroCells (Value.agg #[.string ⟨#[]⟩, .int .i64 0]).cells (c - (0 + n))).toList, by rw [List.nil_append, Array.toArray_toList]; exact addO_new _ _, .nil, by simp [Builtin.zeroCells, Value.cells]; omega, by simp, by simp⟩
  rw [← hw2] at hm2
  have hk1 : Keep (fun g => m g ≠ none) w w' := by rw [hw2]; exact ((Keep.refl _ w).drew (w.drawn + 1)).trans (keep_addO (fun g => m g ≠ none) { w with drawn := w.drawn + 1 } _) (fun g h => .inl h)
  refine ⟨_, _, _, S, rfl, hK w.heap.size c hfree (by omega), fun _ h => h, fun _ h => .inl h, hm2, .own _ 0 _, hk1, fun g b hb' => ?_⟩
  rw [set_at] at hb'
  by_cases hgg : g = w.heap.size
  · exact .inr (by omega)
  · rw [if_neg hgg] at hb'
    exact .inl (by rw [hb']; simp)
theorem sumL_app {X : Type} (f : X → Nat) : ∀ a b : List X, sumL f (a ++ b) = sumL f a + sumL f b
  | [], b => by simp [sumL]
  | x :: a, b => by simp only [List.cons_append, sumL, sumL_app f a b]; omega
theorem sumL_flat : ∀ L : List (List Tm), L.flatten.length = sumL List.length L
  | [] => rfl
  | a :: L => by rw [List.flatten_cons, List.length_append, sumL, sumL_flat L]
theorem c_Concat (L : List (List Tm)) (f : Bool) (hb : sumL List.length L ≤ 8388608) (hl : L.length ≤ 1000) {m : Mem} {K : AV → Mem → Prop} (hK : ∀ v m', GT m L.flatten v m' → ∃ r m'', View m' v m'' r ∧ K r m'') :
    WCall Try.prog 79 [.lst f 1 (L.map tms)] m K := by
  refine wcall_of Try.func79 (by kernel_rfl) rfl (by simp [Try.f79]) ?_
  (repeat refine AWp.seq ?_); refine AWp.region noP (by kernel_rfl) ?_
  simp
  (repeat refine AWp.seq ?_); refine AWp.region noP (by kernel_rfl) ?_
  simp
  (repeat refine AWp.seq ?_); refine AWp.region noP (by kernel_rfl) ?_
  simp
  (try refine AWp.seq ?_)
  refine AWp.cutA (fun st => st.slots 0 = .lst f 1 (L.map tms) ∧ st.slots 3 = .int .i64 (sumL List.length L : Nat) ∧ st.mem = m) ?_ ?_
  · refine AWp.block (AWp.rounds (fun k st => ∃ (i : Nat), k = L.length - i ∧ i ≤ L.length ∧ st.slots 0 = .lst f 1 (L.map tms) ∧ st.slots 9 = .lst f 1 (L.map tms) ∧ st.slots 10 = .int .i64 L.length ∧ st.slots 11 = .int .i64 i ∧ st.slots 3 = .int .i64 (sumL List.length (L.take i) : Nat) ∧ st.mem = m) L.length ⟨0, by simp, by simp, by simp, by simp, by simp, by simp, by simp [sumL], by simp⟩ ?_)
    rintro R k st hR ⟨i, rfl, hi, s0, s9, s10, s11, s3, sm⟩
    (repeat refine AWp.seq ?_); refine AWp.region noP (by kernel_rfl) ?_
    simp [s9, s10, s11]
    (repeat refine AWp.seq ?_); refine AWp.cond (b := decide (i < L.length)) (by simp) (fun hb2 => ?_) (fun hb2 => ?_)
    · simp at hb2
      have hg : L[i]? = some L[i] := List.getElem?_eq_getElem hb2
      have hx : ∀ m, idxA Try.prog m 149 (.lst f 1 (L.map tms)) (.int .i64 i) = some (.ref [tms L[i]]) := fun m => idx (y := tms L[i]) es_149 (by simp [hg])
      have hw : IntKind.wrap .i64 ((i : Int) + 1) = (i + 1 : Nat) := wrap64 (by omega) (by omega)
      have hs1 : sumL List.length (L.take (i + 1)) = sumL List.length (L.take i) + L[i].length := by
        rw [List.take_add_one, hg, sumL_app]; simp [sumL]
      have hs2 : sumL List.length (L.take (i + 1)) ≤ sumL List.length L := by
        have := sumL_app List.length (L.take (i + 1)) (L.drop (i + 1))
        rw [List.take_append_drop] at this
        omega
      have hw2 : IntKind.wrap .i64 ((sumL List.length (L.take i) : Nat) + (L[i].length : Int)) = (sumL List.length (L.take (i + 1)) : Nat) := by rw [wrap64 (by omega) (by omega), hs1]; omega
      refine AWp.skip ?_
      try simp
      (repeat refine AWp.seq ?_); refine AWp.block ?_; (repeat refine AWp.seq ?_); refine AWp.region noP (by kernel_rfl) ?_
      simp [s9, s11, hx]
      (repeat refine AWp.seq ?_); refine AWp.region noP (by kernel_rfl) ?_
      simp [s3, tms, hw2]
      (repeat refine AWp.seq ?_); refine AWp.region noP (by kernel_rfl) ?_
      try simp
      (repeat refine AWp.seq ?_); refine AWp.condF (by simp) ?_
      refine AWp.skip ?_
      try simp
      (repeat refine AWp.seq ?_); refine AWp.region noP (by kernel_rfl) ?_
      simp [s11, hw]
      exact hR _ (L.length - (i + 1)) (by omega) ⟨i + 1, rfl, hb2, by simp [s0], by simp [s9], by simp [s10], by simp, by simp, by simp [sm]⟩
    · simp at hb2
      refine AWp.exit ?_
      have : i = L.length := by omega
      subst this
      rw [List.take_length] at s3
      simp [s0, s3, sm]
  rintro st ⟨s0, s3, sm⟩
  have hG : ∀ (st : St) (v : AV), st.slots 0 = .lst f 1 (L.map tms) → st.slots 6 = v → GT m [] v st.mem → True := fun _ _ _ _ _ => trivial
  refine AWp.seq ?_
  refine AWp.cutA (fun st => ∃ v, st.slots 0 = .lst f 1 (L.map tms) ∧ st.slots 6 = v ∧ GT m [] v st.mem) ?_ ?_
  · (repeat refine AWp.seq ?_); refine AWp.region noP (by kernel_rfl) ?_
    simp [s3]
    by_cases h0 : sumL List.length L = 0
    · refine aop_wcall _ _ _ _ _ _ _ _ rfl (eval_func _ _) ?_
      refine PCall.w (by simpa [h0] using c_Grow0 0) ?_
      simp [s0]
      rw [sm]
      exact ⟨Ext.refl _, .inl ⟨rfl, 0, rfl⟩⟩
    · refine aop_wcall _ _ _ _ _ _ _ _ rfl (eval_func _ _) ?_
      refine c_Grow 0 _ (by omega) (by omega) fun g c hg hc => ?_
      simp [s0]
      simp at hg
      rw [sm] at hg ⊢
      exact ⟨(Ext.refl m).set hg _, .inr ⟨g, c, by simp, by simp [set_same], hg⟩⟩
  clear s0 s3 sm hG
  rintro st ⟨v, s0, s6, hG⟩
  (repeat refine AWp.seq ?_); refine AWp.region noP (by kernel_rfl) ?_
  simp [s0]
  (try refine AWp.seq ?_)
  refine AWp.cutA (fun st => ∃ v, st.slots 6 = v ∧ GT m L.flatten v st.mem) ?_ ?_
  · refine AWp.block (AWp.rounds (fun k st => ∃ (i : Nat) (v : AV), k = L.length - i ∧ i ≤ L.length ∧ st.slots 25 = .lst f 1 (L.map tms) ∧ st.slots 26 = .int .i64 L.length ∧ st.slots 27 = .int .i64 i ∧ st.slots 6 = v ∧ GT m (L.take i).flatten v st.mem) L.length ⟨0, v, by simp, by simp, by simp, by simp, by simp, by simp [s6], by simpa using hG⟩ ?_)
    clear s0 s6 hG
    rintro R k st hR ⟨i, v, rfl, hi, s25, s26, s27, s6, hG⟩
    (repeat refine AWp.seq ?_); refine AWp.region noP (by kernel_rfl) ?_
    simp [s25, s26, s27]
    (repeat refine AWp.seq ?_); refine AWp.cond (b := decide (i < L.length)) (by simp) (fun hb2 => ?_) (fun hb2 => ?_)
    · simp at hb2
      have hg : L[i]? = some L[i] := List.getElem?_eq_getElem hb2
      have hx : ∀ m, idxA Try.prog m 149 (.lst f 1 (L.map tms)) (.int .i64 i) = some (.ref [tms L[i]]) := fun m => idx (y := tms L[i]) es_149 (by simp [hg])
      have hw : IntKind.wrap .i64 ((i : Int) + 1) = (i + 1 : Nat) := wrap64 (by omega) (by omega)
      have hs1 : (L.take (i + 1)).flatten = (L.take i).flatten ++ L[i] := by
        rw [List.take_add_one, hg, List.flatten_append]; simp
      have hs2 : ((L.take i).flatten ++ L[i]).length ≤ sumL List.length L := by
        rw [← hs1, sumL_flat]
        have := sumL_app List.length (L.take (i + 1)) (L.drop (i + 1))
        rw [List.take_append_drop] at this
        omega
      rw [List.length_append] at hs2
      refine AWp.skip ?_
      try simp
      (repeat refine AWp.seq ?_); refine AWp.block ?_; (repeat refine AWp.seq ?_); refine AWp.region noP (by kernel_rfl) ?_
      simp [s25, s27, hx]
      (repeat refine AWp.seq ?_); refine AWp.region noP (by kernel_rfl) ?_
      simp [s6, tms]
      refine hG.app false L[i] (by omega) fun v' m' hG' => ?_
      try simp
      (repeat refine AWp.seq ?_); refine AWp.region noP (by kernel_rfl) ?_
      simp [s27, hw]
      exact hR _ (L.length - (i + 1)) (by omega) ⟨i + 1, v', rfl, hb2, by simp [s25], by simp [s26], by simp, by simp, by rw [hs1]; simpa using hG'⟩
    · simp at hb2
      refine AWp.exit ?_
      have : i = L.length := by omega
      subst this
      rw [List.take_length] at hG
      simp [s6]
      exact hG
  clear s0 s6 hG
  rintro st ⟨v, s6, hG⟩
  (repeat refine AWp.seq ?_); refine AWp.region noP (by kernel_rfl) ?_
  simp [s6]
  obtain ⟨r, m'', h1, h2⟩ := hK v st.mem hG
  exact AWp.ret (post_retW rfl ⟨r, m'', by simpa using h1, h2⟩)
end Go.T
