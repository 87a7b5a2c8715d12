/- May sums meet, by what divides them and by where they are; a sum without a name: what the program and the reference compute. May sums meet: what the program and the reference compute; the law's function. May sums meet: the law's function; its arguments read as trees. -/
import Derived.Test.YtjpgifmkikmbgaaSB
import Derived.Test.YtjpgifmkikmbgaaL2
namespace Go.T
open Go Go.Proofs
set_option maxRecDepth 10000
set_option linter.unusedSimpArgs false
set_option linter.unusedVariables false
theorem post_cellW {P : Program} {fn : Func} {a : Tmp} {T : TypeId} {q r : AV} {m' : Mem} {e : Exit} {s : St} (he : e = .ret ∨ e = .normal) (hr : fn.results = #[.cell a T]) (h : loadA P s.mem T (s.slots a) = some q) (hv : View s.mem q m' r) : Post P fn (fun r' _ => r' = r) e s := by
  have h2 : ∃ vs r' m'', resA P s.mem s.slots fn.results.toList = some vs ∧ View s.mem (oneOf vs) m'' r' ∧ r' = r := ⟨[q], r, m', by rw [hr]; simp [resA, h], hv, rfl⟩
  rcases he with rfl | rfl <;> exact h2
theorem View.agg2 {m m' : Mem} {v v' : AV} (h : View m v m' v') (k : IntKind) (c : Int) : View m (.agg [.int k c, v]) m' (.agg [.int k c, v']) := fun w S u h1 h2 => by
  cases h2 with | @agg _ vs hr =>
  cases hr with | @cons _ x _ xs hx ht =>
  cases ht with | @cons _ y _ ys hy ht2 =>
  cases ht2
  obtain ⟨S', k1, k2, k3, k4, k5⟩ := h w S y h1 hy
  exact ⟨S', k1, k2, k3, .agg (.cons (hx.mono (fun _ _ => rfl) k1) (.cons k4 .nil)), k5⟩
theorem GT.view {m0 m : Mem} {xs : List Tm} {v : AV} (h : GT m0 xs v m) : View m v m0 (tms xs) := by
  obtain ⟨he, ⟨rfl, f, rfl⟩ | ⟨g, c, rfl, hg, h0⟩⟩ := h
  · exact (Grows.lit (T := 126) (e := 2) f m (.inr rfl) he).view
  · exact (Grows.own g c _ m (by simp) hg h0 he).view
abbrev noM : Mem := fun _ => none
theorem GT.put {m : Mem} {xs : List Tm} {v : AV} (h : GT noM xs v m) {g : Nat} (hg : ∀ T e c ys, m g ≠ some (.arr T e c ys)) (b : Blk) : GT noM xs v (m.set g b) := by
  obtain ⟨he, ⟨rfl, f, rfl⟩ | ⟨g', c, rfl, hg', h0⟩⟩ := h
  · exact ⟨fun _ _ h => (by cases h), .inl ⟨rfl, f, rfl⟩⟩
  · refine ⟨fun _ _ h => (by cases h), .inr ⟨g', c, rfl, ?_, rfl⟩⟩
    rw [set_at, if_neg]
    · exact hg'
    · rintro rfl; exact hg _ _ _ _ hg'
theorem GT.appB {m : Mem} {xs : List Tm} {v : AV} (h : GT noM xs v m) (f : Bool) (t : Tm) (hb : xs.length + 1 ≤ 16777216) {k : AV → Mem → Prop} (hk : ∀ v' m', GT noM (xs ++ [t]) v' m' → (∀ g cs, m g = some (.box cs) → m' g = some (.box cs)) → k v' m') :
    appendW Try.prog m k #[41, 41] v (.lst f 2 [.agg [.str t.s, .int .i64 t.n]]) := by
  have ht : (.lst f 2 [.agg [.str t.s, .int .i64 t.n]] : AV) = .lst f 2 ([t].map Tm.av) := rfl
  rw [ht]
  obtain ⟨he, ⟨rfl, f', rfl⟩ | ⟨g', c, rfl, hg', h0⟩⟩ := h
  · refine GT.app (m0 := m) ⟨Ext.refl _, .inl ⟨rfl, f', rfl⟩⟩ f [t] hb fun v' m' h' => hk v' m' ⟨fun _ _ h => (by cases h), ?_⟩ fun g cs hg => h'.1 g _ hg
    rcases h'.2 with h2 | ⟨g2, c2, a, b, _⟩
    · exact .inl h2
    · exact .inr ⟨g2, c2, a, b, rfl⟩
  · refine GT.app (m0 := m.del g') ⟨fun k b hb => ?_, .inr ⟨g', c, rfl, hg', by simp [Mem.del]⟩⟩ f [t] hb fun v' m' h' => hk v' m' ⟨fun _ _ h => (by cases h), ?_⟩ fun g cs hg => h'.1 g _ ?_
    · unfold Mem.del at hb; split at hb
      · cases hb
      · exact hb
    · rcases h'.2 with h2 | ⟨g2, c2, a, b, _⟩
      · exact .inl h2
      · exact .inr ⟨g2, c2, a, b, rfl⟩
    · unfold Mem.del; rw [if_neg]
      · exact hg
      · rintro rfl; rw [hg'] at hg; cases hg
theorem rest_take {l : List Tm} {i : Nat} (h : i < l.length) (s : ByteArray) : rest (l.take (i + 1)) s = if l[i].s = s then rest (l.take i) s else rest (l.take i) s ++ [l[i]] := by
  unfold rest
  rw [List.take_add_one, List.getElem?_eq_getElem h, List.filter_append]
  by_cases he : l[i].s = s <;> simp [he]
theorem gcdL_drop {l : List Tm} {i : Nat} (h : i < l.length) (n : Int) : gcdL n (l.drop i) = gcdL (gcdW n l[i].n) (l.drop (i + 1)) := by
  rw [List.drop_eq_getElem_cons h]; rfl
theorem c_restOf (a : Af) (s : ByteArray) (hl : a.t.length ≤ 1048576) : PCall Try.prog 54 [a.av, .str s] (Af.mk a.c (rest a.t s)).av := by
  refine pcall_of Try.func54 (by kernel_rfl) rfl (by simp [Try.f54]) ?_
  unfold Af.av
  have hc : a.cells = [.int .i64 a.c, .lst false 2 (a.t.map Tm.av)] := rfl
  have hc2 : (Af.mk a.c (rest a.t s)).cells = [.int .i64 a.c, tms (rest a.t s)] := rfl
  rw [hc, hc2]
  (repeat refine AWp.seq ?_); refine AWp.region noP (by kernel_rfl) ?_
  simp
  intro g g4 h4
  have n1 : g4 ≠ g := by rintro rfl; simp [set_at] at h4
  have n2 := n1.symm
  (repeat refine AWp.seq ?_); refine AWp.region noP (by kernel_rfl) ?_
  simp [set_at, n1, n2]
  intro g5 h5
  have n3 : g5 ≠ g4 := by rintro rfl; simp [set_at] at h5
  have n4 : g5 ≠ g := by rintro rfl; simp [set_at, n2] at h5
  have n5 := n3.symm
  have n6 := n4.symm
  try simp [set_set]
  (repeat refine AWp.seq ?_); refine AWp.region noP (by kernel_rfl) ?_
  try simp [set_at, n1, n2, n3, n4, n5, n6]
  (repeat refine AWp.seq ?_); refine AWp.block (AWp.rounds (fun m st => ∃ (i : Nat) (v : AV), m = a.t.length - i ∧ i ≤ a.t.length ∧ st.slots 1 = .str s ∧ st.slots 12 = .lst false 2 (a.t.map Tm.av) ∧ st.slots 13 = .int .i64 a.t.length ∧ st.slots 4 = .ptr g4 0 ∧ st.slots 5 = .ptr g5 0 ∧ st.slots 14 = .int .i64 i ∧ (∃ cs, st.mem g4 = some (.box cs) ∧ cs.length = 2) ∧ st.mem g5 = some (.box [.int .i64 a.c, v]) ∧ GT noM (rest (a.t.take i) s) v st.mem) a.t.length ⟨0, .lst true 0 [], by simp, by simp, by simp [set_at, n1, n2, n3, n4, n5, n6], by simp [set_at, n1, n2, n3, n4, n5, n6], by simp [set_at, n1, n2, n3, n4, n5, n6], by simp [set_at, n1, n2, n3, n4, n5, n6], by simp [set_at, n1, n2, n3, n4, n5, n6], by simp [set_at, n1, n2, n3, n4, n5, n6], ⟨_, by simp [set_at, n1, n2, n3, n4, n5, n6]; rfl, by simp⟩, by simp [set_at, n1, n2, n3, n4, n5, n6], ⟨fun _ _ h => (by cases h), .inl ⟨rfl, 0, rfl⟩⟩⟩ ?_)
  rintro R m st hR ⟨i, v, rfl, hi, s1, s12, s13, s4, s5, s14, ⟨cs4, sg4, hc4⟩, sg5, hG⟩
  (repeat refine AWp.seq ?_); refine AWp.region noP (by kernel_rfl) ?_
  try simp [s1, s12, s13, s4, s5, s14]
  (repeat refine AWp.seq ?_); refine AWp.cond (b := decide (i < a.t.length)) (by simp) (fun hb => ?_) (fun hb => ?_)
  · simp at hb
    have hq : a.t[i]? = some a.t[i] := List.getElem?_eq_getElem hb
    have hw : IntKind.wrap .i64 ((i : Int) + 1) = (i + 1 : Nat) := wrap64 (by omega) (by omega)
    have hx : ∀ m, idxA Try.prog m 41 (.lst false 2 (a.t.map Tm.av)) (.int .i64 i) = some (.ref [.str a.t[i].s, .int .i64 a.t[i].n]) := fun m => idx (y := a.t[i].av) es_41 (by simp [hq])
    have hr := rest_take hb s
    have hrl : (rest (a.t.take i) s).length ≤ 1048576 := by have := rest_len (a.t.take i) s; rw [List.length_take] at this; omega
    refine AWp.skip ?_
    try simp
    (repeat refine AWp.seq ?_); refine AWp.block ?_
    (repeat refine AWp.seq ?_); refine AWp.region noP (by kernel_rfl) ?_
    simp [hx, s1, s12, s13, s4, s5, s14]
    intro g2 hg2
    have hgg := set_same st.mem g2 (.box [.str a.t[i].s, .int .i64 a.t[i].n])
    have k1 : g2 ≠ g4 := by rintro rfl; rw [sg4] at hg2; cases hg2
    have k2 : g2 ≠ g5 := by rintro rfl; rw [sg5] at hg2; cases hg2
    have tg4 : (st.mem.set g2 (.box [.str a.t[i].s, .int .i64 a.t[i].n])) g4 = some (.box cs4) := by rw [set_at, if_neg k1.symm]; exact sg4
    have tg5 : (st.mem.set g2 (.box [.str a.t[i].s, .int .i64 a.t[i].n])) g5 = some (.box [.int .i64 a.c, v]) := by rw [set_at, if_neg k2.symm]; exact sg5
    have hG1 := hG.put (g := g2) (fun _ _ _ _ h => by rw [hg2] at h; cases h) (.box [.str a.t[i].s, .int .i64 a.t[i].n])
    try simp [set_set]
    generalize st.mem.set g2 (.box [.str a.t[i].s, .int .i64 a.t[i].n]) = m1 at *
    (repeat refine AWp.seq ?_); refine AWp.region noP (by kernel_rfl) ?_
    simp [hx, s1, s12, s13, s4, s5, s14, hgg]
    by_cases he : a.t[i].s = s
    · rw [if_pos he] at hr
      (repeat refine AWp.seq ?_); refine AWp.condF (by simp [he]) ?_
      refine AWp.skip ?_
      try simp
      (repeat refine AWp.seq ?_); refine AWp.region noP (by kernel_rfl) ?_
      simp [s14, hw]
      exact hR _ (a.t.length - (i + 1)) (by omega) ⟨i + 1, v, rfl, hb, by simp [s1], by simp [s12], by simp [s13], by simp [s4], by simp [s5], by simp, ⟨cs4, by simp [tg4], hc4⟩, by simp [tg5], by rw [hr]; simpa using hG1⟩
    · rw [if_neg he] at hr
      (repeat refine AWp.seq ?_); refine AWp.condT (by simp [he]) ?_
      (repeat refine AWp.seq ?_); refine AWp.region noP (by kernel_rfl) ?_
      simp [hx, s1, s12, s13, s4, s5, s14, hgg, tg5, hgg]
      refine hG1.appB true a.t[i] (by omega) fun v' m' hG' hB => ?_
      have b5 := hB g5 _ tg5
      have b4 := hB g4 _ tg4
      have vk : (∃ f, v' = .lst true f []) ∨ (∃ g n c, v' = .own g n c) := by
        obtain ⟨_, ⟨_, f, h⟩ | ⟨g', c', h, _⟩⟩ := hG'
        · exact .inl ⟨f, h⟩
        · exact .inr ⟨_, _, _, h⟩
      have hG2 := hG'.put (g := g5) (fun _ _ _ _ h => by rw [b5] at h; cases h) (.box [.int .i64 a.c, v'])
      rcases vk with ⟨f', rfl⟩ | ⟨g', n', c', rfl⟩
      all_goals
        simp [s5, b5]
        (repeat refine AWp.seq ?_); refine AWp.region noP (by kernel_rfl) ?_
        simp [s14, hw]
        exact hR _ (a.t.length - (i + 1)) (by omega) ⟨i + 1, _, rfl, hb, by simp [s1], by simp [s12], by simp [s13], by simp [s4], by simp [s5], by simp, ⟨cs4, by simp [set_at, n5, b4], hc4⟩, by simp [set_at]; rfl, by rw [hr]; simpa using hG2⟩
  · simp at hb
    have : i = a.t.length := by omega
    subst this
    rw [List.take_length] at hG
    refine AWp.exit ?_
    try simp
    (repeat refine AWp.seq ?_); refine AWp.region noP (by kernel_rfl) ?_
    obtain ⟨c1, c2, rfl⟩ : ∃ c1 c2, cs4 = [c1, c2] := by
      match cs4, hc4 with
      | [c1, c2], _ => exact ⟨c1, c2, rfl⟩
    have hG2 := hG.put (g := g4) (fun _ _ _ _ h => by rw [sg4] at h; cases h) (.box [.int .i64 a.c, v])
    have vk : (∃ f, v = .lst true f []) ∨ (∃ g n c, v = .own g n c) := by
      obtain ⟨_, ⟨_, f, h⟩ | ⟨g', c', h, _⟩⟩ := hG
      · exact .inl ⟨f, h⟩
      · exact .inr ⟨_, _, _, h⟩
    rcases vk with ⟨f', rfl⟩ | ⟨g', n', c', rfl⟩
    all_goals
      simp [s4, s5, sg4, sg5]
      refine AWp.ret (post_cellW (q := .agg [.int .i64 a.c, _]) (m' := noM) (.inl rfl) rfl (by simp [s4, set_at]; rfl) (View.agg2 ?_ .i64 a.c))
      simpa using hG2.view
theorem c_l11Rest (a : Af) (s : ByteArray) (hl : a.t.length ≤ 1048576) : PCall Try.prog 44 [a.av, .str s] (Af.mk a.c (rest a.t s)).av := by
  refine pcall_of Try.func44 (by kernel_rfl) rfl (by simp [Try.f44]) ?_
  unfold Af.av
  have hc : a.cells = [.int .i64 a.c, .lst false 2 (a.t.map Tm.av)] := rfl
  have hc2 : (Af.mk a.c (rest a.t s)).cells = [.int .i64 a.c, tms (rest a.t s)] := rfl
  rw [hc, hc2]
  (repeat refine AWp.seq ?_); refine AWp.region noP (by kernel_rfl) ?_
  simp
  intro g g4 h4
  have n1 : g4 ≠ g := by rintro rfl; simp [set_at] at h4
  have n2 := n1.symm
  (repeat refine AWp.seq ?_); refine AWp.region noP (by kernel_rfl) ?_
  simp [set_at, n1, n2]
  intro g5 h5
  have n3 : g5 ≠ g4 := by rintro rfl; simp [set_at] at h5
  have n4 : g5 ≠ g := by rintro rfl; simp [set_at, n2] at h5
  have n5 := n3.symm
  have n6 := n4.symm
  try simp [set_set]
  (repeat refine AWp.seq ?_); refine AWp.region noP (by kernel_rfl) ?_
  try simp [set_at, n1, n2, n3, n4, n5, n6]
  (repeat refine AWp.seq ?_); refine AWp.block (AWp.rounds (fun m st => ∃ (i : Nat) (v : AV), m = a.t.length - i ∧ i ≤ a.t.length ∧ st.slots 1 = .str s ∧ st.slots 2 = .ptr g 0 ∧ st.slots 4 = .ptr g4 0 ∧ st.slots 5 = .ptr g5 0 ∧ st.slots 6 = .int .i64 i ∧ st.mem g = some (.box [.int .i64 a.c, .lst false 2 (a.t.map Tm.av)]) ∧ (∃ cs, st.mem g4 = some (.box cs) ∧ cs.length = 2) ∧ st.mem g5 = some (.box [.int .i64 a.c, v]) ∧ GT noM (rest (a.t.take i) s) v st.mem) a.t.length ⟨0, .lst true 0 [], by simp, by simp, by simp [set_at, n1, n2, n3, n4, n5, n6], by simp [set_at, n1, n2, n3, n4, n5, n6], by simp [set_at, n1, n2, n3, n4, n5, n6], by simp [set_at, n1, n2, n3, n4, n5, n6], by simp [set_at, n1, n2, n3, n4, n5, n6], by simp [set_at, n1, n2, n3, n4, n5, n6], ⟨_, by simp [set_at, n1, n2, n3, n4, n5, n6]; rfl, by simp⟩, by simp [set_at, n1, n2, n3, n4, n5, n6], ⟨fun _ _ h => (by cases h), .inl ⟨rfl, 0, rfl⟩⟩⟩ ?_)
  rintro R m st hR ⟨i, v, rfl, hi, s1, s2, s4, s5, s6, sg, ⟨cs4, sg4, hc4⟩, sg5, hG⟩
  (repeat refine AWp.seq ?_); refine AWp.region noP (by kernel_rfl) ?_
  try simp [s1, s2, s4, s5, s6, sg]
  (repeat refine AWp.seq ?_); refine AWp.cond (b := decide (i < a.t.length)) (by simp) (fun hb => ?_) (fun hb => ?_)
  · simp at hb
    have hq : a.t[i]? = some a.t[i] := List.getElem?_eq_getElem hb
    have hw : IntKind.wrap .i64 ((i : Int) + 1) = (i + 1 : Nat) := wrap64 (by omega) (by omega)
    have hx : ∀ m, idxA Try.prog m 41 (.lst false 2 (a.t.map Tm.av)) (.int .i64 i) = some (.ref [.str a.t[i].s, .int .i64 a.t[i].n]) := fun m => idx (y := a.t[i].av) es_41 (by simp [hq])
    have hr := rest_take hb s
    have hrl : (rest (a.t.take i) s).length ≤ 1048576 := by have := rest_len (a.t.take i) s; rw [List.length_take] at this; omega
    refine AWp.skip ?_
    try simp
    (repeat refine AWp.seq ?_); refine AWp.block ?_
    have tg4 := sg4
    have tg5 := sg5
    have hG1 := hG
    (repeat refine AWp.seq ?_); refine AWp.region noP (by kernel_rfl) ?_
    simp [hx, s1, s2, s4, s5, s6, sg]
    by_cases he : a.t[i].s = s
    · rw [if_pos he] at hr
      (repeat refine AWp.seq ?_); refine AWp.condF (by simp [he]) ?_
      refine AWp.skip ?_
      try simp
      (repeat refine AWp.seq ?_); refine AWp.region noP (by kernel_rfl) ?_
      simp [s6, hw]
      exact hR _ (a.t.length - (i + 1)) (by omega) ⟨i + 1, v, rfl, hb, by simp [s1], by simp [s2], by simp [s4], by simp [s5], by simp, by simp [sg], ⟨cs4, by simp [tg4], hc4⟩, by simp [tg5], by rw [hr]; simpa using hG1⟩
    · rw [if_neg he] at hr
      (repeat refine AWp.seq ?_); refine AWp.condT (by simp [he]) ?_
      (repeat refine AWp.seq ?_); refine AWp.region noP (by kernel_rfl) ?_
      simp [hx, s1, s2, s4, s5, s6, sg, tg5]
      refine hG1.appB true a.t[i] (by omega) fun v' m' hG' hB => ?_
      have b5 := hB g5 _ tg5
      have b4 := hB g4 _ tg4
      have bg := hB g _ sg
      have vk : (∃ f, v' = .lst true f []) ∨ (∃ g n c, v' = .own g n c) := by
        obtain ⟨_, ⟨_, f, h⟩ | ⟨g', c', h, _⟩⟩ := hG'
        · exact .inl ⟨f, h⟩
        · exact .inr ⟨_, _, _, h⟩
      have hG2 := hG'.put (g := g5) (fun _ _ _ _ h => by rw [b5] at h; cases h) (.box [.int .i64 a.c, v'])
      rcases vk with ⟨f', rfl⟩ | ⟨g', n', c', rfl⟩
      all_goals
        simp [s5, b5]
        (repeat refine AWp.seq ?_); refine AWp.region noP (by kernel_rfl) ?_
        simp [s6, hw]
        exact hR _ (a.t.length - (i + 1)) (by omega) ⟨i + 1, _, rfl, hb, by simp [s1], by simp [s2], by simp [s4], by simp [s5], by simp, by simp [set_at, n6, bg], ⟨cs4, by simp [set_at, n5, b4], hc4⟩, by simp [set_at]; rfl, by rw [hr]; simpa using hG2⟩
  · simp at hb
    have : i = a.t.length := by omega
    subst this
    rw [List.take_length] at hG
    refine AWp.exit ?_
    try simp
    (repeat refine AWp.seq ?_); refine AWp.region noP (by kernel_rfl) ?_
    obtain ⟨c1, c2, rfl⟩ : ∃ c1 c2, cs4 = [c1, c2] := by
      match cs4, hc4 with
      | [c1, c2], _ => exact ⟨c1, c2, rfl⟩
    have hG2 := hG.put (g := g4) (fun _ _ _ _ h => by rw [sg4] at h; cases h) (.box [.int .i64 a.c, v])
    have vk : (∃ f, v = .lst true f []) ∨ (∃ g n c, v = .own g n c) := by
      obtain ⟨_, ⟨_, f, h⟩ | ⟨g', c', h, _⟩⟩ := hG
      · exact .inl ⟨f, h⟩
      · exact .inr ⟨_, _, _, h⟩
    rcases vk with ⟨f', rfl⟩ | ⟨g', n', c', rfl⟩
    all_goals
      simp [s4, s5, sg4, sg5]
      refine AWp.ret (post_cellW (q := .agg [.int .i64 a.c, _]) (m' := noM) (.inl rfl) rfl (by simp [s4, set_at]; rfl) (View.agg2 ?_ .i64 a.c))
      simpa using hG2.view
end Go.T
namespace Go.T
open Go Go.Proofs
set_option maxRecDepth 10000
set_option linter.unusedSimpArgs false
set_option linter.unusedVariables false
theorem gcdL_app (n : Int) (l k : List Tm) : gcdL n (l ++ k) = gcdL (gcdL n l) k := by unfold gcdL; rw [List.foldl_append]
theorem c_spec_GcdMeet (f g : Af) (tf : f.tot ≤ 1048576) (tg : g.tot ≤ 1048576) : PCall Try.prog 40 [f.av, g.av] (.bool (gcdMeet f g)) := by
  obtain ⟨lf, _⟩ := Af.szs tf
  obtain ⟨lg, _⟩ := Af.szs tg
  have c1 := c_spec_AffOk f tf
  have c2 := c_spec_AffOk g tg
  refine pcall_of Try.func40 (by kernel_rfl) rfl (by simp [Try.f40]) ?_
  unfold Af.av at c1 c2 ⊢
  have hc_f : f.cells = [.int .i64 f.c, .lst false 2 (f.t.map Tm.av)] := rfl
  have hc_g : g.cells = [.int .i64 g.c, .lst false 2 (g.t.map Tm.av)] := rfl
  simp only [hc_f, hc_g] at c1 c2 ⊢
  cases x1 : f.ok
  · rw [x1] at c1
    have e : gcdMeet f g = false := by unfold gcdMeet; rw [x1]; rfl
    rw [e]
    (repeat refine AWp.seq ?_); refine AWp.region noP (by kernel_rfl) ?_
    simp
    intro k k2 h2
    have n1 : k2 ≠ k := by rintro rfl; simp [set_at] at h2
    have n2 := n1.symm
    repeat' (first
    | refine AWp.seq ?_
    | (refine AWp.region allP (by kernel_rfl) ?_; simp [set_at, n1, n2])
    | (refine AWp.condG ?_; simp [set_at, n1, n2])
    | (refine AWp.skip ?_; try simp)
    | (refine AWp.exit ?_; try simp)
    | refine AWp.block ?_
    | (refine aop_call' (c1) ?_; simp [set_at, n1, n2])
    | (refine aop_call' (c2) ?_; simp [set_at, n1, n2])
    | (refine AWp.ret (post_ret1 rfl ?_); (simp; done))
    | (refine guardI (fun hq => ?_) (fun hq => ?_) <;> (try simp at hq) <;> (try simp [set_at, n1, n2]))
    | (refine condRunI (fun hq => ?_) (fun hq => ?_) <;> (try simp at hq) <;> (try simp [set_at, n1, n2]))
    | (refine iteI (fun hq => ?_) (fun hq => ?_) <;> (try simp [set_at, n1, n2])))
  cases x2 : g.ok
  · rw [x1] at c1
    rw [x2] at c2
    have e : gcdMeet f g = false := by unfold gcdMeet; rw [x1, x2]; rfl
    rw [e]
    (repeat refine AWp.seq ?_); refine AWp.region noP (by kernel_rfl) ?_
    simp
    intro k k2 h2
    have n1 : k2 ≠ k := by rintro rfl; simp [set_at] at h2
    have n2 := n1.symm
    repeat' (first
    | refine AWp.seq ?_
    | (refine AWp.region allP (by kernel_rfl) ?_; simp [set_at, n1, n2])
    | (refine AWp.condG ?_; simp [set_at, n1, n2])
    | (refine AWp.skip ?_; try simp)
    | (refine AWp.exit ?_; try simp)
    | refine AWp.block ?_
    | (refine aop_call' (c1) ?_; simp [set_at, n1, n2])
    | (refine aop_call' (c2) ?_; simp [set_at, n1, n2])
    | (refine AWp.ret (post_ret1 rfl ?_); (simp; done))
    | (refine guardI (fun hq => ?_) (fun hq => ?_) <;> (try simp at hq) <;> (try simp [set_at, n1, n2]))
    | (refine condRunI (fun hq => ?_) (fun hq => ?_) <;> (try simp at hq) <;> (try simp [set_at, n1, n2]))
    | (refine iteI (fun hq => ?_) (fun hq => ?_) <;> (try simp [set_at, n1, n2])))
  rw [x1] at c1
  rw [x2] at c2
  have rf := Af.ok_c x1
  have rg := Af.ok_c x2
  have e : gcdMeet f g = (if gcdL 0 (f.t ++ g.t) = 0 then decide (f.c = g.c) else decide ((f.c - g.c).tmod (gcdL 0 (f.t ++ g.t)) = 0)) := by unfold gcdMeet; rw [x1, x2]; rfl
  rw [e]
  (repeat refine AWp.seq ?_); refine AWp.region noP (by kernel_rfl) ?_
  simp
  intro k k2 h2
  have n1 : k2 ≠ k := by rintro rfl; simp [set_at] at h2
  have n2 := n1.symm
  (repeat refine AWp.seq ?_); refine AWp.region allP (by kernel_rfl) ?_
  simp [set_at, n1, n2]
  refine aop_call' c1 ?_
  simp [set_at, n1, n2]
  refine aop_call' c2 ?_
  simp [set_at, n1, n2]
  (repeat refine AWp.seq ?_); refine AWp.condF (by simp) ?_
  refine AWp.skip ?_
  try simp
  (repeat refine AWp.seq ?_); refine AWp.region noP (by kernel_rfl) ?_
  try simp
  (repeat refine AWp.seq ?_); refine AWp.region noP (by kernel_rfl) ?_
  try simp
  (try refine AWp.seq ?_)
  refine AWp.cutA (fun st => st.slots 5 = .int .i64 (gcdL 0 f.t) ∧ st.slots 2 = .ptr k 0 ∧ st.slots 3 = .ptr k2 0 ∧ st.mem k = some (.box [.int .i64 f.c, .lst false 2 (f.t.map Tm.av)]) ∧ st.mem k2 = some (.box [.int .i64 g.c, .lst false 2 (g.t.map Tm.av)])) ?_ ?_
  · refine AWp.block (AWp.rounds (fun m st => ∃ (i : Nat) (n : Int), m = f.t.length - i ∧ i ≤ f.t.length ∧ gcdL 0 f.t = gcdL n (f.t.drop i) ∧ st.slots 5 = .int .i64 n ∧ st.slots 6 = .int .i64 i ∧ st.slots 2 = .ptr k 0 ∧ st.slots 3 = .ptr k2 0 ∧ st.mem k = some (.box [.int .i64 f.c, .lst false 2 (f.t.map Tm.av)]) ∧ st.mem k2 = some (.box [.int .i64 g.c, .lst false 2 (g.t.map Tm.av)])) f.t.length ⟨0, 0, by simp, by simp, by simp, by simp, by simp, by simp [set_at, n1, n2], by simp [set_at, n1, n2], by simp [set_at, n1, n2], by simp [set_at, n1, n2]⟩ ?_)
    rintro R m st hR ⟨i, n, rfl, hi, hr, s5, si, s2, s3, sk, sk2⟩
    (repeat refine AWp.seq ?_); refine AWp.region noP (by kernel_rfl) ?_
    try simp [s2, s3, sk, sk2, si]
    (repeat refine AWp.seq ?_); refine AWp.cond (b := decide (i < f.t.length)) (by simp) (fun hb => ?_) (fun hb => ?_)
    · simp at hb
      have hq : f.t[i]? = some f.t[i] := List.getElem?_eq_getElem hb
      have hw : IntKind.wrap .i64 ((i : Int) + 1) = (i + 1 : Nat) := wrap64 (by omega) (by omega)
      have hx : ∀ m, idxA Try.prog m 41 (.lst false 2 (f.t.map Tm.av)) (.int .i64 i) = some (.ref [.str f.t[i].s, .int .i64 f.t[i].n]) := fun m => idx (y := f.t[i].av) es_41 (by simp [hq])
      rw [gcdL_drop hb] at hr
      refine AWp.skip ?_
      try simp
      (repeat refine AWp.seq ?_); refine AWp.block ?_
      (repeat refine AWp.seq ?_); refine AWp.region allP (by kernel_rfl) ?_
      simp [s2, s3, sk, sk2, si, s5, hx]
      refine aop_call' (c_spec_Gcd _ _) ?_
      try simp
      (repeat refine AWp.seq ?_); refine AWp.region noP (by kernel_rfl) ?_
      simp [si, hw]
      exact hR _ (f.t.length - (i + 1)) (by omega) ⟨i + 1, _, rfl, hb, hr, by simp, by simp, by simp [s2], by simp [s3], by simp [sk], by simp [sk2]⟩
    · simp at hb
      have : i = f.t.length := by omega
      subst this
      rw [List.drop_length] at hr
      have hr2 : _ = n := hr
      refine AWp.exit ?_
      simp [s2, s3, sk, sk2, s5, hr2]
  rintro st ⟨s5, s2, s3, sk, sk2⟩
  (repeat refine AWp.seq ?_); refine AWp.region noP (by kernel_rfl) ?_
  simp [s2, s3, sk, sk2, s5]
  (try refine AWp.seq ?_)
  refine AWp.cutA (fun st => st.slots 5 = .int .i64 (gcdL 0 (f.t ++ g.t)) ∧ st.slots 2 = .ptr k 0 ∧ st.slots 3 = .ptr k2 0 ∧ st.mem k = some (.box [.int .i64 f.c, .lst false 2 (f.t.map Tm.av)]) ∧ st.mem k2 = some (.box [.int .i64 g.c, .lst false 2 (g.t.map Tm.av)])) ?_ ?_
  · refine AWp.block (AWp.rounds (fun m st => ∃ (i : Nat) (n : Int), m = g.t.length - i ∧ i ≤ g.t.length ∧ gcdL 0 (f.t ++ g.t) = gcdL n (g.t.drop i) ∧ st.slots 5 = .int .i64 n ∧ st.slots 7 = .int .i64 i ∧ st.slots 2 = .ptr k 0 ∧ st.slots 3 = .ptr k2 0 ∧ st.mem k = some (.box [.int .i64 f.c, .lst false 2 (f.t.map Tm.av)]) ∧ st.mem k2 = some (.box [.int .i64 g.c, .lst false 2 (g.t.map Tm.av)])) g.t.length ⟨0, gcdL 0 f.t, by simp, by simp, by simp [gcdL_app], by simp [s5], by simp, by simp [s2], by simp [s3], by simp [sk], by simp [sk2]⟩ ?_)
    rintro R m st hR ⟨i, n, rfl, hi, hr, s5, si, s2, s3, sk, sk2⟩
    (repeat refine AWp.seq ?_); refine AWp.region noP (by kernel_rfl) ?_
    try simp [s2, s3, sk, sk2, si]
    (repeat refine AWp.seq ?_); refine AWp.cond (b := decide (i < g.t.length)) (by simp) (fun hb => ?_) (fun hb => ?_)
    · simp at hb
      have hq : g.t[i]? = some g.t[i] := List.getElem?_eq_getElem hb
      have hw : IntKind.wrap .i64 ((i : Int) + 1) = (i + 1 : Nat) := wrap64 (by omega) (by omega)
      have hx : ∀ m, idxA Try.prog m 41 (.lst false 2 (g.t.map Tm.av)) (.int .i64 i) = some (.ref [.str g.t[i].s, .int .i64 g.t[i].n]) := fun m => idx (y := g.t[i].av) es_41 (by simp [hq])
      rw [gcdL_drop hb] at hr
      refine AWp.skip ?_
      try simp
      (repeat refine AWp.seq ?_); refine AWp.block ?_
      (repeat refine AWp.seq ?_); refine AWp.region allP (by kernel_rfl) ?_
      simp [s2, s3, sk, sk2, si, s5, hx]
      refine aop_call' (c_spec_Gcd _ _) ?_
      try simp
      (repeat refine AWp.seq ?_); refine AWp.region noP (by kernel_rfl) ?_
      simp [si, hw]
      exact hR _ (g.t.length - (i + 1)) (by omega) ⟨i + 1, _, rfl, hb, hr, by simp, by simp, by simp [s2], by simp [s3], by simp [sk], by simp [sk2]⟩
    · simp at hb
      have : i = g.t.length := by omega
      subst this
      rw [List.drop_length] at hr
      have hr2 : _ = n := hr
      refine AWp.exit ?_
      simp [s2, s3, sk, sk2, s5, hr2]
  clear s5 s2 s3 sk sk2
  rintro st ⟨s5, s2, s3, sk, sk2⟩
  have hw3 : IntKind.wrap .i64 (f.c - g.c) = f.c - g.c := wrap64 (by omega) (by omega)
  generalize hn : gcdL 0 (f.t ++ g.t) = n at *
  (repeat refine AWp.seq ?_); refine AWp.region noP (by kernel_rfl) ?_
  try simp [s2, s3, sk, sk2, s5, hw3]
  by_cases h0 : n = 0
  · rw [if_pos h0]
    (repeat refine AWp.seq ?_); refine AWp.condT (by simp [h0]) ?_
    (repeat refine AWp.seq ?_); refine AWp.region noP (by kernel_rfl) ?_
    simp [s2, s3, sk, sk2, s5, hw3]
    refine AWp.ret (post_ret1 rfl ?_)
    simp
    try omega
  · rw [if_neg h0]
    (repeat refine AWp.seq ?_); refine AWp.condF (by simp [h0]) ?_
    refine AWp.skip ?_
    try simp
    (repeat refine AWp.seq ?_); refine AWp.region noP (by kernel_rfl) ?_
    simp [s2, s3, sk, sk2, s5, hw3, h0]
    exact AWp.ret (post_ret1 rfl (by simp))
theorem c_impl_GcdMeet (f g : Af) (tf : f.tot ≤ 1048576) (tg : g.tot ≤ 1048576) : PCall Try.prog 49 [f.av, g.av] (.bool (gcdMeet f g)) := by
  obtain ⟨lf, _⟩ := Af.szs tf
  obtain ⟨lg, _⟩ := Af.szs tg
  have c1 := c_impl_AffOk f tf
  have c2 := c_impl_AffOk g tg
  refine pcall_of Try.func49 (by kernel_rfl) rfl (by simp [Try.f49]) ?_
  unfold Af.av at c1 c2 ⊢
  have hc_f : f.cells = [.int .i64 f.c, .lst false 2 (f.t.map Tm.av)] := rfl
  have hc_g : g.cells = [.int .i64 g.c, .lst false 2 (g.t.map Tm.av)] := rfl
  simp only [hc_f, hc_g] at c1 c2 ⊢
  cases x1 : f.ok
  · rw [x1] at c1
    have e : gcdMeet f g = false := by unfold gcdMeet; rw [x1]; rfl
    rw [e]
    (repeat refine AWp.seq ?_); refine AWp.region noP (by kernel_rfl) ?_
    simp
    intro k k2 h2
    have n1 : k2 ≠ k := by rintro rfl; simp [set_at] at h2
    have n2 := n1.symm
    repeat' (first
    | refine AWp.seq ?_
    | (refine AWp.region allP (by kernel_rfl) ?_; simp [set_at, n1, n2])
    | (refine AWp.condG ?_; simp [set_at, n1, n2])
    | (refine AWp.skip ?_; try simp)
    | (refine AWp.exit ?_; try simp)
    | refine AWp.block ?_
    | (refine aop_call' (c1) ?_; simp [set_at, n1, n2])
    | (refine aop_call' (c2) ?_; simp [set_at, n1, n2])
    | (refine AWp.ret (post_ret1 rfl ?_); (simp; done))
    | (refine guardI (fun hq => ?_) (fun hq => ?_) <;> (try simp at hq) <;> (try simp [set_at, n1, n2]))
    | (refine condRunI (fun hq => ?_) (fun hq => ?_) <;> (try simp at hq) <;> (try simp [set_at, n1, n2]))
    | (refine iteI (fun hq => ?_) (fun hq => ?_) <;> (try simp [set_at, n1, n2])))
  cases x2 : g.ok
  · rw [x1] at c1
    rw [x2] at c2
    have e : gcdMeet f g = false := by unfold gcdMeet; rw [x1, x2]; rfl
    rw [e]
    (repeat refine AWp.seq ?_); refine AWp.region noP (by kernel_rfl) ?_
    simp
    intro k k2 h2
    have n1 : k2 ≠ k := by rintro rfl; simp [set_at] at h2
    have n2 := n1.symm
    repeat' (first
    | refine AWp.seq ?_
    | (refine AWp.region allP (by kernel_rfl) ?_; simp [set_at, n1, n2])
    | (refine AWp.condG ?_; simp [set_at, n1, n2])
    | (refine AWp.skip ?_; try simp)
    | (refine AWp.exit ?_; try simp)
    | refine AWp.block ?_
    | (refine aop_call' (c1) ?_; simp [set_at, n1, n2])
    | (refine aop_call' (c2) ?_; simp [set_at, n1, n2])
    | (refine AWp.ret (post_ret1 rfl ?_); (simp; done))
    | (refine guardI (fun hq => ?_) (fun hq => ?_) <;> (try simp at hq) <;> (try simp [set_at, n1, n2]))
    | (refine condRunI (fun hq => ?_) (fun hq => ?_) <;> (try simp at hq) <;> (try simp [set_at, n1, n2]))
    | (refine iteI (fun hq => ?_) (fun hq => ?_) <;> (try simp [set_at, n1, n2])))
  rw [x1] at c1
  rw [x2] at c2
  have rf := Af.ok_c x1
  have rg := Af.ok_c x2
  have e : gcdMeet f g = (if gcdL 0 (f.t ++ g.t) = 0 then decide (f.c = g.c) else decide ((f.c - g.c).tmod (gcdL 0 (f.t ++ g.t)) = 0)) := by unfold gcdMeet; rw [x1, x2]; rfl
  rw [e]
  (repeat refine AWp.seq ?_); refine AWp.region noP (by kernel_rfl) ?_
  simp
  intro k k2 h2
  have n1 : k2 ≠ k := by rintro rfl; simp [set_at] at h2
  have n2 := n1.symm
  (repeat refine AWp.seq ?_); refine AWp.region allP (by kernel_rfl) ?_
  simp [set_at, n1, n2]
  refine aop_call' c1 ?_
  simp [set_at, n1, n2]
  refine aop_call' c2 ?_
  simp [set_at, n1, n2]
  (repeat refine AWp.seq ?_); refine AWp.condF (by simp) ?_
  refine AWp.skip ?_
  try simp
  (repeat refine AWp.seq ?_); refine AWp.region noP (by kernel_rfl) ?_
  try simp
  (repeat refine AWp.seq ?_); refine AWp.region noP (by kernel_rfl) ?_
  simp [set_at, n1, n2]
  refine aop_wcall _ _ _ _ _ _ _ _ rfl (eval_func _ _) ?_
  refine c_Concat [f.t, g.t] true (by simp [sumL]; omega) (by simp) fun v m' hG => ⟨tms (f.t ++ g.t), _, by simpa using hG.view, ?_⟩
  have lfg : (f.t ++ g.t).length = f.t.length + g.t.length := List.length_append
  unfold tms
  try simp only [← List.map_append]
  generalize hT : f.t ++ g.t = T at *
  try simp
  (try refine AWp.seq ?_)
  refine AWp.cutA (fun st => st.slots 5 = .int .i64 (gcdL 0 T) ∧ st.slots 2 = .ptr k 0 ∧ st.slots 3 = .ptr k2 0 ∧ st.mem k = some (.box [.int .i64 f.c, .lst false 2 (f.t.map Tm.av)]) ∧ st.mem k2 = some (.box [.int .i64 g.c, .lst false 2 (g.t.map Tm.av)])) ?_ ?_
  · refine AWp.block (AWp.rounds (fun m st => ∃ (i : Nat) (n : Int), m = T.length - i ∧ i ≤ T.length ∧ gcdL 0 T = gcdL n (T.drop i) ∧ st.slots 5 = .int .i64 n ∧ st.slots 22 = .lst false 2 (T.map Tm.av) ∧ st.slots 23 = .int .i64 T.length ∧ st.slots 24 = .int .i64 i ∧ st.slots 2 = .ptr k 0 ∧ st.slots 3 = .ptr k2 0 ∧ st.mem k = some (.box [.int .i64 f.c, .lst false 2 (f.t.map Tm.av)]) ∧ st.mem k2 = some (.box [.int .i64 g.c, .lst false 2 (g.t.map Tm.av)])) T.length ⟨0, 0, by simp, by simp, by simp, by simp, by simp, by simp, by simp, by simp [set_at, n1, n2], by simp [set_at, n1, n2], by simp [set_at, n1, n2], by simp [set_at, n1, n2]⟩ ?_)
    rintro R m st hR ⟨i, n, rfl, hi, hr, s5, s22, s23, s24, s2, s3, sk, sk2⟩
    (repeat refine AWp.seq ?_); refine AWp.region noP (by kernel_rfl) ?_
    try simp [s23, s24]
    (repeat refine AWp.seq ?_); refine AWp.cond (b := decide (i < T.length)) (by simp) (fun hb => ?_) (fun hb => ?_)
    · simp at hb
      have hq : T[i]? = some T[i] := List.getElem?_eq_getElem hb
      have hw : IntKind.wrap .i64 ((i : Int) + 1) = (i + 1 : Nat) := wrap64 (by omega) (by omega)
      have hx : ∀ m, idxA Try.prog m 41 (.lst false 2 (T.map Tm.av)) (.int .i64 i) = some (.ref [.str T[i].s, .int .i64 T[i].n]) := fun m => idx (y := T[i].av) es_41 (by simp [hq])
      rw [gcdL_drop hb] at hr
      refine AWp.skip ?_
      try simp
      (repeat refine AWp.seq ?_); refine AWp.block ?_
      (repeat refine AWp.seq ?_); refine AWp.region noP (by kernel_rfl) ?_
      simp [s22, s24, hx]
      intro h hh
      have hgg := set_same st.mem h (.box [.str T[i].s, .int .i64 T[i].n])
      have k1 : h ≠ k := by rintro rfl; rw [sk] at hh; cases hh
      have k3 : h ≠ k2 := by rintro rfl; rw [sk2] at hh; cases hh
      have tk : (st.mem.set h (.box [.str T[i].s, .int .i64 T[i].n])) k = some (.box [.int .i64 f.c, .lst false 2 (f.t.map Tm.av)]) := by rw [set_at, if_neg k1.symm]; exact sk
      have tk2 : (st.mem.set h (.box [.str T[i].s, .int .i64 T[i].n])) k2 = some (.box [.int .i64 g.c, .lst false 2 (g.t.map Tm.av)]) := by rw [set_at, if_neg k3.symm]; exact sk2
      try simp [set_set]
      generalize st.mem.set h (.box [.str T[i].s, .int .i64 T[i].n]) = m1 at *
      (repeat refine AWp.seq ?_); refine AWp.region allP (by kernel_rfl) ?_
      simp [s5, hgg]
      refine aop_call' (c_impl_Gcd _ _) ?_
      try simp
      (repeat refine AWp.seq ?_); refine AWp.region noP (by kernel_rfl) ?_
      simp [s24, hw]
      exact hR _ (T.length - (i + 1)) (by omega) ⟨i + 1, _, rfl, hb, hr, by simp, by simp [s22], by simp [s23], by simp, by simp [s2], by simp [s3], by simp [tk], by simp [tk2]⟩
    · simp at hb
      have : i = T.length := by omega
      subst this
      rw [List.drop_length] at hr
      have hr2 : _ = n := hr
      refine AWp.exit ?_
      simp [s2, s3, sk, sk2, s5, hr2]
  rintro st ⟨s5, s2, s3, sk, sk2⟩
  have hw3 : IntKind.wrap .i64 (f.c - g.c) = f.c - g.c := wrap64 (by omega) (by omega)
  generalize hn : gcdL 0 T = n at *
  (repeat refine AWp.seq ?_); refine AWp.region noP (by kernel_rfl) ?_
  simp [s2, s3, sk, sk2, s5, hw3]
  (repeat refine AWp.seq ?_); refine AWp.region noP (by kernel_rfl) ?_
  try simp [s2, s3, sk, sk2, s5, hw3]
  by_cases h0 : n = 0
  · rw [if_pos h0]
    (repeat refine AWp.seq ?_); refine AWp.condT (by simp [h0]) ?_
    (repeat refine AWp.seq ?_); refine AWp.region noP (by kernel_rfl) ?_
    simp [s2, s3, sk, sk2, s5, hw3]
    refine AWp.ret (post_ret1 rfl ?_)
    simp
    try omega
  · rw [if_neg h0]
    (repeat refine AWp.seq ?_); refine AWp.condF (by simp [h0]) ?_
    refine AWp.skip ?_
    try simp
    (repeat refine AWp.seq ?_); refine AWp.region noP (by kernel_rfl) ?_
    simp [s2, s3, sk, sk2, s5, hw3, h0]
    exact AWp.ret (post_ret1 rfl (by simp))
theorem c_spec_RngMeet (f g : Af) (tf : f.tot ≤ 1048576) (tg : g.tot ≤ 1048576) (l : List Rg) (hz : szR l) : PCall Try.prog 41 [f.av, g.av, rgs l] (.bool (rngMeet f g l)) := by
  have c1 := c_Least f tf l hz
  have c2 := c_Most f tf l hz
  have c3 := c_Least g tg l hz
  have c4 := c_Most g tg l hz
  refine pcall_of Try.func41 (by kernel_rfl) rfl (by simp [Try.f41]) ?_
  unfold Af.av at c1 c2 c3 c4 ⊢
  have hc_f : f.cells = [.int .i64 f.c, .lst false 2 (f.t.map Tm.av)] := rfl
  have hc_g : g.cells = [.int .i64 g.c, .lst false 2 (g.t.map Tm.av)] := rfl
  simp only [hc_f, hc_g] at c1 c2 c3 c4 ⊢
  unfold rgs at c1 c2 c3 c4 ⊢
  unfold rngMeet
  generalize f.ends l = A at *
  generalize g.ends l = B at *
  obtain ⟨a, b, x⟩ := A
  obtain ⟨c, d, y⟩ := B
  simp only at c1 c2 c3 c4 ⊢
  (repeat refine AWp.seq ?_); refine AWp.region noP (by kernel_rfl) ?_
  simp
  intro k k2 h2
  have n1 : k2 ≠ k := by rintro rfl; simp [set_at] at h2
  have n2 := n1.symm
  (repeat refine AWp.seq ?_); refine AWp.region noP (by kernel_rfl) ?_
  simp [set_at, n1, n2]
  refine aop_call' c1 ?_
  simp [set_at, n1, n2]
  (repeat refine AWp.seq ?_); refine AWp.region noP (by kernel_rfl) ?_
  simp [set_at, n1, n2]
  refine aop_call' c2 ?_
  simp [set_at, n1, n2]
  (repeat refine AWp.seq ?_); refine AWp.region noP (by kernel_rfl) ?_
  simp [set_at, n1, n2]
  refine aop_call' c3 ?_
  simp [set_at, n1, n2]
  (repeat refine AWp.seq ?_); refine AWp.region noP (by kernel_rfl) ?_
  simp [set_at, n1, n2]
  refine aop_call' c4 ?_
  simp [set_at, n1, n2]
  cases x <;> cases y <;> by_cases h1 : a ≤ d <;> by_cases h2 : c ≤ b <;>
  · repeat' (first
    | refine AWp.seq ?_
    | (refine AWp.region allP (by kernel_rfl) ?_; simp [h1, h2])
    | (refine AWp.condG ?_; simp [h1, h2])
    | (refine AWp.skip ?_; try simp)
    | (refine AWp.exit ?_; try simp)
    | refine AWp.block ?_
    | (refine AWp.ret (post_ret1 rfl ?_); (simp; done))
    | (refine guardI (fun hq => ?_) (fun hq => ?_) <;> (try simp at hq) <;> (try simp [h1, h2]))
    | (refine condRunI (fun hq => ?_) (fun hq => ?_) <;> (try simp at hq) <;> (try simp [h1, h2]))
    | (refine iteI (fun hq => ?_) (fun hq => ?_) <;> (try simp [h1, h2])))
theorem c_impl_RngMeet (f g : Af) (tf : f.tot ≤ 1048576) (tg : g.tot ≤ 1048576) (l : List Rg) (hz : szR l) : PCall Try.prog 50 [f.av, g.av, rgs l] (.bool (rngMeet f g l)) := by
  have c1 := c_extremes f tf l hz
  have c2 := c_extremes g tg l hz
  refine pcall_of Try.func50 (by kernel_rfl) rfl (by simp [Try.f50]) ?_
  unfold Af.av at c1 c2 ⊢
  have hc_f : f.cells = [.int .i64 f.c, .lst false 2 (f.t.map Tm.av)] := rfl
  have hc_g : g.cells = [.int .i64 g.c, .lst false 2 (g.t.map Tm.av)] := rfl
  simp only [hc_f, hc_g] at c1 c2 ⊢
  unfold rgs at c1 c2 ⊢
  unfold rngMeet
  generalize f.ends l = A at *
  generalize g.ends l = B at *
  obtain ⟨a, b, x⟩ := A
  obtain ⟨c, d, y⟩ := B
  simp only at c1 c2 ⊢
  (repeat refine AWp.seq ?_); refine AWp.region noP (by kernel_rfl) ?_
  simp
  intro k k2 h2
  have n1 : k2 ≠ k := by rintro rfl; simp [set_at] at h2
  have n2 := n1.symm
  (repeat refine AWp.seq ?_); refine AWp.region noP (by kernel_rfl) ?_
  simp [set_at, n1, n2]
  refine aop_call' c1 ?_
  simp [set_at, n1, n2]
  (repeat refine AWp.seq ?_); refine AWp.region noP (by kernel_rfl) ?_
  simp [set_at, n1, n2]
  refine aop_call' c2 ?_
  simp [set_at, n1, n2]
  cases x <;> cases y <;> by_cases h1 : a ≤ d <;> by_cases h2 : c ≤ b <;>
  · repeat' (first
    | refine AWp.seq ?_
    | (refine AWp.region allP (by kernel_rfl) ?_; simp [h1, h2])
    | (refine AWp.condG ?_; simp [h1, h2])
    | (refine AWp.skip ?_; try simp)
    | (refine AWp.exit ?_; try simp)
    | refine AWp.block ?_
    | (refine AWp.ret (post_ret1 rfl ?_); (simp; done))
    | (refine guardI (fun hq => ?_) (fun hq => ?_) <;> (try simp at hq) <;> (try simp [h1, h2]))
    | (refine condRunI (fun hq => ?_) (fun hq => ?_) <;> (try simp at hq) <;> (try simp [h1, h2]))
    | (refine iteI (fun hq => ?_) (fun hq => ?_) <;> (try simp [h1, h2])))
theorem totL_filter (q : Tm → Bool) : ∀ l : List Tm, totL Tm.tot (l.filter q) ≤ totL Tm.tot l
  | [] => Nat.le_refl _
  | t :: l => by
    have := totL_filter q l
    simp only [List.filter_cons]
    split
    · simp only [totL]; omega
    · simp only [totL]; omega
theorem rest_tot {a : Af} (h : a.tot ≤ 1048576) (s : ByteArray) : (Af.mk a.c (rest a.t s)).tot ≤ 1048576 := by
  have := totL_filter (fun t => decide (t.s ≠ s)) a.t
  unfold Af.tot at h ⊢
  unfold rest
  simp only
  omega
theorem anyNear_succ (n lo hi i : Int) (k : Nat) : anyNear n lo hi i (k + 1) = (near n lo hi i || anyNear n lo hi (i + 1) k) := rfl
theorem rng_ok {f g : Af} {l : List Rg} (h : rngMeet f g l = true) : full l = true := by
  unfold rngMeet at h
  simp only [Bool.and_eq_true] at h
  have h1 := h.1
  unfold Af.ends at h1
  split at h1
  · rename_i k; exact k.2
  · cases h1
theorem c_spec_MayMeet (f g : Af) (tf : f.tot ≤ 1048576) (tg : g.tot ≤ 1048576) (s : ByteArray) (l : List Rg) (hz : szR l) : PCall Try.prog 13 [f.av, g.av, .str s, rgs l] (.bool (mayMeet f g s l)) := by
  obtain ⟨lf, _⟩ := Af.szs tf
  obtain ⟨lg, _⟩ := Af.szs tg
  have c1 := c_spec_GcdMeet f g tf tg
  have c2 := c_spec_RngMeet f g tf tg l hz
  have c3 := c_spec_CoefOf f s lf
  have c4 := c_spec_CoefOf g s lg
  have c5 := c_l9At l s hz.1
  have c6 := c_l11Rest f s lf
  have c7 := c_l11Rest g s lg
  have c8 := c_Least _ (rest_tot tf s) l hz
  have c9 := c_Most _ (rest_tot tf s) l hz
  have c10 := c_Least _ (rest_tot tg s) l hz
  have c11 := c_Most _ (rest_tot tg s) l hz
  have e1 := Af.ends_small (a := Af.mk f.c (rest f.t s)) (box := l) (by have := rest_len f.t s; simp only; omega)
  have e2 := Af.ends_small (a := Af.mk g.c (rest g.t s)) (box := l) (by have := rest_len g.t s; simp only; omega)
  refine pcall_of Try.func13 (by kernel_rfl) rfl (by simp [Try.f13]) ?_
  generalize hrf : Af.mk f.c (rest f.t s) = F at *
  generalize hrg : Af.mk g.c (rest g.t s) = G at *
  unfold Af.av at c1 c2 c3 c4 c6 c7 c8 c9 c10 c11 ⊢
  have hc_f : f.cells = [.int .i64 f.c, .lst false 2 (f.t.map Tm.av)] := rfl
  have hc_g : g.cells = [.int .i64 g.c, .lst false 2 (g.t.map Tm.av)] := rfl
  have hc_F : F.cells = [.int .i64 F.c, .lst false 2 (F.t.map Tm.av)] := rfl
  have hc_G : G.cells = [.int .i64 G.c, .lst false 2 (G.t.map Tm.av)] := rfl
  simp only [hc_f, hc_g, hc_F, hc_G] at c1 c2 c3 c4 c6 c7 c8 c9 c10 c11 ⊢
  unfold rgs at c2 c5 c8 c9 c10 c11 ⊢
  have hmm : mayMeet f g s l = (gcdMeet f g && (rngMeet f g l && (if coef f.t s = 0 ∨ coef f.t s ≠ coef g.t s then true else match rgOf l s with | none => true | some r => anyNear (coef f.t s) ((G.ends l).1 - (F.ends l).2.1) ((G.ends l).2.1 - (F.ends l).1) 1 (r.hi - r.lo).toNat))) := by
    subst hrf hrg; rfl
  generalize mayMeet f g s l = res at *
  cases x1 : gcdMeet f g
  · rw [x1] at c1 hmm
    simp only [Bool.false_and] at hmm
    subst hmm
    (repeat refine AWp.seq ?_); refine AWp.region noP (by kernel_rfl) ?_
    simp
    intro k k2 h2
    have n1 : k2 ≠ k := by rintro rfl; simp [set_at] at h2
    have n2 := n1.symm
    repeat' (first
    | refine AWp.seq ?_
    | (refine AWp.region allP (by kernel_rfl) ?_; simp [set_at, n1, n2])
    | (refine AWp.condG ?_; simp [set_at, n1, n2])
    | (refine AWp.skip ?_; try simp)
    | (refine AWp.exit ?_; try simp)
    | refine AWp.block ?_
    | (refine aop_call' (c1) ?_; simp [set_at, n1, n2])
    | (refine AWp.ret (post_ret1 rfl ?_); (simp; done))
    | (refine guardI (fun hq => ?_) (fun hq => ?_) <;> (try simp at hq) <;> (try simp [set_at, n1, n2]))
    | (refine condRunI (fun hq => ?_) (fun hq => ?_) <;> (try simp at hq) <;> (try simp [set_at, n1, n2]))
    | (refine iteI (fun hq => ?_) (fun hq => ?_) <;> (try simp [set_at, n1, n2])))
  cases x2 : rngMeet f g l
  · rw [x1] at c1
    rw [x2] at c2
    rw [x1, x2] at hmm
    simp only [Bool.true_and, Bool.false_and] at hmm
    subst hmm
    (repeat refine AWp.seq ?_); refine AWp.region noP (by kernel_rfl) ?_
    simp
    intro k k2 h2
    have n1 : k2 ≠ k := by rintro rfl; simp [set_at] at h2
    have n2 := n1.symm
    repeat' (first
    | refine AWp.seq ?_
    | (refine AWp.region allP (by kernel_rfl) ?_; simp [set_at, n1, n2])
    | (refine AWp.condG ?_; simp [set_at, n1, n2])
    | (refine AWp.skip ?_; try simp)
    | (refine AWp.exit ?_; try simp)
    | refine AWp.block ?_
    | (refine aop_call' (c1) ?_; simp [set_at, n1, n2])
    | (refine aop_call' (c2) ?_; simp [set_at, n1, n2])
    | (refine AWp.ret (post_ret1 rfl ?_); (simp; done))
    | (refine guardI (fun hq => ?_) (fun hq => ?_) <;> (try simp at hq) <;> (try simp [set_at, n1, n2]))
    | (refine condRunI (fun hq => ?_) (fun hq => ?_) <;> (try simp at hq) <;> (try simp [set_at, n1, n2]))
    | (refine iteI (fun hq => ?_) (fun hq => ?_) <;> (try simp [set_at, n1, n2])))
  rw [x1] at c1
  rw [x2] at c2
  have okf : f.ok = true := by unfold gcdMeet at x1; simp only [Bool.and_eq_true] at x1; exact x1.1
  have cf := coef_small (fun t ht => by have := Af.ok_row okf ht; omega) s
  have hfull := rng_ok x2
  rw [x1, x2] at hmm
  simp only [Bool.true_and] at hmm
  generalize coef f.t s = n at *
  generalize coef g.t s = n' at *
  generalize F.ends l = A at *
  generalize G.ends l = B at *
  obtain ⟨a, b, p⟩ := A
  obtain ⟨c, d, q⟩ := B
  simp only at c8 c9 c10 c11 e1 e2 hmm
  have pre : ∀ (X : Prop), X → X := fun _ h => h
  (repeat refine AWp.seq ?_); refine AWp.region noP (by kernel_rfl) ?_
  simp
  intro k k2 h2
  have n1 : k2 ≠ k := by rintro rfl; simp [set_at] at h2
  have n2 := n1.symm
  (repeat refine AWp.seq ?_); refine AWp.region allP (by kernel_rfl) ?_
  simp [set_at, n1, n2]
  refine aop_call' c1 ?_
  simp [set_at, n1, n2]
  refine aop_call' c2 ?_
  simp [set_at, n1, n2]
  (repeat refine AWp.seq ?_); refine AWp.condF (by simp) ?_
  refine AWp.skip ?_
  try simp
  (repeat refine AWp.seq ?_); refine AWp.region allP (by kernel_rfl) ?_
  simp [set_at, n1, n2]
  refine aop_call' c3 ?_
  try simp
  (repeat refine AWp.seq ?_); refine AWp.region allP (by kernel_rfl) ?_
  try simp
  refine aop_call' c5 ?_
  try simp
  by_cases z1 : n = 0
  · rw [if_pos (Or.inl z1)] at hmm
    subst hmm
    repeat' (first
    | refine AWp.seq ?_
    | (refine AWp.region allP (by kernel_rfl) ?_; simp [set_at, n1, n2, z1])
    | (refine AWp.condG ?_; simp [set_at, n1, n2, z1])
    | (refine AWp.skip ?_; try simp)
    | (refine AWp.exit ?_; try simp)
    | refine AWp.block ?_
    | (refine aop_call' (c4) ?_; simp [set_at, n1, n2, z1])
    | (refine AWp.ret (post_ret1 rfl ?_); (simp; done))
    | (refine guardI (fun hq => ?_) (fun hq => ?_) <;> (try simp at hq) <;> (try simp [set_at, n1, n2, z1]))
    | (refine condRunI (fun hq => ?_) (fun hq => ?_) <;> (try simp at hq) <;> (try simp [set_at, n1, n2, z1]))
    | (refine iteI (fun hq => ?_) (fun hq => ?_) <;> (try simp [set_at, n1, n2, z1])))
  by_cases z2 : n ≠ n'
  · rw [if_pos (Or.inr z2)] at hmm
    subst hmm
    repeat' (first
    | refine AWp.seq ?_
    | (refine AWp.region allP (by kernel_rfl) ?_; simp [set_at, n1, n2, z1, z2])
    | (refine AWp.condG ?_; simp [set_at, n1, n2, z1, z2])
    | (refine AWp.skip ?_; try simp)
    | (refine AWp.exit ?_; try simp)
    | refine AWp.block ?_
    | (refine aop_call' (c4) ?_; simp [set_at, n1, n2, z1, z2])
    | (refine AWp.ret (post_ret1 rfl ?_); (simp; done))
    | (refine guardI (fun hq => ?_) (fun hq => ?_) <;> (try simp at hq) <;> (try simp [set_at, n1, n2, z1, z2]))
    | (refine condRunI (fun hq => ?_) (fun hq => ?_) <;> (try simp at hq) <;> (try simp [set_at, n1, n2, z1, z2]))
    | (refine iteI (fun hq => ?_) (fun hq => ?_) <;> (try simp [set_at, n1, n2, z1, z2])))
  replace z2 : n = n' := Classical.not_not.1 z2
  subst z2
  rw [if_neg (by simp [z1])] at hmm
  by_cases z3 : rgAt l s < 0
  · rw [rgOf_neg z3] at hmm
    simp only at hmm
    subst hmm
    repeat' (first
    | refine AWp.seq ?_
    | (refine AWp.region allP (by kernel_rfl) ?_; simp [set_at, n1, n2, z1, z3])
    | (refine AWp.condG ?_; simp [set_at, n1, n2, z1, z3])
    | (refine AWp.skip ?_; try simp)
    | (refine AWp.exit ?_; try simp)
    | refine AWp.block ?_
    | (refine aop_call' (c4) ?_; simp [set_at, n1, n2, z1, z3])
    | (refine AWp.ret (post_ret1 rfl ?_); (simp; done))
    | (refine guardI (fun hq => ?_) (fun hq => ?_) <;> (try simp at hq) <;> (try simp [set_at, n1, n2, z1, z3]))
    | (refine condRunI (fun hq => ?_) (fun hq => ?_) <;> (try simp at hq) <;> (try simp [set_at, n1, n2, z1, z3]))
    | (refine iteI (fun hq => ?_) (fun hq => ?_) <;> (try simp [set_at, n1, n2, z1, z3])))
  obtain ⟨j, hj, hja, hjr⟩ := rgAt_get z3
  rw [hjr] at hmm
  simp only at hmm
  have hfr := full_row hfull (List.getElem_mem hj)
  have hx3 : ∀ m, idxA Try.prog m 45 (.lst false 3 (l.map Rg.av)) (.int .i64 j) = some (.ref [.str l[j].s, .int .i64 l[j].lo, .int .i64 l[j].hi]) := fun m => idx (y := l[j].av) es_45 (by simp [List.getElem?_eq_getElem hj])
  generalize hlo : l[j].lo = lo at *
  generalize hhi : l[j].hi = hi at *
  subst hmm
  have hwd : IntKind.wrap .i64 (hi - lo) = hi - lo := wrap64 (by omega) (by omega)
  have hw1 : IntKind.wrap .i64 (c - b) = c - b := wrap64 (by omega) (by omega)
  have hw2 : IntKind.wrap .i64 (d - a) = d - a := wrap64 (by omega) (by omega)
  have hw3 : IntKind.wrap .i64 (-n) = -n := wrap64 (by omega) (by omega)
  (repeat refine AWp.seq ?_); refine AWp.region allP (by kernel_rfl) ?_
  simp [z1, set_at, n1, n2]
  refine aop_call' c4 ?_
  simp [z1, z3, hja, set_at, n1, n2]
  (repeat refine AWp.seq ?_); refine AWp.condF (by simp [z1, z3]) ?_
  refine AWp.skip ?_
  try simp
  (repeat refine AWp.seq ?_); refine AWp.region noP (by kernel_rfl) ?_
  simp [set_at, n1, n2]
  refine aop_call' c6 ?_
  simp [set_at, n1, n2]
  intro k3 h3
  have n3 : k3 ≠ k := by rintro rfl; simp [set_at, n2] at h3
  have n4 : k3 ≠ k2 := by rintro rfl; simp [set_at] at h3
  have n5 := n3.symm
  have n6 := n4.symm
  try simp [set_set]
  (repeat refine AWp.seq ?_); refine AWp.region noP (by kernel_rfl) ?_
  simp [set_at, n1, n2, n3, n4, n5, n6]
  refine aop_call' c7 ?_
  simp [set_at, n1, n2, n3, n4, n5, n6]
  intro k4 h4
  have m1 : k4 ≠ k := by rintro rfl; simp [set_at, n2, n5] at h4
  have m2 : k4 ≠ k2 := by rintro rfl; simp [set_at, n6] at h4
  have m3 : k4 ≠ k3 := by rintro rfl; simp [set_at] at h4
  have m4 := m1.symm
  have m5 := m2.symm
  have m6 := m3.symm
  try simp [set_set]
  (repeat refine AWp.seq ?_); refine AWp.region noP (by kernel_rfl) ?_
  simp [set_at, n1, n2, n3, n4, n5, n6, m1, m2, m3, m4, m5, m6]
  refine aop_call' c8 ?_
  simp [set_at, n1, n2, n3, n4, n5, n6, m1, m2, m3, m4, m5, m6]
  (repeat refine AWp.seq ?_); refine AWp.region noP (by kernel_rfl) ?_
  simp [set_at, n1, n2, n3, n4, n5, n6, m1, m2, m3, m4, m5, m6]
  refine aop_call' c9 ?_
  simp [set_at, n1, n2, n3, n4, n5, n6, m1, m2, m3, m4, m5, m6]
  (repeat refine AWp.seq ?_); refine AWp.region noP (by kernel_rfl) ?_
  simp [set_at, n1, n2, n3, n4, n5, n6, m1, m2, m3, m4, m5, m6]
  refine aop_call' c10 ?_
  simp [set_at, n1, n2, n3, n4, n5, n6, m1, m2, m3, m4, m5, m6]
  (repeat refine AWp.seq ?_); refine AWp.region noP (by kernel_rfl) ?_
  simp [set_at, n1, n2, n3, n4, n5, n6, m1, m2, m3, m4, m5, m6]
  refine aop_call' c11 ?_
  simp [set_at, n1, n2, n3, n4, n5, n6, m1, m2, m3, m4, m5, m6]
  (repeat refine AWp.seq ?_); refine AWp.region noP (by kernel_rfl) ?_
  try simp
  (repeat refine AWp.seq ?_); refine AWp.block (AWp.rounds (fun m st => ∃ (i : Nat), m = (hi - lo).toNat - i ∧ i ≤ (hi - lo).toNat ∧ anyNear n (c - b) (d - a) 1 (hi - lo).toNat = anyNear n (c - b) (d - a) (1 + i) ((hi - lo).toNat - i) ∧ st.slots 3 = .lst false 3 (l.map Rg.av) ∧ st.slots 9 = .int .i64 n ∧ st.slots 10 = .int .i64 j ∧ st.slots 13 = .int .i64 a ∧ st.slots 15 = .int .i64 b ∧ st.slots 17 = .int .i64 c ∧ st.slots 19 = .int .i64 d ∧ st.slots 21 = .int .i64 (1 + i)) (hi - lo).toNat ⟨0, by simp, by simp, by simp, by simp, by simp, by simp, by simp, by simp, by simp, by simp, by simp⟩ ?_)
  rintro R m st hR ⟨i, rfl, hil, hr, s3, s9, s10, s13, s15, s17, s19, si⟩
  (repeat refine AWp.seq ?_); refine AWp.region allP (by kernel_rfl) ?_
  simp [s3, s9, s10, s13, s15, s17, s19, si, hx3, hwd, hlo, hhi]
  (repeat refine AWp.seq ?_); refine AWp.cond (b := decide (1 + (i : Int) ≤ hi - lo)) (by simp) (fun hb => ?_) (fun hb => ?_)
  · simp at hb
    have hcnt : (hi - lo).toNat - i = ((hi - lo).toNat - (i + 1)) + 1 := by omega
    have hw : IntKind.wrap .i64 (1 + (i : Int) + 1) = 1 + ((i + 1 : Nat) : Int) := by rw [wrap64 (by omega) (by omega)]; omega
    have p1 := mul_small (a := n) (b := 1 + (i : Int)) (A := 100000) (B := 20000) (by omega) (by omega) (by omega) (by omega) (by omega)
    have p2 := mul_small (a := -n) (b := 1 + (i : Int)) (A := 100000) (B := 20000) (by omega) (by omega) (by omega) (by omega) (by omega)
    have w1 : IntKind.wrap .i64 (n * (1 + (i : Int))) = n * (1 + (i : Int)) := wrap64 (by omega) (by omega)
    have w2 : IntKind.wrap .i64 (-n * (1 + (i : Int))) = -n * (1 + (i : Int)) := wrap64 (by omega) (by omega)
    rw [hcnt, anyNear_succ] at hr
    unfold near at hr
    refine AWp.skip ?_
    try simp
    (repeat refine AWp.seq ?_); refine AWp.block ?_
    (repeat refine AWp.seq ?_); refine AWp.region allP (by kernel_rfl) ?_
    simp [s3, s9, s10, s13, s15, s17, s19, si, hw1, hw2, hw3]
    rw [w1]
    refine aop_call' (c_l1In _ _ _) ?_
    cases v1 : inR (n * (1 + (i : Int))) (c - b) (d - a)
    · simp [s3, s9, s10, s13, s15, s17, s19, si, hw1, hw2, hw3]
      rw [w2]
      refine aop_call' (c_l1In _ _ _) ?_
      cases v2 : inR (-n * (1 + (i : Int))) (c - b) (d - a)
      · rw [v1, v2] at hr
        simp
        (repeat refine AWp.seq ?_); refine AWp.condF (by simp) ?_
        refine AWp.skip ?_
        try simp
        (repeat refine AWp.seq ?_); refine AWp.region noP (by kernel_rfl) ?_
        simp [si, hw]
        exact hR _ ((hi - lo).toNat - (i + 1)) (by omega) ⟨i + 1, rfl, by omega, by rw [hr]; simp; try (congr 1 <;> omega), by simp [s3], by simp [s9], by simp [s10], by simp [s13], by simp [s15], by simp [s17], by simp [s19], by simp⟩
      · rw [v1, v2] at hr
        simp
        (repeat refine AWp.seq ?_); refine AWp.condT (by simp) ?_
        (repeat refine AWp.seq ?_); refine AWp.region noP (by kernel_rfl) ?_
        try simp
        exact AWp.ret (post_ret1 rfl (by simp [hr]))
    · rw [v1] at hr
      simp
      (repeat refine AWp.seq ?_); refine AWp.condT (by simp) ?_
      (repeat refine AWp.seq ?_); refine AWp.region noP (by kernel_rfl) ?_
      try simp
      exact AWp.ret (post_ret1 rfl (by simp [hr]))
  · simp at hb
    have : (hi - lo).toNat - i = 0 := by omega
    rw [this, anyNear] at hr
    refine AWp.exit ?_
    try simp
    (repeat refine AWp.seq ?_); refine AWp.region noP (by kernel_rfl) ?_
    try simp
    exact AWp.ret (post_ret1 rfl (by simp [hr]))
theorem c_impl_MayMeet (f g : Af) (tf : f.tot ≤ 1048576) (tg : g.tot ≤ 1048576) (s : ByteArray) (l : List Rg) (hz : szR l) : PCall Try.prog 16 [f.av, g.av, .str s, rgs l] (.bool (mayMeet f g s l)) := by
  obtain ⟨lf, _⟩ := Af.szs tf
  obtain ⟨lg, _⟩ := Af.szs tg
  have c1 := c_impl_GcdMeet f g tf tg
  have c2 := c_impl_RngMeet f g tf tg l hz
  have c3 := c_impl_CoefOf f s lf
  have c4 := c_impl_CoefOf g s lg
  have c5 := c_rngAt l s hz.1
  have c6 := c_restOf f s lf
  have c7 := c_restOf g s lg
  have c8 := c_extremes _ (rest_tot tf s) l hz
  have c9 := c_extremes _ (rest_tot tg s) l hz
  have e1 := Af.ends_small (a := Af.mk f.c (rest f.t s)) (box := l) (by have := rest_len f.t s; simp only; omega)
  have e2 := Af.ends_small (a := Af.mk g.c (rest g.t s)) (box := l) (by have := rest_len g.t s; simp only; omega)
  refine pcall_of Try.func16 (by kernel_rfl) rfl (by simp [Try.f16]) ?_
  generalize hrf : Af.mk f.c (rest f.t s) = F at *
  generalize hrg : Af.mk g.c (rest g.t s) = G at *
  unfold Af.av at c1 c2 c3 c4 c6 c7 c8 c9 ⊢
  have hc_f : f.cells = [.int .i64 f.c, .lst false 2 (f.t.map Tm.av)] := rfl
  have hc_g : g.cells = [.int .i64 g.c, .lst false 2 (g.t.map Tm.av)] := rfl
  have hc_F : F.cells = [.int .i64 F.c, .lst false 2 (F.t.map Tm.av)] := rfl
  have hc_G : G.cells = [.int .i64 G.c, .lst false 2 (G.t.map Tm.av)] := rfl
  simp only [hc_f, hc_g, hc_F, hc_G] at c1 c2 c3 c4 c6 c7 c8 c9 ⊢
  unfold rgs at c2 c5 c8 c9 ⊢
  have hmm : mayMeet f g s l = (gcdMeet f g && (rngMeet f g l && (if coef f.t s = 0 ∨ coef f.t s ≠ coef g.t s then true else match rgOf l s with | none => true | some r => anyNear (coef f.t s) ((G.ends l).1 - (F.ends l).2.1) ((G.ends l).2.1 - (F.ends l).1) 1 (r.hi - r.lo).toNat))) := by
    subst hrf hrg; rfl
  generalize mayMeet f g s l = res at *
  cases x1 : gcdMeet f g
  · rw [x1] at c1 hmm
    simp only [Bool.false_and] at hmm
    subst hmm
    (repeat refine AWp.seq ?_); refine AWp.region noP (by kernel_rfl) ?_
    simp
    intro k k2 h2
    have n1 : k2 ≠ k := by rintro rfl; simp [set_at] at h2
    have n2 := n1.symm
    repeat' (first
    | refine AWp.seq ?_
    | (refine AWp.region allP (by kernel_rfl) ?_; simp [set_at, n1, n2])
    | (refine AWp.condG ?_; simp [set_at, n1, n2])
    | (refine AWp.skip ?_; try simp)
    | (refine AWp.exit ?_; try simp)
    | refine AWp.block ?_
    | (refine aop_call' (c1) ?_; simp [set_at, n1, n2])
    | (refine AWp.ret (post_ret1 rfl ?_); (simp; done))
    | (refine guardI (fun hq => ?_) (fun hq => ?_) <;> (try simp at hq) <;> (try simp [set_at, n1, n2]))
    | (refine condRunI (fun hq => ?_) (fun hq => ?_) <;> (try simp at hq) <;> (try simp [set_at, n1, n2]))
    | (refine iteI (fun hq => ?_) (fun hq => ?_) <;> (try simp [set_at, n1, n2])))
  cases x2 : rngMeet f g l
  · rw [x1] at c1
    rw [x2] at c2
    rw [x1, x2] at hmm
    simp only [Bool.true_and, Bool.false_and] at hmm
    subst hmm
    (repeat refine AWp.seq ?_); refine AWp.region noP (by kernel_rfl) ?_
    simp
    intro k k2 h2
    have n1 : k2 ≠ k := by rintro rfl; simp [set_at] at h2
    have n2 := n1.symm
    repeat' (first
    | refine AWp.seq ?_
    | (refine AWp.region allP (by kernel_rfl) ?_; simp [set_at, n1, n2])
    | (refine AWp.condG ?_; simp [set_at, n1, n2])
    | (refine AWp.skip ?_; try simp)
    | (refine AWp.exit ?_; try simp)
    | refine AWp.block ?_
    | (refine aop_call' (c1) ?_; simp [set_at, n1, n2])
    | (refine aop_call' (c2) ?_; simp [set_at, n1, n2])
    | (refine AWp.ret (post_ret1 rfl ?_); (simp; done))
    | (refine guardI (fun hq => ?_) (fun hq => ?_) <;> (try simp at hq) <;> (try simp [set_at, n1, n2]))
    | (refine condRunI (fun hq => ?_) (fun hq => ?_) <;> (try simp at hq) <;> (try simp [set_at, n1, n2]))
    | (refine iteI (fun hq => ?_) (fun hq => ?_) <;> (try simp [set_at, n1, n2])))
  rw [x1] at c1
  rw [x2] at c2
  have okf : f.ok = true := by unfold gcdMeet at x1; simp only [Bool.and_eq_true] at x1; exact x1.1
  have cf := coef_small (fun t ht => by have := Af.ok_row okf ht; omega) s
  have hfull := rng_ok x2
  rw [x1, x2] at hmm
  simp only [Bool.true_and] at hmm
  generalize coef f.t s = n at *
  generalize coef g.t s = n' at *
  generalize F.ends l = A at *
  generalize G.ends l = B at *
  obtain ⟨a, b, p⟩ := A
  obtain ⟨c, d, q⟩ := B
  simp only at c8 c9 e1 e2 hmm
  have pre : ∀ (X : Prop), X → X := fun _ h => h
  (repeat refine AWp.seq ?_); refine AWp.region noP (by kernel_rfl) ?_
  simp
  intro k k2 h2
  have n1 : k2 ≠ k := by rintro rfl; simp [set_at] at h2
  have n2 := n1.symm
  (repeat refine AWp.seq ?_); refine AWp.region allP (by kernel_rfl) ?_
  simp [set_at, n1, n2]
  refine aop_call' c1 ?_
  simp [set_at, n1, n2]
  refine aop_call' c2 ?_
  simp [set_at, n1, n2]
  (repeat refine AWp.seq ?_); refine AWp.condF (by simp) ?_
  refine AWp.skip ?_
  try simp
  (repeat refine AWp.seq ?_); refine AWp.region allP (by kernel_rfl) ?_
  simp [set_at, n1, n2]
  refine aop_call' c3 ?_
  try simp
  (repeat refine AWp.seq ?_); refine AWp.region allP (by kernel_rfl) ?_
  try simp
  refine aop_call' c5 ?_
  try simp
  by_cases z1 : n = 0
  · rw [if_pos (Or.inl z1)] at hmm
    subst hmm
    repeat' (first
    | refine AWp.seq ?_
    | (refine AWp.region allP (by kernel_rfl) ?_; simp [set_at, n1, n2, z1])
    | (refine AWp.condG ?_; simp [set_at, n1, n2, z1])
    | (refine AWp.skip ?_; try simp)
    | (refine AWp.exit ?_; try simp)
    | refine AWp.block ?_
    | (refine aop_call' (c4) ?_; simp [set_at, n1, n2, z1])
    | (refine AWp.ret (post_ret1 rfl ?_); (simp; done))
    | (refine guardI (fun hq => ?_) (fun hq => ?_) <;> (try simp at hq) <;> (try simp [set_at, n1, n2, z1]))
    | (refine condRunI (fun hq => ?_) (fun hq => ?_) <;> (try simp at hq) <;> (try simp [set_at, n1, n2, z1]))
    | (refine iteI (fun hq => ?_) (fun hq => ?_) <;> (try simp [set_at, n1, n2, z1])))
  by_cases z2 : n ≠ n'
  · rw [if_pos (Or.inr z2)] at hmm
    subst hmm
    repeat' (first
    | refine AWp.seq ?_
    | (refine AWp.region allP (by kernel_rfl) ?_; simp [set_at, n1, n2, z1, z2])
    | (refine AWp.condG ?_; simp [set_at, n1, n2, z1, z2])
    | (refine AWp.skip ?_; try simp)
    | (refine AWp.exit ?_; try simp)
    | refine AWp.block ?_
    | (refine aop_call' (c4) ?_; simp [set_at, n1, n2, z1, z2])
    | (refine AWp.ret (post_ret1 rfl ?_); (simp; done))
    | (refine guardI (fun hq => ?_) (fun hq => ?_) <;> (try simp at hq) <;> (try simp [set_at, n1, n2, z1, z2]))
    | (refine condRunI (fun hq => ?_) (fun hq => ?_) <;> (try simp at hq) <;> (try simp [set_at, n1, n2, z1, z2]))
    | (refine iteI (fun hq => ?_) (fun hq => ?_) <;> (try simp [set_at, n1, n2, z1, z2])))
  replace z2 : n = n' := Classical.not_not.1 z2
  subst z2
  rw [if_neg (by simp [z1])] at hmm
  by_cases z3 : rgAt l s < 0
  · rw [rgOf_neg z3] at hmm
    simp only at hmm
    subst hmm
    repeat' (first
    | refine AWp.seq ?_
    | (refine AWp.region allP (by kernel_rfl) ?_; simp [set_at, n1, n2, z1, z3])
    | (refine AWp.condG ?_; simp [set_at, n1, n2, z1, z3])
    | (refine AWp.skip ?_; try simp)
    | (refine AWp.exit ?_; try simp)
    | refine AWp.block ?_
    | (refine aop_call' (c4) ?_; simp [set_at, n1, n2, z1, z3])
    | (refine AWp.ret (post_ret1 rfl ?_); (simp; done))
    | (refine guardI (fun hq => ?_) (fun hq => ?_) <;> (try simp at hq) <;> (try simp [set_at, n1, n2, z1, z3]))
    | (refine condRunI (fun hq => ?_) (fun hq => ?_) <;> (try simp at hq) <;> (try simp [set_at, n1, n2, z1, z3]))
    | (refine iteI (fun hq => ?_) (fun hq => ?_) <;> (try simp [set_at, n1, n2, z1, z3])))
  obtain ⟨j, hj, hja, hjr⟩ := rgAt_get z3
  rw [hjr] at hmm
  simp only at hmm
  have hfr := full_row hfull (List.getElem_mem hj)
  have hx3 : ∀ m, idxA Try.prog m 45 (.lst false 3 (l.map Rg.av)) (.int .i64 j) = some (.ref [.str l[j].s, .int .i64 l[j].lo, .int .i64 l[j].hi]) := fun m => idx (y := l[j].av) es_45 (by simp [List.getElem?_eq_getElem hj])
  generalize hlo : l[j].lo = lo at *
  generalize hhi : l[j].hi = hi at *
  subst hmm
  have hwd : IntKind.wrap .i64 (hi - lo) = hi - lo := wrap64 (by omega) (by omega)
  have hw1 : IntKind.wrap .i64 (c - b) = c - b := wrap64 (by omega) (by omega)
  have hw2 : IntKind.wrap .i64 (d - a) = d - a := wrap64 (by omega) (by omega)
  have hw3 : IntKind.wrap .i64 (-n) = -n := wrap64 (by omega) (by omega)
  (repeat refine AWp.seq ?_); refine AWp.region allP (by kernel_rfl) ?_
  simp [z1, set_at, n1, n2]
  refine aop_call' c4 ?_
  simp [z1, z3, hja, set_at, n1, n2]
  (repeat refine AWp.seq ?_); refine AWp.condF (by simp [z1, z3]) ?_
  refine AWp.skip ?_
  try simp
  (repeat refine AWp.seq ?_); refine AWp.region noP (by kernel_rfl) ?_
  simp [set_at, n1, n2]
  refine aop_call' c6 ?_
  simp [set_at, n1, n2]
  refine aop_call' c8 ?_
  simp [set_at, n1, n2]
  (repeat refine AWp.seq ?_); refine AWp.region noP (by kernel_rfl) ?_
  simp [set_at, n1, n2]
  refine aop_call' c7 ?_
  simp [set_at, n1, n2]
  refine aop_call' c9 ?_
  simp [set_at, n1, n2]
  (repeat refine AWp.seq ?_); refine AWp.region noP (by kernel_rfl) ?_
  try simp
  (repeat refine AWp.seq ?_); refine AWp.block (AWp.rounds (fun m st => ∃ (i : Nat), m = (hi - lo).toNat - i ∧ i ≤ (hi - lo).toNat ∧ anyNear n (c - b) (d - a) 1 (hi - lo).toNat = anyNear n (c - b) (d - a) (1 + i) ((hi - lo).toNat - i) ∧ st.slots 3 = .lst false 3 (l.map Rg.av) ∧ st.slots 9 = .int .i64 n ∧ st.slots 10 = .int .i64 j ∧ st.slots 11 = .int .i64 a ∧ st.slots 12 = .int .i64 b ∧ st.slots 14 = .int .i64 c ∧ st.slots 15 = .int .i64 d ∧ st.slots 17 = .int .i64 (1 + i)) (hi - lo).toNat ⟨0, by simp, by simp, by simp, by simp, by simp, by simp, by simp, by simp, by simp, by simp, by simp⟩ ?_)
  rintro R m st hR ⟨i, rfl, hil, hr, s3, s9, s10, s11, s12, s14, s15, si⟩
  (repeat refine AWp.seq ?_); refine AWp.region allP (by kernel_rfl) ?_
  simp [s3, s9, s10, s11, s12, s14, s15, si, hx3, hwd, hlo, hhi]
  (repeat refine AWp.seq ?_); refine AWp.cond (b := decide (1 + (i : Int) ≤ hi - lo)) (by simp) (fun hb => ?_) (fun hb => ?_)
  · simp at hb
    have hcnt : (hi - lo).toNat - i = ((hi - lo).toNat - (i + 1)) + 1 := by omega
    have hw : IntKind.wrap .i64 (1 + (i : Int) + 1) = 1 + ((i + 1 : Nat) : Int) := by rw [wrap64 (by omega) (by omega)]; omega
    have p1 := mul_small (a := n) (b := 1 + (i : Int)) (A := 100000) (B := 20000) (by omega) (by omega) (by omega) (by omega) (by omega)
    have p2 := mul_small (a := -n) (b := 1 + (i : Int)) (A := 100000) (B := 20000) (by omega) (by omega) (by omega) (by omega) (by omega)
    have w1 : IntKind.wrap .i64 (n * (1 + (i : Int))) = n * (1 + (i : Int)) := wrap64 (by omega) (by omega)
    have w2 : IntKind.wrap .i64 (-n * (1 + (i : Int))) = -n * (1 + (i : Int)) := wrap64 (by omega) (by omega)
    rw [hcnt, anyNear_succ] at hr
    unfold near at hr
    refine AWp.skip ?_
    try simp
    (repeat refine AWp.seq ?_); refine AWp.block ?_
    (repeat refine AWp.seq ?_); refine AWp.region allP (by kernel_rfl) ?_
    simp [s3, s9, s10, s11, s12, s14, s15, si, hw1, hw2, hw3]
    rw [w1]
    refine aop_call' (c_inRange _ _ _) ?_
    cases v1 : inR (n * (1 + (i : Int))) (c - b) (d - a)
    · simp [s3, s9, s10, s11, s12, s14, s15, si, hw1, hw2, hw3]
      rw [w2]
      refine aop_call' (c_inRange _ _ _) ?_
      cases v2 : inR (-n * (1 + (i : Int))) (c - b) (d - a)
      · rw [v1, v2] at hr
        simp
        (repeat refine AWp.seq ?_); refine AWp.condF (by simp) ?_
        refine AWp.skip ?_
        try simp
        (repeat refine AWp.seq ?_); refine AWp.region noP (by kernel_rfl) ?_
        simp [si, hw]
        exact hR _ ((hi - lo).toNat - (i + 1)) (by omega) ⟨i + 1, rfl, by omega, by rw [hr]; simp; try (congr 1 <;> omega), by simp [s3], by simp [s9], by simp [s10], by simp [s11], by simp [s12], by simp [s14], by simp [s15], by simp⟩
      · rw [v1, v2] at hr
        simp
        (repeat refine AWp.seq ?_); refine AWp.condT (by simp) ?_
        (repeat refine AWp.seq ?_); refine AWp.region noP (by kernel_rfl) ?_
        try simp
        exact AWp.ret (post_ret1 rfl (by simp [hr]))
    · rw [v1] at hr
      simp
      (repeat refine AWp.seq ?_); refine AWp.condT (by simp) ?_
      (repeat refine AWp.seq ?_); refine AWp.region noP (by kernel_rfl) ?_
      try simp
      exact AWp.ret (post_ret1 rfl (by simp [hr]))
  · simp at hb
    have : (hi - lo).toNat - i = 0 := by omega
    rw [this, anyNear] at hr
    refine AWp.exit ?_
    try simp
    (repeat refine AWp.seq ?_); refine AWp.region noP (by kernel_rfl) ?_
    try simp
    exact AWp.ret (post_ret1 rfl (by simp [hr]))
end Go.T
namespace Go.T
open Go Go.Proofs
set_option maxRecDepth 10000
set_option linter.unusedSimpArgs false
set_option linter.unusedVariables false
theorem c_FnExactMayMeet (f g : Af) (ff : f.fit) (fg : g.fit) (s : ByteArray) (l : List Rg) (fl : l.length ≤ most ∧ ∀ x ∈ l, x.fit) : PCall Try.prog 4 [f.av, g.av, .str s, rgs l] (.bool true) := by
  refine pcall_of Try.func4 (by kernel_rfl) rfl (by simp [Try.f4]) ?_
  by_cases b0 : (1048576 : Int) < s.size
  · unfold Af.av
    have hc_f : f.cells = [.int .i64 f.c, .lst false 2 (f.t.map Tm.av)] := rfl
    have hc_g : g.cells = [.int .i64 g.c, .lst false 2 (g.t.map Tm.av)] := rfl
    simp only [hc_f, hc_g]
    unfold rgs
    (repeat refine AWp.seq ?_); refine AWp.region noP (by kernel_rfl) ?_
    try simp
    intro k k2 h2
    have n1 : k2 ≠ k := by rintro rfl; simp [set_at] at h2
    have n2 := n1.symm
    repeat' (first
    | refine AWp.seq ?_
    | (refine AWp.region allP (by kernel_rfl) ?_; simp [set_at, n1, n2, b0])
    | (refine AWp.condG ?_; simp [set_at, n1, n2, b0])
    | (refine AWp.skip ?_; try simp)
    | (refine AWp.exit ?_; try simp)
    | refine AWp.block ?_
    | (refine AWp.ret (post_ret1 rfl ?_); (simp; done))
    | (refine guardI (fun hq => ?_) (fun hq => ?_) <;> (try simp at hq) <;> (try simp [set_at, n1, n2, b0]))
    | (refine condRunI (fun hq => ?_) (fun hq => ?_) <;> (try simp at hq) <;> (try simp [set_at, n1, n2, b0]))
    | (refine iteI (fun hq => ?_) (fun hq => ?_) <;> (try simp [set_at, n1, n2, b0])))
  have cf := c_szAff0 f ff 1048576 (by omega) (by omega)
  by_cases b1 : f.tot ≤ 1048576
  rotate_left
  · have e1 : szr (totL Tm.tot f.t) 1048576 = -1 := szr_neg (by unfold Af.tot at b1; omega)
    rw [e1] at cf
    unfold Af.av at cf ⊢
    have hc_f : f.cells = [.int .i64 f.c, .lst false 2 (f.t.map Tm.av)] := rfl
    have hc_g : g.cells = [.int .i64 g.c, .lst false 2 (g.t.map Tm.av)] := rfl
    simp only [hc_f, hc_g] at cf ⊢
    unfold rgs
    (repeat refine AWp.seq ?_); refine AWp.region noP (by kernel_rfl) ?_
    try simp
    intro k k2 h2
    have n1 : k2 ≠ k := by rintro rfl; simp [set_at] at h2
    have n2 := n1.symm
    repeat' (first
    | refine AWp.seq ?_
    | (refine AWp.region allP (by kernel_rfl) ?_; simp [set_at, n1, n2, b0])
    | (refine AWp.condG ?_; simp [set_at, n1, n2, b0])
    | (refine AWp.skip ?_; try simp)
    | (refine AWp.exit ?_; try simp)
    | refine AWp.block ?_
    | (refine aop_call' (cf) ?_; simp [set_at, n1, n2, b0])
    | (refine AWp.ret (post_ret1 rfl ?_); (simp; done))
    | (refine guardI (fun hq => ?_) (fun hq => ?_) <;> (try simp at hq) <;> (try simp [set_at, n1, n2, b0]))
    | (refine condRunI (fun hq => ?_) (fun hq => ?_) <;> (try simp at hq) <;> (try simp [set_at, n1, n2, b0]))
    | (refine iteI (fun hq => ?_) (fun hq => ?_) <;> (try simp [set_at, n1, n2, b0])))
  have e1 : szr (totL Tm.tot f.t) 1048576 = 1048576 - f.tot := szr_pos (by unfold Af.tot at b1; omega)
  rw [e1] at cf
  have p1 : ¬ (1048576 - (f.tot : Int) < 0) := by omega
  have cg := c_szAff0 g fg (1048576 - f.tot) (by omega) (by omega)
  by_cases b2 : (g.tot : Int) ≤ 1048576 - f.tot
  rotate_left
  · have e2 : szr (totL Tm.tot g.t) (1048576 - f.tot) = -1 := szr_neg (by unfold Af.tot at b2 ⊢; omega)
    rw [e2] at cg
    unfold Af.av at cf cg ⊢
    have hc_f : f.cells = [.int .i64 f.c, .lst false 2 (f.t.map Tm.av)] := rfl
    have hc_g : g.cells = [.int .i64 g.c, .lst false 2 (g.t.map Tm.av)] := rfl
    simp only [hc_f, hc_g] at cf cg ⊢
    unfold rgs
    (repeat refine AWp.seq ?_); refine AWp.region noP (by kernel_rfl) ?_
    try simp
    intro k k2 h2
    have n1 : k2 ≠ k := by rintro rfl; simp [set_at] at h2
    have n2 := n1.symm
    repeat' (first
    | refine AWp.seq ?_
    | (refine AWp.region allP (by kernel_rfl) ?_; simp [set_at, n1, n2, b0, p1])
    | (refine AWp.condG ?_; simp [set_at, n1, n2, b0, p1])
    | (refine AWp.skip ?_; try simp)
    | (refine AWp.exit ?_; try simp)
    | refine AWp.block ?_
    | (refine aop_call' (cf) ?_; simp [set_at, n1, n2, b0, p1])
    | (refine aop_call' (cg) ?_; simp [set_at, n1, n2, b0, p1])
    | (refine AWp.ret (post_ret1 rfl ?_); (simp; done))
    | (refine guardI (fun hq => ?_) (fun hq => ?_) <;> (try simp at hq) <;> (try simp [set_at, n1, n2, b0, p1]))
    | (refine condRunI (fun hq => ?_) (fun hq => ?_) <;> (try simp at hq) <;> (try simp [set_at, n1, n2, b0, p1]))
    | (refine iteI (fun hq => ?_) (fun hq => ?_) <;> (try simp [set_at, n1, n2, b0, p1])))
  have e2 : szr (totL Tm.tot g.t) (1048576 - f.tot) = 1048576 - f.tot - g.tot := szr_pos (by unfold Af.tot at b2 ⊢; omega)
  rw [e2] at cg
  have p2 : ¬ (1048576 - (f.tot : Int) - (g.tot : Int) < 0) := by omega
  have cl := c_szRngS l fl.1 (fun x hx => c_szRng0 x (fl.2 x hx)) (1048576 - f.tot - g.tot) (by omega) (by omega)
  by_cases b3 : (totL Rg.tot l : Int) ≤ 1048576 - f.tot - g.tot
  rotate_left
  · have e3 : szr (totL Rg.tot l) (1048576 - f.tot - g.tot) = -1 := szr_neg (by omega)
    rw [e3] at cl
    unfold Af.av at cf cg ⊢
    have hc_f : f.cells = [.int .i64 f.c, .lst false 2 (f.t.map Tm.av)] := rfl
    have hc_g : g.cells = [.int .i64 g.c, .lst false 2 (g.t.map Tm.av)] := rfl
    simp only [hc_f, hc_g] at cf cg ⊢
    unfold rgs
    (repeat refine AWp.seq ?_); refine AWp.region noP (by kernel_rfl) ?_
    try simp
    intro k k2 h2
    have n1 : k2 ≠ k := by rintro rfl; simp [set_at] at h2
    have n2 := n1.symm
    repeat' (first
    | refine AWp.seq ?_
    | (refine AWp.region allP (by kernel_rfl) ?_; simp [set_at, n1, n2, b0, p1, p2])
    | (refine AWp.condG ?_; simp [set_at, n1, n2, b0, p1, p2])
    | (refine AWp.skip ?_; try simp)
    | (refine AWp.exit ?_; try simp)
    | refine AWp.block ?_
    | (refine aop_call' (cf) ?_; simp [set_at, n1, n2, b0, p1, p2])
    | (refine aop_call' (cg) ?_; simp [set_at, n1, n2, b0, p1, p2])
    | (refine aop_call' (cl) ?_; simp [set_at, n1, n2, b0, p1, p2])
    | (refine AWp.ret (post_ret1 rfl ?_); (simp; done))
    | (refine guardI (fun hq => ?_) (fun hq => ?_) <;> (try simp at hq) <;> (try simp [set_at, n1, n2, b0, p1, p2]))
    | (refine condRunI (fun hq => ?_) (fun hq => ?_) <;> (try simp at hq) <;> (try simp [set_at, n1, n2, b0, p1, p2]))
    | (refine iteI (fun hq => ?_) (fun hq => ?_) <;> (try simp [set_at, n1, n2, b0, p1, p2])))
  have e3 : szr (totL Rg.tot l) (1048576 - f.tot - g.tot) = 1048576 - f.tot - g.tot - totL Rg.tot l := szr_pos (by omega)
  rw [e3] at cl
  have p3 : ¬ (1048576 - (f.tot : Int) - (g.tot : Int) - (totL Rg.tot l : Int) < 0) := by omega
  have hll := totL_len Rg.tot l
  have hz : szR l := ⟨by omega, fun x hx => by have := totL_mem Rg.tot hx; have h4 : x.tot = x.s.size := rfl; omega⟩
  have tf := c_toAff0 f b1
  have tg := c_toAff0 g (by omega)
  have tl := c_toRngS l (by omega) (fun x _ => c_toRng0 x)
  have qf := c_eqAff0 f b1
  have qg := c_eqAff0 g (by omega)
  have ql := c_eqRngS l (by omega) (fun x _ => c_eqRng0 x)
  have c1 := c_spec_MayMeet f g b1 (by omega) s l hz
  have c2 := c_impl_MayMeet f g b1 (by omega) s l hz
  unfold Af.av at cf cg tf tg qf qg c1 c2 ⊢
  have hc_f : f.cells = [.int .i64 f.c, .lst false 2 (f.t.map Tm.av)] := rfl
  have hc_g : g.cells = [.int .i64 g.c, .lst false 2 (g.t.map Tm.av)] := rfl
  simp only [hc_f, hc_g] at cf cg tf tg qf qg c1 c2 ⊢
  unfold rgs at c1 c2 ⊢
  (repeat refine AWp.seq ?_); refine AWp.region noP (by kernel_rfl) ?_
  try simp
  intro k k2 h2
  have n1 : k2 ≠ k := by rintro rfl; simp [set_at] at h2
  have n2 := n1.symm
  repeat' (first
    | refine AWp.seq ?_
    | (refine AWp.region allP (by kernel_rfl) ?_; simp [set_at, n1, n2, b0, p1, p2, p3])
    | (refine AWp.condG ?_; simp [set_at, n1, n2, b0, p1, p2, p3])
    | (refine AWp.skip ?_; try simp)
    | (refine AWp.exit ?_; try simp)
    | refine AWp.block ?_
    | (refine aop_call' (cf) ?_; simp [set_at, n1, n2, b0, p1, p2, p3])
    | (refine aop_call' (cg) ?_; simp [set_at, n1, n2, b0, p1, p2, p3])
    | (refine aop_call' (cl) ?_; simp [set_at, n1, n2, b0, p1, p2, p3])
    | (refine aop_call' (tf) ?_; simp [set_at, n1, n2, b0, p1, p2, p3])
    | (refine aop_call' (tg) ?_; simp [set_at, n1, n2, b0, p1, p2, p3])
    | (refine aop_call' (tl) ?_; simp [set_at, n1, n2, b0, p1, p2, p3])
    | (refine aop_call' (c1) ?_; simp [set_at, n1, n2, b0, p1, p2, p3])
    | (refine aop_call' (c2) ?_; simp [set_at, n1, n2, b0, p1, p2, p3])
    | (refine AWp.ret (post_ret1 rfl ?_); (simp; done))
    | (refine guardI (fun hq => ?_) (fun hq => ?_) <;> (try simp at hq) <;> (try simp [set_at, n1, n2, b0, p1, p2, p3]))
    | (refine condRunI (fun hq => ?_) (fun hq => ?_) <;> (try simp at hq) <;> (try simp [set_at, n1, n2, b0, p1, p2, p3]))
    | (refine iteI (fun hq => ?_) (fun hq => ?_) <;> (try simp [set_at, n1, n2, b0, p1, p2, p3])))
  intro k3 h3
  have n3 : k3 ≠ k := by rintro rfl; simp [set_at, n2] at h3
  have n4 : k3 ≠ k2 := by rintro rfl; simp [set_at] at h3
  have n5 := n3.symm
  have n6 := n4.symm
  try simp [set_set]
  repeat' (first
    | refine AWp.seq ?_
    | (refine AWp.region allP (by kernel_rfl) ?_; simp [set_at, n1, n2, n3, n4, n5, n6, b0, p1, p2, p3])
    | (refine AWp.condG ?_; simp [set_at, n1, n2, n3, n4, n5, n6, b0, p1, p2, p3])
    | (refine AWp.skip ?_; try simp)
    | (refine AWp.exit ?_; try simp)
    | refine AWp.block ?_
    | (refine aop_call' (cf) ?_; simp [set_at, n1, n2, n3, n4, n5, n6, b0, p1, p2, p3])
    | (refine aop_call' (cg) ?_; simp [set_at, n1, n2, n3, n4, n5, n6, b0, p1, p2, p3])
    | (refine aop_call' (cl) ?_; simp [set_at, n1, n2, n3, n4, n5, n6, b0, p1, p2, p3])
    | (refine aop_call' (tf) ?_; simp [set_at, n1, n2, n3, n4, n5, n6, b0, p1, p2, p3])
    | (refine aop_call' (tg) ?_; simp [set_at, n1, n2, n3, n4, n5, n6, b0, p1, p2, p3])
    | (refine aop_call' (tl) ?_; simp [set_at, n1, n2, n3, n4, n5, n6, b0, p1, p2, p3])
    | (refine aop_call' (c1) ?_; simp [set_at, n1, n2, n3, n4, n5, n6, b0, p1, p2, p3])
    | (refine aop_call' (c2) ?_; simp [set_at, n1, n2, n3, n4, n5, n6, b0, p1, p2, p3])
    | (refine AWp.ret (post_ret1 rfl ?_); (simp; done))
    | (refine guardI (fun hq => ?_) (fun hq => ?_) <;> (try simp at hq) <;> (try simp [set_at, n1, n2, n3, n4, n5, n6, b0, p1, p2, p3]))
    | (refine condRunI (fun hq => ?_) (fun hq => ?_) <;> (try simp at hq) <;> (try simp [set_at, n1, n2, n3, n4, n5, n6, b0, p1, p2, p3]))
    | (refine iteI (fun hq => ?_) (fun hq => ?_) <;> (try simp [set_at, n1, n2, n3, n4, n5, n6, b0, p1, p2, p3])))
  intro k4 h4
  have m1 : k4 ≠ k := by rintro rfl; simp [set_at, n2, n5] at h4
  have m2 : k4 ≠ k2 := by rintro rfl; simp [set_at, n6] at h4
  have m3 : k4 ≠ k3 := by rintro rfl; simp [set_at] at h4
  have m4 := m1.symm
  have m5 := m2.symm
  have m6 := m3.symm
  try simp [set_set]
  repeat' (first
    | refine AWp.seq ?_
    | (refine AWp.region allP (by kernel_rfl) ?_; simp [set_at, n1, n2, n3, n4, n5, n6, m1, m2, m3, m4, m5, m6, b0, p1, p2, p3])
    | (refine AWp.condG ?_; simp [set_at, n1, n2, n3, n4, n5, n6, m1, m2, m3, m4, m5, m6, b0, p1, p2, p3])
    | (refine AWp.skip ?_; try simp)
    | (refine AWp.exit ?_; try simp)
    | refine AWp.block ?_
    | (refine aop_call' (cf) ?_; simp [set_at, n1, n2, n3, n4, n5, n6, m1, m2, m3, m4, m5, m6, b0, p1, p2, p3])
    | (refine aop_call' (cg) ?_; simp [set_at, n1, n2, n3, n4, n5, n6, m1, m2, m3, m4, m5, m6, b0, p1, p2, p3])
    | (refine aop_call' (cl) ?_; simp [set_at, n1, n2, n3, n4, n5, n6, m1, m2, m3, m4, m5, m6, b0, p1, p2, p3])
    | (refine aop_call' (tf) ?_; simp [set_at, n1, n2, n3, n4, n5, n6, m1, m2, m3, m4, m5, m6, b0, p1, p2, p3])
    | (refine aop_call' (tg) ?_; simp [set_at, n1, n2, n3, n4, n5, n6, m1, m2, m3, m4, m5, m6, b0, p1, p2, p3])
    | (refine aop_call' (tl) ?_; simp [set_at, n1, n2, n3, n4, n5, n6, m1, m2, m3, m4, m5, m6, b0, p1, p2, p3])
    | (refine aop_call' (c1) ?_; simp [set_at, n1, n2, n3, n4, n5, n6, m1, m2, m3, m4, m5, m6, b0, p1, p2, p3])
    | (refine aop_call' (c2) ?_; simp [set_at, n1, n2, n3, n4, n5, n6, m1, m2, m3, m4, m5, m6, b0, p1, p2, p3])
    | (refine aop_call' (qf) ?_; simp [set_at, n1, n2, n3, n4, n5, n6, m1, m2, m3, m4, m5, m6, b0, p1, p2, p3])
    | (refine aop_call' (qg) ?_; simp [set_at, n1, n2, n3, n4, n5, n6, m1, m2, m3, m4, m5, m6, b0, p1, p2, p3])
    | (refine aop_call' (ql) ?_; simp [set_at, n1, n2, n3, n4, n5, n6, m1, m2, m3, m4, m5, m6, b0, p1, p2, p3])
    | (refine AWp.ret (post_ret1 rfl ?_); (simp; done))
    | (refine guardI (fun hq => ?_) (fun hq => ?_) <;> (try simp at hq) <;> (try simp [set_at, n1, n2, n3, n4, n5, n6, m1, m2, m3, m4, m5, m6, b0, p1, p2, p3]))
    | (refine condRunI (fun hq => ?_) (fun hq => ?_) <;> (try simp at hq) <;> (try simp [set_at, n1, n2, n3, n4, n5, n6, m1, m2, m3, m4, m5, m6, b0, p1, p2, p3]))
    | (refine iteI (fun hq => ?_) (fun hq => ?_) <;> (try simp [set_at, n1, n2, n3, n4, n5, n6, m1, m2, m3, m4, m5, m6, b0, p1, p2, p3])))
section
variable {H : Type} {enc : TypeId × Value → H} {W : World}
theorem o_Term (fuel : Nat) : Opens enc Try.prog W 124 Tm.cells Tm.fit fuel := by
  cases fuel with
  | zero => exact opens_zero
  | succ k =>
    exact Opens.map (opens_struct Try.underlying124 (N := 2) (by kernel_rfl) (fields_cons (n := 1) rfl (by kernel_rfl) (opens_str Try.underlying9 _) (fields_cons (n := 1) rfl (by kernel_rfl) (opens_int Try.underlying3 _) (fields_nil rfl))))
      (fun x => Tm.mk x.1 x.2.1) fun x hx => ⟨hx.1, Les.refl _⟩
theorem o_TermS (fuel : Nat) : Opens enc Try.prog W 34 (fun l : List Tm => [tms l]) (fun l => l.length ≤ most ∧ ∀ x ∈ l, x.fit) fuel := by
  cases fuel with
  | zero => exact opens_zero
  | succ k => exact Opens.map (opens_slice Try.underlying34 (n := 2) (elt := Tm.av) (by kernel_rfl) (by omega) (fun _ => rfl) (fun _ => rfl) (o_Term k)) id fun x hx => ⟨hx, Les.refl _⟩
theorem o_Aff (fuel : Nat) : Opens enc Try.prog W 36 Af.cells Af.fit fuel := by
  cases fuel with
  | zero => exact opens_zero
  | succ k =>
    exact Opens.map (opens_struct Try.underlying36 (N := 2) (by kernel_rfl) (fields_cons (n := 1) rfl (by kernel_rfl) (opens_int Try.underlying3 _) (fields_cons (n := 1) rfl (by kernel_rfl) (o_TermS _) (fields_nil rfl))))
      (fun x => Af.mk x.1 x.2.1) fun x hx => ⟨hx.2.1, Les.refl _⟩
theorem o_Rng (fuel : Nat) : Opens enc Try.prog W 84 Rg.cells Rg.fit fuel := by
  cases fuel with
  | zero => exact opens_zero
  | succ k =>
    exact Opens.map (opens_struct Try.underlying84 (N := 3) (by kernel_rfl) (fields_cons (n := 1) rfl (by kernel_rfl) (opens_str Try.underlying9 _) (fields_cons (n := 1) rfl (by kernel_rfl) (opens_int Try.underlying3 _) (fields_cons (n := 1) rfl (by kernel_rfl) (opens_int Try.underlying3 _) (fields_nil rfl)))))
      (fun x => Rg.mk x.1 x.2.1 x.2.2.1) fun x hx => ⟨hx.1, Les.refl _⟩
theorem o_RngS (fuel : Nat) : Opens enc Try.prog W 37 (fun l : List Rg => [rgs l]) (fun l => l.length ≤ most ∧ ∀ x ∈ l, x.fit) fuel := by
  cases fuel with
  | zero => exact opens_zero
  | succ k => exact Opens.map (opens_slice Try.underlying37 (n := 3) (elt := Rg.av) (by kernel_rfl) (by omega) (fun _ => rfl) (fun _ => rfl) (o_Rng k)) id fun x hx => ⟨hx, Les.refl _⟩
end
end Go.T
