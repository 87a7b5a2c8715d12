/- What the laws' measuring, copying and comparing functions compute, of machines. -/
import Derived.Test.YtjpgifmkikmbgaaD6
import Derived.Test.YtjpgifmkikmbgaaY0
import Derived.Test.YtjpgifmkikmbgaaT18
import Derived.Test.YtjpgifmkikmbgaaL1
namespace Go.T
open Go Go.Proofs
set_option maxRecDepth 10000
set_option linter.unusedSimpArgs false
set_option linter.unusedVariables false
theorem c_szIntS (l : List Int) (hf : l.length ≤ most) (n : Int) (h0 : 0 ≤ n) (h1 : n ≤ 1048576) :
    PCall Try.prog 28 [ints l, .int .i64 n] (.int .i64 (szr l.length n)) := by
  refine pcall_of Try.func28 (by kernel_rfl) rfl (by simp [Try.f28]) ?_
  unfold most at hf
  unfold ints
  have hw : IntKind.wrap .i64 (n - (l.length : Int)) = n - l.length := wrap64 (by omega) (by omega)
  by_cases hb : n < l.length
  · have hc : n - (l.length : Int) < 0 := by omega
    have e := szr_neg hb
    repeat' (first
    | refine AWp.seq ?_
    | (refine AWp.region allP (by kernel_rfl) ?_; simp [hw, hc])
    | (refine AWp.condG ?_; simp [hw, hc])
    | (refine AWp.skip ?_; try simp)
    | (refine AWp.exit ?_; try simp)
    | refine AWp.block ?_
    | (refine AWp.ret (post_ret1 rfl ?_); (simp [e]; done))
    | (refine guardI (fun hq => ?_) (fun hq => ?_) <;> (try simp at hq) <;> (try simp [hw, hc]))
    | (refine condRunI (fun hq => ?_) (fun hq => ?_) <;> (try simp at hq) <;> (try simp [hw, hc]))
    | (refine iteI (fun hq => ?_) (fun hq => ?_) <;> (try simp [hw, hc])))
  · have hc : ¬ (n - (l.length : Int) < 0) := by omega
    have e := szr_pos (show (l.length : Int) ≤ n by omega)
    repeat' (first
    | refine AWp.seq ?_
    | (refine AWp.region allP (by kernel_rfl) ?_; simp [hw, hc])
    | (refine AWp.condG ?_; simp [hw, hc])
    | (refine AWp.skip ?_; try simp)
    | (refine AWp.exit ?_; try simp)
    | refine AWp.block ?_
    | (refine AWp.ret (post_ret1 rfl ?_); (simp [e]; done))
    | (refine guardI (fun hq => ?_) (fun hq => ?_) <;> (try simp at hq) <;> (try simp [hw, hc]))
    | (refine condRunI (fun hq => ?_) (fun hq => ?_) <;> (try simp at hq) <;> (try simp [hw, hc]))
    | (refine iteI (fun hq => ?_) (fun hq => ?_) <;> (try simp [hw, hc])))
theorem c_szPutS (l : List Pu) (hf : l.length ≤ most) (n : Int) (h0 : 0 ≤ n) (h1 : n ≤ 1048576) :
    PCall Try.prog 96 [.lst false 2 (l.map Pu.av), .int .i64 n] (.int .i64 (szr l.length n)) := by
  refine pcall_of Try.func96 (by kernel_rfl) rfl (by simp [Try.f96]) ?_
  unfold most at hf
  have hw : IntKind.wrap .i64 (n - (l.length : Int)) = n - l.length := wrap64 (by omega) (by omega)
  by_cases hb : n < l.length
  · have hc : n - (l.length : Int) < 0 := by omega
    have e := szr_neg hb
    repeat' (first
    | refine AWp.seq ?_
    | (refine AWp.region allP (by kernel_rfl) ?_; simp [hw, hc])
    | (refine AWp.condG ?_; simp [hw, hc])
    | (refine AWp.skip ?_; try simp)
    | (refine AWp.exit ?_; try simp)
    | refine AWp.block ?_
    | (refine AWp.ret (post_ret1 rfl ?_); (simp [e]; done))
    | (refine guardI (fun hq => ?_) (fun hq => ?_) <;> (try simp at hq) <;> (try simp [hw, hc]))
    | (refine condRunI (fun hq => ?_) (fun hq => ?_) <;> (try simp at hq) <;> (try simp [hw, hc]))
    | (refine iteI (fun hq => ?_) (fun hq => ?_) <;> (try simp [hw, hc])))
  · have hc : ¬ (n - (l.length : Int) < 0) := by omega
    have e := szr_pos (show (l.length : Int) ≤ n by omega)
    repeat' (first
    | refine AWp.seq ?_
    | (refine AWp.region allP (by kernel_rfl) ?_; simp [hw, hc])
    | (refine AWp.condG ?_; simp [hw, hc])
    | (refine AWp.skip ?_; try simp)
    | (refine AWp.exit ?_; try simp)
    | refine AWp.block ?_
    | (refine AWp.ret (post_ret1 rfl ?_); (simp [e]; done))
    | (refine guardI (fun hq => ?_) (fun hq => ?_) <;> (try simp at hq) <;> (try simp [hw, hc]))
    | (refine condRunI (fun hq => ?_) (fun hq => ?_) <;> (try simp at hq) <;> (try simp [hw, hc]))
    | (refine iteI (fun hq => ?_) (fun hq => ?_) <;> (try simp [hw, hc])))
theorem c_toIntS (l : List Int) (hl : l.length ≤ 1048576) : PCall Try.prog 32 [ints l] (ints l) := by
  refine pcall_of Try.func32 (by kernel_rfl) rfl (by simp [Try.f32]) ?_
  unfold ints
  (repeat refine AWp.seq ?_); refine AWp.region noP (by kernel_rfl) ?_
  simp
  (repeat refine AWp.seq ?_); refine AWp.region noP (by kernel_rfl) ?_
  simp
  refine ⟨by omega, by omega, fun g => ?_⟩
  (repeat refine AWp.seq ?_); refine AWp.region noP (by kernel_rfl) ?_
  simp
  (repeat refine AWp.seq ?_); refine AWp.block (AWp.rounds (fun m st => ∃ (i : Nat) (xs : List AV), m = l.length - i ∧ i ≤ l.length ∧ st.slots 0 = .lst false 1 (l.map (AV.int .i64)) ∧ st.slots 3 = .own g l.length l.length ∧ st.slots 4 = .int .i64 i ∧ st.mem g = some (.arr 3 1 l.length xs) ∧ xs.length = l.length ∧ xs.take i = (l.map (AV.int .i64)).take i) l.length ⟨0, _, by simp, by simp, by simp, by simp, by simp, by simp; rfl, by simp, by simp⟩ ?_)
  rintro R m st hR ⟨i, xs, rfl, hi, s0, s3, s4, hg, hn, hx⟩
  (repeat refine AWp.seq ?_); refine AWp.region noP (by kernel_rfl) ?_
  simp [s0, s4]
  refine AWp.cond (b := decide (i < l.length)) (by simp) (fun hb => ?_) (fun hb => ?_)
  · simp at hb
    have hq : l[i]? = some l[i] := List.getElem?_eq_getElem hb
    refine AWp.skip ?_
    simp
    (repeat refine AWp.seq ?_); refine AWp.block ?_; (repeat refine AWp.seq ?_); refine AWp.region noP (by kernel_rfl) ?_
    have hx1 : idxA Try.prog st.mem 22 (.lst false 1 (l.map (AV.int .i64))) (.int .i64 i) = some (.ref [.int .i64 l[i]]) := idx (y := .int .i64 l[i]) es_22 (by simp [hq])
    have hx2 : idxA Try.prog st.mem 22 (.own g l.length l.length) (.int .i64 i) = some (.elt g 1 i 0) := idx_own es_22 hg hn hb
    have hx3 : storeA st.mem (.elt g 1 i 0) (.int .i64 l[i]) = some _ := store_elt hg (by omega) rfl
    simp [s0, s3, s4, hx1, hx2, hx3]
    (repeat refine AWp.seq ?_); refine AWp.region noP (by kernel_rfl) ?_
    have hw : IntKind.wrap .i64 ((i : Int) + 1) = (i + 1 : Nat) := wrap64 (by omega) (by omega)
    simp [s4, hw]
    refine hR _ (l.length - (i + 1)) (by omega) ⟨i + 1, _, rfl, hb, by simp [s0], by simp [s3], by simp, by simp; rfl, by simp [hn], ?_⟩
    exact take_set hx (by simp [hn]) (by simp [hq])
  · simp at hb
    refine AWp.exit ?_
    simp
    (repeat refine AWp.seq ?_); refine AWp.region noP (by kernel_rfl) ?_
    simp [s3]
    have : i = l.length := by omega
    subst this
    have e : xs = l.map (AV.int .i64) := by rw [List.take_of_length_le (by omega), List.take_of_length_le (by simp)] at hx; exact hx
    subst e
    exact AWp.ret (post_own rfl (by simp; rfl) hg (by simp) rfl)
theorem c_eqIntS (l : List Int) (hl : l.length ≤ 1048576) : PCall Try.prog 36 [ints l, ints l] (.bool true) := by
  refine pcall_of Try.func36 (by kernel_rfl) rfl (by simp [Try.f36]) ?_
  unfold ints
  (repeat refine AWp.seq ?_); refine AWp.region noP (by kernel_rfl) ?_
  simp
  (repeat refine AWp.seq ?_); refine AWp.region noP (by kernel_rfl) ?_
  simp
  refine AWp.cond (b := false) (by simp) (fun h => by cases h) (fun _ => ?_)
  refine AWp.skip ?_
  simp
  (repeat refine AWp.seq ?_); refine AWp.region noP (by kernel_rfl) ?_
  simp
  (repeat refine AWp.seq ?_); refine AWp.block (AWp.rounds (fun m st => ∃ (i : Nat), m = l.length - i ∧ i ≤ l.length ∧ st.slots 0 = .lst false 1 (l.map (AV.int .i64)) ∧ st.slots 1 = .lst false 1 (l.map (AV.int .i64)) ∧ st.slots 5 = .int .i64 i) l.length ⟨0, by simp, by simp, by simp, by simp, by simp⟩ ?_)
  rintro R m st hR ⟨i, rfl, hi, s0, s1, s5⟩
  (repeat refine AWp.seq ?_); refine AWp.region noP (by kernel_rfl) ?_
  simp [s0, s5]
  refine AWp.cond (b := decide (i < l.length)) (by simp) (fun hb => ?_) (fun hb => ?_)
  · simp at hb
    have hq : l[i]? = some l[i] := List.getElem?_eq_getElem hb
    refine AWp.skip ?_
    simp
    (repeat refine AWp.seq ?_); refine AWp.block ?_; (repeat refine AWp.seq ?_); refine AWp.region noP (by kernel_rfl) ?_
    have hx1 : idxA Try.prog st.mem 22 (.lst false 1 (l.map (AV.int .i64))) (.int .i64 i) = some (.ref [.int .i64 l[i]]) := idx (y := .int .i64 l[i]) es_22 (by simp [hq])
    simp [s0, s1, s5, hx1]
    refine AWp.cond (b := false) (by simp) (fun h => by cases h) (fun _ => ?_)
    refine AWp.skip ?_
    simp
    (repeat refine AWp.seq ?_); refine AWp.region noP (by kernel_rfl) ?_
    have hw : IntKind.wrap .i64 ((i : Int) + 1) = (i + 1 : Nat) := wrap64 (by omega) (by omega)
    simp [s5, hw]
    exact hR _ (l.length - (i + 1)) (by omega) ⟨i + 1, rfl, hb, by simp [s0], by simp [s1], by simp⟩
  · simp at hb
    refine AWp.exit ?_
    simp
    (repeat refine AWp.seq ?_); refine AWp.region noP (by kernel_rfl) ?_
    simp
    exact AWp.ret (post_ret1 rfl (by simp))
theorem c_toPut0 (p : Pu) : PCall Try.prog 118 [p.av] p.av := by
  unfold Pu.av Pu.cells
  refine pcall_of Try.func118 (by kernel_rfl) rfl (by simp [Try.f118]) ?_
  (repeat refine AWp.seq ?_); refine AWp.region noP (by kernel_rfl) ?_
  simp [set_at]
  intro g1 g2 h2
  (repeat refine AWp.seq ?_); refine AWp.region noP (by kernel_rfl) ?_
  simp [set_at]
  intro g3 h3
  have n21 : g2 ≠ g1 := fun e => by simp [e] at h2
  have m12 := n21.symm
  have n32 : g3 ≠ g2 := fun e => by simp [e] at h3
  have n31 : g3 ≠ g1 := fun e => by simp [e, m12] at h3
  have m23 := n32.symm
  have m13 := n31.symm
  (repeat refine AWp.seq ?_); refine AWp.region noP (by kernel_rfl) ?_
  simp [set_at, n21, n32, n31, m12, m23, m13]
  (repeat refine AWp.seq ?_); refine AWp.region noP (by kernel_rfl) ?_
  simp [set_at, n21, n32, n31, m12, m23, m13]
  (repeat refine AWp.seq ?_); refine AWp.region noP (by kernel_rfl) ?_
  simp [set_at, n21, n32, n31, m12, m23, m13]
  exact AWp.ret (post_cell (.inl rfl) rfl (by simp [set_at, n21, n32, n31, m12, m23, m13]))
theorem c_eqPut0 (p : Pu) : PCall Try.prog 119 [p.av, p.av] (.bool true) := by
  unfold Pu.av Pu.cells
  refine pcall_of Try.func119 (by kernel_rfl) rfl (by simp [Try.f119]) ?_
  (repeat refine AWp.seq ?_); refine AWp.region noP (by kernel_rfl) ?_
  simp [set_at]
  intro g1 g2 h2
  have n21 : g2 ≠ g1 := fun e => by simp [e] at h2
  have m12 := n21.symm
  (repeat refine AWp.seq ?_); refine AWp.region noP (by kernel_rfl) ?_
  simp [set_at, n21, m12]
  refine AWp.cond (b := false) (by simp) (fun h => by cases h) (fun _ => ?_)
  refine AWp.skip ?_
  simp
  (repeat refine AWp.seq ?_); refine AWp.region noP (by kernel_rfl) ?_
  simp [set_at, n21, m12]
  refine AWp.cond (b := false) (by simp) (fun h => by cases h) (fun _ => ?_)
  refine AWp.skip ?_
  simp
  (repeat refine AWp.seq ?_); refine AWp.region noP (by kernel_rfl) ?_
  simp
  exact AWp.ret (post_ret1 rfl (by simp))
theorem c_toPutS (l : List Pu) (hl : l.length ≤ 1048576) (h : ∀ x ∈ l, PCall Try.prog 118 [x.av] x.av) :
    PCall Try.prog 97 [.lst false 2 (l.map Pu.av)] (.lst false 2 (l.map Pu.av)) := by
  refine pcall_of Try.func97 (by kernel_rfl) rfl (by simp [Try.f97]) ?_
  (repeat refine AWp.seq ?_); refine AWp.region noP (by kernel_rfl) ?_
  simp
  (repeat refine AWp.seq ?_); refine AWp.region noP (by kernel_rfl) ?_
  simp
  refine ⟨by omega, by omega, fun g => ?_⟩
  (repeat refine AWp.seq ?_); refine AWp.region noP (by kernel_rfl) ?_
  simp
  (repeat refine AWp.seq ?_); refine AWp.block (AWp.rounds (fun m st => ∃ (i : Nat) (xs : List AV), m = l.length - i ∧ i ≤ l.length ∧ st.slots 0 = .lst false 2 (l.map Pu.av) ∧ st.slots 3 = .own g l.length l.length ∧ st.slots 4 = .int .i64 i ∧ st.mem g = some (.arr 119 2 l.length xs) ∧ xs.length = l.length ∧ xs.take i = (l.map Pu.av).take i) l.length ⟨0, _, by simp, by simp, by simp, by simp, by simp, by simp; rfl, by simp, by simp⟩ ?_)
  rintro R m st hR ⟨i, xs, rfl, hi, s0, s3, s4, hg, hn, hx⟩
  (repeat refine AWp.seq ?_); refine AWp.region noP (by kernel_rfl) ?_
  simp [s0, s4]
  refine AWp.cond (b := decide (i < l.length)) (by simp) (fun hb => ?_) (fun hb => ?_)
  · simp at hb
    have hq : l[i]? = some l[i] := List.getElem?_eq_getElem hb
    refine AWp.skip ?_
    simp
    (repeat refine AWp.seq ?_); refine AWp.block ?_; (repeat refine AWp.seq ?_); refine AWp.region noP (by kernel_rfl) ?_
    have hx1 : idxA Try.prog st.mem 112 (.lst false 2 (l.map Pu.av)) (.int .i64 i) = some (.ref l[i].cells) := idx (y := l[i].av) es_112 (by simp [hq])
    simp [s0, s3, s4, hx1]
    refine aop_call _ _ _ _ _ _ _ _ (h l[i] (List.getElem_mem _)) ?_
    have hx2 : idxA Try.prog st.mem 115 (.own g l.length l.length) (.int .i64 i) = some (.elt g 2 i 0) := idx_own es_115 hg hn hb
    have hx3 : storeA st.mem (.elt g 2 i 0) (.agg l[i].cells) = some _ := store_elt hg (by omega) (by simp [Pu.cells_len])
    simp [s0, s3, s4, hx2, Pu.av, hx3]
    (repeat refine AWp.seq ?_); refine AWp.region noP (by kernel_rfl) ?_
    have hw : IntKind.wrap .i64 ((i : Int) + 1) = (i + 1 : Nat) := wrap64 (by omega) (by omega)
    simp [s4, hw]
    refine hR _ (l.length - (i + 1)) (by omega) ⟨i + 1, _, rfl, hb, by simp [s0], by simp [s3], by simp, by simp; rfl, by simp [hn], ?_⟩
    exact take_set hx (by simp [hn]) (by simp [hq, Pu.av])
  · simp at hb
    refine AWp.exit ?_
    simp
    (repeat refine AWp.seq ?_); refine AWp.region noP (by kernel_rfl) ?_
    simp [s3]
    have : i = l.length := by omega
    subst this
    have e : xs = l.map Pu.av := by rw [List.take_of_length_le (by omega), List.take_of_length_le (by simp)] at hx; exact hx
    subst e
    exact AWp.ret (post_own rfl (by simp; rfl) hg (by simp) rfl)
theorem c_eqPutS (l : List Pu) (hl : l.length ≤ 1048576) (h : ∀ x ∈ l, PCall Try.prog 119 [x.av, x.av] (.bool true)) :
    PCall Try.prog 98 [.lst false 2 (l.map Pu.av), .lst false 2 (l.map Pu.av)] (.bool true) := by
  refine pcall_of Try.func98 (by kernel_rfl) rfl (by simp [Try.f98]) ?_
  (repeat refine AWp.seq ?_); refine AWp.region noP (by kernel_rfl) ?_
  simp
  (repeat refine AWp.seq ?_); refine AWp.region noP (by kernel_rfl) ?_
  simp
  refine AWp.cond (b := false) (by simp) (fun h => by cases h) (fun _ => ?_)
  refine AWp.skip ?_
  simp
  (repeat refine AWp.seq ?_); refine AWp.region noP (by kernel_rfl) ?_
  simp
  (repeat refine AWp.seq ?_); refine AWp.block (AWp.rounds (fun m st => ∃ (i : Nat), m = l.length - i ∧ i ≤ l.length ∧ st.slots 0 = .lst false 2 (l.map Pu.av) ∧ st.slots 1 = .lst false 2 (l.map Pu.av) ∧ st.slots 5 = .int .i64 i) l.length ⟨0, by simp, by simp, by simp, by simp, by simp⟩ ?_)
  rintro R m st hR ⟨i, rfl, hi, s0, s1, s5⟩
  (repeat refine AWp.seq ?_); refine AWp.region noP (by kernel_rfl) ?_
  simp [s0, s5]
  refine AWp.cond (b := decide (i < l.length)) (by simp) (fun hb => ?_) (fun hb => ?_)
  · simp at hb
    have hq : l[i]? = some l[i] := List.getElem?_eq_getElem hb
    refine AWp.skip ?_
    simp
    (repeat refine AWp.seq ?_); refine AWp.block ?_; (repeat refine AWp.seq ?_); refine AWp.region allP (by kernel_rfl) ?_
    have hx1 : idxA Try.prog st.mem 115 (.lst false 2 (l.map Pu.av)) (.int .i64 i) = some (.ref l[i].cells) := idx (y := l[i].av) es_115 (by simp [hq])
    simp [s0, s1, s5, hx1]
    refine aop_call _ _ _ _ _ _ _ _ (h l[i] (List.getElem_mem _)) ?_
    simp
    refine AWp.cond (b := false) (by simp) (fun h => by cases h) (fun _ => ?_)
    refine AWp.skip ?_
    simp
    (repeat refine AWp.seq ?_); refine AWp.region noP (by kernel_rfl) ?_
    have hw : IntKind.wrap .i64 ((i : Int) + 1) = (i + 1 : Nat) := wrap64 (by omega) (by omega)
    simp [s5, hw]
    exact hR _ (l.length - (i + 1)) (by omega) ⟨i + 1, rfl, hb, by simp [s0], by simp [s1], by simp⟩
  · simp at hb
    refine AWp.exit ?_
    simp
    (repeat refine AWp.seq ?_); refine AWp.region noP (by kernel_rfl) ?_
    simp
    exact AWp.ret (post_ret1 rfl (by simp))
theorem c_szHand0 (h : Hd) (hf : h.fit) (n : Int) (h0 : 0 ≤ n) (h1 : n ≤ 1048576) :
    PCall Try.prog 70 [h.av, .int .i64 n] (.int .i64 (szr (h.stack.length + (h.regs.length + (h.shelf.length))) n)) := by
  obtain ⟨f1, f2, f3⟩ := hf
  unfold Hd.av Hd.cells
  refine pcall_of Try.func70 (by kernel_rfl) rfl (by simp [Try.f70]) ?_
  (repeat refine AWp.seq ?_); refine AWp.region noP (by kernel_rfl) ?_
  simp
  intro g
  (repeat refine AWp.seq ?_); refine AWp.region noP (by kernel_rfl) ?_
  simp
  refine aop_call _ _ _ _ _ _ _ _ (c_szIntS h.stack f1 _ (by omega) (by omega)) ?_
  simp
  (repeat refine AWp.seq ?_); refine AWp.region noP (by kernel_rfl) ?_
  simp
  have z0 : szr (h.stack.length + (h.regs.length + (h.shelf.length))) n = if szr (h.stack.length) n < 0 then -1 else szr (h.regs.length + (h.shelf.length)) (szr (h.stack.length) n) := szr_add _ _ _
  refine AWp.cond (b := decide ((szr (h.stack.length) n) < 0)) (by simp) (fun hb => ?_) (fun hb0 => ?_)
  · simp at hb
    (repeat refine AWp.seq ?_); refine AWp.region noP (by kernel_rfl) ?_
    simp
    have e : szr (h.stack.length) n = -1 := by unfold szr at hb ⊢; split at hb <;> rename_i hq <;> first | omega | rw [if_neg hq]
    refine AWp.ret (post_ret1 rfl ?_)
    simp only [put_slot, reduceIte]
    congr 1
    rw [z0, e]; rfl
  simp at hb0
  refine AWp.skip ?_
  simp
  have e0 : szr (h.stack.length) n = (szr (h.stack.length) n) := rfl
  have l0 : szr (h.stack.length) n ≤ 1048576 := by unfold szr; split <;> omega
  have y0 := z0
  rw [e0, if_neg (by omega)] at y0
  (repeat refine AWp.seq ?_); refine AWp.region noP (by kernel_rfl) ?_
  simp
  refine aop_call _ _ _ _ _ _ _ _ (c_szIntS h.regs f2 _ (by omega) (by omega)) ?_
  simp
  (repeat refine AWp.seq ?_); refine AWp.region noP (by kernel_rfl) ?_
  simp
  have z1 : szr (h.regs.length + (h.shelf.length)) (szr (h.stack.length) n) = if szr (h.regs.length) (szr (h.stack.length) n) < 0 then -1 else szr (h.shelf.length) (szr (h.regs.length) (szr (h.stack.length) n)) := szr_add _ _ _
  refine AWp.cond (b := decide ((szr (h.regs.length) (szr (h.stack.length) n)) < 0)) (by simp) (fun hb => ?_) (fun hb1 => ?_)
  · simp at hb
    (repeat refine AWp.seq ?_); refine AWp.region noP (by kernel_rfl) ?_
    simp
    have e : szr (h.regs.length) (szr (h.stack.length) n) = -1 := by unfold szr at hb ⊢; split at hb <;> rename_i hq <;> first | omega | rw [if_neg hq]
    refine AWp.ret (post_ret1 rfl ?_)
    simp only [put_slot, reduceIte]
    congr 1
    rw [y0, z1, e]; rfl
  simp at hb1
  refine AWp.skip ?_
  simp
  have e1 : szr (h.regs.length) (szr (h.stack.length) n) = (szr (h.regs.length) (szr (h.stack.length) n)) := rfl
  have l1 : szr (h.regs.length) (szr (h.stack.length) n) ≤ 1048576 := by unfold szr; split <;> omega
  have y1 := z1
  rw [e1, if_neg (by omega)] at y1
  (repeat refine AWp.seq ?_); refine AWp.region noP (by kernel_rfl) ?_
  simp
  refine aop_call _ _ _ _ _ _ _ _ (c_szPutS h.shelf f3 _ (by omega) (by omega)) ?_
  simp
  (repeat refine AWp.seq ?_); refine AWp.region noP (by kernel_rfl) ?_
  simp
  have z2 : szr (h.shelf.length) (szr (h.regs.length) (szr (h.stack.length) n)) = szr (h.shelf.length) (szr (h.regs.length) (szr (h.stack.length) n)) := rfl
  refine AWp.cond (b := decide ((szr (h.shelf.length) (szr (h.regs.length) (szr (h.stack.length) n))) < 0)) (by simp) (fun hb => ?_) (fun hb2 => ?_)
  · simp at hb
    (repeat refine AWp.seq ?_); refine AWp.region noP (by kernel_rfl) ?_
    simp
    have e : szr (h.shelf.length) (szr (h.regs.length) (szr (h.stack.length) n)) = -1 := by unfold szr at hb ⊢; split at hb <;> rename_i hq <;> first | omega | rw [if_neg hq]
    refine AWp.ret (post_ret1 rfl ?_)
    simp only [put_slot, reduceIte]
    congr 1
    rw [y0, y1, z2, e]
  simp at hb2
  refine AWp.skip ?_
  simp
  have e2 : szr (h.shelf.length) (szr (h.regs.length) (szr (h.stack.length) n)) = (szr (h.shelf.length) (szr (h.regs.length) (szr (h.stack.length) n))) := rfl
  have l2 : szr (h.shelf.length) (szr (h.regs.length) (szr (h.stack.length) n)) ≤ 1048576 := by unfold szr; split <;> omega
  have y2 := e2
  (repeat refine AWp.seq ?_); refine AWp.region noP (by kernel_rfl) ?_
  simp
  refine AWp.ret (post_ret1 rfl ?_)
  simp only [put_slot, reduceIte]
  congr 1
  rw [y0, y1, y2]
theorem c_toHand0 (h : Hd) (ht : h.tot ≤ 1048576) : PCall Try.prog 71 [h.av] h.av := by
  have h3 : h.tot = h.stack.length + (h.regs.length + h.shelf.length) := rfl
  unfold Hd.av Hd.cells
  refine pcall_of Try.func71 (by kernel_rfl) rfl (by simp [Try.f71]) ?_
  (repeat refine AWp.seq ?_); refine AWp.region noP (by kernel_rfl) ?_
  simp [set_at]
  intro g1 g2 h2
  (repeat refine AWp.seq ?_); refine AWp.region noP (by kernel_rfl) ?_
  simp [set_at]
  intro g3 h3
  have n21 : g2 ≠ g1 := fun e => by simp [e] at h2
  have m12 := n21.symm
  have n32 : g3 ≠ g2 := fun e => by simp [e] at h3
  have n31 : g3 ≠ g1 := fun e => by simp [e, m12] at h3
  have m23 := n32.symm
  have m13 := n31.symm
  (repeat refine AWp.seq ?_); refine AWp.region noP (by kernel_rfl) ?_
  simp [set_at, n21, n32, n31, m12, m23, m13]
  (repeat refine AWp.seq ?_); refine AWp.region noP (by kernel_rfl) ?_
  simp [set_at, n21, n32, n31, m12, m23, m13]
  refine aop_call _ _ _ _ _ _ _ _ (c_toIntS h.stack (by omega)) ?_
  simp [set_at, n21, n32, n31, m12, m23, m13, ints]
  (repeat refine AWp.seq ?_); refine AWp.region noP (by kernel_rfl) ?_
  simp [set_at, n21, n32, n31, m12, m23, m13]
  refine aop_call _ _ _ _ _ _ _ _ (c_toIntS h.regs (by omega)) ?_
  simp [set_at, n21, n32, n31, m12, m23, m13, ints]
  (repeat refine AWp.seq ?_); refine AWp.region noP (by kernel_rfl) ?_
  simp [set_at, n21, n32, n31, m12, m23, m13]
  refine aop_call _ _ _ _ _ _ _ _ (c_toPutS h.shelf (by omega) (fun x _ => c_toPut0 x)) ?_
  simp [set_at, n21, n32, n31, m12, m23, m13, ints]
  (repeat refine AWp.seq ?_); refine AWp.region noP (by kernel_rfl) ?_
  simp [set_at, n21, n32, n31, m12, m23, m13]
  (repeat refine AWp.seq ?_); refine AWp.region noP (by kernel_rfl) ?_
  simp [set_at, n21, n32, n31, m12, m23, m13]
  (repeat refine AWp.seq ?_); refine AWp.region noP (by kernel_rfl) ?_
  simp [set_at, n21, n32, n31, m12, m23, m13, ints]
  exact AWp.ret (post_cell (.inl rfl) rfl (by simp [set_at, n21, n32, n31, m12, m23, m13]))
theorem c_eqHand0 (h : Hd) (ht : h.tot ≤ 1048576) : PCall Try.prog 72 [h.av, h.av] (.bool true) := by
  have h3 : h.tot = h.stack.length + (h.regs.length + h.shelf.length) := rfl
  unfold Hd.av Hd.cells
  refine pcall_of Try.func72 (by kernel_rfl) rfl (by simp [Try.f72]) ?_
  (repeat refine AWp.seq ?_); refine AWp.region noP (by kernel_rfl) ?_
  simp [set_at]
  intro g1 g2 h2
  have n21 : g2 ≠ g1 := fun e => by simp [e] at h2
  have m12 := n21.symm
  (repeat refine AWp.seq ?_); refine AWp.region noP (by kernel_rfl) ?_
  simp [set_at, n21, m12]
  refine AWp.cond (b := false) (by simp) (fun h => by cases h) (fun _ => ?_)
  refine AWp.skip ?_
  simp
  (repeat refine AWp.seq ?_); refine AWp.region allP (by kernel_rfl) ?_
  simp [set_at, n21, m12]
  refine aop_call _ _ _ _ _ _ _ _ (c_eqIntS h.stack (by omega)) ?_
  simp [set_at, n21, m12]
  refine AWp.cond (b := false) (by simp) (fun h => by cases h) (fun _ => ?_)
  refine AWp.skip ?_
  simp
  (repeat refine AWp.seq ?_); refine AWp.region allP (by kernel_rfl) ?_
  simp [set_at, n21, m12]
  refine aop_call _ _ _ _ _ _ _ _ (c_eqIntS h.regs (by omega)) ?_
  simp [set_at, n21, m12]
  refine AWp.cond (b := false) (by simp) (fun h => by cases h) (fun _ => ?_)
  refine AWp.skip ?_
  simp
  (repeat refine AWp.seq ?_); refine AWp.region allP (by kernel_rfl) ?_
  simp [set_at, n21, m12]
  refine aop_call _ _ _ _ _ _ _ _ (c_eqPutS h.shelf (by omega) (fun x _ => c_eqPut0 x)) ?_
  simp [set_at, n21, m12]
  refine AWp.cond (b := false) (by simp) (fun h => by cases h) (fun _ => ?_)
  refine AWp.skip ?_
  simp
  (repeat refine AWp.seq ?_); refine AWp.region noP (by kernel_rfl) ?_
  simp [set_at, n21, m12]
  refine AWp.cond (b := false) (by simp) (fun h => by cases h) (fun _ => ?_)
  refine AWp.skip ?_
  simp
  (repeat refine AWp.seq ?_); refine AWp.region noP (by kernel_rfl) ?_
  simp [set_at, n21, m12]
  refine AWp.cond (b := false) (by simp) (fun h => by cases h) (fun _ => ?_)
  refine AWp.skip ?_
  simp
  (repeat refine AWp.seq ?_); refine AWp.region noP (by kernel_rfl) ?_
  simp
  exact AWp.ret (post_ret1 rfl (by simp))
theorem c_szHandS (l : List Hd) (hf : l.length ≤ most) (h : ∀ x ∈ l, ∀ n : Int, 0 ≤ n → n ≤ 1048576 → PCall Try.prog 70 [x.av, .int .i64 n] (.int .i64 (szr x.tot n))) (n : Int) (h0 : 0 ≤ n) (h1 : n ≤ 1048576) :
    PCall Try.prog 29 [.lst false 6 (l.map Hd.av), .int .i64 n] (.int .i64 (szr (totL Hd.tot l) n)) := by
  refine pcall_of Try.func29 (by kernel_rfl) rfl (by simp [Try.f29]) ?_
  unfold most at hf
  (repeat refine AWp.seq ?_); refine AWp.region noP (by kernel_rfl) ?_
  simp
  have hw : IntKind.wrap .i64 (n - (l.length : Int)) = n - l.length := wrap64 (by omega) (by omega)
  (repeat refine AWp.seq ?_); refine AWp.region noP (by kernel_rfl) ?_
  simp [hw]
  (repeat refine AWp.seq ?_); refine AWp.region noP (by kernel_rfl) ?_
  simp
  have ht := totL_sum Hd.tot l
  refine AWp.cond (b := decide (n - (l.length : Int) < 0)) (by simp) (fun hb => ?_) (fun hb => ?_)
  · (repeat refine AWp.seq ?_); refine AWp.region noP (by kernel_rfl) ?_
    simp
    simp at hb
    exact AWp.ret (post_ret1 rfl (by simp; rw [szr_neg (by omega)]))
  simp at hb
  refine AWp.skip ?_
  simp
  (repeat refine AWp.seq ?_); refine AWp.region noP (by kernel_rfl) ?_
  simp
  (repeat refine AWp.seq ?_); refine AWp.block (AWp.rounds (fun m st => ∃ (i : Nat) (q : Int), m = l.length - i ∧ i ≤ l.length ∧ st.slots 0 = .lst false 6 (l.map Hd.av) ∧ st.slots 1 = .int .i64 q ∧ st.slots 5 = .int .i64 i ∧ 0 ≤ q ∧ q ≤ 1048576 ∧ szr (totL Hd.tot l) n = szr (sumL Hd.tot (l.drop i)) q) l.length ⟨0, n - l.length, by simp, by simp, by simp, by simp, by simp, by omega, by omega, by
    rw [ht, szr_add, szr_pos (show ((l.length : Nat) : Int) ≤ n by omega), if_neg (by omega)]; rfl⟩ ?_)
  rintro R m st hR ⟨i, q, rfl, hi, s0, s1, s5, hq0, hq1, hr⟩
  (repeat refine AWp.seq ?_); refine AWp.region noP (by kernel_rfl) ?_
  simp [s0, s5]
  refine AWp.cond (b := decide (i < l.length)) (by simp) (fun hb => ?_) (fun hb => ?_)
  · simp at hb
    have hg : l[i]? = some l[i] := List.getElem?_eq_getElem hb
    have hd : l.drop i = l[i] :: l.drop (i + 1) := List.drop_eq_getElem_cons hb
    refine AWp.skip ?_
    simp
    (repeat refine AWp.seq ?_); refine AWp.block ?_; (repeat refine AWp.seq ?_); refine AWp.region allP (by kernel_rfl) ?_
    have hx : idxA Try.prog st.mem 23 (.lst false 6 (l.map Hd.av)) (.int .i64 i) = some (.ref l[i].cells) := idx (y := l[i].av) es_23 (by simp [hg])
    have hc : List.take 6 l[i].cells = l[i].cells := List.take_of_length_le (by rw [Hd.cells_len]; exact Nat.le_refl _)
    simp [s0, s1, s5, hx, Hd.cells_len, hc]
    refine aop_call _ _ _ _ _ _ _ _ (h l[i] (List.getElem_mem _) q hq0 hq1) ?_
    simp
    have hz : szr (totL Hd.tot l) n = if szr l[i].tot q < 0 then -1 else szr (sumL Hd.tot (l.drop (i + 1))) (szr l[i].tot q) := by rw [hr, hd, sumL, szr_add]
    (repeat refine AWp.seq ?_); refine AWp.region noP (by kernel_rfl) ?_
    simp
    refine AWp.cond (b := decide (szr l[i].tot q < 0)) (by simp) (fun he => ?_) (fun he => ?_)
    · simp at he
      (repeat refine AWp.seq ?_); refine AWp.region noP (by kernel_rfl) ?_
      simp
      exact AWp.ret (post_ret1 rfl (by simp; rw [hz, if_pos he]))
    · simp at he
      refine AWp.skip ?_
      simp
      refine AWp.region noP (by kernel_rfl) ?_
      have hw : IntKind.wrap .i64 ((i : Int) + 1) = (i + 1 : Nat) := wrap64 (by omega) (by omega)
      simp [s0, s1, s5, hw]
      have hle : szr l[i].tot q ≤ 1048576 := by unfold szr; split <;> omega
      refine hR _ (l.length - (i + 1)) (by omega) ⟨i + 1, szr l[i].tot q, rfl, hb, by simp [s0], by simp, by simp, he, hle, ?_⟩
      rw [hz, if_neg (by omega)]
  · simp at hb
    refine AWp.exit ?_
    simp
    (repeat refine AWp.seq ?_); refine AWp.region noP (by kernel_rfl) ?_
    simp [s1]
    have : i = l.length := by omega
    subst this
    refine AWp.ret (post_ret1 rfl ?_)
    simp [hr, sumL]
    rw [szr_pos (by omega)]; simp
theorem c_toHandS (l : List Hd) (hl : l.length ≤ 1048576) (h : ∀ x ∈ l, PCall Try.prog 71 [x.av] x.av) :
    PCall Try.prog 33 [.lst false 6 (l.map Hd.av)] (.lst false 6 (l.map Hd.av)) := by
  refine pcall_of Try.func33 (by kernel_rfl) rfl (by simp [Try.f33]) ?_
  (repeat refine AWp.seq ?_); refine AWp.region noP (by kernel_rfl) ?_
  simp
  (repeat refine AWp.seq ?_); refine AWp.region noP (by kernel_rfl) ?_
  simp
  refine ⟨by omega, by omega, fun g => ?_⟩
  (repeat refine AWp.seq ?_); refine AWp.region noP (by kernel_rfl) ?_
  simp
  (repeat refine AWp.seq ?_); refine AWp.block (AWp.rounds (fun m st => ∃ (i : Nat) (xs : List AV), m = l.length - i ∧ i ≤ l.length ∧ st.slots 0 = .lst false 6 (l.map Hd.av) ∧ st.slots 3 = .own g l.length l.length ∧ st.slots 4 = .int .i64 i ∧ st.mem g = some (.arr 117 6 l.length xs) ∧ xs.length = l.length ∧ xs.take i = (l.map Hd.av).take i) l.length ⟨0, _, by simp, by simp, by simp, by simp, by simp, by simp; rfl, by simp, by simp⟩ ?_)
  rintro R m st hR ⟨i, xs, rfl, hi, s0, s3, s4, hg, hn, hx⟩
  (repeat refine AWp.seq ?_); refine AWp.region noP (by kernel_rfl) ?_
  simp [s0, s4]
  refine AWp.cond (b := decide (i < l.length)) (by simp) (fun hb => ?_) (fun hb => ?_)
  · simp at hb
    have hq : l[i]? = some l[i] := List.getElem?_eq_getElem hb
    refine AWp.skip ?_
    simp
    (repeat refine AWp.seq ?_); refine AWp.block ?_; (repeat refine AWp.seq ?_); refine AWp.region noP (by kernel_rfl) ?_
    have hx1 : idxA Try.prog st.mem 23 (.lst false 6 (l.map Hd.av)) (.int .i64 i) = some (.ref l[i].cells) := idx (y := l[i].av) es_23 (by simp [hq])
    simp [s0, s3, s4, hx1]
    refine aop_call _ _ _ _ _ _ _ _ (h l[i] (List.getElem_mem _)) ?_
    have hx2 : idxA Try.prog st.mem 28 (.own g l.length l.length) (.int .i64 i) = some (.elt g 6 i 0) := idx_own es_28 hg hn hb
    have hx3 : storeA st.mem (.elt g 6 i 0) (.agg l[i].cells) = some _ := store_elt hg (by omega) (by simp [Hd.cells_len])
    simp [s0, s3, s4, hx2, Hd.av, hx3]
    (repeat refine AWp.seq ?_); refine AWp.region noP (by kernel_rfl) ?_
    have hw : IntKind.wrap .i64 ((i : Int) + 1) = (i + 1 : Nat) := wrap64 (by omega) (by omega)
    simp [s4, hw]
    refine hR _ (l.length - (i + 1)) (by omega) ⟨i + 1, _, rfl, hb, by simp [s0], by simp [s3], by simp, by simp; rfl, by simp [hn], ?_⟩
    exact take_set hx (by simp [hn]) (by simp [hq, Hd.av])
  · simp at hb
    refine AWp.exit ?_
    simp
    (repeat refine AWp.seq ?_); refine AWp.region noP (by kernel_rfl) ?_
    simp [s3]
    have : i = l.length := by omega
    subst this
    have e : xs = l.map Hd.av := by rw [List.take_of_length_le (by omega), List.take_of_length_le (by simp)] at hx; exact hx
    subst e
    exact AWp.ret (post_own rfl (by simp; rfl) hg (by simp) rfl)
theorem c_eqHandS (l : List Hd) (hl : l.length ≤ 1048576) (h : ∀ x ∈ l, PCall Try.prog 72 [x.av, x.av] (.bool true)) :
    PCall Try.prog 37 [.lst false 6 (l.map Hd.av), .lst false 6 (l.map Hd.av)] (.bool true) := by
  refine pcall_of Try.func37 (by kernel_rfl) rfl (by simp [Try.f37]) ?_
  (repeat refine AWp.seq ?_); refine AWp.region noP (by kernel_rfl) ?_
  simp
  (repeat refine AWp.seq ?_); refine AWp.region noP (by kernel_rfl) ?_
  simp
  refine AWp.cond (b := false) (by simp) (fun h => by cases h) (fun _ => ?_)
  refine AWp.skip ?_
  simp
  (repeat refine AWp.seq ?_); refine AWp.region noP (by kernel_rfl) ?_
  simp
  (repeat refine AWp.seq ?_); refine AWp.block (AWp.rounds (fun m st => ∃ (i : Nat), m = l.length - i ∧ i ≤ l.length ∧ st.slots 0 = .lst false 6 (l.map Hd.av) ∧ st.slots 1 = .lst false 6 (l.map Hd.av) ∧ st.slots 5 = .int .i64 i) l.length ⟨0, by simp, by simp, by simp, by simp, by simp⟩ ?_)
  rintro R m st hR ⟨i, rfl, hi, s0, s1, s5⟩
  (repeat refine AWp.seq ?_); refine AWp.region noP (by kernel_rfl) ?_
  simp [s0, s5]
  refine AWp.cond (b := decide (i < l.length)) (by simp) (fun hb => ?_) (fun hb => ?_)
  · simp at hb
    have hq : l[i]? = some l[i] := List.getElem?_eq_getElem hb
    refine AWp.skip ?_
    simp
    (repeat refine AWp.seq ?_); refine AWp.block ?_; (repeat refine AWp.seq ?_); refine AWp.region allP (by kernel_rfl) ?_
    have hx1 : idxA Try.prog st.mem 28 (.lst false 6 (l.map Hd.av)) (.int .i64 i) = some (.ref l[i].cells) := idx (y := l[i].av) es_28 (by simp [hq])
    simp [s0, s1, s5, hx1]
    refine aop_call _ _ _ _ _ _ _ _ (h l[i] (List.getElem_mem _)) ?_
    simp
    refine AWp.cond (b := false) (by simp) (fun h => by cases h) (fun _ => ?_)
    refine AWp.skip ?_
    simp
    (repeat refine AWp.seq ?_); refine AWp.region noP (by kernel_rfl) ?_
    have hw : IntKind.wrap .i64 ((i : Int) + 1) = (i + 1 : Nat) := wrap64 (by omega) (by omega)
    simp [s5, hw]
    exact hR _ (l.length - (i + 1)) (by omega) ⟨i + 1, rfl, hb, by simp [s0], by simp [s1], by simp⟩
  · simp at hb
    refine AWp.exit ?_
    simp
    (repeat refine AWp.seq ?_); refine AWp.region noP (by kernel_rfl) ?_
    simp
    exact AWp.ret (post_ret1 rfl (by simp))
theorem c_szMach0 (m : Mc) (hf : m.fit) (n : Int) (h0 : 0 ≤ n) (h1 : n ≤ 1048576) :
    PCall Try.prog 6 [m.av, .int .i64 n] (.int .i64 (szr (m.mem.length + (totL Hd.tot m.hands + (m.out.length))) n)) := by
  obtain ⟨f1, f2, f3, f4⟩ := hf
  unfold Mc.av Mc.cells
  refine pcall_of Try.func6 (by kernel_rfl) rfl (by simp [Try.f6]) ?_
  (repeat refine AWp.seq ?_); refine AWp.region noP (by kernel_rfl) ?_
  simp
  intro g
  (repeat refine AWp.seq ?_); refine AWp.region noP (by kernel_rfl) ?_
  simp
  refine aop_call _ _ _ _ _ _ _ _ (c_szIntS m.mem f1 _ (by omega) (by omega)) ?_
  simp
  (repeat refine AWp.seq ?_); refine AWp.region noP (by kernel_rfl) ?_
  simp
  have z0 : szr (m.mem.length + (totL Hd.tot m.hands + (m.out.length))) n = if szr (m.mem.length) n < 0 then -1 else szr (totL Hd.tot m.hands + (m.out.length)) (szr (m.mem.length) n) := szr_add _ _ _
  refine AWp.cond (b := decide ((szr (m.mem.length) n) < 0)) (by simp) (fun hb => ?_) (fun hb0 => ?_)
  · simp at hb
    (repeat refine AWp.seq ?_); refine AWp.region noP (by kernel_rfl) ?_
    simp
    have e : szr (m.mem.length) n = -1 := by unfold szr at hb ⊢; split at hb <;> rename_i hq <;> first | omega | rw [if_neg hq]
    refine AWp.ret (post_ret1 rfl ?_)
    simp only [put_slot, reduceIte]
    congr 1
    rw [z0, e]; rfl
  simp at hb0
  refine AWp.skip ?_
  simp
  have e0 : szr (m.mem.length) n = (szr (m.mem.length) n) := rfl
  have l0 : szr (m.mem.length) n ≤ 1048576 := by unfold szr; split <;> omega
  have y0 := z0
  rw [e0, if_neg (by omega)] at y0
  (repeat refine AWp.seq ?_); refine AWp.region noP (by kernel_rfl) ?_
  simp
  refine aop_call _ _ _ _ _ _ _ _ (c_szHandS m.hands f2 (fun x hx => c_szHand0 x (f3 x hx)) _ (by omega) (by omega)) ?_
  simp
  (repeat refine AWp.seq ?_); refine AWp.region noP (by kernel_rfl) ?_
  simp
  have z1 : szr (totL Hd.tot m.hands + (m.out.length)) (szr (m.mem.length) n) = if szr (totL Hd.tot m.hands) (szr (m.mem.length) n) < 0 then -1 else szr (m.out.length) (szr (totL Hd.tot m.hands) (szr (m.mem.length) n)) := szr_add _ _ _
  refine AWp.cond (b := decide ((szr (totL Hd.tot m.hands) (szr (m.mem.length) n)) < 0)) (by simp) (fun hb => ?_) (fun hb1 => ?_)
  · simp at hb
    (repeat refine AWp.seq ?_); refine AWp.region noP (by kernel_rfl) ?_
    simp
    have e : szr (totL Hd.tot m.hands) (szr (m.mem.length) n) = -1 := by unfold szr at hb ⊢; split at hb <;> rename_i hq <;> first | omega | rw [if_neg hq]
    refine AWp.ret (post_ret1 rfl ?_)
    simp only [put_slot, reduceIte]
    congr 1
    rw [y0, z1, e]; rfl
  simp at hb1
  refine AWp.skip ?_
  simp
  have e1 : szr (totL Hd.tot m.hands) (szr (m.mem.length) n) = (szr (totL Hd.tot m.hands) (szr (m.mem.length) n)) := rfl
  have l1 : szr (totL Hd.tot m.hands) (szr (m.mem.length) n) ≤ 1048576 := by unfold szr; split <;> omega
  have y1 := z1
  rw [e1, if_neg (by omega)] at y1
  (repeat refine AWp.seq ?_); refine AWp.region noP (by kernel_rfl) ?_
  simp
  refine aop_call _ _ _ _ _ _ _ _ (c_szIntS m.out f4 _ (by omega) (by omega)) ?_
  simp
  (repeat refine AWp.seq ?_); refine AWp.region noP (by kernel_rfl) ?_
  simp
  have z2 : szr (m.out.length) (szr (totL Hd.tot m.hands) (szr (m.mem.length) n)) = szr (m.out.length) (szr (totL Hd.tot m.hands) (szr (m.mem.length) n)) := rfl
  refine AWp.cond (b := decide ((szr (m.out.length) (szr (totL Hd.tot m.hands) (szr (m.mem.length) n))) < 0)) (by simp) (fun hb => ?_) (fun hb2 => ?_)
  · simp at hb
    (repeat refine AWp.seq ?_); refine AWp.region noP (by kernel_rfl) ?_
    simp
    have e : szr (m.out.length) (szr (totL Hd.tot m.hands) (szr (m.mem.length) n)) = -1 := by unfold szr at hb ⊢; split at hb <;> rename_i hq <;> first | omega | rw [if_neg hq]
    refine AWp.ret (post_ret1 rfl ?_)
    simp only [put_slot, reduceIte]
    congr 1
    rw [y0, y1, z2, e]
  simp at hb2
  refine AWp.skip ?_
  simp
  have e2 : szr (m.out.length) (szr (totL Hd.tot m.hands) (szr (m.mem.length) n)) = (szr (m.out.length) (szr (totL Hd.tot m.hands) (szr (m.mem.length) n))) := rfl
  have l2 : szr (m.out.length) (szr (totL Hd.tot m.hands) (szr (m.mem.length) n)) ≤ 1048576 := by unfold szr; split <;> omega
  have y2 := e2
  (repeat refine AWp.seq ?_); refine AWp.region noP (by kernel_rfl) ?_
  simp
  refine AWp.ret (post_ret1 rfl ?_)
  simp only [put_slot, reduceIte]
  congr 1
  rw [y0, y1, y2]
theorem c_toMach0 (m : Mc) (ht : m.tot ≤ 1048576) : PCall Try.prog 8 [m.av] m.av := by
  have h1 := totL_len Hd.tot m.hands
  have h3 : m.tot = m.mem.length + (totL Hd.tot m.hands + m.out.length) := rfl
  unfold Mc.av Mc.cells
  refine pcall_of Try.func8 (by kernel_rfl) rfl (by simp [Try.f8]) ?_
  (repeat refine AWp.seq ?_); refine AWp.region noP (by kernel_rfl) ?_
  simp [set_at]
  intro g1 g2 h2
  (repeat refine AWp.seq ?_); refine AWp.region noP (by kernel_rfl) ?_
  simp [set_at]
  intro g3 h3
  have n21 : g2 ≠ g1 := fun e => by simp [e] at h2
  have m12 := n21.symm
  have n32 : g3 ≠ g2 := fun e => by simp [e] at h3
  have n31 : g3 ≠ g1 := fun e => by simp [e, m12] at h3
  have m23 := n32.symm
  have m13 := n31.symm
  (repeat refine AWp.seq ?_); refine AWp.region noP (by kernel_rfl) ?_
  simp [set_at, n21, n32, n31, m12, m23, m13]
  refine aop_call _ _ _ _ _ _ _ _ (c_toIntS m.mem (by omega)) ?_
  simp [set_at, n21, n32, n31, m12, m23, m13, ints]
  (repeat refine AWp.seq ?_); refine AWp.region noP (by kernel_rfl) ?_
  simp [set_at, n21, n32, n31, m12, m23, m13]
  refine aop_call _ _ _ _ _ _ _ _ (c_toHandS m.hands (by omega) (fun x hx => c_toHand0 x (by have := totL_mem Hd.tot hx; omega))) ?_
  simp [set_at, n21, n32, n31, m12, m23, m13, ints]
  (repeat refine AWp.seq ?_); refine AWp.region noP (by kernel_rfl) ?_
  simp [set_at, n21, n32, n31, m12, m23, m13]
  refine aop_call _ _ _ _ _ _ _ _ (c_toIntS m.out (by omega)) ?_
  simp [set_at, n21, n32, n31, m12, m23, m13, ints]
  (repeat refine AWp.seq ?_); refine AWp.region noP (by kernel_rfl) ?_
  simp [set_at, n21, n32, n31, m12, m23, m13]
  (repeat refine AWp.seq ?_); refine AWp.region noP (by kernel_rfl) ?_
  simp [set_at, n21, n32, n31, m12, m23, m13, ints]
  exact AWp.ret (post_cell (.inl rfl) rfl (by simp [set_at, n21, n32, n31, m12, m23, m13]))
theorem c_eqMach0 (m : Mc) (ht : m.tot ≤ 1048576) : PCall Try.prog 10 [m.av, m.av] (.bool true) := by
  have h1 := totL_len Hd.tot m.hands
  have h3 : m.tot = m.mem.length + (totL Hd.tot m.hands + m.out.length) := rfl
  unfold Mc.av Mc.cells
  refine pcall_of Try.func10 (by kernel_rfl) rfl (by simp [Try.f10]) ?_
  (repeat refine AWp.seq ?_); refine AWp.region noP (by kernel_rfl) ?_
  simp [set_at]
  intro g1 g2 h2
  have n21 : g2 ≠ g1 := fun e => by simp [e] at h2
  have m12 := n21.symm
  (repeat refine AWp.seq ?_); refine AWp.region allP (by kernel_rfl) ?_
  simp [set_at, n21, m12]
  refine aop_call _ _ _ _ _ _ _ _ (c_eqIntS m.mem (by omega)) ?_
  simp [set_at, n21, m12]
  refine AWp.cond (b := false) (by simp) (fun h => by cases h) (fun _ => ?_)
  refine AWp.skip ?_
  simp
  (repeat refine AWp.seq ?_); refine AWp.region allP (by kernel_rfl) ?_
  simp [set_at, n21, m12]
  refine aop_call _ _ _ _ _ _ _ _ (c_eqHandS m.hands (by omega) (fun x hx => c_eqHand0 x (by have := totL_mem Hd.tot hx; omega))) ?_
  simp [set_at, n21, m12]
  refine AWp.cond (b := false) (by simp) (fun h => by cases h) (fun _ => ?_)
  refine AWp.skip ?_
  simp
  (repeat refine AWp.seq ?_); refine AWp.region allP (by kernel_rfl) ?_
  simp [set_at, n21, m12]
  refine aop_call _ _ _ _ _ _ _ _ (c_eqIntS m.out (by omega)) ?_
  simp [set_at, n21, m12]
  refine AWp.cond (b := false) (by simp) (fun h => by cases h) (fun _ => ?_)
  refine AWp.skip ?_
  simp
  (repeat refine AWp.seq ?_); refine AWp.region noP (by kernel_rfl) ?_
  simp [set_at, n21, m12]
  refine AWp.cond (b := false) (by simp) (fun h => by cases h) (fun _ => ?_)
  refine AWp.skip ?_
  simp
  (repeat refine AWp.seq ?_); refine AWp.region noP (by kernel_rfl) ?_
  simp
  exact AWp.ret (post_ret1 rfl (by simp))
end Go.T
