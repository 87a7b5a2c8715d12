/- The reference's reader: statements, walked. The reference puts arrays in order. The reference's Parse. New machines: what the program and the reference compute. Great machines compared; how many marks programs and machines take. -/
import Derived.Test.YtdbnllfjmkmdiaaGreatDoorG18
import Derived.Test.YtdbnllfjmkmdiaaGreatDoorG9
import Derived.Test.YtdbnllfjmkmdiaaGreatDoorG15
set_option linter.unusedSimpArgs false
set_option linter.unusedVariables false
namespace Go.T
open Go Go.Proofs
set_option maxRecDepth 10000
set_option maxHeartbeats 1000000
open Go
theorem is_diff {t : Tk} {k : Int} {s s' : ByteArray} (h : t.is k s = true) (hs : s ≠ s') : t.is k s' = false := by
 unfold Tk.is at h ⊢
 simp only [Bool.and_eq_true, decide_eq_true_eq] at h
 rw [h.2]
 simp [hs]
theorem sc_les (k : Int) (s : ByteArray) (a e lo hi : Ex) : Les (sc k s a e lo hi (.lst true 0 [])) (sc k s a e lo hi (.lst false 19 [])) := by
 have app : ∀ (l : List AV) {u v : List AV}, Les u v → Les (l ++ u) (l ++ v) := fun l => by
  induction l with
  | nil => exact fun h => h
  | cons x l ih => exact fun h => .cons (Le.refl x) (ih h)
 exact .cons (Le.refl _) (.cons (Le.refl _) (app _ (app _ (app _ (app _ (.cons (Le.nil _ _ _) .nil))))))
theorem sc_at (k : Int) (s : ByteArray) (a e lo hi : Ex) (v : AV) : (sc k s a e lo hi v)[18]? = some v := by
 have : sc k s a e lo hi v = (.int .i64 k :: .str s :: (a.cells ++ (e.cells ++ (lo.cells ++ hi.cells)))) ++ [v] := by simp [sc]
 rw [this, List.getElem?_append_right (by simp)]
 simp
theorem sc_set (k : Int) (s : ByteArray) (a e lo hi : Ex) (v v' : AV) : (sc k s a e lo hi v).set 18 v' = sc k s a e lo hi v' := by
 have : ∀ v, sc k s a e lo hi v = (.int .i64 k :: .str s :: (a.cells ++ (e.cells ++ (lo.cells ++ hi.cells)))) ++ [v] := fun v => by simp [sc]
 rw [this, this, List.set_append_right _ _ (by simp)]
 simp
theorem c_l5Stmt0 (q : Nat) (hq5 : q ≤ 5) (hS : ExpS Tryz.prog 79 30 (sumP 30)) (hR : ∀ j, q = j + 1 → StmtS Tryz.prog 67 (5 - (j : Int)) (stmtQ j)) : StmtS Tryz.prog 67 (5 - (q : Int)) (stmtQ q) := by
 intro gr T a d bad m hP hT hd0 K hK
 have hgr := hP.at
 have eE : ByteArray.empty = (⟨#[]⟩ : ByteArray) := rfl
 refine wcall_of Tryz.func67 (by kernel_rfl) rfl (by simp [Tryz.f67]) ?_
 (repeat refine sqA ?_); refine rgA (by kernel_rfl) ?_
 simp
 intro g4 hg4
 have h := (BH.start hP).new hgr hg4 (.box [.int .i64 0, .str ByteArray.empty, .int .i64 0, .int .i64 0, .str ByteArray.empty, .lst true 0 [], .int .i64 0, .int .i64 0, .str ByteArray.empty, .lst true 0 [], .int .i64 0, .int .i64 0, .str ByteArray.empty, .lst true 0 [], .int .i64 0, .int .i64 0, .str ByteArray.empty, .lst true 0 [], .lst true 0 []])
 refine AWp.gen (fun st => st.slots 0 = .ptr gr 0 ∧ st.slots 1 = .int .i64 (5 - (q : Int)) ∧ st.slots 4 = .ptr g4 0 ∧ st.mem = m.set g4 (.box [.int .i64 0, .str ByteArray.empty, .int .i64 0, .int .i64 0, .str ByteArray.empty, .lst true 0 [], .int .i64 0, .int .i64 0, .str ByteArray.empty, .lst true 0 [], .int .i64 0, .int .i64 0, .str ByteArray.empty, .lst true 0 [], .int .i64 0, .int .i64 0, .str ByteArray.empty, .lst true 0 [], .lst true 0 []])) ⟨by simp, by simp, by simp, by simp⟩ ?_
 generalize m.set g4 (.box [.int .i64 0, .str ByteArray.empty, .int .i64 0, .int .i64 0, .str ByteArray.empty, .lst true 0 [], .int .i64 0, .int .i64 0, .str ByteArray.empty, .lst true 0 [], .int .i64 0, .int .i64 0, .str ByteArray.empty, .lst true 0 [], .int .i64 0, .int .i64 0, .str ByteArray.empty, .lst true 0 [], .lst true 0 []]) = m0 at *
 rintro st ⟨s0, s1, s4, sm⟩
 (repeat refine sqA ?_); refine rgA (by kernel_rfl) ?_
 simp [sm]
 intro g5 hg5
 have h := h.new hgr hg5 (.box [.int .i64 0, .str ByteArray.empty, .int .i64 0, .int .i64 0, .str ByteArray.empty, .lst true 0 [], .int .i64 0, .int .i64 0, .str ByteArray.empty, .lst true 0 [], .int .i64 0, .int .i64 0, .str ByteArray.empty, .lst true 0 [], .int .i64 0, .int .i64 0, .str ByteArray.empty, .lst true 0 [], .lst true 0 []])
 refine AWp.gen (fun st => st.slots 0 = .ptr gr 0 ∧ st.slots 1 = .int .i64 (5 - (q : Int)) ∧ st.slots 4 = .ptr g4 0 ∧ st.slots 5 = .ptr g5 0 ∧ st.mem = m0.set g5 (.box [.int .i64 0, .str ByteArray.empty, .int .i64 0, .int .i64 0, .str ByteArray.empty, .lst true 0 [], .int .i64 0, .int .i64 0, .str ByteArray.empty, .lst true 0 [], .int .i64 0, .int .i64 0, .str ByteArray.empty, .lst true 0 [], .int .i64 0, .int .i64 0, .str ByteArray.empty, .lst true 0 [], .lst true 0 []])) ⟨by simp [s0], by simp [s1], by simp [s4], by simp, by simp⟩ ?_
 clear s0 s1 s4 sm
 rintro st ⟨s0, s1, s4, s5, sm⟩
 have w5 := h.get (g := g5) (b := .box [.int .i64 0, .str ByteArray.empty, .int .i64 0, .int .i64 0, .str ByteArray.empty, .lst true 0 [], .int .i64 0, .int .i64 0, .str ByteArray.empty, .lst true 0 [], .int .i64 0, .int .i64 0, .str ByteArray.empty, .lst true 0 [], .int .i64 0, .int .i64 0, .str ByteArray.empty, .lst true 0 [], .lst true 0 []]) (by simp)
 rw [← sm] at w5 h
 refine AWp.sees (Sees.boxLe w5 zS_les) ?_
 have h := BH.put (l1 := []) (b' := .box (sc 0 ⟨#[]⟩ zE zE zE zE (.lst true 0 []))) h
 refine AWp.gen (fun st' => st'.slots 0 = .ptr gr 0 ∧ st'.slots 1 = .int .i64 (5 - (q : Int)) ∧ st'.slots 4 = .ptr g4 0 ∧ st'.slots 5 = .ptr g5 0 ∧ st'.mem = st.mem.set g5 (.box (sc 0 ⟨#[]⟩ zE zE zE zE (.lst true 0 [])))) ⟨s0, s1, s4, s5, rfl⟩ ?_
 generalize st.mem.set g5 (.box (sc 0 ⟨#[]⟩ zE zE zE zE (.lst true 0 []))) = m1 at *
 clear s0 s1 s4 s5 sm w5
 rintro st ⟨s0, s1, s4, s5, sm⟩
 obtain ⟨M, hM⟩ : ∃ M : St → Prop, M = (fun st => ∃ k s a0 e lo hi bd o a1 d1 b1, st.slots 4 = .ptr g4 0 ∧ st.slots 5 = .ptr g5 0 ∧ BH m gr T a1 d1 b1 (rowB 83 19 (bd.map Sm.av) o ++ [(g5, .box (sc k s a0 e lo hi (rowA bd.length o))), (g4, .box [.int .i64 0, .str ByteArray.empty, .int .i64 0, .int .i64 0, .str ByteArray.empty, .lst true 0 [], .int .i64 0, .int .i64 0, .str ByteArray.empty, .lst true 0 [], .int .i64 0, .int .i64 0, .str ByteArray.empty, .lst true 0 [], .int .i64 0, .int .i64 0, .str ByteArray.empty, .lst true 0 [], .lst true 0 []])]) st.mem ∧ (o = none → bd = []) ∧ (b1 = false → d1 = 0) ∧ Run1 (stmtQ q) T a bad (Sm.mk k s a0 e lo hi bd) a1 b1) := ⟨_, rfl⟩
 (repeat refine sqA ?_); refine AWp.cutA M ?_ ?_
 ·(repeat refine sqA ?_); refine AWp.block ?_
  cases q with
  | zero =>
   have hbx := h.ps.box
   unfold pc at hbx
   (repeat refine sqA ?_); refine rgA (by kernel_rfl) ?_
   simp [s1]
   (repeat refine sqA ?_); refine AWp.condT (by simp) ?_
   (repeat refine sqA ?_); refine rgA (by kernel_rfl) ?_
   simp [s0, sm, hbx]
   have h := h.call hgr (Off.box _ _) (h.ps.step a d true h.ps.le)
   subst hM
   exact ⟨0, ⟨#[]⟩, zE, zE, zE, zE, [], none, a, d, true, by simp [s4], by simp [s5], by simpa [rowB, rowA, pc] using h, fun _ => rfl, fun e => (by cases e), Run1.nope (.inr rfl)⟩
  | succ j =>
   have hR := hR j rfl
   have hlt5 : ¬ (4 : Int) < 5 - ((j + 1 : Nat) : Int) := by omega
   (repeat refine sqA ?_); refine rgA (by kernel_rfl) ?_
   simp only [Int.natCast_add, Int.cast_ofNat_Int] at hlt5
   simp [s1, hlt5]
   (repeat refine sqA ?_); refine AWp.condF (by first | (simp; done) | (simp; omega)) ?_
   refine AWp.gen (fun st => st.slots 0 = .ptr gr 0 ∧ st.slots 1 = .int .i64 (5 - ((j + 1 : Nat) : Int)) ∧ st.slots 4 = .ptr g4 0 ∧ st.slots 5 = .ptr g5 0 ∧ st.mem = m1) ⟨by simp [s0], by simp [s1], by simp [s4], by simp [s5], by simp [sm]⟩ ?_
   clear s0 s1 s4 s5 sm
   rintro st ⟨s0, s1, s4, s5, sm⟩
   (repeat refine sqA ?_); refine rgA (by kernel_rfl) ?_
   simp [s0]
   refine aop_wcall _ _ _ _ _ _ _ _ rfl (eval_func _ _) ?_
   simp [sm]
   refine c_l5Kept h.ps printB fun mA hPn hOn => ?_
   try simp
   have h := h.call hgr hOn hPn
   clear hPn hOn
   cases hi : (hdT T a bad).is 3 printB with
   | true =>
    obtain ⟨rfl, hlt, _, hmk⟩ := is_at (by omega) hi
    rw [hi] at h
    simp at h
    have hnf : false = true ∨ ∀ hlt : a < T.length, T[a].is 3 forB = false := .inr fun _ => is_diff hmk (by decide)
    try simp
    (repeat refine sqA ?_); refine AWp.condT (by simp) ?_
    refine AWp.gen (fun st => st.slots 0 = .ptr gr 0 ∧ st.slots 1 = .int .i64 (5 - ((j + 1 : Nat) : Int)) ∧ st.slots 4 = .ptr g4 0 ∧ st.slots 5 = .ptr g5 0 ∧ st.mem = mA) ⟨by simp [s0], by simp [s1], by simp [s4], by simp [s5], by first | (simp; done) | (simp [sm]; done)⟩ ?_
    clear s0 s1 s4 s5 sm
    rintro st ⟨s0, s1, s4, s5, sm⟩
    have w5 := h.get (g := g5) (b := .box (sc 0 ⟨#[]⟩ zE zE zE zE (.lst true 0 []))) (by simp)
    have t5 := stK w5 4
    (repeat refine sqA ?_); refine rgA (by kernel_rfl) ?_
    simp [-store_ptr, s5, sm, t5]
    have h := BH.put (l1 := []) (b' := .box (sc 4 ⟨#[]⟩ zE zE zE zE (.lst true 0 []))) h
    refine AWp.gen (fun st => st.slots 0 = .ptr gr 0 ∧ st.slots 1 = .int .i64 (5 - ((j + 1 : Nat) : Int)) ∧ st.slots 4 = .ptr g4 0 ∧ st.slots 5 = .ptr g5 0 ∧ st.mem = mA.set g5 (.box (sc 4 ⟨#[]⟩ zE zE zE zE (.lst true 0 [])))) ⟨by simp [s0], by simp [s1], by simp [s4], by simp [s5], by first | (simp; done) | (simp [sm]; done)⟩ ?_
    generalize mA.set g5 (.box (sc 4 ⟨#[]⟩ zE zE zE zE (.lst true 0 []))) = n1 at *
    clear s0 s1 s4 s5 sm
    rintro st ⟨s0, s1, s4, s5, sm⟩
    clear w5 t5
    (repeat refine sqA ?_); refine rgA (by kernel_rfl) ?_
    simp [s0]
    refine aop_wcall _ _ _ _ _ _ _ _ rfl (eval_func _ _) ?_
    simp [sm]
    refine hS gr T _ _ _ _ h.ps hT (fun _ => by rw [hd0 rfl]; rfl) _ fun m2 e2 a2 d2 b2 hPn hOn run2 hdd2 => ?_
    have h := h.call hgr hOn hPn
    have was2 := Run1.was run2
    clear hPn hOn
    have w5 := h.get (g := g5) (b := .box (sc 4 ⟨#[]⟩ zE zE zE zE (.lst true 0 []))) (by simp)
    have t5 := stE w5 e2
    simp [-store_ptr, Ex.av, s5, t5]
    try refine ⟨okE _, ?_⟩
    have h := BH.put (l1 := []) (b' := .box (sc 4 ⟨#[]⟩ zE e2 zE zE (.lst true 0 []))) h
    refine AWp.gen (fun st => st.slots 0 = .ptr gr 0 ∧ st.slots 1 = .int .i64 (5 - ((j + 1 : Nat) : Int)) ∧ st.slots 4 = .ptr g4 0 ∧ st.slots 5 = .ptr g5 0 ∧ st.mem = m2.set g5 (.box (sc 4 ⟨#[]⟩ zE e2 zE zE (.lst true 0 [])))) ⟨by simp [s0], by simp [s1], by simp [s4], by simp [s5], by first | (simp; done) | (simp [sm]; done)⟩ ?_
    generalize m2.set g5 (.box (sc 4 ⟨#[]⟩ zE e2 zE zE (.lst true 0 []))) = n2 at *
    clear s0 s1 s4 s5 sm
    rintro st ⟨s0, s1, s4, s5, sm⟩
    clear w5 t5
    (repeat refine sqA ?_); refine rgA (by kernel_rfl) ?_
    simp [s0]
    refine aop_wcall _ _ _ _ _ _ _ _ rfl (eval_func _ _) ?_
    simp [sm]
    refine c_l5Mark h.ps (ch 59) fun mA hPn hOn => ?_
    try simp
    refine aop_wcall _ _ _ _ _ _ _ _ rfl (eval_func _ _) ?_
    try simp
    refine c_l5Must hPn _ fun n3 hPm hOm => ?_
    obtain ⟨a3, b3, hPm, run3⟩ : ∃ a' b', PS gr T a' d2 b' n3 ∧ Run1 (tkR (ch 59)) T a2 b2 () a' b' := ⟨_, _, hPm, mark_run h.ps.le _⟩
    have h := h.call hgr (hOn.trans hOm) hPm
    have was3 := Run1.was run3
    clear hPn hOn hPm hOm
    try simp
    subst hM
    exact ⟨4, ⟨#[]⟩, zE, e2, zE, zE, [], none, a3, d2, b3, by simp [s4], by simp [s5], by simpa [rowB, rowA] using h, fun _ => rfl, fun e => (hdd2 (was3 e)).trans (hd0 rfl), stmtQ_plain hnf (plain_print hlt hmk (Run1.then_ (Run1.then_ run2 (run3.then_ (Run1.done _ T a3 b3))) (Run1.done _ T a3 b3)))⟩
   | false =>
    have hnp := is_not3 hi
    rw [hi] at h
    simp at h
    try simp
    (repeat refine sqA ?_); refine AWp.condF (by simp) ?_
    refine AWp.gen (fun st => st.slots 0 = .ptr gr 0 ∧ st.slots 1 = .int .i64 (5 - ((j + 1 : Nat) : Int)) ∧ st.slots 4 = .ptr g4 0 ∧ st.slots 5 = .ptr g5 0 ∧ st.mem = mA) ⟨by simp [s0], by simp [s1], by simp [s4], by simp [s5], by first | (simp; done) | (simp [sm]; done)⟩ ?_
    clear s0 s1 s4 s5 sm
    rintro st ⟨s0, s1, s4, s5, sm⟩
    clear hi
    (repeat refine sqA ?_); refine rgA (by kernel_rfl) ?_
    simp [s0]
    refine aop_wcall _ _ _ _ _ _ _ _ rfl (eval_func _ _) ?_
    simp [sm]
    refine c_l5Kept h.ps forB fun mA hPn hOn => ?_
    try simp
    have h := h.call hgr hOn hPn
    clear hPn hOn
    cases hi : (hdT T a bad).is 3 forB with
    | true =>
     obtain ⟨rfl, hlt, _, hmk⟩ := is_at (by omega) hi
     rw [hi] at h
     simp at h
     try simp
     (repeat refine sqA ?_); refine AWp.condT (by simp) ?_
     refine AWp.gen (fun st => st.slots 0 = .ptr gr 0 ∧ st.slots 1 = .int .i64 (5 - ((j + 1 : Nat) : Int)) ∧ st.slots 4 = .ptr g4 0 ∧ st.slots 5 = .ptr g5 0 ∧ st.mem = mA) ⟨by simp [s0], by simp [s1], by simp [s4], by simp [s5], by first | (simp; done) | (simp [sm]; done)⟩ ?_
     clear s0 s1 s4 s5 sm
     rintro st ⟨s0, s1, s4, s5, sm⟩
     have w5 := h.get (g := g5) (b := .box (sc 0 ⟨#[]⟩ zE zE zE zE (.lst true 0 []))) (by simp)
     have t5 := stK w5 3
     (repeat refine sqA ?_); refine rgA (by kernel_rfl) ?_
     simp [-store_ptr, s5, sm, t5]
     have h := BH.put (l1 := []) (b' := .box (sc 3 ⟨#[]⟩ zE zE zE zE (.lst true 0 []))) h
     refine AWp.gen (fun st => st.slots 0 = .ptr gr 0 ∧ st.slots 1 = .int .i64 (5 - ((j + 1 : Nat) : Int)) ∧ st.slots 4 = .ptr g4 0 ∧ st.slots 5 = .ptr g5 0 ∧ st.mem = mA.set g5 (.box (sc 3 ⟨#[]⟩ zE zE zE zE (.lst true 0 [])))) ⟨by simp [s0], by simp [s1], by simp [s4], by simp [s5], by first | (simp; done) | (simp [sm]; done)⟩ ?_
     generalize mA.set g5 (.box (sc 3 ⟨#[]⟩ zE zE zE zE (.lst true 0 []))) = n1 at *
     clear s0 s1 s4 s5 sm
     rintro st ⟨s0, s1, s4, s5, sm⟩
     clear w5 t5
     (repeat refine sqA ?_); refine rgA (by kernel_rfl) ?_
     simp [s0]
     refine aop_wcall _ _ _ _ _ _ _ _ rfl (eval_func _ _) ?_
     simp [sm]
     refine c_nameS h.ps fun m1 nm a1 b1 hPn hOn run1 => ?_
     have h := h.call hgr hOn hPn
     have was1 := Run1.was run1
     clear hPn hOn
     have w5 := h.get (g := g5) (b := .box (sc 3 ⟨#[]⟩ zE zE zE zE (.lst true 0 []))) (by simp)
     have t5 := stN w5 nm
     simp [-store_ptr, s5, t5]
     have h := BH.put (l1 := []) (b' := .box (sc 3 nm zE zE zE zE (.lst true 0 []))) h
     refine AWp.gen (fun st => st.slots 0 = .ptr gr 0 ∧ st.slots 1 = .int .i64 (5 - ((j + 1 : Nat) : Int)) ∧ st.slots 4 = .ptr g4 0 ∧ st.slots 5 = .ptr g5 0 ∧ st.mem = m1.set g5 (.box (sc 3 nm zE zE zE zE (.lst true 0 [])))) ⟨by simp [s0], by simp [s1], by simp [s4], by simp [s5], by first | (simp; done) | (simp [sm]; done)⟩ ?_
     generalize m1.set g5 (.box (sc 3 nm zE zE zE zE (.lst true 0 []))) = n2 at *
     clear s0 s1 s4 s5 sm
     rintro st ⟨s0, s1, s4, s5, sm⟩
     clear w5 t5
     (repeat refine sqA ?_); refine rgA (by kernel_rfl) ?_
     simp [s0]
     refine aop_wcall _ _ _ _ _ _ _ _ rfl (eval_func _ _) ?_
     simp [sm]
     refine c_l5Mark h.ps (ch 61) fun mA hPn hOn => ?_
     try simp
     refine aop_wcall _ _ _ _ _ _ _ _ rfl (eval_func _ _) ?_
     try simp
     refine c_l5Must hPn _ fun n2 hPm hOm => ?_
     obtain ⟨a2, b2, hPm, run2⟩ : ∃ a' b', PS gr T a' d b' n2 ∧ Run1 (tkR (ch 61)) T a1 b1 () a' b' := ⟨_, _, hPm, mark_run h.ps.le _⟩
     have h := h.call hgr (hOn.trans hOm) hPm
     have was2 := Run1.was run2
     clear hPn hOn hPm hOm
     try simp
     refine AWp.gen (fun st => st.slots 0 = .ptr gr 0 ∧ st.slots 1 = .int .i64 (5 - ((j + 1 : Nat) : Int)) ∧ st.slots 4 = .ptr g4 0 ∧ st.slots 5 = .ptr g5 0 ∧ st.mem = n2) ⟨by simp [s0], by simp [s1], by simp [s4], by simp [s5], by first | (simp; done) | (simp [sm]; done)⟩ ?_
     clear s0 s1 s4 s5 sm
     rintro st ⟨s0, s1, s4, s5, sm⟩
     (repeat refine sqA ?_); refine rgA (by kernel_rfl) ?_
     simp [s0]
     refine aop_wcall _ _ _ _ _ _ _ _ rfl (eval_func _ _) ?_
     simp [sm]
     refine hS gr T _ _ _ _ h.ps hT (fun e => by rw [hd0 rfl]; rfl) _ fun m3 e3 a3 d3 b3 hPn hOn run3 hdd3 => ?_
     have h := h.call hgr hOn hPn
     have was3 := Run1.was run3
     clear hPn hOn
     have w5 := h.get (g := g5) (b := .box (sc 3 nm zE zE zE zE (.lst true 0 []))) (by simp)
     have t5 := stL w5 e3
     simp [-store_ptr, Ex.av, s5, t5]
     try refine ⟨okE _, ?_⟩
     have h := BH.put (l1 := []) (b' := .box (sc 3 nm zE zE e3 zE (.lst true 0 []))) h
     refine AWp.gen (fun st => st.slots 0 = .ptr gr 0 ∧ st.slots 1 = .int .i64 (5 - ((j + 1 : Nat) : Int)) ∧ st.slots 4 = .ptr g4 0 ∧ st.slots 5 = .ptr g5 0 ∧ st.mem = m3.set g5 (.box (sc 3 nm zE zE e3 zE (.lst true 0 [])))) ⟨by simp [s0], by simp [s1], by simp [s4], by simp [s5], by first | (simp; done) | (simp [sm]; done)⟩ ?_
     generalize m3.set g5 (.box (sc 3 nm zE zE e3 zE (.lst true 0 []))) = n3 at *
     clear s0 s1 s4 s5 sm
     rintro st ⟨s0, s1, s4, s5, sm⟩
     clear w5 t5
     (repeat refine sqA ?_); refine rgA (by kernel_rfl) ?_
     simp [s0]
     refine aop_wcall _ _ _ _ _ _ _ _ rfl (eval_func _ _) ?_
     simp [sm]
     refine c_l5Kept h.ps toB fun mA hPn hOn => ?_
     try simp
     refine aop_wcall _ _ _ _ _ _ _ _ rfl (eval_func _ _) ?_
     try simp
     refine c_l5Must hPn _ fun n4 hPm hOm => ?_
     obtain ⟨a4, b4, hPm, run4⟩ : ∃ a' b', PS gr T a' d3 b' n4 ∧ Run1 (kpR toB) T a3 b3 () a' b' := ⟨_, _, hPm, kept_run h.ps.le _⟩
     have h := h.call hgr (hOn.trans hOm) hPm
     have was4 := Run1.was run4
     clear hPn hOn hPm hOm
     try simp
     refine AWp.gen (fun st => st.slots 0 = .ptr gr 0 ∧ st.slots 1 = .int .i64 (5 - ((j + 1 : Nat) : Int)) ∧ st.slots 4 = .ptr g4 0 ∧ st.slots 5 = .ptr g5 0 ∧ st.mem = n4) ⟨by simp [s0], by simp [s1], by simp [s4], by simp [s5], by first | (simp; done) | (simp [sm]; done)⟩ ?_
     clear s0 s1 s4 s5 sm
     rintro st ⟨s0, s1, s4, s5, sm⟩
     (repeat refine sqA ?_); refine rgA (by kernel_rfl) ?_
     simp [s0]
     refine aop_wcall _ _ _ _ _ _ _ _ rfl (eval_func _ _) ?_
     simp [sm]
     refine hS gr T _ _ _ _ h.ps hT (fun e => by rw [hdd3 (was4 e), hd0 rfl]; rfl) _ fun m5 e5 a5 d5 b5 hPn hOn run5 hdd5 => ?_
     have h := h.call hgr hOn hPn
     have was5 := Run1.was run5
     clear hPn hOn
     have w5 := h.get (g := g5) (b := .box (sc 3 nm zE zE e3 zE (.lst true 0 []))) (by simp)
     have t5 := stH w5 e5
     simp [-store_ptr, Ex.av, s5, t5]
     try refine ⟨okE _, ?_⟩
     have h := BH.put (l1 := []) (b' := .box (sc 3 nm zE zE e3 e5 (.lst true 0 []))) h
     refine AWp.gen (fun st => st.slots 0 = .ptr gr 0 ∧ st.slots 1 = .int .i64 (5 - ((j + 1 : Nat) : Int)) ∧ st.slots 4 = .ptr g4 0 ∧ st.slots 5 = .ptr g5 0 ∧ st.mem = m5.set g5 (.box (sc 3 nm zE zE e3 e5 (.lst true 0 [])))) ⟨by simp [s0], by simp [s1], by simp [s4], by simp [s5], by first | (simp; done) | (simp [sm]; done)⟩ ?_
     generalize m5.set g5 (.box (sc 3 nm zE zE e3 e5 (.lst true 0 []))) = n5 at *
     clear s0 s1 s4 s5 sm
     rintro st ⟨s0, s1, s4, s5, sm⟩
     clear w5 t5
     (repeat refine sqA ?_); refine rgA (by kernel_rfl) ?_
     simp [s0]
     refine aop_wcall _ _ _ _ _ _ _ _ rfl (eval_func _ _) ?_
     simp [sm]
     refine c_l5Mark h.ps (ch 123) fun mA hPn hOn => ?_
     try simp
     refine aop_wcall _ _ _ _ _ _ _ _ rfl (eval_func _ _) ?_
     try simp
     refine c_l5Must hPn _ fun n6 hPm hOm => ?_
     obtain ⟨a6, b6, hPm, run6⟩ : ∃ a' b', PS gr T a' d5 b' n6 ∧ Run1 (tkR (ch 123)) T a5 b5 () a' b' := ⟨_, _, hPm, mark_run h.ps.le _⟩
     have h := h.call hgr (hOn.trans hOm) hPm
     have was6 := Run1.was run6
     clear hPn hOn hPm hOm
     try simp
     refine AWp.gen (fun st => st.slots 0 = .ptr gr 0 ∧ st.slots 1 = .int .i64 (5 - ((j + 1 : Nat) : Int)) ∧ st.slots 4 = .ptr g4 0 ∧ st.slots 5 = .ptr g5 0 ∧ st.mem = n6) ⟨by simp [s0], by simp [s1], by simp [s4], by simp [s5], by first | (simp; done) | (simp [sm]; done)⟩ ?_
     clear s0 s1 s4 s5 sm
     rintro st ⟨s0, s1, s4, s5, sm⟩
     have hdz : b6 = false → d5 = 0 := fun e => (hdd5 (was6 e)).trans ((hdd3 (was4 (was5 (was6 e)))).trans (hd0 rfl))
     have hall : ∀ y a2 b2, Run1 (bodyL (stmtQ j) []) T a6 b6 y a2 b2 → Run1 (stmtQ (j + 1)) T a false (smFor nm e3 e5 y) a2 b2 := fun y a7 b7 r7 => stmtQ_for hlt hmk (by
      unfold loopP
      exact run1.then_ (run2.then_ (run3.then_ (run4.then_ (run5.then_ (run6.then_ (r7.then_ (Run1.done _ T a7 b7))))))))
     have hsmall := hP.small
     clear run1 run2 run3 run4 run5 run6 was1 was2 was3 was4 was5 was6 hdd3 hdd5
     refine AWp.block (AWp.rounds (fun q st => ∃ l o a1 d1 b1, q = (if b1 = true then 0 else T.length - a1 + 1) ∧ st.slots 0 = .ptr gr 0 ∧ st.slots 1 = .int .i64 (5 - ((j + 1 : Nat) : Int)) ∧ st.slots 4 = .ptr g4 0 ∧ st.slots 5 = .ptr g5 0 ∧ BH m gr T a1 d1 b1 (rowB 83 19 (l.map Sm.av) o ++ [(g5, .box (sc 3 nm zE zE e3 e5 (rowA l.length o))), (g4, .box [.int .i64 0, .str ByteArray.empty, .int .i64 0, .int .i64 0, .str ByteArray.empty, .lst true 0 [], .int .i64 0, .int .i64 0, .str ByteArray.empty, .lst true 0 [], .int .i64 0, .int .i64 0, .str ByteArray.empty, .lst true 0 [], .int .i64 0, .int .i64 0, .str ByteArray.empty, .lst true 0 [], .lst true 0 []])]) st.mem ∧ (o = none → l = []) ∧ (b1 = false → d1 = 0 ∧ l.length ≤ a1) ∧ ∀ y a2 b2, Run1 (bodyL (stmtQ j) l) T a1 b1 y a2 b2 → Run1 (stmtQ (j + 1)) T a false (smFor nm e3 e5 y) a2 b2) (if b6 = true then 0 else T.length - a6 + 1) ⟨[], none, a6, d5, b6, rfl, s0, s1, s4, s5, by rw [sm]; simpa [rowB, rowA] using h, fun _ => rfl, fun e => ⟨hdz e, by simp⟩, hall⟩ ?_)
     clear s0 s1 s4 s5 sm h hall hdz
     rintro RR q st hRR ⟨l, o, a1', d1, b1', rfl, s0, s1, s4, s5, h, ho, hdl, hall⟩
     have hbx := h.ps.box
     unfold pc at hbx
     cases b1' with
     | true =>
      (repeat refine sqA ?_); refine rgA (by kernel_rfl) ?_
      simp [s0, hbx]
      (repeat refine sqA ?_); refine AWp.condF (by simp) ?_
      refine AWp.exit ?_
      subst hM
      exact ⟨3, nm, zE, zE, e3, e5, l, o, a1', d1, true, by simp [s4], by simp [s5], by simpa using h, ho, fun e => (by cases e), hall _ _ _ (Run1.nope (.inl rfl))⟩
     | false =>
      obtain ⟨hd1, hlen⟩ := hdl rfl
      subst hd1
      have hle1 := h.ps.le
      (repeat refine sqA ?_); refine rgA (by kernel_rfl) ?_
      simp [s0, hbx]
      refine aop_wcall _ _ _ _ _ _ _ _ rfl (eval_func _ _) ?_
      try simp
      refine c_l5Mark h.ps (ch 125) fun mA hPn hOn => ?_
      try simp
      have h := h.call hgr hOn hPn
      clear hPn hOn hi
      cases hi : (hdT T a1' false).is 4 (ch 125) with
      | true =>
       obtain ⟨_, hlt2, _, hmk2⟩ := is_at (by omega) hi
       have hmr := mark_run (T := T) (a := a1') hle1 (bad := false) 125
       rw [hi] at h hmr
       simp at h hmr
       try simp
       (repeat refine sqA ?_); refine AWp.condF (by simp) ?_
       refine AWp.exit ?_
       subst hM
       exact ⟨3, nm, zE, zE, e3, e5, l, o, a1' + 1, 0, false, by simp [s4], by simp [s5], by simpa using h, ho, fun _ => rfl, hall _ _ _ (body_exit (stmtQ_fit j) l (.inr ⟨hlt2, hmk2⟩) hmr)⟩
      | false =>
       have hno := is_not4 hi
       rw [hi] at h
       simp at h
       try simp
       (repeat refine sqA ?_); refine AWp.condT (by simp) ?_
       refine AWp.skip ?_
       try simp
       (repeat refine sqA ?_); refine AWp.block ?_
       refine AWp.gen (fun st => st.slots 0 = .ptr gr 0 ∧ st.slots 1 = .int .i64 (5 - ((j + 1 : Nat) : Int)) ∧ st.slots 4 = .ptr g4 0 ∧ st.slots 5 = .ptr g5 0 ∧ st.mem = mA) ⟨by simp [s0], by simp [s1], by simp [s4], by simp [s5], by simp⟩ ?_
       clear s0 s1 s4 s5 hbx
       rintro st ⟨s0, s1, s4, s5, sm⟩
       have hw : IntKind.wrap .i64 ((5 : Int) - ((j + 1 : Nat) : Int) + 1) = 5 - (j : Int) := by
        rw [wrap64 (by omega) (by omega)]; omega
       simp only [Int.natCast_add, Int.cast_ofNat_Int] at s1 hw
       obtain ⟨_, rv2, rv3⟩ := rowA_ok l.length o
       (repeat refine sqA ?_); refine AWp.regionX (fun _ => false) (fun _ => false) [0, 1, 2, 3, 4, 5, 6, 7, 8, 9] [0, 2, 3, 4, 5, 1, 6, 7, 8, 9] 1 5 [0, 1, 2, 3, 4, 5, 6, 7, 8, 9] (by kernel_rfl) ?_ ?_
       ·have w5 := h.get (g := g5) (b := .box (sc 3 nm zE zE e3 e5 (rowA l.length o))) (by cases o <;> simp [rowB])
        simp [s0, s1, s5, sm, w5, rv2, rv3, hw]
        refine aop_wcall _ _ _ _ _ _ _ _ rfl (eval_func _ _) ?_
        simp [sm]
        refine hR gr T a1' 0 false _ h.ps hT (fun _ => rfl) _ fun n1 x a2' d2' b2' hPn hOn run hdd => ?_
        have hle := (BH.call h hgr hOn hPn).ps.le
        have h := h.call hgr hOn hPn
        clear hPn hOn
        simp [Sm.av, literalA]
        refine BH.app (xs := l.map Sm.av) (bs := [(g5, .box (sc 3 nm zE zE e3 e5 (rowA l.length o))), (g4, .box [.int .i64 0, .str ByteArray.empty, .int .i64 0, .int .i64 0, .str ByteArray.empty, .lst true 0 [], .int .i64 0, .int .i64 0, .str ByteArray.empty, .lst true 0 [], .int .i64 0, .int .i64 0, .str ByteArray.empty, .lst true 0 [], .int .i64 0, .int .i64 0, .str ByteArray.empty, .lst true 0 [], .lst true 0 []])]) (x := Sm.av x) et_30 (by simp) h hgr (fun e => by rw [ho e]; rfl) (by simp [srcA, Sm.av]) (Sm.cells_ok x) (by omega) fun g' c' n2 h => ?_
        have w5 := h.get (g := g5) (b := .box (sc 3 nm zE zE e3 e5 (rowA l.length o))) (by simp [rowB])
        obtain ⟨r1, r2, r3⟩ := rowA_ok (l.length + 1) (some (g', c'))
        have t5 := stB w5 (rowA (l.length + 1) (some (g', c'))) r1
        try simp only [Sm.av] at r1 r2 r3 t5
        simp [-store_ptr, s5, r1, r2, r3, t5]
        have h := BH.put (l1 := rowB 83 19 (l.map Sm.av ++ [Sm.av x]) (some (g', c'))) (b' := .box (sc 3 nm zE zE e3 e5 (rowA (l.length + 1) (some (g', c'))))) h
        refine hRR _ (if b2' = true then 0 else T.length - a2' + 1) ?_ ⟨l ++ [x], some (g', c'), a2', d2', b2', rfl, by simp [s0], by simp [s1], by simp [s4], by simp [s5], by simpa [Sm.av] using h, fun e => (by cases e), fun e => ⟨hdd e, ?_⟩, fun y a3 b3 hr => hall y a3 b3 (body_step (stmtQ_fit j) hno run hr)⟩
        ·cases b2' with
         | true => simp
         | false =>
          have := (Run1.ltN (stmtQ_fit j) run hle).1
          simp
          omega
        ·subst e
         have := (Run1.ltN (stmtQ_fit j) run hle).1
         simp
         omega
       ·simp [s0, s1, s5, sm, hw]
        refine aop_wcall _ _ _ _ _ _ _ _ rfl (eval_func _ _) ?_
        simp [sm]
        refine hR gr T a1' 0 false _ h.ps hT (fun _ => rfl) _ fun n1 x a2' d2' b2' hPn hOn run hdd => ?_
        have hle := (BH.call h hgr hOn hPn).ps.le
        have h := h.call hgr hOn hPn
        clear hPn hOn
        have w5 := h.get (g := g5) (b := .box (sc 3 nm zE zE e3 e5 (rowA l.length o))) (by cases o <;> simp [rowB])
        simp [-store_ptr, w5, rv2, rv3, s5, Sm.av, literalA]
        refine BH.app (xs := l.map Sm.av) (bs := [(g5, .box (sc 3 nm zE zE e3 e5 (rowA l.length o))), (g4, .box [.int .i64 0, .str ByteArray.empty, .int .i64 0, .int .i64 0, .str ByteArray.empty, .lst true 0 [], .int .i64 0, .int .i64 0, .str ByteArray.empty, .lst true 0 [], .int .i64 0, .int .i64 0, .str ByteArray.empty, .lst true 0 [], .int .i64 0, .int .i64 0, .str ByteArray.empty, .lst true 0 [], .lst true 0 []])]) (x := Sm.av x) et_30 (by simp) h hgr (fun e => by rw [ho e]; rfl) (by simp [srcA, Sm.av]) (Sm.cells_ok x) (by omega) fun g' c' n2 h => ?_
        have w5 := h.get (g := g5) (b := .box (sc 3 nm zE zE e3 e5 (rowA l.length o))) (by simp [rowB])
        obtain ⟨r1, r2, r3⟩ := rowA_ok (l.length + 1) (some (g', c'))
        have t5 := stB w5 (rowA (l.length + 1) (some (g', c'))) r1
        try simp only [Sm.av] at r1 r2 r3 t5
        simp [-store_ptr, s5, r1, r2, r3, t5]
        have h := BH.put (l1 := rowB 83 19 (l.map Sm.av ++ [Sm.av x]) (some (g', c'))) (b' := .box (sc 3 nm zE zE e3 e5 (rowA (l.length + 1) (some (g', c'))))) h
        refine hRR _ (if b2' = true then 0 else T.length - a2' + 1) ?_ ⟨l ++ [x], some (g', c'), a2', d2', b2', rfl, by simp [s0], by simp [s1], by simp [s4], by simp [s5], by simpa [Sm.av] using h, fun e => (by cases e), fun e => ⟨hdd e, ?_⟩, fun y a3 b3 hr => hall y a3 b3 (body_step (stmtQ_fit j) hno run hr)⟩
        ·cases b2' with
         | true => simp
         | false =>
          have := (Run1.ltN (stmtQ_fit j) run hle).1
          simp
          omega
        ·subst e
         have := (Run1.ltN (stmtQ_fit j) run hle).1
         simp
         omega
    | false =>
     have hnf := is_not3 hi
     rw [hi] at h
     simp at h
     try simp
     (repeat refine sqA ?_); refine AWp.condF (by simp) ?_
     refine AWp.gen (fun st => st.slots 0 = .ptr gr 0 ∧ st.slots 1 = .int .i64 (5 - ((j + 1 : Nat) : Int)) ∧ st.slots 4 = .ptr g4 0 ∧ st.slots 5 = .ptr g5 0 ∧ st.mem = mA) ⟨by simp [s0], by simp [s1], by simp [s4], by simp [s5], by first | (simp; done) | (simp [sm]; done)⟩ ?_
     clear s0 s1 s4 s5 sm
     rintro st ⟨s0, s1, s4, s5, sm⟩
     clear hi
     (repeat refine sqA ?_); refine rgA (by kernel_rfl) ?_
     simp [s0]
     refine aop_wcall _ _ _ _ _ _ _ _ rfl (eval_func _ _) ?_
     simp [sm]
     refine c_nameS h.ps fun m1 nm a1 b1 hPn hOn run1 => ?_
     have h := h.call hgr hOn hPn
     have was1 := Run1.was run1
     clear hPn hOn
     have w5 := h.get (g := g5) (b := .box (sc 0 ⟨#[]⟩ zE zE zE zE (.lst true 0 []))) (by simp)
     have t5 := stN w5 nm
     simp [-store_ptr, s5, t5]
     have h := BH.put (l1 := []) (b' := .box (sc 0 nm zE zE zE zE (.lst true 0 []))) h
     refine AWp.gen (fun st => st.slots 0 = .ptr gr 0 ∧ st.slots 1 = .int .i64 (5 - ((j + 1 : Nat) : Int)) ∧ st.slots 4 = .ptr g4 0 ∧ st.slots 5 = .ptr g5 0 ∧ st.mem = m1.set g5 (.box (sc 0 nm zE zE zE zE (.lst true 0 [])))) ⟨by simp [s0], by simp [s1], by simp [s4], by simp [s5], by first | (simp; done) | (simp [sm]; done)⟩ ?_
     generalize m1.set g5 (.box (sc 0 nm zE zE zE zE (.lst true 0 []))) = n1 at *
     clear s0 s1 s4 s5 sm
     rintro st ⟨s0, s1, s4, s5, sm⟩
     clear w5 t5
     have w5 := h.get (g := g5) (b := .box (sc 0 nm zE zE zE zE (.lst true 0 []))) (by simp)
     have t5 := stK w5 1
     (repeat refine sqA ?_); refine rgA (by kernel_rfl) ?_
     simp [-store_ptr, s5, sm, t5]
     have h := BH.put (l1 := []) (b' := .box (sc 1 nm zE zE zE zE (.lst true 0 []))) h
     refine AWp.gen (fun st => st.slots 0 = .ptr gr 0 ∧ st.slots 1 = .int .i64 (5 - ((j + 1 : Nat) : Int)) ∧ st.slots 4 = .ptr g4 0 ∧ st.slots 5 = .ptr g5 0 ∧ st.mem = n1.set g5 (.box (sc 1 nm zE zE zE zE (.lst true 0 [])))) ⟨by simp [s0], by simp [s1], by simp [s4], by simp [s5], by first | (simp; done) | (simp [sm]; done)⟩ ?_
     generalize n1.set g5 (.box (sc 1 nm zE zE zE zE (.lst true 0 []))) = n2 at *
     clear s0 s1 s4 s5 sm
     rintro st ⟨s0, s1, s4, s5, sm⟩
     clear w5 t5
     (repeat refine sqA ?_); refine rgA (by kernel_rfl) ?_
     simp [s0]
     refine aop_wcall _ _ _ _ _ _ _ _ rfl (eval_func _ _) ?_
     simp [sm]
     refine c_l5Mark h.ps (ch 91) fun mA hPn hOn => ?_
     try simp
     have h := h.call hgr hOn hPn
     clear hPn hOn
     obtain ⟨M2, hM2⟩ : ∃ M2 : St → Prop, M2 = (fun st => ∃ k a0 a1 d1 b1, st.slots 0 = .ptr gr 0 ∧ st.slots 1 = .int .i64 (5 - ((j + 1 : Nat) : Int)) ∧ st.slots 4 = .ptr g4 0 ∧ st.slots 5 = .ptr g5 0 ∧ BH m gr T a1 d1 b1 [(g5, .box (sc k nm a0 zE zE zE (.lst true 0 []))), (g4, .box [.int .i64 0, .str ByteArray.empty, .int .i64 0, .int .i64 0, .str ByteArray.empty, .lst true 0 [], .int .i64 0, .int .i64 0, .str ByteArray.empty, .lst true 0 [], .int .i64 0, .int .i64 0, .str ByteArray.empty, .lst true 0 [], .int .i64 0, .int .i64 0, .str ByteArray.empty, .lst true 0 [], .lst true 0 []])] st.mem ∧ (b1 = false → d1 = 0) ∧ ∀ e a2 b2 a3 b3, Run1 (tkR (ch 61)) T a1 b1 () a2 b2 → Run1 (exEnd 59) T a2 b2 e a3 b3 → Run1 (stmtQ (j + 1)) T a bad (Sm.mk k nm a0 e zE zE []) a3 b3) := ⟨_, rfl⟩
     (repeat refine sqA ?_); refine AWp.cutA M2 ?_ ?_
     ·cases hi : (hdT T a1 b1).is 4 (ch 91) with
      | true =>
       obtain ⟨rfl, hlt, _, hmk⟩ := is_at (by omega) hi
       rw [hi] at h
       simp at h
       refine AWp.condT (by simp) ?_
       refine AWp.gen (fun st => st.slots 0 = .ptr gr 0 ∧ st.slots 1 = .int .i64 (5 - ((j + 1 : Nat) : Int)) ∧ st.slots 4 = .ptr g4 0 ∧ st.slots 5 = .ptr g5 0 ∧ st.mem = mA) ⟨by simp [s0], by simp [s1], by simp [s4], by simp [s5], by first | (simp; done) | (simp [sm]; done)⟩ ?_
       clear s0 s1 s4 s5 sm
       rintro st ⟨s0, s1, s4, s5, sm⟩
       have hdz : d = 0 := hd0 (was1 rfl)
       have w5 := h.get (g := g5) (b := .box (sc 1 nm zE zE zE zE (.lst true 0 []))) (by simp)
       have t5 := stK w5 2
       (repeat refine sqA ?_); refine rgA (by kernel_rfl) ?_
       simp [-store_ptr, s5, sm, t5]
       have h := BH.put (l1 := []) (b' := .box (sc 2 nm zE zE zE zE (.lst true 0 []))) h
       refine AWp.gen (fun st => st.slots 0 = .ptr gr 0 ∧ st.slots 1 = .int .i64 (5 - ((j + 1 : Nat) : Int)) ∧ st.slots 4 = .ptr g4 0 ∧ st.slots 5 = .ptr g5 0 ∧ st.mem = mA.set g5 (.box (sc 2 nm zE zE zE zE (.lst true 0 [])))) ⟨by simp [s0], by simp [s1], by simp [s4], by simp [s5], by first | (simp; done) | (simp [sm]; done)⟩ ?_
       generalize mA.set g5 (.box (sc 2 nm zE zE zE zE (.lst true 0 []))) = n3 at *
       clear s0 s1 s4 s5 sm
       rintro st ⟨s0, s1, s4, s5, sm⟩
       clear w5 t5
       (repeat refine sqA ?_); refine rgA (by kernel_rfl) ?_
       simp [s0]
       refine aop_wcall _ _ _ _ _ _ _ _ rfl (eval_func _ _) ?_
       simp [sm]
       refine hS gr T _ _ _ _ h.ps hT (fun _ => by rw [hdz]; rfl) _ fun m2 e2 a2 d2 b2 hPn hOn run2 hdd2 => ?_
       have h := h.call hgr hOn hPn
       have was2 := Run1.was run2
       clear hPn hOn
       have w5 := h.get (g := g5) (b := .box (sc 2 nm zE zE zE zE (.lst true 0 []))) (by simp)
       have t5 := stA w5 e2
       simp [-store_ptr, Ex.av, s5, t5]
       try refine ⟨okE _, ?_⟩
       have h := BH.put (l1 := []) (b' := .box (sc 2 nm e2 zE zE zE (.lst true 0 []))) h
       refine AWp.gen (fun st => st.slots 0 = .ptr gr 0 ∧ st.slots 1 = .int .i64 (5 - ((j + 1 : Nat) : Int)) ∧ st.slots 4 = .ptr g4 0 ∧ st.slots 5 = .ptr g5 0 ∧ st.mem = m2.set g5 (.box (sc 2 nm e2 zE zE zE (.lst true 0 [])))) ⟨by simp [s0], by simp [s1], by simp [s4], by simp [s5], by first | (simp; done) | (simp [sm]; done)⟩ ?_
       generalize m2.set g5 (.box (sc 2 nm e2 zE zE zE (.lst true 0 []))) = n4 at *
       clear s0 s1 s4 s5 sm
       rintro st ⟨s0, s1, s4, s5, sm⟩
       clear w5 t5
       (repeat refine sqA ?_); refine rgA (by kernel_rfl) ?_
       simp [s0]
       refine aop_wcall _ _ _ _ _ _ _ _ rfl (eval_func _ _) ?_
       simp [sm]
       refine c_l5Mark h.ps (ch 93) fun mA hPn hOn => ?_
       try simp
       refine aop_wcall _ _ _ _ _ _ _ _ rfl (eval_func _ _) ?_
       try simp
       refine c_l5Must hPn _ fun n3 hPm hOm => ?_
       obtain ⟨a3, b3, hPm, run3⟩ : ∃ a' b', PS gr T a' d2 b' n3 ∧ Run1 (tkR (ch 93)) T a2 b2 () a' b' := ⟨_, _, hPm, mark_run h.ps.le _⟩
       have h := h.call hgr (hOn.trans hOm) hPm
       have was3 := Run1.was run3
       clear hPn hOn hPm hOm
       try simp
       subst hM2
       refine ⟨2, e2, a3, d2, b3, by simp [s0], by simp [s1], by simp [s4], by simp [s5], by simpa using h, fun e => (hdd2 (was3 e)).trans hdz, fun e a4 b4 a5 b5 r4 r5 => ?_⟩
       exact stmtQ_plain hnf (plain_name hnp (run1.then_ (asg_put hlt hmk (Run1.then_ (Run1.then_ run2 (run3.then_ (Run1.done _ T a3 b3))) (r4.then_ (r5.then_ (Run1.done _ T a5 b5)))))))
      | false =>
       have hno := is_not4 hi
       rw [hi] at h
       simp at h
       refine AWp.condF (by simp) ?_
       refine AWp.skip ?_
       subst hM2
       refine ⟨1, zE, a1, d, b1, by simp [s0], by simp [s1], by simp [s4], by simp [s5], by simpa using h, fun e => hd0 (was1 e), fun e a4 b4 a5 b5 r4 r5 => ?_⟩
       exact stmtQ_plain hnf (plain_name hnp (run1.then_ (asg_set hno (r4.then_ (r5.then_ (Run1.done _ T a5 b5))))))
     clear s0 s1 s4 s5 sm
     intro st hst
     subst hM2
     obtain ⟨k, a0, a2, d2, b2, s0, s1, s4, s5, h, hdd, hrun⟩ := hst
     obtain ⟨nX, sm⟩ : ∃ nX, st.mem = nX := ⟨_, rfl⟩
     rw [sm] at h
     (repeat refine sqA ?_); refine rgA (by kernel_rfl) ?_
     simp [s0]
     refine aop_wcall _ _ _ _ _ _ _ _ rfl (eval_func _ _) ?_
     simp [sm]
     refine c_l5Mark h.ps (ch 61) fun mA hPn hOn => ?_
     try simp
     refine aop_wcall _ _ _ _ _ _ _ _ rfl (eval_func _ _) ?_
     try simp
     refine c_l5Must hPn _ fun n3 hPm hOm => ?_
     obtain ⟨a3, b3, hPm, run3⟩ : ∃ a' b', PS gr T a' d2 b' n3 ∧ Run1 (tkR (ch 61)) T a2 b2 () a' b' := ⟨_, _, hPm, mark_run h.ps.le _⟩
     have h := h.call hgr (hOn.trans hOm) hPm
     have was3 := Run1.was run3
     clear hPn hOn hPm hOm
     try simp
     refine AWp.gen (fun st => st.slots 0 = .ptr gr 0 ∧ st.slots 1 = .int .i64 (5 - ((j + 1 : Nat) : Int)) ∧ st.slots 4 = .ptr g4 0 ∧ st.slots 5 = .ptr g5 0 ∧ st.mem = n3) ⟨by simp [s0], by simp [s1], by simp [s4], by simp [s5], by first | (simp; done) | (simp [sm]; done)⟩ ?_
     clear s0 s1 s4 s5 sm
     rintro st ⟨s0, s1, s4, s5, sm⟩
     (repeat refine sqA ?_); refine rgA (by kernel_rfl) ?_
     simp [s0]
     refine aop_wcall _ _ _ _ _ _ _ _ rfl (eval_func _ _) ?_
     simp [sm]
     refine hS gr T _ _ _ _ h.ps hT (fun e => by rw [hdd (was3 e)]; rfl) _ fun m4 e4 a4 d4 b4 hPn hOn run4 hdd4 => ?_
     have h := h.call hgr hOn hPn
     have was4 := Run1.was run4
     clear hPn hOn
     have w5 := h.get (g := g5) (b := .box (sc k nm a0 zE zE zE (.lst true 0 []))) (by simp)
     have t5 := stE w5 e4
     simp [-store_ptr, Ex.av, s5, t5]
     try refine ⟨okE _, ?_⟩
     have h := BH.put (l1 := []) (b' := .box (sc k nm a0 e4 zE zE (.lst true 0 []))) h
     refine AWp.gen (fun st => st.slots 0 = .ptr gr 0 ∧ st.slots 1 = .int .i64 (5 - ((j + 1 : Nat) : Int)) ∧ st.slots 4 = .ptr g4 0 ∧ st.slots 5 = .ptr g5 0 ∧ st.mem = m4.set g5 (.box (sc k nm a0 e4 zE zE (.lst true 0 [])))) ⟨by simp [s0], by simp [s1], by simp [s4], by simp [s5], by first | (simp; done) | (simp [sm]; done)⟩ ?_
     generalize m4.set g5 (.box (sc k nm a0 e4 zE zE (.lst true 0 []))) = n4 at *
     clear s0 s1 s4 s5 sm
     rintro st ⟨s0, s1, s4, s5, sm⟩
     clear w5 t5
     (repeat refine sqA ?_); refine rgA (by kernel_rfl) ?_
     simp [s0]
     refine aop_wcall _ _ _ _ _ _ _ _ rfl (eval_func _ _) ?_
     simp [sm]
     refine c_l5Mark h.ps (ch 59) fun mA hPn hOn => ?_
     try simp
     refine aop_wcall _ _ _ _ _ _ _ _ rfl (eval_func _ _) ?_
     try simp
     refine c_l5Must hPn _ fun n5 hPm hOm => ?_
     obtain ⟨a5, b5, hPm, run5⟩ : ∃ a' b', PS gr T a' d4 b' n5 ∧ Run1 (tkR (ch 59)) T a4 b4 () a' b' := ⟨_, _, hPm, mark_run h.ps.le _⟩
     have h := h.call hgr (hOn.trans hOm) hPm
     have was5 := Run1.was run5
     clear hPn hOn hPm hOm
     try simp
     subst hM
     exact ⟨k, nm, a0, e4, zE, zE, [], none, a5, d4, b5, by simp [s4], by simp [s5], by simpa [rowB, rowA] using h, fun _ => rfl, fun e => (hdd4 (was5 e)).trans (hdd (was3 (was4 (was5 e)))), hrun _ _ _ _ _ run3 (Run1.then_ run4 (run5.then_ (Run1.done _ T a5 b5)))⟩
 clear s0 s1 s4 s5 sm h
 intro st hst
 subst hM
 obtain ⟨k, s, a0, e, lo, hi, bd, o, a1, d1, b1, s4, s5, h, ho, hdl, hrun⟩ := hst
 cases o with
 | none =>
  have := ho rfl
  subst this
  have w5 := h.get (g := g5) (b := .box (sc k s a0 e lo hi (.lst true 0 []))) (by simp [rowA, rowB])
  refine AWp.sees (Sees.boxLe w5 (sc_les k s a0 e lo hi)) ?_
  refine AWp.gen (fun st' => st'.slots 4 = .ptr g4 0 ∧ st'.slots 5 = .ptr g5 0 ∧ BH m gr T a1 d1 b1 [(g5, .box (sc k s a0 e lo hi (.lst false 19 (([] : List Sm).map Sm.av)))), (g4, .box [.int .i64 0, .str ByteArray.empty, .int .i64 0, .int .i64 0, .str ByteArray.empty, .lst true 0 [], .int .i64 0, .int .i64 0, .str ByteArray.empty, .lst true 0 [], .int .i64 0, .int .i64 0, .str ByteArray.empty, .lst true 0 [], .int .i64 0, .int .i64 0, .str ByteArray.empty, .lst true 0 [], .lst true 0 []])] st'.mem) ⟨s4, s5, BH.put (l1 := []) (b' := .box (sc k s a0 e lo hi (.lst false 19 []))) h⟩ ?_
  clear w5
  obtain ⟨bd, hbd⟩ : ∃ bd : List Sm, bd = [] := ⟨_, rfl⟩
  rw [← hbd] at hrun ⊢
  clear s4 s5 h
  rintro st ⟨s4, s5, h⟩
  have w5 := h.get (g := g5) (b := .box (sc k s a0 e lo hi (.lst false 19 (bd.map Sm.av)))) (by simp)
  have w4 := h.get (g := g4) (b := .box [.int .i64 0, .str ByteArray.empty, .int .i64 0, .int .i64 0, .str ByteArray.empty, .lst true 0 [], .int .i64 0, .int .i64 0, .str ByteArray.empty, .lst true 0 [], .int .i64 0, .int .i64 0, .str ByteArray.empty, .lst true 0 [], .int .i64 0, .int .i64 0, .str ByteArray.empty, .lst true 0 [], .lst true 0 []]) (by simp)
  (repeat refine sqA ?_); refine rgA (by kernel_rfl) ?_
  simp [s4, s5, w5, w4]
  try refine ⟨sc_ok k s a0 e lo hi bd, ?_⟩
  have q := BH.put (l1 := [(g5, .box (sc k s a0 e lo hi (.lst false 19 (bd.map Sm.av))))]) (b' := .box (sc k s a0 e lo hi (.lst false 19 (bd.map Sm.av)))) h
  have hav : (Sm.mk k s a0 e lo hi bd).av = .agg (sc k s a0 e lo hi (.lst false 19 (bd.map Sm.av))) := by show AV.agg _ = _; rw [sc_eq]
  have hK := hK _ (Sm.mk k s a0 e lo hi bd) _ _ _ q.ps q.off hrun hdl
  rw [hav] at hK
  exact AWp.ret ⟨[.agg (sc k s a0 e lo hi (.lst false 19 (bd.map Sm.av)))], _, _, by simp [Tryz.f67, resA, s4], by (try simp); exact View.refl _ _, hK⟩
 | some p =>
  obtain ⟨g, c⟩ := p
  have w5 := h.get (g := g5) (b := .box (sc k s a0 e lo hi (.own g bd.length c))) (by simp [rowA, rowB])
  have wg := h.get (g := g) (b := .arr 83 19 c (bd.map Sm.av)) (by simp [rowB])
  refine AWp.sees (Sees.freezeIn w5 (sc_at k s a0 e lo hi _) wg (by simp)) ?_
  rw [sc_set]
  refine AWp.gen (fun st' => st'.slots 4 = .ptr g4 0 ∧ st'.slots 5 = .ptr g5 0 ∧ BH m gr T a1 d1 b1 [(g5, .box (sc k s a0 e lo hi (.lst false 19 (bd.map Sm.av)))), (g4, .box [.int .i64 0, .str ByteArray.empty, .int .i64 0, .int .i64 0, .str ByteArray.empty, .lst true 0 [], .int .i64 0, .int .i64 0, .str ByteArray.empty, .lst true 0 [], .int .i64 0, .int .i64 0, .str ByteArray.empty, .lst true 0 [], .int .i64 0, .int .i64 0, .str ByteArray.empty, .lst true 0 [], .lst true 0 []])] st'.mem) ⟨s4, s5, BH.put (l1 := []) (b' := .box (sc k s a0 e lo hi (.lst false 19 (bd.map Sm.av)))) (BH.del (l1 := []) h)⟩ ?_
  clear w5 wg
  clear s4 s5 h
  rintro st ⟨s4, s5, h⟩
  have w5 := h.get (g := g5) (b := .box (sc k s a0 e lo hi (.lst false 19 (bd.map Sm.av)))) (by simp)
  have w4 := h.get (g := g4) (b := .box [.int .i64 0, .str ByteArray.empty, .int .i64 0, .int .i64 0, .str ByteArray.empty, .lst true 0 [], .int .i64 0, .int .i64 0, .str ByteArray.empty, .lst true 0 [], .int .i64 0, .int .i64 0, .str ByteArray.empty, .lst true 0 [], .int .i64 0, .int .i64 0, .str ByteArray.empty, .lst true 0 [], .lst true 0 []]) (by simp)
  (repeat refine sqA ?_); refine rgA (by kernel_rfl) ?_
  simp [s4, s5, w5, w4]
  try refine ⟨sc_ok k s a0 e lo hi bd, ?_⟩
  have q := BH.put (l1 := [(g5, .box (sc k s a0 e lo hi (.lst false 19 (bd.map Sm.av))))]) (b' := .box (sc k s a0 e lo hi (.lst false 19 (bd.map Sm.av)))) h
  have hav : (Sm.mk k s a0 e lo hi bd).av = .agg (sc k s a0 e lo hi (.lst false 19 (bd.map Sm.av))) := by show AV.agg _ = _; rw [sc_eq]
  have hK := hK _ (Sm.mk k s a0 e lo hi bd) _ _ _ q.ps q.off hrun hdl
  rw [hav] at hK
  exact AWp.ret ⟨[.agg (sc k s a0 e lo hi (.lst false 19 (bd.map Sm.av)))], _, _, by simp [Tryz.f67, resA, s4], by (try simp); exact View.refl _ _, hK⟩

theorem c_l5Stmt : ∀ q : Nat, q ≤ 5 → StmtS Tryz.prog 67 (5 - (q : Int)) (stmtQ q)
 | 0, h => c_l5Stmt0 0 h (c_l5Sum 30 (by omega)) fun j e => by cases e
 | q + 1, h => c_l5Stmt0 (q + 1) h (c_l5Sum 30 (by omega)) fun j e => by
  cases e
  exact c_l5Stmt q (by omega)
end Go.T
namespace Go.T
open Go Go.Proofs
set_option maxRecDepth 10000
set_option maxHeartbeats 1000000
open Go
theorem ars_ok (L : List Ar) : ∀ y ∈ L.map Ar.av, y.cells.all okCell = true := fun y hy => by
 obtain ⟨a, _, rfl⟩ := List.mem_map.1 hy
 exact Ar.cells_ok a
theorem ar_name {m : Mem} {g c : Nat} {L : List Ar} (hm : m g = some (arB c L)) {i : Nat} {z : Ar} (hz : L[i]? = some z) : loadA Tryz.prog m 9 (.elt g 2 i 0) = some (.str z.s) := by
 have hl : loadT Tryz.prog 9 = some (1, false) := ld_9
 unfold arB at hm
 simp only [loadA, hl, hm, if_true]
 rw [List.getElem?_map, hz]
 rfl
theorem ar_load2 {m : Mem} {g c : Nat} {L : List Ar} (hm : m g = some (arB c L)) {i : Nat} {z : Ar} (hz : L[i]? = some z) : loadA Tryz.prog m 57 (.elt g 2 i 0) = some (.agg [.str z.s, .int .i64 z.n]) := by
 have hi := (List.getElem?_eq_some_iff.1 hz)
 obtain ⟨hi, rfl⟩ := hi
 exact ar_load hm hi
theorem gt_blt (x y : ByteArray) : (!(Op.bytesLess x.toList y.toList || decide (x = y))) = blt y x := by
 have e1 : Op.bytesLess x.toList y.toList = blt x y := rfl
 rw [e1]
 cases h1 : blt x y with
 | true =>
  have : blt y x = false := by
   cases h2 : blt y x with
   | false => rfl
   | true => have := blt_trans h1 h2; rw [blt_irrefl] at this; cases this
  rw [this]; rfl
 | false =>
  by_cases he : x = y
  ·subst he; simp [blt_irrefl]
  ·rw [blt_tri he h1]; simp [he]
theorem c_l5Arr (L : List Ar) (a : Ar) (hl : L.length ≤ 100000) : PCall Tryz.prog 64 [.lst false 2 (L.map Ar.av), .agg [.str a.s, .int .i64 a.n]] (.lst false 2 ((insR L a).map Ar.av)) := by
 refine pcall_of Tryz.func64 (by kernel_rfl) rfl (by simp [Tryz.f64]) ?_
 (repeat refine sqA ?_); refine rgA (by kernel_rfl) ?_
 simp
 intro g3
 obtain ⟨m, hm⟩ : ∃ m : Mem, m = fun _ => none := ⟨_, rfl⟩
 refine AWp.gen (fun st => st.slots 0 = .lst false 2 (L.map Ar.av) ∧ st.slots 3 = .ptr g3 0 ∧ st.mem = m.set g3 (.box [.str a.s, .int .i64 a.n])) ⟨by simp, by simp, by simp [hm]⟩ ?_
 rintro st ⟨s1, s3, sm⟩
 obtain ⟨M, hM⟩ : ∃ M : St → Prop, M = (fun st => ∃ g c, st.slots 0 = .lst false 2 (L.map Ar.av) ∧ st.slots 3 = .ptr g3 0 ∧ st.slots 5 = .own g (L.length + 1) c ∧ st.mem g3 = some (.box [.str a.s, .int .i64 a.n]) ∧ st.mem g = some (arB c (L ++ [a])) ∧ g3 ≠ g) := ⟨_, rfl⟩
 (repeat refine sqA ?_); refine AWp.cutA M ?_ ?_
 ·refine AWp.regionX (fun _ => false) (fun _ => false) [0, 1, 3, 4, 2, 5, 6] [0, 1, 2, 3, 4, 5, 6] 3 2 [0, 1, 2, 3, 4, 5, 6] (by kernel_rfl) ?_ ?_
  ·simp [s1, s3, sm, set_same, literalA]
   refine Gr.app et_29 (Gr.start (m.set g3 (.box [.str a.s, .int .i64 a.n])) 2) (x := .lst false 2 (L.map Ar.av)) (ys := L.map Ar.av) (by simp [srcA]) (ars_ok L) (by simp; omega) fun v1 m1 hg1 hk1 => ?_
   have w3 := hk1 _ _ (set_same m g3 (.box [.str a.s, .int .i64 a.n]))
   try simp [w3, literalA]
   refine Gr.app et_29 hg1 (x := .lst true 2 [.agg [.str a.s, .int .i64 a.n]]) (ys := [Ar.av a]) (by simp [srcA, Ar.av, Ar.cells]) (by intro y hy; simp at hy; subst hy; exact Ar.cells_ok a) (by simp; omega) fun v2 m2 hg2 hk2 => ?_
   have w3 := hk2 _ _ w3
   subst hM
   obtain ⟨hE2, hv⟩ := hg2
   obtain ⟨g, c, hv2, hmg, _⟩ := hv.resolve_left (by simp)
   exact ⟨g, c, by simp [s1], by simp [s3], by simp [hv2], by simpa using w3, by simpa [arB] using hmg, by rintro rfl; rw [w3] at hmg; cases hmg⟩
  ·simp [s1, s3, sm, literalA]
   refine Gr.app et_29 (Gr.start (m.set g3 (.box [.str a.s, .int .i64 a.n])) 2) (x := .lst false 2 (L.map Ar.av)) (ys := L.map Ar.av) (by simp [srcA]) (ars_ok L) (by simp; omega) fun v1 m1 hg1 hk1 => ?_
   have w3 := hk1 _ _ (set_same m g3 (.box [.str a.s, .int .i64 a.n]))
   try simp [w3, literalA]
   refine Gr.app et_29 hg1 (x := .lst true 2 [.agg [.str a.s, .int .i64 a.n]]) (ys := [Ar.av a]) (by simp [srcA, Ar.av, Ar.cells]) (by intro y hy; simp at hy; subst hy; exact Ar.cells_ok a) (by simp; omega) fun v2 m2 hg2 hk2 => ?_
   have w3 := hk2 _ _ w3
   subst hM
   obtain ⟨hE2, hv⟩ := hg2
   obtain ⟨g, c, hv2, hmg, _⟩ := hv.resolve_left (by simp)
   exact ⟨g, c, by simp [s1], by simp [s3], by simp [hv2], by simpa using w3, by simpa [arB] using hmg, by rintro rfl; rw [w3] at hmg; cases hmg⟩
 clear s1 s3 sm
 intro st hst
 subst hM
 obtain ⟨g, c, s0, s3, s5, w3, hmg, hne⟩ := hst
 have wl : IntKind.wrap .i64 (L.length : Int) = L.length := wrap64 (by omega) (by omega)
 (repeat refine sqA ?_); refine rgA (by kernel_rfl) ?_
 simp [s5, wl]
 obtain ⟨M, hM⟩ : ∃ M : St → Prop, M = (fun st => ∃ (k : Nat) (P Q : List Ar) (y : Ar), st.slots 3 = .ptr g3 0 ∧ st.slots 5 = .own g (L.length + 1) c ∧ st.slots 6 = .int .i64 k ∧ st.mem g3 = some (.box [.str a.s, .int .i64 a.n]) ∧ st.mem g = some (arB c (P ++ y :: Q)) ∧ P.length = k ∧ P ++ Q = L ∧ (∀ q ∈ Q, blt a.s q.s = true) ∧ ∀ x, P.getLast? = some x → blt a.s x.s = false) := ⟨_, rfl⟩
 (repeat refine sqA ?_); refine AWp.cutA M ?_ ?_
 ·refine AWp.block (AWp.rounds (fun q st => ∃ (k : Nat) (P Q : List Ar) (y : Ar), q = k ∧ st.slots 3 = .ptr g3 0 ∧ st.slots 5 = .own g (L.length + 1) c ∧ st.slots 6 = .int .i64 k ∧ st.mem g3 = some (.box [.str a.s, .int .i64 a.n]) ∧ st.mem g = some (arB c (P ++ y :: Q)) ∧ P.length = k ∧ P ++ Q = L ∧ (∀ q ∈ Q, blt a.s q.s = true)) L.length ⟨L.length, L, [], a, rfl, by simp [s3], by simp [s5], by simp, by simpa using w3, by simpa using hmg, rfl, by simp, by simp⟩ ?_)
  clear s0 s3 s5 w3 hmg
  rintro RR k st hRR ⟨_, P, Q, y, rfl, s3, s5, s6, w3, hmg, hP, hPQ, hQ⟩
  have hlen : P.length + Q.length = L.length := by rw [← hPQ]; simp
  by_cases hk : 0 < k
  ·have hne0 : P ≠ [] := by rintro rfl; simp at hP; omega
   obtain ⟨P', z, rfl⟩ : ∃ P' z, P = P' ++ [z] := ⟨P.dropLast, P.getLast hne0, (List.dropLast_concat_getLast hne0).symm⟩
   simp only [List.length_append, List.length_singleton] at hP hlen
   have hmg0 := hmg
   rw [List.append_assoc] at hmg
   have hk' : P'.length = k - 1 := by omega
   have hlx : (P' ++ ([z] ++ y :: Q)).length = L.length + 1 := by simp; omega
   have w1 : IntKind.wrap .i64 ((k : Int) - 1) = ((k - 1 : Nat) : Int) := by rw [wrap64 (by omega) (by omega)]; omega
   have i1 := ar_idx hmg hlx (i := k - 1) (by omega) (z := ((k - 1 : Nat) : Int)) rfl
   have i2 := ar_idx hmg hlx (i := k) (by omega) (z := (k : Int)) rfl
   have hz : (P' ++ ([z] ++ y :: Q))[k - 1]? = some z := by rw [List.getElem?_append_right (by omega), hk']; simp
   have l1 : loadA Tryz.prog st.mem 9 (.elt g 2 (k - 1) 0) = some (.str z.s) := ar_name hmg hz
   have l2 : loadA Tryz.prog st.mem 57 (.elt g 2 (k - 1) 0) = some (.agg [.str z.s, .int .i64 z.n]) := ar_load2 hmg hz
   have hgt : (!(Op.bytesLess z.s.toList a.s.toList || decide (z.s = a.s))) = blt a.s z.s := gt_blt z.s a.s
   (repeat refine sqA ?_); refine AWp.regionG (fun _ => false) (fun _ => false) [0, 1, 2, 3, 4, 5, 6, 7, 8, 9, 10, 11, 12] [0, 1, 2, 3, 4, 5, 6, 7, 8, 9, 10, 11, 12] (by kernel_rfl) ?_
   simp [s3, s5, s6, hk, w1, i1, l1, w3]
   cases hb : blt a.s z.s with
   | false =>
    rw [hb] at hgt
    (repeat refine sqA ?_); refine AWp.condF (by simpa using hgt) ?_
    refine AWp.exit ?_
    subst hM
    exact ⟨k, P' ++ [z], Q, y, by simp [s3], by simp [s5], by simp [s6], by simpa using w3, by simpa using hmg0, by simp; omega, hPQ, hQ, fun x hx => by simp at hx; subst hx; exact hb⟩
   | true =>
    rw [hb] at hgt
    (repeat refine sqA ?_); refine AWp.condT (by simpa using hgt) ?_
    refine AWp.skip ?_
    try simp
    (repeat refine sqA ?_); refine AWp.block ?_
    have t1 := ar_store hmg (i := k) (by rw [hlx]; omega) z
    have he : (P' ++ ([z] ++ y :: Q)).set k z = P' ++ z :: z :: Q := by
     have hj : k = P'.length + 1 := by omega
     subst hj
     simp [List.set_append]
    rw [he] at t1
    (repeat refine sqA ?_); refine rgA (by kernel_rfl) ?_
    simp [s5, s6, w1, i1, i2, l2, t1]
    (repeat refine sqA ?_); refine rgA (by kernel_rfl) ?_
    simp [s6, w1]
    refine hRR _ (k - 1) (by omega) ⟨k - 1, P', z :: Q, z, rfl, by simp [s3], by simp [s5], by simp, by simp [set_at, hne, w3], ?_, hk', by rw [← hPQ]; simp, fun q hq => ?_⟩
    ·simp [set_at]
    ·rcases List.mem_cons.1 hq with rfl | hq
     ·exact hb
     ·exact hQ q hq
  ·have hk0 : k = 0 := by omega
   subst hk0
   have hPn : P = [] := List.eq_nil_of_length_eq_zero hP
   (repeat refine sqA ?_); refine AWp.regionG (fun _ => false) (fun _ => false) [0, 1, 2, 3, 4, 5, 6, 7, 8, 9, 10, 11, 12] [0, 1, 2, 3, 4, 5, 6, 7, 8, 9, 10, 11, 12] (by kernel_rfl) ?_
   simp [s3, s5, s6]
   (repeat refine sqA ?_); refine AWp.condF (by simp) ?_
   refine AWp.exit ?_
   subst hM
   exact ⟨0, P, Q, y, by simp [s3], by simp [s5], by simp [s6], by simpa using w3, by simpa using hmg, hP, hPQ, hQ, fun x hx => by rw [hPn] at hx; cases hx⟩
 clear s0 s3 s5 w3 hmg
 intro st hst
 subst hM
 obtain ⟨k, P, Q, y, s3, s5, s6, w3, hmg, hP, hPQ, hQ, hlast⟩ := hst
 have hlen : P.length + Q.length = L.length := by rw [← hPQ]; simp
 have hlx : (P ++ y :: Q).length = L.length + 1 := by simp; omega
 have i2 := ar_idx hmg hlx (i := k) (by omega) (z := (k : Int)) rfl
 have t1 := ar_store hmg (i := k) (by rw [hlx]; omega) a
 have hins : (P ++ y :: Q).set k a = insR L a := by
  rw [← hPQ, ins_done hQ hlast, ← hP]
  simp [List.set_append]
 rw [hins] at t1
 (repeat refine sqA ?_); refine rgA (by kernel_rfl) ?_
 simp [s3, s5, s6, w3, i2, t1]
 (repeat refine sqA ?_); refine rgA (by kernel_rfl) ?_
 simp [s5]
 exact AWp.ret ⟨[.own g (L.length + 1) c], _, _, by simp [Tryz.f64, resA], View.freeze (T := 57) (e := 2) (xs := (insR L a).map Ar.av) (by simp [set_at, arB]) (by simp [insR_len]), rfl⟩
end Go.T
namespace Go.T
open Go Go.Proofs
set_option maxRecDepth 10000
set_option maxHeartbeats 1000000
open Go
def outP (o : Option Pg) : AV := .tup [(o.getD (Pg.mk [] [])).av, .bool o.isSome]
theorem zero_pg : Le (.agg [.lst true 0 [], .lst true 0 []]) (Pg.mk [] []).av := Le.agg (.cons (Le.nil _ _ _) (.cons (Le.nil _ _ _) .nil))
theorem c_spec_Parse (s : ByteArray) (hz : s.size ≤ 9223372036854775807) : PCall Tryz.prog 20 [.str s] (outP (parse s)) := by
 obtain ⟨T, hTd⟩ : ∃ T, T = (lex s).getD [] := ⟨_, rfl⟩
 have hT : (∀ t ∈ T, t.fine) ∧ T.length ≤ 600 := by
  cases hl : lex s with
  | none => rw [hTd, hl]; simp
  | some T' =>
   rw [hTd, hl]
   exact lex_fine hl
 obtain ⟨hT, h6⟩ := hT
 refine pcall_of Tryz.func20 (by kernel_rfl) rfl (by simp [Tryz.f20]) ?_
 (repeat refine sqA ?_); refine rgA (by kernel_rfl) ?_
 simp
 intro g2
 refine AWp.gen (fun st => st.slots 0 = .str s ∧ st.slots 2 = .ptr g2 0 ∧ st.slots 3 = .bool false ∧ st.mem g2 = some (.box [.lst true 0 [], .lst true 0 []])) ⟨by simp, by simp, by simp, by simp [set_same]⟩ ?_
 rintro st ⟨s0, s2, s3, w2⟩
 obtain ⟨m1, sm⟩ : ∃ m1, st.mem = m1 := ⟨_, rfl⟩
 rw [sm] at w2
 (repeat refine sqA ?_); refine rgA (by kernel_rfl) ?_
 simp [s0]
 refine aop_wcall _ _ _ _ _ _ _ _ rfl (eval_func _ _) ?_
 simp [sm]
 refine c_spec_Lex s hz ?_
 rw [← hTd]
 try simp
 refine AWp.gen (fun st => st.slots 2 = .ptr g2 0 ∧ st.slots 3 = .bool false ∧ st.slots 4 = .lst false 3 (T.map Tk.av) ∧ st.slots 5 = .bool (lex s).isSome ∧ st.mem = m1) ⟨by simp [s2], by simp [s3], by simp, by simp, by simp⟩ ?_
 clear s0 s2 s3 sm
 rintro st ⟨s2, s3, s4, s5, sm⟩
 (repeat refine sqA ?_); refine rgA (by kernel_rfl) ?_
 simp [s4, s5, sm]
 intro g6 hg6
 have n26 : g2 ≠ g6 := by rintro rfl; rw [w2] at hg6; cases hg6
 have w2 := ext_set hg6 (.box (pc T 0 0 (!(lex s).isSome))) _ _ w2
 have hP : PS g6 T 0 0 (!(lex s).isSome) (m1.set g6 (.box (pc T 0 0 (!(lex s).isSome)))) := ⟨set_same _ _ _, by simp, h6⟩
 refine AWp.gen (fun st => st.slots 2 = .ptr g2 0 ∧ st.slots 3 = .bool false ∧ st.slots 4 = .lst false 3 (T.map Tk.av) ∧ st.slots 6 = .ptr g6 0 ∧ st.mem = m1.set g6 (.box (pc T 0 0 (!(lex s).isSome)))) ⟨by simp [s2], by simp [s3], by simp [s4], by simp, by simp [pc]⟩ ?_
 generalize m1.set g6 (.box (pc T 0 0 (!(lex s).isSome))) = m2 at *
 clear s2 s3 s4 s5 sm hg6
 rintro st ⟨s2, s3, s4, s6, sm⟩
 have hgr := hP.at
 (repeat refine sqA ?_); refine rgA (by kernel_rfl) ?_
 simp [sm]
 intro g7 hg7
 have h := (BH.start hP).new hgr hg7 (.box [.lst true 0 [], .lst true 0 []])
 refine AWp.gen (fun st => st.slots 2 = .ptr g2 0 ∧ st.slots 3 = .bool false ∧ st.slots 4 = .lst false 3 (T.map Tk.av) ∧ st.slots 6 = .ptr g6 0 ∧ st.slots 7 = .ptr g7 0 ∧ st.mem = m2.set g7 (.box [.lst true 0 [], .lst true 0 []])) ⟨by simp [s2], by simp [s3], by simp [s4], by simp [s6], by simp, by simp⟩ ?_
 clear s2 s3 s4 s6 sm
 rintro st ⟨s2, s3, s4, s6, s7, sm⟩
 have w7 := h.get (g := g7) (b := .box [.lst true 0 [], .lst true 0 []]) (by simp)
 rw [← sm] at w7 h
 refine AWp.sees (Sees.boxLe (cs' := [.lst false 2 (([] : List Ar).map Ar.av), .lst true 0 []]) w7 (.cons (Le.nil _ _ _) (.cons (Le.refl _) .nil))) ?_
 have h := BH.put (l1 := []) (b' := .box [.lst false 2 (([] : List Ar).map Ar.av), .lst true 0 []]) h
 refine AWp.gen (fun st' => st'.slots 2 = .ptr g2 0 ∧ st'.slots 3 = .bool false ∧ st'.slots 4 = .lst false 3 (T.map Tk.av) ∧ st'.slots 6 = .ptr g6 0 ∧ st'.slots 7 = .ptr g7 0 ∧ st'.mem = st.mem.set g7 (.box [.lst false 2 (([] : List Ar).map Ar.av), .lst true 0 []])) ⟨s2, s3, s4, s6, s7, rfl⟩ ?_
 generalize st.mem.set g7 (.box [.lst false 2 (([] : List Ar).map Ar.av), .lst true 0 []]) = m3 at *
 clear s2 s3 s4 s6 s7 sm w7 hg7
 rintro st ⟨s2, s3, s4, s6, s7, sm⟩
 obtain ⟨bad0, hbad0⟩ : ∃ b, b = !(lex s).isSome := ⟨_, rfl⟩
 rw [← hbad0] at h hP
 obtain ⟨M, hM⟩ : ∃ M : St → Prop, M = (fun st => ∃ us a1 b1, st.slots 2 = .ptr g2 0 ∧ st.slots 3 = .bool false ∧ st.slots 4 = .lst false 3 (T.map Tk.av) ∧ st.slots 6 = .ptr g6 0 ∧ st.slots 7 = .ptr g7 0 ∧ BH m2 g6 T a1 0 b1 [(g7, .box [.lst false 2 ((sortA us).map Ar.av), .lst true 0 []])] st.mem ∧ Run1 (arrsL []) T 0 bad0 us a1 b1) := ⟨_, rfl⟩
 (repeat refine sqA ?_); refine AWp.cutA M ?_ ?_
 ·refine AWp.block (AWp.rounds (fun q st => ∃ us a1 b1, q = (if b1 = true then 0 else T.length - a1 + 1) ∧ st.slots 2 = .ptr g2 0 ∧ st.slots 3 = .bool false ∧ st.slots 4 = .lst false 3 (T.map Tk.av) ∧ st.slots 6 = .ptr g6 0 ∧ st.slots 7 = .ptr g7 0 ∧ BH m2 g6 T a1 0 b1 [(g7, .box [.lst false 2 ((sortA us).map Ar.av), .lst true 0 []])] st.mem ∧ (us.length ≤ 600 ∧ (b1 = false → us.length ≤ a1)) ∧ ∀ y a2 b2, Run1 (arrsL us) T a1 b1 y a2 b2 → Run1 (arrsL []) T 0 bad0 y a2 b2) (if bad0 = true then 0 else T.length - 0 + 1) ⟨[], 0, bad0, rfl, s2, s3, s4, s6, s7, by rw [sm]; exact h, by simp, fun _ _ _ h => h⟩ ?_)
  clear s2 s3 s4 s6 s7 sm h
  rintro RR q st hRR ⟨us, a1, b1, rfl, s2, s3, s4, s6, s7, h, ⟨hlen6, hlen⟩, hall⟩
  (repeat refine sqA ?_); refine rgA (by kernel_rfl) ?_
  simp [s6]
  refine aop_wcall _ _ _ _ _ _ _ _ rfl (eval_func _ _) ?_
  try simp [s6]
  refine c_l5Kept h.ps arrayB fun n1 hPn hOn => ?_
  try simp
  have h := h.call hgr hOn hPn
  clear hPn hOn
  cases hi : (hdT T a1 b1).is 3 arrayB with
  | false =>
   have hno := is_not3 hi
   rw [hi] at h
   simp at h
   try simp
   (repeat refine sqA ?_); refine AWp.condF (by simp) ?_
   refine AWp.exit ?_
   subst hM
   exact ⟨us, a1, b1, by simp [s2], by simp [s3], by simp [s4], by simp [s6], by simp [s7], by simpa using h, hall _ _ _ (arrsL_exit us hno)⟩
  | true =>
   obtain ⟨rfl, hlt, _, hmk⟩ := is_at (by omega) hi
   rw [hi] at h
   simp at h
   try simp
   (repeat refine sqA ?_); refine AWp.condT (by simp) ?_
   refine AWp.skip ?_
   try simp
   (repeat refine sqA ?_); refine AWp.block ?_
   refine AWp.gen (fun st => st.slots 2 = .ptr g2 0 ∧ st.slots 3 = .bool false ∧ st.slots 4 = .lst false 3 (T.map Tk.av) ∧ st.slots 6 = .ptr g6 0 ∧ st.slots 7 = .ptr g7 0 ∧ st.mem = n1) ⟨by simp [s2], by simp [s3], by simp [s4], by simp [s6], by simp [s7], by simp⟩ ?_
   clear s2 s3 s4 s6 s7 hi
   rintro st ⟨s2, s3, s4, s6, s7, sm⟩
   (repeat refine sqA ?_); refine rgA (by kernel_rfl) ?_
   simp [s6]
   refine aop_wcall _ _ _ _ _ _ _ _ rfl (eval_func _ _) ?_
   simp [sm, s6]
   refine c_nameS h.ps fun n2 nm a2 b2 hPn hOn run1 => ?_
   have h := h.call hgr hOn hPn
   clear hPn hOn
   try simp [s6]
   refine aop_wcall _ _ _ _ _ _ _ _ rfl (eval_func _ _) ?_
   try simp [s6]
   refine c_numS h.ps fun n3 num a3 b3 hPn hOn run2 => ?_
   have h := h.call hgr hOn hPn
   clear hPn hOn
   simp
   intro g8 hg8
   have h := h.new hgr hg8 (.box [.str nm, .int .i64 num])
   refine AWp.gen (fun st => st.slots 2 = .ptr g2 0 ∧ st.slots 3 = .bool false ∧ st.slots 4 = .lst false 3 (T.map Tk.av) ∧ st.slots 6 = .ptr g6 0 ∧ st.slots 7 = .ptr g7 0 ∧ st.slots 8 = .ptr g8 0 ∧ st.mem = n3.set g8 (.box [.str nm, .int .i64 num])) ⟨by simp [s2], by simp [s3], by simp [s4], by simp [s6], by simp [s7], by simp, by first | (simp; done) | (simp [sm]; done)⟩ ?_
   generalize n3.set g8 (.box [.str nm, .int .i64 num]) = n4 at *
   clear s2 s3 s4 s6 s7 sm
   rintro st ⟨s2, s3, s4, s6, s7, s8, sm⟩
   clear hg8
   have w7 := h.get (g := g7) (b := .box [.lst false 2 ((sortA us).map Ar.av), .lst true 0 []]) (by simp)
   have w8 := h.get (g := g8) (b := .box [.str nm, .int .i64 num]) (by simp)
   (repeat refine sqA ?_); refine rgA (by kernel_rfl) ?_
   simp [s7, s8, sm, w7, w8]
   refine aop_call' (c_l5Arr (sortA us) (Ar.mk nm num) (by rw [sort_len]; omega)) ?_
   rw [← sort_snoc]
   simp [s7, sm, w7]
   have h := (BH.put (l1 := [(g8, .box [.str nm, .int .i64 num])]) (b' := .box [.lst false 2 ((sortA (us ++ [Ar.mk nm num])).map Ar.av), .lst true 0 []]) h).less (bs' := [(g7, .box [.lst false 2 ((sortA (us ++ [Ar.mk nm num])).map Ar.av), .lst true 0 []])]) (List.sublist_cons_self _ _)
   refine AWp.gen (fun st => st.slots 2 = .ptr g2 0 ∧ st.slots 3 = .bool false ∧ st.slots 4 = .lst false 3 (T.map Tk.av) ∧ st.slots 6 = .ptr g6 0 ∧ st.slots 7 = .ptr g7 0 ∧ st.mem = n4.set g7 (.box [.lst false 2 ((sortA (us ++ [Ar.mk nm num])).map Ar.av), .lst true 0 []])) ⟨by simp [s2], by simp [s3], by simp [s4], by simp [s6], by simp [s7], by first | (simp; done) | (simp [sm]; done)⟩ ?_
   generalize n4.set g7 (.box [.lst false 2 ((sortA (us ++ [Ar.mk nm num])).map Ar.av), .lst true 0 []]) = n5 at *
   clear s2 s3 s4 s6 s7 sm
   rintro st ⟨s2, s3, s4, s6, s7, sm⟩
   clear s8 w7 w8
   (repeat refine sqA ?_); refine rgA (by kernel_rfl) ?_
   simp [s6]
   refine aop_wcall _ _ _ _ _ _ _ _ rfl (eval_func _ _) ?_
   simp [sm, s6]
   refine c_l5Mark h.ps (ch 59) fun mA hPn hOn => ?_
   try simp [s6]
   refine aop_wcall _ _ _ _ _ _ _ _ rfl (eval_func _ _) ?_
   try simp [s6]
   refine c_l5Must hPn _ fun n4 hPm hOm => ?_
   obtain ⟨a4, b4, hPm, run4⟩ : ∃ a' b', PS g6 T a' 0 b' n4 ∧ Run1 (tkR (ch 59)) T a3 b3 () a' b' := ⟨_, _, hPm, mark_run h.ps.le _⟩
   have h := h.call hgr (hOn.trans hOm) hPm
   have was4 := Run1.was run4
   clear hPn hOn hPm hOm
   try simp
   have runA : Run1 arrP T (a1 + 1) false (Ar.mk nm num) a4 b4 := run1.then_ (run2.then_ (run4.then_ (Run1.done _ T a4 b4)))
   have hle := h.ps.le
   have hl1 := hlen rfl
   have hpos : b4 = false → a1 + 1 < a4 := fun e => by
    subst e
    have := (Run1.ltN (FitN.less arrP_fit (by omega) fun _ => Nat.le_refl _) runA hle).1
    omega
   refine hRR _ (if b4 = true then 0 else T.length - a4 + 1) ?_ ⟨us ++ [Ar.mk nm num], a4, b4, rfl, by simp [s2], by simp [s3], by simp [s4], by simp [s6], by simp [s7], by simpa using h, ⟨by simp; omega, fun e => by have := hpos e; simp; omega⟩, fun y a5 b5 hr => hall y a5 b5 (arrsL_step hlt hmk runA hr)⟩
   cases b4 with
   | true => simp
   | false =>
    have := hpos rfl
    simp
    omega
 clear s2 s3 s4 s6 s7 sm h
 intro st hst
 subst hM
 obtain ⟨us, a0, b0, s2, s3, s4, s6, s7, h, runA⟩ := hst
 have hS : StmtS Tryz.prog 67 0 (stmtQ 5) := by simpa using c_l5Stmt 5 (by omega)
 obtain ⟨M, hM⟩ : ∃ M : St → Prop, M = (fun st => ∃ bs o a1 d1 b1, st.slots 2 = .ptr g2 0 ∧ st.slots 3 = .bool false ∧ st.slots 6 = .ptr g6 0 ∧ st.slots 7 = .ptr g7 0 ∧ BH m2 g6 T a1 d1 b1 (rowB 83 19 (bs.map Sm.av) o ++ [(g7, .box [.lst false 2 ((sortA us).map Ar.av), rowA bs.length o])]) st.mem ∧ (o = none → bs = []) ∧ Run1 (restL (stmtQ 5) []) T a0 b0 bs a1 b1) := ⟨_, rfl⟩
 (repeat refine sqA ?_); refine AWp.cutA M ?_ ?_
 ·refine AWp.block (AWp.rounds (fun q st => ∃ bs o a1 d1 b1, q = (if b1 = true then 0 else T.length - a1 + 1) ∧ st.slots 2 = .ptr g2 0 ∧ st.slots 3 = .bool false ∧ st.slots 4 = .lst false 3 (T.map Tk.av) ∧ st.slots 6 = .ptr g6 0 ∧ st.slots 7 = .ptr g7 0 ∧ BH m2 g6 T a1 d1 b1 (rowB 83 19 (bs.map Sm.av) o ++ [(g7, .box [.lst false 2 ((sortA us).map Ar.av), rowA bs.length o])]) st.mem ∧ (o = none → bs = []) ∧ (b1 = false → d1 = 0 ∧ bs.length ≤ a1) ∧ ∀ y a2 b2, Run1 (restL (stmtQ 5) bs) T a1 b1 y a2 b2 → Run1 (restL (stmtQ 5) []) T a0 b0 y a2 b2) (if b0 = true then 0 else T.length - a0 + 1) ⟨[], none, a0, 0, b0, rfl, s2, s3, s4, s6, s7, h, fun _ => rfl, fun _ => ⟨rfl, by simp⟩, fun _ _ _ h => h⟩ ?_)
  clear s2 s3 s4 s6 s7 h
  rintro RR q st hRR ⟨bs, o, a1, d1, b1, rfl, s2, s3, s4, s6, s7, h, ho, hdl, hall⟩
  have hbx := h.ps.box
  unfold pc at hbx
  cases b1 with
  | true =>
   (repeat refine sqA ?_); refine AWp.regionG (fun _ => false) (fun _ => false) [0, 1, 2, 3, 4, 5, 6, 7, 8, 9, 10, 11, 12, 13, 14, 15, 16] [0, 1, 2, 3, 4, 5, 6, 7, 8, 9, 10, 11, 12, 13, 14, 15, 16] (by kernel_rfl) ?_
   simp [s6, hbx]
   (repeat refine sqA ?_); refine AWp.condF (by simp) ?_
   refine AWp.exit ?_
   subst hM
   exact ⟨bs, o, a1, d1, true, by simp [s2], by simp [s3], by simp [s6], by simp [s7], by simpa using h, ho, hall _ _ _ (rest_exit bs (.inl rfl))⟩
  | false =>
   obtain ⟨hd1, hlen⟩ := hdl rfl
   subst hd1
   have hle1 := h.ps.le
   by_cases hlt : a1 < T.length
   ·have hlt2 : (a1 : Int) < T.length := by omega
    (repeat refine sqA ?_); refine AWp.regionG (fun _ => false) (fun _ => false) [0, 1, 2, 3, 4, 5, 6, 7, 8, 9, 10, 11, 12, 13, 14, 15, 16] [0, 1, 2, 3, 4, 5, 6, 7, 8, 9, 10, 11, 12, 13, 14, 15, 16] (by kernel_rfl) ?_
    simp [s6, hbx, hlt2]
    (repeat refine sqA ?_); refine AWp.condT (by simp) ?_
    refine AWp.skip ?_
    try simp
    (repeat refine sqA ?_); refine AWp.block ?_
    refine AWp.gen (fun st' => st'.slots 2 = .ptr g2 0 ∧ st'.slots 3 = .bool false ∧ st'.slots 4 = .lst false 3 (T.map Tk.av) ∧ st'.slots 6 = .ptr g6 0 ∧ st'.slots 7 = .ptr g7 0 ∧ st'.mem = st.mem) ⟨by simp [s2], by simp [s3], by simp [s4], by simp [s6], by simp [s7], by simp⟩ ?_
    clear s2 s3 s4 s6 s7 hbx
    generalize st.mem = n0 at *
    rintro st ⟨s2, s3, s4, s6, s7, sm⟩
    obtain ⟨_, rv2, rv3⟩ := rowA_ok bs.length o
    (repeat refine sqA ?_); refine AWp.regionX (fun _ => false) (fun _ => false) [0, 1, 2, 3, 4, 5, 6, 7] [0, 2, 3, 1, 4, 5, 6, 7] 1 3 [0, 1, 2, 3, 4, 5, 6, 7] (by kernel_rfl) ?_ ?_
    ·have w7 := h.get (g := g7) (b := .box [.lst false 2 ((sortA us).map Ar.av), rowA bs.length o]) (by cases o <;> simp [rowB])
     simp [s6, s7, sm, w7, rv2, rv3]
     refine aop_wcall _ _ _ _ _ _ _ _ rfl (eval_func _ _) ?_
     simp [sm]
     refine hS g6 T a1 0 false _ h.ps hT (fun _ => rfl) _ fun n1 x a2 d2 b2 hPn hOn run hdd => ?_
     have hle := (BH.call h hgr hOn hPn).ps.le
     have h := h.call hgr hOn hPn
     clear hPn hOn
     simp [Sm.av, literalA]
     refine BH.app (xs := bs.map Sm.av) (bs := [(g7, .box [.lst false 2 ((sortA us).map Ar.av), rowA bs.length o])]) (x := Sm.av x) et_30 (by simp) h hgr (fun e => by rw [ho e]; rfl) (by simp [srcA, Sm.av]) (Sm.cells_ok x) (by omega) fun g' c' n2 h => ?_
     have w7 := h.get (g := g7) (b := .box [.lst false 2 ((sortA us).map Ar.av), rowA bs.length o]) (by simp [rowB])
     obtain ⟨r1, r2, r3⟩ := rowA_ok (bs.length + 1) (some (g', c'))
     simp [s7, w7, r1, r2, r3]
     have h := BH.put (l1 := rowB 83 19 (bs.map Sm.av ++ [Sm.av x]) (some (g', c'))) (b' := .box [.lst false 2 ((sortA us).map Ar.av), rowA (bs.length + 1) (some (g', c'))]) h
     refine hRR _ (if b2 = true then 0 else T.length - a2 + 1) ?_ ⟨bs ++ [x], some (g', c'), a2, d2, b2, rfl, by simp [s2], by simp [s3], by simp [s4], by simp [s6], by simp [s7], by simpa [Sm.av] using h, fun e => (by cases e), fun e => ⟨hdd e, ?_⟩, fun y a3 b3 hr => hall y a3 b3 (rest_step (stmtQ_fit 5) hlt run hr)⟩
     ·cases b2 with
      | true => simp
      | false =>
       have := (Run1.ltN (stmtQ_fit 5) run hle).1
       simp
       omega
     ·subst e
      have := (Run1.ltN (stmtQ_fit 5) run hle).1
      simp
      omega
    ·simp [s6, s7, sm]
     refine aop_wcall _ _ _ _ _ _ _ _ rfl (eval_func _ _) ?_
     simp [sm]
     refine hS g6 T a1 0 false _ h.ps hT (fun _ => rfl) _ fun n1 x a2 d2 b2 hPn hOn run hdd => ?_
     have hle := (BH.call h hgr hOn hPn).ps.le
     have h := h.call hgr hOn hPn
     clear hPn hOn
     have w7 := h.get (g := g7) (b := .box [.lst false 2 ((sortA us).map Ar.av), rowA bs.length o]) (by cases o <;> simp [rowB])
     simp [-store_ptr, w7, rv2, rv3, s7, Sm.av, literalA]
     refine BH.app (xs := bs.map Sm.av) (bs := [(g7, .box [.lst false 2 ((sortA us).map Ar.av), rowA bs.length o])]) (x := Sm.av x) et_30 (by simp) h hgr (fun e => by rw [ho e]; rfl) (by simp [srcA, Sm.av]) (Sm.cells_ok x) (by omega) fun g' c' n2 h => ?_
     have w7 := h.get (g := g7) (b := .box [.lst false 2 ((sortA us).map Ar.av), rowA bs.length o]) (by simp [rowB])
     obtain ⟨r1, r2, r3⟩ := rowA_ok (bs.length + 1) (some (g', c'))
     simp [s7, w7, r1, r2, r3]
     have h := BH.put (l1 := rowB 83 19 (bs.map Sm.av ++ [Sm.av x]) (some (g', c'))) (b' := .box [.lst false 2 ((sortA us).map Ar.av), rowA (bs.length + 1) (some (g', c'))]) h
     refine hRR _ (if b2 = true then 0 else T.length - a2 + 1) ?_ ⟨bs ++ [x], some (g', c'), a2, d2, b2, rfl, by simp [s2], by simp [s3], by simp [s4], by simp [s6], by simp [s7], by simpa [Sm.av] using h, fun e => (by cases e), fun e => ⟨hdd e, ?_⟩, fun y a3 b3 hr => hall y a3 b3 (rest_step (stmtQ_fit 5) hlt run hr)⟩
     ·cases b2 with
      | true => simp
      | false =>
       have := (Run1.ltN (stmtQ_fit 5) run hle).1
       simp
       omega
     ·subst e
      have := (Run1.ltN (stmtQ_fit 5) run hle).1
      simp
      omega
   ·have hlt2 : ¬ (a1 : Int) < T.length := by omega
    (repeat refine sqA ?_); refine AWp.regionG (fun _ => false) (fun _ => false) [0, 1, 2, 3, 4, 5, 6, 7, 8, 9, 10, 11, 12, 13, 14, 15, 16] [0, 1, 2, 3, 4, 5, 6, 7, 8, 9, 10, 11, 12, 13, 14, 15, 16] (by kernel_rfl) ?_
    simp [s6, hbx, hlt2]
    (repeat refine sqA ?_); refine AWp.condF (by simp) ?_
    refine AWp.exit ?_
    subst hM
    exact ⟨bs, o, a1, 0, false, by simp [s2], by simp [s3], by simp [s6], by simp [s7], by simpa using h, ho, hall _ _ _ (rest_exit bs (.inr (by omega)))⟩
 clear s2 s3 s4 s6 s7 h
 intro st hst
 subst hM
 obtain ⟨bs, o, a1, d1, b1, s2, s3, s6, s7, h, ho, runB⟩ := hst
 rw [hbad0] at runA
 obtain ⟨o1, o2⟩ := parse_out2 hTd runA runB
 cases o with
 | none =>
  have hbs := ho rfl
  have w7 := h.get (g := g7) (b := .box [.lst false 2 ((sortA us).map Ar.av), .lst true 0 []]) (by simp [rowA, rowB])
  refine AWp.sees (Sees.boxLe (cs' := [.lst false 2 ((sortA us).map Ar.av), .lst false 19 (bs.map Sm.av)]) w7 (.cons (Le.refl _) (.cons (by rw [hbs]; exact Le.nil _ _ _) .nil))) ?_
  refine AWp.gen (fun st' => st'.slots 2 = .ptr g2 0 ∧ st'.slots 3 = .bool false ∧ st'.slots 6 = .ptr g6 0 ∧ st'.slots 7 = .ptr g7 0 ∧ BH m2 g6 T a1 d1 b1 [(g7, .box [.lst false 2 ((sortA us).map Ar.av), .lst false 19 (bs.map Sm.av)])] st'.mem) ⟨s2, s3, s6, s7, BH.put (l1 := []) (b' := .box [.lst false 2 ((sortA us).map Ar.av), .lst false 19 (bs.map Sm.av)]) h⟩ ?_
  clear w7 hbs
  clear s2 s3 s6 s7 h
  rintro st ⟨s2, s3, s6, s7, h⟩
  have hbx := h.ps.box
  unfold pc at hbx
  have w7 := h.get (g := g7) (b := .box [.lst false 2 ((sortA us).map Ar.av), .lst false 19 (bs.map Sm.av)]) (by simp)
  have w2' := h.off g2 _ n26 w2
  have bad : ∀ st' : St, parse s = none → st'.slots 2 = .ptr g2 0 → st'.slots 3 = .bool false → st'.mem g2 = some (.box [.lst true 0 [], .lst true 0 []]) → Post Tryz.prog Tryz.f20 (fun r' _ => r' = outP (parse s)) .ret st' := fun st' hn t2 t3 tm => by
   rw [hn]
   exact ⟨[.agg [.lst true 0 [], .lst true 0 []], .bool false], outP none, st'.mem, by simp [Tryz.f20, resA, t2, t3, tm], View.le (Le.tup (.cons zero_pg (.cons (Le.refl _) .nil))) _, rfl⟩
  cases b1 with
  | true =>
   (repeat refine sqA ?_); refine rgA (by kernel_rfl) ?_
   simp [s6, s7, hbx]
   (repeat refine sqA ?_); refine AWp.condT (by simp) ?_
   (repeat refine sqA ?_); refine rgA (by kernel_rfl) ?_
   simp [s2, w2']
   refine AWp.ret (bad _ (by rw [← parse_Q]; exact o1 rfl) ?_ ?_ ?_) <;> simp [s2, set_same]
  | false =>
   obtain ⟨o3, r1, r2, hA, hB⟩ := o2 rfl
   rw [parse_Q] at o3
   obtain ⟨z1, z2, z3⟩ := parse_small (stmtQ_fit 5) hT h6 hA hB
   have ht : (Pg.mk (sortA us) bs).tot ≤ 1048576 := by
    have h1 : totL Ar.tot (sortA us) ≤ (sortA us).length * (6 + 1) := tot_arrs_le (B := 6) fun x hx => by
     have h3 := arrs_name hT hA x ((sort_mem us x).1 hx)
     omega
    rw [sort_len] at h1
    show totL Ar.tot (sortA us) + totL Sm.tot bs ≤ _
    omega
   (repeat refine sqA ?_); refine rgA (by kernel_rfl) ?_
   simp [s6, s7, hbx, w7]
   refine aop_call' (r := .bool (Pg.mk (sortA us) bs).ok) (by simpa [Pg.av, Pg.cells] using c_spec_ProgOk (Pg.mk (sortA us) bs) ht) ?_
   cases hb : (Pg.mk (sortA us) bs).ok with
   | false =>
    rw [hb] at o3
    simp
    (repeat refine sqA ?_); refine AWp.condT (by simp) ?_
    (repeat refine sqA ?_); refine rgA (by kernel_rfl) ?_
    simp [s2, w2']
    refine AWp.ret (bad _ (by rw [o3]; rfl) ?_ ?_ ?_) <;> simp [s2, set_same]
   | true =>
    rw [hb] at o3
    have hps : parse s = some (Pg.mk (sortA us) bs) := by rw [o3]; rfl
    simp
    (repeat refine sqA ?_); refine AWp.condF (by simp) ?_
    refine AWp.skip ?_
    try simp
    (repeat refine sqA ?_); refine rgA (by kernel_rfl) ?_
    simp [s2, s7, w2', w7]
    exact AWp.ret ⟨[(Pg.mk (sortA us) bs).av, .bool true], _, _, by simp [Tryz.f20, resA, s2, Pg.av, Pg.cells, set_same], View.refl _ _, by rw [hps]; rfl⟩
 | some p =>
  obtain ⟨g, c⟩ := p
  have w7 := h.get (g := g7) (b := .box [.lst false 2 ((sortA us).map Ar.av), .own g bs.length c]) (by simp [rowA, rowB])
  have wg := h.get (g := g) (b := .arr 83 19 c (bs.map Sm.av)) (by simp [rowB])
  refine AWp.sees (Sees.freezeIn (i := 1) w7 rfl wg (by simp)) ?_
  refine AWp.gen (fun st' => st'.slots 2 = .ptr g2 0 ∧ st'.slots 3 = .bool false ∧ st'.slots 6 = .ptr g6 0 ∧ st'.slots 7 = .ptr g7 0 ∧ BH m2 g6 T a1 d1 b1 [(g7, .box [.lst false 2 ((sortA us).map Ar.av), .lst false 19 (bs.map Sm.av)])] st'.mem) ⟨s2, s3, s6, s7, BH.put (l1 := []) (b' := .box [.lst false 2 ((sortA us).map Ar.av), .lst false 19 (bs.map Sm.av)]) (BH.del (l1 := []) h)⟩ ?_
  clear w7 wg
  clear s2 s3 s6 s7 h
  rintro st ⟨s2, s3, s6, s7, h⟩
  have hbx := h.ps.box
  unfold pc at hbx
  have w7 := h.get (g := g7) (b := .box [.lst false 2 ((sortA us).map Ar.av), .lst false 19 (bs.map Sm.av)]) (by simp)
  have w2' := h.off g2 _ n26 w2
  have bad : ∀ st' : St, parse s = none → st'.slots 2 = .ptr g2 0 → st'.slots 3 = .bool false → st'.mem g2 = some (.box [.lst true 0 [], .lst true 0 []]) → Post Tryz.prog Tryz.f20 (fun r' _ => r' = outP (parse s)) .ret st' := fun st' hn t2 t3 tm => by
   rw [hn]
   exact ⟨[.agg [.lst true 0 [], .lst true 0 []], .bool false], outP none, st'.mem, by simp [Tryz.f20, resA, t2, t3, tm], View.le (Le.tup (.cons zero_pg (.cons (Le.refl _) .nil))) _, rfl⟩
  cases b1 with
  | true =>
   (repeat refine sqA ?_); refine rgA (by kernel_rfl) ?_
   simp [s6, s7, hbx]
   (repeat refine sqA ?_); refine AWp.condT (by simp) ?_
   (repeat refine sqA ?_); refine rgA (by kernel_rfl) ?_
   simp [s2, w2']
   refine AWp.ret (bad _ (by rw [← parse_Q]; exact o1 rfl) ?_ ?_ ?_) <;> simp [s2, set_same]
  | false =>
   obtain ⟨o3, r1, r2, hA, hB⟩ := o2 rfl
   rw [parse_Q] at o3
   obtain ⟨z1, z2, z3⟩ := parse_small (stmtQ_fit 5) hT h6 hA hB
   have ht : (Pg.mk (sortA us) bs).tot ≤ 1048576 := by
    have h1 : totL Ar.tot (sortA us) ≤ (sortA us).length * (6 + 1) := tot_arrs_le (B := 6) fun x hx => by
     have h3 := arrs_name hT hA x ((sort_mem us x).1 hx)
     omega
    rw [sort_len] at h1
    show totL Ar.tot (sortA us) + totL Sm.tot bs ≤ _
    omega
   (repeat refine sqA ?_); refine rgA (by kernel_rfl) ?_
   simp [s6, s7, hbx, w7]
   refine aop_call' (r := .bool (Pg.mk (sortA us) bs).ok) (by simpa [Pg.av, Pg.cells] using c_spec_ProgOk (Pg.mk (sortA us) bs) ht) ?_
   cases hb : (Pg.mk (sortA us) bs).ok with
   | false =>
    rw [hb] at o3
    simp
    (repeat refine sqA ?_); refine AWp.condT (by simp) ?_
    (repeat refine sqA ?_); refine rgA (by kernel_rfl) ?_
    simp [s2, w2']
    refine AWp.ret (bad _ (by rw [o3]; rfl) ?_ ?_ ?_) <;> simp [s2, set_same]
   | true =>
    rw [hb] at o3
    have hps : parse s = some (Pg.mk (sortA us) bs) := by rw [o3]; rfl
    simp
    (repeat refine sqA ?_); refine AWp.condF (by simp) ?_
    refine AWp.skip ?_
    try simp
    (repeat refine sqA ?_); refine rgA (by kernel_rfl) ?_
    simp [s2, s7, w2', w7]
    exact AWp.ret ⟨[(Pg.mk (sortA us) bs).av, .bool true], _, _, by simp [Tryz.f20, resA, s2, Pg.av, Pg.cells, set_same], View.refl _ _, by rw [hps]; rfl⟩

end Go.T
namespace Go.T
open Go Go.Proofs
set_option maxRecDepth 10000
set_option maxHeartbeats 1000000
end Go.T
namespace Go.T
open Go Go.Proofs
set_option maxRecDepth 10000
set_option maxHeartbeats 1000000
theorem cnts_tot {α : Type} {f : α → AV} {t : α → Nat} {C : Nat} (l : List α) (h : ∀ x ∈ l, (f x).cnt ≤ C + C * t x) : AV.cnts (l.map f) ≤ C * totL t l := by
 induction l with
 | nil => simp [AV.cnts]
 | cons x l ih =>
  have h1 := h x (List.mem_cons_self ..)
  have h2 := ih fun y hy => h y (List.mem_cons_of_mem _ hy)
  simp only [List.map_cons, AV.cnts, totL, Nat.mul_add, Nat.mul_one]
  omega
theorem Ex.mcnt_le (e : Ex) : e.av.cnt ≤ 3 + 3 * e.tot := by
 induction e using Ex.ind with | h k n s l h =>
 have := cnts_tot l h
 rw [Ex.tot_mk, Ex.av_mk]
 simp only [AV.cnt, AV.cnts]
 omega
theorem Sm.mcnt_le (e : Sm) : e.av.cnt ≤ 14 + 14 * e.tot := by
 induction e using Sm.ind with | h k s a e lo hi b h =>
 have hb := cnts_tot b h
 have ha := a.mcnt_le
 have he := e.mcnt_le
 have hl := lo.mcnt_le
 have hh := hi.mcnt_le
 have ca : AV.cnts a.cells = a.av.cnt := rfl
 have ce : AV.cnts e.cells = e.av.cnt := rfl
 have cl : AV.cnts lo.cells = lo.av.cnt := rfl
 have ch : AV.cnts hi.cells = hi.av.cnt := rfl
 rw [Sm.tot_mk]
 have hcs : (Sm.mk k s a e lo hi b).av.cnt = AV.cnts (Sm.mk k s a e lo hi b).cells := rfl
 rw [hcs, Sm.cells_mk]
 simp only [AV.cnts, AV.cnt, cnts_append]
 omega
theorem Pg.cnts_le (p : Pg) (ht : p.tot ≤ 1048576) : AV.cnts (p.arrs.map Ar.av) ≤ 2097152 ∧ AV.cnts (p.body.map Sm.av) ≤ 14680064 := by
 have h3 : p.tot = totL Ar.tot p.arrs + totL Sm.tot p.body := rfl
 have h1 := cnts_tot (C := 2) (f := Ar.av) (t := Ar.tot) p.arrs (fun x _ => by obtain ⟨s, n⟩ := x; simp [Ar.av, Ar.cells, AV.cnt, AV.cnts]; try omega)
 have h2 := cnts_tot (C := 14) (f := Sm.av) (t := Sm.tot) p.body (fun x _ => x.mcnt_le)
 omega
end Go.T
