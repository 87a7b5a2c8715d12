/- The reference's runner: its state. The reference's runner: fuel. The reference's runner: what names have. The reference's runner: what an expression is. The reference's runner: a word of an array is put. The reference's runner: a loop. The reference's runner: statements. -/
import Derived.Test.YtfikgphnjndgdaaGreatG12
namespace Go.T
open Go Go.Proofs
set_option maxRecDepth 10000
set_option maxHeartbeats 1000000
set_option linter.unusedSimpArgs false
set_option linter.unusedVariables false
open Go
/-- What is bound lies in a row that nobody writes. -/
def RB (m : Mem) (F : Nat → Prop) (v : AV) (B : List (ByteArray × Int)) : Prop := ∃ f e, v = .lst f e (bndL B) ∧ e = 2
theorem RB.mem {m m' : Mem} {F : Nat → Prop} {v : AV} {B : List (ByteArray × Int)} (h : RB m F v B) (hm : ∀ b, F b → m' b = m b) : RB m' F v B := h
def speCells (p : Pg) (ns : List ByteArray) (vA vV vO vB : AV) (nd : Int) (fu : Nat) : List AV :=
  [.lst false 2 (p.arrs.map Ar.av), .lst false 19 (p.body.map Sm.av), strs ns, vA, vV, vO, .int .i64 nd, vB, .int .i64 fu]
/-- A runner's box, and its rows, apart from each other. -/
structure RunQ (gr : Nat) (p : Pg) (ns : List ByteArray) (σ : RS) (vA vV vO vB : AV) (FA FV FO FB : Nat → Prop) (m : Mem) : Prop where
  box : m gr = some (.box (speCells p ns vA vV vO vB σ.nd σ.fu))
  rA : OwnT m FA vA (.lst false 1 (rowsL σ.A))
  rV : OwnT m FV vV (.lst false 1 (intsL σ.V))
  rO : GrowO 3 1 m FO vO (intsL σ.O)
  rB : RB m FB vB σ.B
  dom : ∀ b, FA b ∨ FV b ∨ FO b ∨ FB b → m b ≠ none
  nA : ¬ FA gr
  nV : ¬ FV gr
  nO : ¬ FO gr
  nB : ¬ FB gr
  dAV : ∀ b, FA b → ¬ FV b
  dAO : ∀ b, FA b → ¬ FO b
  dAB : ∀ b, FA b → ¬ FB b
  dVO : ∀ b, FV b → ¬ FO b
  dVB : ∀ b, FV b → ¬ FB b
  dOB : ∀ b, FO b → ¬ FB b
theorem RunQ.row {gr : Nat} {p : Pg} {ns : List ByteArray} {σ : RS} {vA vV vO vB : AV} {FA FV FO FB : Nat → Prop} {m : Mem} (h : RunQ gr p ns σ vA vV vO vB FA FV FO FB m) {k : Nat} (hk : k < σ.A.length) :
    ∃ (gA c : Nat) (ys : List AV) (T : TypeId) (y : AV), vA = .own gA ys.length c ∧ m gA = some (.arr T 1 c ys) ∧ ys.length = σ.A.length ∧ ys[k]? = some y ∧ lenA Tryz.prog (some 54) y = some (.int .i64 σ.A[k].length) ∧ y.cells = [y] ∧
      ∀ j, j < σ.A[k].length → ∃ (Tg : TypeId) (g cg : Nat), m g = some (.arr Tg 1 cg (intsL σ.A[k])) ∧ FA g ∧ (∀ kk, idxA Tryz.prog m 54 y (.int kk j) = some (.elt g 1 j 0)) ∧
        ∀ x : Int, OwnT (m.set g (.arr Tg 1 cg ((intsL σ.A[k]).set j (.int .i64 x)))) FA vA (.lst false 1 (rowsL (σ.A.set k (σ.A[k].set j x)))) := by
  have hA := h.rA
  generalize hX : rowsL σ.A = X at hA
  have hXl : X.length = σ.A.length := by rw [← hX]; simp [rowsL]
  cases hA with
  | nil f e _ => rw [← hXl] at hk; simp at hk
  | @own _ G gA n c _ T ys _ h1 h2 h3 h4 h5 h6 =>
    have hyl : ys.length = σ.A.length := by rw [← hXl]; exact h3.len
    have hky : k < ys.length := by omega
    obtain ⟨A1, B1, C1, x, e1, e2, e3, e4, e5, e6⟩ := h3.at hky
    have hx : x = .lst false 1 (intsL σ.A[k]) := by
      rw [← hX] at e1
      simp [rowsL, List.getElem?_eq_getElem hk] at e1
      exact e1.symm
    subst hx
    refine ⟨gA, c, ys, T, ys[k], by rw [h2], h1, hyl, List.getElem?_eq_getElem hky, ?_, ?_, fun j hj => ?_⟩
    · have := row_len e2 (leafy_ints _)
      simpa [intsL] using this
    · rcases e2.leafRow (leafy_ints _) with ⟨f, e, q, _⟩ | ⟨T', g, cg, q, _, _⟩ <;> rw [q] <;> simp
    · obtain ⟨Tg, g, cg, q1, q2, q3, q4⟩ := row_at e2 (leafy_ints _) (i := j) (by simpa [intsL] using hj)
      refine ⟨Tg, g, cg, q2, h5 g (e5 g q3), q4, fun x => ?_⟩
      have hgA : gA ≠ g := by rintro rfl; exact h4 (e5 _ q3)
      have hnew : OwnT (m.set g (.arr Tg 1 cg ((intsL σ.A[k]).set j (.int .i64 x)))) B1 ys[k] (.lst false 1 (intsL (σ.A[k].set j x))) := by
        rw [q1]
        have e : (intsL σ.A[k]).set j (.int .i64 x) = intsL (σ.A[k].set j x) := by simp [intsL, List.map_set]
        rw [e]
        refine .own (G := fun _ => False) (set_same _ _ _) (by simp [intsL]) (OwnTs.same fun a ha F => ?_) (fun h => h) (fun b h => h.elim) q3
        obtain ⟨n, _, rfl⟩ := List.mem_map.1 ha
        exact .int _ _
      have h7 := e6 _ ys[k] (.lst false 1 (intsL (σ.A[k].set j x))) B1 (fun b hb => Mem.set_other (by rintro rfl; exact e3 b hb q3)) hnew (fun _ h => h)
      rw [List.set_getElem_self] at h7
      have e : X.set k (.lst false 1 (intsL (σ.A[k].set j x))) = rowsL (σ.A.set k (σ.A[k].set j x)) := by rw [← hX]; simp [rowsL, List.map_set]
      rw [e] at h7
      exact .own (by rw [Mem.set_other hgA]; exact h1) h2 h7 h4 h5 h6
theorem RunQ.store {gr : Nat} {p : Pg} {ns : List ByteArray} {σ : RS} {vA vV vO vB : AV} {FA FV FO FB : Nat → Prop} {m : Mem} (h : RunQ gr p ns σ vA vV vO vB FA FV FO FB m) {k j : Nat} {x : Int} {g : Nat} {b : Blk} (hF : FA g) (hA : OwnT (m.set g b) FA vA (.lst false 1 (rowsL (σ.setA k j x).A))) : RunQ gr p ns (σ.setA k j x) vA vV vO vB FA FV FO FB (m.set g b) := by
  have o : ∀ G : Nat → Prop, (∀ c, FA c → ¬ G c) → ∀ c, G c → (m.set g b) c = m c := fun G hG c hc => Mem.set_other (by rintro rfl; exact hG _ hF hc)
  refine ⟨?_, hA, h.rV.mem (o _ h.dAV), h.rO.mem (o _ h.dAO), h.rB.mem (o _ h.dAB), fun c hc => ?_, h.nA, h.nV, h.nO, h.nB, h.dAV, h.dAO, h.dAB, h.dVO, h.dVB, h.dOB⟩
  · rw [Mem.set_other (by rintro rfl; exact h.nA hF)]; exact h.box
  · rw [set_at]; split
    · simp
    · exact h.dom c hc
/-- The box is written: how it ended, fuel. -/
theorem RunQ.upd {gr : Nat} {p : Pg} {ns : List ByteArray} {σ : RS} {vA vV vO vB : AV} {FA FV FO FB : Nat → Prop} {m : Mem} (h : RunQ gr p ns σ vA vV vO vB FA FV FO FB m) {σ' : RS} (eA : σ'.A = σ.A) (eV : σ'.V = σ.V) (eO : σ'.O = σ.O) (eB : σ'.B = σ.B) {m' : Mem} (hm : m' gr = some (.box (speCells p ns vA vV vO vB σ'.nd σ'.fu))) (ho : ∀ b, b ≠ gr → m' b = m b) : RunQ gr p ns σ' vA vV vO vB FA FV FO FB m' := by
  have o : ∀ G : Nat → Prop, ¬ G gr → ∀ c, G c → m' c = m c := fun G hG c hc => ho c (by rintro rfl; exact hG hc)
  refine ⟨hm, ?_, ?_, ?_, ?_, fun b hb => ?_, h.nA, h.nV, h.nO, h.nB, h.dAV, h.dAO, h.dAB, h.dVO, h.dVB, h.dOB⟩
  · rw [eA]; exact h.rA.mem (o _ h.nA)
  · rw [eV]; exact h.rV.mem (o _ h.nV)
  · rw [eO]; exact h.rO.mem (o _ h.nO)
  · rw [eB]; exact h.rB.mem (o _ h.nB)
  · rw [ho b]
    · exact h.dom b hb
    · rintro rfl
      rcases hb with hb | hb | hb | hb
      · exact h.nA hb
      · exact h.nV hb
      · exact h.nO hb
      · exact h.nB hb
/-- A runner, with what it writes. -/
def RunG (gr : Nat) (p : Pg) (ns : List ByteArray) (σ : RS) (F : Nat → Prop) (m : Mem) : Prop :=
  ∃ vA vV vO vB FA FV FO FB, RunQ gr p ns σ vA vV vO vB FA FV FO FB m ∧ Small p ns σ ∧ F = fun b => b = gr ∨ FA b ∨ FV b ∨ FO b ∨ FB b
theorem RunG.at {gr : Nat} {p : Pg} {ns : List ByteArray} {σ : RS} {F : Nat → Prop} {m : Mem} (h : RunG gr p ns σ F m) : F gr ∧ ∀ b, F b → m b ≠ none := by
  obtain ⟨vA, vV, vO, vB, FA, FV, FO, FB, h1, h2, rfl⟩ := h
  refine ⟨.inl rfl, fun b hb => ?_⟩
  rcases hb with rfl | hb
  · rw [h1.box]; simp
  · exact h1.dom b hb
theorem RunG.ext {gr : Nat} {p : Pg} {ns : List ByteArray} {σ : RS} {F : Nat → Prop} {m m' : Mem} (h : RunG gr p ns σ F m) (hm : ∀ b, F b → m' b = m b) : RunG gr p ns σ F m' := by
  obtain ⟨vA, vV, vO, vB, FA, FV, FO, FB, h1, h2, rfl⟩ := h
  refine ⟨vA, vV, vO, vB, FA, FV, FO, FB, ⟨?_, ?_, ?_, ?_, ?_, fun b hb => ?_, h1.nA, h1.nV, h1.nO, h1.nB, h1.dAV, h1.dAO, h1.dAB, h1.dVO, h1.dVB, h1.dOB⟩, h2, rfl⟩
  · rw [hm _ (.inl rfl)]; exact h1.box
  · exact h1.rA.mem fun b hb => hm b (.inr (.inl hb))
  · exact h1.rV.mem fun b hb => hm b (.inr (.inr (.inl hb)))
  · exact h1.rO.mem fun b hb => hm b (.inr (.inr (.inr (.inl hb))))
  · exact h1.rB.mem fun b hb => hm b (.inr (.inr (.inr (.inr hb))))
  · rw [hm b (.inr hb)]; exact h1.dom b hb
/-- One more is printed. -/
theorem RunQ.print {gr : Nat} {p : Pg} {ns : List ByteArray} {σ : RS} {vA vV vO vB : AV} {FA FV FO FB : Nat → Prop} {m : Mem} (h : RunQ gr p ns σ vA vV vO vB FA FV FO FB m) (hl : σ.O.length ≤ 1048576) (n : Int) {k : AV → Mem → Prop}
    (hk : ∀ v' m', m' gr = some (.box (speCells p ns vA vV vO vB σ.nd σ.fu)) → v'.cells = [v'] → okCell v' = true → v' ≠ .undef → (∀ F : Nat → Prop, F = (fun b => b = gr ∨ FA b ∨ FV b ∨ FO b ∨ FB b) → ∃ FO', RunQ gr p ns { σ with O := σ.O ++ [n] } vA vV v' vB FA FV FO' FB (m'.set gr (.box (speCells p ns vA vV v' vB σ.nd σ.fu))) ∧
        Turned F (fun b => b = gr ∨ FA b ∨ FV b ∨ FO' b ∨ FB b) m (m'.set gr (.box (speCells p ns vA vV v' vB σ.nd σ.fu)))) → k v' m') :
    appendW Tryz.prog m k #[54, 54] vO (.lst true 1 [.int .i64 n]) := by
  refine GrowO.app (x := .int .i64 n) (A := fun _ => False) et_54 h.rO (fun b hb => h.dom b (.inr (.inr (.inl hb)))) (.int _ _) (fun b h => h.elim) (fun b _ h => h) rfl rfl (by simp [intsL]; omega) fun v' m' F' h1 h2 h3 h4 => ?_
  have hgr : m gr ≠ none := by rw [h.box]; simp
  have hbox := (h2 gr hgr h.nO).trans h.box
  have hn : ¬ F' gr := fun hF => by
    rcases h3 gr hF with h5 | h5 | h5
    · exact h.nO h5
    · exact h5
    · exact hgr h5
  have same : ∀ b, (FA b ∨ FV b ∨ FB b) → (m'.set gr (.box (speCells p ns vA vV v' vB σ.nd σ.fu))) b = m b := fun b hb => by
    have hbg : b ≠ gr := by
      rintro rfl
      rcases hb with hb | hb | hb
      · exact h.nA hb
      · exact h.nV hb
      · exact h.nB hb
    have hbB : ¬ FO b := by
      rcases hb with hb | hb | hb
      · exact h.dAO b hb
      · exact h.dVO b hb
      · exact fun hq => h.dOB b hq hb
    have hbm : m b ≠ none := by
      rcases hb with hb | hb | hb
      · exact h.dom b (.inl hb)
      · exact h.dom b (.inr (.inl hb))
      · exact h.dom b (.inr (.inr (.inr hb)))
    rw [Mem.set_other hbg, h2 b hbm hbB]
  have apart : ∀ b, F' b → ¬ (FA b ∨ FV b ∨ FB b) := fun b hb hq => by
    rcases h3 b hb with h5 | h5 | h5
    · rcases hq with hq | hq | hq
      · exact h.dAO b hq h5
      · exact h.dVO b hq h5
      · exact h.dOB b h5 hq
    · exact h5
    · rcases hq with hq | hq | hq
      · exact h.dom b (.inl hq) h5
      · exact h.dom b (.inr (.inl hq)) h5
      · exact h.dom b (.inr (.inr (.inr hq))) h5
  have shp := h1.shape
  have c3 : v'.cells = [v'] ∧ okCell v' = true ∧ v' ≠ .undef := by
    rcases shp with e | ⟨g, l, c, e⟩ <;> rw [e] <;> exact ⟨rfl, rfl, by simp⟩
  refine hk v' m' hbox c3.1 c3.2.1 c3.2.2 fun F hF => ⟨F', ⟨set_same _ _ _, ?_, ?_, ?_, ?_, fun b hb => ?_, h.nA, h.nV, hn, h.nB, h.dAV, fun b hb hq => apart b hq (.inl hb), h.dAB, fun b hb hq => apart b hq (.inr (.inl hb)), h.dVB, fun b hb hq => apart b hb (.inr (.inr hq))⟩, ⟨fun b hb => ?_, fun b y hb hy => ?_⟩⟩
  · exact h.rA.mem fun b hb => same b (.inl hb)
  · exact h.rV.mem fun b hb => same b (.inr (.inl hb))
  · have h6 : GrowO 3 1 m' F' v' (intsL (σ.O ++ [n])) := by rw [show intsL (σ.O ++ [n]) = intsL σ.O ++ [.int .i64 n] by simp [intsL]]; exact h1
    exact h6.mem fun b hb => Mem.set_other (by rintro rfl; exact hn hb)
  · exact h.rB.mem fun b hb => same b (.inr (.inr hb))
  · by_cases hbg : b = gr
    · rw [hbg, set_same]; simp
    · rw [Mem.set_other hbg]
      have old : m b ≠ none → ¬ FO b → m' b ≠ none := fun h5 h6 => by rw [h2 b h5 h6]; exact h5
      rcases hb with hb | hb | hb | hb
      · exact old (h.dom b (.inl hb)) (h.dAO b hb)
      · exact old (h.dom b (.inr (.inl hb))) (h.dVO b hb)
      · exact h4 b hb
      · exact old (h.dom b (.inr (.inr (.inr hb)))) (fun hq => h.dOB b hq hb)
  · subst hF
    rcases hb with hb | hb | hb | hb | hb
    · exact .inl (.inl hb)
    · exact .inl (.inr (.inl hb))
    · exact .inl (.inr (.inr (.inl hb)))
    · rcases h3 b hb with h5 | h5 | h5
      · exact .inl (.inr (.inr (.inr (.inl h5))))
      · exact h5.elim
      · exact .inr h5
    · exact .inl (.inr (.inr (.inr (.inr hb))))
  · subst hF
    have hbg : b ≠ gr := fun e => hb (.inl e)
    rw [Mem.set_other hbg, h2 b (by rw [hy]; simp) fun h5 => hb (.inr (.inr (.inr (.inl h5))))]
    exact hy
/-- A name's value is set. -/
theorem RunQ.setV {gr : Nat} {p : Pg} {ns : List ByteArray} {σ : RS} {vA vV vO vB : AV} {FA FV FO FB : Nat → Prop} {m : Mem} (h : RunQ gr p ns σ vA vV vO vB FA FV FO FB m) {j : Nat} (hj : j < σ.V.length) :
    ∃ (T : TypeId) (g c : Nat), vV = .own g σ.V.length c ∧ m g = some (.arr T 1 c (intsL σ.V)) ∧ (∀ k, idxA Tryz.prog m 54 vV (.int k j) = some (.elt g 1 j 0)) ∧
      ∀ x : Int, RunQ gr p ns { σ with V := σ.V.set j x } vA vV vO vB FA FV FO FB (m.set g (.arr T 1 c ((intsL σ.V).set j (.int .i64 x)))) ∧ Turned (fun b => b = gr ∨ FA b ∨ FV b ∨ FO b ∨ FB b) (fun b => b = gr ∨ FA b ∨ FV b ∨ FO b ∨ FB b) m (m.set g (.arr T 1 c ((intsL σ.V).set j (.int .i64 x)))) := by
  obtain ⟨T, g, c, hv, hg, hF, hx⟩ := row_at h.rV (leafy_ints _) (i := j) (by simpa [intsL] using hj)
  refine ⟨T, g, c, by rw [hv]; simp [intsL], hg, hx, fun x => ⟨⟨?_, ?_, ?_, ?_, ?_, fun b hb => ?_, h.nA, h.nV, h.nO, h.nB, h.dAV, h.dAO, h.dAB, h.dVO, h.dVB, h.dOB⟩, fun _ h => .inl h, fun b y hb hy => ?_⟩⟩
  · rw [Mem.set_other (by rintro rfl; exact h.nV hF)]; exact h.box
  · exact h.rA.mem fun b hb => Mem.set_other (by rintro rfl; exact h.dAV _ hb hF)
  · rw [hv]
    have e : (intsL σ.V).set j (.int .i64 x) = intsL (σ.V.set j x) := by simp [intsL, List.map_set]
    rw [e]
    refine .own (G := fun _ => False) (set_same _ _ _) (by simp [intsL]) (OwnTs.same fun a ha F => ?_) (fun h => h) (fun b h => h.elim) hF
    obtain ⟨n, _, rfl⟩ := List.mem_map.1 ha
    exact .int _ _
  · exact h.rO.mem fun b hb => Mem.set_other (by rintro rfl; exact h.dVO _ hF hb)
  · exact h.rB.mem fun b hb => Mem.set_other (by rintro rfl; exact h.dVB _ hF hb)
  · rw [set_at]; split
    · simp
    · exact h.dom b hb
  · rw [Mem.set_other (by rintro rfl; exact hb (.inr (.inr (.inl hF))))]; exact hy
end Go.T
namespace Go.T
open Go Go.Proofs
set_option maxRecDepth 10000
set_option maxHeartbeats 1000000
set_option linter.unusedSimpArgs false
set_option linter.unusedVariables false
open Go
/-- Fuel is asked for; nothing is done behind an end. -/
def RS.fuel (σ : RS) : RS := if σ.nd ≠ 0 then σ else σ.burn
theorem Small.fuel {p : Pg} {ns : List ByteArray} {σ : RS} (h : Small p ns σ) : Small p ns σ.fuel := by
  unfold RS.fuel
  split
  · exact h
  · exact h.burn
theorem RunG.fuel {gr : Nat} {p : Pg} {ns : List ByteArray} {σ : RS} {F : Nat → Prop} {m : Mem} (h : RunG gr p ns σ F m) {K : AV → Mem → Prop}
    (hK : ∀ m', RunG gr p ns σ.fuel F m' → Turned F F m m' → K (.bool (decide (σ.fuel.nd = 0))) m') : WCall Tryz.prog 218 [.ptr gr 0] m K := by
  obtain ⟨vA, vV, vO, vB, FA, FV, FO, FB, h1, h2, hF⟩ := id h
  have hgr := h.at.1
  have hb := h1.box
  have hfl : σ.fu ≤ 100000 := by have := h2.B; omega
  unfold speCells at hb
  refine wcall_of Tryz.func218 (by kernel_rfl) rfl (by simp [Tryz.f218]) ?_
  (repeat refine AWp.seq ?_); refine AWp.region noP (by kernel_rfl) ?_
  try simp
  (repeat refine AWp.seq ?_); refine AWp.region noP (by kernel_rfl) ?_
  simp [hb]
  by_cases hn : σ.nd = 0
  · (repeat refine AWp.seq ?_); refine AWp.condF (by simp [hn]) ?_
    refine AWp.skip ?_
    try simp
    (repeat refine AWp.seq ?_); refine AWp.region noP (by kernel_rfl) ?_
    simp [hb]
    have ef : σ.fuel = σ.burn := by unfold RS.fuel; rw [if_neg (fun hc => hc hn)]
    by_cases h0 : σ.fu = 0
    · have e : σ.fuel = { σ with nd := 2 } := by rw [ef]; exact burn_0 h0
      (repeat refine AWp.seq ?_); refine AWp.condT (by simp [h0]) ?_
      (repeat refine AWp.seq ?_); refine AWp.region noP (by kernel_rfl) ?_
      simp [hb]
      (repeat refine AWp.seq ?_); refine AWp.region noP (by kernel_rfl) ?_
      simp
      refine AWp.ret (post_retW rfl ⟨_, _, View.refl _ _, ?_⟩)
      have := hK (m.set gr (.box (speCells p ns vA vV vO vB 2 σ.fu))) ⟨vA, vV, vO, vB, FA, FV, FO, FB, h1.upd (by rw [e]) (by rw [e]) (by rw [e]) (by rw [e]) (by rw [e]; exact set_same _ _ _) fun b hb => Mem.set_other hb, h2.fuel, hF⟩ (Turned.box hgr fun b hb => Mem.set_other hb)
      rw [e] at this
      simpa [speCells] using this
    · have e : σ.fuel = { σ with fu := σ.fu - 1 } := by rw [ef]; exact burn_1 h0
      have hw : IntKind.wrap .i64 ((σ.fu : Int) - 1) = ((σ.fu - 1 : Nat) : Int) := by rw [wrap64 (by omega) (by omega)]; omega
      (repeat refine AWp.seq ?_); refine AWp.condF (by simp; omega) ?_
      refine AWp.skip ?_
      try simp
      (repeat refine AWp.seq ?_); refine AWp.region noP (by kernel_rfl) ?_
      simp [hb, hw]
      (repeat refine AWp.seq ?_); refine AWp.region noP (by kernel_rfl) ?_
      simp
      refine AWp.ret (post_retW rfl ⟨_, _, View.refl _ _, ?_⟩)
      have := hK (m.set gr (.box (speCells p ns vA vV vO vB σ.nd (σ.fu - 1)))) ⟨vA, vV, vO, vB, FA, FV, FO, FB, h1.upd (by rw [e]) (by rw [e]) (by rw [e]) (by rw [e]) (by rw [e]; exact set_same _ _ _) fun b hb => Mem.set_other hb, h2.fuel, hF⟩ (Turned.box hgr fun b hb => Mem.set_other hb)
      rw [e] at this
      simpa [speCells, hn] using this
  · have e : σ.fuel = σ := by unfold RS.fuel; rw [if_pos hn]
    (repeat refine AWp.seq ?_); refine AWp.condT (by simp [hn]) ?_
    (repeat refine AWp.seq ?_); refine AWp.region noP (by kernel_rfl) ?_
    simp
    refine AWp.ret (post_retW rfl ⟨_, _, View.refl _ _, ?_⟩)
    have := hK m (by rw [e]; exact h) (Turned.refl F m)
    rw [e] at this
    simpa [hn] using this
end Go.T
namespace Go.T
open Go Go.Proofs
set_option maxRecDepth 10000
set_option maxHeartbeats 1000000
set_option linter.unusedSimpArgs false
set_option linter.unusedVariables false
open Go
theorem c_l7Name {gr : Nat} {p : Pg} {ns : List ByteArray} {σ : RS} {vA vV vO vB : AV} {FA FV FO FB : Nat → Prop} {m : Mem} (h : RunQ gr p ns σ vA vV vO vB FA FV FO FB m) (sm : Small p ns σ) (s : ByteArray) {K : AV → Mem → Prop} (hK : K (.int .i64 (σ.nm ns s)) m) : WCall Tryz.prog 324 [.ptr gr 0, .str s] m K := by
  have hb := h.box
  obtain ⟨fB, eB, rfl, hBe⟩ := h.rB
  unfold speCells at hb
  have hlB : σ.B.length ≤ 1048576 := by have := sm.B; omega
  have hwB : IntKind.wrap .i64 ((σ.B.length : Int) - 1) = (σ.B.length : Int) - 1 := wrap64 (by omega) (by omega)
  refine wcall_of Tryz.func324 (by kernel_rfl) rfl (by simp [Tryz.f324]) ?_
  (repeat refine AWp.seq ?_); refine AWp.region noP (by kernel_rfl) ?_
  try simp
  (repeat refine AWp.seq ?_); refine AWp.region noP (by kernel_rfl) ?_
  simp [hb, bndL, hwB]
  refine AWp.cutA (fun st => bnd σ.B s = none ∧ st.slots 0 = .ptr gr 0 ∧ st.slots 1 = .str s ∧ st.mem = m) ?_ ?_
  · refine AWp.block (AWp.rounds (fun q st => ∃ i : Nat, q = i ∧ i ≤ σ.B.length ∧ bnd σ.B s = bnd (σ.B.take i) s ∧ st.slots 0 = .ptr gr 0 ∧ st.slots 1 = .str s ∧ st.slots 5 = .int .i64 ((i : Int) - 1) ∧ st.mem = m) σ.B.length ⟨σ.B.length, rfl, by omega, by simp, by simp, by simp, by simp, by simp⟩ ?_)
    rintro RR q st hRR ⟨i, rfl, hi, hr, s0, s1, s5, sm0⟩
    cases q with
    | zero =>
      (repeat refine AWp.seq ?_); refine AWp.region noP (by kernel_rfl) ?_
      simp [s5]
      (repeat refine AWp.seq ?_); refine AWp.condF (by simp) ?_
      refine AWp.exit ?_
      have h0 : bnd σ.B s = none := by rw [hr]; rfl
      exact ⟨h0, by simp [s0], by simp [s1], by simp [sm0]⟩
    | succ i =>
      have hlt : i < σ.B.length := by omega
      have he2 : eB = 2 := hBe
      have hx : ∀ m, idxA Tryz.prog m 159 (.lst fB eB (σ.B.map bAv)) (.int .i64 i) = some (.ref [.str σ.B[i].1, .int .i64 σ.B[i].2]) := fun m => by
        rw [he2]
        exact idx (y := bAv σ.B[i]) es_159 (by simp [List.getElem?_eq_getElem hlt])
      have hw1 : IntKind.wrap .i64 ((i : Int) - 1) = (i : Int) - 1 := wrap64 (by omega) (by omega)
      have ht := bnd_take σ.B s i hlt
      unfold bndL at hb
      (repeat refine AWp.seq ?_); refine AWp.region noP (by kernel_rfl) ?_
      simp [s5]
      (repeat refine AWp.seq ?_); refine AWp.condT (by simp) ?_
      refine AWp.skip ?_
      try simp
      (repeat refine AWp.seq ?_); refine AWp.block ?_
      (repeat refine AWp.seq ?_); refine AWp.region noP (by kernel_rfl) ?_
      simp [s0, s1, s5, sm0, hb, hx]
      by_cases he : σ.B[i].1 = s
      · (repeat refine AWp.seq ?_); refine AWp.condT (by simp [he]) ?_
        (repeat refine AWp.seq ?_); refine AWp.region noP (by kernel_rfl) ?_
        simp [s0, s5, sm0, hb, hx]
        refine AWp.ret (post_retW rfl ⟨_, _, View.refl _ _, ?_⟩)
        have e : σ.nm ns s = σ.B[i].2 := by simp [RS.nm, nameR, hr, ht, he]
        rw [e] at hK
        simpa [sm0] using hK
      · (repeat refine AWp.seq ?_); refine AWp.condF (by simp [he]) ?_
        refine AWp.skip ?_
        try simp
        (repeat refine AWp.seq ?_); refine AWp.region noP (by kernel_rfl) ?_
        simp [s5, hw1]
        exact hRR _ i (by omega) ⟨i, rfl, by omega, by rw [hr, ht]; simp [he], by simp [s0], by simp [s1], by simp, by simp [sm0]⟩
  rintro st ⟨hn, s0, s1, sm0⟩
  unfold bndL at hb
  have hns := sm.ns
  have hV := sm.V
  (repeat refine AWp.seq ?_); refine AWp.region noP (by kernel_rfl) ?_
  simp [s0, s1, sm0, hb]
  refine aop_call _ _ _ _ _ _ _ _ (c_l7At ns s (by omega)) ?_
  simp
  have hw : IntKind.wrap .i64 ((σ.V.length : Int) - 1) = (σ.V.length : Int) - 1 := wrap64 (by omega) (by omega)
  have hl := row_len h.rV (leafy_ints _)
  simp only [intsL, List.length_map] at hl
  (repeat refine AWp.seq ?_); refine AWp.region noP (by kernel_rfl) ?_
  simp [s0, sm0, hb, hl, hw]
  refine aop_call _ _ _ _ _ _ _ _ (c_l1In (at_ ns s) 0 ((σ.V.length : Int) - 1)) ?_
  try simp
  by_cases hin : 0 ≤ at_ ns s ∧ at_ ns s < σ.V.length
  · have hi2 : inR (at_ ns s) 0 ((σ.V.length : Int) - 1) = true := by simp [inR]; omega
    have e : σ.nm ns s = σ.V.getD (at_ ns s).toNat 0 := by simp [RS.nm, nameR, hn, hin]
    obtain ⟨j, hj⟩ := Int.eq_ofNat_of_zero_le hin.1
    have hjl : j < σ.V.length := by omega
    obtain ⟨T, g, c, hv, hg, hF, hx⟩ := row_at h.rV (leafy_ints _) (i := j) (by simpa [intsL] using hjl)
    have hy : (intsL σ.V)[j]? = some (.int .i64 σ.V[j]) := by simp [intsL, List.getElem?_eq_getElem hjl]
    have e2 : σ.V.getD (at_ ns s).toNat 0 = σ.V[j] := by
      rw [hj]
      simp [List.getD_eq_getElem?_getD, List.getElem?_eq_getElem hjl]
    rw [e, e2] at hK
    simp [hi2]
    (repeat refine AWp.seq ?_); refine AWp.condT (by simp) ?_
    (repeat refine AWp.seq ?_); refine AWp.region noP (by kernel_rfl) ?_
    rw [hj]
    simp [s0, sm0, hb, hx, hg, hy]
    refine AWp.ret (post_retW rfl ⟨_, _, View.refl _ _, ?_⟩)
    simpa [sm0] using hK
  · have hi2 : inR (at_ ns s) 0 ((σ.V.length : Int) - 1) = false := by simp [inR]; omega
    have e : σ.nm ns s = 0 := by simp [RS.nm, nameR, hn, hin]
    rw [e] at hK
    simp [hi2]
    (repeat refine AWp.seq ?_); refine AWp.condF (by simp) ?_
    refine AWp.skip ?_
    try simp
    (repeat refine AWp.seq ?_); refine AWp.region noP (by kernel_rfl) ?_
    simp
    refine AWp.ret (post_retW rfl ⟨_, _, View.refl _ _, ?_⟩)
    simpa [sm0] using hK
end Go.T
namespace Go.T
open Go Go.Proofs
set_option maxRecDepth 10000
set_option maxHeartbeats 1000000
set_option linter.unusedSimpArgs false
set_option linter.unusedVariables false
open Go
def RunB (gr : Nat) (p : Pg) (ns : List ByteArray) (σ : RS) (m : Mem) : Prop := ∃ vA vV vO vB FA FV FO FB, RunQ gr p ns σ vA vV vO vB FA FV FO FB m ∧ Small p ns σ
theorem c_l7Exp0 (k n : Int) (s : ByteArray) (l : List Ex) (hp : partsOk k n s l.length = true) (hx : ∀ x ∈ l, EvC 221 Tryz.prog RunB x) : EvC 221 Tryz.prog RunB (.mk k n s l) := by
  intro gr p ns σ m hH K hK
  obtain ⟨vA, vV, vO, vB, FA, FV, FO, FB, h, sm⟩ := id hH
  have hbx := h.box
  unfold speCells at hbx
  unfold Ex.av
  rw [Ex.cells_mk]
  refine wcall_of Tryz.func221 (by kernel_rfl) rfl (by simp [Tryz.f221]) ?_
  (repeat refine AWp.seq ?_); refine AWp.region noP (by kernel_rfl) ?_
  simp
  intro g hg
  refine AWp.sees (Sees.view (t := 3) (View.freezeB (g := g) (cs := [.int .i64 k, .int .i64 n, .str s, .lst false 4 (l.map Ex.av)]) (by simp [set_at]))) ?_
  refine AWp.gen (fun st => st.slots 0 = .ptr gr 0 ∧ st.slots 3 = .ref [.int .i64 k, .int .i64 n, .str s, .lst false 4 (l.map Ex.av)] ∧ st.mem = m) ⟨by simp, by simp, by simp [set_del hg]⟩ ?_
  rintro st ⟨s0, s3, sm0⟩
  have hcase : k = 1 ∨ k = 2 ∨ (k = 3 ∧ l.length = 1) ∨ (k ≠ 1 ∧ k ≠ 2 ∧ k ≠ 3 ∧ l.length = 2) := by
    unfold partsOk at hp
    by_cases k1 : k = 1
    · exact .inl k1
    · by_cases k2 : k = 2
      · exact .inr (.inl k2)
      · rw [if_neg k1, if_neg k2] at hp
        by_cases k3 : k = 3
        · rw [if_pos k3] at hp; simp at hp; exact .inr (.inr (.inl ⟨k3, by have := hp.2; omega⟩))
        · rw [if_neg k3] at hp; simp at hp; exact .inr (.inr (.inr ⟨k1, k2, k3, by have := hp.2; omega⟩))
  refine AWp.seq ?_
  refine AWp.cutA (fun st => st.slots 0 = .ptr gr 0 ∧ st.slots 3 = .ref [.int .i64 k, .int .i64 n, .str s, .lst false 4 (l.map Ex.av)] ∧ st.mem = m ∧ k ≠ 1 ∧ k ≠ 2 ∧ k ≠ 3 ∧ l.length = 2) ?_ ?_
  · (repeat refine AWp.seq ?_); refine AWp.block ?_
    (repeat refine AWp.seq ?_); refine AWp.region noP (by kernel_rfl) ?_
    simp [s3]
    by_cases k1 : k = 1
    · (repeat refine AWp.seq ?_); refine AWp.condT (by simp [k1]) ?_
      subst k1
      rw [ev_1] at hK
      (repeat refine AWp.seq ?_); refine AWp.region noP (by kernel_rfl) ?_
      simp [s3]
      exact AWp.ret ⟨[.int .i64 (n), .bool true], _, m, by simp [Tryz.f221, resA], by simp [sm0]; exact View.refl _ _, hK⟩
    (repeat refine AWp.seq ?_); refine AWp.condF (by simp [k1]) ?_
    (repeat refine AWp.seq ?_); refine AWp.region noP (by kernel_rfl) ?_
    simp [s3]
    by_cases k2 : k = 2
    · (repeat refine AWp.seq ?_); refine AWp.condT (by simp [k2]) ?_
      subst k2
      rw [ev_2] at hK
      (repeat refine AWp.seq ?_); refine AWp.region noP (by kernel_rfl) ?_
      simp [s3, s0]
      refine aop_wcall _ _ _ _ _ _ _ _ rfl (eval_func _ _) ?_
      simp [sm0]
      refine c_l7Name h sm s ?_
      try simp
      exact AWp.ret ⟨[.int .i64 (σ.nm ns s), .bool true], _, m, by simp [Tryz.f221, resA], by simp [sm0]; exact View.refl _ _, hK⟩
    (repeat refine AWp.seq ?_); refine AWp.condF (by simp [k2]) ?_
    by_cases k3 : k = 3
    · have hl1 : l.length = 1 := by omega
      match l, hl1 with
      | [x], _ =>
      have hx0 : ∀ m, idxA Tryz.prog m 41 (.lst false 4 [x.av]) (.int .i64 0) = some (.ref x.cells) := fun m => idx (i := 0) (y := x.av) es_41 (by simp)
      have cxE : ∀ K : AV → Mem → Prop, K (.tup [.int .i64 ((σ.ev p.arrNames ns x).getD 0), .bool (σ.ev p.arrNames ns x).isSome]) m → WCall Tryz.prog 221 [.ptr gr 0, .agg x.cells] m K := hx x (by simp) gr p ns σ m hH
      rw [ev_3 _ _ _ _ _ _ k1 k2] at hK
      simp only [List.map_cons, List.map_nil] at s3
      (repeat refine AWp.seq ?_); refine AWp.region noP (by kernel_rfl) ?_
      simp [s3, k3]
      (repeat refine AWp.seq ?_); refine AWp.condT (by simp) ?_
      (repeat refine AWp.seq ?_); refine AWp.region noP (by kernel_rfl) ?_
      simp [s0, s3, sm0, hx0]
      refine aop_wcall _ _ _ _ _ _ _ _ rfl (eval_func _ _) ?_
      simp [sm0]
      refine cxE _ ?_
      simp
      generalize hrx : σ.ev p.arrNames ns x = rx at *
      refine AWp.gen (fun st => st.slots 0 = .ptr gr 0 ∧ st.slots 3 = .ref [.int .i64 k, .int .i64 n, .str s, .lst false 4 [x.av]] ∧ st.slots 6 = .int .i64 (rx.getD 0) ∧ st.slots 7 = .bool rx.isSome ∧ st.mem = m) ⟨by simp [s0], by simp [s3], by simp, by simp, by simp⟩ ?_
      clear s0 s3 sm0
      rintro st ⟨s0, s3, s6, s7, sm0⟩
      have ca := c_spec_ArrAt p s sm.arrs
      unfold Pg.av Pg.cells at ca
      (repeat refine AWp.seq ?_); refine AWp.region allP (by kernel_rfl) ?_
      simp [s0, s3, sm0, hbx]
      refine aop_call' ca ?_
      simp
      refine AWp.gen (fun st => st.slots 0 = .ptr gr 0 ∧ st.slots 6 = .int .i64 (rx.getD 0) ∧ st.slots 7 = .bool rx.isSome ∧ st.slots 8 = .int .i64 (at_ p.arrNames s) ∧ st.mem = m) ⟨by simp [s0], by simp [s6], by simp [s7], by simp, by simp [sm0]⟩ ?_
      clear s0 s3 s6 s7 sm0
      rintro st ⟨s0, s6, s7, s8, sm0⟩
      cases rx with
      | none =>
        (repeat refine AWp.seq ?_); refine AWp.region noP (by kernel_rfl) ?_
        simp [s7]
        (repeat refine AWp.seq ?_); refine AWp.condT (by simp) ?_
        (repeat refine AWp.seq ?_); refine AWp.region noP (by kernel_rfl) ?_
        simp
        exact AWp.ret ⟨[.int .i64 (0), .bool false], _, m, by simp [Tryz.f221, resA], by simp [sm0]; exact View.refl _ _, hK⟩
      | some a =>
      simp at s6 s7
      simp only [Option.bind_some] at hK
      have hA := sm.A
      have hw : IntKind.wrap .i64 ((σ.A.length : Int) - 1) = (σ.A.length : Int) - 1 := wrap64 (by omega) (by omega)
      have hl := rows_len h.rA
      simp only [rowsL, List.length_map] at hl
      (repeat refine AWp.seq ?_); refine AWp.region noP (by kernel_rfl) ?_
      simp [s7, s8, s0, sm0, hbx, hl, hw]
      refine aop_call _ _ _ _ _ _ _ _ (c_l1In (at_ p.arrNames s) 0 ((σ.A.length : Int) - 1)) ?_
      try simp
      by_cases hin : 0 ≤ at_ p.arrNames s ∧ at_ p.arrNames s < σ.A.length
      · have hi2 : inR (at_ p.arrNames s) 0 ((σ.A.length : Int) - 1) = true := by simp [inR]; omega
        obtain ⟨kk, hk⟩ := Int.eq_ofNat_of_zero_le hin.1
        have hkl : kk < σ.A.length := by omega
        obtain ⟨gA, c, ys, T, y, q1, q2, q3, q4, q5, q6, q7⟩ := h.row hkl
        have hxA : ∀ kx, idxA Tryz.prog m 53 vA (.int kx (at_ p.arrNames s)) = some (.elt gA 1 kk 0) := fun kx => by
          rw [q1, hk]
          have : kk < ys.length := by omega
          simp [idxA, es_53, q2, this]
        have hrl := sm.rows _ (List.getElem_mem hkl)
        have hw2 : IntKind.wrap .i64 ((σ.A[kk].length : Int) - 1) = (σ.A[kk].length : Int) - 1 := wrap64 (by omega) (by omega)
        have hg : σ.A[kk]? = some σ.A[kk] := List.getElem?_eq_getElem hkl
        have hd : σ.A.getD kk [] = σ.A[kk] := by rw [List.getD_eq_getElem?_getD, hg]; rfl
        simp [hi2, s0, s6, s8, sm0, hbx, hxA, q2, q4, q6, q5, hw2]
        refine aop_call _ _ _ _ _ _ _ _ (c_l1In a 0 ((σ.A[kk].length : Int) - 1)) ?_
        try simp
        by_cases hj : 0 ≤ a ∧ a < σ.A[kk].length
        · have hi3 : inR a 0 ((σ.A[kk].length : Int) - 1) = true := by simp [inR]; omega
          obtain ⟨j, rfl⟩ := Int.eq_ofNat_of_zero_le hj.1
          have hjl : j < σ.A[kk].length := by omega
          obtain ⟨Tg, g, cg, r1, r2, r3, r4⟩ := q7 j hjl
          have hpl : placeR p.arrNames σ.A s (j : Int) = some (kk, j) := by
            unfold placeR
            rw [hk]
            simp only [Int.toNat_natCast, hd]
            rw [if_pos ⟨by omega, by omega, by omega, by omega⟩]
          have hy : (intsL σ.A[kk])[j]? = some (.int .i64 σ.A[kk][j]) := by simp [intsL, List.getElem?_eq_getElem hjl]
          have e : σ.pl p.arrNames s (j : Int) = some σ.A[kk][j] := by
            unfold RS.pl
            rw [hpl]
            simp [List.getD_eq_getElem?_getD, hg, List.getElem?_eq_getElem hjl]
          rw [e] at hK
          simp [hi3]
          (repeat refine AWp.seq ?_); refine AWp.condF (by simp) ?_
          refine AWp.skip ?_
          try simp
          (repeat refine AWp.seq ?_); refine AWp.region noP (by kernel_rfl) ?_
          simp [s0, s6, s8, sm0, hbx, hxA, q2, q4, q6, r3, r1, hy]
          exact AWp.ret ⟨[.int .i64 (σ.A[kk][j]), .bool true], _, m, by simp [Tryz.f221, resA], by simp [sm0]; exact View.refl _ _, hK⟩
        · have hi3 : inR a 0 ((σ.A[kk].length : Int) - 1) = false := by simp [inR]; omega
          have hpl : placeR p.arrNames σ.A s a = none := by
            unfold placeR
            rw [hk]
            simp only [Int.toNat_natCast, hd]
            rw [if_neg (fun hq => hj ⟨hq.2.2.1, hq.2.2.2⟩)]
          have e : σ.pl p.arrNames s a = none := by unfold RS.pl; rw [hpl]; rfl
          rw [e] at hK
          simp [hi3]
          (repeat refine AWp.seq ?_); refine AWp.condT (by simp) ?_
          (repeat refine AWp.seq ?_); refine AWp.region noP (by kernel_rfl) ?_
          simp
          exact AWp.ret ⟨[.int .i64 (0), .bool false], _, m, by simp [Tryz.f221, resA], by simp [sm0]; exact View.refl _ _, hK⟩
      · have hi2 : inR (at_ p.arrNames s) 0 ((σ.A.length : Int) - 1) = false := by simp [inR]; omega
        have hpl : placeR p.arrNames σ.A s a = none := by
          unfold placeR
          rw [if_neg (fun hq => hin ⟨hq.1, hq.2.1⟩)]
        have e : σ.pl p.arrNames s a = none := by unfold RS.pl; rw [hpl]; rfl
        rw [e] at hK
        simp [hi2]
        (repeat refine AWp.seq ?_); refine AWp.condT (by simp) ?_
        (repeat refine AWp.seq ?_); refine AWp.region noP (by kernel_rfl) ?_
        simp
        exact AWp.ret ⟨[.int .i64 (0), .bool false], _, m, by simp [Tryz.f221, resA], by simp [sm0]; exact View.refl _ _, hK⟩
    · have hl2 : l.length = 2 := by omega
      (repeat refine AWp.seq ?_); refine AWp.region noP (by kernel_rfl) ?_
      simp [s3, k3]
      (repeat refine AWp.seq ?_); refine AWp.condF (by simp) ?_
      (repeat refine AWp.seq ?_); refine AWp.region noP (by kernel_rfl) ?_
      simp [s3, hl2]
      (repeat refine AWp.seq ?_); refine AWp.condF (by simp) ?_
      refine AWp.skip ?_
      first | exact ⟨by simp [s0], by simp [s3], by simp [sm0], k1, k2⟩ | exact ⟨by simp [s0], by simp [s3], by simp [sm0], k1, k2, k3, hl2⟩
  clear s0 s3 sm0
  rintro st ⟨s0, s3, sm0, k1, k2, k3, hl2⟩
  match l, hl2 with
  | [x, y], _ =>
  rw [ev_4 _ _ _ _ _ _ _ k1 k2] at hK
  have hx0 : ∀ m, idxA Tryz.prog m 41 (.lst false 4 [x.av, y.av]) (.int .i64 0) = some (.ref x.cells) := fun m => idx (i := 0) (y := x.av) es_41 (by simp)
  have hy0 : ∀ m, idxA Tryz.prog m 41 (.lst false 4 [x.av, y.av]) (.int .i64 1) = some (.ref y.cells) := fun m => idx (i := 1) (y := y.av) es_41 (by simp)
  have cxE : ∀ K : AV → Mem → Prop, K (.tup [.int .i64 ((σ.ev p.arrNames ns x).getD 0), .bool (σ.ev p.arrNames ns x).isSome]) m → WCall Tryz.prog 221 [.ptr gr 0, .agg x.cells] m K := hx x (by simp) gr p ns σ m hH
  have cyE : ∀ K : AV → Mem → Prop, K (.tup [.int .i64 ((σ.ev p.arrNames ns y).getD 0), .bool (σ.ev p.arrNames ns y).isSome]) m → WCall Tryz.prog 221 [.ptr gr 0, .agg y.cells] m K := hx y (by simp) gr p ns σ m hH
  simp only [List.map_cons, List.map_nil] at s3
  (repeat refine AWp.seq ?_); refine AWp.region noP (by kernel_rfl) ?_
  simp [s0, s3, sm0, hx0]
  refine aop_wcall _ _ _ _ _ _ _ _ rfl (eval_func _ _) ?_
  simp [sm0]
  refine cxE _ ?_
  simp
  generalize hrx : σ.ev p.arrNames ns x = rx at *
  refine AWp.gen (fun st => st.slots 0 = .ptr gr 0 ∧ st.slots 3 = .ref [.int .i64 k, .int .i64 n, .str s, .lst false 4 [x.av, y.av]] ∧ st.slots 9 = .int .i64 (rx.getD 0) ∧ st.slots 10 = .bool rx.isSome ∧ st.mem = m) ⟨by simp [s0], by simp [s3], by simp, by simp, by simp⟩ ?_
  clear s0 s3 sm0
  rintro st ⟨s0, s3, s9, s10, sm0⟩
  (repeat refine AWp.seq ?_); refine AWp.region noP (by kernel_rfl) ?_
  simp [s10]
  cases rx with
  | none =>
    (repeat refine AWp.seq ?_); refine AWp.condT (by simp) ?_
    (repeat refine AWp.seq ?_); refine AWp.region noP (by kernel_rfl) ?_
    simp
    exact AWp.ret ⟨[.int .i64 (0), .bool false], _, m, by simp [Tryz.f221, resA], by simp [sm0]; exact View.refl _ _, hK⟩
  | some a =>
  (repeat refine AWp.seq ?_); refine AWp.condF (by simp) ?_
  refine AWp.skip ?_
  try simp
  simp at s9
  (repeat refine AWp.seq ?_); refine AWp.region noP (by kernel_rfl) ?_
  simp [s0, s3, sm0, hy0]
  refine aop_wcall _ _ _ _ _ _ _ _ rfl (eval_func _ _) ?_
  simp [sm0]
  refine cyE _ ?_
  simp
  generalize hry : σ.ev p.arrNames ns y = ry at *
  refine AWp.gen (fun st => st.slots 0 = .ptr gr 0 ∧ st.slots 3 = .ref [.int .i64 k, .int .i64 n, .str s, .lst false 4 [x.av, y.av]] ∧ st.slots 9 = .int .i64 a ∧ st.slots 11 = .int .i64 (ry.getD 0) ∧ st.slots 12 = .bool ry.isSome ∧ st.mem = m) ⟨by simp [s0], by simp [s3], by simp [s9], by simp, by simp, by simp⟩ ?_
  clear s0 s3 s9 s10 sm0
  rintro st ⟨s0, s3, s9, s11, s12, sm0⟩
  (repeat refine AWp.seq ?_); refine AWp.region noP (by kernel_rfl) ?_
  simp [s12]
  cases ry with
  | none =>
    (repeat refine AWp.seq ?_); refine AWp.condT (by simp) ?_
    (repeat refine AWp.seq ?_); refine AWp.region noP (by kernel_rfl) ?_
    simp
    exact AWp.ret ⟨[.int .i64 (0), .bool false], _, m, by simp [Tryz.f221, resA], by simp [sm0]; exact View.refl _ _, hK⟩
  | some b =>
    (repeat refine AWp.seq ?_); refine AWp.condF (by simp) ?_
    refine AWp.skip ?_
    try simp
    simp at s11
    (repeat refine AWp.seq ?_); refine AWp.region noP (by kernel_rfl) ?_
    simp [s3, s9, s11]
    refine aop_call _ _ _ _ _ _ _ _ (c_l7Op k a b) ?_
    simp
    exact AWp.ret ⟨[.int .i64 (opR k a b), .bool true], _, m, by simp [Tryz.f221, resA], by simp [sm0]; exact View.refl _ _, hK⟩
theorem c_l7Exp (x : Ex) : ∀ d, x.good d = true → EvC 221 Tryz.prog RunB x := by
  induction x using Ex.ind with | h k n s l ih =>
  intro d hd
  unfold Ex.good at hd
  simp only [Bool.and_eq_true] at hd
  refine c_l7Exp0 k n s l hd.1.2 fun x hx => ih x hx (d + 1) ?_
  have : ∀ (l : List Ex) (d : Nat), Ex.goods l d = true → ∀ x ∈ l, x.good d = true := by
    intro l d
    induction l with
    | nil => intro _ x hx; cases hx
    | cons y l ih =>
      intro h x hx
      unfold Ex.goods at h
      simp only [Bool.and_eq_true] at h
      rcases List.mem_cons.1 hx with rfl | hx
      · exact h.1
      · exact ih h.2 x hx
  exact this l _ hd.2 x hx
end Go.T
namespace Go.T
open Go Go.Proofs
set_option maxRecDepth 10000
set_option maxHeartbeats 1000000
set_option linter.unusedSimpArgs false
set_option linter.unusedVariables false
open Go
theorem c_l7Put (k : Int) (s : ByteArray) (a e lo hi : Ex) (b : List Sm) (k3 : k ≠ 3) (k2 : k = 2) (ha : a.good 1 = true) (he : e.good 1 = true) (body : RS → RS)
    {gr : Nat} {p : Pg} {ns : List ByteArray} {σ : RS} {F : Nat → Prop} {m : Mem} (hR : RunG gr p ns σ F m) {K : AV → Mem → Prop}
    (hK : ∀ m', RunG gr p ns (doneR p.arrNames ns body (.mk k s a e lo hi b) σ) F m' → Turned F F m m' → K (.tup []) m') :
    WCall Tryz.prog 220 [.ptr gr 0, .agg (Sm.mk k s a e lo hi b).cells] m K := by
  have hgr := hR.at.1
  obtain ⟨vA, vV, vO, vB, FA, FV, FO, FB, h, sm, hFe⟩ := id hR
  have hB : RunB gr p ns σ m := ⟨vA, vV, vO, vB, FA, FV, FO, FB, h, sm⟩
  have hbx := h.box
  unfold speCells at hbx
  rw [doneR_put k3 k2] at hK
  have c1 : ∀ K : AV → Mem → Prop, K (.tup [.int .i64 ((σ.ev p.arrNames ns a).getD 0), .bool (σ.ev p.arrNames ns a).isSome]) m → WCall Tryz.prog 221 [.ptr gr 0, .agg a.cells] m K := c_l7Exp a 1 ha gr p ns σ m hB
  have c2 : ∀ K : AV → Mem → Prop, K (.tup [.int .i64 ((σ.ev p.arrNames ns e).getD 0), .bool (σ.ev p.arrNames ns e).isSome]) m → WCall Tryz.prog 221 [.ptr gr 0, .agg e.cells] m K := c_l7Exp e 1 he gr p ns σ m hB
  refine wcall_of Tryz.func220 (by kernel_rfl) rfl (by simp [Tryz.f220]) ?_
  (repeat refine AWp.seq ?_); refine AWp.region noP (by kernel_rfl) ?_
  simp
  intro g hg
  refine AWp.sees (Sees.view (t := 3) (View.freezeB (g := g) (cs := (Sm.mk k s a e lo hi b).cells) (by simp [set_at]))) ?_
  refine AWp.gen (fun st => st.slots 0 = .ptr gr 0 ∧ st.slots 3 = .ref (Sm.mk k s a e lo hi b).cells ∧ st.mem = m) ⟨by simp, by simp, by simp [set_del hg]⟩ ?_
  rw [Sm.cells_mk]
  rintro st ⟨s0, s3, sm0⟩
  (repeat refine AWp.seq ?_); refine AWp.region noP (by kernel_rfl) ?_
  simp [s0, s3]
  refine aop_wcall _ _ _ _ _ _ _ _ rfl (eval_func _ _) ?_
  simp [sm0]
  refine c1 _ ?_
  simp
  generalize hra : σ.ev p.arrNames ns a = ra at *
  refine AWp.gen (fun st => st.slots 0 = .ptr gr 0 ∧ st.slots 3 = .ref (.int .i64 k :: .str s :: (a.cells ++ (e.cells ++ (lo.cells ++ (hi.cells ++ [.lst false 19 (b.map Sm.av)]))))) ∧ st.slots 4 = .int .i64 (ra.getD 0) ∧ st.slots 5 = .bool ra.isSome ∧ st.mem = m) ⟨by simp [s0], by simp [s3], by simp, by simp, by simp⟩ ?_
  clear s0 s3 sm0
  rintro st ⟨s0, s3, s4, s5, sm0⟩
  (repeat refine AWp.seq ?_); refine AWp.region noP (by kernel_rfl) ?_
  simp
  (repeat refine AWp.seq ?_); refine AWp.region noP (by kernel_rfl) ?_
  simp [s5]
  generalize hre : σ.ev p.arrNames ns e = re at *
  refine AWp.cutA (fun st => st.slots 0 = .ptr gr 0 ∧ st.slots 3 = .ref (.int .i64 k :: .str s :: (a.cells ++ (e.cells ++ (lo.cells ++ (hi.cells ++ [.lst false 19 (b.map Sm.av)]))))) ∧ st.slots 4 = .int .i64 (ra.getD 0) ∧ st.slots 6 = .int .i64 ((ra.bind fun _ => re).getD 0) ∧ st.slots 7 = .bool (ra.bind fun _ => re).isSome ∧ st.mem = m) ?_ ?_
  · cases ra with
    | none =>
      refine AWp.condF (by simp) ?_
      refine AWp.skip ?_
      exact ⟨by simp [s0], by simp [s3], by simp [s4], by simp, by simp, by simp [sm0]⟩
    | some i =>
      refine AWp.condT (by simp) ?_
      (repeat refine AWp.seq ?_); refine AWp.region noP (by kernel_rfl) ?_
      simp [s0, s3, sm0]
      refine aop_wcall _ _ _ _ _ _ _ _ rfl (eval_func _ _) ?_
      simp [sm0]
      refine c2 _ ?_
      simp [s0, s3, s4]
  clear s0 s3 s4 s5 sm0
  rintro st ⟨s0, s3, s4, s6, s7, sm0⟩
  generalize hq : (ra.bind fun _ => re) = q at *
  have ca := c_spec_ArrAt p s sm.arrs
  unfold Pg.av Pg.cells at ca
  (repeat refine AWp.seq ?_); refine AWp.region allP (by kernel_rfl) ?_
  simp [s0, s3, sm0, hbx]
  refine aop_call' ca ?_
  simp
  refine AWp.gen (fun st => st.slots 0 = .ptr gr 0 ∧ st.slots 4 = .int .i64 (ra.getD 0) ∧ st.slots 6 = .int .i64 (q.getD 0) ∧ st.slots 7 = .bool q.isSome ∧ st.slots 8 = .int .i64 (at_ p.arrNames s) ∧ st.mem = m) ⟨by simp [s0], by simp [s4], by simp [s6], by simp [s7], by simp, by simp [sm0]⟩ ?_
  clear s0 s3 s4 s6 s7 sm0
  rintro st ⟨s0, s4, s6, s7, s8, sm0⟩
  have trap : ∀ st : St, st.mem = m.set gr (.box (speCells p ns vA vV vO vB 1 σ.fu)) → RunG gr p ns σ.trap F st.mem ∧ Turned F F m st.mem := fun st em => by
    rw [em]
    exact ⟨⟨vA, vV, vO, vB, FA, FV, FO, FB, h.upd rfl rfl rfl rfl (σ' := σ.trap) (set_same _ _ _) fun b hb => Mem.set_other hb, ⟨sm.an, sm.vn, sm.arrs, sm.ns, sm.A, sm.V, sm.B, sm.O, sm.rows⟩, hFe⟩, Turned.box hgr fun b hb => Mem.set_other hb⟩
  have hKt : q = none → ∀ m', RunG gr p ns σ.trap F m' → Turned F F m m' → K (.tup []) m' := by
    intro e
    rw [e] at hq
    cases ra with
    | none => exact hK
    | some i =>
      cases re with
      | none => exact hK
      | some n => simp at hq
  cases q with
  | none =>
    (repeat refine AWp.seq ?_); refine AWp.region noP (by kernel_rfl) ?_
    simp [s7]
    (repeat refine AWp.seq ?_); refine AWp.condT (by simp) ?_
    (repeat refine AWp.seq ?_); refine AWp.region noP (by kernel_rfl) ?_
    simp [s0, sm0, hbx]
    refine AWp.ret (post_ret0 rfl ?_)
    have := trap ⟨st.slots, m.set gr (.box (speCells p ns vA vV vO vB 1 σ.fu))⟩ rfl
    simpa [speCells] using hKt rfl _ this.1 this.2
  | some n =>
  obtain ⟨i, rfl, rfl⟩ := Option.bind_eq_some_iff.1 hq
  simp at s4 s6 s7
  clear hKt hq
  have hKt : placeR p.arrNames σ.A s i = none → ∀ m', RunG gr p ns σ.trap F m' → Turned F F m m' → K (.tup []) m' := fun e => by
    simp only [e] at hK
    exact hK
  have hA := sm.A
  by_cases hneg : at_ p.arrNames s < 0
  · have hpl : placeR p.arrNames σ.A s i = none := by
      unfold placeR
      rw [if_neg (fun hq => by have := hq.1; omega)]
    (repeat refine AWp.seq ?_); refine AWp.region noP (by kernel_rfl) ?_
    simp [s7, s8, hneg]
    (repeat refine AWp.seq ?_); refine AWp.condT (by simp) ?_
    (repeat refine AWp.seq ?_); refine AWp.region noP (by kernel_rfl) ?_
    simp [s0, sm0, hbx]
    refine AWp.ret (post_ret0 rfl ?_)
    have := trap ⟨st.slots, m.set gr (.box (speCells p ns vA vV vO vB 1 σ.fu))⟩ rfl
    simpa [speCells] using hKt hpl _ this.1 this.2
  have hkl0 : at_ p.arrNames s < σ.A.length := by
    rw [sm.an]
    rcases idxAt_lt s p.arrNames 0 with h | ⟨h, _⟩
    · have := h.2; unfold at_; simp [Pg.arrNames] at this ⊢; omega
    · unfold at_ at hneg; omega
  obtain ⟨kk, hk⟩ := Int.eq_ofNat_of_zero_le (Int.not_lt.1 hneg)
  have hkl : kk < σ.A.length := by omega
  obtain ⟨gA, c, ys, T, y, q1, q2, q3, q4, q5, q6, q7⟩ := h.row hkl
  have hxA : ∀ kx, idxA Tryz.prog m 53 vA (.int kx (at_ p.arrNames s)) = some (.elt gA 1 kk 0) := fun kx => by
    rw [q1, hk]
    have : kk < ys.length := by omega
    simp [idxA, es_53, q2, this]
  have hrl := sm.rows _ (List.getElem_mem hkl)
  have hw2 : IntKind.wrap .i64 ((σ.A[kk].length : Int) - 1) = (σ.A[kk].length : Int) - 1 := wrap64 (by omega) (by omega)
  have hg : σ.A[kk]? = some σ.A[kk] := List.getElem?_eq_getElem hkl
  have hd : σ.A.getD kk [] = σ.A[kk] := by rw [List.getD_eq_getElem?_getD, hg]; rfl
  (repeat refine AWp.seq ?_); refine AWp.region noP (by kernel_rfl) ?_
  simp [s7, s8, hneg, s4, s0, sm0, hbx, hxA, q2, q4, q6, q5, hw2]
  refine aop_call _ _ _ _ _ _ _ _ (c_l1In i 0 ((σ.A[kk].length : Int) - 1)) ?_
  try simp
  by_cases hj : 0 ≤ i ∧ i < σ.A[kk].length
  · have hi3 : inR i 0 ((σ.A[kk].length : Int) - 1) = true := by simp [inR]; omega
    obtain ⟨j, rfl⟩ := Int.eq_ofNat_of_zero_le hj.1
    have hjl : j < σ.A[kk].length := by omega
    obtain ⟨Tg, g, cg, r1, r2, r3, r4⟩ := q7 j hjl
    have hpl : placeR p.arrNames σ.A s (j : Int) = some (kk, j) := by
      unfold placeR
      rw [hk]
      simp only [Int.toNat_natCast, hd]
      rw [if_pos ⟨by omega, by omega, by omega, by omega⟩]
    have hy : (intsL σ.A[kk])[j]? = some (.int .i64 σ.A[kk][j]) := by simp [intsL, List.getElem?_eq_getElem hjl]
    have hK2 : ∀ m', RunG gr p ns (σ.setA kk j n) F m' → Turned F F m m' → K (.tup []) m' := by
      simp only [hpl] at hK
      exact hK
    simp [hi3]
    (repeat refine AWp.seq ?_); refine AWp.condF (by simp) ?_
    refine AWp.skip ?_
    try simp
    (repeat refine AWp.seq ?_); refine AWp.region noP (by kernel_rfl) ?_
    simp [s0, s4, s6, s8, sm0, hbx, hxA, q2, q4, q6, r3, r1, hy, storeA]
    refine post_nrm0 rfl ?_
    have e8 : (σ.setA kk j n).A = σ.A.set kk (σ.A[kk].set j n) := by unfold RS.setA; rw [hd]
    have h8 := r4 n
    rw [← e8] at h8
    have := hK2 _ ⟨vA, vV, vO, vB, FA, FV, FO, FB, h.store r2 h8, sm.setA kk j n hkl, hFe⟩ ⟨fun _ h => .inl h, fun b y hb hy => by
      rw [Mem.set_other (by rintro rfl; rw [hFe] at hb; exact hb (.inr (.inl r2)))]
      exact hy⟩
    simpa using this
  · have hi3 : inR i 0 ((σ.A[kk].length : Int) - 1) = false := by simp [inR]; omega
    have hpl : placeR p.arrNames σ.A s i = none := by
      unfold placeR
      rw [hk]
      simp only [Int.toNat_natCast, hd]
      rw [if_neg (fun hq => hj ⟨hq.2.2.1, hq.2.2.2⟩)]
    simp [hi3]
    (repeat refine AWp.seq ?_); refine AWp.condT (by simp) ?_
    (repeat refine AWp.seq ?_); refine AWp.region noP (by kernel_rfl) ?_
    simp [s0, sm0, hbx]
    refine AWp.ret (post_ret0 rfl ?_)
    have := trap ⟨st.slots, m.set gr (.box (speCells p ns vA vV vO vB 1 σ.fu))⟩ rfl
    simpa [speCells] using hKt hpl _ this.1 this.2
end Go.T
namespace Go.T
open Go Go.Proofs
set_option maxRecDepth 10000
set_option maxHeartbeats 1000000
set_option linter.unusedSimpArgs false
set_option linter.unusedVariables false
open Go
/-- What the call of statements comes to. -/
def AllG (n : FuncId) (P : Program) (d : Nat) (l : List Sm) : Prop :=
  ∀ (gr : Nat) (p : Pg) (ns : List ByteArray) (σ : RS) (F : Nat → Prop) (m : Mem), RunG gr p ns σ F m → σ.nd = 0 → (∀ q ∈ Sm.namesL 1 l, has ns q = true) → ∀ K : AV → Mem → Prop,
    (∀ m' F', RunG gr p ns (allR p.arrNames ns d l σ) F' m' → Turned F F' m m' → K (.tup []) m') → WCall P n [.ptr gr 0, .lst false 19 (l.map Sm.av)] m K
/-- What is bound is another row. -/
theorem RunQ.bind {gr : Nat} {p : Pg} {ns : List ByteArray} {σ : RS} {vA vV vO vB : AV} {FA FV FO FB : Nat → Prop} {m m' : Mem} (h : RunQ gr p ns σ vA vV vO vB FA FV FO FB m) {v : AV} {B : List (ByteArray × Int)} (hv : ∃ f e, v = .lst f e (bndL B) ∧ e = 2)
    (hm : m' gr = some (.box (speCells p ns vA vV vO v σ.nd σ.fu))) (ho : ∀ b, (FA b ∨ FV b ∨ FO b) → m' b = m b) : RunQ gr p ns { σ with B := B } vA vV vO v FA FV FO (fun _ => False) m' := by
  refine ⟨hm, h.rA.mem fun b hb => ho b (.inl hb), h.rV.mem fun b hb => ho b (.inr (.inl hb)), h.rO.mem fun b hb => ho b (.inr (.inr hb)), hv, fun b hb => ?_, h.nA, h.nV, h.nO, id, h.dAV, h.dAO, fun _ _ h => h, h.dVO, fun _ _ h => h, fun _ _ h => h⟩
  rcases hb with hb | hb | hb | hb
  · rw [ho b (.inl hb)]; exact h.dom b (.inl hb)
  · rw [ho b (.inr (.inl hb))]; exact h.dom b (.inr (.inl hb))
  · rw [ho b (.inr (.inr hb))]; exact h.dom b (.inr (.inr (.inl hb)))
  · exact hb.elim
theorem Sees.unit {m m' : Mem} (h : Sees ⟨fun _ => .undef, m⟩ ⟨fun _ => .undef, m'⟩) : View m (.tup []) m' (.tup []) := fun w S v hm hv => by
  obtain ⟨S', h1, h2, h3, h4, h5⟩ := h w S (fun _ => v) hm (fun _ => .undef _)
  cases hv with
  | tup hr => cases hr; exact ⟨S', h1, h2, h3, .tup .nil, h5⟩
/-- A new row of what is bound, put into the box and not written any more. -/
theorem RunG.rebind {gr : Nat} {p : Pg} {ns : List ByteArray} {σ : RS} {vA vV vO vB : AV} {FA FV FO FB : Nat → Prop} {m m1 : Mem} (h : RunQ gr p ns σ vA vV vO vB FA FV FO FB m) {v : AV} {B : List (ByteArray × Int)} (sm : Small p ns { σ with B := B }) (hg : Gr 340 2 m (bndL B) v m1) {mm : Mem}
    (em : mm = m1.set gr (.box (speCells p ns vA vV vO v σ.nd σ.fu))) :
    ∃ m' F', (∀ f, Sees ⟨f, mm⟩ ⟨f, m'⟩) ∧ RunG gr p ns { σ with B := B } F' m' ∧ Turned (fun b => b = gr ∨ FA b ∨ FV b ∨ FO b ∨ FB b) F' m m' := by
  have hgr : m gr ≠ none := by rw [h.box]; simp
  have hne : ∀ b, (FA b ∨ FV b ∨ FO b) → b ≠ gr := by
    rintro b hb rfl
    rcases hb with hb | hb | hb
    · exact h.nA hb
    · exact h.nV hb
    · exact h.nO hb
  have hdm : ∀ b, (FA b ∨ FV b ∨ FO b) → m b ≠ none := fun b hb => h.dom b (by rcases hb with hb | hb | hb <;> simp [hb])
  have hsub : ∀ b, (b = gr ∨ FA b ∨ FV b ∨ FO b ∨ False) → (b = gr ∨ FA b ∨ FV b ∨ FO b ∨ FB b) := fun b hb => by
    rcases hb with hb | hb | hb | hb | hb
    · exact .inl hb
    · exact .inr (.inl hb)
    · exact .inr (.inr (.inl hb))
    · exact .inr (.inr (.inr (.inl hb)))
    · exact hb.elim
  obtain ⟨hE, ⟨h0, f, rfl⟩ | ⟨g, c', rfl, hg1, hg0⟩⟩ := hg
  · have hB : B = [] := by simpa [bndL] using h0
    subst hB
    have b1 : mm gr = some (.box (speCells p ns vA vV vO (.lst true f []) σ.nd σ.fu)) := by rw [em]; exact set_same _ _ _
    refine ⟨mm.set gr (.box (speCells p ns vA vV vO (.lst false 2 []) σ.nd σ.fu)), _, fun f' => Sees.boxLe (s := ⟨f', mm⟩) b1 ?_, ⟨vA, vV, vO, .lst false 2 [], FA, FV, FO, fun _ => False, ?_, sm, rfl⟩, fun b hb => .inl (hsub b hb), fun b y hb hy => ?_⟩
    · unfold speCells
      exact .cons (Le.refl _) (.cons (Le.refl _) (.cons (Le.refl _) (.cons (Le.refl _) (.cons (Le.refl _) (.cons (Le.refl _) (.cons (Le.refl _) (.cons (Le.nil _ _ _) (Les.refl _))))))))
    · refine h.bind ⟨false, 2, rfl, rfl⟩ (set_same _ _ _) fun b hb => ?_
      rw [Mem.set_other (hne b hb), em, Mem.set_other (hne b hb)]
      exact ext_at hE (hdm b hb)
    · have hbg : b ≠ gr := fun e => hb (.inl e)
      rw [Mem.set_other hbg, em, Mem.set_other hbg]
      exact hE _ _ hy
  · have hgg : g ≠ gr := by rintro rfl; exact hgr hg0
    have b1 : mm gr = some (.box (speCells p ns vA vV vO (.own g (bndL B).length c') σ.nd σ.fu)) := by rw [em]; exact set_same _ _ _
    have b2 : mm g = some (.arr 340 2 c' (bndL B)) := by rw [em, Mem.set_other hgg]; exact hg1
    refine ⟨(mm.del g).set gr (.box (speCells p ns vA vV vO (.lst false 2 (bndL B)) σ.nd σ.fu)), _, fun f' => Sees.freezeIn (s := ⟨f', mm⟩) (i := 7) b1 rfl b2 rfl, ⟨vA, vV, vO, .lst false 2 (bndL B), FA, FV, FO, fun _ => False, ?_, sm, rfl⟩, fun b hb => .inl (hsub b hb), fun b y hb hy => ?_⟩
    · refine h.bind ⟨false, 2, rfl, rfl⟩ (set_same _ _ _) fun b hb => ?_
      have hbg : b ≠ g := by rintro rfl; exact hdm _ hb hg0
      rw [Mem.set_other (hne b hb)]
      unfold Mem.del
      rw [if_neg hbg, em, Mem.set_other (hne b hb)]
      exact ext_at hE (hdm b hb)
    · have hbg : b ≠ gr := fun e => hb (.inl e)
      have hbg2 : b ≠ g := by rintro rfl; rw [hg0] at hy; cases hy
      rw [Mem.set_other hbg]
      unfold Mem.del
      rw [if_neg hbg2, em, Mem.set_other hbg]
      exact hE _ _ hy
theorem bnd_ok (B : List (ByteArray × Int)) : ∀ y ∈ bndL B, y.cells.all okCell = true := fun y hy => by
  unfold bndL at hy
  obtain ⟨b, _, rfl⟩ := List.mem_map.1 hy
  rfl
theorem bnd_len (B : List (ByteArray × Int)) : (bndL B).length = B.length := by simp [bndL]
theorem bnd_snoc (B : List (ByteArray × Int)) (s : ByteArray) (n : Int) : bndL (B ++ [(s, n)]) = bndL B ++ [bAv (s, n)] := by simp [bndL]
theorem bnd_tk (B : List (ByteArray × Int)) (n : Nat) : (bndL B).take n = bndL (B.take n) := by simp [bndL, List.map_take]
theorem c_l7For (d : Nat) (k : Int) (s : ByteArray) (a e lo hi : Ex) (b : List Sm) (k3 : k = 3) (hlo : lo.good 1 = true) (hhi : hi.good 1 = true) (hb : AllG 110 Tryz.prog d b)
    {gr : Nat} {p : Pg} {ns : List ByteArray} {σ : RS} {F : Nat → Prop} {m : Mem} (hR : RunG gr p ns σ F m) (h0 : σ.nd = 0) (hns : ∀ q ∈ Sm.namesL 1 b, has ns q = true) {K : AV → Mem → Prop}
    (hK : ∀ m' F', RunG gr p ns (doneR p.arrNames ns (allR p.arrNames ns d b) (.mk k s a e lo hi b) σ) F' m' → Turned F F' m m' → K (.tup []) m') :
    WCall Tryz.prog 219 [.ptr gr 0, .agg (Sm.mk k s a e lo hi b).cells] m K := by
  have hgr := hR.at.1
  obtain ⟨vA, vV, vO, vB, FA, FV, FO, FB, h, sm, hFe⟩ := id hR
  have hB : RunB gr p ns σ m := ⟨vA, vV, vO, vB, FA, FV, FO, FB, h, sm⟩
  have hbx := h.box
  unfold speCells at hbx
  rw [doneR_for k3] at hK
  have c1 : ∀ K : AV → Mem → Prop, K (.tup [.int .i64 ((σ.ev p.arrNames ns lo).getD 0), .bool (σ.ev p.arrNames ns lo).isSome]) m → WCall Tryz.prog 221 [.ptr gr 0, .agg lo.cells] m K := c_l7Exp lo 1 hlo gr p ns σ m hB
  have c2 : ∀ K : AV → Mem → Prop, K (.tup [.int .i64 ((σ.ev p.arrNames ns hi).getD 0), .bool (σ.ev p.arrNames ns hi).isSome]) m → WCall Tryz.prog 221 [.ptr gr 0, .agg hi.cells] m K := c_l7Exp hi 1 hhi gr p ns σ m hB
  refine wcall_of Tryz.func219 (by kernel_rfl) rfl (by simp [Tryz.f219]) ?_
  (repeat refine AWp.seq ?_); refine AWp.region noP (by kernel_rfl) ?_
  simp
  intro g hg
  refine AWp.sees (Sees.view (t := 3) (View.freezeB (g := g) (cs := (Sm.mk k s a e lo hi b).cells) (by simp [set_at]))) ?_
  refine AWp.gen (fun st => st.slots 0 = .ptr gr 0 ∧ st.slots 3 = .ref (Sm.mk k s a e lo hi b).cells ∧ st.mem = m) ⟨by simp, by simp, by simp [set_del hg]⟩ ?_
  rw [Sm.cells_mk]
  rintro st ⟨s0, s3, sm0⟩
  (repeat refine AWp.seq ?_); refine AWp.region noP (by kernel_rfl) ?_
  simp [s0, s3]
  refine aop_wcall _ _ _ _ _ _ _ _ rfl (eval_func _ _) ?_
  simp [sm0]
  refine c1 _ ?_
  simp
  generalize hra : σ.ev p.arrNames ns lo = ra at *
  refine AWp.gen (fun st => st.slots 0 = .ptr gr 0 ∧ st.slots 3 = .ref (.int .i64 k :: .str s :: (a.cells ++ (e.cells ++ (lo.cells ++ (hi.cells ++ [.lst false 19 (b.map Sm.av)]))))) ∧ st.slots 4 = .int .i64 (ra.getD 0) ∧ st.slots 5 = .bool ra.isSome ∧ st.mem = m) ⟨by simp [s0], by simp [s3], by simp, by simp, by simp⟩ ?_
  clear s0 s3 sm0
  rintro st ⟨s0, s3, s4, s5, sm0⟩
  (repeat refine AWp.seq ?_); refine AWp.region noP (by kernel_rfl) ?_
  simp
  (repeat refine AWp.seq ?_); refine AWp.region noP (by kernel_rfl) ?_
  simp [s5]
  generalize hre : σ.ev p.arrNames ns hi = re at *
  refine AWp.cutA (fun st => st.slots 0 = .ptr gr 0 ∧ st.slots 3 = .ref (.int .i64 k :: .str s :: (a.cells ++ (e.cells ++ (lo.cells ++ (hi.cells ++ [.lst false 19 (b.map Sm.av)]))))) ∧ st.slots 4 = .int .i64 (ra.getD 0) ∧ st.slots 6 = .int .i64 ((ra.bind fun _ => re).getD 0) ∧ st.slots 7 = .bool (ra.bind fun _ => re).isSome ∧ st.mem = m) ?_ ?_
  · cases ra with
    | none =>
      refine AWp.condF (by simp) ?_
      refine AWp.skip ?_
      exact ⟨by simp [s0], by simp [s3], by simp [s4], by simp, by simp, by simp [sm0]⟩
    | some i =>
      refine AWp.condT (by simp) ?_
      (repeat refine AWp.seq ?_); refine AWp.region noP (by kernel_rfl) ?_
      simp [s0, s3, sm0]
      refine aop_wcall _ _ _ _ _ _ _ _ rfl (eval_func _ _) ?_
      simp [sm0]
      refine c2 _ ?_
      simp [s0, s3, s4]
  clear s0 s3 s4 s5 sm0
  rintro st ⟨s0, s3, s4, s6, s7, sm0⟩
  generalize hq : (ra.bind fun _ => re) = q at *
  cases q with
  | none =>
    have hKt : ∀ m', RunG gr p ns σ.trap F m' → Turned F F m m' → K (.tup []) m' := by
      cases ra with
      | none => exact fun m' => hK m' F
      | some i =>
        cases re with
        | none => exact fun m' => hK m' F
        | some n => simp at hq
    (repeat refine AWp.seq ?_); refine AWp.region noP (by kernel_rfl) ?_
    simp [s7]
    (repeat refine AWp.seq ?_); refine AWp.condT (by simp) ?_
    (repeat refine AWp.seq ?_); refine AWp.region noP (by kernel_rfl) ?_
    simp [s0, sm0, hbx]
    refine AWp.ret (post_ret0 rfl ?_)
    have := hKt (m.set gr (.box (speCells p ns vA vV vO vB 1 σ.fu))) ⟨vA, vV, vO, vB, FA, FV, FO, FB, h.upd rfl rfl rfl rfl (σ' := σ.trap) (set_same _ _ _) fun b hb => Mem.set_other hb, ⟨sm.an, sm.vn, sm.arrs, sm.ns, sm.A, sm.V, sm.B, sm.O, sm.rows⟩, hFe⟩ (Turned.box hgr fun b hb => Mem.set_other hb)
    simpa [speCells] using this
  | some h' =>
  obtain ⟨l, rfl, rfl⟩ := Option.bind_eq_some_iff.1 hq
  simp at s4 s6 s7
  clear hq
  dsimp only at hK
  generalize hbody : allR p.arrNames ns d b = body at *
  have hbdB : ∀ τ, (body τ).B = τ.B := fun τ => by rw [← hbody]; exact allR_B d b _
  have hbdF : ∀ τ, (body τ).fu ≤ τ.fu := fun τ => by rw [← hbody]; exact allR_fu d b _
  obtain ⟨fB, eB, rfl, rfl⟩ := h.rB
  have hlB := sm.B
  (repeat refine AWp.seq ?_); refine AWp.region noP (by kernel_rfl) ?_
  simp [s7]
  (repeat refine AWp.seq ?_); refine AWp.condF (by simp) ?_
  refine AWp.skip ?_
  try simp
  (repeat refine AWp.seq ?_); refine AWp.region noP (by kernel_rfl) ?_
  simp [s0, sm0, hbx, bnd_len]
  (repeat refine AWp.seq ?_); refine AWp.region noP (by kernel_rfl) ?_
  simp [s4]
  refine AWp.gen (fun st => st.slots 0 = .ptr gr 0 ∧ st.slots 3 = .ref (.int .i64 k :: .str s :: (a.cells ++ (e.cells ++ (lo.cells ++ (hi.cells ++ [.lst false 19 (b.map Sm.av)]))))) ∧ st.slots 6 = .int .i64 h' ∧ st.slots 8 = .int .i64 σ.B.length ∧ st.slots 9 = .int .i64 l ∧ st.mem = m) ⟨by simp [s0], by simp [s3], by simp [s6], by simp, by simp, by simp [sm0]⟩ ?_
  clear s0 s3 s4 s6 s7 sm0
  rintro st ⟨s0, s3, s6, s8, s9, sm0⟩
  have hRES : (loopR body s h' (σ.fu + 1) l σ).B = σ.B := loopR_B hbdB s h' _ _ _
  generalize hres : loopR body s h' (σ.fu + 1) l σ = RES at *
  refine AWp.cutA (fun st => st.slots 0 = .ptr gr 0 ∧ st.slots 8 = .int .i64 σ.B.length ∧ ∃ Bx, Bx.take σ.B.length = σ.B ∧ ∃ F', RunG gr p ns { RES with B := Bx } F' st.mem ∧ Turned F F' m st.mem) ?_ ?_
  · refine AWp.block (AWp.rounds (fun q st => ∃ (kk : Nat) (n : Int) (τ : RS) (Bx : List (ByteArray × Int)) (F' : Nat → Prop), q = kk ∧ st.slots 0 = .ptr gr 0 ∧ st.slots 3 = .ref (.int .i64 k :: .str s :: (a.cells ++ (e.cells ++ (lo.cells ++ (hi.cells ++ [.lst false 19 (b.map Sm.av)]))))) ∧ st.slots 6 = .int .i64 h' ∧ st.slots 8 = .int .i64 σ.B.length ∧ st.slots 9 = .int .i64 n ∧ Bx.take σ.B.length = σ.B ∧ τ.B = σ.B ∧ RunG gr p ns { τ with B := Bx } F' st.mem ∧ Turned F F' m st.mem ∧ (τ.nd = 0 → τ.fu < kk) ∧ τ.fu ≤ σ.fu ∧ RES = if τ.nd ≠ 0 then τ else loopR body s h' kk n τ) (σ.fu + 1) ⟨σ.fu + 1, l, σ, σ.B, F, rfl, s0, s3, s6, s8, s9, List.take_length .., rfl, by rw [sm0]; exact hR, by rw [sm0]; exact Turned.refl _ _, fun _ => by omega, by omega, by rw [if_neg (fun hc => hc h0)]; exact hres.symm⟩ ?_)
    clear s0 s3 s6 s8 s9 sm0
    rintro RR q st hRR ⟨kk, n, τ, Bx, F1, rfl, s0, s3, s6, s8, s9, hBx, hτB, hR1, hT1, hfu, hfs, hr⟩
    by_cases hn : n ≤ h'
    · (repeat refine AWp.seq ?_); refine AWp.region noP (by kernel_rfl) ?_
      simp [s6, s9, hn, s0]
      refine aop_wcall _ _ _ _ _ _ _ _ rfl (eval_func _ _) ?_
      try simp
      refine hR1.fuel fun m1 hR2 hT2 => ?_
      try simp
      by_cases hnd : τ.nd = 0
      · have hfu := hfu hnd
        cases q with
        | zero => omega
        | succ kk =>
        rw [if_neg (fun hc => hc hnd)] at hr
        by_cases hf : τ.fu = 0
        · have ef : ({ τ with B := Bx } : RS).fuel = { τ with nd := 2, B := Bx } := by unfold RS.fuel; rw [if_neg (fun hc => hc hnd)]; exact burn_0 hf
          rw [ef] at hR2 ⊢
          (repeat refine AWp.seq ?_); refine AWp.condF (by simp) ?_
          refine AWp.exit ?_
          have e : RES = { τ with nd := 2 } := by
            rw [hr]
            unfold loopR
            rw [if_pos hn, if_pos (by rw [burn_0 hf]; simp), burn_0 hf]
          refine ⟨by simp [s0], by simp [s8], Bx, hBx, F1, by rw [e]; simpa using hR2, by simpa using hT1.trans hT2⟩
        · have ef : ({ τ with B := Bx } : RS).fuel = { τ with fu := τ.fu - 1, B := Bx } := by unfold RS.fuel; rw [if_neg (fun hc => hc hnd)]; exact burn_1 hf
          rw [ef] at hR2 ⊢
          (repeat refine AWp.seq ?_); refine AWp.condT (by simp [hnd]) ?_
          refine AWp.skip ?_
          try simp
          have hr2 : RES = if (body { τ with fu := τ.fu - 1, B := τ.B ++ [(s, n)] }).nd ≠ 0 then { body { τ with fu := τ.fu - 1, B := τ.B ++ [(s, n)] } with B := τ.B } else loopR body s h' kk (IntKind.wrap .i64 (n + 1)) { body { τ with fu := τ.fu - 1, B := τ.B ++ [(s, n)] } with B := τ.B } := by
            rw [hr]
            conv => lhs; unfold loopR
            rw [if_pos hn, if_neg (by rw [burn_1 hf]; simpa using hnd), burn_1 hf]
          rw [hτB] at hr2
          obtain ⟨wA, wV, wO, wB, GA, GV, GO, GB, hQ, hS, hGe⟩ := id hR2
          obtain ⟨fB2, eB2, rfl, rfl⟩ := hQ.rB
          have hb2 := hQ.box
          unfold speCells at hb2
          simp only at hb2
          have hmin : Bx.length ≥ σ.B.length := by
            have := congrArg List.length hBx
            simp at this
            omega
          have hlBx := hS.B
          simp only at hlBx
          have hsl : sliceA Tryz.prog 159 (.lst fB2 2 (bndL Bx)) none (some (.int .i64 (σ.B.length : Int))) = some (.lst false 2 (bndL σ.B)) := by
            have h1 : ¬ ((σ.B.length : Int) < 0) := by omega
            have h2 : σ.B.length ≤ (bndL Bx).length := by rw [bnd_len]; omega
            unfold sliceA
            simp only [es_159, boundA, h1, if_false, Int.toNat_natCast, h2, if_true]
            simp [bnd_tk, hBx]
          refine AWp.gen (fun st => st.slots 0 = .ptr gr 0 ∧ st.slots 3 = .ref (.int .i64 k :: .str s :: (a.cells ++ (e.cells ++ (lo.cells ++ (hi.cells ++ [.lst false 19 (b.map Sm.av)]))))) ∧ st.slots 6 = .int .i64 h' ∧ st.slots 8 = .int .i64 σ.B.length ∧ st.slots 9 = .int .i64 n ∧ st.mem = m1) ⟨by simp [s0], by simp [s3], by simp [s6], by simp [s8], by simp [s9], by simp⟩ ?_
          clear s0 s3 s6 s8 s9
          rintro st ⟨s0, s3, s6, s8, s9, sm1⟩
          (repeat refine AWp.seq ?_); refine AWp.block ?_
          (repeat refine AWp.seq ?_); refine AWp.regionG (fun _ => false) (fun i => i == 10) [0, 1, 2, 3, 4, 5, 6, 7, 9, 10, 11, 12, 13, 15, 16, 8, 14, 17] [0, 1, 2, 3, 4, 5, 6, 7, 8, 9, 10, 11, 12, 13, 14, 15, 16, 17] (by kernel_rfl) ?_
          simp [s0, s3, s8, s9, sm1, hb2, hsl, literalA]
          refine Gr.app et_159 (Gr.start m1 2) (x := .lst false 2 (bndL σ.B)) (ys := bndL σ.B) (by simp [srcA]) (bnd_ok _) (by simp [bnd_len]; omega) fun v2 m2 hg2 hk2 => ?_
          try simp
          refine Gr.app et_159 hg2 (x := .lst true 2 [bAv (s, n)]) (ys := [bAv (s, n)]) (by simp [srcA]) (by intro y hy; simp at hy; subst hy; rfl) (by simp [bnd_len]; omega) fun v3 m3 hg3 hk3 => ?_
          have o3 := hg3.ok
          have b3 := hk3 _ _ (hk2 _ _ hb2)
          simp [b3, o3.1, o3.2.1, o3.2.2]
          have hg4 : Gr 340 2 m1 (bndL (σ.B ++ [(s, n)])) v3 m3 := by rw [bnd_snoc]; simpa using hg3
          obtain ⟨m4, F2, hSee, hR3, hT3⟩ := RunG.rebind hQ (B := σ.B ++ [(s, n)]) ⟨hS.an, hS.vn, hS.arrs, hS.ns, hS.A, hS.V, by simp; omega, hS.O, hS.rows⟩ hg4 rfl
          simp only at hR3
          rw [← hGe] at hT3
          refine AWp.gen (fun st => st.slots 0 = .ptr gr 0 ∧ st.slots 3 = .ref (.int .i64 k :: .str s :: (a.cells ++ (e.cells ++ (lo.cells ++ (hi.cells ++ [.lst false 19 (b.map Sm.av)]))))) ∧ st.slots 6 = .int .i64 h' ∧ st.slots 8 = .int .i64 σ.B.length ∧ st.slots 9 = .int .i64 n ∧ st.mem = m3.set gr (.box (speCells p ns wA wV wO v3 τ.nd (τ.fu - 1)))) ⟨by simp [s0], by simp [s3], by simp [s6], by simp [s8], by simp [s9], by simp [speCells]⟩ ?_
          clear s0 s3 s6 s8 s9 hb2 b3 hg2 hk2 hg3 hk3 hg4 sm1
          rintro st ⟨s0, s3, s6, s8, s9, sm3⟩
          refine AWp.sees (s' := ⟨st.slots, m4⟩) (by have := hSee st.slots; rw [← sm3] at this; exact this) ?_
          (repeat refine AWp.seq ?_); refine AWp.region noP (by kernel_rfl) ?_
          simp [s0, s3]
          refine aop_wcall _ _ _ _ _ _ _ _ rfl (eval_func _ _) ?_
          try simp
          refine hb gr p ns _ F2 m4 hR3 hnd hns _ fun m5 F4 hR4 hT4 => ?_
          rw [hbody] at hR4
          have hB4 := hbdB { τ with fu := τ.fu - 1, B := σ.B ++ [(s, n)] }
          have hf4 := hbdF { τ with fu := τ.fu - 1, B := σ.B ++ [(s, n)] }
          generalize hυ : body { τ with fu := τ.fu - 1, B := σ.B ++ [(s, n)] } = υ at *
          simp only at hB4 hf4
          try simp
          (repeat refine AWp.seq ?_); refine AWp.region noP (by kernel_rfl) ?_
          simp [s9]
          refine hRR _ kk (by omega) ⟨kk, IntKind.wrap .i64 (n + 1), { υ with B := σ.B }, σ.B ++ [(s, n)], F4, rfl, by simp [s0], by simp [s3], by simp [s6], by simp [s8], by simp, by simp, rfl, ?_, ?_, fun _ => by simp only; omega, by simp only; omega, hr2⟩
          · have e : ({ { υ with B := σ.B } with B := σ.B ++ [(s, n)] } : RS) = υ := by rw [← hB4]
            simp only at e
            rw [e]
            simpa using hR4
          · simpa using ((hT1.trans hT2).trans hT3).trans hT4
      · have ef : ({ τ with B := Bx } : RS).fuel = { τ with B := Bx } := by unfold RS.fuel; rw [if_pos hnd]
        rw [ef] at hR2 ⊢
        (repeat refine AWp.seq ?_); refine AWp.condF (by simp [hnd]) ?_
        refine AWp.exit ?_
        rw [if_pos hnd] at hr
        refine ⟨by simp [s0], by simp [s8], Bx, hBx, F1, by rw [hr]; simpa using hR2, by simpa using hT1.trans hT2⟩
    · (repeat refine AWp.seq ?_); refine AWp.region noP (by kernel_rfl) ?_
      simp [s6, s9, hn]
      (repeat refine AWp.seq ?_); refine AWp.condF (by simp) ?_
      refine AWp.exit ?_
      have e : RES = τ := by
        rw [hr]
        split
        · rfl
        · rename_i hnd
          have hfu := hfu (by simpa using hnd)
          cases q with
          | zero => omega
          | succ kk =>
          unfold loopR
          rw [if_neg hn]
      refine ⟨by simp [s0], by simp [s8], Bx, hBx, F1, by rw [e]; simpa using hR1, by simpa using hT1⟩
  clear s0 s3 s6 s8 s9 sm0
  rintro st ⟨s0, s8, Bx, hBx, F1, hR1, hT1⟩
  obtain ⟨wA, wV, wO, wB, GA, GV, GO, GB, hQ, hS, hGe⟩ := id hR1
  obtain ⟨fB2, eB2, rfl, rfl⟩ := hQ.rB
  have hb2 := hQ.box
  unfold speCells at hb2
  simp only at hb2
  have hmin : Bx.length ≥ σ.B.length := by
    have := congrArg List.length hBx
    simp at this
    omega
  have hlBx := hS.B
  simp only at hlBx
  have hsl : sliceA Tryz.prog 159 (.lst fB2 2 (bndL Bx)) none (some (.int .i64 (σ.B.length : Int))) = some (.lst false 2 (bndL σ.B)) := by
    have h1 : ¬ ((σ.B.length : Int) < 0) := by omega
    have h2 : σ.B.length ≤ (bndL Bx).length := by rw [bnd_len]; omega
    unfold sliceA
    simp only [es_159, boundA, h1, if_false, Int.toNat_natCast, h2, if_true]
    simp [bnd_tk, hBx]
  (repeat refine AWp.seq ?_); refine AWp.region noP (by kernel_rfl) ?_
  simp [s0, s8, hb2, hsl, literalA]
  refine Gr.app et_159 (Gr.start st.mem 2) (x := .lst false 2 (bndL σ.B)) (ys := bndL σ.B) (by simp [srcA]) (bnd_ok _) (by simp [bnd_len]; omega) fun v3 m3 hg3 hk3 => ?_
  have o3 := hg3.ok
  have b3 := hk3 _ _ hb2
  simp [b3, o3.1, o3.2.1, o3.2.2]
  obtain ⟨m4, F2, hSee, hR3, hT3⟩ := RunG.rebind hQ (B := σ.B) ⟨hS.an, hS.vn, hS.arrs, hS.ns, hS.A, hS.V, by simp only; omega, hS.O, hS.rows⟩ (by simpa using hg3) rfl
  simp only at hR3
  rw [← hGe] at hT3
  refine ⟨[], .tup [], m4, by simp [Tryz.f219, resA], ?_, hK _ F2 ?_ (hT1.trans hT3)⟩
  · have := (hSee (fun _ => .undef)).unit
    simpa [speCells, oneOf] using this
  · rw [← hRES] at hR3
    exact hR3
end Go.T
namespace Go.T
open Go Go.Proofs
set_option maxRecDepth 10000
set_option maxHeartbeats 1000000
set_option linter.unusedSimpArgs false
set_option linter.unusedVariables false
open Go
theorem names_of {l : List Sm} {ns : List ByteArray} (hns : ∀ q ∈ Sm.namesL 1 l, has ns q = true) {x : Sm} (hx : x ∈ l) : ∀ q ∈ x.names 1, has ns q = true := fun q hq => hns q (by
  have : ∀ (l : List Sm) (x : Sm), x ∈ l → ∀ q ∈ x.names 1, q ∈ Sm.namesL 1 l := by
    intro l x
    induction l with
    | nil => intro h; cases h
    | cons y l ih =>
      intro h q hq
      unfold Sm.namesL
      rw [List.mem_append]
      rcases List.mem_cons.1 h with rfl | h
      · exact .inl hq
      · exact .inr (ih h q hq)
  exact this l _ hx q hq)
theorem AWp.lastA {P : Program} {N : Nat} {c : Code} {Q : Exit → St → Prop} {s : St} (M : St → Prop) (h : AWp P N c (thenA M Q) s) (hm : ∀ s', M s' → Q .normal s') : AWp P N c Q s :=
  h.mono fun e s' hq => by
    cases e with
    | normal => exact hm s' hq
    | _ => exact hq
theorem Small.trap {p : Pg} {ns : List ByteArray} {σ : RS} (h : Small p ns σ) : Small p ns σ.trap := ⟨h.an, h.vn, h.arrs, h.ns, h.A, h.V, h.B, h.O, h.rows⟩
theorem c_l7Body0 (d dd : Nat) (l : List Sm) (hr : ∀ x ∈ l, x.right dd = true) (hb : ∀ k s a e lo hi b, .mk k s a e lo hi b ∈ l → k = 3 → AllG 110 Tryz.prog d b) (hl : l.length ≤ 1099511627776) : AllG 110 Tryz.prog (d + 1) l := by
  intro gr p ns σ F m hR h0 hns K hK
  refine wcall_of Tryz.func110 (by kernel_rfl) rfl (by simp [Tryz.f110]) ?_
  (repeat refine AWp.seq ?_); refine AWp.region noP (by kernel_rfl) ?_
  try simp
  refine AWp.lastA (fun st => ∃ F', RunG gr p ns (allR p.arrNames ns (d + 1) l σ) F' st.mem ∧ Turned F F' m st.mem) ?_ ?_
  · refine AWp.block (AWp.rounds (fun q st => ∃ (i : Nat) (τ : RS) (F' : Nat → Prop), q = l.length - i ∧ i ≤ l.length ∧ st.slots 0 = .ptr gr 0 ∧ st.slots 1 = .lst false 19 (l.map Sm.av) ∧ st.slots 4 = .int .i64 i ∧ RunG gr p ns τ F' st.mem ∧ Turned F F' m st.mem ∧ allR p.arrNames ns (d + 1) l σ = allR p.arrNames ns (d + 1) (l.drop i) τ) l.length ⟨0, σ, F, by simp, by simp, by simp, by simp, by simp, by simpa using hR, by simpa using Turned.refl F m, by simp⟩ ?_)
    rintro RR q st hRR ⟨i, τ, F1, rfl, hi, s0, s1, s4, hR1, hT1, hrr⟩
    generalize hres : allR p.arrNames ns (d + 1) l σ = RES at *
    by_cases hbl : i < l.length
    · have hx : ∀ m, idxA Tryz.prog m 36 (.lst false 19 (l.map Sm.av)) (.int .i64 i) = some (.ref l[i].cells) := fun m => idx (y := l[i].av) es_36 (by simp [List.getElem?_eq_getElem hbl])
      have hw : IntKind.wrap .i64 ((i : Int) + 1) = (i + 1 : Nat) := wrap64 (by omega) (by omega)
      (repeat refine AWp.seq ?_); refine AWp.region noP (by kernel_rfl) ?_
      simp [s0, s1, s4, hbl]
      refine aop_wcall _ _ _ _ _ _ _ _ rfl (eval_func _ _) ?_
      try simp
      refine hR1.fuel fun m1 hR2 hT2 => ?_
      try simp
      by_cases hnd : τ.nd = 0
      rotate_left
      · have ef : τ.fuel = τ := by unfold RS.fuel; rw [if_pos hnd]
        rw [ef] at hR2 ⊢
        (repeat refine AWp.seq ?_); refine AWp.condF (by simp [hnd]) ?_
        refine AWp.exit ?_
        have e : RES = τ := by rw [hrr]; exact allR_stuck _ _ _ hnd
        exact ⟨F1, by rw [e]; simpa using hR2, by simpa using hT1.trans hT2⟩
      have ef : τ.fuel = τ.burn := by unfold RS.fuel; rw [if_neg (fun hc => hc hnd)]
      have hstep : RES = allR p.arrNames ns (d + 1) (l.drop (i + 1)) (stmtR p.arrNames ns (allR p.arrNames ns d l[i].bd) l[i] τ) := by
        rw [hrr]
        conv => lhs; unfold allR
        rw [List.drop_eq_getElem_cons hbl, List.foldl_cons, if_neg (fun hc => hc hnd)]
        conv => rhs; unfold allR
      by_cases hf : τ.fu = 0
      · rw [ef, burn_0 hf] at hR2 ⊢
        (repeat refine AWp.seq ?_); refine AWp.condF (by simp) ?_
        refine AWp.exit ?_
        have e : RES = { τ with nd := 2 } := by
          rw [hstep]
          unfold stmtR
          rw [if_pos (by rw [burn_0 hf]; simp), burn_0 hf]
          exact allR_stuck _ _ _ (by simp)
        exact ⟨F1, by rw [e]; simpa using hR2, by simpa using hT1.trans hT2⟩
      rw [ef, burn_1 hf] at hR2 ⊢
      (repeat refine AWp.seq ?_); refine AWp.condT (by simp [hnd]) ?_
      refine AWp.skip ?_
      try simp
      have hstep : RES = allR p.arrNames ns (d + 1) (l.drop (i + 1)) (doneR p.arrNames ns (allR p.arrNames ns d l[i].bd) l[i] { τ with fu := τ.fu - 1 }) := by
        rw [hstep]
        conv => lhs; unfold stmtR
        rw [if_neg (by rw [burn_1 hf]; simpa using hnd), burn_1 hf]
      have hO1 : τ.O.length + 1 + (τ.fu - 1) ≤ 100000 := by
        obtain ⟨_, _, _, _, _, _, _, _, _, hSm, _⟩ := hR1
        have := hSm.O
        omega
      have hnm := names_of hns (List.getElem_mem hbl)
      have hrx := hr _ (List.getElem_mem hbl)
      have hbx := fun k s a e lo hi b (he : l[i] = .mk k s a e lo hi b) => hb k s a e lo hi b (he ▸ List.getElem_mem hbl)
      generalize hz : l[i] = z at *
      obtain ⟨υ, hυ⟩ : ∃ υ : RS, υ = { τ with fu := τ.fu - 1 } := ⟨_, rfl⟩
      rw [← hυ] at hR2 hstep
      have hnd : υ.nd = 0 := by rw [hυ]; exact hnd
      have hO1 : υ.O.length + 1 + υ.fu ≤ 100000 := by rw [hυ]; exact hO1
      have hT2 := hT1.trans hT2
      refine AWp.gen (fun st => st.slots 0 = .ptr gr 0 ∧ st.slots 1 = .lst false 19 (l.map Sm.av) ∧ st.slots 4 = .int .i64 i ∧ st.mem = m1) ⟨by simp [s0], by simp [s1], by simp [s4], by simp⟩ ?_
      clear s0 s1 s4 hR1 hT1 hf ef hυ hrr
      rintro st ⟨s0, s1, s4, sm1⟩
      cases z with | mk k s a e lo hi b =>
      obtain ⟨hk, he, ha, h3⟩ := st_parts hrx
      have hbx := hbx k s a e lo hi b rfl
      have hns1 : k = 1 → has ns s = true := fun h => hnm s ((names_bd k s a e lo hi b s).1 (.inl ⟨h, rfl⟩))
      have hns2 : ∀ q ∈ Sm.namesL 1 b, has ns q = true := fun q hq => hnm q ((names_bd k s a e lo hi b q).1 (.inr hq))
      have ebd : (Sm.mk k s a e lo hi b).bd = b := rfl
      rw [ebd] at hstep
      (repeat refine AWp.seq ?_); refine AWp.block ?_
      (repeat refine AWp.seq ?_); refine AWp.region noP (by kernel_rfl) ?_
      simp [s1, s4, hx]
      intro g hg
      rw [sm1] at hg
      have hcl : (Sm.mk k s a e lo hi b).cells.length = 19 := by simp [Sm.cells_mk]
      have hcd : List.drop 19 (Sm.mk k s a e lo hi b).cells = [] := List.drop_eq_nil_of_le (by omega)
      refine AWp.sees (Sees.view (t := 5) (View.freezeB (g := g) (cs := (Sm.mk k s a e lo hi b).cells) (by simp [set_at, hcd]))) ?_
      refine AWp.gen (fun st => st.slots 0 = .ptr gr 0 ∧ st.slots 1 = .lst false 19 (l.map Sm.av) ∧ st.slots 4 = .int .i64 i ∧ st.slots 5 = .ref (Sm.mk k s a e lo hi b).cells ∧ st.mem = m1) ⟨by simp [s0], by simp [s1], by simp [s4], by simp, by simp [sm1, set_del hg]⟩ ?_
      clear s0 s1 s4 sm1 hcl hcd
      rw [Sm.cells_mk]
      rintro st ⟨s0, s1, s4, s5, sm1⟩
      (repeat refine AWp.seq ?_); refine AWp.region noP (by kernel_rfl) ?_
      simp [s5]
      refine AWp.gen (fun st => st.slots 0 = .ptr gr 0 ∧ st.slots 1 = .lst false 19 (l.map Sm.av) ∧ st.slots 4 = .int .i64 i ∧ st.slots 5 = .ref (.int .i64 k :: .str s :: (a.cells ++ (e.cells ++ (lo.cells ++ (hi.cells ++ [.lst false 19 (b.map Sm.av)]))))) ∧ st.slots 23 = .int .i64 k ∧ st.mem = m1) ⟨by simp [s0], by simp [s1], by simp [s4], by simp [s5], by simp, by simp [sm1]⟩ ?_
      clear s0 s1 s4 s5 sm1
      rintro st ⟨s0, s1, s4, s5, s23, sm1⟩
      generalize hω : doneR p.arrNames ns (allR p.arrNames ns d b) (.mk k s a e lo hi b) υ = ω at *
      refine AWp.lastA (fun st => st.slots 0 = .ptr gr 0 ∧ st.slots 1 = .lst false 19 (l.map Sm.av) ∧ st.slots 4 = .int .i64 i ∧ ∃ F2, RunG gr p ns ω F2 st.mem ∧ Turned F F2 m st.mem) ?_ ?_
      rotate_left
      · clear s0 s1 s4 s5 s23 sm1
        rintro st ⟨s0, s1, s4, F2, hR3, hT3⟩
        try simp
        (repeat refine AWp.seq ?_); refine AWp.region noP (by kernel_rfl) ?_
        simp [s4, hw]
        exact hRR _ (l.length - (i + 1)) (by omega) ⟨i + 1, ω, F2, rfl, by omega, by simp [s0], by simp [s1], by simp, by simpa using hR3, by simpa using hT3, hstep⟩
      (repeat refine AWp.seq ?_); refine AWp.block ?_
      (repeat refine AWp.seq ?_); refine AWp.region noP (by kernel_rfl) ?_
      simp [s23]
      by_cases k3 : k = 3
      · (repeat refine AWp.seq ?_); refine AWp.condT (by simp [k3]) ?_
        have cl := @c_l7For d k s a e lo hi b k3 (h3 k3).1 (h3 k3).2.1 (hbx k3) gr p ns υ F1 m1 hR2 hnd hns2
        rw [Sm.cells_mk, hω] at cl
        (repeat refine AWp.seq ?_); refine AWp.region noP (by kernel_rfl) ?_
        simp [s0, s5]
        refine aop_wcall _ _ _ _ _ _ _ _ rfl (eval_func _ _) ?_
        simp [sm1]
        refine cl fun m2 F2 hR3 hT3 => ?_
        try simp
        exact ⟨by simp [s0], by simp [s1], by simp [s4], F2, hR3, hT2.trans hT3⟩
      (repeat refine AWp.seq ?_); refine AWp.condF (by simp [k3]) ?_
      (repeat refine AWp.seq ?_); refine AWp.region noP (by kernel_rfl) ?_
      simp [s23]
      by_cases k2 : k = 2
      · (repeat refine AWp.seq ?_); refine AWp.condT (by simp [k2]) ?_
        have cl := @c_l7Put k s a e lo hi b k3 k2 (ha k2) (he k3) (allR p.arrNames ns d b) gr p ns υ F1 m1 hR2
        rw [Sm.cells_mk, hω] at cl
        (repeat refine AWp.seq ?_); refine AWp.region noP (by kernel_rfl) ?_
        simp [s0, s5]
        refine aop_wcall _ _ _ _ _ _ _ _ rfl (eval_func _ _) ?_
        simp [sm1]
        refine cl fun m2 hR3 hT3 => ?_
        try simp
        exact ⟨by simp [s0], by simp [s1], by simp [s4], F1, hR3, hT2.trans hT3⟩
      (repeat refine AWp.seq ?_); refine AWp.condF (by simp [k2]) ?_
      obtain ⟨vA, vV, vO, vB, FA, FV, FO, FB, hH, hS, hFe⟩ := id hR2
      have hB : RunB gr p ns υ m1 := ⟨vA, vV, vO, vB, FA, FV, FO, FB, hH, hS⟩
      have c2 : ∀ K : AV → Mem → Prop, K (.tup [.int .i64 ((υ.ev p.arrNames ns e).getD 0), .bool (υ.ev p.arrNames ns e).isSome]) m1 → WCall Tryz.prog 221 [.ptr gr 0, .agg e.cells] m1 K := c_l7Exp e 1 (he k3) gr p ns υ m1 hB
      have hbox := hH.box
      unfold speCells at hbox
      rw [doneR_val k3 k2] at hω
      (repeat refine AWp.seq ?_); refine AWp.region noP (by kernel_rfl) ?_
      simp [s0, s5]
      refine aop_wcall _ _ _ _ _ _ _ _ rfl (eval_func _ _) ?_
      simp [sm1]
      refine c2 _ ?_
      simp
      generalize hre : υ.ev p.arrNames ns e = re at *
      refine AWp.gen (fun st => st.slots 0 = .ptr gr 0 ∧ st.slots 1 = .lst false 19 (l.map Sm.av) ∧ st.slots 4 = .int .i64 i ∧ st.slots 5 = .ref (.int .i64 k :: .str s :: (a.cells ++ (e.cells ++ (lo.cells ++ (hi.cells ++ [.lst false 19 (b.map Sm.av)]))))) ∧ st.slots 6 = .int .i64 (re.getD 0) ∧ st.slots 7 = .bool re.isSome ∧ st.mem = m1) ⟨by simp [s0], by simp [s1], by simp [s4], by simp [s5], by simp, by simp, by simp⟩ ?_
      clear s0 s1 s4 s5 s23 sm1
      rintro st ⟨s0, s1, s4, s5, s6, s7, sm1⟩
      (repeat refine AWp.seq ?_); refine AWp.block ?_
      (repeat refine AWp.seq ?_); refine AWp.region noP (by kernel_rfl) ?_
      simp [s7]
      cases re with
      | none =>
        (repeat refine AWp.seq ?_); refine AWp.condT (by simp) ?_
        (repeat refine AWp.seq ?_); refine AWp.region noP (by kernel_rfl) ?_
        simp [s0, sm1, hbox]
        refine ⟨by simp [s1], by simp [s4], F1, ?_, ?_⟩
        · dsimp only at hω
          rw [← hω]
          exact ⟨vA, vV, vO, vB, FA, FV, FO, FB, hH.upd rfl rfl rfl rfl (σ' := υ.trap) (by simp [set_at, speCells, RS.trap]) fun b hb => by simp [set_at, hb], hS.trap, hFe⟩
        · exact hT2.trans (Turned.box (by rw [hFe]; exact .inl rfl) fun b hb => by simp [set_at, hb])
      | some n =>
      (repeat refine AWp.seq ?_); refine AWp.condF (by simp) ?_
      simp at s6
      dsimp only at hω
      (repeat refine AWp.seq ?_); refine AWp.region noP (by kernel_rfl) ?_
      simp [s5]
      by_cases k1 : k = 1
      · (repeat refine AWp.seq ?_); refine AWp.condT (by simp [k1]) ?_
        rw [if_pos k1] at hω
        have hns0 := hS.ns
        have hat : 0 ≤ at_ ns s := (idxAt_has s ns 0).2 (hns1 k1)
        have hlt : at_ ns s < ns.length := by
          rcases idxAt_lt s ns 0 with h | ⟨h, _⟩
          · have := h.2; unfold at_; omega
          · have := hns1 k1; rw [h] at this; simp [has] at this
        obtain ⟨j, hj⟩ := Int.eq_ofNat_of_zero_le hat
        have hjl : j < υ.V.length := by rw [hS.vn]; omega
        obtain ⟨T, gg, c, q1, q2, q3, q4⟩ := hH.setV hjl
        have q4 := q4 n
        have hy : (intsL υ.V)[j]? = some (.int .i64 υ.V[j]) := by simp [intsL, List.getElem?_eq_getElem hjl]
        (repeat refine AWp.seq ?_); refine AWp.regionG (fun i => i == 11) (fun _ => false) [0, 1, 2, 3, 4, 5, 6, 7, 8, 9, 10, 11, 12, 13, 14] [0, 1, 2, 3, 4, 5, 6, 7, 8, 9, 10, 11, 12, 13, 14] (by kernel_rfl) ?_
        simp [s0, s5, sm1, hbox]
        refine aop_call' (c_l7At ns s (by omega)) ?_
        simp [s6, sm1, hj, q3, q2, hy, storeA]
        refine ⟨s0, s1, s4, F1, ?_, ?_⟩
        · rw [← hω, hj]
          exact ⟨vA, vV, vO, vB, FA, FV, FO, FB, by simpa using q4.1, by simpa using hS.set j n, hFe⟩
        · have := q4.2
          rw [← hFe] at this
          exact hT2.trans this
      (repeat refine AWp.seq ?_); refine AWp.condF (by simp [k1]) ?_
      rw [if_neg k1] at hω
      (repeat refine AWp.seq ?_); refine AWp.region noP (by kernel_rfl) ?_
      simp [s0, sm1, hbox, s6, literalA]
      refine RunQ.print hH (by omega) n fun v' m2 hb2 o1 o2 o3 hpr => ?_
      obtain ⟨FO', hH2, hT3⟩ := hpr F1 hFe
      unfold speCells at hb2
      simp [hb2, o1, o2, o3]
      refine ⟨s1, s4, (fun b => b = gr ∨ FA b ∨ FV b ∨ FO' b ∨ FB b), ?_, ?_⟩
      rotate_left
      · simpa [speCells] using hT2.trans hT3
      · rw [← hω]
        exact ⟨vA, vV, v', vB, FA, FV, FO', FB, by simpa [speCells] using hH2, ⟨hS.an, hS.vn, hS.arrs, hS.ns, hS.A, hS.V, hS.B, by simp; omega, hS.rows⟩, rfl⟩
    · have : i = l.length := by omega
      subst this
      (repeat refine AWp.seq ?_); refine AWp.region noP (by kernel_rfl) ?_
      simp [s1, s4]
      (repeat refine AWp.seq ?_); refine AWp.condF (by simp) ?_
      refine AWp.exit ?_
      have e : RES = τ := by
        rw [hrr, List.drop_length]
        unfold allR
        rfl
      exact ⟨F1, by rw [e]; simpa using hR1, by simpa using hT1⟩
  rintro st ⟨F2, hR2, hT2⟩
  exact ⟨[], .tup [], st.mem, by simp [Tryz.f110, resA], View.refl _ _, hK _ F2 hR2 hT2⟩
theorem c_l7Body : ∀ (d : Nat) (l : List Sm) (dd : Nat), totL Sm.tot l ≤ d → d ≤ 1048576 → (∀ x ∈ l, x.right dd = true) → AllG 110 Tryz.prog (d + 1) l := by
  intro d
  induction d with
  | zero =>
    intro l dd hl _ _
    have : l = [] := by
      cases l with
      | nil => rfl
      | cons x l => simp [totL] at hl
    subst this
    exact c_l7Body0 0 0 [] (fun x hx => by cases hx) (fun _ _ _ _ _ _ _ hx => by cases hx) (by simp)
  | succ d ih =>
    intro l dd hl hd hr
    have hlen := totL_len Sm.tot l
    refine c_l7Body0 (d + 1) dd l hr (fun k s a e lo hi b hx k3 => ?_) (by omega)
    have hx2 := totL_mem Sm.tot hx
    refine ih b (dd + 1) ?_ (by omega) ?_
    · rw [Sm.tot_mk] at hx2; omega
    · exact rights_all b (dd + 1) ((st_parts (hr _ hx)).2.2.2 k3).2.2
end Go.T
