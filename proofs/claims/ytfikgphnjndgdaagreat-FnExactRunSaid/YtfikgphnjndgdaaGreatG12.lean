/- The program's runner: fuel, ends. The program's runner: what is bound. The program's runner: a loop. The program's runner: what is printed, what is set. The program's runner: statements. A new store, the program's hand. A program is done, the program's hand. The reference's runner: names' places, sums. -/
import Derived.Test.YtfikgphnjndgdaaGreatG11
namespace Go.T
open Go Go.Proofs
set_option maxRecDepth 10000
set_option maxHeartbeats 1000000
set_option linter.unusedSimpArgs false
set_option linter.unusedVariables false
open Go
/-- The box is written: how it ended, fuel. -/
theorem RunH.upd {gr : Nat} {p : Pg} {ns : List ByteArray} {σ : RS} {vA vV vO vB : AV} {FA FV FO FB : Nat → Prop} {m : Mem} (h : RunH gr p ns σ vA vV vO vB FA FV FO FB m) {σ' : RS} (eA : σ'.A = σ.A) (eV : σ'.V = σ.V) (eO : σ'.O = σ.O) (eB : σ'.B = σ.B) {m' : Mem} (hm : m' gr = some (.box (runCells p ns vA vV vO vB σ'.nd σ'.fu))) (ho : ∀ b, b ≠ gr → m' b = m b) : RunH gr p ns σ' vA vV vO vB FA FV FO FB m' := by
  have o : ∀ G : Nat → Prop, ¬ G gr → ∀ c, G c → m' c = m c := fun G hG c hc => ho c (by rintro rfl; exact hG hc)
  refine ⟨hm, ?_, ?_, ?_, ?_, fun b hb => ?_, h.nA, h.nV, h.nO, h.nB, h.dAV, h.dAO, h.dAB, h.dVO, h.dVB, h.dOB⟩
  · rw [eA]; exact h.rA.mem (o _ h.nA)
  · rw [eV]; exact h.rV.mem (o _ h.nV)
  · rw [eO]; exact h.rO.mem (o _ h.nO)
  · rw [eB]; exact h.rB.mem (o _ h.nB)
  · rw [ho b]
    · exact h.dom b hb
    · rintro rfl
      rcases hb with hb | hb | hb | hb
      · exact h.nA hb
      · exact h.nV hb
      · exact h.nO hb
      · exact h.nB hb
theorem c_burn {gr : Nat} {p : Pg} {ns : List ByteArray} {σ : RS} {vA vV vO vB : AV} {FA FV FO FB : Nat → Prop} {m : Mem} (h : RunH gr p ns σ vA vV vO vB FA FV FO FB m) (sm : σ.fu ≤ 100000) {K : AV → Mem → Prop}
    (hK : ∀ m', RunH gr p ns σ.burn vA vV vO vB FA FV FO FB m' → (∀ b, b ≠ gr → m' b = m b) → K (.bool (decide (σ.fu ≠ 0))) m') : WCall Tryz.prog 326 [.ptr gr 0] m K := by
  have hb := h.box
  unfold runCells at hb
  refine wcall_of Tryz.func326 (by kernel_rfl) rfl (by simp [Tryz.f326]) ?_
  (repeat refine AWp.seq ?_); refine AWp.region noP (by kernel_rfl) ?_
  try simp
  (repeat refine AWp.seq ?_); refine AWp.region noP (by kernel_rfl) ?_
  simp [hb]
  by_cases h0 : σ.fu = 0
  · have e : σ.burn = { σ with nd := 2 } := by unfold RS.burn; rw [if_pos h0]
    (repeat refine AWp.seq ?_); refine AWp.condT (by simp [h0]) ?_
    (repeat refine AWp.seq ?_); refine AWp.region noP (by kernel_rfl) ?_
    simp [hb]
    (repeat refine AWp.seq ?_); refine AWp.region noP (by kernel_rfl) ?_
    simp
    refine AWp.ret (post_retW rfl ⟨_, _, View.refl _ _, ?_⟩)
    have := hK (m.set gr (.box (runCells p ns vA vV vO vB 2 σ.fu))) (h.upd (by rw [e]) (by rw [e]) (by rw [e]) (by rw [e]) (by rw [e]; exact set_same _ _ _) fun b hb => Mem.set_other hb) fun b hb => Mem.set_other hb
    simp [h0] at this ⊢
    exact this
  · have e : σ.burn = { σ with fu := σ.fu - 1 } := by unfold RS.burn; rw [if_neg h0]
    have hw : IntKind.wrap .i64 ((σ.fu : Int) - 1) = ((σ.fu - 1 : Nat) : Int) := by rw [wrap64 (by omega) (by omega)]; omega
    (repeat refine AWp.seq ?_); refine AWp.condF (by simp [h0]) ?_
    refine AWp.skip ?_
    try simp
    (repeat refine AWp.seq ?_); refine AWp.region noP (by kernel_rfl) ?_
    simp [hb, hw]
    (repeat refine AWp.seq ?_); refine AWp.region noP (by kernel_rfl) ?_
    simp
    refine AWp.ret (post_retW rfl ⟨_, _, View.refl _ _, ?_⟩)
    have := hK (m.set gr (.box (runCells p ns vA vV vO vB σ.nd (σ.fu - 1)))) (h.upd (by rw [e]) (by rw [e]) (by rw [e]) (by rw [e]) (by rw [e]; exact set_same _ _ _) fun b hb => Mem.set_other hb) fun b hb => Mem.set_other hb
    simp [h0] at this ⊢
    exact this
theorem c_trap {gr : Nat} {p : Pg} {ns : List ByteArray} {σ : RS} {vA vV vO vB : AV} {FA FV FO FB : Nat → Prop} {m : Mem} (h : RunH gr p ns σ vA vV vO vB FA FV FO FB m) {K : AV → Mem → Prop}
    (hK : ∀ m', RunH gr p ns σ.trap vA vV vO vB FA FV FO FB m' → (∀ b, b ≠ gr → m' b = m b) → K (.bool false) m') : WCall Tryz.prog 329 [.ptr gr 0] m K := by
  have hb := h.box
  unfold runCells at hb
  refine wcall_of Tryz.func329 (by kernel_rfl) rfl (by simp [Tryz.f329]) ?_
  (repeat refine AWp.seq ?_); refine AWp.region noP (by kernel_rfl) ?_
  try simp
  (repeat refine AWp.seq ?_); refine AWp.region noP (by kernel_rfl) ?_
  simp [hb]
  (repeat refine AWp.seq ?_); refine AWp.region noP (by kernel_rfl) ?_
  simp
  refine AWp.ret (post_retW rfl ⟨_, _, View.refl _ _, ?_⟩)
  have := hK (m.set gr (.box (runCells p ns vA vV vO vB 1 σ.fu))) (h.upd (σ' := σ.trap) rfl rfl rfl rfl (set_same _ _ _) fun b hb => Mem.set_other hb) fun b hb => Mem.set_other hb
  simp
  exact this
/-- A runner, with what it writes. -/
def RunF (gr : Nat) (p : Pg) (ns : List ByteArray) (σ : RS) (F : Nat → Prop) (m : Mem) : Prop :=
  ∃ vA vV vO vB FA FV FO FB, RunH gr p ns σ vA vV vO vB FA FV FO FB m ∧ Small p ns σ ∧ F = fun b => b = gr ∨ FA b ∨ FV b ∨ FO b ∨ FB b
theorem RunF.a {gr : Nat} {p : Pg} {ns : List ByteArray} {σ : RS} {F : Nat → Prop} {m : Mem} (h : RunF gr p ns σ F m) : RunA gr p ns σ m := by
  obtain ⟨vA, vV, vO, vB, FA, FV, FO, FB, h1, h2, h3⟩ := h
  exact ⟨vA, vV, vO, vB, FA, FV, FO, FB, h1, h2⟩
theorem RunF.at {gr : Nat} {p : Pg} {ns : List ByteArray} {σ : RS} {F : Nat → Prop} {m : Mem} (h : RunF gr p ns σ F m) : F gr ∧ ∀ b, F b → m b ≠ none := by
  obtain ⟨vA, vV, vO, vB, FA, FV, FO, FB, h1, h2, rfl⟩ := h
  refine ⟨.inl rfl, fun b hb => ?_⟩
  rcases hb with rfl | hb
  · rw [h1.box]; simp
  · exact h1.dom b hb
theorem RunF.ext {gr : Nat} {p : Pg} {ns : List ByteArray} {σ : RS} {F : Nat → Prop} {m m' : Mem} (h : RunF gr p ns σ F m) (hm : ∀ b, F b → m' b = m b) : RunF gr p ns σ F m' := by
  obtain ⟨vA, vV, vO, vB, FA, FV, FO, FB, h1, h2, rfl⟩ := h
  refine ⟨vA, vV, vO, vB, FA, FV, FO, FB, ⟨?_, ?_, ?_, ?_, ?_, fun b hb => ?_, h1.nA, h1.nV, h1.nO, h1.nB, h1.dAV, h1.dAO, h1.dAB, h1.dVO, h1.dVB, h1.dOB⟩, h2, rfl⟩
  · rw [hm _ (.inl rfl)]; exact h1.box
  · exact h1.rA.mem fun b hb => hm b (.inr (.inl hb))
  · exact h1.rV.mem fun b hb => hm b (.inr (.inr (.inl hb)))
  · exact h1.rO.mem fun b hb => hm b (.inr (.inr (.inr (.inl hb))))
  · exact h1.rB.mem fun b hb => hm b (.inr (.inr (.inr (.inr hb))))
  · rw [hm b (.inr hb)]; exact h1.dom b hb
/-- What a call has done to the memory. -/
structure Turned (F F' : Nat → Prop) (m m' : Mem) : Prop where
  sub : ∀ b, F' b → F b ∨ m b = none
  keep : ∀ b y, ¬ F b → m b = some y → m' b = some y
theorem Turned.refl (F : Nat → Prop) (m : Mem) : Turned F F m m := ⟨fun _ h => .inl h, fun _ _ _ h => h⟩
theorem Turned.trans {F F' F'' : Nat → Prop} {a b c : Mem} (h : Turned F F' a b) (k : Turned F' F'' b c) : Turned F F'' a c := by
  refine ⟨fun x hx => ?_, fun x y hF hx => ?_⟩
  · rcases k.sub x hx with h1 | h1
    · exact h.sub x h1
    · by_cases hF : F x
      · exact .inl hF
      · refine .inr ?_
        cases hq : a x with
        | none => rfl
        | some y => rw [h.keep x y hF hq] at h1; cases h1
  · refine k.keep x y (fun hF' => ?_) (h.keep x y hF hx)
    rcases h.sub x hF' with h1 | h1
    · exact hF h1
    · rw [hx] at h1; cases h1
theorem Turned.box {F : Nat → Prop} {gr : Nat} {m m' : Mem} (hF : F gr) (h : ∀ b, b ≠ gr → m' b = m b) : Turned F F m m' :=
  ⟨fun _ h => .inl h, fun b y hb hy => by rw [h b (by rintro rfl; exact hb hF)]; exact hy⟩
theorem Small.burn {p : Pg} {ns : List ByteArray} {σ : RS} (h : Small p ns σ) : Small p ns σ.burn := by
  unfold RS.burn
  split
  · exact ⟨h.an, h.vn, h.arrs, h.ns, h.A, h.V, h.B, h.O, h.rows⟩
  · exact ⟨h.an, h.vn, h.arrs, h.ns, h.A, h.V, by have := h.B; dsimp only; omega, by have := h.O; dsimp only; omega, h.rows⟩
theorem RunF.burn {gr : Nat} {p : Pg} {ns : List ByteArray} {σ : RS} {F : Nat → Prop} {m : Mem} (h : RunF gr p ns σ F m) {K : AV → Mem → Prop}
    (hK : ∀ m', RunF gr p ns σ.burn F m' → Turned F F m m' → K (.bool (decide (σ.fu ≠ 0))) m') : WCall Tryz.prog 326 [.ptr gr 0] m K := by
  obtain ⟨vA, vV, vO, vB, FA, FV, FO, FB, h1, h2, rfl⟩ := h
  exact c_burn h1 (by have := h2.B; omega) fun m' h3 h4 => hK m' ⟨vA, vV, vO, vB, FA, FV, FO, FB, h3, h2.burn, rfl⟩ (Turned.box (.inl rfl) h4)
theorem RunF.trap {gr : Nat} {p : Pg} {ns : List ByteArray} {σ : RS} {F : Nat → Prop} {m : Mem} (h : RunF gr p ns σ F m) {K : AV → Mem → Prop}
    (hK : ∀ m', RunF gr p ns σ.trap F m' → Turned F F m m' → K (.bool false) m') : WCall Tryz.prog 329 [.ptr gr 0] m K := by
  obtain ⟨vA, vV, vO, vB, FA, FV, FO, FB, h1, h2, rfl⟩ := h
  exact c_trap h1 fun m' h3 h4 => hK m' ⟨vA, vV, vO, vB, FA, FV, FO, FB, h3, ⟨h2.an, h2.vn, h2.arrs, h2.ns, h2.A, h2.V, h2.B, h2.O, h2.rows⟩, rfl⟩ (Turned.box (.inl rfl) h4)
end Go.T
namespace Go.T
open Go Go.Proofs
set_option maxRecDepth 10000
set_option maxHeartbeats 1000000
set_option linter.unusedSimpArgs false
set_option linter.unusedVariables false
open Go
theorem own_bnds (m : Mem) (F : Nat → Prop) (B : List (ByteArray × Int)) : OwnTs m F (bndL B) (bndL B) := OwnTs.same fun a ha F => by
  obtain ⟨b, _, rfl⟩ := List.mem_map.1 ha
  exact ownT_agg (by rfl) F
theorem bndL_snoc (B : List (ByteArray × Int)) (b : ByteArray × Int) : bndL (B ++ [b]) = bndL B ++ [bAv b] := by simp [bndL]
/-- One more is bound. -/
theorem RunH.push {gr : Nat} {p : Pg} {ns : List ByteArray} {σ : RS} {vA vV vO vB : AV} {FA FV FO FB : Nat → Prop} {m : Mem} (h : RunH gr p ns σ vA vV vO vB FA FV FO FB m) (hl : σ.B.length ≤ 1048576) (s : ByteArray) (n : Int) {k : AV → Mem → Prop}
    (hk : ∀ v' m', m' gr = some (.box (runCells p ns vA vV vO vB σ.nd σ.fu)) → v'.cells = [v'] → okCell v' = true → v' ≠ .undef → (∀ F : Nat → Prop, F = (fun b => b = gr ∨ FA b ∨ FV b ∨ FO b ∨ FB b) → ∃ FB', RunH gr p ns { σ with B := σ.B ++ [(s, n)] } vA vV vO v' FA FV FO FB' (m'.set gr (.box (runCells p ns vA vV vO v' σ.nd σ.fu))) ∧
        Turned F (fun b => b = gr ∨ FA b ∨ FV b ∨ FO b ∨ FB' b) m (m'.set gr (.box (runCells p ns vA vV vO v' σ.nd σ.fu)))) → k v' m') :
    appendW Tryz.prog m k #[159, 159] vB (.lst true 2 [.agg [.str s, .int .i64 n]]) := by
  refine GrowO.app (x := bAv (s, n)) (A := fun _ => False) et_159 h.rB (fun b hb => h.dom b (.inr (.inr (.inr hb)))) (ownT_agg (by rfl) _) (fun b h => h.elim) (fun b _ h => h) rfl rfl (by simp [bndL]; omega) fun v' m' F' h1 h2 h3 h4 => ?_
  have hgr : m gr ≠ none := by rw [h.box]; simp
  have hbox := (h2 gr hgr h.nB).trans h.box
  have hn : ¬ F' gr := fun hF => by
    rcases h3 gr hF with h5 | h5 | h5
    · exact h.nB h5
    · exact h5
    · exact hgr h5
  have same : ∀ b, (FA b ∨ FV b ∨ FO b) → (m'.set gr (.box (runCells p ns vA vV vO v' σ.nd σ.fu))) b = m b := fun b hb => by
    have hbg : b ≠ gr := by
      rintro rfl
      rcases hb with hb | hb | hb
      · exact h.nA hb
      · exact h.nV hb
      · exact h.nO hb
    have hbB : ¬ FB b := by
      rcases hb with hb | hb | hb
      · exact h.dAB b hb
      · exact h.dVB b hb
      · exact h.dOB b hb
    have hbm : m b ≠ none := by
      rcases hb with hb | hb | hb
      · exact h.dom b (.inl hb)
      · exact h.dom b (.inr (.inl hb))
      · exact h.dom b (.inr (.inr (.inl hb)))
    rw [Mem.set_other hbg, h2 b hbm hbB]
  have apart : ∀ b, F' b → ¬ (FA b ∨ FV b ∨ FO b) := fun b hb hq => by
    rcases h3 b hb with h5 | h5 | h5
    · rcases hq with hq | hq | hq
      · exact h.dAB b hq h5
      · exact h.dVB b hq h5
      · exact h.dOB b hq h5
    · exact h5
    · rcases hq with hq | hq | hq
      · exact h.dom b (.inl hq) h5
      · exact h.dom b (.inr (.inl hq)) h5
      · exact h.dom b (.inr (.inr (.inl hq))) h5
  have shp := h1.shape
  have c3 : v'.cells = [v'] ∧ okCell v' = true ∧ v' ≠ .undef := by
    rcases shp with e | ⟨g, l, c, e⟩ <;> rw [e] <;> exact ⟨rfl, rfl, by simp⟩
  refine hk v' m' hbox c3.1 c3.2.1 c3.2.2 fun F hF => ⟨F', ⟨set_same _ _ _, ?_, ?_, ?_, ?_, fun b hb => ?_, h.nA, h.nV, h.nO, hn, h.dAV, h.dAO, fun b hb hq => apart b hq (.inl hb), h.dVO, fun b hb hq => apart b hq (.inr (.inl hb)), fun b hb hq => apart b hq (.inr (.inr hb))⟩, ⟨fun b hb => ?_, fun b y hb hy => ?_⟩⟩
  · exact h.rA.mem fun b hb => same b (.inl hb)
  · exact h.rV.mem fun b hb => same b (.inr (.inl hb))
  · exact h.rO.mem fun b hb => same b (.inr (.inr hb))
  · have h6 : GrowO 340 2 m' F' v' (bndL (σ.B ++ [(s, n)])) := by rw [bndL_snoc]; exact h1
    exact h6.mem fun b hb => Mem.set_other (by rintro rfl; exact hn hb)
  · by_cases hbg : b = gr
    · rw [hbg, set_same]; simp
    · rw [Mem.set_other hbg]
      have old : m b ≠ none → ¬ FB b → m' b ≠ none := fun h5 h6 => by rw [h2 b h5 h6]; exact h5
      rcases hb with hb | hb | hb | hb
      · exact old (h.dom b (.inl hb)) (h.dAB b hb)
      · exact old (h.dom b (.inr (.inl hb))) (h.dVB b hb)
      · exact old (h.dom b (.inr (.inr (.inl hb)))) (h.dOB b hb)
      · exact h4 b hb
  · subst hF
    rcases hb with hb | hb | hb | hb | hb
    · exact .inl (.inl hb)
    · exact .inl (.inr (.inl hb))
    · exact .inl (.inr (.inr (.inl hb)))
    · exact .inl (.inr (.inr (.inr (.inl hb))))
    · rcases h3 b hb with h5 | h5 | h5
      · exact .inl (.inr (.inr (.inr (.inr h5))))
      · exact h5.elim
      · exact .inr h5
  · subst hF
    have hbg : b ≠ gr := fun e => hb (.inl e)
    rw [Mem.set_other hbg, h2 b (by rw [hy]; simp) fun h5 => hb (.inr (.inr (.inr (.inr h5))))]
    exact hy
/-- The last that is bound is told no more. -/
theorem RunH.pop {gr : Nat} {p : Pg} {ns : List ByteArray} {σ : RS} {vA vV vO vB : AV} {FA FV FO FB : Nat → Prop} {m : Mem} (h : RunH gr p ns σ vA vV vO vB FA FV FO FB m) {B : List (ByteArray × Int)} {b : ByteArray × Int} (hB : σ.B = B ++ [b]) :
    ∃ g c, vB = .own g (B.length + 1) c ∧ g ≠ gr ∧ m g = some (.arr 340 2 c (bndL B ++ [bAv b])) ∧
      ∀ m', m' gr = some (.box (runCells p ns vA vV vO (.own g B.length c) σ.nd σ.fu)) → m' g = some (.arr 340 2 c (bndL B)) → (∀ b, b ≠ gr → b ≠ g → m' b = m b) → RunH gr p ns { σ with B := B } vA vV vO (.own g B.length c) FA FV FO FB m' ∧ Turned (fun b => b = gr ∨ FA b ∨ FV b ∨ FO b ∨ FB b) (fun b => b = gr ∨ FA b ∨ FV b ∨ FO b ∨ FB b) m m' := by
  have hr := h.rB
  rcases hr.leaf (leafy_bnds _) with ⟨rfl, h0⟩ | ⟨g, c, rfl, hg, hF⟩
  · rw [hB, bndL_snoc] at h0; simp at h0
  have hgr : g ≠ gr := by rintro rfl; exact h.nB hF
  rw [hB, bndL_snoc] at hg
  refine ⟨g, c, by rw [hB]; simp [bndL], hgr, hg, fun m' m1 m2 m3 => ⟨⟨m1, ?_, ?_, ?_, ?_, fun b hb => ?_, h.nA, h.nV, h.nO, h.nB, h.dAV, h.dAO, h.dAB, h.dVO, h.dVB, h.dOB⟩, fun _ h => .inl h, fun b y hb hy => ?_⟩⟩
  · exact h.rA.mem fun b hb => m3 b (by rintro rfl; exact h.nA hb) (by rintro rfl; exact h.dAB _ hb hF)
  · exact h.rV.mem fun b hb => m3 b (by rintro rfl; exact h.nV hb) (by rintro rfl; exact h.dVB _ hb hF)
  · exact h.rO.mem fun b hb => m3 b (by rintro rfl; exact h.nO hb) (by rintro rfl; exact h.dOB _ hb hF)
  · refine .inr ⟨g, c, bndL B, fun _ => False, by simp [bndL], m2, own_bnds _ _ _, fun h => h, fun b h => h.elim, hF⟩
  · by_cases h1 : b = gr
    · rw [h1, m1]; simp
    · by_cases h2 : b = g
      · rw [h2, m2]; simp
      · rw [m3 b h1 h2]; exact h.dom b hb
  · rw [m3 b (fun e => hb (.inl e)) (fun e => hb (.inr (.inr (.inr (.inr (e ▸ hF))))))]; exact hy
end Go.T
namespace Go.T
open Go Go.Proofs
set_option maxRecDepth 10000
set_option maxHeartbeats 1000000
set_option linter.unusedSimpArgs false
set_option linter.unusedVariables false
open Go
/-- What the call of statements comes to. -/
def AllC (n : FuncId) (P : Program) (d : Nat) (l : List Sm) : Prop :=
  ∀ (gr : Nat) (p : Pg) (ns : List ByteArray) (σ : RS) (F : Nat → Prop) (m : Mem), RunF gr p ns σ F m → σ.nd = 0 → (∀ q ∈ Sm.namesL 1 l, has ns q = true) → ∀ K : AV → Mem → Prop,
    (∀ m' F', RunF gr p ns (allR p.arrNames ns d l σ) F' m' → Turned F F' m m' → K (.bool (decide ((allR p.arrNames ns d l σ).nd = 0))) m') → WCall P n [.ptr gr 0, .lst false 19 (l.map Sm.av)] m K
theorem burn_0 {σ : RS} (h : σ.fu = 0) : σ.burn = { σ with nd := 2 } := by unfold RS.burn; rw [if_pos h]
theorem burn_1 {σ : RS} (h : σ.fu ≠ 0) : σ.burn = { σ with fu := σ.fu - 1 } := by unfold RS.burn; rw [if_neg h]
theorem c_loop (d : Nat) (k : Int) (s : ByteArray) (a e lo hi : Ex) (b : List Sm) (k3 : k = 3) (hlo : lo.good 1 = true) (hhi : hi.good 1 = true) (hb : AllC 113 Tryz.prog d b)
    {gr : Nat} {p : Pg} {ns : List ByteArray} {σ : RS} {F : Nat → Prop} {m : Mem} (hR : RunF gr p ns σ F m) (h0 : σ.nd = 0) (hns : ∀ q ∈ Sm.namesL 1 b, has ns q = true) {K : AV → Mem → Prop}
    (hK : ∀ m' F', RunF gr p ns (doneR p.arrNames ns (allR p.arrNames ns d b) (.mk k s a e lo hi b) σ) F' m' → Turned F F' m m' → K (.bool (decide ((doneR p.arrNames ns (allR p.arrNames ns d b) (.mk k s a e lo hi b) σ).nd = 0))) m') :
    WCall Tryz.prog 327 [.ptr gr 0, .agg (Sm.mk k s a e lo hi b).cells] m K := by
  have hgr := hR.at.1
  have hgm := hR.at.2 gr hgr
  refine wcall_of Tryz.func327 (by kernel_rfl) rfl (by simp [Tryz.f327]) ?_
  (repeat refine AWp.seq ?_); refine AWp.region noP (by kernel_rfl) ?_
  simp
  intro g hg
  refine AWp.sees (Sees.view (t := 3) (View.freezeB (g := g) (cs := (Sm.mk k s a e lo hi b).cells) (by simp [set_at]))) ?_
  refine AWp.gen (fun st => st.slots 0 = .ptr gr 0 ∧ st.slots 3 = .ref (Sm.mk k s a e lo hi b).cells ∧ st.mem = m) ⟨by simp, by simp, by simp [set_del hg]⟩ ?_
  rw [Sm.cells_mk]
  rintro st ⟨s0, s3, sm0⟩
  have c1 : ∀ K : AV → Mem → Prop, K (.tup [.int .i64 ((σ.ev p.arrNames ns lo).getD 0), .bool (σ.ev p.arrNames ns lo).isSome]) m → WCall Tryz.prog 328 [.ptr gr 0, .agg lo.cells] m K := c_eval lo 1 hlo gr p ns σ m hR.a
  have c2 : ∀ K : AV → Mem → Prop, K (.tup [.int .i64 ((σ.ev p.arrNames ns hi).getD 0), .bool (σ.ev p.arrNames ns hi).isSome]) m → WCall Tryz.prog 328 [.ptr gr 0, .agg hi.cells] m K := c_eval hi 1 hhi gr p ns σ m hR.a
  rw [doneR_for k3] at hK
  (repeat refine AWp.seq ?_); refine AWp.region noP (by kernel_rfl) ?_
  simp [s0, s3]
  refine aop_wcall _ _ _ _ _ _ _ _ rfl (eval_func _ _) ?_
  simp [sm0]
  refine c1 _ ?_
  simp
  generalize hrl : σ.ev p.arrNames ns lo = rl at *
  refine AWp.gen (fun st => st.slots 0 = .ptr gr 0 ∧ st.slots 3 = .ref (.int .i64 k :: .str s :: (a.cells ++ (e.cells ++ (lo.cells ++ (hi.cells ++ [.lst false 19 (b.map Sm.av)]))))) ∧ st.slots 5 = .int .i64 (rl.getD 0) ∧ st.slots 6 = .bool rl.isSome ∧ st.mem = m) ⟨by simp [s0], by simp [s3], by simp, by simp, by simp⟩ ?_
  clear s0 s3 sm0
  rintro st ⟨s0, s3, s5, s6, sm0⟩
  (repeat refine AWp.seq ?_); refine AWp.region noP (by kernel_rfl) ?_
  simp [s6]
  cases rl with
  | none =>
    (repeat refine AWp.seq ?_); refine AWp.condT (by simp) ?_
    (repeat refine AWp.seq ?_); refine AWp.region noP (by kernel_rfl) ?_
    simp [s0, sm0]
    refine aop_wcall _ _ _ _ _ _ _ _ rfl (eval_func _ _) ?_
    try simp [sm0]
    refine hR.trap fun m' h1 h2 => ?_
    try simp
    refine AWp.ret (post_retW rfl ⟨_, _, View.refl _ _, ?_⟩)
    simpa [RS.trap] using hK m' F h1 h2
  | some l =>
  (repeat refine AWp.seq ?_); refine AWp.condF (by simp) ?_
  refine AWp.skip ?_
  try simp
  simp at s5
  (repeat refine AWp.seq ?_); refine AWp.region noP (by kernel_rfl) ?_
  simp [s0, s3, sm0]
  refine aop_wcall _ _ _ _ _ _ _ _ rfl (eval_func _ _) ?_
  simp [sm0]
  refine c2 _ ?_
  simp
  generalize hrh : σ.ev p.arrNames ns hi = rh at *
  refine AWp.gen (fun st => st.slots 0 = .ptr gr 0 ∧ st.slots 3 = .ref (.int .i64 k :: .str s :: (a.cells ++ (e.cells ++ (lo.cells ++ (hi.cells ++ [.lst false 19 (b.map Sm.av)]))))) ∧ st.slots 5 = .int .i64 l ∧ st.slots 7 = .int .i64 (rh.getD 0) ∧ st.slots 6 = .bool rh.isSome ∧ st.mem = m) ⟨by simp [s0], by simp [s3], by simp [s5], by simp, by simp, by simp⟩ ?_
  clear s0 s3 s5 s6 sm0
  rintro st ⟨s0, s3, s5, s7, s6, sm0⟩
  (repeat refine AWp.seq ?_); refine AWp.region noP (by kernel_rfl) ?_
  simp [s6]
  cases rh with
  | none =>
    (repeat refine AWp.seq ?_); refine AWp.condT (by simp) ?_
    (repeat refine AWp.seq ?_); refine AWp.region noP (by kernel_rfl) ?_
    simp [s0, sm0]
    refine aop_wcall _ _ _ _ _ _ _ _ rfl (eval_func _ _) ?_
    try simp [sm0]
    refine hR.trap fun m' h1 h2 => ?_
    try simp
    refine AWp.ret (post_retW rfl ⟨_, _, View.refl _ _, ?_⟩)
    simpa [RS.trap] using hK m' F h1 h2
  | some h =>
  (repeat refine AWp.seq ?_); refine AWp.condF (by simp) ?_
  refine AWp.skip ?_
  try simp
  simp at s7
  dsimp only at hK
  generalize hbody : allR p.arrNames ns d b = body at *
  have hK2 : ∀ (m' : Mem) (F' : Nat → Prop), RunF gr p ns (loopR body s h (σ.fu + 1) l σ) F' m' → Turned F F' m m' → K (.bool (decide ((loopR body s h (σ.fu + 1) l σ).nd = 0))) m' := hK
  clear hK
  (repeat refine AWp.seq ?_); refine AWp.region noP (by kernel_rfl) ?_
  simp [s5]
  refine AWp.gen (fun st => st.slots 0 = .ptr gr 0 ∧ st.slots 3 = .ref (.int .i64 k :: .str s :: (a.cells ++ (e.cells ++ (lo.cells ++ (hi.cells ++ [.lst false 19 (b.map Sm.av)]))))) ∧ st.slots 7 = .int .i64 h ∧ st.slots 8 = .int .i64 l ∧ st.mem = m) ⟨by simp [s0], by simp [s3], by simp [s7], by simp, by simp [sm0]⟩ ?_
  clear s0 s3 s5 s6 s7 sm0
  rintro st ⟨s0, s3, s7, s8, sm0⟩
  refine AWp.cutA (fun st => ∃ F', RunF gr p ns (loopR body s h (σ.fu + 1) l σ) F' st.mem ∧ Turned F F' m st.mem ∧ (loopR body s h (σ.fu + 1) l σ).nd = 0) ?_ ?_
  · refine AWp.block (AWp.rounds (fun q st => ∃ (kk : Nat) (n : Int) (τ : RS) (F' : Nat → Prop), q = kk ∧ st.slots 0 = .ptr gr 0 ∧ st.slots 3 = .ref (.int .i64 k :: .str s :: (a.cells ++ (e.cells ++ (lo.cells ++ (hi.cells ++ [.lst false 19 (b.map Sm.av)]))))) ∧ st.slots 7 = .int .i64 h ∧ st.slots 8 = .int .i64 n ∧ RunF gr p ns τ F' st.mem ∧ Turned F F' m st.mem ∧ τ.nd = 0 ∧ τ.fu < kk ∧ loopR body s h (σ.fu + 1) l σ = loopR body s h kk n τ) (σ.fu + 1) ⟨σ.fu + 1, l, σ, F, rfl, s0, s3, s7, s8, by rw [sm0]; exact hR, by rw [sm0]; exact Turned.refl _ _, h0, by omega, rfl⟩ ?_)
    clear s0 s3 s7 s8 sm0
    rintro RR q st hRR ⟨kk, n, τ, F1, rfl, s0, s3, s7, s8, hR1, hT1, hn1, hfu, hr⟩
    cases q with
    | zero => omega
    | succ kk =>
    by_cases hn : n ≤ h
    · (repeat refine AWp.seq ?_); refine AWp.region noP (by kernel_rfl) ?_
      simp [s7, s8, hn]
      (repeat refine AWp.seq ?_); refine AWp.condT (by simp) ?_
      refine AWp.skip ?_
      try simp
      (repeat refine AWp.seq ?_); refine AWp.block ?_
      (repeat refine AWp.seq ?_); refine AWp.region noP (by kernel_rfl) ?_
      simp [s0]
      refine aop_wcall _ _ _ _ _ _ _ _ rfl (eval_func _ _) ?_
      try simp
      refine hR1.burn fun m1 hR2 hT2 => ?_
      try simp
      by_cases hf : τ.fu = 0
      · (repeat refine AWp.seq ?_); refine AWp.condT (by simp [hf]) ?_
        (repeat refine AWp.seq ?_); refine AWp.region noP (by kernel_rfl) ?_
        simp
        refine AWp.ret (post_retW rfl ⟨_, _, View.refl _ _, ?_⟩)
        have e : loopR body s h (σ.fu + 1) l σ = τ.burn := by
          rw [hr]
          unfold loopR
          rw [if_pos hn, if_pos (by rw [burn_0 hf]; simp)]
        rw [e] at hK2
        have := hK2 m1 F1 hR2 (hT1.trans hT2)
        rw [burn_0 hf] at this
        simpa using this
      · (repeat refine AWp.seq ?_); refine AWp.condF (by simp [hf]) ?_
        refine AWp.skip ?_
        try simp
        rw [burn_1 hf] at hR2
        have hr2 : loopR body s h (σ.fu + 1) l σ = if (body { τ with fu := τ.fu - 1, B := τ.B ++ [(s, n)] }).nd ≠ 0 then { body { τ with fu := τ.fu - 1, B := τ.B ++ [(s, n)] } with B := τ.B } else loopR body s h kk (IntKind.wrap .i64 (n + 1)) { body { τ with fu := τ.fu - 1, B := τ.B ++ [(s, n)] } with B := τ.B } := by
          rw [hr]
          conv => lhs; unfold loopR
          rw [if_pos hn, if_neg (by rw [burn_1 hf]; simpa using hn1), burn_1 hf]
        obtain ⟨_, _, _, _, _, _, _, _, _, hSm, _⟩ := id hR1
        have hS1 := hSm.B
        obtain ⟨vA, vV, vO, vB, FA, FV, FO, FB, hH, hS, hFe⟩ := hR2
        have hbx := hH.box
        unfold runCells at hbx
        have hlB := hS.B
        simp only at hlB
        (repeat refine AWp.seq ?_); refine AWp.regionG (fun _ => false) (fun i => i == 6) [0, 1, 2, 3, 4, 5, 6, 7, 8, 9, 11, 12, 10, 13] [0, 1, 2, 3, 4, 5, 6, 7, 8, 9, 10, 11, 12, 13] (by kernel_rfl) ?_
        simp [s0, s3, s8, hbx, literalA]
        refine RunH.push hH (by simp only; omega) s n fun v' m2 hb2 o1 o2 o3 hpush => ?_
        obtain ⟨FB', hH2, hT3⟩ := hpush F1 hFe
        unfold runCells at hb2
        simp [hb2, o1, o2, o3]
        refine AWp.gen (fun st => st.slots 0 = .ptr gr 0 ∧ st.slots 3 = .ref (.int .i64 k :: .str s :: (a.cells ++ (e.cells ++ (lo.cells ++ (hi.cells ++ [.lst false 19 (b.map Sm.av)]))))) ∧ st.slots 7 = .int .i64 h ∧ st.slots 8 = .int .i64 n ∧ ∃ F2, RunF gr p ns { τ with fu := τ.fu - 1, B := τ.B ++ [(s, n)] } F2 st.mem ∧ Turned F F2 m st.mem) ⟨by simp [s0], by simp [s3], by simp [s7], by simp [s8], _, ⟨vA, vV, vO, v', FA, FV, FO, FB', by simpa [runCells] using hH2, ⟨hS.an, hS.vn, hS.arrs, hS.ns, hS.A, hS.V, by simp; omega, hS.O, hS.rows⟩, rfl⟩, by simpa [runCells] using (hT1.trans hT2).trans hT3⟩ ?_
        clear s0 s3 s7 s8 hR1 hT1 hT2 hH hS hFe hbx hb2 hH2 hT3
        rintro st ⟨s0, s3, s7, s8, F2, hR2, hT2⟩
        (repeat refine AWp.seq ?_); refine AWp.region noP (by kernel_rfl) ?_
        simp [s0, s3]
        refine aop_wcall _ _ _ _ _ _ _ _ rfl (eval_func _ _) ?_
        try simp
        refine hb gr p ns _ F2 st.mem hR2 hn1 hns _ fun m3 F3 hR3 hT3 => ?_
        rw [hbody] at hR3 ⊢
        have hB3 : (body { τ with fu := τ.fu - 1, B := τ.B ++ [(s, n)] }).B = τ.B ++ [(s, n)] := by rw [← hbody]; exact allR_B d b _
        have hf3 : (body { τ with fu := τ.fu - 1, B := τ.B ++ [(s, n)] }).fu ≤ τ.fu - 1 := by rw [← hbody]; exact allR_fu d b _
        generalize hυ : body { τ with fu := τ.fu - 1, B := τ.B ++ [(s, n)] } = υ at *
        try simp
        obtain ⟨vA3, vV3, vO3, vB3, FA3, FV3, FO3, FB3, hH3, hS3, hF3⟩ := hR3
        obtain ⟨g3, c3, hv3, hg3r, hg3, hpop⟩ := hH3.pop hB3
        have hbx := hH3.box
        unfold runCells at hbx
        subst hv3
        have hlB := hS3.B
        rw [hB3] at hlB
        simp at hlB
        have hwl : IntKind.wrap .i64 (τ.B.length : Int) = (τ.B.length : Int) := wrap64 (by omega) (by omega)
        refine AWp.len (g := g3) (by simpa using hg3) fun hcap => ?_
        simp [bndL] at hcap
        have hsl : sliceA Tryz.prog 159 (.own g3 (τ.B.length + 1) c3) none (some (.int .i64 (τ.B.length : Int))) = some (.own g3 τ.B.length c3) := by
          have h1 : ¬ ((τ.B.length : Int) < 0) := by omega
          have h2 : τ.B.length ≤ c3 := by omega
          unfold sliceA
          simp only [es_159, boundA, h1, if_false, Int.toNat_natCast, h2, if_true]
        (repeat refine AWp.seq ?_); refine AWp.regionG (fun _ => false) (fun _ => false) [0, 1, 2, 3, 4, 5, 6, 7, 8, 9, 10, 11, 12, 13, 14] [0, 1, 2, 3, 4, 5, 6, 7, 8, 9, 10, 11, 12, 13, 14] (by kernel_rfl) ?_
        simp [s0, hbx, hwl, hsl]
        have htk : (bndL τ.B ++ [bAv (s, n)]).take τ.B.length = bndL τ.B := List.take_left' (by simp [bndL])
        refine AWp.sees (Sees.trunc (g := g3) (c := c3) (e := 2) (T := 340) (xs := bndL τ.B ++ [bAv (s, n)]) (by simp [set_at, hg3r]; exact hg3) τ.B.length) ?_
        rw [htk]
        refine AWp.gen (fun st => st.slots 0 = .ptr gr 0 ∧ st.slots 3 = .ref (.int .i64 k :: .str s :: (a.cells ++ (e.cells ++ (lo.cells ++ (hi.cells ++ [.lst false 19 (b.map Sm.av)]))))) ∧ st.slots 7 = .int .i64 h ∧ st.slots 8 = .int .i64 n ∧ st.slots 9 = .bool (decide (υ.nd = 0)) ∧ ∃ F2, RunF gr p ns { υ with B := τ.B } F2 st.mem ∧ Turned F F2 m st.mem) ⟨by simp [s0], by simp [s3], by simp [s7], by simp [s8], by simp, ?_⟩ ?_
        · obtain ⟨k1, k2⟩ := hpop ((m3.set gr (.box (runCells p ns vA3 vV3 vO3 (.own g3 τ.B.length c3) υ.nd υ.fu))).set g3 (.arr 340 2 c3 (bndL τ.B))) (by rw [Mem.set_other (Ne.symm hg3r)]; exact set_same _ _ _) (set_same _ _ _) fun b h1 h2 => by rw [Mem.set_other h2, Mem.set_other h1]
          have k3' : RunF gr p ns { υ with B := τ.B } F3 ((m3.set gr (.box (runCells p ns vA3 vV3 vO3 (.own g3 τ.B.length c3) υ.nd υ.fu))).set g3 (.arr 340 2 c3 (bndL τ.B))) :=
            ⟨vA3, vV3, vO3, .own g3 τ.B.length c3, FA3, FV3, FO3, FB3, k1, ⟨hS3.an, hS3.vn, hS3.arrs, hS3.ns, hS3.A, hS3.V, by simp; omega, hS3.O, hS3.rows⟩, hF3⟩
          rw [← hF3] at k2
          exact ⟨F3, by simpa [runCells] using k3', by simpa [runCells] using (hT2.trans hT3).trans k2⟩
        clear s0 s3 s7 s8 hT2 hT3 hH3 hS3 hF3 hpop hbx hg3 hR2
        rintro st ⟨s0, s3, s7, s8, s9, F4, hR4, hT4⟩
        (repeat refine AWp.seq ?_); refine AWp.region noP (by kernel_rfl) ?_
        simp [s9]
        by_cases hnd : υ.nd = 0
        · (repeat refine AWp.seq ?_); refine AWp.condF (by simp [hnd]) ?_
          refine AWp.skip ?_
          try simp
          (repeat refine AWp.seq ?_); refine AWp.region noP (by kernel_rfl) ?_
          simp [s8]
          refine hRR _ kk (by omega) ⟨kk, IntKind.wrap .i64 (n + 1), { υ with B := τ.B }, F4, rfl, by simp [s0], by simp [s3], by simp [s7], by simp, by simpa using hR4, by simpa using hT4, hnd, by simp only; omega, ?_⟩
          rw [hr2, if_neg (fun hc => hc hnd)]
        · (repeat refine AWp.seq ?_); refine AWp.condT (by simp [hnd]) ?_
          (repeat refine AWp.seq ?_); refine AWp.region noP (by kernel_rfl) ?_
          simp
          refine AWp.ret (post_retW rfl ⟨_, _, View.refl _ _, ?_⟩)
          rw [if_pos hnd] at hr2
          rw [hr2] at hK2
          have := hK2 _ F4 hR4 hT4
          simpa [hnd] using this
    · (repeat refine AWp.seq ?_); refine AWp.region noP (by kernel_rfl) ?_
      simp [s7, s8, hn]
      (repeat refine AWp.seq ?_); refine AWp.condF (by simp) ?_
      refine AWp.exit ?_
      have e : loopR body s h (σ.fu + 1) l σ = τ := by
        rw [hr]
        unfold loopR
        rw [if_neg hn]
      refine ⟨F1, by rw [e]; simpa using hR1, by simpa using hT1, by rw [e]; exact hn1⟩
  rintro st ⟨F1, hR1, hT1, hn1⟩
  (repeat refine AWp.seq ?_); refine AWp.region noP (by kernel_rfl) ?_
  simp
  refine AWp.ret (post_retW rfl ⟨_, _, View.refl _ _, ?_⟩)
  have := hK2 _ F1 hR1 hT1
  simpa [hn1] using this
end Go.T
namespace Go.T
open Go Go.Proofs
set_option maxRecDepth 10000
set_option maxHeartbeats 1000000
set_option linter.unusedSimpArgs false
set_option linter.unusedVariables false
open Go
/-- One more is printed. -/
theorem RunH.print {gr : Nat} {p : Pg} {ns : List ByteArray} {σ : RS} {vA vV vO vB : AV} {FA FV FO FB : Nat → Prop} {m : Mem} (h : RunH gr p ns σ vA vV vO vB FA FV FO FB m) (hl : σ.O.length ≤ 1048576) (n : Int) {k : AV → Mem → Prop}
    (hk : ∀ v' m', m' gr = some (.box (runCells p ns vA vV vO vB σ.nd σ.fu)) → v'.cells = [v'] → okCell v' = true → v' ≠ .undef → (∀ F : Nat → Prop, F = (fun b => b = gr ∨ FA b ∨ FV b ∨ FO b ∨ FB b) → ∃ FO', RunH gr p ns { σ with O := σ.O ++ [n] } vA vV v' vB FA FV FO' FB (m'.set gr (.box (runCells p ns vA vV v' vB σ.nd σ.fu))) ∧
        Turned F (fun b => b = gr ∨ FA b ∨ FV b ∨ FO' b ∨ FB b) m (m'.set gr (.box (runCells p ns vA vV v' vB σ.nd σ.fu)))) → k v' m') :
    appendW Tryz.prog m k #[54, 54] vO (.lst true 1 [.int .i64 n]) := by
  refine GrowO.app (x := .int .i64 n) (A := fun _ => False) et_54 h.rO (fun b hb => h.dom b (.inr (.inr (.inl hb)))) (.int _ _) (fun b h => h.elim) (fun b _ h => h) rfl rfl (by simp [intsL]; omega) fun v' m' F' h1 h2 h3 h4 => ?_
  have hgr : m gr ≠ none := by rw [h.box]; simp
  have hbox := (h2 gr hgr h.nO).trans h.box
  have hn : ¬ F' gr := fun hF => by
    rcases h3 gr hF with h5 | h5 | h5
    · exact h.nO h5
    · exact h5
    · exact hgr h5
  have same : ∀ b, (FA b ∨ FV b ∨ FB b) → (m'.set gr (.box (runCells p ns vA vV v' vB σ.nd σ.fu))) b = m b := fun b hb => by
    have hbg : b ≠ gr := by
      rintro rfl
      rcases hb with hb | hb | hb
      · exact h.nA hb
      · exact h.nV hb
      · exact h.nB hb
    have hbB : ¬ FO b := by
      rcases hb with hb | hb | hb
      · exact h.dAO b hb
      · exact h.dVO b hb
      · exact fun hq => h.dOB b hq hb
    have hbm : m b ≠ none := by
      rcases hb with hb | hb | hb
      · exact h.dom b (.inl hb)
      · exact h.dom b (.inr (.inl hb))
      · exact h.dom b (.inr (.inr (.inr hb)))
    rw [Mem.set_other hbg, h2 b hbm hbB]
  have apart : ∀ b, F' b → ¬ (FA b ∨ FV b ∨ FB b) := fun b hb hq => by
    rcases h3 b hb with h5 | h5 | h5
    · rcases hq with hq | hq | hq
      · exact h.dAO b hq h5
      · exact h.dVO b hq h5
      · exact h.dOB b h5 hq
    · exact h5
    · rcases hq with hq | hq | hq
      · exact h.dom b (.inl hq) h5
      · exact h.dom b (.inr (.inl hq)) h5
      · exact h.dom b (.inr (.inr (.inr hq))) h5
  have shp := h1.shape
  have c3 : v'.cells = [v'] ∧ okCell v' = true ∧ v' ≠ .undef := by
    rcases shp with e | ⟨g, l, c, e⟩ <;> rw [e] <;> exact ⟨rfl, rfl, by simp⟩
  refine hk v' m' hbox c3.1 c3.2.1 c3.2.2 fun F hF => ⟨F', ⟨set_same _ _ _, ?_, ?_, ?_, ?_, fun b hb => ?_, h.nA, h.nV, hn, h.nB, h.dAV, fun b hb hq => apart b hq (.inl hb), h.dAB, fun b hb hq => apart b hq (.inr (.inl hb)), h.dVB, fun b hb hq => apart b hb (.inr (.inr hq))⟩, ⟨fun b hb => ?_, fun b y hb hy => ?_⟩⟩
  · exact h.rA.mem fun b hb => same b (.inl hb)
  · exact h.rV.mem fun b hb => same b (.inr (.inl hb))
  · have h6 : GrowO 3 1 m' F' v' (intsL (σ.O ++ [n])) := by rw [show intsL (σ.O ++ [n]) = intsL σ.O ++ [.int .i64 n] by simp [intsL]]; exact h1
    exact h6.mem fun b hb => Mem.set_other (by rintro rfl; exact hn hb)
  · exact h.rB.mem fun b hb => same b (.inr (.inr hb))
  · by_cases hbg : b = gr
    · rw [hbg, set_same]; simp
    · rw [Mem.set_other hbg]
      have old : m b ≠ none → ¬ FO b → m' b ≠ none := fun h5 h6 => by rw [h2 b h5 h6]; exact h5
      rcases hb with hb | hb | hb | hb
      · exact old (h.dom b (.inl hb)) (h.dAO b hb)
      · exact old (h.dom b (.inr (.inl hb))) (h.dVO b hb)
      · exact h4 b hb
      · exact old (h.dom b (.inr (.inr (.inr hb)))) (fun hq => h.dOB b hq hb)
  · subst hF
    rcases hb with hb | hb | hb | hb | hb
    · exact .inl (.inl hb)
    · exact .inl (.inr (.inl hb))
    · exact .inl (.inr (.inr (.inl hb)))
    · rcases h3 b hb with h5 | h5 | h5
      · exact .inl (.inr (.inr (.inr (.inl h5))))
      · exact h5.elim
      · exact .inr h5
    · exact .inl (.inr (.inr (.inr (.inr hb))))
  · subst hF
    have hbg : b ≠ gr := fun e => hb (.inl e)
    rw [Mem.set_other hbg, h2 b (by rw [hy]; simp) fun h5 => hb (.inr (.inr (.inr (.inl h5))))]
    exact hy
/-- A name's value is set. -/
theorem RunH.setV {gr : Nat} {p : Pg} {ns : List ByteArray} {σ : RS} {vA vV vO vB : AV} {FA FV FO FB : Nat → Prop} {m : Mem} (h : RunH gr p ns σ vA vV vO vB FA FV FO FB m) {j : Nat} (hj : j < σ.V.length) :
    ∃ (T : TypeId) (g c : Nat), vV = .own g σ.V.length c ∧ m g = some (.arr T 1 c (intsL σ.V)) ∧ (∀ k, idxA Tryz.prog m 54 vV (.int k j) = some (.elt g 1 j 0)) ∧
      ∀ x : Int, RunH gr p ns { σ with V := σ.V.set j x } vA vV vO vB FA FV FO FB (m.set g (.arr T 1 c ((intsL σ.V).set j (.int .i64 x)))) ∧ Turned (fun b => b = gr ∨ FA b ∨ FV b ∨ FO b ∨ FB b) (fun b => b = gr ∨ FA b ∨ FV b ∨ FO b ∨ FB b) m (m.set g (.arr T 1 c ((intsL σ.V).set j (.int .i64 x)))) := by
  obtain ⟨T, g, c, hv, hg, hF, hx⟩ := row_at h.rV (leafy_ints _) (i := j) (by simpa [intsL] using hj)
  refine ⟨T, g, c, by rw [hv]; simp [intsL], hg, hx, fun x => ⟨⟨?_, ?_, ?_, ?_, ?_, fun b hb => ?_, h.nA, h.nV, h.nO, h.nB, h.dAV, h.dAO, h.dAB, h.dVO, h.dVB, h.dOB⟩, fun _ h => .inl h, fun b y hb hy => ?_⟩⟩
  · rw [Mem.set_other (by rintro rfl; exact h.nV hF)]; exact h.box
  · exact h.rA.mem fun b hb => Mem.set_other (by rintro rfl; exact h.dAV _ hb hF)
  · rw [hv]
    have e : (intsL σ.V).set j (.int .i64 x) = intsL (σ.V.set j x) := by simp [intsL, List.map_set]
    rw [e]
    refine .own (G := fun _ => False) (set_same _ _ _) (by simp [intsL]) (OwnTs.same fun a ha F => ?_) (fun h => h) (fun b h => h.elim) hF
    obtain ⟨n, _, rfl⟩ := List.mem_map.1 ha
    exact .int _ _
  · exact h.rO.mem fun b hb => Mem.set_other (by rintro rfl; exact h.dVO _ hF hb)
  · exact h.rB.mem fun b hb => Mem.set_other (by rintro rfl; exact h.dVB _ hF hb)
  · rw [set_at]; split
    · simp
    · exact h.dom b hb
  · rw [Mem.set_other (by rintro rfl; exact hb (.inr (.inr (.inl hF))))]; exact hy
end Go.T
namespace Go.T
open Go Go.Proofs
set_option maxRecDepth 10000
set_option maxHeartbeats 1000000
set_option linter.unusedSimpArgs false
set_option linter.unusedVariables false
open Go
theorem Small.set {p : Pg} {ns : List ByteArray} {σ : RS} (h : Small p ns σ) (j : Nat) (x : Int) : Small p ns { σ with V := σ.V.set j x } :=
  ⟨h.an, by simpa using h.vn, h.arrs, h.ns, h.A, by simpa using h.V, h.B, h.O, h.rows⟩
theorem Small.setA {p : Pg} {ns : List ByteArray} {σ : RS} (h : Small p ns σ) (k j : Nat) (x : Int) (hk : k < σ.A.length) : Small p ns (σ.setA k j x) := by
  refine ⟨by simpa [RS.setA] using h.an, h.vn, h.arrs, h.ns, by simpa [RS.setA] using h.A, h.V, h.B, h.O, fun r hr => ?_⟩
  unfold RS.setA at hr
  dsimp only at hr
  rcases List.mem_or_eq_of_mem_set hr with hr | rfl
  · exact h.rows r hr
  · rw [List.length_set, List.getD_eq_getElem?_getD, List.getElem?_eq_getElem hk]
    exact h.rows _ (List.getElem_mem hk)
theorem st_parts {k : Int} {s : ByteArray} {a e lo hi : Ex} {b : List Sm} {dd : Nat} (h : (Sm.mk k s a e lo hi b).right dd = true) :
    (k = 1 ∨ k = 2 ∨ k = 3 ∨ k = 4) ∧ (k ≠ 3 → e.good 1 = true) ∧ (k = 2 → a.good 1 = true) ∧ (k = 3 → lo.good 1 = true ∧ hi.good 1 = true ∧ Sm.rights b (dd + 1) = true) := by
  unfold Sm.right stHere Ex.ok at h
  by_cases k1 : k = 1
  · subst k1; simp at h; refine ⟨.inl rfl, fun _ => ?_, fun h => by simp at h, fun h => by simp at h⟩; simp_all
  · by_cases k2 : k = 2
    · subst k2; simp at h; refine ⟨.inr (.inl rfl), fun _ => ?_, fun _ => ?_, fun h => by simp at h⟩ <;> simp_all
    · by_cases k3 : k = 3
      · subst k3; simp at h; refine ⟨.inr (.inr (.inl rfl)), fun h => by simp at h, fun h => by simp at h, fun _ => ⟨?_, ?_, ?_⟩⟩ <;> simp_all
      · by_cases k4 : k = 4
        · subst k4; simp at h; refine ⟨.inr (.inr (.inr rfl)), fun _ => ?_, fun h => by simp at h, fun h => by simp at h⟩; simp_all
        · simp [k1, k2, k3, k4] at h
theorem names_bd (k : Int) (s : ByteArray) (a e lo hi : Ex) (b : List Sm) : ∀ q, (k = 1 ∧ q = s) ∨ q ∈ Sm.namesL 1 b ↔ q ∈ (Sm.mk k s a e lo hi b).names 1 := by
  intro q
  unfold Sm.names one
  rw [List.mem_append]
  by_cases hk : k = 1
  · simp [hk]
  · simp [hk]
def StC (n : FuncId) (P : Program) (d : Nat) (x : Sm) : Prop :=
  ∀ (gr : Nat) (p : Pg) (ns : List ByteArray) (σ : RS) (F : Nat → Prop) (m : Mem), RunF gr p ns σ F m → σ.nd = 0 → (∀ q ∈ x.names 1, has ns q = true) → ∀ K : AV → Mem → Prop,
    (∀ m' F', RunF gr p ns (stmtR p.arrNames ns (allR p.arrNames ns d x.bd) x σ) F' m' → Turned F F' m m' → K (.bool (decide ((stmtR p.arrNames ns (allR p.arrNames ns d x.bd) x σ).nd = 0))) m') → WCall P n [.ptr gr 0, .agg x.cells] m K
theorem c_stmt (d dd : Nat) (x : Sm) (hx : x.right dd = true) (hb : ∀ k s a e lo hi b, x = .mk k s a e lo hi b → k = 3 → AllC 113 Tryz.prog d b) : StC 223 Tryz.prog d x := by
  cases x with | mk k s a e lo hi b =>
  obtain ⟨hk, he, ha, h3⟩ := st_parts hx
  have hb := hb k s a e lo hi b rfl
  intro gr p ns σ F m hR h0 hns K hK
  have hns1 : k = 1 → has ns s = true := fun h => hns s ((names_bd k s a e lo hi b s).1 (.inl ⟨h, rfl⟩))
  have hns2 : ∀ q ∈ Sm.namesL 1 b, has ns q = true := fun q hq => hns q ((names_bd k s a e lo hi b q).1 (.inr hq))
  refine wcall_of Tryz.func223 (by kernel_rfl) rfl (by simp [Tryz.f223]) ?_
  (repeat refine AWp.seq ?_); refine AWp.region noP (by kernel_rfl) ?_
  simp
  intro g hg
  refine AWp.sees (Sees.view (t := 3) (View.freezeB (g := g) (cs := (Sm.mk k s a e lo hi b).cells) (by simp [set_at]))) ?_
  refine AWp.gen (fun st => st.slots 0 = .ptr gr 0 ∧ st.slots 3 = .ref (Sm.mk k s a e lo hi b).cells ∧ st.mem = m) ⟨by simp, by simp, by simp [set_del hg]⟩ ?_
  rw [Sm.cells_mk]
  rintro st ⟨s0, s3, sm0⟩
  (repeat refine AWp.seq ?_); refine AWp.region noP (by kernel_rfl) ?_
  simp [s0, sm0]
  refine aop_wcall _ _ _ _ _ _ _ _ rfl (eval_func _ _) ?_
  simp [sm0]
  refine hR.burn fun m1 hR1 hT1 => ?_
  try simp
  by_cases hf : σ.fu = 0
  · (repeat refine AWp.seq ?_); refine AWp.condT (by simp [hf]) ?_
    (repeat refine AWp.seq ?_); refine AWp.region noP (by kernel_rfl) ?_
    simp
    refine AWp.ret (post_retW rfl ⟨_, _, View.refl _ _, ?_⟩)
    have e1 : stmtR p.arrNames ns (allR p.arrNames ns d (Sm.mk k s a e lo hi b).bd) (.mk k s a e lo hi b) σ = σ.burn := by
      unfold stmtR
      rw [if_pos (by rw [burn_0 hf]; simp)]
    rw [e1] at hK
    have := hK m1 F hR1 hT1
    rw [burn_0 hf] at this
    simpa using this
  have e1 : stmtR p.arrNames ns (allR p.arrNames ns d (Sm.mk k s a e lo hi b).bd) (.mk k s a e lo hi b) σ = doneR p.arrNames ns (allR p.arrNames ns d b) (.mk k s a e lo hi b) { σ with fu := σ.fu - 1 } := by
    unfold stmtR
    rw [if_neg (by rw [burn_1 hf]; simpa using h0), burn_1 hf]
    rfl
  rw [e1] at hK
  rw [burn_1 hf] at hR1
  have hO1 : σ.O.length + 1 + (σ.fu - 1) ≤ 100000 := by
    obtain ⟨_, _, _, _, _, _, _, _, _, hSm, _⟩ := hR
    have := hSm.O
    omega
  clear hR
  generalize hτ : ({ σ with fu := σ.fu - 1 } : RS) = τ at *
  have h0 : τ.nd = 0 := by rw [← hτ]; exact h0
  have hO1 : τ.O.length + 1 + τ.fu ≤ 100000 := by rw [← hτ]; exact hO1
  (repeat refine AWp.seq ?_); refine AWp.condF (by simp [hf]) ?_
  refine AWp.skip ?_
  try simp
  refine AWp.gen (fun st => st.slots 0 = .ptr gr 0 ∧ st.slots 3 = .ref (.int .i64 k :: .str s :: (a.cells ++ (e.cells ++ (lo.cells ++ (hi.cells ++ [.lst false 19 (b.map Sm.av)]))))) ∧ st.mem = m1) ⟨by simp [s0], by simp [s3], by simp⟩ ?_
  clear s0 s3 sm0
  rintro st ⟨s0, s3, sm0⟩
  (repeat refine AWp.seq ?_); refine AWp.region noP (by kernel_rfl) ?_
  simp [s3]
  by_cases k3 : k = 3
  · (repeat refine AWp.seq ?_); refine AWp.condT (by simp [k3]) ?_
    have cl := @c_loop d k s a e lo hi b k3 (h3 k3).1 (h3 k3).2.1 (hb k3) gr p ns τ F m1 hR1 h0 hns2
    rw [Sm.cells_mk] at cl
    (repeat refine AWp.seq ?_); refine AWp.region noP (by kernel_rfl) ?_
    simp [s0, s3]
    refine aop_wcall _ _ _ _ _ _ _ _ rfl (eval_func _ _) ?_
    simp [sm0]
    refine cl fun m2 F2 hR2 hT2 => ?_
    try simp
    refine AWp.ret (post_retW rfl ⟨_, _, View.refl _ _, ?_⟩)
    simpa using hK m2 F2 hR2 (hT1.trans hT2)
  (repeat refine AWp.seq ?_); refine AWp.condF (by simp [k3]) ?_
  refine AWp.skip ?_
  try simp
  have c2 : ∀ K : AV → Mem → Prop, K (.tup [.int .i64 ((τ.ev p.arrNames ns e).getD 0), .bool (τ.ev p.arrNames ns e).isSome]) m1 → WCall Tryz.prog 328 [.ptr gr 0, .agg e.cells] m1 K := c_eval e 1 (he k3) gr p ns τ m1 hR1.a
  (repeat refine AWp.seq ?_); refine AWp.region noP (by kernel_rfl) ?_
  simp
  (repeat refine AWp.seq ?_); refine AWp.region noP (by kernel_rfl) ?_
  simp [s3]
  refine AWp.cutA (fun st => ∃ i : Int, (k = 2 → τ.ev p.arrNames ns a = some i) ∧ st.slots 0 = .ptr gr 0 ∧ st.slots 3 = .ref (.int .i64 k :: .str s :: (a.cells ++ (e.cells ++ (lo.cells ++ (hi.cells ++ [.lst false 19 (b.map Sm.av)]))))) ∧ st.slots 5 = .int .i64 i ∧ st.mem = m1) ?_ ?_
  · by_cases k2 : k = 2
    · (repeat refine AWp.seq ?_); refine AWp.condT (by simp [k2]) ?_
      have c1 : ∀ K : AV → Mem → Prop, K (.tup [.int .i64 ((τ.ev p.arrNames ns a).getD 0), .bool (τ.ev p.arrNames ns a).isSome]) m1 → WCall Tryz.prog 328 [.ptr gr 0, .agg a.cells] m1 K := c_eval a 1 (ha k2) gr p ns τ m1 hR1.a
      (repeat refine AWp.seq ?_); refine AWp.region noP (by kernel_rfl) ?_
      simp [s0, s3]
      refine aop_wcall _ _ _ _ _ _ _ _ rfl (eval_func _ _) ?_
      simp [sm0]
      refine c1 _ ?_
      simp
      rw [doneR_put k3 k2] at hK
      generalize hra : τ.ev p.arrNames ns a = ra at *
      refine AWp.gen (fun st => st.slots 0 = .ptr gr 0 ∧ st.slots 3 = .ref (.int .i64 k :: .str s :: (a.cells ++ (e.cells ++ (lo.cells ++ (hi.cells ++ [.lst false 19 (b.map Sm.av)]))))) ∧ st.slots 5 = .int .i64 (ra.getD 0) ∧ st.slots 6 = .bool ra.isSome ∧ st.mem = m1) ⟨by simp [s0], by simp [s3], by simp, by simp, by simp⟩ ?_
      clear s0 s3 sm0
      rintro st ⟨s0, s3, s5, s6, sm0⟩
      (repeat refine AWp.seq ?_); refine AWp.region noP (by kernel_rfl) ?_
      simp [s6]
      cases ra with
      | none =>
        (repeat refine AWp.seq ?_); refine AWp.condT (by simp) ?_
        (repeat refine AWp.seq ?_); refine AWp.region noP (by kernel_rfl) ?_
        simp [s0, sm0]
        refine aop_wcall _ _ _ _ _ _ _ _ rfl (eval_func _ _) ?_
        try simp [sm0]
        refine hR1.trap fun m2 h1 h2 => ?_
        try simp
        refine AWp.ret (post_retW rfl ⟨_, _, View.refl _ _, ?_⟩)
        have hK2 : ∀ m' F', RunF gr p ns τ.trap F' m' → Turned F F' m m' → K (.bool (decide (τ.trap.nd = 0))) m' := hK
        simpa [RS.trap] using hK2 m2 F h1 (hT1.trans h2)
      | some i =>
        (repeat refine AWp.seq ?_); refine AWp.condF (by simp) ?_
        refine AWp.skip ?_
        simp at s5
        exact ⟨i, fun _ => rfl, by simp [s0], by simp [s3], by simp [s5], by simp [sm0]⟩
    · (repeat refine AWp.seq ?_); refine AWp.condF (by simp [k2]) ?_
      refine AWp.skip ?_
      exact ⟨0, fun h => absurd h k2, by simp [s0], by simp [s3], by simp, by simp [sm0]⟩
  clear s0 s3 sm0
  rintro st ⟨i, hia, s0, s3, s5, sm0⟩
  (repeat refine AWp.seq ?_); refine AWp.region noP (by kernel_rfl) ?_
  simp [s0, s3]
  refine aop_wcall _ _ _ _ _ _ _ _ rfl (eval_func _ _) ?_
  simp [sm0]
  refine c2 _ ?_
  simp
  generalize hre : τ.ev p.arrNames ns e = re at *
  refine AWp.gen (fun st => st.slots 0 = .ptr gr 0 ∧ st.slots 3 = .ref (.int .i64 k :: .str s :: (a.cells ++ (e.cells ++ (lo.cells ++ (hi.cells ++ [.lst false 19 (b.map Sm.av)]))))) ∧ st.slots 5 = .int .i64 i ∧ st.slots 7 = .int .i64 (re.getD 0) ∧ st.slots 6 = .bool re.isSome ∧ st.mem = m1) ⟨by simp [s0], by simp [s3], by simp [s5], by simp, by simp, by simp⟩ ?_
  clear s0 s3 s5 sm0
  rintro st ⟨s0, s3, s5, s7, s6, sm0⟩
  (repeat refine AWp.seq ?_); refine AWp.region noP (by kernel_rfl) ?_
  simp [s6]
  cases re with
  | none =>
    have hK2 : ∀ m' F', RunF gr p ns τ.trap F' m' → Turned F F' m m' → K (.bool (decide (τ.trap.nd = 0))) m' := by
      by_cases k2 : k = 2
      · rw [doneR_put k3 k2, hia k2, hre] at hK
        exact hK
      · rw [doneR_val k3 k2, hre] at hK
        exact hK
    (repeat refine AWp.seq ?_); refine AWp.condT (by simp) ?_
    (repeat refine AWp.seq ?_); refine AWp.region noP (by kernel_rfl) ?_
    simp [s0, sm0]
    refine aop_wcall _ _ _ _ _ _ _ _ rfl (eval_func _ _) ?_
    try simp [sm0]
    refine hR1.trap fun m2 h1 h2 => ?_
    try simp
    refine AWp.ret (post_retW rfl ⟨_, _, View.refl _ _, ?_⟩)
    simpa [RS.trap] using hK2 m2 F h1 (hT1.trans h2)
  | some n =>
  (repeat refine AWp.seq ?_); refine AWp.condF (by simp) ?_
  refine AWp.skip ?_
  try simp
  simp at s7
  (repeat refine AWp.seq ?_); refine AWp.region noP (by kernel_rfl) ?_
  simp [s3]
  refine AWp.gen (fun st => st.slots 0 = .ptr gr 0 ∧ st.slots 3 = .ref (.int .i64 k :: .str s :: (a.cells ++ (e.cells ++ (lo.cells ++ (hi.cells ++ [.lst false 19 (b.map Sm.av)]))))) ∧ st.slots 5 = .int .i64 i ∧ st.slots 7 = .int .i64 n ∧ st.slots 44 = .int .i64 k ∧ st.mem = m1) ⟨by simp [s0], by simp [s3], by simp [s5], by simp [s7], by simp, by simp [sm0]⟩ ?_
  clear s0 s3 s5 s6 s7 sm0
  rintro st ⟨s0, s3, s5, s7, s44, sm0⟩
  generalize hRES : doneR p.arrNames ns (allR p.arrNames ns d b) (.mk k s a e lo hi b) τ = RES at *
  refine AWp.cutA (fun st => RES.nd = 0 ∧ ∃ F2, RunF gr p ns RES F2 st.mem ∧ Turned F F2 m st.mem) ?_ ?_
  · obtain ⟨vA, vV, vO, vB, FA, FV, FO, FB, hH, hS, hFe⟩ := id hR1
    have hbx := hH.box
    unfold runCells at hbx
    (repeat refine AWp.seq ?_); refine AWp.block ?_
    (repeat refine AWp.seq ?_); refine AWp.region noP (by kernel_rfl) ?_
    simp [s44]
    by_cases k1 : k = 1
    · (repeat refine AWp.seq ?_); refine AWp.condT (by simp [k1]) ?_
      rw [doneR_val k3 (by omega), hre] at hRES
      dsimp only at hRES
      rw [if_pos k1] at hRES
      have hns0 := hS.ns
      have hat : 0 ≤ at_ ns s := (idxAt_has s ns 0).2 (hns1 k1)
      have hlt : at_ ns s < ns.length := by
        rcases idxAt_lt s ns 0 with h | ⟨h, _⟩
        · have := h.2; unfold at_; omega
        · have := hns1 k1; rw [h] at this; simp [has] at this
      obtain ⟨j, hj⟩ := Int.eq_ofNat_of_zero_le hat
      have hjl : j < τ.V.length := by rw [hS.vn]; omega
      obtain ⟨T, g, c, q1, q2, q3, q4⟩ := hH.setV hjl
      have q4 := q4 n
      have hy : (intsL τ.V)[j]? = some (.int .i64 τ.V[j]) := by simp [intsL, List.getElem?_eq_getElem hjl]
      (repeat refine AWp.seq ?_); refine AWp.regionG (fun i => i == 11) (fun i => i == 10) [0, 1, 2, 3, 4, 5, 6, 7, 8, 9, 10, 11, 12, 13, 14] [0, 1, 2, 3, 4, 5, 6, 7, 8, 9, 10, 11, 12, 13, 14] (by kernel_rfl) ?_
      simp [s0, s3, sm0, hbx]
      refine aop_call' (c_Index ns s (by omega)) ?_
      simp [s7, sm0, hj, q3, q2, hy, storeA]
      refine ⟨by rw [← hRES]; exact h0, F, ?_, ?_⟩
      · rw [← hRES, hj]
        exact ⟨vA, vV, vO, vB, FA, FV, FO, FB, by simpa using q4.1, by simpa using hS.set j n, hFe⟩
      · have := q4.2
        rw [← hFe] at this
        exact hT1.trans this
    (repeat refine AWp.seq ?_); refine AWp.condF (by simp [k1]) ?_
    (repeat refine AWp.seq ?_); refine AWp.region noP (by kernel_rfl) ?_
    simp [s44]
    by_cases k4 : k = 4
    · (repeat refine AWp.seq ?_); refine AWp.condT (by simp [k4]) ?_
      rw [doneR_val k3 (by omega), hre] at hRES
      dsimp only at hRES
      rw [if_neg k1] at hRES
      (repeat refine AWp.seq ?_); refine AWp.region noP (by kernel_rfl) ?_
      simp [s0, sm0, hbx, s7, literalA]
      refine RunH.print hH (by omega) n fun v' m2 hb2 o1 o2 o3 hpr => ?_
      obtain ⟨FO', hH2, hT3⟩ := hpr F hFe
      unfold runCells at hb2
      simp [hb2, o1, o2, o3]
      refine ⟨by rw [← hRES]; exact h0, (fun b => b = gr ∨ FA b ∨ FV b ∨ FO' b ∨ FB b), ?_, ?_⟩
      rotate_left
      · simpa [runCells] using hT1.trans hT3
      · rw [← hRES]
        exact ⟨vA, vV, v', vB, FA, FV, FO', FB, by simpa [runCells] using hH2, ⟨hS.an, hS.vn, hS.arrs, hS.ns, hS.A, hS.V, hS.B, by simp; omega, hS.rows⟩, rfl⟩
    (repeat refine AWp.seq ?_); refine AWp.condF (by simp [k4]) ?_
    have k2 : k = 2 := by omega
    rw [doneR_put k3 k2, hia k2, hre] at hRES
    (repeat refine AWp.seq ?_); refine AWp.region noP (by kernel_rfl) ?_
    simp [s0, s3, s5, sm0]
    refine aop_wcall _ _ _ _ _ _ _ _ rfl (eval_func _ _) ?_
    simp [sm0]
    refine c_place hH hS s i (fun hp => ?_) (fun kk j Tg g cg row hpl hrow hjl hg2 hF hst => ?_)
    · try simp
      (repeat refine AWp.seq ?_); refine AWp.region noP (by kernel_rfl) ?_
      simp
      (repeat refine AWp.seq ?_); refine AWp.condT (by simp) ?_
      (repeat refine AWp.seq ?_); refine AWp.region noP (by kernel_rfl) ?_
      simp [s0]
      refine aop_wcall _ _ _ _ _ _ _ _ rfl (eval_func _ _) ?_
      try simp
      refine hR1.trap fun m2 h1 h2 => ?_
      try simp
      refine AWp.ret (post_retW rfl ⟨_, _, View.refl _ _, ?_⟩)
      simp only [hp] at hRES
      rw [← hRES] at hK
      simpa [RS.trap] using hK m2 F h1 (hT1.trans h2)
    · try simp
      simp only [hpl] at hRES
      (repeat refine AWp.seq ?_); refine AWp.region noP (by kernel_rfl) ?_
      simp
      (repeat refine AWp.seq ?_); refine AWp.condF (by simp) ?_
      refine AWp.skip ?_
      try simp
      have hy : (intsL row)[j]? = some (.int .i64 row[j]) := by simp [intsL, List.getElem?_eq_getElem hjl]
      have hkl : kk < τ.A.length := (List.getElem?_eq_some_iff.1 hrow).1
      (repeat refine AWp.seq ?_); refine AWp.region noP (by kernel_rfl) ?_
      simp [s7, sm0, hg2, hy, storeA]
      refine ⟨by rw [← hRES]; exact h0, F, ?_, ?_⟩
      · rw [← hRES]
        exact ⟨vA, vV, vO, vB, FA, FV, FO, FB, by simpa using hH.store hF (hst n), hS.setA kk j n hkl, hFe⟩
      · refine hT1.trans ⟨fun _ h => .inl h, fun b y hb hy => ?_⟩
        rw [Mem.set_other (by rintro rfl; rw [hFe] at hb; exact hb (.inr (.inl hF)))]
        exact hy
  rintro st ⟨hnd, F2, hR2, hT2⟩
  (repeat refine AWp.seq ?_); refine AWp.region noP (by kernel_rfl) ?_
  simp
  refine AWp.ret (post_retW rfl ⟨_, _, View.refl _ _, ?_⟩)
  simpa [hnd] using hK _ F2 hR2 hT2
theorem allR_stuck {an ns : List ByteArray} (d : Nat) : ∀ (l : List Sm) (σ : RS), σ.nd ≠ 0 → allR an ns (d + 1) l σ = σ := by
  intro l σ h
  unfold allR
  induction l with
  | nil => rfl
  | cons x l ih => rw [List.foldl_cons, if_pos h]; exact ih
theorem c_all0 (d : Nat) (l : List Sm) (h : ∀ x ∈ l, StC 223 Tryz.prog d x) (hl : l.length ≤ 1099511627776) : AllC 113 Tryz.prog (d + 1) l := by
  intro gr p ns σ F m hR h0 hns K hK
  have hgr := hR.at.1
  refine wcall_of Tryz.func113 (by kernel_rfl) rfl (by simp [Tryz.f113]) ?_
  (repeat refine AWp.seq ?_); refine AWp.region noP (by kernel_rfl) ?_
  try simp
  (repeat refine AWp.seq ?_); refine AWp.region noP (by kernel_rfl) ?_
  simp
  refine AWp.cutA (fun st => (allR p.arrNames ns (d + 1) l σ).nd = 0 ∧ ∃ F', RunF gr p ns (allR p.arrNames ns (d + 1) l σ) F' st.mem ∧ Turned F F' m st.mem) ?_ ?_
  · refine AWp.block (AWp.rounds (fun q st => ∃ (i : Nat) (τ : RS) (F' : Nat → Prop), q = l.length - i ∧ i ≤ l.length ∧ st.slots 0 = .ptr gr 0 ∧ st.slots 7 = .lst false 19 (l.map Sm.av) ∧ st.slots 8 = .int .i64 l.length ∧ st.slots 9 = .int .i64 i ∧ RunF gr p ns τ F' st.mem ∧ Turned F F' m st.mem ∧ τ.nd = 0 ∧ allR p.arrNames ns (d + 1) l σ = allR p.arrNames ns (d + 1) (l.drop i) τ) l.length ⟨0, σ, F, by simp, by simp, by simp, by simp, by simp, by simp, by simpa using hR, by simpa using Turned.refl F m, h0, by simp⟩ ?_)
    rintro RR q st hRR ⟨i, τ, F1, rfl, hi, s0, s7, s8, s9, hR1, hT1, hn1, hr⟩
    by_cases hb : i < l.length
    · have hx : ∀ m, idxA Tryz.prog m 36 (.lst false 19 (l.map Sm.av)) (.int .i64 i) = some (.ref l[i].cells) := fun m => idx (y := l[i].av) es_36 (by simp [List.getElem?_eq_getElem hb])
      have hw : IntKind.wrap .i64 ((i : Int) + 1) = (i + 1 : Nat) := wrap64 (by omega) (by omega)
      have hd : allR p.arrNames ns (d + 1) (l.drop i) τ = allR p.arrNames ns (d + 1) (l.drop (i + 1)) (stmtR p.arrNames ns (allR p.arrNames ns d l[i].bd) l[i] τ) := by
        conv => lhs; unfold allR
        rw [List.drop_eq_getElem_cons hb, List.foldl_cons, if_neg (fun hc => hc hn1)]
        conv => rhs; unfold allR
      have hnm : ∀ q ∈ l[i].names 1, has ns q = true := fun q hq => hns q (by
        have : ∀ (l : List Sm) (x : Sm), x ∈ l → ∀ q ∈ x.names 1, q ∈ Sm.namesL 1 l := by
          intro l x
          induction l with
          | nil => intro h; cases h
          | cons y l ih =>
            intro h q hq
            unfold Sm.namesL
            rw [List.mem_append]
            rcases List.mem_cons.1 h with rfl | h
            · exact .inl hq
            · exact .inr (ih h q hq)
        exact this l _ (List.getElem_mem hb) q hq)
      (repeat refine AWp.seq ?_); refine AWp.region noP (by kernel_rfl) ?_
      simp [s8, s9, hb]
      (repeat refine AWp.seq ?_); refine AWp.condT (by simp) ?_
      refine AWp.skip ?_
      try simp
      (repeat refine AWp.seq ?_); refine AWp.block ?_
      (repeat refine AWp.seq ?_); refine AWp.region noP (by kernel_rfl) ?_
      simp [s7, s9, hx]
      intro g hg
      have hgF : ¬ F1 g := fun hF => hR1.at.2 g hF hg
      (repeat refine AWp.seq ?_); refine AWp.region noP (by kernel_rfl) ?_
      simp [s0, set_at]
      refine aop_wcall _ _ _ _ _ _ _ _ rfl (eval_func _ _) ?_
      try simp
      have hR2 : RunF gr p ns τ F1 (st.mem.set g (.box l[i].cells)) := hR1.ext fun b hb => Mem.set_other (by rintro rfl; exact hgF hb)
      have hT2 : Turned F F1 m (st.mem.set g (.box l[i].cells)) := hT1.trans ⟨fun _ h => .inl h, fun b y _ hy => by rw [Mem.set_other (by rintro rfl; rw [hg] at hy; cases hy)]; exact hy⟩
      refine h l[i] (List.getElem_mem hb) gr p ns τ F1 _ (by simpa [set_at] using hR2) hn1 hnm _ fun m2 F2 hR3 hT3 => ?_
      generalize hυ : stmtR p.arrNames ns (allR p.arrNames ns d l[i].bd) l[i] τ = υ at *
      try simp
      by_cases hnd : υ.nd = 0
      · (repeat refine AWp.seq ?_); refine AWp.condF (by simp [hnd]) ?_
        refine AWp.skip ?_
        try simp
        (repeat refine AWp.seq ?_); refine AWp.region noP (by kernel_rfl) ?_
        simp [s9, hw]
        refine hRR _ (l.length - (i + 1)) (by omega) ⟨i + 1, υ, F2, rfl, by omega, by simp [s0], by simp [s7], by simp [s8], by simp, by simpa using hR3, by simpa using hT2.trans (by simpa [set_at] using hT3), hnd, by rw [hr, hd]⟩
      · (repeat refine AWp.seq ?_); refine AWp.condT (by simp [hnd]) ?_
        (repeat refine AWp.seq ?_); refine AWp.region noP (by kernel_rfl) ?_
        simp
        refine AWp.ret (post_retW rfl ⟨_, _, View.refl _ _, ?_⟩)
        have e : allR p.arrNames ns (d + 1) l σ = υ := by rw [hr, hd, allR_stuck _ _ _ hnd]
        rw [e] at hK
        have := hK m2 F2 hR3 (hT2.trans (by simpa [set_at] using hT3))
        simpa [hnd] using this
    · have : i = l.length := by omega
      subst this
      (repeat refine AWp.seq ?_); refine AWp.region noP (by kernel_rfl) ?_
      simp [s8, s9]
      (repeat refine AWp.seq ?_); refine AWp.condF (by simp) ?_
      refine AWp.exit ?_
      have e : allR p.arrNames ns (d + 1) l σ = τ := by
        rw [hr, List.drop_length]
        unfold allR
        rfl
      refine ⟨by rw [e]; exact hn1, F1, by rw [e]; simpa using hR1, by simpa using hT1⟩
  rintro st ⟨hnd, F2, hR2, hT2⟩
  (repeat refine AWp.seq ?_); refine AWp.region noP (by kernel_rfl) ?_
  simp
  refine AWp.ret (post_retW rfl ⟨_, _, View.refl _ _, ?_⟩)
  simpa [hnd] using hK _ F2 hR2 hT2
theorem rights_all : ∀ (l : List Sm) (dd : Nat), Sm.rights l dd = true → ∀ x ∈ l, x.right dd = true := by
  intro l dd
  induction l with
  | nil => intro _ x hx; cases hx
  | cons y l ih =>
    intro h x hx
    unfold Sm.rights at h
    simp only [Bool.and_eq_true] at h
    rcases List.mem_cons.1 hx with rfl | hx
    · exact h.1
    · exact ih h.2 x hx
theorem c_all : ∀ (d : Nat) (l : List Sm) (dd : Nat), totL Sm.tot l ≤ d → d ≤ 1048576 → (∀ x ∈ l, x.right dd = true) → AllC 113 Tryz.prog (d + 1) l := by
  intro d
  induction d with
  | zero =>
    intro l dd hl _ _
    have : l = [] := by
      cases l with
      | nil => rfl
      | cons x l => simp [totL] at hl
    subst this
    exact c_all0 0 [] (fun x hx => by cases hx) (by simp)
  | succ d ih =>
    intro l dd hl hd hr
    have hlen := totL_len Sm.tot l
    refine c_all0 (d + 1) l (fun x hx => ?_) (by omega)
    have hx2 := totL_mem Sm.tot hx
    refine c_stmt (d + 1) dd x (hr x hx) fun k s a e lo hi b hxe k3 => ?_
    subst hxe
    refine ih b (dd + 1) ?_ (by omega) ?_
    · rw [Sm.tot_mk] at hx2; omega
    · exact rights_all b (dd + 1) ((st_parts (hr _ hx)).2.2.2 k3).2.2
end Go.T
namespace Go.T
open Go Go.Proofs
set_option maxRecDepth 10000
set_option maxHeartbeats 1000000
set_option linter.unusedSimpArgs false
set_option linter.unusedVariables false
open Go
theorem post_cellWR {P : Program} {fn : Func} {a : Tmp} {T : TypeId} {k : AV → Mem → Prop} {e : Exit} {s : St} {r : AV} (he : e = .ret ∨ e = .normal) (hr : fn.results = #[.cell a T]) (h : loadA P s.mem T (s.slots a) = some r) {r' : AV} {m' : Mem} (hv : View s.mem r m' r') (hk : k r' m') : Post P fn k e s := by
  have : ∃ vs r m', resA P s.mem s.slots fn.results.toList = some vs ∧ View s.mem (oneOf vs) m' r ∧ k r m' := ⟨[r], r', m', by rw [hr]; simp [resA, h], hv, hk⟩
  rcases he with rfl | rfl <;> exact this
def zeros (n : Nat) : List Int := List.replicate n 0
def newA (p : Pg) : List (List Int) := p.arrs.map fun a => zeros a.n.toNat
def zSto : List AV := [.lst true 0 [], .lst true 0 [], .lst true 0 [], .int .i64 0]
theorem own_ints (m : Mem) (F : Nat → Prop) (l : List Int) : OwnTs m F (intsL l) (intsL l) := OwnTs.same fun a ha F => by
  obtain ⟨n, _, rfl⟩ := List.mem_map.1 ha
  exact .int _ _
theorem own_zeros {m : Mem} {g : Nat} {E : TypeId} {n : Nat} (h : m g = some (.arr E 1 n (List.replicate n (.int .i64 0)))) : OwnT m (fun b => b = g) (.own g n n) (.lst false 1 (intsL (zeros n))) := by
  have e : List.replicate n (AV.int .i64 0) = intsL (zeros n) := by simp [intsL, zeros]
  rw [e] at h
  exact .own (G := fun _ => False) h (by simp [intsL, zeros]) (own_ints _ _ _) (fun h => h) (fun b h => h.elim) rfl
/-- A store that is made: its box, its rows. -/
structure Sn (m : Mem) (g2 g3 : Nat) (L : List (List Int)) (st : St) : Prop where
  s2 : st.slots 2 = .ptr g2 0
  s3 : st.slots 3 = .ptr g3 0
  b2 : st.mem g2 = some (.box zSto)
  ext : Ext m st.mem
  row : ∃ vA FA, st.mem g3 = some (.box [vA, .lst true 0 [], .lst true 0 [], .int .i64 0]) ∧ GrowO 54 1 st.mem FA vA (rowsL L) ∧ (∀ b, FA b → st.mem b ≠ none ∧ m b = none) ∧ ¬ FA g2 ∧ ¬ FA g3
theorem Sn.grow {m : Mem} {g2 g3 : Nat} {L : List (List Int)} {st st' : St} (h : Sn m g2 g3 L st) (hE : Ext st.mem st'.mem) (e2 : st'.slots 2 = st.slots 2) (e3 : st'.slots 3 = st.slots 3) : Sn m g2 g3 L st' := by
  obtain ⟨vA, FA, r1, r2, r3, r4, r5⟩ := h.row
  exact ⟨e2.trans h.s2, e3.trans h.s3, hE _ _ h.b2, h.ext.trans hE, vA, FA, hE _ _ r1, r2.mem fun b hb => ext_at hE (r3 b hb).1, fun b hb => ⟨by rw [ext_at hE (r3 b hb).1]; exact (r3 b hb).1, (r3 b hb).2⟩, r4, r5⟩
theorem newA_take (p : Pg) (i : Nat) (h : i < p.arrs.length) : (newA p).take (i + 1) = (newA p).take i ++ [zeros p.arrs[i].n.toNat] := by
  unfold newA
  rw [List.take_add_one, List.getElem?_map, List.getElem?_eq_getElem h]
  rfl
theorem c_impl_StoNew (p : Pg) (hf : p.Fine) (ht : totL Sm.tot p.body ≤ 1048576) {m : Mem} {K : AV → Mem → Prop}
    (hK : ∀ (vA vV : AV) (FA FV : Nat → Prop) (m' : Mem), Ext m m' → OwnT m' FA vA (.lst false 1 (rowsL (newA p))) → OwnT m' FV vV (.lst false 1 (intsL (zeros p.vars.length))) → (∀ b, FA b ∨ FV b → m b = none ∧ m' b ≠ none) → (∀ b, FA b → ¬ FV b) → vA.cells = [vA] → vV.cells = [vV] → okCell vA = true → okCell vV = true → K (.agg [vA, vV, .lst true 0 [], .int .i64 0]) m') :
    WCall Tryz.prog 112 [p.av] m K := by
  have hal := hf.arrs
  unfold Pg.av Pg.cells
  refine wcall_of Tryz.func112 (by kernel_rfl) rfl (by simp [Tryz.f112]) ?_
  (repeat refine AWp.seq ?_); refine AWp.region noP (by kernel_rfl) ?_
  simp
  intro g1 hg1 g2 hg2
  have h12 : g2 ≠ g1 := fun e => by rw [e] at hg2; simp [set_at] at hg2
  have hg2m : m g2 = none := by rw [Mem.set_other h12] at hg2; exact hg2
  (repeat refine AWp.seq ?_); refine AWp.region noP (by kernel_rfl) ?_
  simp
  intro g3 hg3
  have h32 : g3 ≠ g2 := fun e => by rw [e] at hg3; simp [set_at] at hg3
  have h31 : g3 ≠ g1 := fun e => by rw [e, Mem.set_other (Ne.symm h12)] at hg3; simp [set_at] at hg3
  have hg3m : m g3 = none := by rw [Mem.set_other h32, Mem.set_other h31] at hg3; exact hg3
  refine AWp.sees (Sees.view (t := 1) (View.freezeB (g := g1) (cs := [.lst false 2 (p.arrs.map Ar.av), .lst false 19 (p.body.map Sm.av)]) (by simp [set_at, Ne.symm h12, Ne.symm h31]))) ?_
  refine AWp.gen (fun st => st.slots 1 = .ref [.lst false 2 (p.arrs.map Ar.av), .lst false 19 (p.body.map Sm.av)] ∧ Sn m g2 g3 [] st) ⟨by simp, ⟨by simp, by simp, by simp [set_at, Mem.del, h12, h31, Ne.symm h32, zSto], ?_, .lst true 0 [], fun _ => False, by simp [set_at, Mem.del, h31], .inl ⟨rfl, rfl⟩, fun b h => h.elim, fun h => h, fun h => h⟩⟩ ?_
  · intro k x hk
    have k1 : k ≠ g1 := by rintro rfl; rw [hg1] at hk; cases hk
    have k2 : k ≠ g2 := by rintro rfl; rw [hg2m] at hk; cases hk
    have k3 : k ≠ g3 := by rintro rfl; rw [hg3m] at hk; cases hk
    simp [set_at, Mem.del, k1, k2, k3, hk]
  rintro st ⟨s1, hS⟩
  (repeat refine AWp.seq ?_); refine AWp.region noP (by kernel_rfl) ?_
  simp [s1]
  refine AWp.cutA (fun st => st.slots 1 = .ref [.lst false 2 (p.arrs.map Ar.av), .lst false 19 (p.body.map Sm.av)] ∧ Sn m g2 g3 (newA p) st) ?_ ?_
  · refine AWp.block (AWp.rounds (fun q st => ∃ i : Nat, q = p.arrs.length - i ∧ i ≤ p.arrs.length ∧ st.slots 1 = .ref [.lst false 2 (p.arrs.map Ar.av), .lst false 19 (p.body.map Sm.av)] ∧ st.slots 8 = .lst false 2 (p.arrs.map Ar.av) ∧ st.slots 9 = .int .i64 p.arrs.length ∧ st.slots 10 = .int .i64 i ∧ Sn m g2 g3 ((newA p).take i) st) p.arrs.length ⟨0, by simp, by simp, by simp [s1], by simp, by simp, by simp, by rw [List.take_zero]; exact hS.grow (by first | exact Ext.refl _ | (simpa using Ext.refl _)) (by first | rfl | simp) (by first | rfl | simp)⟩ ?_)
    clear s1 hS
    rintro RR q st hRR ⟨i, rfl, hi, s1, s8, s9, s10, hS⟩
    by_cases hb : i < p.arrs.length
    · have hx : ∀ m, idxA Tryz.prog m 35 (.lst false 2 (p.arrs.map Ar.av)) (.int .i64 i) = some (.ref [.str p.arrs[i].s, .int .i64 p.arrs[i].n]) := fun m => idx (y := p.arrs[i].av) es_35 (by simp [List.getElem?_eq_getElem hb])
      have hw : IntKind.wrap .i64 ((i : Int) + 1) = (i + 1 : Nat) := wrap64 (by omega) (by omega)
      have hsz := hf.sizes _ (List.getElem_mem hb)
      have hin : inR p.arrs[i].n 0 16 = true := by simp [inR] at hsz ⊢; omega
      have hnn : 0 ≤ p.arrs[i].n ∧ p.arrs[i].n ≤ 16 := by simp [inR] at hin; exact hin
      obtain ⟨n, hn⟩ := Int.eq_ofNat_of_zero_le hnn.1
      rw [hn] at hx hin
      (repeat refine AWp.seq ?_); refine AWp.region noP (by kernel_rfl) ?_
      simp [s9, s10, hb]
      (repeat refine AWp.seq ?_); refine AWp.condT (by simp) ?_
      refine AWp.skip ?_
      try simp
      (repeat refine AWp.seq ?_); refine AWp.block ?_
      (repeat refine AWp.seq ?_); refine AWp.region noP (by kernel_rfl) ?_
      simp [s8, s10, hx]
      intro g5 hg5
      refine AWp.gen (fun st => st.slots 1 = .ref [.lst false 2 (p.arrs.map Ar.av), .lst false 19 (p.body.map Sm.av)] ∧ st.slots 8 = .lst false 2 (p.arrs.map Ar.av) ∧ st.slots 9 = .int .i64 p.arrs.length ∧ st.slots 10 = .int .i64 i ∧ st.slots 5 = .ptr g5 0 ∧ st.mem g5 = some (.box [.str p.arrs[i].s, .int .i64 (n : Int)]) ∧ Sn m g2 g3 ((newA p).take i) st) ⟨by simp [s1], by simp [s8], by simp [s9], by simp [s10], by simp, by simp [set_at], hS.grow ?_ (by first | rfl | simp) (by first | rfl | simp)⟩ ?_
      · intro k x hk
        have k5 : k ≠ g5 := by rintro rfl; rw [hg5] at hk; cases hk
        simp [set_at, k5, hk]
      clear s1 s8 s9 s10 hS
      rintro st ⟨s1, s8, s9, s10, s5, b5, hS⟩
      (repeat refine AWp.seq ?_); refine AWp.region noP (by kernel_rfl) ?_
      simp [s5, b5]
      (repeat refine AWp.seq ?_); refine AWp.region noP (by kernel_rfl) ?_
      simp
      refine aop_call _ _ _ _ _ _ _ _ (c_inRange (n : Int) 0 16) ?_
      simp [hin]
      (repeat refine AWp.seq ?_); refine AWp.condF (by simp) ?_
      refine AWp.skip ?_
      try simp
      refine AWp.gen (fun st => st.slots 1 = .ref [.lst false 2 (p.arrs.map Ar.av), .lst false 19 (p.body.map Sm.av)] ∧ st.slots 8 = .lst false 2 (p.arrs.map Ar.av) ∧ st.slots 9 = .int .i64 p.arrs.length ∧ st.slots 10 = .int .i64 i ∧ st.slots 6 = .int .i64 (n : Int) ∧ Sn m g2 g3 ((newA p).take i) st) ⟨by simp [s1], by simp [s8], by simp [s9], by simp [s10], by simp, hS.grow (by first | exact Ext.refl _ | (simpa using Ext.refl _)) (by first | rfl | simp) (by first | rfl | simp)⟩ ?_
      clear s1 s8 s9 s10 s5 b5 hS hg5
      rintro st ⟨s1, s8, s9, s10, s6, hS⟩
      obtain ⟨vA, FA, r1, r2, r3, r4, r5⟩ := hS.row
      have hn16 : n ≤ 16 := by omega
      (repeat refine AWp.seq ?_); refine AWp.regionG (fun _ => false) (fun _ => false) [0, 1, 2, 6, 3, 4, 5, 7] [0, 1, 2, 3, 4, 5, 6, 7] (by kernel_rfl) ?_
      simp [hS.s3, r1, s6]
      refine ⟨by omega, by omega, fun gr hgr => ?_⟩
      try simp
      have hE1 : Ext st.mem (st.mem.set gr (.arr 3 1 n (List.replicate n (.int .i64 0)))) := ext_set hgr _
      have bgr := set_same st.mem gr (.arr 3 1 n (List.replicate n (.int .i64 0)))
      have hng : ∀ b, b ≠ gr → (st.mem.set gr (.arr 3 1 n (List.replicate n (.int .i64 0)))) b = st.mem b := fun b hb => Mem.set_other hb
      generalize st.mem.set gr (.arr 3 1 n (List.replicate n (.int .i64 0))) = m1 at *
      have hG1 := r2.mem (m' := m1) fun b hb => ext_at hE1 (r3 b hb).1
      have hFd : ∀ b, FA b → m1 b ≠ none := fun b hb => by rw [ext_at hE1 (r3 b hb).1]; exact (r3 b hb).1
      have hA1 : ∀ b, FA b → ¬ b = gr := by rintro b hb rfl; exact (r3 _ hb).1 hgr
      have q2 : g2 ≠ gr := by rintro rfl; rw [hS.b2] at hgr; cases hgr
      have q3 : g3 ≠ gr := by rintro rfl; rw [r1] at hgr; cases hgr
      have w2 := hE1 _ _ hS.b2
      have w3 := hE1 _ _ r1
      refine GrowO.app et_53 hG1 hFd (own_zeros bgr) (by rintro b rfl; rw [bgr]; simp) hA1 rfl rfl (by simp [rowsL, newA]; omega) fun v' m' F' h1 h2 h3 h4 => ?_
      have v2 := (h2 g2 (by rw [w2]; simp) r4).trans w2
      have v3 := (h2 g3 (by rw [w3]; simp) r5).trans w3
      have n2 : ¬ F' g2 := fun hb => (h3 g2 hb).elim r4 fun h => h.elim q2 fun h => by rw [w2] at h; cases h
      have n3 : ¬ F' g3 := fun hb => (h3 g3 hb).elim r5 fun h => h.elim q3 fun h => by rw [w3] at h; cases h
      have c3 : v'.cells = [v'] ∧ okCell v' = true ∧ v' ≠ .undef := by
        rcases h1.shape with e | ⟨g, l, c, e⟩ <;> rw [e] <;> exact ⟨rfl, rfl, by simp⟩
      simp [v3, c3.1, c3.2.1, c3.2.2]
      have hSn : ∀ st' : St, st'.slots 2 = .ptr g2 0 → st'.slots 3 = .ptr g3 0 → st'.mem = m'.set g3 (.box [v', .lst true 0 [], .lst true 0 [], .int .i64 0]) → Sn m g2 g3 ((newA p).take (i + 1)) st' := by
        intro st' e2 e3 em
        refine ⟨e2, e3, by rw [em, Mem.set_other (Ne.symm h32)]; exact v2, fun k x hk => ?_, v', F', by rw [em]; exact set_same _ _ _, ?_, fun b hb => ⟨?_, ?_⟩, n2, n3⟩
        · have k3 : k ≠ g3 := by rintro rfl; rw [hg3m] at hk; cases hk
          have k4 := hE1 _ _ (hS.ext _ _ hk)
          rw [em, Mem.set_other k3, h2 k (by rw [k4]; simp) (fun hF => by rw [(r3 k hF).2] at hk; cases hk)]
          exact k4
        · rw [newA_take p i hb, em]
          have hx2 : p.arrs[i].n.toNat = n := by rw [hn]; rfl
          rw [hx2]
          have e : rowsL ((newA p).take i ++ [zeros n]) = rowsL ((newA p).take i) ++ [.lst false 1 (intsL (zeros n))] := by simp [rowsL]
          rw [e]
          exact h1.mem fun b hb => Mem.set_other (by rintro rfl; exact n3 hb)
        · rw [em, set_at]; split
          · simp
          · exact h4 b hb
        · rcases h3 b hb with h | h | h
          · exact (r3 b h).2
          · rw [h]; exact hS.ext.none hgr
          · exact (hS.ext.trans hE1).none h
      (repeat refine AWp.seq ?_); refine AWp.region noP (by kernel_rfl) ?_
      simp [s10, hw]
      exact hRR _ (p.arrs.length - (i + 1)) (by omega) ⟨i + 1, rfl, by omega, by simp [s1], by simp [s8], by simp [s9], by simp, hSn _ (by simp [hS.s2]) (by simp [hS.s3]) (by simp)⟩
    · have : i = p.arrs.length := by omega
      subst this
      (repeat refine AWp.seq ?_); refine AWp.region noP (by kernel_rfl) ?_
      simp [s9, s10]
      (repeat refine AWp.seq ?_); refine AWp.condF (by simp) ?_
      refine AWp.exit ?_
      have e : (newA p).take p.arrs.length = newA p := List.take_of_length_le (by simp [newA])
      rw [e] at hS
      exact ⟨by simp [s1], hS.grow (by first | exact Ext.refl _ | (simpa using Ext.refl _)) (by first | rfl | simp) (by first | rfl | simp)⟩
  clear s1 hS
  rintro st ⟨s1, hS⟩
  obtain ⟨vA, FA, r1, r2, r3, r4, r5⟩ := hS.row
  have hvl := hf.vars
  have hcv := c_impl_VarsOf p.body ht
  have hvv : nameSet (Sm.namesL 1 p.body) = p.vars := rfl
  rw [hvv] at hcv
  (repeat refine AWp.seq ?_); refine AWp.region noP (by kernel_rfl) ?_
  simp [s1]
  refine aop_call _ _ _ _ _ _ _ _ hcv ?_
  simp [strs]
  refine ⟨by omega, by omega, fun gr hgr => ?_⟩
  have q2 : g2 ≠ gr := by rintro rfl; rw [hS.b2] at hgr; cases hgr
  have q3 : g3 ≠ gr := by rintro rfl; rw [r1] at hgr; cases hgr
  have hE1 : Ext st.mem (st.mem.set gr (.arr 3 1 p.vars.length (List.replicate p.vars.length (.int .i64 0)))) := ext_set hgr _
  have c3 : vA.cells = [vA] ∧ okCell vA = true ∧ vA ≠ .undef := by
    rcases r2.shape with e | ⟨g, l, c, e⟩ <;> rw [e] <;> exact ⟨rfl, rfl, by simp⟩
  simp [hS.s3, set_at, q3, r1]
  (repeat refine AWp.seq ?_); refine AWp.region noP (by kernel_rfl) ?_
  simp [hS.s2, hS.s3, set_at, h32, Ne.symm h32, q2, q3, hS.b2, zSto, c3.1, c3.2.1]
  refine AWp.ret (post_cellWR (r := .agg [vA, .own gr p.vars.length p.vars.length, .lst true 0 [], .int .i64 0]) (.inl rfl) rfl (by simp [hS.s2, set_at]) (View.refl _ _) ?_)
  have hA1 : ∀ b, FA b → ¬ b = gr := by rintro b hb rfl; exact (r3 _ hb).1 hgr
  refine hK vA _ FA (fun b => b = gr) _ ?_ ?_ (own_zeros (E := 3) ?_) ?_ hA1 c3.1 rfl c3.2.1 rfl
  · intro k x hk
    have k2 : k ≠ g2 := by rintro rfl; rw [hg2m] at hk; cases hk
    have k3 : k ≠ g3 := by rintro rfl; rw [hg3m] at hk; cases hk
    have k4 : k ≠ gr := by rintro rfl; rw [hS.ext.none hgr] at hk; cases hk
    simp [set_at, k2, k3, k4]
    exact hS.ext _ _ hk
  · refine r2.own.mem fun b hb => ?_
    have k2 : b ≠ g2 := by rintro rfl; exact r4 hb
    have k3 : b ≠ g3 := by rintro rfl; exact r5 hb
    simp [set_at, k2, k3, hA1 b hb]
  · simp [set_at, Ne.symm q2, Ne.symm q3]
  · intro b hb
    rcases hb with hb | rfl
    · have k2 : b ≠ g2 := by rintro rfl; exact r4 hb
      have k3 : b ≠ g3 := by rintro rfl; exact r5 hb
      exact ⟨(r3 b hb).2, by simp [set_at, k2, k3, hA1 b hb]; exact (r3 b hb).1⟩
    · exact ⟨hS.ext.none hgr, by simp [set_at, Ne.symm q2, Ne.symm q3]⟩
end Go.T
namespace Go.T
open Go Go.Proofs
set_option maxRecDepth 10000
set_option maxHeartbeats 1000000
set_option linter.unusedSimpArgs false
set_option linter.unusedVariables false
open Go
def runFu (f : Int) : Nat := if 0 ≤ f ∧ f ≤ 4000 then f.toNat else 0
def runS (p : Pg) (f : Int) : RS := ⟨newA p, zeros p.vars.length, [], 0, runFu f, []⟩
def runR (p : Pg) (f : Int) : RS := if p.ok = true then allR p.arrNames p.vars 1048577 p.body (runS p f) else ⟨[], [], [], 1, 0, []⟩
def RS.look (σ : RS) : AV := .agg [.lst false 1 (rowsL σ.A), .lst false 1 (intsL σ.V), .lst false 1 (intsL σ.O), .int .i64 σ.nd]
theorem own_sto {m : Mem} {FA FV FO : Nat → Prop} {vA vV vO : AV} {σ : RS} (hA : OwnT m FA vA (.lst false 1 (rowsL σ.A))) (hV : OwnT m FV vV (.lst false 1 (intsL σ.V))) (hO : OwnT m FO vO (.lst false 1 (intsL σ.O))) (d1 : ∀ b, FA b → ¬ FV b) (d2 : ∀ b, FA b → ¬ FO b) (d3 : ∀ b, FV b → ¬ FO b) :
    OwnT m (fun b => FA b ∨ FV b ∨ FO b) (.agg [vA, vV, vO, .int .i64 σ.nd]) σ.look := by
  have o1 := hA.okc
  have o2 := hV.okc
  have o3 := hO.okc
  refine .agg (.cons (A := FA) (B := fun b => FV b ∨ FO b) hA (.cons (A := FV) (B := FO) hV (.cons (A := FO) (B := fun _ => False) hO (.cons (A := fun _ => False) (B := fun _ => False) (.int _ _) .nil (fun _ h => h.elim) (fun _ h => h) (fun _ h => h)) (fun _ _ h => h) (fun _ h => h) (fun _ h => h.elim)) d3 (fun _ h => .inl h) (fun _ h => .inr h)) (fun b h q => q.elim (d1 b h) (d2 b h)) (fun _ h => .inl h) (fun _ h => .inr h)) ?_
  simp [o1.1, o2.1, o3.1]
  try rfl
theorem pg_names (p : Pg) : ∀ q ∈ Sm.namesL 1 p.body, has p.vars q = true := fun q hq => by
  have : q ∈ p.vars := (nameSet_mem _ _).2 hq
  unfold has
  rw [List.any_eq_true]
  exact ⟨q, this, by simp⟩
theorem pg_right {p : Pg} (h : p.ok = true) : ∀ x ∈ p.body, x.right 0 = true := fun x hx => by
  unfold Pg.ok Pg.head at h
  simp only [Bool.and_eq_true] at h
  have := h.1.2.2.2.2
  rw [List.all_eq_true] at this
  have := this x hx
  unfold Sm.ok at this
  simp only [Bool.and_eq_true] at this
  exact this.1
theorem o_impl_Run (p : Pg) (ht : p.tot ≤ 1048576) (f : Int) : OCall Tryz.prog 30 [p.av, .int .i64 f] (runR p f).look := by
  have cok := c_impl_ProgOk p ht
  have htb : totL Sm.tot p.body ≤ 1048576 := by unfold Pg.tot at ht; omega
  have cvs := c_impl_VarsOf p.body htb
  have hvv : nameSet (Sm.namesL 1 p.body) = p.vars := rfl
  rw [hvv] at cvs
  unfold OCall
  unfold Pg.av Pg.cells at *
  refine wcall_of Tryz.func30 (by kernel_rfl) rfl (by simp [Tryz.f30]) ?_
  (repeat refine AWp.seq ?_); refine AWp.region noP (by kernel_rfl) ?_
  simp
  intro g2 g4 h4
  have h42 : g4 ≠ g2 := fun e => by rw [e] at h4; simp [set_at] at h4
  refine AWp.sees (Sees.view (t := 2) (View.freezeB (g := g2) (cs := [.lst false 2 (p.arrs.map Ar.av), .lst false 19 (p.body.map Sm.av)]) (by simp [set_at, Ne.symm h42]))) ?_
  refine AWp.gen (fun st => st.slots 1 = .int .i64 f ∧ st.slots 2 = .ref [.lst false 2 (p.arrs.map Ar.av), .lst false 19 (p.body.map Sm.av)] ∧ st.slots 4 = .ptr g4 0 ∧ st.mem g4 = some (.box zSto)) ⟨by simp, by simp, by simp, by simp [set_at, Mem.del, h42, zSto]⟩ ?_
  rintro st ⟨s1, s2, s4, b4⟩
  unfold zSto at b4
  (repeat refine AWp.seq ?_); refine AWp.region noP (by kernel_rfl) ?_
  simp [s2]
  refine aop_call _ _ _ _ _ _ _ _ cok ?_
  simp
  by_cases hok : ¬ p.ok = true
  · have e : runR p f = ⟨[], [], [], 1, 0, []⟩ := by unfold runR; rw [if_neg hok]
    (repeat refine AWp.seq ?_); refine AWp.condT (by simp [hok]) ?_
    (repeat refine AWp.seq ?_); refine AWp.region noP (by kernel_rfl) ?_
    simp [s4, b4]
    rw [e]
    refine AWp.ret (post_cellO (F := fun _ => False ∨ False ∨ False) (q := .agg [.lst true 0 [], .lst true 0 [], .lst true 0 [], .int .i64 1]) (.inl rfl) rfl (by simp [s4, set_at]) ?_)
    exact own_sto (σ := ⟨[], [], [], 1, 0, []⟩) (.nil _ _ _) (.nil _ _ _) (.nil _ _ _) (fun _ h => h.elim) (fun _ h => h.elim) (fun _ h => h.elim)
  have hok : p.ok = true := Decidable.byContradiction hok
  have e : runR p f = allR p.arrNames p.vars 1048577 p.body (runS p f) := by unfold runR; rw [if_pos hok]
  have hf := Pg.fine hok
  (repeat refine AWp.seq ?_); refine AWp.condF (by simp [hok]) ?_
  refine AWp.skip ?_
  try simp
  refine AWp.gen (fun st => st.slots 1 = .int .i64 f ∧ st.slots 2 = .ref [.lst false 2 (p.arrs.map Ar.av), .lst false 19 (p.body.map Sm.av)] ∧ st.slots 4 = .ptr g4 0 ∧ st.mem g4 = some (.box [.lst true 0 [], .lst true 0 [], .lst true 0 [], .int .i64 0])) ⟨by simp [s1], by simp [s2], by simp [s4], by simp [b4]⟩ ?_
  clear s1 s2 s4 b4
  rintro st ⟨s1, s2, s4, b4⟩
  (repeat refine AWp.seq ?_); refine AWp.region noP (by kernel_rfl) ?_
  simp [s1]
  refine aop_call _ _ _ _ _ _ _ _ (c_inRange f 0 4000) ?_
  simp
  refine AWp.cutA (fun st => st.slots 1 = .int .i64 (runFu f : Nat) ∧ st.slots 2 = .ref [.lst false 2 (p.arrs.map Ar.av), .lst false 19 (p.body.map Sm.av)] ∧ st.slots 4 = .ptr g4 0 ∧ st.mem g4 = some (.box [.lst true 0 [], .lst true 0 [], .lst true 0 [], .int .i64 0])) ?_ ?_
  · by_cases hin : 0 ≤ f ∧ f ≤ 4000
    · have hi2 : inR f 0 4000 = true := by simp [inR]; omega
      have hfu : (runFu f : Int) = f := by unfold runFu; rw [if_pos hin]; omega
      refine AWp.condF (by simp [hi2]) ?_
      refine AWp.skip ?_
      exact ⟨by simp [s1, hfu], by simp [s2], by simp [s4], by simp [b4]⟩
    · have hi2 : inR f 0 4000 = false := by simp [inR]; omega
      have hfu : runFu f = 0 := by unfold runFu; rw [if_neg hin]
      refine AWp.condT (by simp [hi2]) ?_
      (repeat refine AWp.seq ?_); refine AWp.region noP (by kernel_rfl) ?_
      simp [hfu, s2, s4, b4]
  clear s1 s2 s4 b4
  rintro st ⟨s1, s2, s4, b4⟩
  have hfl : runFu f ≤ 4000 := by unfold runFu; split <;> omega
  (repeat refine AWp.seq ?_); refine AWp.regionZ (fun i => i == 3) (fun i => i == 0 || i == 2 || i == 4 || i == 8) [0, 1, 2, 3, 4, 6, 5, 7, 8, 9] [0, 1, 2, 3, 4, 5, 6, 7, 8, 9] (by kernel_rfl) (fun j o U ho hr hU => by have hj : j = 0 ∨ j = 2 ∨ j = 4 ∨ j = 8 := (by simpa [or_assoc] using hr); rcases hj with rfl | rfl | rfl | rfl <;> (simp at ho; subst ho; first | (cases hU; done) | (cases hU; simp; done) | (cases hU; show _ = true; kernel_rfl))) ?_
  simp [s2]
  refine aop_call' cvs ?_
  simp [s2]
  refine aop_wcall _ _ _ _ _ _ _ _ rfl (eval_func _ _) ?_
  try simp
  refine c_impl_StoNew p hf htb fun vA vV FA FV m1 hE hA hV hd hdd cA cV kA kV => ?_
  simp [s1, cA, cV, kA, kV, strs]
  intro g5 hg5
  have hg5n : st.mem g5 = none := hE.none hg5
  try simp [set_at, cA, cV, kA, kV]
  have a1 : ∀ b, FA b → b ≠ g5 := by rintro b hb rfl; exact (hd _ (.inl hb)).2 hg5
  have a2 : ∀ b, FV b → b ≠ g5 := by rintro b hb rfl; exact (hd _ (.inr hb)).2 hg5
  have n45 : g4 ≠ g5 := by rintro rfl; rw [b4] at hg5n; cases hg5n
  have b41 := hE _ _ b4
  have hFA4 : ¬ FA g4 := fun h => by have := (hd g4 (.inl h)).1; rw [b4] at this; cases this
  have hFV4 : ¬ FV g4 := fun h => by have := (hd g4 (.inr h)).1; rw [b4] at this; cases this
  refine AWp.gen (fun st' => st'.slots 2 = .ref [.lst false 2 (p.arrs.map Ar.av), .lst false 19 (p.body.map Sm.av)] ∧ st'.slots 4 = .ptr g4 0 ∧ st'.slots 5 = .ptr g5 0 ∧ st'.mem g4 = some (.box [.lst true 0 [], .lst true 0 [], .lst true 0 [], .int .i64 0]) ∧ ∃ F, RunF g5 p p.vars (runS p f) F st'.mem ∧ ¬ F g4) ⟨by simp [s2], by simp [s4], by simp, ?_, fun b => b = g5 ∨ FA b ∨ FV b ∨ False ∨ False, ⟨vA, vV, .lst true 0 [], .lst true 0 [], FA, FV, fun _ => False, fun _ => False, ?_, ?_, rfl⟩, ?_⟩ ?_
  · simp [set_at, n45, b41]
  · refine ⟨by simp [set_at, runCells, runS, strs], hA.mem fun b hb => by simp [set_at, a1 b hb], hV.mem fun b hb => by simp [set_at, a2 b hb], .inl ⟨rfl, rfl⟩, .inl ⟨rfl, rfl⟩, fun b hb => ?_, fun h => a1 _ h rfl, fun h => a2 _ h rfl, fun h => h, fun h => h, hdd, fun _ _ h => h, fun _ _ h => h, fun _ _ h => h, fun _ _ h => h, fun _ h => h.elim⟩
    by_cases hb5 : b = g5
    · simp [set_at, hb5]
    · simp [set_at, hb5]
      rcases hb with hb | hb | hb | hb
      · exact (hd b (.inl hb)).2
      · exact (hd b (.inr hb)).2
      · exact hb.elim
      · exact hb.elim
  · have hal := hf.arrs
    have hvl := hf.vars
    refine ⟨by simp [runS, newA], by simp [runS, zeros], by omega, by omega, by simp [runS, newA]; omega, by simp [runS, zeros]; omega, by simp [runS]; omega, by simp [runS]; omega, fun r hr => ?_⟩
    simp only [runS, newA, List.mem_map] at hr
    obtain ⟨a, ha, rfl⟩ := hr
    have := hf.sizes a ha
    simp [inR] at this
    simp [zeros]
    omega
  · rintro (h | h | h | h | h)
    · exact n45 h
    · exact hFA4 h
    · exact hFV4 h
    · exact h
    · exact h
  rintro st' ⟨s2, s4, s5, b4, F, hR, hF4⟩
  (repeat refine AWp.seq ?_); refine AWp.region noP (by kernel_rfl) ?_
  simp [s2, s5]
  refine aop_wcall _ _ _ _ _ _ _ _ rfl (eval_func _ _) ?_
  simp [s5]
  refine c_all 1048576 p.body 0 htb (by omega) (pg_right hok) g5 p p.vars (runS p f) F _ hR rfl (pg_names p) _ fun m2 F2 hR2 hT2 => ?_
  rw [← e] at hR2 ⊢
  have b42 := hT2.keep g4 _ hF4 b4
  obtain ⟨wA, wV, wO, wB, GA, GV, GO, GB, hH, hS, hFe⟩ := hR2
  have hbx := hH.box
  unfold runCells at hbx
  have o1 := hH.rA.okc
  have o2 := hH.rV.okc
  have o3 := hH.rO.own.okc
  try simp
  (repeat refine AWp.seq ?_); refine AWp.region noP (by kernel_rfl) ?_
  simp [s4, s5, hbx, b42, o1.1, o2.1, o3.1]
  have hg45 : ∀ b, (GA b ∨ GV b ∨ GO b) → b ≠ g4 := by
    rintro b hb rfl
    rcases hT2.sub b (by rw [hFe]; rcases hb with hb | hb | hb <;> simp [hb]) with h | h
    · exact hF4 h
    · rw [b4] at h; cases h
  refine AWp.ret (post_cellO (F := fun b => GA b ∨ GV b ∨ GO b) (q := .agg [wA, wV, wO, .int .i64 (runR p f).nd]) (.inl rfl) rfl (by simp [s4, set_at]) ?_)
  exact own_sto (hH.rA.mem fun b hb => by simp [set_at, hg45 b (.inl hb)]) (hH.rV.mem fun b hb => by simp [set_at, hg45 b (.inr (.inl hb))]) (hH.rO.own.mem fun b hb => by simp [set_at, hg45 b (.inr (.inr hb))]) hH.dAV hH.dAO hH.dVO
end Go.T
namespace Go.T
open Go Go.Proofs
set_option maxRecDepth 10000
set_option maxHeartbeats 1000000
set_option linter.unusedSimpArgs false
set_option linter.unusedVariables false
open Go
theorem c_l7Op (k a b : Int) : PCall Tryz.prog 325 [.int .i64 k, .int .i64 a, .int .i64 b] (.int .i64 (opR k a b)) := by
  refine pcall_of Tryz.func325 (by kernel_rfl) rfl (by simp [Tryz.f325]) ?_
  (repeat refine AWp.seq ?_); refine AWp.region noP (by kernel_rfl) ?_
  try simp
  (repeat refine AWp.seq ?_); refine AWp.region noP (by kernel_rfl) ?_
  simp
  (repeat refine AWp.seq ?_); refine AWp.block ?_
  (repeat refine AWp.seq ?_); refine AWp.region noP (by kernel_rfl) ?_
  simp
  by_cases h4 : k = 4
  · (repeat refine AWp.seq ?_); refine AWp.condT (by simp [h4]) ?_
    (repeat refine AWp.seq ?_); refine AWp.region noP (by kernel_rfl) ?_
    simp
    refine aop_call _ _ _ _ _ _ _ _ (c_spec_AddW a b) ?_
    simp
    exact AWp.ret (post_ret1 rfl (by simp [opR, h4]))
  (repeat refine AWp.seq ?_); refine AWp.condF (by simp [h4]) ?_
  (repeat refine AWp.seq ?_); refine AWp.region noP (by kernel_rfl) ?_
  simp
  by_cases h5 : k = 5
  · (repeat refine AWp.seq ?_); refine AWp.condT (by simp [h5]) ?_
    (repeat refine AWp.seq ?_); refine AWp.region noP (by kernel_rfl) ?_
    simp
    refine aop_call _ _ _ _ _ _ _ _ (c_spec_SubW a b) ?_
    simp
    exact AWp.ret (post_ret1 rfl (by simp [opR, h5]))
  (repeat refine AWp.seq ?_); refine AWp.condF (by simp [h5]) ?_
  (repeat refine AWp.seq ?_); refine AWp.region noP (by kernel_rfl) ?_
  simp
  by_cases h6 : k = 6
  · (repeat refine AWp.seq ?_); refine AWp.condT (by simp [h6]) ?_
    (repeat refine AWp.seq ?_); refine AWp.region noP (by kernel_rfl) ?_
    simp
    refine aop_call _ _ _ _ _ _ _ _ (c_spec_MulW a b) ?_
    simp
    exact AWp.ret (post_ret1 rfl (by simp [opR, h6]))
  (repeat refine AWp.seq ?_); refine AWp.condF (by simp [h6]) ?_
  (repeat refine AWp.seq ?_); refine AWp.region noP (by kernel_rfl) ?_
  simp
  by_cases h7 : k = 7
  · (repeat refine AWp.seq ?_); refine AWp.condT (by simp [h7]) ?_
    (repeat refine AWp.seq ?_); refine AWp.region noP (by kernel_rfl) ?_
    simp
    by_cases hab : a < b
    · (repeat refine AWp.seq ?_); refine AWp.condT (by simp [hab]) ?_
      (repeat refine AWp.seq ?_); refine AWp.region noP (by kernel_rfl) ?_
      simp
      exact AWp.ret (post_ret1 rfl (by simp [opR, h7]; omega))
    · (repeat refine AWp.seq ?_); refine AWp.condF (by simp [hab]) ?_
      refine AWp.skip ?_
      try simp
      (repeat refine AWp.seq ?_); refine AWp.region noP (by kernel_rfl) ?_
      simp
      exact AWp.ret (post_ret1 rfl (by simp [opR, h7]; omega))
  (repeat refine AWp.seq ?_); refine AWp.condF (by simp [h7]) ?_
  refine AWp.skip ?_
  try simp
  (repeat refine AWp.seq ?_); refine AWp.region noP (by kernel_rfl) ?_
  simp
  by_cases hab : b < a
  · (repeat refine AWp.seq ?_); refine AWp.condT (by simp [hab]) ?_
    (repeat refine AWp.seq ?_); refine AWp.region noP (by kernel_rfl) ?_
    simp
    exact AWp.ret (post_ret1 rfl (by simp [opR, h4, h5, h6, h7]; omega))
  · (repeat refine AWp.seq ?_); refine AWp.condF (by simp [hab]) ?_
    refine AWp.skip ?_
    try simp
    (repeat refine AWp.seq ?_); refine AWp.region noP (by kernel_rfl) ?_
    simp
    exact AWp.ret (post_ret1 rfl (by simp [opR, h4, h5, h6, h7]; omega))
end Go.T
