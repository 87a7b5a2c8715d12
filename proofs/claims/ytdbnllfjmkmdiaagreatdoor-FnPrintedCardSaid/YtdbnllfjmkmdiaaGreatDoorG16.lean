/- Drawn statements. -/
import Derived.Test.YtdbnllfjmkmdiaaGreatDoorG15
set_option linter.unusedSimpArgs false
set_option linter.unusedVariables false
namespace Go.T
open Go Go.Proofs
set_option maxRecDepth 10000
set_option maxHeartbeats 1000000
open Go
def DrwS (P : Program) (n : FuncId) (us : List AV) (S : Nat) : Prop := ∀ (l : List Int), byOk l -> ∀ (g : Nat) (m : Mem), Cur l g m -> ∀ K : AV -> Mem -> Prop, (∀ x m', x.tot <= S -> Cur l g m' -> Off g m m' -> K (Sm.av x) m') -> WCall P n (.ptr g 0 :: us) m K
theorem DH.join {m1 m m' : Mem} {l : List Int} {gr : Nat} {bs cs : List (Nat × Blk)} (h : DH m1 l gr bs m) (h1 : m1 gr ≠ none) (k : DH m l gr cs m') : DH m1 l gr (cs ++ bs) m' := by
 refine ⟨k.ps, h.off.trans k.off, fun b hb => ?_, List.pairwise_append.2 ⟨k.bd, h.bd, fun x hx y hy e => ?_⟩⟩
 ·rcases List.mem_append.1 hb with hb | hb
  ·have q := k.bx b hb
   exact ⟨q.1, q.2.1, off_none h.off (Cur.at h.ps) q.2.2⟩
  have q := h.bx b hb
  exact ⟨k.off _ _ q.2.1 q.1, q.2⟩
 have a1 := (k.bx x hx).2.2
 have a2 := (h.bx y hy).1
 rw [e, a2] at a1
 cases a1
theorem sc_okv (k : Int) (s : ByteArray) (a e lo hi : Ex) {v : AV} (h : okCell v = true) : (sc k s a e lo hi v).all okCell = true := by
 have h1 : ∀ x : Ex, x.cells.all okCell = true := fun x => List.all_eq_true.2 (okE x)
 unfold sc
 simp only [List.all_cons, List.all_append, List.all_nil, Bool.and_true, Bool.and_eq_true, h]
 exact ⟨rfl, rfl, h1 a, h1 e, h1 lo, h1 hi⟩
theorem View.aggSc {m m' : Mem} {v v' : AV} (h : View m v m' v') (k : Int) (s : ByteArray) (a e lo hi : Ex) : View m (.agg (sc k s a e lo hi v)) m' (.agg (sc k s a e lo hi v')) := fun w S u h1 h2 => by
 have e1 : ∀ z, sc k s a e lo hi z = (.int .i64 k :: .str s :: (a.cells ++ (e.cells ++ (lo.cells ++ hi.cells)))) ++ [z] := fun z => by simp [sc]
 rw [e1] at h2
 rw [e1]
 cases h2 with | @agg _ vs hr =>
 obtain ⟨vs1, vs2, rfl, ha, hb⟩ := hr.split
 cases hb with | @cons _ y _ ys hy ht2 =>
 cases ht2
 obtain ⟨S', k1, k2, k3, k4, k5⟩ := h w S y h1 hy
 exact ⟨S', k1, k2, k3, .agg ((ha.mono (fun _ _ => rfl) k1).append (.cons k4 .nil)), k5⟩
theorem rowE_view {m1 m : Mem} {l : List Int} {g e0 : Nat} {L : List Sm} {o : Option (Nat × Nat)} (h : DH m1 l g (rowB 83 19 (L.map Sm.av) o) m) (ho : o = none -> L = []) : ∃ m', View m (rowE e0 L.length o) m' (.lst false 19 (L.map Sm.av)) /\ Cur l g m' /\ Off g m1 m' := by
 cases o with
 | none =>
  have := ho rfl
  subst this
  exact ⟨m, View.le (Le.nil _ _ _) _, h.ps, h.off⟩
 | some p =>
  obtain ⟨g', c'⟩ := p
  have wg := h.get (g := g') (b := .arr 83 19 c' (L.map Sm.av)) (by simp [rowB])
  have q := DH.del (l1 := []) (l2 := []) h
  exact ⟨_, View.freeze wg (by simp), q.ps, q.off⟩
theorem zK_les (k : Int) : Les [.int .i64 k, .str ByteArray.empty, .int .i64 0, .int .i64 0, .str ByteArray.empty, .lst true 0 [], .int .i64 0, .int .i64 0, .str ByteArray.empty, .lst true 0 [], .int .i64 0, .int .i64 0, .str ByteArray.empty, .lst true 0 [], .int .i64 0, .int .i64 0, .str ByteArray.empty, .lst true 0 [], .lst true 0 []] (sc k ⟨#[]⟩ zE zE zE zE (.lst true 0 [])) := by
 unfold sc zE
 simp only [Ex.cells_mk, List.map_nil, List.cons_append, List.nil_append]
 repeat (first | exact .nil | refine .cons (by first | exact Le.refl _ | exact Le.nil _ _ _) ?_)
theorem tot_two_le {L : List Sm} {B : Nat} (hn : (L.length : Int) <= 2) (ht : ∀ x ∈ L, x.tot <= B) : totL Sm.tot L <= 2 * B + 2 := by
 match L, hn with
 | [], _ => simp [totL]
 | [x], _ => have := ht x (by simp); simp only [totL]; omega
 | [x, y], _ => have := ht x (by simp); have := ht y (by simp); simp only [totL]; omega
 | x :: y :: z :: l, hn => simp at hn; omega
def DrwSO (P : Program) (n : FuncId) (us : List AV) (S : Nat) : Prop := ∀ (l : List Int), byOk l -> ∀ (g : Nat) (m : Mem), Cur l g m -> ∀ K : AV -> Mem -> Prop, (∀ k s a e lo hi e0 L o m', (Sm.mk k s a e lo hi L).tot <= S -> (o = none -> L = []) -> DH m l g (rowB 83 19 (L.map Sm.av) o) m' -> K (.agg (sc k s a e lo hi (rowE e0 L.length o))) m') -> WCall P n (.ptr g 0 :: us) m K
def DrwSsO (P : Program) (n : FuncId) (us : List AV) (most : Int) (S : Nat) : Prop := ∀ (l : List Int), byOk l -> ∀ (g : Nat) (m : Mem), Cur l g m -> ∀ K : AV -> Mem -> Prop, (∀ L o m', (List.length L : Int) <= most -> (∀ x ∈ L, Sm.tot x <= S) -> (o = none -> L = []) -> DH m l g (rowB 83 19 (L.map Sm.av) o) m' -> K (rowE 19 L.length o) m') -> WCall P n (.ptr g 0 :: us) m K
theorem DrwSO.s {P : Program} {n : FuncId} {us : List AV} {S : Nat} (h : DrwSO P n us S) : DrwS P n us S := fun l hl g m hm K hK => by
 refine WCall.view (Q := fun r m' => ∃ k s a e lo hi e0 L o, (Sm.mk k s a e lo hi L).tot <= S /\ (o = none -> L = []) /\ DH m l g (rowB 83 19 (L.map Sm.av) o) m' /\ r = .agg (sc k s a e lo hi (rowE e0 L.length o))) (h l hl g m hm _ fun k s a e lo hi e0 L o m' ht ho hD => ⟨k, s, a, e, lo, hi, e0, L, o, ht, ho, hD, rfl⟩) ?_
 rintro r m' ⟨k, s, a, e, lo, hi, e0, L, o, ht, ho, hD, rfl⟩
 obtain ⟨m2, hv, hc, hof⟩ := rowE_view (e0 := e0) hD ho
 refine ⟨(Sm.mk k s a e lo hi L).av, m2, ?_, hK _ _ ht hc hof⟩
 have hav : (Sm.mk k s a e lo hi L).av = .agg (sc k s a e lo hi (.lst false 19 (L.map Sm.av))) := by show AV.agg _ = _; rw [sc_eq]
 rw [hav]
 exact hv.aggSc k s a e lo hi
theorem c_l3DrawStmt0 (d : Int) (B : Nat) (hd1 : -100 <= d) (hd2 : d <= 100) (hrec : 0 < d -> DrwSsO Tryz.prog 91 [.int .i64 (d - 1), .int .i64 2] 2 B) : DrwSO Tryz.prog 143 [.int .i64 d] (2 * B + 50) := by
 intro l hl g m hc0 K hK
 have hgr := hc0.at
 refine wcall_of Tryz.func143 (by kernel_rfl) rfl (by simp [Tryz.f143]) ?_
 (repeat refine qA ?_);refine rA ?_
 simp
 intro g4 hg4
 have h := (DH.start hc0).new hgr hg4 (.box [.int .i64 0, .str ByteArray.empty, .int .i64 0, .int .i64 0, .str ByteArray.empty, .lst true 0 [], .int .i64 0, .int .i64 0, .str ByteArray.empty, .lst true 0 [], .int .i64 0, .int .i64 0, .str ByteArray.empty, .lst true 0 [], .int .i64 0, .int .i64 0, .str ByteArray.empty, .lst true 0 [], .lst true 0 []])
 refine AWp.gen (fun st => st.slots 0 = .ptr g 0 /\ st.slots 1 = .int .i64 d /\ st.slots 4 = .ptr g4 0 /\ st.mem = m.set g4 (.box [.int .i64 0, .str ByteArray.empty, .int .i64 0, .int .i64 0, .str ByteArray.empty, .lst true 0 [], .int .i64 0, .int .i64 0, .str ByteArray.empty, .lst true 0 [], .int .i64 0, .int .i64 0, .str ByteArray.empty, .lst true 0 [], .int .i64 0, .int .i64 0, .str ByteArray.empty, .lst true 0 [], .lst true 0 []])) ⟨by simp, by simp, by simp, by simp⟩ ?_
 generalize m.set g4 (.box [.int .i64 0, .str ByteArray.empty, .int .i64 0, .int .i64 0, .str ByteArray.empty, .lst true 0 [], .int .i64 0, .int .i64 0, .str ByteArray.empty, .lst true 0 [], .int .i64 0, .int .i64 0, .str ByteArray.empty, .lst true 0 [], .int .i64 0, .int .i64 0, .str ByteArray.empty, .lst true 0 [], .lst true 0 []]) = m0 at *
 rintro st ⟨s0, s1, s4, sm⟩
 (repeat refine qA ?_);refine rA ?_
 simp [s0, literalA]
 refine wA ?_
 simp [sm]
 refine c_l1Int hl h.ps true [1, 2, 2, 3, 3, 4] (by simp) (by simp) fun k0 m1 hk0 hc ho => ?_
 have h := h.call hgr (off_of ho) hc
 clear ho hc
 have hk4 : 1 <= k0 /\ k0 <= 4 := by
  simp at hk0
  omega
 try simp
 refine AWp.gen (fun st => st.slots 0 = .ptr g 0 /\ st.slots 1 = .int .i64 d /\ st.slots 4 = .ptr g4 0 /\ st.slots 5 = .int .i64 k0 /\ st.mem = m1) ⟨by simp [s0], by simp [s1], by simp [s4], by simp, by simp⟩ ?_
 clear s0 s1 s4 sm hk0
 rintro st ⟨s0, s1, s4, s5, sm⟩
 obtain ⟨M, hM⟩ : ∃ M : St -> Prop, M = (fun st => ∃ k : Int, 1 <= k /\ k <= 4 /\ (d <= 0 -> k ≠ 3) /\ st.slots 0 = .ptr g 0 /\ st.slots 1 = .int .i64 d /\ st.slots 4 = .ptr g4 0 /\ st.slots 5 = .int .i64 k /\ st.mem = m1) := ⟨_, rfl⟩
 by_cases hd0 : d <= 0
 ·by_cases h2 : k0 = 3
  ·(repeat refine qA ?_);refine rA ?_
   simp [s1, s5, hd0, h2]
   (repeat refine qA ?_);refine AWp.cutA M ?_ ?_
   ·refine tA ?_
    (repeat refine qA ?_);refine rA ?_
    simp
    subst hM
    exact ⟨2, by omega, by omega, fun _ => by omega, by simp [s0], by simp [s1], by simp [s4], by simp, by simp [sm]⟩
   intro st hst
   subst hM
   obtain ⟨k, hk1, hk4, hkd, s0, s1, s4, s5, sm⟩ := hst
   (repeat refine qA ?_);refine rA ?_
   simp [s5, sm]
   intro g6 hg6
   have h := h.new hgr hg6 (.box (.int .i64 k :: [.int .i64 0, .str ByteArray.empty, .int .i64 0, .int .i64 0, .str ByteArray.empty, .lst true 0 [], .int .i64 0, .int .i64 0, .str ByteArray.empty, .lst true 0 [], .int .i64 0, .int .i64 0, .str ByteArray.empty, .lst true 0 [], .int .i64 0, .int .i64 0, .str ByteArray.empty, .lst true 0 [], .lst true 0 []].tail))
   simp only [List.tail_cons] at h
   refine AWp.gen (fun st => st.slots 0 = .ptr g 0 /\ st.slots 1 = .int .i64 d /\ st.slots 4 = .ptr g4 0 /\ st.slots 5 = .int .i64 k /\ st.slots 6 = .ptr g6 0 /\ st.mem = m1.set g6 (.box [.int .i64 k, .str ByteArray.empty, .int .i64 0, .int .i64 0, .str ByteArray.empty, .lst true 0 [], .int .i64 0, .int .i64 0, .str ByteArray.empty, .lst true 0 [], .int .i64 0, .int .i64 0, .str ByteArray.empty, .lst true 0 [], .int .i64 0, .int .i64 0, .str ByteArray.empty, .lst true 0 [], .lst true 0 []])) ⟨by simp [s0], by simp [s1], by simp [s4], by simp [s5], by simp, by simp⟩ ?_
   clear s0 s1 s4 s5 sm
   rintro st ⟨s0, s1, s4, s5, s6, sm⟩
   have w6 := h.get (g := g6) (b := .box [.int .i64 k, .str ByteArray.empty, .int .i64 0, .int .i64 0, .str ByteArray.empty, .lst true 0 [], .int .i64 0, .int .i64 0, .str ByteArray.empty, .lst true 0 [], .int .i64 0, .int .i64 0, .str ByteArray.empty, .lst true 0 [], .int .i64 0, .int .i64 0, .str ByteArray.empty, .lst true 0 [], .lst true 0 []]) (by simp)
   rw [<- sm] at w6 h
   refine AWp.sees (Sees.boxLe w6 (zK_les k)) ?_
   have h := DH.put (l1 := []) (b' := .box (sc k ⟨#[]⟩ zE zE zE zE (.lst true 0 []))) h
   refine AWp.gen (fun st' => st'.slots 0 = .ptr g 0 /\ st'.slots 1 = .int .i64 d /\ st'.slots 4 = .ptr g4 0 /\ st'.slots 5 = .int .i64 k /\ st'.slots 6 = .ptr g6 0 /\ st'.mem = st.mem.set g6 (.box (sc k ⟨#[]⟩ zE zE zE zE (.lst true 0 [])))) ⟨s0, s1, s4, s5, s6, rfl⟩ ?_
   generalize st.mem.set g6 (.box (sc k ⟨#[]⟩ zE zE zE zE (.lst true 0 []))) = m2 at *
   clear s0 s1 s4 s5 s6 sm w6 hg6
   rintro st ⟨s0, s1, s4, s5, s6, sm⟩
   (repeat refine qA ?_);refine rA ?_
   simp [s5]
   obtain ⟨M, hM⟩ : ∃ M : St -> Prop, M = (fun st => ∃ (k : Int) (s : ByteArray) (a e lo hi : Ex) (e0 : Nat) (o : Option (Nat × Nat)) (bd : List Sm), st.slots 4 = .ptr g4 0 /\ st.slots 6 = .ptr g6 0 /\ DH m l g (rowB 83 19 (bd.map Sm.av) o ++ [(g6, .box (sc k s a e lo hi (rowE e0 bd.length o))), (g4, .box [.int .i64 0, .str ByteArray.empty, .int .i64 0, .int .i64 0, .str ByteArray.empty, .lst true 0 [], .int .i64 0, .int .i64 0, .str ByteArray.empty, .lst true 0 [], .int .i64 0, .int .i64 0, .str ByteArray.empty, .lst true 0 [], .int .i64 0, .int .i64 0, .str ByteArray.empty, .lst true 0 [], .lst true 0 []])]) st.mem /\ (o = none -> bd = []) /\ (Sm.mk k s a e lo hi bd).tot <= 2 * B + 50) := ⟨_, rfl⟩
   (repeat refine qA ?_);refine AWp.cutA M ?_ ?_
   ·(repeat refine qA ?_);refine bA ?_
    (repeat refine qA ?_);refine rA ?_
    simp
    by_cases e1 : k = 1
    ·(repeat refine qA ?_);refine AWp.condT (by simp [e1]) ?_
     subst e1
     refine AWp.gen (fun st => st.slots 0 = .ptr g 0 /\ st.slots 1 = .int .i64 d /\ st.slots 4 = .ptr g4 0 /\ st.slots 6 = .ptr g6 0 /\ st.mem = m2) ⟨by simp [s0], by simp [s1], by simp [s4], by simp [s6], by simp [sm]⟩ ?_
     clear s0 s1 s4 s6 sm
     rintro st ⟨s0, s1, s4, s6, sm⟩
     (repeat refine qA ?_);refine rA ?_
     simp [s0, literalA]
     refine wA ?_
     simp [sm]
     refine c_l1Str hl h.ps true [⟨#[120]⟩, ⟨#[121]⟩, ⟨#[115]⟩] (by simp) (by simp) fun nm1 p1 hn1 hc ho => ?_
     have h := h.call hgr ho hc
     clear hc ho
     have hz1 : nm1.size <= 1 := by simp at hn1; rcases hn1 with rfl | rfl | rfl <;> decide
     have w6 := h.get (g := g6) (b := .box (sc 1 ⟨#[]⟩ zE zE zE zE (.lst true 0 []))) (by simp)
     have t6 := stN w6 nm1
     simp [-store_ptr, s6, t6]
     have h := DH.put (l1 := []) (b' := .box (sc 1 nm1 zE zE zE zE (.lst true 0 []))) h
     refine AWp.gen (fun st => st.slots 0 = .ptr g 0 /\ st.slots 1 = .int .i64 d /\ st.slots 4 = .ptr g4 0 /\ st.slots 6 = .ptr g6 0 /\ st.mem = p1.set g6 (.box (sc 1 nm1 zE zE zE zE (.lst true 0 [])))) ⟨by simp [s0], by simp [s1], by simp [s4], by simp [s6], by first | (simp; done) | (simp [sm]; done)⟩ ?_
     generalize p1.set g6 (.box (sc 1 nm1 zE zE zE zE (.lst true 0 []))) = n1 at *
     clear s0 s1 s4 s6 sm
     rintro st ⟨s0, s1, s4, s6, sm⟩
     clear w6 t6
     (repeat refine qA ?_);refine rA ?_
     simp [s0]
     refine wA ?_
     simp [sm]
     refine c_l3Draw_2 l hl g _ h.ps _ fun e2 p2 ht2 hc ho => ?_
     have h := h.call hgr ho hc
     clear hc ho
     have w6 := h.get (g := g6) (b := .box (sc 1 nm1 zE zE zE zE (.lst true 0 []))) (by simp)
     have t6 := stE w6 e2
     simp [-store_ptr, Ex.av, s6, t6]
     try refine ⟨okE _, ?_⟩
     have h := DH.put (l1 := []) (b' := .box (sc 1 nm1 zE e2 zE zE (.lst true 0 []))) h
     subst hM
     exact ⟨1, nm1, zE, e2, zE, zE, 0, none, [], by simp [s4], by simp [s6], by simpa [rowB, rowE] using h, fun _ => rfl, by rw [Sm.tot_mk, zE_tot]; simp only [totL]; omega⟩
    (repeat refine qA ?_);refine AWp.condF (by simp [e1]) ?_
    (repeat refine qA ?_);refine rA ?_
    simp
    by_cases e2 : k = 2
    ·(repeat refine qA ?_);refine AWp.condT (by simp [e2]) ?_
     subst e2
     refine AWp.gen (fun st => st.slots 0 = .ptr g 0 /\ st.slots 1 = .int .i64 d /\ st.slots 4 = .ptr g4 0 /\ st.slots 6 = .ptr g6 0 /\ st.mem = m2) ⟨by simp [s0], by simp [s1], by simp [s4], by simp [s6], by simp [sm]⟩ ?_
     clear s0 s1 s4 s6 sm
     rintro st ⟨s0, s1, s4, s6, sm⟩
     (repeat refine qA ?_);refine rA ?_
     simp [s0, literalA]
     refine wA ?_
     simp [sm]
     refine c_l1Str hl h.ps true [⟨#[97]⟩, ⟨#[98]⟩] (by simp) (by simp) fun nm1 p1 hn1 hc ho => ?_
     have h := h.call hgr ho hc
     clear hc ho
     have hz1 : nm1.size <= 1 := by simp at hn1; rcases hn1 with rfl | rfl <;> decide
     have w6 := h.get (g := g6) (b := .box (sc 2 ⟨#[]⟩ zE zE zE zE (.lst true 0 []))) (by simp)
     have t6 := stN w6 nm1
     simp [-store_ptr, s6, t6]
     have h := DH.put (l1 := []) (b' := .box (sc 2 nm1 zE zE zE zE (.lst true 0 []))) h
     refine AWp.gen (fun st => st.slots 0 = .ptr g 0 /\ st.slots 1 = .int .i64 d /\ st.slots 4 = .ptr g4 0 /\ st.slots 6 = .ptr g6 0 /\ st.mem = p1.set g6 (.box (sc 2 nm1 zE zE zE zE (.lst true 0 [])))) ⟨by simp [s0], by simp [s1], by simp [s4], by simp [s6], by first | (simp; done) | (simp [sm]; done)⟩ ?_
     generalize p1.set g6 (.box (sc 2 nm1 zE zE zE zE (.lst true 0 []))) = n1 at *
     clear s0 s1 s4 s6 sm
     rintro st ⟨s0, s1, s4, s6, sm⟩
     clear w6 t6
     (repeat refine qA ?_);refine rA ?_
     simp [s0]
     refine wA ?_
     simp [sm]
     refine c_l3Draw_1 l hl g _ h.ps _ fun e2 p2 ht2 hc ho => ?_
     have h := h.call hgr ho hc
     clear hc ho
     have w6 := h.get (g := g6) (b := .box (sc 2 nm1 zE zE zE zE (.lst true 0 []))) (by simp)
     have t6 := stA w6 e2
     simp [-store_ptr, Ex.av, s6, t6]
     try refine ⟨okE _, ?_⟩
     have h := DH.put (l1 := []) (b' := .box (sc 2 nm1 e2 zE zE zE (.lst true 0 []))) h
     refine AWp.gen (fun st => st.slots 0 = .ptr g 0 /\ st.slots 1 = .int .i64 d /\ st.slots 4 = .ptr g4 0 /\ st.slots 6 = .ptr g6 0 /\ st.mem = p2.set g6 (.box (sc 2 nm1 e2 zE zE zE (.lst true 0 [])))) ⟨by simp [s0], by simp [s1], by simp [s4], by simp [s6], by first | (simp; done) | (simp [sm]; done)⟩ ?_
     generalize p2.set g6 (.box (sc 2 nm1 e2 zE zE zE (.lst true 0 []))) = n2 at *
     clear s0 s1 s4 s6 sm
     rintro st ⟨s0, s1, s4, s6, sm⟩
     clear w6 t6
     (repeat refine qA ?_);refine rA ?_
     simp [s0]
     refine wA ?_
     simp [sm]
     refine c_l3Draw_2 l hl g _ h.ps _ fun e3 p3 ht3 hc ho => ?_
     have h := h.call hgr ho hc
     clear hc ho
     have w6 := h.get (g := g6) (b := .box (sc 2 nm1 e2 zE zE zE (.lst true 0 []))) (by simp)
     have t6 := stE w6 e3
     simp [-store_ptr, Ex.av, s6, t6]
     try refine ⟨okE _, ?_⟩
     have h := DH.put (l1 := []) (b' := .box (sc 2 nm1 e2 e3 zE zE (.lst true 0 []))) h
     subst hM
     exact ⟨2, nm1, e2, e3, zE, zE, 0, none, [], by simp [s4], by simp [s6], by simpa [rowB, rowE] using h, fun _ => rfl, by rw [Sm.tot_mk, zE_tot]; simp only [totL]; omega⟩
    (repeat refine qA ?_);refine AWp.condF (by simp [e2]) ?_
    (repeat refine qA ?_);refine rA ?_
    simp
    by_cases e3 : k = 3
    ·(repeat refine qA ?_);refine AWp.condT (by simp [e3]) ?_
     have hd0 : 0 < d := by
      rcases Int.lt_or_le 0 d with h | h
      ·exact h
      exact absurd e3 (hkd h)
     subst e3
     refine AWp.gen (fun st => st.slots 0 = .ptr g 0 /\ st.slots 1 = .int .i64 d /\ st.slots 4 = .ptr g4 0 /\ st.slots 6 = .ptr g6 0 /\ st.mem = m2) ⟨by simp [s0], by simp [s1], by simp [s4], by simp [s6], by simp [sm]⟩ ?_
     clear s0 s1 s4 s6 sm
     rintro st ⟨s0, s1, s4, s6, sm⟩
     (repeat refine qA ?_);refine rA ?_
     simp [s0, literalA]
     refine wA ?_
     simp [sm]
     refine c_l1Below hl h.ps 3 (by omega) fun n p1 n0 n1 hc ho => ?_
     have h := h.call hgr (off_of ho) hc
     clear hc ho
     obtain ⟨j, rfl⟩ := Int.eq_ofNat_of_zero_le n0
     have hj : j < ([⟨#[105]⟩, ⟨#[106]⟩, ⟨#[107]⟩] : List ByteArray).length := by simp; omega
     obtain ⟨nm1, hnm⟩ : ∃ x, ([⟨#[105]⟩, ⟨#[106]⟩, ⟨#[107]⟩] : List ByteArray)[j]? = some x := ⟨_, List.getElem?_eq_getElem hj⟩
     have hz1 : nm1.size <= 1 := by
      have := List.mem_of_getElem? hnm
      simp at this
      rcases this with rfl | rfl | rfl <;> decide
     have hx : ∀ m, idxA Tryz.prog m 70 (.lst true 1 (([⟨#[105]⟩, ⟨#[106]⟩, ⟨#[107]⟩] : List ByteArray).map AV.str)) (.int .i64 j) = some (.ref [.str nm1]) := fun m => idx (y := .str nm1) es_70 (by have h3 := congrArg (Option.map AV.str) hnm; rw [<- List.getElem?_map] at h3; exact h3)
     simp only [List.map_cons, List.map_nil] at hx
     have w6 := h.get (g := g6) (b := .box (sc 3 ⟨#[]⟩ zE zE zE zE (.lst true 0 []))) (by simp)
     have t6 := stN w6 nm1
     simp [-store_ptr, s6, hx, t6]
     have h := DH.put (l1 := []) (b' := .box (sc 3 nm1 zE zE zE zE (.lst true 0 []))) h
     refine AWp.gen (fun st => st.slots 0 = .ptr g 0 /\ st.slots 1 = .int .i64 d /\ st.slots 4 = .ptr g4 0 /\ st.slots 6 = .ptr g6 0 /\ st.mem = p1.set g6 (.box (sc 3 nm1 zE zE zE zE (.lst true 0 [])))) ⟨by simp [s0], by simp [s1], by simp [s4], by simp [s6], by first | (simp; done) | (simp [sm]; done)⟩ ?_
     generalize p1.set g6 (.box (sc 3 nm1 zE zE zE zE (.lst true 0 []))) = q1 at *
     clear s0 s1 s4 s6 sm
     rintro st ⟨s0, s1, s4, s6, sm⟩
     clear w6 t6
     (repeat refine qA ?_);refine rA ?_
     simp [s0]
     refine wA ?_
     simp [sm]
     refine c_l3Draw_0 l hl g _ h.ps _ fun e2 p2 ht2 hc ho => ?_
     have h := h.call hgr ho hc
     clear hc ho
     have w6 := h.get (g := g6) (b := .box (sc 3 nm1 zE zE zE zE (.lst true 0 []))) (by simp)
     have t6 := stL w6 e2
     simp [-store_ptr, Ex.av, s6, t6]
     try refine ⟨okE _, ?_⟩
     have h := DH.put (l1 := []) (b' := .box (sc 3 nm1 zE zE e2 zE (.lst true 0 []))) h
     refine AWp.gen (fun st => st.slots 0 = .ptr g 0 /\ st.slots 1 = .int .i64 d /\ st.slots 4 = .ptr g4 0 /\ st.slots 6 = .ptr g6 0 /\ st.mem = p2.set g6 (.box (sc 3 nm1 zE zE e2 zE (.lst true 0 [])))) ⟨by simp [s0], by simp [s1], by simp [s4], by simp [s6], by first | (simp; done) | (simp [sm]; done)⟩ ?_
     generalize p2.set g6 (.box (sc 3 nm1 zE zE e2 zE (.lst true 0 []))) = q2 at *
     clear s0 s1 s4 s6 sm
     rintro st ⟨s0, s1, s4, s6, sm⟩
     clear w6 t6
     (repeat refine qA ?_);refine rA ?_
     simp [s0]
     refine wA ?_
     simp [sm]
     refine c_l3Draw_1 l hl g _ h.ps _ fun e3 p3 ht3 hc ho => ?_
     have h := h.call hgr ho hc
     clear hc ho
     have w6 := h.get (g := g6) (b := .box (sc 3 nm1 zE zE e2 zE (.lst true 0 []))) (by simp)
     have t6 := stH w6 e3
     simp [-store_ptr, Ex.av, s6, t6]
     try refine ⟨okE _, ?_⟩
     have h := DH.put (l1 := []) (b' := .box (sc 3 nm1 zE zE e2 e3 (.lst true 0 []))) h
     refine AWp.gen (fun st => st.slots 0 = .ptr g 0 /\ st.slots 1 = .int .i64 d /\ st.slots 4 = .ptr g4 0 /\ st.slots 6 = .ptr g6 0 /\ st.mem = p3.set g6 (.box (sc 3 nm1 zE zE e2 e3 (.lst true 0 [])))) ⟨by simp [s0], by simp [s1], by simp [s4], by simp [s6], by first | (simp; done) | (simp [sm]; done)⟩ ?_
     generalize p3.set g6 (.box (sc 3 nm1 zE zE e2 e3 (.lst true 0 []))) = q3 at *
     clear s0 s1 s4 s6 sm
     rintro st ⟨s0, s1, s4, s6, sm⟩
     clear w6 t6
     have hw : IntKind.wrap .i64 (d - 1) = d - 1 := wrap64 (by omega) (by omega)
     (repeat refine qA ?_);refine rA ?_
     simp [s0, s1, hw]
     refine wA ?_
     simp [sm]
     refine hrec hd0 l hl g _ h.ps _ fun L o p4 hLn hLt hno hD => ?_
     have h := h.join hgr hD
     clear hD
     obtain ⟨r1, r2, r3⟩ := rowE_ok 19 L.length o
     have w6 := h.get (g := g6) (b := .box (sc 3 nm1 zE zE e2 e3 (.lst true 0 []))) (by simp)
     have t6 := stB w6 (rowE 19 L.length o) r1
     simp [-store_ptr, s6, t6, r1, r2, r3]
     have h := DH.put (l1 := rowB 83 19 (L.map Sm.av) o) (b' := .box (sc 3 nm1 zE zE e2 e3 (rowE 19 L.length o))) h
     have hLtot : totL Sm.tot L <= 2 * B + 2 := tot_two_le hLn hLt
     subst hM
     exact ⟨3, nm1, zE, zE, e2, e3, 19, o, L, by simp [s4], by simp [s6], by simpa [rowB, rowE] using h, hno, by rw [Sm.tot_mk, zE_tot]; omega⟩
    (repeat refine qA ?_);refine AWp.condF (by simp [e3]) ?_
    have hk : k = 4 := by omega
    subst hk
    refine AWp.gen (fun st => st.slots 0 = .ptr g 0 /\ st.slots 1 = .int .i64 d /\ st.slots 4 = .ptr g4 0 /\ st.slots 6 = .ptr g6 0 /\ st.mem = m2) ⟨by simp [s0], by simp [s1], by simp [s4], by simp [s6], by simp [sm]⟩ ?_
    clear s0 s1 s4 s6 sm
    rintro st ⟨s0, s1, s4, s6, sm⟩
    (repeat refine qA ?_);refine rA ?_
    simp [s0]
    refine wA ?_
    simp [sm]
    refine c_l3Draw_2 l hl g _ h.ps _ fun e2 p2 ht2 hc ho => ?_
    have h := h.call hgr ho hc
    clear hc ho
    have w6 := h.get (g := g6) (b := .box (sc 4 ⟨#[]⟩ zE zE zE zE (.lst true 0 []))) (by simp)
    have t6 := stE w6 e2
    simp [-store_ptr, Ex.av, s6, t6]
    try refine ⟨okE _, ?_⟩
    have h := DH.put (l1 := []) (b' := .box (sc 4 ⟨#[]⟩ zE e2 zE zE (.lst true 0 []))) h
    subst hM
    exact ⟨4, ⟨#[]⟩, zE, e2, zE, zE, 0, none, [], by simp [s4], by simp [s6], by simpa [rowB, rowE] using h, fun _ => rfl, by rw [Sm.tot_mk, zE_tot]; have : (⟨#[]⟩ : ByteArray).size = 0 := rfl; simp only [totL]; omega⟩
   clear s0 s1 s4 s5 s6 sm h
   intro st hst
   subst hM
   obtain ⟨k, s, a0, e, lo, hi, e0, o, bd, s4, s6, h, hno, htot⟩ := hst
   obtain ⟨r1, r2, r3⟩ := rowE_ok e0 bd.length o
   have ok := sc_okv k s a0 e lo hi r2
   have w6 := h.get (g := g6) (b := .box (sc k s a0 e lo hi (rowE e0 bd.length o))) (by simp)
   have w4 := h.get (g := g4) (b := .box [.int .i64 0, .str ByteArray.empty, .int .i64 0, .int .i64 0, .str ByteArray.empty, .lst true 0 [], .int .i64 0, .int .i64 0, .str ByteArray.empty, .lst true 0 [], .int .i64 0, .int .i64 0, .str ByteArray.empty, .lst true 0 [], .int .i64 0, .int .i64 0, .str ByteArray.empty, .lst true 0 [], .lst true 0 []]) (by simp)
   (repeat refine qA ?_);refine rA ?_
   simp [s4, s6, w6, w4]
   try refine ⟨by simpa using ok, ?_⟩
   have q := DH.put (l1 := rowB 83 19 (bd.map Sm.av) o ++ [(g6, .box (sc k s a0 e lo hi (rowE e0 bd.length o)))]) (l2 := []) (b' := .box (sc k s a0 e lo hi (rowE e0 bd.length o))) (by simpa using h)
   exact AWp.ret ⟨[.agg (sc k s a0 e lo hi (rowE e0 bd.length o))], _, _, by simp [Tryz.f143, resA, s4], by (try simp); exact View.refl _ _, hK k s a0 e lo hi e0 bd o _ htot hno (q.less (by simp))⟩
  (repeat refine qA ?_);refine rA ?_
  simp [s1, s5, hd0, h2]
  (repeat refine qA ?_);refine AWp.cutA M ?_ ?_
  ·refine fA ?_
   refine kA ?_
   subst hM
   exact ⟨k0, by omega, by omega, fun _ => h2, by simp [s0], by simp [s1], by simp [s4], by simp [s5], by simp [sm]⟩
  intro st hst
  subst hM
  obtain ⟨k, hk1, hk4, hkd, s0, s1, s4, s5, sm⟩ := hst
  (repeat refine qA ?_);refine rA ?_
  simp [s5, sm]
  intro g6 hg6
  have h := h.new hgr hg6 (.box (.int .i64 k :: [.int .i64 0, .str ByteArray.empty, .int .i64 0, .int .i64 0, .str ByteArray.empty, .lst true 0 [], .int .i64 0, .int .i64 0, .str ByteArray.empty, .lst true 0 [], .int .i64 0, .int .i64 0, .str ByteArray.empty, .lst true 0 [], .int .i64 0, .int .i64 0, .str ByteArray.empty, .lst true 0 [], .lst true 0 []].tail))
  simp only [List.tail_cons] at h
  refine AWp.gen (fun st => st.slots 0 = .ptr g 0 /\ st.slots 1 = .int .i64 d /\ st.slots 4 = .ptr g4 0 /\ st.slots 5 = .int .i64 k /\ st.slots 6 = .ptr g6 0 /\ st.mem = m1.set g6 (.box [.int .i64 k, .str ByteArray.empty, .int .i64 0, .int .i64 0, .str ByteArray.empty, .lst true 0 [], .int .i64 0, .int .i64 0, .str ByteArray.empty, .lst true 0 [], .int .i64 0, .int .i64 0, .str ByteArray.empty, .lst true 0 [], .int .i64 0, .int .i64 0, .str ByteArray.empty, .lst true 0 [], .lst true 0 []])) ⟨by simp [s0], by simp [s1], by simp [s4], by simp [s5], by simp, by simp⟩ ?_
  clear s0 s1 s4 s5 sm
  rintro st ⟨s0, s1, s4, s5, s6, sm⟩
  have w6 := h.get (g := g6) (b := .box [.int .i64 k, .str ByteArray.empty, .int .i64 0, .int .i64 0, .str ByteArray.empty, .lst true 0 [], .int .i64 0, .int .i64 0, .str ByteArray.empty, .lst true 0 [], .int .i64 0, .int .i64 0, .str ByteArray.empty, .lst true 0 [], .int .i64 0, .int .i64 0, .str ByteArray.empty, .lst true 0 [], .lst true 0 []]) (by simp)
  rw [<- sm] at w6 h
  refine AWp.sees (Sees.boxLe w6 (zK_les k)) ?_
  have h := DH.put (l1 := []) (b' := .box (sc k ⟨#[]⟩ zE zE zE zE (.lst true 0 []))) h
  refine AWp.gen (fun st' => st'.slots 0 = .ptr g 0 /\ st'.slots 1 = .int .i64 d /\ st'.slots 4 = .ptr g4 0 /\ st'.slots 5 = .int .i64 k /\ st'.slots 6 = .ptr g6 0 /\ st'.mem = st.mem.set g6 (.box (sc k ⟨#[]⟩ zE zE zE zE (.lst true 0 [])))) ⟨s0, s1, s4, s5, s6, rfl⟩ ?_
  generalize st.mem.set g6 (.box (sc k ⟨#[]⟩ zE zE zE zE (.lst true 0 []))) = m2 at *
  clear s0 s1 s4 s5 s6 sm w6 hg6
  rintro st ⟨s0, s1, s4, s5, s6, sm⟩
  (repeat refine qA ?_);refine rA ?_
  simp [s5]
  obtain ⟨M, hM⟩ : ∃ M : St -> Prop, M = (fun st => ∃ (k : Int) (s : ByteArray) (a e lo hi : Ex) (e0 : Nat) (o : Option (Nat × Nat)) (bd : List Sm), st.slots 4 = .ptr g4 0 /\ st.slots 6 = .ptr g6 0 /\ DH m l g (rowB 83 19 (bd.map Sm.av) o ++ [(g6, .box (sc k s a e lo hi (rowE e0 bd.length o))), (g4, .box [.int .i64 0, .str ByteArray.empty, .int .i64 0, .int .i64 0, .str ByteArray.empty, .lst true 0 [], .int .i64 0, .int .i64 0, .str ByteArray.empty, .lst true 0 [], .int .i64 0, .int .i64 0, .str ByteArray.empty, .lst true 0 [], .int .i64 0, .int .i64 0, .str ByteArray.empty, .lst true 0 [], .lst true 0 []])]) st.mem /\ (o = none -> bd = []) /\ (Sm.mk k s a e lo hi bd).tot <= 2 * B + 50) := ⟨_, rfl⟩
  (repeat refine qA ?_);refine AWp.cutA M ?_ ?_
  ·(repeat refine qA ?_);refine bA ?_
   (repeat refine qA ?_);refine rA ?_
   simp
   by_cases e1 : k = 1
   ·(repeat refine qA ?_);refine AWp.condT (by simp [e1]) ?_
    subst e1
    refine AWp.gen (fun st => st.slots 0 = .ptr g 0 /\ st.slots 1 = .int .i64 d /\ st.slots 4 = .ptr g4 0 /\ st.slots 6 = .ptr g6 0 /\ st.mem = m2) ⟨by simp [s0], by simp [s1], by simp [s4], by simp [s6], by simp [sm]⟩ ?_
    clear s0 s1 s4 s6 sm
    rintro st ⟨s0, s1, s4, s6, sm⟩
    (repeat refine qA ?_);refine rA ?_
    simp [s0, literalA]
    refine wA ?_
    simp [sm]
    refine c_l1Str hl h.ps true [⟨#[120]⟩, ⟨#[121]⟩, ⟨#[115]⟩] (by simp) (by simp) fun nm1 p1 hn1 hc ho => ?_
    have h := h.call hgr ho hc
    clear hc ho
    have hz1 : nm1.size <= 1 := by simp at hn1; rcases hn1 with rfl | rfl | rfl <;> decide
    have w6 := h.get (g := g6) (b := .box (sc 1 ⟨#[]⟩ zE zE zE zE (.lst true 0 []))) (by simp)
    have t6 := stN w6 nm1
    simp [-store_ptr, s6, t6]
    have h := DH.put (l1 := []) (b' := .box (sc 1 nm1 zE zE zE zE (.lst true 0 []))) h
    refine AWp.gen (fun st => st.slots 0 = .ptr g 0 /\ st.slots 1 = .int .i64 d /\ st.slots 4 = .ptr g4 0 /\ st.slots 6 = .ptr g6 0 /\ st.mem = p1.set g6 (.box (sc 1 nm1 zE zE zE zE (.lst true 0 [])))) ⟨by simp [s0], by simp [s1], by simp [s4], by simp [s6], by first | (simp; done) | (simp [sm]; done)⟩ ?_
    generalize p1.set g6 (.box (sc 1 nm1 zE zE zE zE (.lst true 0 []))) = n1 at *
    clear s0 s1 s4 s6 sm
    rintro st ⟨s0, s1, s4, s6, sm⟩
    clear w6 t6
    (repeat refine qA ?_);refine rA ?_
    simp [s0]
    refine wA ?_
    simp [sm]
    refine c_l3Draw_2 l hl g _ h.ps _ fun e2 p2 ht2 hc ho => ?_
    have h := h.call hgr ho hc
    clear hc ho
    have w6 := h.get (g := g6) (b := .box (sc 1 nm1 zE zE zE zE (.lst true 0 []))) (by simp)
    have t6 := stE w6 e2
    simp [-store_ptr, Ex.av, s6, t6]
    try refine ⟨okE _, ?_⟩
    have h := DH.put (l1 := []) (b' := .box (sc 1 nm1 zE e2 zE zE (.lst true 0 []))) h
    subst hM
    exact ⟨1, nm1, zE, e2, zE, zE, 0, none, [], by simp [s4], by simp [s6], by simpa [rowB, rowE] using h, fun _ => rfl, by rw [Sm.tot_mk, zE_tot]; simp only [totL]; omega⟩
   (repeat refine qA ?_);refine AWp.condF (by simp [e1]) ?_
   (repeat refine qA ?_);refine rA ?_
   simp
   by_cases e2 : k = 2
   ·(repeat refine qA ?_);refine AWp.condT (by simp [e2]) ?_
    subst e2
    refine AWp.gen (fun st => st.slots 0 = .ptr g 0 /\ st.slots 1 = .int .i64 d /\ st.slots 4 = .ptr g4 0 /\ st.slots 6 = .ptr g6 0 /\ st.mem = m2) ⟨by simp [s0], by simp [s1], by simp [s4], by simp [s6], by simp [sm]⟩ ?_
    clear s0 s1 s4 s6 sm
    rintro st ⟨s0, s1, s4, s6, sm⟩
    (repeat refine qA ?_);refine rA ?_
    simp [s0, literalA]
    refine wA ?_
    simp [sm]
    refine c_l1Str hl h.ps true [⟨#[97]⟩, ⟨#[98]⟩] (by simp) (by simp) fun nm1 p1 hn1 hc ho => ?_
    have h := h.call hgr ho hc
    clear hc ho
    have hz1 : nm1.size <= 1 := by simp at hn1; rcases hn1 with rfl | rfl <;> decide
    have w6 := h.get (g := g6) (b := .box (sc 2 ⟨#[]⟩ zE zE zE zE (.lst true 0 []))) (by simp)
    have t6 := stN w6 nm1
    simp [-store_ptr, s6, t6]
    have h := DH.put (l1 := []) (b' := .box (sc 2 nm1 zE zE zE zE (.lst true 0 []))) h
    refine AWp.gen (fun st => st.slots 0 = .ptr g 0 /\ st.slots 1 = .int .i64 d /\ st.slots 4 = .ptr g4 0 /\ st.slots 6 = .ptr g6 0 /\ st.mem = p1.set g6 (.box (sc 2 nm1 zE zE zE zE (.lst true 0 [])))) ⟨by simp [s0], by simp [s1], by simp [s4], by simp [s6], by first | (simp; done) | (simp [sm]; done)⟩ ?_
    generalize p1.set g6 (.box (sc 2 nm1 zE zE zE zE (.lst true 0 []))) = n1 at *
    clear s0 s1 s4 s6 sm
    rintro st ⟨s0, s1, s4, s6, sm⟩
    clear w6 t6
    (repeat refine qA ?_);refine rA ?_
    simp [s0]
    refine wA ?_
    simp [sm]
    refine c_l3Draw_1 l hl g _ h.ps _ fun e2 p2 ht2 hc ho => ?_
    have h := h.call hgr ho hc
    clear hc ho
    have w6 := h.get (g := g6) (b := .box (sc 2 nm1 zE zE zE zE (.lst true 0 []))) (by simp)
    have t6 := stA w6 e2
    simp [-store_ptr, Ex.av, s6, t6]
    try refine ⟨okE _, ?_⟩
    have h := DH.put (l1 := []) (b' := .box (sc 2 nm1 e2 zE zE zE (.lst true 0 []))) h
    refine AWp.gen (fun st => st.slots 0 = .ptr g 0 /\ st.slots 1 = .int .i64 d /\ st.slots 4 = .ptr g4 0 /\ st.slots 6 = .ptr g6 0 /\ st.mem = p2.set g6 (.box (sc 2 nm1 e2 zE zE zE (.lst true 0 [])))) ⟨by simp [s0], by simp [s1], by simp [s4], by simp [s6], by first | (simp; done) | (simp [sm]; done)⟩ ?_
    generalize p2.set g6 (.box (sc 2 nm1 e2 zE zE zE (.lst true 0 []))) = n2 at *
    clear s0 s1 s4 s6 sm
    rintro st ⟨s0, s1, s4, s6, sm⟩
    clear w6 t6
    (repeat refine qA ?_);refine rA ?_
    simp [s0]
    refine wA ?_
    simp [sm]
    refine c_l3Draw_2 l hl g _ h.ps _ fun e3 p3 ht3 hc ho => ?_
    have h := h.call hgr ho hc
    clear hc ho
    have w6 := h.get (g := g6) (b := .box (sc 2 nm1 e2 zE zE zE (.lst true 0 []))) (by simp)
    have t6 := stE w6 e3
    simp [-store_ptr, Ex.av, s6, t6]
    try refine ⟨okE _, ?_⟩
    have h := DH.put (l1 := []) (b' := .box (sc 2 nm1 e2 e3 zE zE (.lst true 0 []))) h
    subst hM
    exact ⟨2, nm1, e2, e3, zE, zE, 0, none, [], by simp [s4], by simp [s6], by simpa [rowB, rowE] using h, fun _ => rfl, by rw [Sm.tot_mk, zE_tot]; simp only [totL]; omega⟩
   (repeat refine qA ?_);refine AWp.condF (by simp [e2]) ?_
   (repeat refine qA ?_);refine rA ?_
   simp
   by_cases e3 : k = 3
   ·(repeat refine qA ?_);refine AWp.condT (by simp [e3]) ?_
    have hd0 : 0 < d := by
     rcases Int.lt_or_le 0 d with h | h
     ·exact h
     exact absurd e3 (hkd h)
    subst e3
    refine AWp.gen (fun st => st.slots 0 = .ptr g 0 /\ st.slots 1 = .int .i64 d /\ st.slots 4 = .ptr g4 0 /\ st.slots 6 = .ptr g6 0 /\ st.mem = m2) ⟨by simp [s0], by simp [s1], by simp [s4], by simp [s6], by simp [sm]⟩ ?_
    clear s0 s1 s4 s6 sm
    rintro st ⟨s0, s1, s4, s6, sm⟩
    (repeat refine qA ?_);refine rA ?_
    simp [s0, literalA]
    refine wA ?_
    simp [sm]
    refine c_l1Below hl h.ps 3 (by omega) fun n p1 n0 n1 hc ho => ?_
    have h := h.call hgr (off_of ho) hc
    clear hc ho
    obtain ⟨j, rfl⟩ := Int.eq_ofNat_of_zero_le n0
    have hj : j < ([⟨#[105]⟩, ⟨#[106]⟩, ⟨#[107]⟩] : List ByteArray).length := by simp; omega
    obtain ⟨nm1, hnm⟩ : ∃ x, ([⟨#[105]⟩, ⟨#[106]⟩, ⟨#[107]⟩] : List ByteArray)[j]? = some x := ⟨_, List.getElem?_eq_getElem hj⟩
    have hz1 : nm1.size <= 1 := by
     have := List.mem_of_getElem? hnm
     simp at this
     rcases this with rfl | rfl | rfl <;> decide
    have hx : ∀ m, idxA Tryz.prog m 70 (.lst true 1 (([⟨#[105]⟩, ⟨#[106]⟩, ⟨#[107]⟩] : List ByteArray).map AV.str)) (.int .i64 j) = some (.ref [.str nm1]) := fun m => idx (y := .str nm1) es_70 (by have h3 := congrArg (Option.map AV.str) hnm; rw [<- List.getElem?_map] at h3; exact h3)
    simp only [List.map_cons, List.map_nil] at hx
    have w6 := h.get (g := g6) (b := .box (sc 3 ⟨#[]⟩ zE zE zE zE (.lst true 0 []))) (by simp)
    have t6 := stN w6 nm1
    simp [-store_ptr, s6, hx, t6]
    have h := DH.put (l1 := []) (b' := .box (sc 3 nm1 zE zE zE zE (.lst true 0 []))) h
    refine AWp.gen (fun st => st.slots 0 = .ptr g 0 /\ st.slots 1 = .int .i64 d /\ st.slots 4 = .ptr g4 0 /\ st.slots 6 = .ptr g6 0 /\ st.mem = p1.set g6 (.box (sc 3 nm1 zE zE zE zE (.lst true 0 [])))) ⟨by simp [s0], by simp [s1], by simp [s4], by simp [s6], by first | (simp; done) | (simp [sm]; done)⟩ ?_
    generalize p1.set g6 (.box (sc 3 nm1 zE zE zE zE (.lst true 0 []))) = q1 at *
    clear s0 s1 s4 s6 sm
    rintro st ⟨s0, s1, s4, s6, sm⟩
    clear w6 t6
    (repeat refine qA ?_);refine rA ?_
    simp [s0]
    refine wA ?_
    simp [sm]
    refine c_l3Draw_0 l hl g _ h.ps _ fun e2 p2 ht2 hc ho => ?_
    have h := h.call hgr ho hc
    clear hc ho
    have w6 := h.get (g := g6) (b := .box (sc 3 nm1 zE zE zE zE (.lst true 0 []))) (by simp)
    have t6 := stL w6 e2
    simp [-store_ptr, Ex.av, s6, t6]
    try refine ⟨okE _, ?_⟩
    have h := DH.put (l1 := []) (b' := .box (sc 3 nm1 zE zE e2 zE (.lst true 0 []))) h
    refine AWp.gen (fun st => st.slots 0 = .ptr g 0 /\ st.slots 1 = .int .i64 d /\ st.slots 4 = .ptr g4 0 /\ st.slots 6 = .ptr g6 0 /\ st.mem = p2.set g6 (.box (sc 3 nm1 zE zE e2 zE (.lst true 0 [])))) ⟨by simp [s0], by simp [s1], by simp [s4], by simp [s6], by first | (simp; done) | (simp [sm]; done)⟩ ?_
    generalize p2.set g6 (.box (sc 3 nm1 zE zE e2 zE (.lst true 0 []))) = q2 at *
    clear s0 s1 s4 s6 sm
    rintro st ⟨s0, s1, s4, s6, sm⟩
    clear w6 t6
    (repeat refine qA ?_);refine rA ?_
    simp [s0]
    refine wA ?_
    simp [sm]
    refine c_l3Draw_1 l hl g _ h.ps _ fun e3 p3 ht3 hc ho => ?_
    have h := h.call hgr ho hc
    clear hc ho
    have w6 := h.get (g := g6) (b := .box (sc 3 nm1 zE zE e2 zE (.lst true 0 []))) (by simp)
    have t6 := stH w6 e3
    simp [-store_ptr, Ex.av, s6, t6]
    try refine ⟨okE _, ?_⟩
    have h := DH.put (l1 := []) (b' := .box (sc 3 nm1 zE zE e2 e3 (.lst true 0 []))) h
    refine AWp.gen (fun st => st.slots 0 = .ptr g 0 /\ st.slots 1 = .int .i64 d /\ st.slots 4 = .ptr g4 0 /\ st.slots 6 = .ptr g6 0 /\ st.mem = p3.set g6 (.box (sc 3 nm1 zE zE e2 e3 (.lst true 0 [])))) ⟨by simp [s0], by simp [s1], by simp [s4], by simp [s6], by first | (simp; done) | (simp [sm]; done)⟩ ?_
    generalize p3.set g6 (.box (sc 3 nm1 zE zE e2 e3 (.lst true 0 []))) = q3 at *
    clear s0 s1 s4 s6 sm
    rintro st ⟨s0, s1, s4, s6, sm⟩
    clear w6 t6
    have hw : IntKind.wrap .i64 (d - 1) = d - 1 := wrap64 (by omega) (by omega)
    (repeat refine qA ?_);refine rA ?_
    simp [s0, s1, hw]
    refine wA ?_
    simp [sm]
    refine hrec hd0 l hl g _ h.ps _ fun L o p4 hLn hLt hno hD => ?_
    have h := h.join hgr hD
    clear hD
    obtain ⟨r1, r2, r3⟩ := rowE_ok 19 L.length o
    have w6 := h.get (g := g6) (b := .box (sc 3 nm1 zE zE e2 e3 (.lst true 0 []))) (by simp)
    have t6 := stB w6 (rowE 19 L.length o) r1
    simp [-store_ptr, s6, t6, r1, r2, r3]
    have h := DH.put (l1 := rowB 83 19 (L.map Sm.av) o) (b' := .box (sc 3 nm1 zE zE e2 e3 (rowE 19 L.length o))) h
    have hLtot : totL Sm.tot L <= 2 * B + 2 := tot_two_le hLn hLt
    subst hM
    exact ⟨3, nm1, zE, zE, e2, e3, 19, o, L, by simp [s4], by simp [s6], by simpa [rowB, rowE] using h, hno, by rw [Sm.tot_mk, zE_tot]; omega⟩
   (repeat refine qA ?_);refine AWp.condF (by simp [e3]) ?_
   have hk : k = 4 := by omega
   subst hk
   refine AWp.gen (fun st => st.slots 0 = .ptr g 0 /\ st.slots 1 = .int .i64 d /\ st.slots 4 = .ptr g4 0 /\ st.slots 6 = .ptr g6 0 /\ st.mem = m2) ⟨by simp [s0], by simp [s1], by simp [s4], by simp [s6], by simp [sm]⟩ ?_
   clear s0 s1 s4 s6 sm
   rintro st ⟨s0, s1, s4, s6, sm⟩
   (repeat refine qA ?_);refine rA ?_
   simp [s0]
   refine wA ?_
   simp [sm]
   refine c_l3Draw_2 l hl g _ h.ps _ fun e2 p2 ht2 hc ho => ?_
   have h := h.call hgr ho hc
   clear hc ho
   have w6 := h.get (g := g6) (b := .box (sc 4 ⟨#[]⟩ zE zE zE zE (.lst true 0 []))) (by simp)
   have t6 := stE w6 e2
   simp [-store_ptr, Ex.av, s6, t6]
   try refine ⟨okE _, ?_⟩
   have h := DH.put (l1 := []) (b' := .box (sc 4 ⟨#[]⟩ zE e2 zE zE (.lst true 0 []))) h
   subst hM
   exact ⟨4, ⟨#[]⟩, zE, e2, zE, zE, 0, none, [], by simp [s4], by simp [s6], by simpa [rowB, rowE] using h, fun _ => rfl, by rw [Sm.tot_mk, zE_tot]; have : (⟨#[]⟩ : ByteArray).size = 0 := rfl; simp only [totL]; omega⟩
  clear s0 s1 s4 s5 s6 sm h
  intro st hst
  subst hM
  obtain ⟨k, s, a0, e, lo, hi, e0, o, bd, s4, s6, h, hno, htot⟩ := hst
  obtain ⟨r1, r2, r3⟩ := rowE_ok e0 bd.length o
  have ok := sc_okv k s a0 e lo hi r2
  have w6 := h.get (g := g6) (b := .box (sc k s a0 e lo hi (rowE e0 bd.length o))) (by simp)
  have w4 := h.get (g := g4) (b := .box [.int .i64 0, .str ByteArray.empty, .int .i64 0, .int .i64 0, .str ByteArray.empty, .lst true 0 [], .int .i64 0, .int .i64 0, .str ByteArray.empty, .lst true 0 [], .int .i64 0, .int .i64 0, .str ByteArray.empty, .lst true 0 [], .int .i64 0, .int .i64 0, .str ByteArray.empty, .lst true 0 [], .lst true 0 []]) (by simp)
  (repeat refine qA ?_);refine rA ?_
  simp [s4, s6, w6, w4]
  try refine ⟨by simpa using ok, ?_⟩
  have q := DH.put (l1 := rowB 83 19 (bd.map Sm.av) o ++ [(g6, .box (sc k s a0 e lo hi (rowE e0 bd.length o)))]) (l2 := []) (b' := .box (sc k s a0 e lo hi (rowE e0 bd.length o))) (by simpa using h)
  exact AWp.ret ⟨[.agg (sc k s a0 e lo hi (rowE e0 bd.length o))], _, _, by simp [Tryz.f143, resA, s4], by (try simp); exact View.refl _ _, hK k s a0 e lo hi e0 bd o _ htot hno (q.less (by simp))⟩
 (repeat refine qA ?_);refine rA ?_
 simp [s1, s5, hd0]
 (repeat refine qA ?_);refine AWp.cutA M ?_ ?_
 ·refine fA ?_
  refine kA ?_
  subst hM
  exact ⟨k0, by omega, by omega, fun e => absurd e hd0, by simp [s0], by simp [s1], by simp [s4], by simp [s5], by simp [sm]⟩
 intro st hst
 subst hM
 obtain ⟨k, hk1, hk4, hkd, s0, s1, s4, s5, sm⟩ := hst
 (repeat refine qA ?_);refine rA ?_
 simp [s5, sm]
 intro g6 hg6
 have h := h.new hgr hg6 (.box (.int .i64 k :: [.int .i64 0, .str ByteArray.empty, .int .i64 0, .int .i64 0, .str ByteArray.empty, .lst true 0 [], .int .i64 0, .int .i64 0, .str ByteArray.empty, .lst true 0 [], .int .i64 0, .int .i64 0, .str ByteArray.empty, .lst true 0 [], .int .i64 0, .int .i64 0, .str ByteArray.empty, .lst true 0 [], .lst true 0 []].tail))
 simp only [List.tail_cons] at h
 refine AWp.gen (fun st => st.slots 0 = .ptr g 0 /\ st.slots 1 = .int .i64 d /\ st.slots 4 = .ptr g4 0 /\ st.slots 5 = .int .i64 k /\ st.slots 6 = .ptr g6 0 /\ st.mem = m1.set g6 (.box [.int .i64 k, .str ByteArray.empty, .int .i64 0, .int .i64 0, .str ByteArray.empty, .lst true 0 [], .int .i64 0, .int .i64 0, .str ByteArray.empty, .lst true 0 [], .int .i64 0, .int .i64 0, .str ByteArray.empty, .lst true 0 [], .int .i64 0, .int .i64 0, .str ByteArray.empty, .lst true 0 [], .lst true 0 []])) ⟨by simp [s0], by simp [s1], by simp [s4], by simp [s5], by simp, by simp⟩ ?_
 clear s0 s1 s4 s5 sm
 rintro st ⟨s0, s1, s4, s5, s6, sm⟩
 have w6 := h.get (g := g6) (b := .box [.int .i64 k, .str ByteArray.empty, .int .i64 0, .int .i64 0, .str ByteArray.empty, .lst true 0 [], .int .i64 0, .int .i64 0, .str ByteArray.empty, .lst true 0 [], .int .i64 0, .int .i64 0, .str ByteArray.empty, .lst true 0 [], .int .i64 0, .int .i64 0, .str ByteArray.empty, .lst true 0 [], .lst true 0 []]) (by simp)
 rw [<- sm] at w6 h
 refine AWp.sees (Sees.boxLe w6 (zK_les k)) ?_
 have h := DH.put (l1 := []) (b' := .box (sc k ⟨#[]⟩ zE zE zE zE (.lst true 0 []))) h
 refine AWp.gen (fun st' => st'.slots 0 = .ptr g 0 /\ st'.slots 1 = .int .i64 d /\ st'.slots 4 = .ptr g4 0 /\ st'.slots 5 = .int .i64 k /\ st'.slots 6 = .ptr g6 0 /\ st'.mem = st.mem.set g6 (.box (sc k ⟨#[]⟩ zE zE zE zE (.lst true 0 [])))) ⟨s0, s1, s4, s5, s6, rfl⟩ ?_
 generalize st.mem.set g6 (.box (sc k ⟨#[]⟩ zE zE zE zE (.lst true 0 []))) = m2 at *
 clear s0 s1 s4 s5 s6 sm w6 hg6
 rintro st ⟨s0, s1, s4, s5, s6, sm⟩
 (repeat refine qA ?_);refine rA ?_
 simp [s5]
 obtain ⟨M, hM⟩ : ∃ M : St -> Prop, M = (fun st => ∃ (k : Int) (s : ByteArray) (a e lo hi : Ex) (e0 : Nat) (o : Option (Nat × Nat)) (bd : List Sm), st.slots 4 = .ptr g4 0 /\ st.slots 6 = .ptr g6 0 /\ DH m l g (rowB 83 19 (bd.map Sm.av) o ++ [(g6, .box (sc k s a e lo hi (rowE e0 bd.length o))), (g4, .box [.int .i64 0, .str ByteArray.empty, .int .i64 0, .int .i64 0, .str ByteArray.empty, .lst true 0 [], .int .i64 0, .int .i64 0, .str ByteArray.empty, .lst true 0 [], .int .i64 0, .int .i64 0, .str ByteArray.empty, .lst true 0 [], .int .i64 0, .int .i64 0, .str ByteArray.empty, .lst true 0 [], .lst true 0 []])]) st.mem /\ (o = none -> bd = []) /\ (Sm.mk k s a e lo hi bd).tot <= 2 * B + 50) := ⟨_, rfl⟩
 (repeat refine qA ?_);refine AWp.cutA M ?_ ?_
 ·(repeat refine qA ?_);refine bA ?_
  (repeat refine qA ?_);refine rA ?_
  simp
  by_cases e1 : k = 1
  ·(repeat refine qA ?_);refine AWp.condT (by simp [e1]) ?_
   subst e1
   refine AWp.gen (fun st => st.slots 0 = .ptr g 0 /\ st.slots 1 = .int .i64 d /\ st.slots 4 = .ptr g4 0 /\ st.slots 6 = .ptr g6 0 /\ st.mem = m2) ⟨by simp [s0], by simp [s1], by simp [s4], by simp [s6], by simp [sm]⟩ ?_
   clear s0 s1 s4 s6 sm
   rintro st ⟨s0, s1, s4, s6, sm⟩
   (repeat refine qA ?_);refine rA ?_
   simp [s0, literalA]
   refine wA ?_
   simp [sm]
   refine c_l1Str hl h.ps true [⟨#[120]⟩, ⟨#[121]⟩, ⟨#[115]⟩] (by simp) (by simp) fun nm1 p1 hn1 hc ho => ?_
   have h := h.call hgr ho hc
   clear hc ho
   have hz1 : nm1.size <= 1 := by simp at hn1; rcases hn1 with rfl | rfl | rfl <;> decide
   have w6 := h.get (g := g6) (b := .box (sc 1 ⟨#[]⟩ zE zE zE zE (.lst true 0 []))) (by simp)
   have t6 := stN w6 nm1
   simp [-store_ptr, s6, t6]
   have h := DH.put (l1 := []) (b' := .box (sc 1 nm1 zE zE zE zE (.lst true 0 []))) h
   refine AWp.gen (fun st => st.slots 0 = .ptr g 0 /\ st.slots 1 = .int .i64 d /\ st.slots 4 = .ptr g4 0 /\ st.slots 6 = .ptr g6 0 /\ st.mem = p1.set g6 (.box (sc 1 nm1 zE zE zE zE (.lst true 0 [])))) ⟨by simp [s0], by simp [s1], by simp [s4], by simp [s6], by first | (simp; done) | (simp [sm]; done)⟩ ?_
   generalize p1.set g6 (.box (sc 1 nm1 zE zE zE zE (.lst true 0 []))) = n1 at *
   clear s0 s1 s4 s6 sm
   rintro st ⟨s0, s1, s4, s6, sm⟩
   clear w6 t6
   (repeat refine qA ?_);refine rA ?_
   simp [s0]
   refine wA ?_
   simp [sm]
   refine c_l3Draw_2 l hl g _ h.ps _ fun e2 p2 ht2 hc ho => ?_
   have h := h.call hgr ho hc
   clear hc ho
   have w6 := h.get (g := g6) (b := .box (sc 1 nm1 zE zE zE zE (.lst true 0 []))) (by simp)
   have t6 := stE w6 e2
   simp [-store_ptr, Ex.av, s6, t6]
   try refine ⟨okE _, ?_⟩
   have h := DH.put (l1 := []) (b' := .box (sc 1 nm1 zE e2 zE zE (.lst true 0 []))) h
   subst hM
   exact ⟨1, nm1, zE, e2, zE, zE, 0, none, [], by simp [s4], by simp [s6], by simpa [rowB, rowE] using h, fun _ => rfl, by rw [Sm.tot_mk, zE_tot]; simp only [totL]; omega⟩
  (repeat refine qA ?_);refine AWp.condF (by simp [e1]) ?_
  (repeat refine qA ?_);refine rA ?_
  simp
  by_cases e2 : k = 2
  ·(repeat refine qA ?_);refine AWp.condT (by simp [e2]) ?_
   subst e2
   refine AWp.gen (fun st => st.slots 0 = .ptr g 0 /\ st.slots 1 = .int .i64 d /\ st.slots 4 = .ptr g4 0 /\ st.slots 6 = .ptr g6 0 /\ st.mem = m2) ⟨by simp [s0], by simp [s1], by simp [s4], by simp [s6], by simp [sm]⟩ ?_
   clear s0 s1 s4 s6 sm
   rintro st ⟨s0, s1, s4, s6, sm⟩
   (repeat refine qA ?_);refine rA ?_
   simp [s0, literalA]
   refine wA ?_
   simp [sm]
   refine c_l1Str hl h.ps true [⟨#[97]⟩, ⟨#[98]⟩] (by simp) (by simp) fun nm1 p1 hn1 hc ho => ?_
   have h := h.call hgr ho hc
   clear hc ho
   have hz1 : nm1.size <= 1 := by simp at hn1; rcases hn1 with rfl | rfl <;> decide
   have w6 := h.get (g := g6) (b := .box (sc 2 ⟨#[]⟩ zE zE zE zE (.lst true 0 []))) (by simp)
   have t6 := stN w6 nm1
   simp [-store_ptr, s6, t6]
   have h := DH.put (l1 := []) (b' := .box (sc 2 nm1 zE zE zE zE (.lst true 0 []))) h
   refine AWp.gen (fun st => st.slots 0 = .ptr g 0 /\ st.slots 1 = .int .i64 d /\ st.slots 4 = .ptr g4 0 /\ st.slots 6 = .ptr g6 0 /\ st.mem = p1.set g6 (.box (sc 2 nm1 zE zE zE zE (.lst true 0 [])))) ⟨by simp [s0], by simp [s1], by simp [s4], by simp [s6], by first | (simp; done) | (simp [sm]; done)⟩ ?_
   generalize p1.set g6 (.box (sc 2 nm1 zE zE zE zE (.lst true 0 []))) = n1 at *
   clear s0 s1 s4 s6 sm
   rintro st ⟨s0, s1, s4, s6, sm⟩
   clear w6 t6
   (repeat refine qA ?_);refine rA ?_
   simp [s0]
   refine wA ?_
   simp [sm]
   refine c_l3Draw_1 l hl g _ h.ps _ fun e2 p2 ht2 hc ho => ?_
   have h := h.call hgr ho hc
   clear hc ho
   have w6 := h.get (g := g6) (b := .box (sc 2 nm1 zE zE zE zE (.lst true 0 []))) (by simp)
   have t6 := stA w6 e2
   simp [-store_ptr, Ex.av, s6, t6]
   try refine ⟨okE _, ?_⟩
   have h := DH.put (l1 := []) (b' := .box (sc 2 nm1 e2 zE zE zE (.lst true 0 []))) h
   refine AWp.gen (fun st => st.slots 0 = .ptr g 0 /\ st.slots 1 = .int .i64 d /\ st.slots 4 = .ptr g4 0 /\ st.slots 6 = .ptr g6 0 /\ st.mem = p2.set g6 (.box (sc 2 nm1 e2 zE zE zE (.lst true 0 [])))) ⟨by simp [s0], by simp [s1], by simp [s4], by simp [s6], by first | (simp; done) | (simp [sm]; done)⟩ ?_
   generalize p2.set g6 (.box (sc 2 nm1 e2 zE zE zE (.lst true 0 []))) = n2 at *
   clear s0 s1 s4 s6 sm
   rintro st ⟨s0, s1, s4, s6, sm⟩
   clear w6 t6
   (repeat refine qA ?_);refine rA ?_
   simp [s0]
   refine wA ?_
   simp [sm]
   refine c_l3Draw_2 l hl g _ h.ps _ fun e3 p3 ht3 hc ho => ?_
   have h := h.call hgr ho hc
   clear hc ho
   have w6 := h.get (g := g6) (b := .box (sc 2 nm1 e2 zE zE zE (.lst true 0 []))) (by simp)
   have t6 := stE w6 e3
   simp [-store_ptr, Ex.av, s6, t6]
   try refine ⟨okE _, ?_⟩
   have h := DH.put (l1 := []) (b' := .box (sc 2 nm1 e2 e3 zE zE (.lst true 0 []))) h
   subst hM
   exact ⟨2, nm1, e2, e3, zE, zE, 0, none, [], by simp [s4], by simp [s6], by simpa [rowB, rowE] using h, fun _ => rfl, by rw [Sm.tot_mk, zE_tot]; simp only [totL]; omega⟩
  (repeat refine qA ?_);refine AWp.condF (by simp [e2]) ?_
  (repeat refine qA ?_);refine rA ?_
  simp
  by_cases e3 : k = 3
  ·(repeat refine qA ?_);refine AWp.condT (by simp [e3]) ?_
   have hd0 : 0 < d := by
    rcases Int.lt_or_le 0 d with h | h
    ·exact h
    exact absurd e3 (hkd h)
   subst e3
   refine AWp.gen (fun st => st.slots 0 = .ptr g 0 /\ st.slots 1 = .int .i64 d /\ st.slots 4 = .ptr g4 0 /\ st.slots 6 = .ptr g6 0 /\ st.mem = m2) ⟨by simp [s0], by simp [s1], by simp [s4], by simp [s6], by simp [sm]⟩ ?_
   clear s0 s1 s4 s6 sm
   rintro st ⟨s0, s1, s4, s6, sm⟩
   (repeat refine qA ?_);refine rA ?_
   simp [s0, literalA]
   refine wA ?_
   simp [sm]
   refine c_l1Below hl h.ps 3 (by omega) fun n p1 n0 n1 hc ho => ?_
   have h := h.call hgr (off_of ho) hc
   clear hc ho
   obtain ⟨j, rfl⟩ := Int.eq_ofNat_of_zero_le n0
   have hj : j < ([⟨#[105]⟩, ⟨#[106]⟩, ⟨#[107]⟩] : List ByteArray).length := by simp; omega
   obtain ⟨nm1, hnm⟩ : ∃ x, ([⟨#[105]⟩, ⟨#[106]⟩, ⟨#[107]⟩] : List ByteArray)[j]? = some x := ⟨_, List.getElem?_eq_getElem hj⟩
   have hz1 : nm1.size <= 1 := by
    have := List.mem_of_getElem? hnm
    simp at this
    rcases this with rfl | rfl | rfl <;> decide
   have hx : ∀ m, idxA Tryz.prog m 70 (.lst true 1 (([⟨#[105]⟩, ⟨#[106]⟩, ⟨#[107]⟩] : List ByteArray).map AV.str)) (.int .i64 j) = some (.ref [.str nm1]) := fun m => idx (y := .str nm1) es_70 (by have h3 := congrArg (Option.map AV.str) hnm; rw [<- List.getElem?_map] at h3; exact h3)
   simp only [List.map_cons, List.map_nil] at hx
   have w6 := h.get (g := g6) (b := .box (sc 3 ⟨#[]⟩ zE zE zE zE (.lst true 0 []))) (by simp)
   have t6 := stN w6 nm1
   simp [-store_ptr, s6, hx, t6]
   have h := DH.put (l1 := []) (b' := .box (sc 3 nm1 zE zE zE zE (.lst true 0 []))) h
   refine AWp.gen (fun st => st.slots 0 = .ptr g 0 /\ st.slots 1 = .int .i64 d /\ st.slots 4 = .ptr g4 0 /\ st.slots 6 = .ptr g6 0 /\ st.mem = p1.set g6 (.box (sc 3 nm1 zE zE zE zE (.lst true 0 [])))) ⟨by simp [s0], by simp [s1], by simp [s4], by simp [s6], by first | (simp; done) | (simp [sm]; done)⟩ ?_
   generalize p1.set g6 (.box (sc 3 nm1 zE zE zE zE (.lst true 0 []))) = q1 at *
   clear s0 s1 s4 s6 sm
   rintro st ⟨s0, s1, s4, s6, sm⟩
   clear w6 t6
   (repeat refine qA ?_);refine rA ?_
   simp [s0]
   refine wA ?_
   simp [sm]
   refine c_l3Draw_0 l hl g _ h.ps _ fun e2 p2 ht2 hc ho => ?_
   have h := h.call hgr ho hc
   clear hc ho
   have w6 := h.get (g := g6) (b := .box (sc 3 nm1 zE zE zE zE (.lst true 0 []))) (by simp)
   have t6 := stL w6 e2
   simp [-store_ptr, Ex.av, s6, t6]
   try refine ⟨okE _, ?_⟩
   have h := DH.put (l1 := []) (b' := .box (sc 3 nm1 zE zE e2 zE (.lst true 0 []))) h
   refine AWp.gen (fun st => st.slots 0 = .ptr g 0 /\ st.slots 1 = .int .i64 d /\ st.slots 4 = .ptr g4 0 /\ st.slots 6 = .ptr g6 0 /\ st.mem = p2.set g6 (.box (sc 3 nm1 zE zE e2 zE (.lst true 0 [])))) ⟨by simp [s0], by simp [s1], by simp [s4], by simp [s6], by first | (simp; done) | (simp [sm]; done)⟩ ?_
   generalize p2.set g6 (.box (sc 3 nm1 zE zE e2 zE (.lst true 0 []))) = q2 at *
   clear s0 s1 s4 s6 sm
   rintro st ⟨s0, s1, s4, s6, sm⟩
   clear w6 t6
   (repeat refine qA ?_);refine rA ?_
   simp [s0]
   refine wA ?_
   simp [sm]
   refine c_l3Draw_1 l hl g _ h.ps _ fun e3 p3 ht3 hc ho => ?_
   have h := h.call hgr ho hc
   clear hc ho
   have w6 := h.get (g := g6) (b := .box (sc 3 nm1 zE zE e2 zE (.lst true 0 []))) (by simp)
   have t6 := stH w6 e3
   simp [-store_ptr, Ex.av, s6, t6]
   try refine ⟨okE _, ?_⟩
   have h := DH.put (l1 := []) (b' := .box (sc 3 nm1 zE zE e2 e3 (.lst true 0 []))) h
   refine AWp.gen (fun st => st.slots 0 = .ptr g 0 /\ st.slots 1 = .int .i64 d /\ st.slots 4 = .ptr g4 0 /\ st.slots 6 = .ptr g6 0 /\ st.mem = p3.set g6 (.box (sc 3 nm1 zE zE e2 e3 (.lst true 0 [])))) ⟨by simp [s0], by simp [s1], by simp [s4], by simp [s6], by first | (simp; done) | (simp [sm]; done)⟩ ?_
   generalize p3.set g6 (.box (sc 3 nm1 zE zE e2 e3 (.lst true 0 []))) = q3 at *
   clear s0 s1 s4 s6 sm
   rintro st ⟨s0, s1, s4, s6, sm⟩
   clear w6 t6
   have hw : IntKind.wrap .i64 (d - 1) = d - 1 := wrap64 (by omega) (by omega)
   (repeat refine qA ?_);refine rA ?_
   simp [s0, s1, hw]
   refine wA ?_
   simp [sm]
   refine hrec hd0 l hl g _ h.ps _ fun L o p4 hLn hLt hno hD => ?_
   have h := h.join hgr hD
   clear hD
   obtain ⟨r1, r2, r3⟩ := rowE_ok 19 L.length o
   have w6 := h.get (g := g6) (b := .box (sc 3 nm1 zE zE e2 e3 (.lst true 0 []))) (by simp)
   have t6 := stB w6 (rowE 19 L.length o) r1
   simp [-store_ptr, s6, t6, r1, r2, r3]
   have h := DH.put (l1 := rowB 83 19 (L.map Sm.av) o) (b' := .box (sc 3 nm1 zE zE e2 e3 (rowE 19 L.length o))) h
   have hLtot : totL Sm.tot L <= 2 * B + 2 := tot_two_le hLn hLt
   subst hM
   exact ⟨3, nm1, zE, zE, e2, e3, 19, o, L, by simp [s4], by simp [s6], by simpa [rowB, rowE] using h, hno, by rw [Sm.tot_mk, zE_tot]; omega⟩
  (repeat refine qA ?_);refine AWp.condF (by simp [e3]) ?_
  have hk : k = 4 := by omega
  subst hk
  refine AWp.gen (fun st => st.slots 0 = .ptr g 0 /\ st.slots 1 = .int .i64 d /\ st.slots 4 = .ptr g4 0 /\ st.slots 6 = .ptr g6 0 /\ st.mem = m2) ⟨by simp [s0], by simp [s1], by simp [s4], by simp [s6], by simp [sm]⟩ ?_
  clear s0 s1 s4 s6 sm
  rintro st ⟨s0, s1, s4, s6, sm⟩
  (repeat refine qA ?_);refine rA ?_
  simp [s0]
  refine wA ?_
  simp [sm]
  refine c_l3Draw_2 l hl g _ h.ps _ fun e2 p2 ht2 hc ho => ?_
  have h := h.call hgr ho hc
  clear hc ho
  have w6 := h.get (g := g6) (b := .box (sc 4 ⟨#[]⟩ zE zE zE zE (.lst true 0 []))) (by simp)
  have t6 := stE w6 e2
  simp [-store_ptr, Ex.av, s6, t6]
  try refine ⟨okE _, ?_⟩
  have h := DH.put (l1 := []) (b' := .box (sc 4 ⟨#[]⟩ zE e2 zE zE (.lst true 0 []))) h
  subst hM
  exact ⟨4, ⟨#[]⟩, zE, e2, zE, zE, 0, none, [], by simp [s4], by simp [s6], by simpa [rowB, rowE] using h, fun _ => rfl, by rw [Sm.tot_mk, zE_tot]; have : (⟨#[]⟩ : ByteArray).size = 0 := rfl; simp only [totL]; omega⟩
 clear s0 s1 s4 s5 s6 sm h
 intro st hst
 subst hM
 obtain ⟨k, s, a0, e, lo, hi, e0, o, bd, s4, s6, h, hno, htot⟩ := hst
 obtain ⟨r1, r2, r3⟩ := rowE_ok e0 bd.length o
 have ok := sc_okv k s a0 e lo hi r2
 have w6 := h.get (g := g6) (b := .box (sc k s a0 e lo hi (rowE e0 bd.length o))) (by simp)
 have w4 := h.get (g := g4) (b := .box [.int .i64 0, .str ByteArray.empty, .int .i64 0, .int .i64 0, .str ByteArray.empty, .lst true 0 [], .int .i64 0, .int .i64 0, .str ByteArray.empty, .lst true 0 [], .int .i64 0, .int .i64 0, .str ByteArray.empty, .lst true 0 [], .int .i64 0, .int .i64 0, .str ByteArray.empty, .lst true 0 [], .lst true 0 []]) (by simp)
 (repeat refine qA ?_);refine rA ?_
 simp [s4, s6, w6, w4]
 try refine ⟨by simpa using ok, ?_⟩
 have q := DH.put (l1 := rowB 83 19 (bd.map Sm.av) o ++ [(g6, .box (sc k s a0 e lo hi (rowE e0 bd.length o)))]) (l2 := []) (b' := .box (sc k s a0 e lo hi (rowE e0 bd.length o))) (by simpa using h)
 exact AWp.ret ⟨[.agg (sc k s a0 e lo hi (rowE e0 bd.length o))], _, _, by simp [Tryz.f143, resA, s4], by (try simp); exact View.refl _ _, hK k s a0 e lo hi e0 bd o _ htot hno (q.less (by simp))⟩
theorem c_l3Stmts0 (d : Int) (S : Nat) (most : Int) (h0 : 0 < most) (h1 : most <= 100) (hS1 : DrwS Tryz.prog 143 [.int .i64 d] S) : DrwSsO Tryz.prog 91 [.int .i64 d, .int .i64 most] most S := by
 intro l hl g m hc0 K hK
 have hgr := hc0.at
 refine wcall_of Tryz.func91 (by kernel_rfl) rfl (by simp [Tryz.f91]) ?_
 (repeat refine qA ?_);refine rA ?_
 try simp
 (repeat refine qA ?_);refine rA ?_
 simp [literalA]
 (repeat refine qA ?_);refine rA ?_
 simp
 refine wA ?_
 try simp
 refine c_l1Below hl hc0 most (by omega) fun n m1 n0 n1 hc ho => ?_
 have h := (DH.start hc0).call hgr (off_of ho) hc
 clear hc ho
 obtain ⟨j, rfl⟩ := Int.eq_ofNat_of_zero_le n0
 have hw : IntKind.wrap .i64 (1 + (j : Int)) = 1 + (j : Int) := wrap64 (by omega) (by omega)
 simp [hw]
 refine AWp.gen (fun st => st.slots 0 = .ptr g 0 /\ st.slots 1 = .int .i64 d /\ st.slots 7 = .lst true 19 [] /\ st.slots 8 = .int .i64 (1 + (j : Int)) /\ st.mem = m1) ⟨by simp, by simp, by simp, by simp, by simp⟩ ?_
 rintro st ⟨s0, s1, s7, s8, sm⟩
 obtain ⟨M, hM⟩ : ∃ M : St -> Prop, M = (fun st => ∃ (L : List Sm) (o : Option (Nat × Nat)), st.slots 7 = rowE 19 L.length o /\ DH m l g (rowB 83 19 (L.map Sm.av) o ++ []) st.mem /\ (o = none -> L = []) /\ (L.length : Int) <= most /\ ∀ x ∈ L, x.tot <= S) := ⟨_, rfl⟩
 (repeat refine qA ?_);refine AWp.cutA M ?_ ?_
 ·refine AWp.block (AWp.rounds (fun q st => ∃ (i : Nat) (L : List Sm) (o : Option (Nat × Nat)), q = i /\ (i : Int) + L.length <= most /\ st.slots 0 = .ptr g 0 /\ st.slots 1 = .int .i64 d /\ st.slots 7 = rowE 19 L.length o /\ st.slots 8 = .int .i64 i /\ DH m l g (rowB 83 19 (L.map Sm.av) o ++ []) st.mem /\ (o = none -> L = []) /\ ∀ x ∈ L, x.tot <= S) (1 + j) ⟨1 + j, [], none, rfl, by simp; omega, s0, s1, s7, by rw [s8]; simp, by rw [sm]; exact h, fun _ => rfl, by simp⟩ ?_)
  clear s0 s1 s7 s8 sm h
  rintro RR i st hRR ⟨_, L, o, rfl, hiL, s0, s1, s7, s8, h, ho, hS⟩
  (repeat refine qA ?_);refine rA ?_
  simp [s8]
  by_cases hlt : 0 < i
  ·(repeat refine qA ?_);refine AWp.condT (by simp [hlt]) ?_
   refine kA ?_
   try simp
   (repeat refine qA ?_);refine bA ?_
   have w : IntKind.wrap .i64 ((i : Int) - 1) = ((i - 1 : Nat) : Int) := by rw [wrap64 (by omega) (by omega)]; omega
   (repeat refine qA ?_);refine rA ?_
   simp [s0, s1, s7]
   refine wA ?_
   try simp
   refine hS1 l hl g _ h.ps _ fun x m2 hx hc hof => ?_
   have h := h.call hgr hof hc
   simp [Sm.av, literalA]
   refine DH.app (e0 := 19) (xs := L.map Sm.av) (bs := []) (x := Sm.av x) et_30 (by simp) h hgr (fun e => by rw [ho e]; rfl) (by simp [srcA, Sm.av]) (Sm.cells_ok x) (by omega) fun g' c' n2 h => ?_
   obtain ⟨r1, r2, r3⟩ := rowE_ok 19 (L.length + 1) (some (g', c'))
   (repeat refine qA ?_);refine rA ?_
   simp [s8, w]
   refine hRR _ (i - 1) (by omega) ⟨i - 1, L ++ [x], some (g', c'), rfl, by simp; omega, by simp [s0], by simp [s1], by simp, by simp, by simpa using h, fun e => (by cases e), fun y hy => ?_⟩
   rcases List.mem_append.1 hy with hy | hy
   ·exact hS y hy
   rw [List.mem_singleton] at hy; rw [hy]; exact hx
  (repeat refine qA ?_);refine AWp.condF (by simp; omega) ?_
  refine eA ?_
  subst hM
  exact ⟨L, o, by simp [s7], by simpa using h, ho, by omega, hS⟩
 clear s0 s1 s7 s8 sm h
 intro st hst
 subst hM
 obtain ⟨L, o, s7, h, ho, hLm, hS⟩ := hst
 (repeat refine qA ?_);refine rA ?_
 simp [s7]
 exact AWp.ret ⟨[rowE 19 L.length o], _, _, by simp [Tryz.f91, resA], by (try simp); exact View.refl _ _, hK L o _ hLm hS ho (by simpa using h)⟩
theorem c_l3DrawStmt_0 : DrwSO Tryz.prog 143 [.int .i64 0] 50 := c_l3DrawStmt0 0 0 (by omega) (by omega) fun h => by omega
theorem c_l3DrawStmt_1 : DrwSO Tryz.prog 143 [.int .i64 1] 150 := c_l3DrawStmt0 1 50 (by omega) (by omega) fun _ => c_l3Stmts0 0 50 2 (by omega) (by omega) c_l3DrawStmt_0.s
theorem c_l3DrawStmt_2 : DrwSO Tryz.prog 143 [.int .i64 2] 350 := c_l3DrawStmt0 2 150 (by omega) (by omega) fun _ => c_l3Stmts0 1 150 2 (by omega) (by omega) c_l3DrawStmt_1.s
end Go.T
