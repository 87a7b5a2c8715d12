/- What is drawn: a cursor beside blocks; strings. Drawn expressions. Drawn expressions, bent. The reference's reader: statements, walked. -/
import Derived.Test.YtdbnllfjmkmdiaaGreatDoorG9
import Derived.Test.YtdbnllfjmkmdiaaGreatDoorG14
set_option linter.unusedSimpArgs false
set_option linter.unusedVariables false
namespace Go.T
open Go Go.Proofs
set_option maxRecDepth 10000
set_option maxHeartbeats 1000000
open Go
theorem Cur.at {l : List Int} {g : Nat} {m : Mem} (h : Cur l g m) : m g ≠ none := by obtain ⟨i, k, _, _, h⟩ := h; rw [h]; simp
theorem Cur.of {l : List Int} {g : Nat} {m m' : Mem} (h : Cur l g m) (e : m' g = m g) : Cur l g m' := by obtain ⟨i, k, h1, h2, h⟩ := h; exact ⟨i, k, h1, h2, by rw [e]; exact h⟩
theorem Cur.off {l : List Int} {g : Nat} {m : Mem} (h : Cur l g m) {k : Nat} (hk : k ≠ g) (b : Blk) : Cur l g (m.set k b) := h.of (Mem.set_other (Ne.symm hk))
theorem off_of {g : Nat} {m m' : Mem} (h : ∀ k, k ≠ g -> m' k = m k) : Off g m m' := fun k x hk hx => by rw [h k hk]; exact hx
structure DH (m1 : Mem) (l : List Int) (gr : Nat) (bs : List (Nat × Blk)) (m : Mem) : Prop where
 ps : Cur l gr m
 off : Off gr m1 m
 bx : ∀ b ∈ bs, m b.1 = some b.2 /\ b.1 ≠ gr /\ m1 b.1 = none
 bd : bs.Pairwise fun x y => x.1 ≠ y.1
section
variable {m1 m m' : Mem} {l : List Int} {gr : Nat} {bs : List (Nat × Blk)}
theorem DH.start (h : Cur l gr m) : DH m l gr [] m := ⟨h, Off.refl _ _, by simp, .nil⟩
theorem DH.get (h : DH m1 l gr bs m) {g : Nat} {b : Blk} (hb : (g, b) ∈ bs) : m g = some b := (h.bx _ hb).1
theorem DH.call (h : DH m1 l gr bs m) (h1 : m1 gr ≠ none) (hO : Off gr m m') (hP : Cur l gr m') : DH m1 l gr bs m' :=
 ⟨hP, h.off.trans hO, fun b hb => ⟨hO _ _ (h.bx b hb).2.1 (h.bx b hb).1, (h.bx b hb).2⟩, h.bd⟩
theorem DH.new (h : DH m1 l gr bs m) (h1 : m1 gr ≠ none) {g : Nat} (hg : m g = none) (b : Blk) : DH m1 l gr ((g, b) :: bs) (m.set g b) := by
 have hne : g ≠ gr := by rintro rfl; exact (Cur.at h.ps) hg
 have k := h.call h1 (Off.ext (ext_set hg b)) (Cur.off h.ps hne b)
 refine ⟨k.ps, k.off, fun x hx => ?_, List.pairwise_cons.2 ⟨fun x hx e => ?_, k.bd⟩⟩
 ·rcases List.mem_cons.1 hx with rfl | hx
  ·exact ⟨set_same _ _ _, hne, off_none h.off (Cur.at h.ps) hg⟩
  exact k.bx x hx
 have := (h.bx x hx).1
 rw [<- e] at this
 simp only at this
 rw [hg] at this
 cases this
theorem DH.put {l1 l2 : List (Nat × Blk)} {g : Nat} {b : Blk} (h : DH m1 l gr (l1 ++ (g, b) :: l2) m) (b' : Blk) : DH m1 l gr (l1 ++ (g, b') :: l2) (m.set g b') := by
 have hg := h.bx (g, b) (by simp)
 have hd := List.pairwise_append.1 h.bd
 have hd2 := List.pairwise_cons.1 hd.2.1
 have ho : ∀ x, x ∈ l1 ∨ x ∈ l2 -> x.1 ≠ g := fun x hx => by
  rcases hx with hx | hx
  ·exact hd.2.2 x hx (g, b) (by simp)
  exact Ne.symm (hd2.1 x hx)
 refine ⟨Cur.off h.ps hg.2.1 _, fun k x hk hx => ?_, fun x hx => ?_, ?_⟩
 ·have hne : k ≠ g := by rintro rfl; rw [hg.2.2] at hx; cases hx
  rw [Mem.set_other hne]
  exact h.off k x hk hx
 ·rcases List.mem_append.1 hx with hx | hx
  ·have := h.bx x (by simp [hx])
   exact ⟨by rw [Mem.set_other (ho x (.inl hx))]; exact this.1, this.2⟩
  rcases List.mem_cons.1 hx with rfl | hx
  ·exact ⟨set_same _ _ _, hg.2⟩
  have := h.bx x (by simp [hx])
  exact ⟨by rw [Mem.set_other (ho x (.inr hx))]; exact this.1, this.2⟩
 exact List.pairwise_append.2 ⟨hd.1, List.pairwise_cons.2 ⟨fun x hx => hd2.1 x hx, hd2.2⟩, fun x hx y hy => by
  rcases List.mem_cons.1 hy with rfl | hy
  ·exact hd.2.2 x hx (g, b) (by simp)
  exact hd.2.2 x hx y (by simp [hy])⟩
theorem DH.less (h : DH m1 l gr bs m) {bs' : List (Nat × Blk)} (hb : bs'.Sublist bs) : DH m1 l gr bs' m := ⟨h.ps, h.off, fun x k => h.bx x (hb.subset k), h.bd.sublist hb⟩
theorem DH.del {g : Nat} {b : Blk} {l1 l2 : List (Nat × Blk)} (h : DH m1 l gr (l1 ++ (g, b) :: l2) m) : DH m1 l gr (l1 ++ l2) (m.del g) := by
 have hg := h.bx (g, b) (by simp)
 have hd := List.pairwise_append.1 h.bd
 have hd2 := List.pairwise_cons.1 hd.2.1
 have ho : ∀ x, x ∈ l1 ++ l2 -> x.1 ≠ g := fun x hx => by
  rcases List.mem_append.1 hx with hx | hx
  ·exact hd.2.2 x hx (g, b) (by simp)
  exact Ne.symm (hd2.1 x hx)
 have hdel : ∀ k, k ≠ g -> (m.del g) k = m k := fun k hk => by unfold Mem.del; rw [if_neg hk]
 refine ⟨Cur.of h.ps (hdel _ (Ne.symm hg.2.1)), fun k x hk hx => ?_, fun x hx => ?_, h.bd.sublist ((List.Sublist.refl l1).append (List.sublist_cons_self _ _))⟩
 ·have hne : k ≠ g := by rintro rfl; rw [hg.2.2] at hx; cases hx
  rw [hdel k hne]
  exact h.off k x hk hx
 have := h.bx x (by rcases List.mem_append.1 hx with hx | hx <;> simp [hx])
 rw [hdel _ (ho x hx)]
 exact this
def rowE (e0 len : Nat) : Option (Nat × Nat) -> AV
 | none => .lst true e0 []
 | some (g, c) => .own g len c
theorem rowE_ok (e0 len : Nat) (o : Option (Nat × Nat)) : (rowE e0 len o).cells = [rowE e0 len o] /\ okCell (rowE e0 len o) = true /\ rowE e0 len o ≠ .undef := by
 cases o with
 | none => exact ⟨rfl, rfl, by simp [rowE]⟩
 | some p => exact ⟨rfl, rfl, by simp [rowE]⟩
theorem DH.app {P : Program} {Ty E : TypeId} {n b : Nat} (hT : ElemT P Ty E n b) {xs : List AV} {x s : AV} {o : Option (Nat × Nat)} {ln e0 : Nat} (hln : xs.length = ln) (h : DH m1 l gr (rowB E n xs o ++ bs) m) (h1 : m1 gr ≠ none) (ho : o = none -> xs = [])
  (hs : srcA m n s = some [x]) (hx : x.cells.all okCell = true) (hb : (2 * (ln + 1) + 1024) * b <= 281474976710656) {k : AV -> Mem -> Prop}
  (hk : ∀ g c m', DH m1 l gr (rowB E n (xs ++ [x]) (some (g, c)) ++ bs) m' -> k (rowE e0 (ln + 1) (some (g, c))) m') : appendW P m k #[Ty, Ty] (rowE e0 ln o) s := by
 subst hln
 obtain ⟨z, hz, hzl⟩ := hT.zero
 unfold appendW
 simp only [List.getElem?_toArray, List.getElem?_cons_zero, List.getElem?_cons_succ, hT.int, hT.elem, hT.size, hT.byte, hz, hs, true_and]
 refine ⟨hT.pos.1, hT.pos.2, hzl, ?_⟩
 cases o with
 | none =>
  have := ho rfl
  subst this
  refine ⟨.inr rfl, by simpa using hb, ⟨fun h0 => (by cases h0), fun _ g c hg hle => ?_⟩⟩
  exact hk g c _ (DH.new h h1 hg _)
 | some p =>
  obtain ⟨g, c⟩ := p
  have hg := h.get (g := g) (b := .arr E n c xs) (by simp [rowB])
  simp only [rowE, hg]
  refine ⟨trivial, trivial, trivial, trivial, by simpa using hx, by simpa using hb, fun g' c' hg' hle => ?_⟩
  refine hk g' c' (m.set g' (.arr E n c' (xs ++ [x]))) ?_
  rcases hg' with rfl | hg'
  ·exact DH.put (l1 := []) h _
  exact DH.new (h.less (bs' := bs) (List.sublist_cons_self _ _)) h1 hg' _
end
theorem c_l1Str {l : List Int} (hl : byOk l) {g : Nat} {m : Mem} (hm : Cur l g m) (f : Bool) (ns : List ByteArray) (h0 : 0 < ns.length) (h1 : ns.length <= 1000) {K : AV -> Mem -> Prop} (hK : ∀ x m', x ∈ ns -> Cur l g m' -> Off g m m' -> K (.str x) m') : WCall Tryz.prog 76 [.ptr g 0, .lst f 1 (ns.map AV.str)] m K := by
 refine wcall_of Tryz.func76 (by kernel_rfl) rfl (by simp [Tryz.f76]) ?_
 (repeat refine qA ?_);refine rA ?_
 try simp
 (repeat refine qA ?_);refine rA ?_
 simp
 refine wA ?_
 refine c_l1Below hl hm ns.length (by omega) fun x m' x0 x1 hc ho => ?_
 obtain ⟨j, rfl⟩ := Int.eq_ofNat_of_zero_le x0
 have hj : j < ns.length := by omega
 have hx : ∀ m, idxA Tryz.prog m 70 (.lst f 1 (ns.map AV.str)) (.int .i64 j) = some (.ref [.str ns[j]]) := fun m => idx (y := .str ns[j]) es_70 (by simp [List.getElem?_eq_getElem hj])
 simp [hx]
 refine AWp.ret (post_retW rfl ⟨_, _, View.refl _ _, ?_⟩)
 simp
 exact hK _ _ (List.getElem_mem hj) hc (off_of ho)
def DrwE (P : Program) (n : FuncId) (us : List AV) (B : Nat) : Prop := ∀ (l : List Int), byOk l -> ∀ (g : Nat) (m : Mem), Cur l g m -> ∀ K : AV -> Mem -> Prop, (∀ e m', e.tot <= B -> Cur l g m' -> Off g m m' -> K (Ex.av e) m') -> WCall P n (.ptr g 0 :: us) m K
theorem c_l3Draw0 (d : Int) (B : Nat) (hB : 1 <= B) (hd1 : -100 <= d) (hd2 : d <= 100) (hrec : 0 < d -> DrwE Tryz.prog 78 [.int .i64 (d - 1)] B) : DrwE Tryz.prog 78 [.int .i64 d] (2 * B + 2) := by
 intro l hl g m hc0 K hK
 have hgr := hc0.at
 have tk : ∀ e : Ex, List.take 4 e.cells = e.cells := fun e => List.take_of_length_le (by simp)
 refine wcall_of Tryz.func78 (by kernel_rfl) rfl (by simp [Tryz.f78]) ?_
 (repeat refine qA ?_);refine rA ?_
 simp
 intro g4 hg4
 have h := (DH.start hc0).new hgr hg4 (.box [.int .i64 0, .int .i64 0, .str ByteArray.empty, .lst true 0 []])
 refine AWp.gen (fun st => st.slots 0 = .ptr g 0 /\ st.slots 1 = .int .i64 d /\ st.slots 4 = .ptr g4 0 /\ st.mem = m.set g4 (.box [.int .i64 0, .int .i64 0, .str ByteArray.empty, .lst true 0 []])) ⟨by simp, by simp, by simp, by simp⟩ ?_
 generalize m.set g4 (.box [.int .i64 0, .int .i64 0, .str ByteArray.empty, .lst true 0 []]) = m0 at *
 rintro st ⟨s0, s1, s4, sm⟩
 (repeat refine qA ?_);refine rA ?_
 simp [s0, literalA]
 refine wA ?_
 simp [sm]
 refine c_l1Int hl h.ps true [1, 2, 2, 3, 4, 4, 5, 6, 7, 8] (by simp) (by simp) fun k0 m1 hk0 hc ho => ?_
 have h := h.call hgr (off_of ho) hc
 clear ho hc
 have hk8 : 1 <= k0 /\ k0 <= 8 := by
  simp at hk0
  omega
 try simp
 refine AWp.gen (fun st => st.slots 0 = .ptr g 0 /\ st.slots 1 = .int .i64 d /\ st.slots 4 = .ptr g4 0 /\ st.slots 5 = .int .i64 k0 /\ st.mem = m1) ⟨by simp [s0], by simp [s1], by simp [s4], by simp, by simp⟩ ?_
 clear s0 s1 s4 sm hk0
 rintro st ⟨s0, s1, s4, s5, sm⟩
 obtain ⟨M, hM⟩ : ∃ M : St -> Prop, M = (fun st => ∃ k : Int, 1 <= k /\ k <= 8 /\ (d <= 0 -> k <= 2) /\ st.slots 0 = .ptr g 0 /\ st.slots 1 = .int .i64 d /\ st.slots 4 = .ptr g4 0 /\ st.slots 5 = .int .i64 k /\ st.mem = m1) := ⟨_, rfl⟩
 by_cases hd0 : d <= 0
 ·by_cases h2 : 2 < k0
  ·(repeat refine qA ?_);refine rA ?_
   simp [s1, s5, hd0, h2]
   (repeat refine qA ?_);refine AWp.cutA M ?_ ?_
   ·refine tA ?_
    (repeat refine qA ?_);refine rA ?_
    simp
    subst hM
    exact ⟨1, by omega, by omega, fun _ => by omega, by simp [s0], by simp [s1], by simp [s4], by simp, by simp [sm]⟩
   intro st hst
   subst hM
   obtain ⟨k, hk1, hk8, hkd, s0, s1, s4, s5, sm⟩ := hst
   (repeat refine qA ?_);refine rA ?_
   simp [s5]
   obtain ⟨M, hM⟩ : ∃ M : St -> Prop, M = (fun st => 4 <= k /\ st.slots 0 = .ptr g 0 /\ st.slots 1 = .int .i64 d /\ st.slots 4 = .ptr g4 0 /\ st.slots 5 = .int .i64 k /\ st.mem = m1) := ⟨_, rfl⟩
   (repeat refine qA ?_);refine AWp.cutA M ?_ ?_
   ·(repeat refine qA ?_);refine bA ?_
    (repeat refine qA ?_);refine rA ?_
    simp
    by_cases e1 : k = 1
    ·(repeat refine qA ?_);refine AWp.condT (by simp [e1]) ?_
     (repeat refine qA ?_);refine rA ?_
     simp [s0]
     refine wA ?_
     simp [sm]
     refine c_l1Below hl h.ps 10 (by omega) fun n m2 n0 n1 hc ho => ?_
     have h := h.call hgr (off_of ho) hc
     try simp
     refine oC' (c_l3Num n) ?_
     have w4 := h.get (g := g4) (b := .box [.int .i64 0, .int .i64 0, .str ByteArray.empty, .lst true 0 []]) (by simp)
     simp [s4, w4, Ex.av, tk]
     try refine ⟨okE _, ?_⟩
     have q := DH.put (l1 := []) (b' := .box (Ex.mk 1 n ⟨#[]⟩ []).cells) h
     exact AWp.ret ⟨[(Ex.mk 1 n ⟨#[]⟩ []).av], (Ex.mk 1 n ⟨#[]⟩ []).av, _, by simp [Tryz.f78, resA, s4, Ex.av, tk], by (try simp); exact View.refl _ _, hK _ _ (by rw [Ex.tot_mk]; have : (⟨#[]⟩ : ByteArray).size = 0 := rfl; simp only [totL]; omega) q.ps q.off⟩
    (repeat refine qA ?_);refine AWp.condF (by simp [e1]) ?_
    (repeat refine qA ?_);refine rA ?_
    simp
    by_cases e2 : k = 2
    ·(repeat refine qA ?_);refine AWp.condT (by simp [e2]) ?_
     (repeat refine qA ?_);refine rA ?_
     simp [s0, literalA]
     refine wA ?_
     simp [sm]
     refine c_l1Str hl h.ps true [⟨#[120]⟩, ⟨#[121]⟩, ⟨#[105]⟩, ⟨#[106]⟩, ⟨#[115]⟩] (by simp) (by simp) fun nm m2 hn hc ho => ?_
     have h := h.call hgr ho hc
     try simp
     refine oC' (c_l3Var nm) ?_
     have w4 := h.get (g := g4) (b := .box [.int .i64 0, .int .i64 0, .str ByteArray.empty, .lst true 0 []]) (by simp)
     simp [s4, w4, Ex.av, tk]
     try refine ⟨okE _, ?_⟩
     have q := DH.put (l1 := []) (b' := .box (Ex.mk 2 0 nm []).cells) h
     exact AWp.ret ⟨[(Ex.mk 2 0 nm []).av], (Ex.mk 2 0 nm []).av, _, by simp [Tryz.f78, resA, s4, Ex.av, tk], by (try simp); exact View.refl _ _, hK _ _ (by have : nm.size <= 1 := (by simp at hn; rcases hn with rfl | rfl | rfl | rfl | rfl <;> decide); rw [Ex.tot_mk]; simp only [totL]; omega) q.ps q.off⟩
    (repeat refine qA ?_);refine AWp.condF (by simp [e2]) ?_
    (repeat refine qA ?_);refine rA ?_
    simp
    by_cases e3 : k = 3
    ·(repeat refine qA ?_);refine AWp.condT (by simp [e3]) ?_
     have hd0 : 0 < d := by omega
     have hw : IntKind.wrap .i64 (d - 1) = d - 1 := wrap64 (by omega) (by omega)
     (repeat refine qA ?_);refine rA ?_
     simp [s0, s1, hw, literalA]
     refine wA ?_
     simp [sm]
     refine c_l1Str hl h.ps true [⟨#[97]⟩, ⟨#[98]⟩] (by simp) (by simp) fun nm m2 hn hc ho => ?_
     have h := h.call hgr ho hc
     simp [s0, s1, hw]
     refine wA ?_
     try simp
     refine hrec hd0 l hl g _ h.ps _ fun x m3 hx hc ho => ?_
     have h := h.call hgr ho hc
     try simp
     refine oC' (r := (Ex.mk 3 0 nm [x]).av) (by simpa [Ex.av] using c_l3At nm x) ?_
     have w4 := h.get (g := g4) (b := .box [.int .i64 0, .int .i64 0, .str ByteArray.empty, .lst true 0 []]) (by simp)
     simp [s4, w4, Ex.av, tk]
     try refine ⟨okE _, ?_⟩
     have q := DH.put (l1 := []) (b' := .box (Ex.mk 3 0 nm [x]).cells) h
     exact AWp.ret ⟨[(Ex.mk 3 0 nm [x]).av], (Ex.mk 3 0 nm [x]).av, _, by simp [Tryz.f78, resA, s4, Ex.av, tk], by (try simp); exact View.refl _ _, hK _ _ (by have : nm.size <= 1 := (by simp at hn; rcases hn with rfl | rfl <;> decide); rw [Ex.tot_mk]; simp only [totL]; omega) q.ps q.off⟩
    (repeat refine qA ?_);refine AWp.condF (by simp [e3]) ?_
    refine kA ?_
    subst hM
    exact ⟨by omega, by simp [s0], by simp [s1], by simp [s4], by simp [s5], by simp [sm]⟩
   clear s0 s1 s4 s5 sm
   intro st hst
   subst hM
   obtain ⟨hk4, s0, s1, s4, s5, sm⟩ := hst
   have hd0 : 0 < d := by omega
   have hw : IntKind.wrap .i64 (d - 1) = d - 1 := wrap64 (by omega) (by omega)
   (repeat refine qA ?_);refine rA ?_
   simp [s0, s1, hw]
   refine wA ?_
   simp [sm]
   refine hrec hd0 l hl g _ h.ps _ fun x m2 hx hc ho => ?_
   have h := h.call hgr ho hc
   simp [Ex.av]
   intro g6 hg6
   try refine ⟨okE _, ?_⟩
   have h := h.new hgr hg6 (.box x.cells)
   refine AWp.gen (fun st => st.slots 0 = .ptr g 0 /\ st.slots 1 = .int .i64 d /\ st.slots 4 = .ptr g4 0 /\ st.slots 5 = .int .i64 k /\ st.slots 6 = .ptr g6 0 /\ st.mem = m2.set g6 (.box x.cells)) ⟨by simp [s0], by simp [s1], by simp [s4], by simp [s5], by simp, by simp⟩ ?_
   generalize m2.set g6 (.box x.cells) = m3 at *
   clear s0 s1 s4 s5 sm hg6 ho hc
   rintro st ⟨s0, s1, s4, s5, s6, sm⟩
   (repeat refine qA ?_);refine AWp.regionX (fun _ => false) (fun _ => false) [0, 1, 2, 3, 4, 5, 6, 7] [0, 2, 3, 4, 5, 1, 6, 7] 1 5 [0, 1, 2, 3, 4, 5, 6, 7] (by kernel_rfl) ?_ ?_
   ·have w6 := h.get (g := g6) (b := .box x.cells) (by simp)
    simp [s0, s1, s5, s6, sm, w6, hw, tk]
    refine wA ?_
    simp [sm]
    refine hrec hd0 l hl g _ h.ps _ fun y m4 hy hc ho => ?_
    have h := h.call hgr ho hc
    try simp
    refine oC' (r := (two k x y).av) (by simpa [Ex.av] using c_l3Two k x y) ?_
    have w4 := h.get (g := g4) (b := .box [.int .i64 0, .int .i64 0, .str ByteArray.empty, .lst true 0 []]) (by simp)
    simp [s4, w4, Ex.av, tk]
    try refine ⟨okE _, ?_⟩
    have q := DH.put (l1 := [(g6, .box x.cells)]) (b' := .box (two k x y).cells) h
    exact AWp.ret ⟨[(two k x y).av], (two k x y).av, _, by simp [Tryz.f78, resA, s4, Ex.av, tk], by (try simp); exact View.refl _ _, hK _ _ (by rw [tot_two]; omega) q.ps q.off⟩
   simp [s0, s1, s5, s6, sm, hw]
   refine wA ?_
   simp [sm]
   refine hrec hd0 l hl g _ h.ps _ fun y m4 hy hc ho => ?_
   have h := h.call hgr ho hc
   have w6 := h.get (g := g6) (b := .box x.cells) (by simp)
   simp [w6, s6, tk]
   refine oC' (r := (two k x y).av) (by simpa [Ex.av] using c_l3Two k x y) ?_
   have w4 := h.get (g := g4) (b := .box [.int .i64 0, .int .i64 0, .str ByteArray.empty, .lst true 0 []]) (by simp)
   simp [s4, w4, Ex.av, tk]
   try refine ⟨okE _, ?_⟩
   have q := DH.put (l1 := [(g6, .box x.cells)]) (b' := .box (two k x y).cells) h
   exact AWp.ret ⟨[(two k x y).av], (two k x y).av, _, by simp [Tryz.f78, resA, s4, Ex.av, tk], by (try simp); exact View.refl _ _, hK _ _ (by rw [tot_two]; omega) q.ps q.off⟩
  (repeat refine qA ?_);refine rA ?_
  simp [s1, s5, hd0, h2]
  (repeat refine qA ?_);refine AWp.cutA M ?_ ?_
  ·refine fA ?_
   refine kA ?_
   subst hM
   exact ⟨k0, by omega, by omega, fun _ => by omega, by simp [s0], by simp [s1], by simp [s4], by simp [s5], by simp [sm]⟩
  intro st hst
  subst hM
  obtain ⟨k, hk1, hk8, hkd, s0, s1, s4, s5, sm⟩ := hst
  (repeat refine qA ?_);refine rA ?_
  simp [s5]
  obtain ⟨M, hM⟩ : ∃ M : St -> Prop, M = (fun st => 4 <= k /\ st.slots 0 = .ptr g 0 /\ st.slots 1 = .int .i64 d /\ st.slots 4 = .ptr g4 0 /\ st.slots 5 = .int .i64 k /\ st.mem = m1) := ⟨_, rfl⟩
  (repeat refine qA ?_);refine AWp.cutA M ?_ ?_
  ·(repeat refine qA ?_);refine bA ?_
   (repeat refine qA ?_);refine rA ?_
   simp
   by_cases e1 : k = 1
   ·(repeat refine qA ?_);refine AWp.condT (by simp [e1]) ?_
    (repeat refine qA ?_);refine rA ?_
    simp [s0]
    refine wA ?_
    simp [sm]
    refine c_l1Below hl h.ps 10 (by omega) fun n m2 n0 n1 hc ho => ?_
    have h := h.call hgr (off_of ho) hc
    try simp
    refine oC' (c_l3Num n) ?_
    have w4 := h.get (g := g4) (b := .box [.int .i64 0, .int .i64 0, .str ByteArray.empty, .lst true 0 []]) (by simp)
    simp [s4, w4, Ex.av, tk]
    try refine ⟨okE _, ?_⟩
    have q := DH.put (l1 := []) (b' := .box (Ex.mk 1 n ⟨#[]⟩ []).cells) h
    exact AWp.ret ⟨[(Ex.mk 1 n ⟨#[]⟩ []).av], (Ex.mk 1 n ⟨#[]⟩ []).av, _, by simp [Tryz.f78, resA, s4, Ex.av, tk], by (try simp); exact View.refl _ _, hK _ _ (by rw [Ex.tot_mk]; have : (⟨#[]⟩ : ByteArray).size = 0 := rfl; simp only [totL]; omega) q.ps q.off⟩
   (repeat refine qA ?_);refine AWp.condF (by simp [e1]) ?_
   (repeat refine qA ?_);refine rA ?_
   simp
   by_cases e2 : k = 2
   ·(repeat refine qA ?_);refine AWp.condT (by simp [e2]) ?_
    (repeat refine qA ?_);refine rA ?_
    simp [s0, literalA]
    refine wA ?_
    simp [sm]
    refine c_l1Str hl h.ps true [⟨#[120]⟩, ⟨#[121]⟩, ⟨#[105]⟩, ⟨#[106]⟩, ⟨#[115]⟩] (by simp) (by simp) fun nm m2 hn hc ho => ?_
    have h := h.call hgr ho hc
    try simp
    refine oC' (c_l3Var nm) ?_
    have w4 := h.get (g := g4) (b := .box [.int .i64 0, .int .i64 0, .str ByteArray.empty, .lst true 0 []]) (by simp)
    simp [s4, w4, Ex.av, tk]
    try refine ⟨okE _, ?_⟩
    have q := DH.put (l1 := []) (b' := .box (Ex.mk 2 0 nm []).cells) h
    exact AWp.ret ⟨[(Ex.mk 2 0 nm []).av], (Ex.mk 2 0 nm []).av, _, by simp [Tryz.f78, resA, s4, Ex.av, tk], by (try simp); exact View.refl _ _, hK _ _ (by have : nm.size <= 1 := (by simp at hn; rcases hn with rfl | rfl | rfl | rfl | rfl <;> decide); rw [Ex.tot_mk]; simp only [totL]; omega) q.ps q.off⟩
   (repeat refine qA ?_);refine AWp.condF (by simp [e2]) ?_
   (repeat refine qA ?_);refine rA ?_
   simp
   by_cases e3 : k = 3
   ·(repeat refine qA ?_);refine AWp.condT (by simp [e3]) ?_
    have hd0 : 0 < d := by omega
    have hw : IntKind.wrap .i64 (d - 1) = d - 1 := wrap64 (by omega) (by omega)
    (repeat refine qA ?_);refine rA ?_
    simp [s0, s1, hw, literalA]
    refine wA ?_
    simp [sm]
    refine c_l1Str hl h.ps true [⟨#[97]⟩, ⟨#[98]⟩] (by simp) (by simp) fun nm m2 hn hc ho => ?_
    have h := h.call hgr ho hc
    simp [s0, s1, hw]
    refine wA ?_
    try simp
    refine hrec hd0 l hl g _ h.ps _ fun x m3 hx hc ho => ?_
    have h := h.call hgr ho hc
    try simp
    refine oC' (r := (Ex.mk 3 0 nm [x]).av) (by simpa [Ex.av] using c_l3At nm x) ?_
    have w4 := h.get (g := g4) (b := .box [.int .i64 0, .int .i64 0, .str ByteArray.empty, .lst true 0 []]) (by simp)
    simp [s4, w4, Ex.av, tk]
    try refine ⟨okE _, ?_⟩
    have q := DH.put (l1 := []) (b' := .box (Ex.mk 3 0 nm [x]).cells) h
    exact AWp.ret ⟨[(Ex.mk 3 0 nm [x]).av], (Ex.mk 3 0 nm [x]).av, _, by simp [Tryz.f78, resA, s4, Ex.av, tk], by (try simp); exact View.refl _ _, hK _ _ (by have : nm.size <= 1 := (by simp at hn; rcases hn with rfl | rfl <;> decide); rw [Ex.tot_mk]; simp only [totL]; omega) q.ps q.off⟩
   (repeat refine qA ?_);refine AWp.condF (by simp [e3]) ?_
   refine kA ?_
   subst hM
   exact ⟨by omega, by simp [s0], by simp [s1], by simp [s4], by simp [s5], by simp [sm]⟩
  clear s0 s1 s4 s5 sm
  intro st hst
  subst hM
  obtain ⟨hk4, s0, s1, s4, s5, sm⟩ := hst
  have hd0 : 0 < d := by omega
  have hw : IntKind.wrap .i64 (d - 1) = d - 1 := wrap64 (by omega) (by omega)
  (repeat refine qA ?_);refine rA ?_
  simp [s0, s1, hw]
  refine wA ?_
  simp [sm]
  refine hrec hd0 l hl g _ h.ps _ fun x m2 hx hc ho => ?_
  have h := h.call hgr ho hc
  simp [Ex.av]
  intro g6 hg6
  try refine ⟨okE _, ?_⟩
  have h := h.new hgr hg6 (.box x.cells)
  refine AWp.gen (fun st => st.slots 0 = .ptr g 0 /\ st.slots 1 = .int .i64 d /\ st.slots 4 = .ptr g4 0 /\ st.slots 5 = .int .i64 k /\ st.slots 6 = .ptr g6 0 /\ st.mem = m2.set g6 (.box x.cells)) ⟨by simp [s0], by simp [s1], by simp [s4], by simp [s5], by simp, by simp⟩ ?_
  generalize m2.set g6 (.box x.cells) = m3 at *
  clear s0 s1 s4 s5 sm hg6 ho hc
  rintro st ⟨s0, s1, s4, s5, s6, sm⟩
  (repeat refine qA ?_);refine AWp.regionX (fun _ => false) (fun _ => false) [0, 1, 2, 3, 4, 5, 6, 7] [0, 2, 3, 4, 5, 1, 6, 7] 1 5 [0, 1, 2, 3, 4, 5, 6, 7] (by kernel_rfl) ?_ ?_
  ·have w6 := h.get (g := g6) (b := .box x.cells) (by simp)
   simp [s0, s1, s5, s6, sm, w6, hw, tk]
   refine wA ?_
   simp [sm]
   refine hrec hd0 l hl g _ h.ps _ fun y m4 hy hc ho => ?_
   have h := h.call hgr ho hc
   try simp
   refine oC' (r := (two k x y).av) (by simpa [Ex.av] using c_l3Two k x y) ?_
   have w4 := h.get (g := g4) (b := .box [.int .i64 0, .int .i64 0, .str ByteArray.empty, .lst true 0 []]) (by simp)
   simp [s4, w4, Ex.av, tk]
   try refine ⟨okE _, ?_⟩
   have q := DH.put (l1 := [(g6, .box x.cells)]) (b' := .box (two k x y).cells) h
   exact AWp.ret ⟨[(two k x y).av], (two k x y).av, _, by simp [Tryz.f78, resA, s4, Ex.av, tk], by (try simp); exact View.refl _ _, hK _ _ (by rw [tot_two]; omega) q.ps q.off⟩
  simp [s0, s1, s5, s6, sm, hw]
  refine wA ?_
  simp [sm]
  refine hrec hd0 l hl g _ h.ps _ fun y m4 hy hc ho => ?_
  have h := h.call hgr ho hc
  have w6 := h.get (g := g6) (b := .box x.cells) (by simp)
  simp [w6, s6, tk]
  refine oC' (r := (two k x y).av) (by simpa [Ex.av] using c_l3Two k x y) ?_
  have w4 := h.get (g := g4) (b := .box [.int .i64 0, .int .i64 0, .str ByteArray.empty, .lst true 0 []]) (by simp)
  simp [s4, w4, Ex.av, tk]
  try refine ⟨okE _, ?_⟩
  have q := DH.put (l1 := [(g6, .box x.cells)]) (b' := .box (two k x y).cells) h
  exact AWp.ret ⟨[(two k x y).av], (two k x y).av, _, by simp [Tryz.f78, resA, s4, Ex.av, tk], by (try simp); exact View.refl _ _, hK _ _ (by rw [tot_two]; omega) q.ps q.off⟩
 (repeat refine qA ?_);refine rA ?_
 simp [s1, s5, hd0]
 (repeat refine qA ?_);refine AWp.cutA M ?_ ?_
 ·refine fA ?_
  refine kA ?_
  subst hM
  exact ⟨k0, by omega, by omega, fun e => absurd e hd0, by simp [s0], by simp [s1], by simp [s4], by simp [s5], by simp [sm]⟩
 intro st hst
 subst hM
 obtain ⟨k, hk1, hk8, hkd, s0, s1, s4, s5, sm⟩ := hst
 (repeat refine qA ?_);refine rA ?_
 simp [s5]
 obtain ⟨M, hM⟩ : ∃ M : St -> Prop, M = (fun st => 4 <= k /\ st.slots 0 = .ptr g 0 /\ st.slots 1 = .int .i64 d /\ st.slots 4 = .ptr g4 0 /\ st.slots 5 = .int .i64 k /\ st.mem = m1) := ⟨_, rfl⟩
 (repeat refine qA ?_);refine AWp.cutA M ?_ ?_
 ·(repeat refine qA ?_);refine bA ?_
  (repeat refine qA ?_);refine rA ?_
  simp
  by_cases e1 : k = 1
  ·(repeat refine qA ?_);refine AWp.condT (by simp [e1]) ?_
   (repeat refine qA ?_);refine rA ?_
   simp [s0]
   refine wA ?_
   simp [sm]
   refine c_l1Below hl h.ps 10 (by omega) fun n m2 n0 n1 hc ho => ?_
   have h := h.call hgr (off_of ho) hc
   try simp
   refine oC' (c_l3Num n) ?_
   have w4 := h.get (g := g4) (b := .box [.int .i64 0, .int .i64 0, .str ByteArray.empty, .lst true 0 []]) (by simp)
   simp [s4, w4, Ex.av, tk]
   try refine ⟨okE _, ?_⟩
   have q := DH.put (l1 := []) (b' := .box (Ex.mk 1 n ⟨#[]⟩ []).cells) h
   exact AWp.ret ⟨[(Ex.mk 1 n ⟨#[]⟩ []).av], (Ex.mk 1 n ⟨#[]⟩ []).av, _, by simp [Tryz.f78, resA, s4, Ex.av, tk], by (try simp); exact View.refl _ _, hK _ _ (by rw [Ex.tot_mk]; have : (⟨#[]⟩ : ByteArray).size = 0 := rfl; simp only [totL]; omega) q.ps q.off⟩
  (repeat refine qA ?_);refine AWp.condF (by simp [e1]) ?_
  (repeat refine qA ?_);refine rA ?_
  simp
  by_cases e2 : k = 2
  ·(repeat refine qA ?_);refine AWp.condT (by simp [e2]) ?_
   (repeat refine qA ?_);refine rA ?_
   simp [s0, literalA]
   refine wA ?_
   simp [sm]
   refine c_l1Str hl h.ps true [⟨#[120]⟩, ⟨#[121]⟩, ⟨#[105]⟩, ⟨#[106]⟩, ⟨#[115]⟩] (by simp) (by simp) fun nm m2 hn hc ho => ?_
   have h := h.call hgr ho hc
   try simp
   refine oC' (c_l3Var nm) ?_
   have w4 := h.get (g := g4) (b := .box [.int .i64 0, .int .i64 0, .str ByteArray.empty, .lst true 0 []]) (by simp)
   simp [s4, w4, Ex.av, tk]
   try refine ⟨okE _, ?_⟩
   have q := DH.put (l1 := []) (b' := .box (Ex.mk 2 0 nm []).cells) h
   exact AWp.ret ⟨[(Ex.mk 2 0 nm []).av], (Ex.mk 2 0 nm []).av, _, by simp [Tryz.f78, resA, s4, Ex.av, tk], by (try simp); exact View.refl _ _, hK _ _ (by have : nm.size <= 1 := (by simp at hn; rcases hn with rfl | rfl | rfl | rfl | rfl <;> decide); rw [Ex.tot_mk]; simp only [totL]; omega) q.ps q.off⟩
  (repeat refine qA ?_);refine AWp.condF (by simp [e2]) ?_
  (repeat refine qA ?_);refine rA ?_
  simp
  by_cases e3 : k = 3
  ·(repeat refine qA ?_);refine AWp.condT (by simp [e3]) ?_
   have hd0 : 0 < d := by omega
   have hw : IntKind.wrap .i64 (d - 1) = d - 1 := wrap64 (by omega) (by omega)
   (repeat refine qA ?_);refine rA ?_
   simp [s0, s1, hw, literalA]
   refine wA ?_
   simp [sm]
   refine c_l1Str hl h.ps true [⟨#[97]⟩, ⟨#[98]⟩] (by simp) (by simp) fun nm m2 hn hc ho => ?_
   have h := h.call hgr ho hc
   simp [s0, s1, hw]
   refine wA ?_
   try simp
   refine hrec hd0 l hl g _ h.ps _ fun x m3 hx hc ho => ?_
   have h := h.call hgr ho hc
   try simp
   refine oC' (r := (Ex.mk 3 0 nm [x]).av) (by simpa [Ex.av] using c_l3At nm x) ?_
   have w4 := h.get (g := g4) (b := .box [.int .i64 0, .int .i64 0, .str ByteArray.empty, .lst true 0 []]) (by simp)
   simp [s4, w4, Ex.av, tk]
   try refine ⟨okE _, ?_⟩
   have q := DH.put (l1 := []) (b' := .box (Ex.mk 3 0 nm [x]).cells) h
   exact AWp.ret ⟨[(Ex.mk 3 0 nm [x]).av], (Ex.mk 3 0 nm [x]).av, _, by simp [Tryz.f78, resA, s4, Ex.av, tk], by (try simp); exact View.refl _ _, hK _ _ (by have : nm.size <= 1 := (by simp at hn; rcases hn with rfl | rfl <;> decide); rw [Ex.tot_mk]; simp only [totL]; omega) q.ps q.off⟩
  (repeat refine qA ?_);refine AWp.condF (by simp [e3]) ?_
  refine kA ?_
  subst hM
  exact ⟨by omega, by simp [s0], by simp [s1], by simp [s4], by simp [s5], by simp [sm]⟩
 clear s0 s1 s4 s5 sm
 intro st hst
 subst hM
 obtain ⟨hk4, s0, s1, s4, s5, sm⟩ := hst
 have hd0 : 0 < d := by omega
 have hw : IntKind.wrap .i64 (d - 1) = d - 1 := wrap64 (by omega) (by omega)
 (repeat refine qA ?_);refine rA ?_
 simp [s0, s1, hw]
 refine wA ?_
 simp [sm]
 refine hrec hd0 l hl g _ h.ps _ fun x m2 hx hc ho => ?_
 have h := h.call hgr ho hc
 simp [Ex.av]
 intro g6 hg6
 try refine ⟨okE _, ?_⟩
 have h := h.new hgr hg6 (.box x.cells)
 refine AWp.gen (fun st => st.slots 0 = .ptr g 0 /\ st.slots 1 = .int .i64 d /\ st.slots 4 = .ptr g4 0 /\ st.slots 5 = .int .i64 k /\ st.slots 6 = .ptr g6 0 /\ st.mem = m2.set g6 (.box x.cells)) ⟨by simp [s0], by simp [s1], by simp [s4], by simp [s5], by simp, by simp⟩ ?_
 generalize m2.set g6 (.box x.cells) = m3 at *
 clear s0 s1 s4 s5 sm hg6 ho hc
 rintro st ⟨s0, s1, s4, s5, s6, sm⟩
 (repeat refine qA ?_);refine AWp.regionX (fun _ => false) (fun _ => false) [0, 1, 2, 3, 4, 5, 6, 7] [0, 2, 3, 4, 5, 1, 6, 7] 1 5 [0, 1, 2, 3, 4, 5, 6, 7] (by kernel_rfl) ?_ ?_
 ·have w6 := h.get (g := g6) (b := .box x.cells) (by simp)
  simp [s0, s1, s5, s6, sm, w6, hw, tk]
  refine wA ?_
  simp [sm]
  refine hrec hd0 l hl g _ h.ps _ fun y m4 hy hc ho => ?_
  have h := h.call hgr ho hc
  try simp
  refine oC' (r := (two k x y).av) (by simpa [Ex.av] using c_l3Two k x y) ?_
  have w4 := h.get (g := g4) (b := .box [.int .i64 0, .int .i64 0, .str ByteArray.empty, .lst true 0 []]) (by simp)
  simp [s4, w4, Ex.av, tk]
  try refine ⟨okE _, ?_⟩
  have q := DH.put (l1 := [(g6, .box x.cells)]) (b' := .box (two k x y).cells) h
  exact AWp.ret ⟨[(two k x y).av], (two k x y).av, _, by simp [Tryz.f78, resA, s4, Ex.av, tk], by (try simp); exact View.refl _ _, hK _ _ (by rw [tot_two]; omega) q.ps q.off⟩
 simp [s0, s1, s5, s6, sm, hw]
 refine wA ?_
 simp [sm]
 refine hrec hd0 l hl g _ h.ps _ fun y m4 hy hc ho => ?_
 have h := h.call hgr ho hc
 have w6 := h.get (g := g6) (b := .box x.cells) (by simp)
 simp [w6, s6, tk]
 refine oC' (r := (two k x y).av) (by simpa [Ex.av] using c_l3Two k x y) ?_
 have w4 := h.get (g := g4) (b := .box [.int .i64 0, .int .i64 0, .str ByteArray.empty, .lst true 0 []]) (by simp)
 simp [s4, w4, Ex.av, tk]
 try refine ⟨okE _, ?_⟩
 have q := DH.put (l1 := [(g6, .box x.cells)]) (b' := .box (two k x y).cells) h
 exact AWp.ret ⟨[(two k x y).av], (two k x y).av, _, by simp [Tryz.f78, resA, s4, Ex.av, tk], by (try simp); exact View.refl _ _, hK _ _ (by rw [tot_two]; omega) q.ps q.off⟩
theorem c_l3Draw_0 : DrwE Tryz.prog 78 [.int .i64 0] 4 := c_l3Draw0 0 1 (by omega) (by omega) (by omega) fun h => by omega
theorem c_l3Draw_1 : DrwE Tryz.prog 78 [.int .i64 1] 10 := c_l3Draw0 1 4 (by omega) (by omega) (by omega) fun _ => c_l3Draw_0
theorem c_l3Draw_2 : DrwE Tryz.prog 78 [.int .i64 2] 22 := c_l3Draw0 2 10 (by omega) (by omega) (by omega) fun _ => c_l3Draw_1
theorem c_l3Draw_3 : DrwE Tryz.prog 78 [.int .i64 3] 46 := c_l3Draw0 3 22 (by omega) (by omega) (by omega) fun _ => c_l3Draw_2
theorem c_l3Any : DrwE Tryz.prog 29 [] 100 := by
 intro l hl g m hc0 K hK
 have hgr := hc0.at
 have tk : ∀ e : Ex, List.take 4 e.cells = e.cells := fun e => List.take_of_length_le (by simp)
 have dr : ∀ e : Ex, List.drop 4 e.cells = [] := fun e => List.drop_eq_nil_of_le (by simp)
 refine wcall_of Tryz.func29 (by kernel_rfl) rfl (by simp [Tryz.f29]) ?_
 (repeat refine qA ?_);refine rA ?_
 simp
 intro g2 hg2
 have h := (DH.start hc0).new hgr hg2 (.box [.int .i64 0, .int .i64 0, .str ByteArray.empty, .lst true 0 []])
 refine AWp.gen (fun st => st.slots 0 = .ptr g 0 /\ st.slots 2 = .ptr g2 0 /\ st.mem = m.set g2 (.box [.int .i64 0, .int .i64 0, .str ByteArray.empty, .lst true 0 []])) ⟨by simp, by simp, by simp⟩ ?_
 generalize m.set g2 (.box [.int .i64 0, .int .i64 0, .str ByteArray.empty, .lst true 0 []]) = m0 at *
 rintro st ⟨s0, s2, sm⟩
 (repeat refine qA ?_);refine rA ?_
 simp [s0]
 refine wA ?_
 simp [sm]
 refine c_l3Draw_3 l hl g _ h.ps _ fun x m1 hx hc ho => ?_
 have h := h.call hgr ho hc
 simp [Ex.av]
 intro g3 hg3
 try refine ⟨okE _, ?_⟩
 have h := h.new hgr hg3 (.box x.cells)
 refine AWp.gen (fun st => st.slots 0 = .ptr g 0 /\ st.slots 2 = .ptr g2 0 /\ st.slots 3 = .ptr g3 0 /\ st.mem = m1.set g3 (.box x.cells)) ⟨by simp [s0], by simp [s2], by simp, by simp⟩ ?_
 generalize m1.set g3 (.box x.cells) = m2 at *
 clear s0 s2 sm hg3 ho hc
 rintro st ⟨s0, s2, s3, sm⟩
 (repeat refine qA ?_);refine rA ?_
 simp [s0]
 refine wA ?_
 simp [sm]
 refine c_l1Below hl h.ps 10 (by omega) fun n m3 n0 n1 hc ho => ?_
 have h := h.call hgr (off_of ho) hc
 clear hc ho
 try simp
 refine AWp.gen (fun st => st.slots 0 = .ptr g 0 /\ st.slots 2 = .ptr g2 0 /\ st.slots 3 = .ptr g3 0 /\ st.slots 8 = .int .i64 n /\ st.mem = m3) ⟨by simp [s0], by simp [s2], by simp [s3], by simp, by simp⟩ ?_
 clear s0 s2 s3 sm
 rintro st ⟨s0, s2, s3, s8, sm⟩
 obtain ⟨M, hM⟩ : ∃ M : St -> Prop, M = (fun st => ∃ e : Ex, e.tot <= 100 /\ st.slots 2 = .ptr g2 0 /\ st.slots 3 = .ptr g3 0 /\ DH m l g [(g3, .box e.cells), (g2, .box [.int .i64 0, .int .i64 0, .str ByteArray.empty, .lst true 0 []])] st.mem) := ⟨_, rfl⟩
 (repeat refine qA ?_);refine AWp.cutA M ?_ ?_
 ·(repeat refine qA ?_);refine bA ?_
  rcases x with ⟨ek, en, es, el⟩
  have hxl : es.size + totL Ex.tot el <= 46 := by rw [Ex.tot_mk] at hx; omega
  have w3 := h.get (g := g3) (b := .box (Ex.mk ek en es el).cells) (by simp)
  rw [Ex.cells_mk] at w3
  (repeat refine qA ?_);refine rA ?_
  simp [s8]
  by_cases e0 : n = 0
  ·(repeat refine qA ?_);refine AWp.condT (by simp [e0]) ?_
   (repeat refine qA ?_);refine rA ?_
   simp [s0]
   refine wA ?_
   simp [sm]
   refine c_l1Below hl h.ps 10 (by omega) fun k m4 k0 k1 hc ho => ?_
   have h := h.call hgr (off_of ho) hc
   have w3 := h.get (g := g3) (b := .box (Ex.mk ek en es el).cells) (by simp)
   rw [Ex.cells_mk] at w3
   simp [s3, w3]
   have h := DH.put (l1 := []) (b' := .box (Ex.mk k en es el).cells) h
   subst hM
   exact ⟨Ex.mk k en es el, by rw [Ex.tot_mk]; omega, by simp [s2], by simp [s3], by simpa [Ex.cells_mk] using h⟩
  (repeat refine qA ?_);refine AWp.condF (by simp [e0]) ?_
  (repeat refine qA ?_);refine rA ?_
  simp [s8]
  by_cases e1 : n = 1
  ·(repeat refine qA ?_);refine AWp.condT (by simp [e1]) ?_
   (repeat refine qA ?_);refine rA ?_
   simp [s0, literalA]
   refine wA ?_
   simp [sm]
   refine c_l1Int hl h.ps true [-1, 999999, 1000000] (by simp) (by simp) fun k m4 hk hc ho => ?_
   have h := h.call hgr (off_of ho) hc
   have w3 := h.get (g := g3) (b := .box (Ex.mk ek en es el).cells) (by simp)
   rw [Ex.cells_mk] at w3
   simp [s3, w3]
   have h := DH.put (l1 := []) (b' := .box (Ex.mk ek k es el).cells) h
   subst hM
   exact ⟨Ex.mk ek k es el, by rw [Ex.tot_mk]; omega, by simp [s2], by simp [s3], by simpa [Ex.cells_mk] using h⟩
  (repeat refine qA ?_);refine AWp.condF (by simp [e1]) ?_
  (repeat refine qA ?_);refine rA ?_
  simp [s8]
  by_cases e2 : n = 2
  ·(repeat refine qA ?_);refine AWp.condT (by simp [e2]) ?_
   (repeat refine qA ?_);refine rA ?_
   simp [s0, literalA]
   refine wA ?_
   simp [sm]
   refine c_l1Str hl h.ps true [⟨#[]⟩, ⟨#[102, 111, 114]⟩, ⟨#[120]⟩] (by simp) (by simp) fun nm m4 hn hc ho => ?_
   have h := h.call hgr ho hc
   have w3 := h.get (g := g3) (b := .box (Ex.mk ek en es el).cells) (by simp)
   rw [Ex.cells_mk] at w3
   simp [s3, w3]
   have hnm : nm.size <= 3 := by simp at hn; rcases hn with rfl | rfl | rfl <;> decide
   have h := DH.put (l1 := []) (b' := .box (Ex.mk ek en nm el).cells) h
   subst hM
   exact ⟨Ex.mk ek en nm el, by rw [Ex.tot_mk]; omega, by simp [s2], by simp [s3], by simpa [Ex.cells_mk] using h⟩
  (repeat refine qA ?_);refine AWp.condF (by simp [e2]) ?_
  (repeat refine qA ?_);refine rA ?_
  simp [s8]
  by_cases e3 : n = 3
  ·(repeat refine qA ?_);refine AWp.condT (by simp [e3]) ?_
   (repeat refine qA ?_);refine rA ?_
   simp [s0]
   refine wA ?_
   simp [sm]
   refine c_l1Below hl h.ps 9 (by omega) fun k m4 k0 k1 hc ho => ?_
   have h := h.call hgr (off_of ho) hc
   obtain ⟨j, rfl⟩ := Int.eq_ofNat_of_zero_le k0
   try simp
   refine AWp.lastQ M ?_ (fun st hst => by simpa [blockA, thenA] using hst)
   refine AWp.block (AWp.rounds (fun q st => ∃ (i : Nat) (e : Ex), q = i /\ i <= 8 /\ e.tot + 2 * i <= 46 + 16 /\ st.slots 2 = .ptr g2 0 /\ st.slots 3 = .ptr g3 0 /\ st.slots 4 = .int .i64 i /\ DH m l g [(g3, .box e.cells), (g2, .box [.int .i64 0, .int .i64 0, .str ByteArray.empty, .lst true 0 []])] st.mem) j ⟨j, Ex.mk ek en es el, rfl, by omega, by rw [Ex.tot_mk]; omega, by simp [s2], by simp [s3], by simp, by simpa using h⟩ ?_)
   rintro RR q st hRR ⟨i, e, rfl, hi8, het, s2, s3, s4, h⟩
   (repeat refine qA ?_);refine rA ?_
   simp [s4]
   by_cases hlt : 0 < q
   ·(repeat refine qA ?_);refine AWp.condT (by simp [hlt]) ?_
    refine kA ?_
    try simp
    (repeat refine qA ?_);refine bA ?_
    have w3 := h.get (g := g3) (b := .box e.cells) (by simp)
    have w : IntKind.wrap .i64 ((q : Int) - 1) = ((q - 1 : Nat) : Int) := by rw [wrap64 (by omega) (by omega)]; omega
    (repeat refine qA ?_);refine AWp.regionG (fun i => i == 1 || i == 2) (fun _ => false) [0, 1, 2, 3] [0, 1, 2, 3] (by kernel_rfl) ?_
    simp [s3, w3, tk]
    refine oC' (c_l3Num 1) ?_
    simp
    refine oC' (r := (two 4 e (Ex.mk 1 1 ⟨#[]⟩ [])).av) (by simpa [Ex.av] using c_l3Two 4 e (Ex.mk 1 1 ⟨#[]⟩ [])) ?_
    simp [Ex.av, s3, w3, dr]
    try refine ⟨okE _, ?_⟩
    have h := DH.put (l1 := []) (b' := .box (two 4 e (Ex.mk 1 1 ⟨#[]⟩ [])).cells) h
    (repeat refine qA ?_);refine rA ?_
    simp [s4, w]
    have ht : (two 4 e (Ex.mk 1 1 ⟨#[]⟩ [])).tot = e.tot + 2 := by rw [tot_two, Ex.tot_mk]; have : (⟨#[]⟩ : ByteArray).size = 0 := rfl; simp only [totL]; omega
    exact hRR _ (q - 1) (by omega) ⟨q - 1, two 4 e (Ex.mk 1 1 ⟨#[]⟩ []), rfl, by omega, by rw [ht]; omega, by simp [s2], by simp [s3], by simp, by simpa using h⟩
   (repeat refine qA ?_);refine AWp.condF (by simp; omega) ?_
   refine eA ?_
   subst hM
   exact ⟨e, by omega, by simp [s2], by simp [s3], by simpa using h⟩
  (repeat refine qA ?_);refine AWp.condF (by simp [e3]) ?_
  refine kA ?_
  subst hM
  exact ⟨Ex.mk ek en es el, by rw [Ex.tot_mk]; omega, by simp [s2], by simp [s3], by simpa [sm] using h⟩
 clear s0 s2 s3 s8 sm h
 intro st hst
 subst hM
 obtain ⟨e, het, s2, s3, h⟩ := hst
 have w3 := h.get (g := g3) (b := .box e.cells) (by simp)
 have w2 := h.get (g := g2) (b := .box [.int .i64 0, .int .i64 0, .str ByteArray.empty, .lst true 0 []]) (by simp)
 (repeat refine qA ?_);refine rA ?_
 simp [s2, s3, w2, w3, tk]
 try refine ⟨okE _, ?_⟩
 have q := DH.put (l1 := [(g3, .box e.cells)]) (b' := .box e.cells) h
 exact AWp.ret ⟨[e.av], e.av, _, by simp [Tryz.f29, resA, s2, Ex.av, tk], by (try simp); exact View.refl _ _, hK _ _ het q.ps q.off⟩
theorem sc_at (k : Int) (s : ByteArray) (a e lo hi : Ex) (v : AV) : (sc k s a e lo hi v)[18]? = some v := by
 have : sc k s a e lo hi v = (.int .i64 k :: .str s :: (a.cells ++ (e.cells ++ (lo.cells ++ hi.cells)))) ++ [v] := by simp [sc]
 rw [this, List.getElem?_append_right (by simp)]
 simp
theorem sc_set (k : Int) (s : ByteArray) (a e lo hi : Ex) (v v' : AV) : (sc k s a e lo hi v).set 18 v' = sc k s a e lo hi v' := by
 have : ∀ v, sc k s a e lo hi v = (.int .i64 k :: .str s :: (a.cells ++ (e.cells ++ (lo.cells ++ hi.cells)))) ++ [v] := fun v => by simp [sc]
 rw [this, this, List.set_append_right _ _ (by simp)]
 simp
end Go.T
