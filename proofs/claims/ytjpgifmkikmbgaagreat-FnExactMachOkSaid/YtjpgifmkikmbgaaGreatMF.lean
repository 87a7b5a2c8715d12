/- A list of names cloned; where an array is; are all of these arrays, is any: what the program computes. Programs that are right: what the program computes. Programs that are right: what the program computes, whole. -/
import Derived.Test.YtjpgifmkikmbgaaGreatME
import Derived.Ground.Names2Prog
import Derived.Shelf.Slices.Clone
namespace Go.Proofs
open Go.Shelf
shelf_lay Lays2.n16 Nm2 16 at Tryz as Tryz.laysClone
end Go.Proofs
namespace Go.T
open Go Go.Proofs Go.RowKit
set_option maxRecDepth 10000
set_option linter.unusedSimpArgs false
set_option linter.unusedVariables false
theorem flat_strs : ∀ ns : List ByteArray, flat (ns.map AV.str) = ns.map AV.str
  | [] => rfl
  | n :: ns => by have := flat_strs ns; simp only [flat, List.map_cons, List.flatMap_cons] at this ⊢; rw [this]; rfl
theorem hb_Clone : HasBody Tryz.prog 151 := ⟨_, Tryz.func151, by kernel_rfl, rfl⟩
theorem memRep_grown {w w' : World} {S : Nat → Prop} {m : Mem} (hm : MemRep w S m) (hbel : Below w.heap.size w w') {g c : Nat} {T : TypeId} {xs : List ByteArray} {us : List Value} (hg : w.heap.size ≤ g) (hh : w'.heap[g]? = some (.cells (xs.map Value.string ++ us).toArray T (0, 0))) (hl : (xs.map Value.string ++ us).length = c * 1) (hle : xs.length ≤ c) :
    MemRep w' S (m.set g (.arr T 1 c (xs.map .str))) ∧ m g = none ∧ Keep (fun _ => False) w w' := by
  have hfree : m g = none := by
    cases hq : m g with
    | none => rfl
    | some b => have := (hm.blk _ b hq).lt; omega
  have hk : Keep (fun _ => False) w w' := ⟨hbel.os, hbel.tape, hbel.output, hbel.size, fun b hb _ => hbel.block b hb⟩
  have hst : Stays S w w' := fun b hb => hbel.block b (hm.apart b hb).2
  refine ⟨⟨fun g' b hb => ?_, fun b hb => ⟨?_, ?_⟩⟩, hfree, hk⟩
  · rw [set_at] at hb
    by_cases e : g' = g
    · subst e
      rw [if_pos rfl] at hb
      obtain rfl := Option.some.inj hb
      exact ⟨_, us, hh, strs_reps _ _ xs, hl, fun x hx => by obtain ⟨y, _, rfl⟩ := List.mem_map.1 hx; rfl, by simpa using hle⟩
    · rw [if_neg e] at hb
      exact (hm.blk g' b hb).mono hst (fun _ h => h) (hbel.block g' (hm.blk g' b hb).lt)
  · have := hm.apart b hb
    rw [set_at, if_neg (by omega)]
    exact this.1
  · exact Nat.lt_of_lt_of_le (hm.apart b hb).2 hbel.size
theorem c_Clone (ns : List ByteArray) (hb : ns.length ≤ 8388608) {m : Mem} {K : AV → Mem → Prop} (hK : ∀ v m', GO m ns v m' → K v m') : WCall Tryz.prog 151 [strs ns] m K := by
  refine ⟨hb_Clone, fun w S cargs hm hargs => ?_⟩
  cases hargs with | @cons _ v _ vs hv ht =>
  cases ht
  have fin : ∀ (n : Nat) (e : Ending) (w' : World), n = ns.length → (∃ v', e = .returned v' ∧ w'.ownsRow w.heap.size 9 1 v' n (ns.map Value.string) ∧ v' ≠ .slice none 0 0 ∧ Below w.heap.size w w') → ∃ v r m' S', e = .returned v ∧ K r m' ∧ (∀ b, S b → S' b) ∧ (∀ b, S' b → S b ∨ m b ≠ none ∨ w.heap.size ≤ b) ∧ MemRep w' S' m' ∧ Rep w' S' r v ∧ Keep (fun g => m g ≠ none) w w' ∧ (∀ g b, m' g = some b → m g ≠ none ∨ w.heap.size ≤ g) := by
    rintro n e w' rfl ⟨v', he, ⟨hl, ho⟩, hne, hbel⟩
    rcases ho with ⟨h0, _⟩ | ⟨g, cap, cur, rfl, hg, hh, hnc, _, hsz, htk⟩
    · exact absurd h0 hne
    rw [Nat.mul_one] at htk hsz
    have hcur : cur = (ns.map Value.string ++ cur.toList.drop ns.length).toArray := by
      rw [← htk, List.take_append_drop, Array.toArray_toList]
    rw [hcur] at hh
    obtain ⟨h1, h2, h3⟩ := memRep_grown (c := cap) hm hbel hg hh (by simp; omega) hnc
    refine ⟨_, _, _, S, he, hK (.own g ns.length cap) _ ⟨(Ext.refl m).set h2 _, .inr ⟨g, cap, rfl, set_same _ _ _, h2⟩⟩, fun _ h => h, fun _ h => .inl h, h1, .own g _ cap, h3.mono (fun _ h => h.elim), fun g' b hb' => ?_⟩
    rw [set_at] at hb'
    by_cases e : g' = g
    · exact .inr (by omega)
    · rw [if_neg e] at hb'; exact .inl (by rw [hb']; simp)
  unfold strs at hv
  generalize hxs : ns.map AV.str = xs at hv
  cases hv with
  | lnil _ _ A c hc =>
    have hns : ns = [] := by simpa using hxs
    subst hns
    cases A with
    | none =>
      refine calls_mono (Any.slices_Clone_string_nil Tryz.laysClone 0 c w) ?_
      rintro e w' ⟨rfl, rfl⟩
      exact ⟨_, _, _, S, rfl, hK (.lst true 0 []) m ⟨Ext.refl m, .inl ⟨rfl, 0, rfl⟩⟩, fun _ h => h, fun _ h => .inl h, hm, .lnil _ _ none 0 (fun _ => rfl), Keep.refl _ _, fun g b hb' => .inl (by rw [hb']; simp)⟩
    | some a => exact calls_mono (Any.slices_Clone_string_zero Tryz.laysClone a c w) fun e w' h => fin 0 e w' rfl h
  | lst _ _ b o c h1 h2 h3 h4 h5 =>
    subst hxs
    have hcell : ∀ j, j < ns.length → w.cell? ⟨b, o + j, none⟩ = some (.string (ns.getD j ByteArray.empty)) := by
      intro j hj
      rw [flat_strs] at h5
      obtain ⟨v, hv, hr⟩ := h5.get j (.str ns[j]) (by simp [hj])
      cases hr
      rw [hv, List.getD_eq_getElem?_getD, List.getElem?_eq_getElem hj]
      rfl
    have h := Any.slices_Clone_string Tryz.laysClone b o ns.length c ns w (Nat.le_refl _) (by omega) hcell
    rw [List.take_length] at h
    have h2 : Calls Tryz.prog 151 #[.slice (some ⟨b, o, none⟩) ns.length c] w _ := h
    rw [List.length_map]
    exact calls_mono h2 fun e w' h => fin ns.length e w' rfl h
theorem c_ArrAt1 (a : Ar) (s : ByteArray) {m : Mem} {gn : Nat} {K : AV → Mem → Prop} (hm : m gn = some (.box [.str s])) (hK : ∀ m', Ext m m' → K (.bool (decide (a.s = s))) m') : WCall Tryz.prog 162 [a.av, .ptr gn 0] m K := by
  refine wcall_of Tryz.func162 (by kernel_rfl) rfl (by simp [Tryz.f162]) ?_
  unfold Ar.av Ar.cells
  (repeat refine AWp.seq ?_); refine AWp.region noP (by kernel_rfl) ?_
  try simp
  intro g hg
  have hgg : (m.set g (.box [.str a.s, .int .i64 a.n])) g = some (.box [.str a.s, .int .i64 a.n]) := set_same _ _ _
  have hE := (Ext.refl m).set hg (.box [.str a.s, .int .i64 a.n])
  have hgn := hE gn _ hm
  generalize m.set g (.box [.str a.s, .int .i64 a.n]) = m1 at *
  (repeat refine AWp.seq ?_); refine AWp.region noP (by kernel_rfl) ?_
  simp [hgg, hgn]
  exact AWp.ret (post_retW rfl ⟨_, _, View.refl _ _, hK _ hE⟩)
theorem c_IndexFunc (A : List Ar) (s : ByteArray) (hl : A.length ≤ 1048576) {m : Mem} {gn : Nat} {K : AV → Mem → Prop} (hm : m gn = some (.box [.str s])) (hK : ∀ m', Ext m m' → K (.int .i64 (at_ (A.map Ar.s) s)) m') :
    WCall Tryz.prog 161 [.lst false 2 (A.map Ar.av), .func (.func 162) [.ptr gn 0]] m K := by
  refine wcall_of Tryz.func161 (by kernel_rfl) rfl (by simp [Tryz.f161]) ?_
  (repeat refine AWp.seq ?_); refine AWp.region noP (by kernel_rfl) ?_
  try simp
  (repeat refine AWp.seq ?_); refine AWp.region noP (by kernel_rfl) ?_
  try simp
  (repeat refine AWp.seq ?_); refine AWp.block (AWp.rounds (fun k st => ∃ (i : Nat), k = A.length - i ∧ i ≤ A.length ∧ st.slots 0 = .lst false 2 (A.map Ar.av) ∧ st.slots 1 = .func (.func 162) [.ptr gn 0] ∧ st.slots 7 = .int .i64 A.length ∧ st.slots 8 = .int .i64 i ∧ Ext m st.mem ∧ at_ (A.map Ar.s) s = idxAt i ((A.map Ar.s).drop i) s) A.length ⟨0, by simp, by simp, by simp, by simp, by simp, by simp, by simpa using Ext.refl m, by simp [at_]⟩ ?_)
  rintro R k st hR ⟨i, rfl, hi, s0, s1, s7, s8, hE, hr⟩
  (repeat refine AWp.seq ?_); refine AWp.region noP (by kernel_rfl) ?_
  simp [s7, s8]
  (repeat refine AWp.seq ?_); refine AWp.cond (b := decide (i < A.length)) (by simp) (fun hb => ?_) (fun hb => ?_)
  · simp at hb
    have hg : A[i]? = some A[i] := List.getElem?_eq_getElem hb
    have hdr : (A.map Ar.s).drop i = A[i].s :: (A.map Ar.s).drop (i + 1) := by
      rw [List.drop_eq_getElem_cons (by simpa using hb)]; simp
    have hz : at_ (A.map Ar.s) s = if A[i].s = s then (i : Int) else idxAt (i + 1) ((A.map Ar.s).drop (i + 1)) s := by rw [hr, hdr, idxAt]
    have hx : ∀ m, idxA Tryz.prog m 28 (.lst false 2 (A.map Ar.av)) (.int .i64 i) = some (.ref A[i].cells) := fun m => idx (y := A[i].av) es_28 (by simp [hg])
    have hw : IntKind.wrap .i64 ((i : Int) + 1) = (i + 1 : Nat) := wrap64 (by omega) (by omega)
    refine AWp.skip ?_
    try simp
    (repeat refine AWp.seq ?_); refine AWp.block ?_; (repeat refine AWp.seq ?_); refine AWp.region noP (by kernel_rfl) ?_
    simp [s8]
    (repeat refine AWp.seq ?_); refine AWp.region noP (by kernel_rfl) ?_
    simp [s0, s1, hx]
    refine aop_wcall _ _ _ _ _ _ _ _ rfl (n := 162) (caps := [.ptr gn 0]) (by simp [s1]) ?_
    try simp [s0, s1, hx]
    refine c_ArrAt1 A[i] s (hE gn _ hm) fun m' hE' => ?_
    try simp
    (repeat refine AWp.seq ?_); refine AWp.cond (b := decide (A[i].s = s)) (by simp) (fun he => ?_) (fun he => ?_)
    · simp at he
      (repeat refine AWp.seq ?_); refine AWp.region noP (by kernel_rfl) ?_
      try simp
      refine AWp.ret (post_retW rfl ⟨_, _, View.refl _ _, ?_⟩)
      try simp
      have := hK m' (fun g b h => hE' g b (hE g b h))
      rw [hz, if_pos he] at this
      exact this
    · simp at he
      refine AWp.skip ?_
      try simp
      (repeat refine AWp.seq ?_); refine AWp.region noP (by kernel_rfl) ?_
      simp [s8, hw]
      exact hR _ (A.length - (i + 1)) (by omega) ⟨i + 1, rfl, hb, by simp [s0], by simp [s1], by simp [s7], by simp, (fun g b h => hE' g b (hE g b h)), by rw [hz, if_neg he]⟩
  · simp at hb
    refine AWp.exit ?_
    try simp
    (repeat refine AWp.seq ?_); refine AWp.region noP (by kernel_rfl) ?_
    try simp
    have : i = A.length := by omega
    subst this
    rw [List.drop_eq_nil_of_le (by simp), idxAt] at hr
    refine AWp.ret (post_retW rfl ⟨_, _, View.refl _ _, ?_⟩)
    try simp
    have := hK st.mem hE
    rw [hr] at this
    exact this
theorem c_impl_ArrAt (p : Pg) (s : ByteArray) (ht : p.arrs.length ≤ 1048576) : PCall Tryz.prog 145 [p.av, .str s] (.int .i64 (at_ p.arrNames s)) := by
  refine pcall_of Tryz.func145 (by kernel_rfl) rfl (by simp [Tryz.f145]) ?_
  have hc : p.cells = [.lst false 2 (p.arrs.map Ar.av), .lst false 19 (p.body.map Sm.av)] := rfl
  unfold Pg.av
  rw [hc]
  (repeat refine AWp.seq ?_); refine AWp.region noP (by kernel_rfl) ?_
  try simp
  intro g1 g2 h2
  have hne : g2 ≠ g1 := by rintro rfl; simp [set_at] at h2
  (repeat refine AWp.seq ?_); refine AWp.region noP (by kernel_rfl) ?_
  simp [set_at, hne, hne.symm]
  refine aop_wcall _ _ _ _ _ _ _ _ rfl (eval_func _ _) ?_
  refine c_IndexFunc p.arrs s ht (by simp [set_at]) fun m' hE => ?_
  try simp
  exact AWp.ret (post_ret1 rfl (by simp [Pg.arrNames]))
theorem c_areArrs (p : Pg) (l : List ByteArray) (ht : p.arrs.length ≤ 1048576) (hl : l.length ≤ 16777216) : PCall Tryz.prog 123 [p.av, strs l] (.tup [.bool (l.all p.isArr), .bool (l.any p.isArr)]) := by
  refine pcall_of Tryz.func123 (by kernel_rfl) rfl (by simp [Tryz.f123]) ?_
  unfold Pg.av
  have c1 := fun s => c_impl_ArrAt p s ht
  unfold Pg.av at c1
  (repeat refine AWp.seq ?_); refine AWp.region noP (by kernel_rfl) ?_
  try simp
  intro g
  (repeat refine AWp.seq ?_); refine AWp.region noP (by kernel_rfl) ?_
  try simp
  (repeat refine AWp.seq ?_); refine AWp.region noP (by kernel_rfl) ?_
  simp [strs]
  (repeat refine AWp.seq ?_); refine AWp.block (AWp.rounds (fun m st => ∃ (i : Nat), m = l.length - i ∧ i ≤ l.length ∧ st.slots 2 = .ptr g 0 ∧ st.mem g = some (.box p.cells) ∧ st.slots 11 = .lst false 1 (l.map .str) ∧ st.slots 12 = .int .i64 l.length ∧ st.slots 13 = .int .i64 i ∧ st.slots 6 = .bool ((l.take i).all p.isArr) ∧ st.slots 7 = .bool ((l.take i).any p.isArr)) l.length ⟨0, by simp, by simp, by simp, by simp, by simp, by simp, by simp, by simp, by simp⟩ ?_)
  rintro R m st hR ⟨i, rfl, hi, s2, sg, s11, s12, s13, s6, s7⟩
  (repeat refine AWp.seq ?_); refine AWp.region noP (by kernel_rfl) ?_
  simp [s11, s12, s13]
  (repeat refine AWp.seq ?_); refine AWp.cond (b := decide (i < l.length)) (by simp) (fun hb => ?_) (fun hb => ?_)
  · simp at hb
    have hg : l[i]? = some l[i] := List.getElem?_eq_getElem hb
    have hx : ∀ m, idxA Tryz.prog m 59 (.lst false 1 (l.map .str)) (.int .i64 i) = some (.ref [.str l[i]]) := fun m => idx (y := .str l[i]) es_59 (by simp [hg])
    have hi2 := idxAt_has l[i] p.arrNames 0
    have hyes : decide (0 ≤ at_ p.arrNames l[i]) = p.isArr l[i] := by
      unfold Pg.isArr at_
      cases hh : has p.arrNames l[i] with
      | true => simpa using hi2.2 hh
      | false =>
        have : ¬ 0 ≤ idxAt 0 p.arrNames l[i] := fun k => by rw [hi2.1 k] at hh; cases hh
        simpa using this
    have hw : IntKind.wrap .i64 ((i : Int) + 1) = (i + 1 : Nat) := wrap64 (by omega) (by omega)
    have e1 : (l.take (i + 1)).all p.isArr = ((l.take i).all p.isArr && p.isArr l[i]) := by rw [List.take_add_one, hg, List.all_append]; simp
    have e2 : (l.take (i + 1)).any p.isArr = ((l.take i).any p.isArr || p.isArr l[i]) := by rw [List.take_add_one, hg, List.any_append]; simp
    refine AWp.skip ?_
    try simp
    (repeat refine AWp.seq ?_); refine AWp.block ?_; (repeat refine AWp.seq ?_); refine AWp.region noP (by kernel_rfl) ?_
    simp [s11, s13, hx]
    (repeat refine AWp.seq ?_); refine AWp.region allP (by kernel_rfl) ?_
    simp [s2, sg]
    refine aop_call' (c1 l[i]) ?_
    simp [hyes]
    generalize (l.take i).all p.isArr = u1 at *
    generalize (l.take i).any p.isArr = u2 at *
    generalize p.isArr l[i] = u3 at *
    cases u1 <;> cases u2 <;> cases u3 <;>
    · (repeat refine AWp.seq ?_); refine AWp.region noP (by kernel_rfl) ?_
      simp [s6]
      (repeat refine AWp.seq ?_); refine AWp.region noP (by kernel_rfl) ?_
      simp [s7]
      (repeat refine AWp.seq ?_); refine AWp.region noP (by kernel_rfl) ?_
      simp [s13, hw]
      exact hR _ (l.length - (i + 1)) (by omega) ⟨i + 1, rfl, hb, by simp [s2], by simp [sg], by simp [s11], by simp [s12], by simp, by simp [e1, s6], by simp [e2, s7]⟩
  · simp at hb
    refine AWp.exit ?_
    try simp
    (repeat refine AWp.seq ?_); refine AWp.region noP (by kernel_rfl) ?_
    have : i = l.length := by omega
    subst this
    rw [List.take_length] at s6 s7
    simp [s6, s7]
    exact AWp.ret (post_ret2 rfl (by simp) (by simp))
end Go.T
namespace Go.T
open Go Go.Proofs
set_option maxRecDepth 10000
set_option linter.unusedSimpArgs false
set_option linter.unusedVariables false
theorem leq_not (a q : ByteArray) : (Op.bytesLess a.toList q.toList || decide (a = q)) = !blt q a := by
  show (blt a q || decide (a = q)) = !blt q a
  by_cases h : a = q
  · subst h; simp [blt_irrefl]
  · cases h1 : blt a q with
    | true =>
      cases h2 : blt q a with
      | true => have := blt_trans h1 h2; rw [blt_irrefl] at this; cases this
      | false => rfl
    | false => rw [blt_tri h h1]; simp [h]
theorem c_arrsOk (A : List Ar) (ht : totL Ar.tot A ≤ 1048576) : PCall Tryz.prog 94 [.lst false 2 (A.map Ar.av)] (.bool (arrsFrom none A && decide (A.length ≤ 4))) := by
  have h1 := totL_len Ar.tot A
  refine pcall_of Tryz.func94 (by kernel_rfl) rfl (by simp [Tryz.f94]) ?_
  (repeat refine AWp.seq ?_); refine AWp.region noP (by kernel_rfl) ?_
  try simp
  (repeat refine AWp.seq ?_); refine AWp.region noP (by kernel_rfl) ?_
  try simp
  (try refine AWp.seq ?_)
  refine AWp.cutA (fun st => st.slots 0 = .lst false 2 (A.map Ar.av) ∧ arrsFrom none A = true) ?_ ?_
  · refine AWp.block (AWp.rounds (fun m st => ∃ (i : Nat) (pr : Option ByteArray), m = A.length - i ∧ i ≤ A.length ∧ st.slots 0 = .lst false 2 (A.map Ar.av) ∧ st.slots 5 = .lst false 2 (A.map Ar.av) ∧ st.slots 6 = .int .i64 A.length ∧ st.slots 7 = .int .i64 i ∧ Ahead A i pr ∧ arrsFrom none A = arrsFrom pr (A.drop i)) A.length ⟨0, none, by simp, by simp, by simp, by simp, by simp, by simp, .inl ⟨rfl, rfl⟩, by simp⟩ ?_)
    rintro R m st hR ⟨i, pr, rfl, hi, s0, s5, s6, s7, hah, hr⟩
    (repeat refine AWp.seq ?_); refine AWp.region noP (by kernel_rfl) ?_
    simp [s5, s6, s7]
    (repeat refine AWp.seq ?_); refine AWp.cond (b := decide (i < A.length)) (by simp) (fun hb => ?_) (fun hb => ?_)
    · simp at hb
      have hg : A[i]? = some A[i] := List.getElem?_eq_getElem hb
      have hx : ∀ m, idxA Tryz.prog m 28 (.lst false 2 (A.map Ar.av)) (.int .i64 i) = some (.ref [.str A[i].s, .int .i64 A[i].n]) := fun m => idx (y := A[i].av) es_28 (by simp [hg])
      have hw : IntKind.wrap .i64 ((i : Int) + 1) = (i + 1 : Nat) := wrap64 (by omega) (by omega)
      have htm := totL_mem Ar.tot (List.getElem_mem hb)
      have hs : A[i].s.size ≤ 9223372036854775806 := by unfold Ar.tot at htm ht h1; omega
      rw [arrs_step _ _ hb] at hr
      have hnx := ahead_next A i hb
      refine AWp.skip ?_
      try simp
      refine AWp.seq ?_
      refine AWp.cutA (fun st => st.slots 0 = .lst false 2 (A.map Ar.av) ∧ st.slots 5 = .lst false 2 (A.map Ar.av) ∧ st.slots 6 = .int .i64 A.length ∧ st.slots 7 = .int .i64 i ∧ arrsFrom none A = arrsFrom (some A[i].s) (A.drop (i + 1))) ?_ ?_
      · refine AWp.block ?_
        (repeat refine AWp.seq ?_); refine AWp.region noP (by kernel_rfl) ?_
        simp [s5, s7, hx]
        intro g hgf
        try simp [set_at, set_set]
        have hgg : (st.mem.set g (.box [.str A[i].s, .int .i64 A[i].n])) g = some (.box [.str A[i].s, .int .i64 A[i].n]) := set_same _ _ _
        generalize st.mem.set g (.box [.str A[i].s, .int .i64 A[i].n]) = m1 at *
        (repeat refine AWp.seq ?_); refine AWp.region allP (by kernel_rfl) ?_
        simp [hgg]
        refine aop_call' (c_impl_NameOk _ hs) ?_
        cases x1 : nameOk A[i].s
        · rw [x1] at hr
          have hph : arrsFrom none A = false := by rw [hr]; rfl
          try simp
          (repeat refine AWp.seq ?_); refine AWp.condT (by simp) ?_
          (repeat refine AWp.seq ?_); refine AWp.region noP (by kernel_rfl) ?_
          try simp
          exact AWp.ret (post_ret1 rfl (by simp [hph]))
        rw [x1] at hr
        simp [hgg]
        refine aop_call' (c_inRange _ _ _) ?_
        cases x2 : inR A[i].n 1 16
        · rw [x2] at hr
          have hph : arrsFrom none A = false := by rw [hr]; rfl
          try simp
          (repeat refine AWp.seq ?_); refine AWp.condT (by simp) ?_
          (repeat refine AWp.seq ?_); refine AWp.region noP (by kernel_rfl) ?_
          try simp
          exact AWp.ret (post_ret1 rfl (by simp [hph]))
        rw [x2] at hr
        rcases hah with ⟨rfl, rfl⟩ | ⟨a, hi0, ha, rfl⟩
        · simp [s0, s7, hgg]
          (repeat refine AWp.seq ?_); refine AWp.condF (by simp) ?_
          refine AWp.skip ?_
          simp at hr
          simp [s0, s5, s6, s7, hr]
        · replace hr : arrsFrom none A = (true && (true && (blt a.s A[i].s && arrsFrom (some A[i].s) (A.drop (i + 1))))) := hr
          have hxp : ∀ m, idxA Tryz.prog m 28 (.lst false 2 (A.map Ar.av)) (.int .i64 ((i - 1 : Nat) : Int)) = some (.ref [.str a.s, .int .i64 a.n]) := fun m => idx (y := a.av) es_28 (by simp [ha])
          have hwm : IntKind.wrap .i64 ((i : Int) - 1) = ((i - 1 : Nat) : Int) := by rw [wrap64 (by omega) (by omega)]; omega
          have hi1 : (0 : Int) < i := by omega
          have hbl := leq_not A[i].s a.s
          simp [s0, s7, hgg, hi0, hi1, hwm, hxp, hbl]
          cases x3 : blt a.s A[i].s
          · rw [x3] at hr
            have hph : arrsFrom none A = false := by rw [hr]; rfl
            (repeat refine AWp.seq ?_); refine AWp.condT (by simp) ?_
            (repeat refine AWp.seq ?_); refine AWp.region noP (by kernel_rfl) ?_
            simp
            exact AWp.ret (post_ret1 rfl (by simp [hph]))
          · rw [x3] at hr
            (repeat refine AWp.seq ?_); refine AWp.condF (by simp) ?_
            refine AWp.skip ?_
            simp at hr
            simp [s0, s5, s6, s7, hr]
      · clear s0 s5 s6 s7 hr
        rintro st ⟨s0, s5, s6, s7, hr⟩
        (repeat refine AWp.seq ?_); refine AWp.region noP (by kernel_rfl) ?_
        simp [s7, hw]
        exact hR _ (A.length - (i + 1)) (by omega) ⟨i + 1, _, rfl, hb, by simp [s0], by simp [s5], by simp [s6], by simp, hnx, hr⟩
    · simp at hb
      refine AWp.exit ?_
      have : i = A.length := by omega
      subst this
      simp [arrsFrom] at hr
      simp [s0, hr]
  rintro st ⟨s0, hA⟩
  (repeat refine AWp.seq ?_); refine AWp.region noP (by kernel_rfl) ?_
  simp [s0]
  by_cases l1 : A.length ≤ 4
  · have l1' : (A.length : Int) ≤ 4 := by omega
    exact AWp.ret (post_ret1 rfl (by simp [hA, l1, l1']))
  · have l1' : ¬ (A.length : Int) ≤ 4 := by omega
    exact AWp.ret (post_ret1 rfl (by simp [hA, l1, l1']))
theorem View.freezeBox {m : Mem} {g : Nat} {cs : List AV} (hg : m g = some (.box cs)) : View m (.ptr g 0) (m.del g) (.ref cs) := fun w S v h1 h2 => by
  obtain ⟨T, vs, hb, hr⟩ := h1.blk g _ hg
  have hSS : ∀ b, S b → S b ∨ b = g := fun b hb => .inl hb
  refine ⟨fun b => S b ∨ b = g, hSS, fun b hb => hb.imp id (fun h => by rw [h, hg]; simp), ⟨fun g' b' hg' => ?_, fun b hb' => ?_⟩, ?_, fun g' b' hg' => ?_⟩
  · unfold Mem.del at hg'
    split at hg'
    · cases hg'
    · exact (h1.blk g' b' hg').mono (fun _ _ => rfl) hSS rfl
  · rcases hb' with hb' | rfl
    · refine ⟨?_, (h1.apart b hb').2⟩
      unfold Mem.del
      split
      · rfl
      · exact (h1.apart b hb').1
    · exact ⟨by simp [Mem.del], (Array.getElem?_eq_some_iff.1 hb).1⟩
  · cases h2
    exact .ref g 0 (.inr rfl) (Cells.of_block hb (hr.mono (fun _ _ => rfl) hSS) 0 (fun i v hv => by simpa using hv))
  · unfold Mem.del at hg'
    split at hg'
    · cases hg'
    · rw [hg']; simp
theorem c_loopsOk0 (l : List Sm) (ht : totL Sm.tot l ≤ 1048576) (h : ∀ x ∈ l, ∀ ns : List ByteArray, ns.length + totL Sm.tot x.body ≤ 2097152 → PCall Tryz.prog 127 [.lst false 19 (x.body.map Sm.av), strs ns] (.bool (Sm.nests x.body ns)))
    (ns : List ByteArray) (hb : ns.length + totL Sm.tot l ≤ 2097152) : PCall Tryz.prog 127 [.lst false 19 (l.map Sm.av), strs ns] (.bool (Sm.nests l ns)) := by
  have hlen := totL_len Sm.tot l
  refine pcall_of Tryz.func127 (by kernel_rfl) rfl (by simp [Tryz.f127]) ?_
  have c1 := fun s => c_Contains ns s (by omega)
  (repeat refine AWp.seq ?_); refine AWp.region noP (by kernel_rfl) ?_
  try simp
  (repeat refine AWp.seq ?_); refine AWp.region noP (by kernel_rfl) ?_
  try simp
  (repeat refine AWp.seq ?_); refine AWp.block (AWp.rounds (fun m st => ∃ (i : Nat), m = l.length - i ∧ i ≤ l.length ∧ st.slots 7 = .lst false 19 (l.map Sm.av) ∧ st.slots 8 = .int .i64 l.length ∧ st.slots 1 = strs ns ∧ st.slots 9 = .int .i64 i ∧ Sm.nests l ns = Sm.nests (l.drop i) ns) l.length ⟨0, by simp, by simp, by simp, by simp, by simp, by simp, by simp⟩ ?_)
  rintro R m st hR ⟨i, rfl, hi, s7, s8, s1, s9, hr⟩
  (repeat refine AWp.seq ?_); refine AWp.region noP (by kernel_rfl) ?_
  simp [s7, s8, s9]
  (repeat refine AWp.seq ?_); refine AWp.cond (b := decide (i < l.length)) (by simp) (fun hb => ?_) (fun hb => ?_)
  · simp at hb
    have hg : l[i]? = some l[i] := List.getElem?_eq_getElem hb
    have hdr : l.drop i = l[i] :: l.drop (i + 1) := List.drop_eq_getElem_cons hb
    have htm := totL_mem Sm.tot (List.getElem_mem hb)
    have htb := l[i].tot_body
    have hx : ∀ m, idxA Tryz.prog m 29 (.lst false 19 (l.map Sm.av)) (.int .i64 i) = some (.ref l[i].cells) := fun m => idx (y := l[i].av) es_29 (by simp [hg])
    have hw : IntKind.wrap .i64 ((i : Int) + 1) = (i + 1 : Nat) := wrap64 (by omega) (by omega)
    have hz : Sm.nests l ns = ((decide (l[i].k ≠ 3) || (!has ns l[i].s && Sm.nests l[i].body (ns ++ [l[i].s]))) && Sm.nests (l.drop (i + 1)) ns) := by rw [hr, hdr, Sm.nests, Sm.nest_eq]
    refine AWp.skip ?_
    try simp
    (repeat refine AWp.seq ?_); refine AWp.block ?_; (repeat refine AWp.seq ?_); refine AWp.region noP (by kernel_rfl) ?_
    simp [s7, s9, hx]
    intro g hgf
    try simp [set_at, set_set]
    have hgg : (st.mem.set g (.box l[i].cells)) g = some (.box l[i].cells) := set_same _ _ _
    generalize st.mem.set g (.box l[i].cells) = m1 at *
    (repeat refine AWp.seq ?_); refine AWp.region noP (by kernel_rfl) ?_
    simp [hgg]
    (repeat refine AWp.seq ?_); refine AWp.cond (b := !decide (l[i].k = 3)) (by simp) (fun hk => ?_) (fun hk => ?_)
    · simp at hk
      refine AWp.exit ?_
      try simp
      (repeat refine AWp.seq ?_); refine AWp.region noP (by kernel_rfl) ?_
      simp [s9, hw]
      exact hR _ (l.length - (i + 1)) (by omega) ⟨i + 1, rfl, hb, by simp [s7], by simp [s8], by simp [s1], by simp, by rw [hz]; simp [hk]⟩
    · simp at hk
      refine AWp.skip ?_
      try simp
      refine AWp.sees (Sees.view (t := 6) (m' := m1.del g) (r' := .ref l[i].cells) (by simpa using View.freezeBox hgg)) ?_
      try simp
      generalize hst : (St.mk _ _ : St) = st2
      have t6 : st2.slots 6 = .ref l[i].cells := by rw [← hst]; simp
      have t7 : st2.slots 7 = .lst false 19 (l.map Sm.av) := by rw [← hst]; simp [s7]
      have t8 : st2.slots 8 = .int .i64 l.length := by rw [← hst]; simp [s8]
      have t1 : st2.slots 1 = strs ns := by rw [← hst]; simp [s1]
      have t9 : st2.slots 9 = .int .i64 i := by rw [← hst]; simp [s9]
      clear hst
      (repeat refine AWp.seq ?_); refine AWp.regionF (fun i => i == 3) (fun i => i == 2 || i == 6 || i == 10) [0, 1, 2, 3, 4, 5, 6, 9, 10, 11, 7, 8, 12, 13, 14, 15] (by kernel_rfl) ?_
      simp [t1, t6]
      refine aop_call' (c1 _) ?_
      cases hh : has ns l[i].s
      · simp [t1, t6]
        refine aop_wcall _ _ _ _ _ _ _ _ rfl (eval_func _ _) ?_
        refine c_Clone ns (by omega) fun v1 m2 h1 => ?_
        try simp
        refine GO.app h1 true [l[i].s] (by simp; omega) fun v2 m3 h2 => ?_
        try simp
        refine aop_wcall _ _ _ _ _ _ _ _ rfl (eval_func _ _) ?_
        refine PCall.viewed (l := [.lst false 19 (l[i].body.map Sm.av)]) (l' := []) (h l[i] (List.getElem_mem _) (ns ++ [l[i].s]) (by simp; omega)) (by simpa using h2.view) ?_
        try simp
        (repeat refine AWp.seq ?_); refine AWp.cond (b := !Sm.nests l[i].body (ns ++ [l[i].s])) (by simp) (fun he => ?_) (fun he => ?_)
        · simp at he
          (repeat refine AWp.seq ?_); refine AWp.region noP (by kernel_rfl) ?_
          try simp
          exact AWp.ret (post_ret1 rfl (by simp only [put_slot, reduceIte]; rw [hz, hh, he]; simp [hk]))
        · simp at he
          refine AWp.skip ?_
          try simp
          (repeat refine AWp.seq ?_); refine AWp.region noP (by kernel_rfl) ?_
          simp [t9, hw]
          exact hR _ (l.length - (i + 1)) (by omega) ⟨i + 1, rfl, hb, by simp [t7], by simp [t8], by simp [t1], by simp, by rw [hz, hh, he]; simp⟩
      · simp
        (repeat refine AWp.seq ?_); refine AWp.condT (by simp) ?_
        (repeat refine AWp.seq ?_); refine AWp.region noP (by kernel_rfl) ?_
        try simp
        exact AWp.ret (post_ret1 rfl (by simp only [put_slot, reduceIte]; rw [hz, hh]; simp [hk]))
  · simp at hb
    refine AWp.exit ?_
    try simp
    (repeat refine AWp.seq ?_); refine AWp.region noP (by kernel_rfl) ?_
    try simp
    have : i = l.length := by omega
    subst this
    exact AWp.ret (post_ret1 rfl (by simp only [put_slot, reduceIte]; rw [hr]; simp [Sm.nests]))
theorem c_loopsOkB (e : Sm) : e.tot ≤ 1048576 → ∀ ns : List ByteArray, ns.length + totL Sm.tot e.body ≤ 2097152 → PCall Tryz.prog 127 [.lst false 19 (e.body.map Sm.av), strs ns] (.bool (Sm.nests e.body ns)) := by
  induction e using Sm.ind' with | h e h =>
  intro ht
  have := e.tot_body
  exact c_loopsOk0 e.body (by omega) (fun x hx => h x hx (by have := totL_mem Sm.tot hx; omega))
theorem c_loopsOk (l : List Sm) (ht : totL Sm.tot l ≤ 1048576) (ns : List ByteArray) (hb : ns.length + totL Sm.tot l ≤ 2097152) : PCall Tryz.prog 127 [.lst false 19 (l.map Sm.av), strs ns] (.bool (Sm.nests l ns)) :=
  c_loopsOk0 l ht (fun x hx => c_loopsOkB x (by have := totL_mem Sm.tot hx; omega)) ns hb
end Go.T
namespace Go.T
open Go Go.Proofs
set_option maxRecDepth 10000
set_option linter.unusedSimpArgs false
set_option linter.unusedVariables false
theorem c_namesOk (p : Pg) (ht : p.tot ≤ 1048576) : PCall Tryz.prog 97 [p.av] (.bool p.namesB) := by
  have h2 := totL_len Sm.tot p.body
  have h3 : p.tot = totL Ar.tot p.arrs + totL Sm.tot p.body := rfl
  obtain ⟨L0, L1, L3, L2, L4⟩ := p.lens ht
  have L42 := L4 2
  have L43 := L4 3
  have hc : p.cells = [.lst false 2 (p.arrs.map Ar.av), .lst false 19 (p.body.map Sm.av)] := rfl
  have cV := c_impl_VarsOf p.body (by omega)
  have cL := c_impl_LoopVars p.body (by omega)
  have cA := c_impl_Asked p.body (by omega)
  have cP := c_namesOf p.body 2 (by omega)
  have cQ := c_namesAsked p.body 3 (by omega)
  rw [asked_same] at cQ
  have cN := (c_loopsOk p.body (by omega) [] (by simp; omega)).arg (args := [.lst false 19 (p.body.map Sm.av), .lst true 0 []]) (.cons (Le.refl _) (.cons (Le.nil _ _ _) .nil))
  have d1 := c_areArrs p p.puts L0 (by omega)
  have d2 := c_areArrs p (p.asked 3) L0 (by omega)
  have d3 := c_areArrs p [p.vars, p.loops, p.asked 2].flatten L0 (by simp; omega)
  have cC := c_ConcatP [p.vars, p.loops, p.asked 2] true (by simp [sumL]; omega) (by simp)
  have cO := fun s => c_Contains p.vars s (by omega)
  change PCall _ _ _ (strs p.vars) at cV
  change PCall _ _ _ (strs p.loops) at cL
  change PCall _ _ _ (strs (p.asked 2)) at cA
  change PCall _ _ _ (strs p.puts) at cP
  change PCall _ _ _ (strs (p.asked 3)) at cQ
  simp only [List.map_cons, List.map_nil] at cC
  have hother : [p.vars, p.loops, p.asked 2].flatten.any p.isArr = (p.vars.any p.isArr || (p.loops.any p.isArr || (p.asked 2).any p.isArr)) := by simp
  rw [hother] at d3
  generalize [p.vars, p.loops, p.asked 2].flatten = names3 at d3 cC
  generalize names3.all p.isArr = all3 at d3
  generalize (p.asked 3).any p.isArr = any1 at d2
  generalize p.puts.any p.isArr = any2 at d1
  unfold strs at *
  refine pcall_of Tryz.func97 (by kernel_rfl) rfl (by simp [Tryz.f97]) ?_
  unfold Pg.av at *
  rw [hc] at *
  (repeat refine AWp.seq ?_); refine AWp.region noP (by kernel_rfl) ?_
  try simp
  intro g
  (repeat refine AWp.seq ?_); refine AWp.regionF (fun _ => true) (fun _ => false) [0, 1, 2, 3, 4, 5, 6, 7] (by kernel_rfl) ?_
  try simp
  refine aop_call' cV ?_
  try simp
  refine aop_call' cL ?_
  try simp
  (repeat refine AWp.seq ?_); refine AWp.region noP (by kernel_rfl) ?_
  try simp
  (try refine AWp.seq ?_)
  refine AWp.cutA (fun st => st.slots 1 = .ptr g 0 ∧ st.mem g = some (.box [.lst false 2 (p.arrs.map Ar.av), .lst false 19 (p.body.map Sm.av)]) ∧ st.slots 3 = .lst false 1 (p.vars.map .str) ∧ st.slots 4 = .lst false 1 (p.loops.map .str) ∧ p.loops.any (fun x => has p.vars x) = false) ?_ ?_
  · refine AWp.block (AWp.rounds (fun k st => ∃ (i : Nat), k = p.loops.length - i ∧ i ≤ p.loops.length ∧ st.slots 1 = .ptr g 0 ∧ st.mem g = some (.box [.lst false 2 (p.arrs.map Ar.av), .lst false 19 (p.body.map Sm.av)]) ∧ st.slots 3 = .lst false 1 (p.vars.map .str) ∧ st.slots 4 = .lst false 1 (p.loops.map .str) ∧ st.slots 19 = .lst false 1 (p.loops.map .str) ∧ st.slots 20 = .int .i64 p.loops.length ∧ st.slots 21 = .int .i64 i ∧
      p.loops.any (fun x => has p.vars x) = (p.loops.drop i).any (fun x => has p.vars x)) p.loops.length ⟨0, by simp, by simp, by simp, by simp, by simp, by simp, by simp, by simp, by simp, by simp⟩ ?_)
    rintro R k st hR ⟨i, rfl, hi, s1, sg, s3, s4, s19, s20, s21, hr⟩
    (repeat refine AWp.seq ?_); refine AWp.region noP (by kernel_rfl) ?_
    simp [s19, s20, s21]
    (repeat refine AWp.seq ?_); refine AWp.cond (b := decide (i < p.loops.length)) (by simp) (fun hb => ?_) (fun hb => ?_)
    · simp at hb
      have hg : p.loops[i]? = some p.loops[i] := List.getElem?_eq_getElem hb
      have hdr : p.loops.drop i = p.loops[i] :: p.loops.drop (i + 1) := List.drop_eq_getElem_cons hb
      have hx : ∀ m, idxA Tryz.prog m 59 (.lst false 1 (p.loops.map .str)) (.int .i64 i) = some (.ref [.str p.loops[i]]) := fun m => idx (y := .str p.loops[i]) es_59 (by simp [hg])
      have hw : IntKind.wrap .i64 ((i : Int) + 1) = (i + 1 : Nat) := wrap64 (by omega) (by omega)
      rw [hdr, List.any_cons] at hr
      refine AWp.skip ?_
      try simp
      (repeat refine AWp.seq ?_); refine AWp.block ?_; (repeat refine AWp.seq ?_); refine AWp.region noP (by kernel_rfl) ?_
      simp [s19, s21, hx]
      (repeat refine AWp.seq ?_); refine AWp.region allP (by kernel_rfl) ?_
      simp [s3]
      refine aop_call' (cO p.loops[i]) ?_
      try simp
      (repeat refine AWp.seq ?_); refine AWp.cond (b := has p.vars p.loops[i]) (by simp) (fun he => ?_) (fun he => ?_)
      · (repeat refine AWp.seq ?_); refine AWp.region noP (by kernel_rfl) ?_
        try simp
        rw [he, Bool.true_or] at hr
        have hnb : p.namesB = false := by unfold Pg.namesB; rw [hr]; simp
        exact AWp.ret (post_ret1 rfl (by simp [hnb]))
      · refine AWp.skip ?_
        try simp
        (repeat refine AWp.seq ?_); refine AWp.region noP (by kernel_rfl) ?_
        simp [s21, hw]
        exact hR _ (p.loops.length - (i + 1)) (by omega) ⟨i + 1, rfl, hb, by simp [s1], by simp [sg], by simp [s3], by simp [s4], by simp [s19], by simp [s20], by simp, by rw [hr, he, Bool.false_or]⟩
    · simp at hb
      refine AWp.exit ?_
      have : i = p.loops.length := by omega
      subst this
      rw [List.drop_length, List.any_nil] at hr
      simp [s1, sg, s3, s4]
      simpa using hr
  rintro st ⟨s1, sg, s3, s4, hap⟩
  (repeat refine AWp.seq ?_); refine AWp.regionG (fun _ => true) (fun _ => false) [0, 1, 2, 3, 4, 5, 6, 7, 8, 9] [0, 1, 2, 3, 4, 5, 6, 8, 7, 9] (by kernel_rfl) ?_
  simp [s1, sg]
  refine aop_call' cQ ?_
  try simp
  refine aop_call' d2 ?_
  try simp
  (repeat refine AWp.seq ?_); refine AWp.regionG (fun _ => true) (fun _ => false) [0, 1, 2, 3, 4, 5, 6, 7, 8, 9] [0, 1, 2, 3, 4, 5, 6, 8, 7, 9] (by kernel_rfl) ?_
  simp [s1, sg]
  refine aop_call' cP ?_
  try simp
  refine aop_call' d1 ?_
  try simp
  (repeat refine AWp.seq ?_); refine AWp.regionG (fun _ => true) (fun _ => false) [0, 1, 2, 3, 4, 5, 6, 7, 8, 9, 10, 11, 12, 13] [0, 1, 2, 3, 4, 5, 6, 7, 8, 9, 10, 12, 11, 13] (by kernel_rfl) ?_
  simp [s1, s3, s4, sg]
  refine aop_call' cA ?_
  simp [s1, s3, s4, sg]
  refine aop_call' cC ?_
  try simp
  refine aop_call' d3 ?_
  try simp
  unfold Pg.namesB
  rw [hap]
  (repeat refine AWp.seq ?_); refine AWp.region allP (by kernel_rfl) ?_
  cases v2 : (p.asked 3).all p.isArr
  · simp [s1, s3, sg]
    exact AWp.ret (post_ret1 rfl (by simp [v2]))
  cases v1 : p.puts.all p.isArr
  · simp [s1, s3, sg]
    exact AWp.ret (post_ret1 rfl (by simp [v1]))
  cases v3 : p.vars.any p.isArr
  rotate_left
  · simp [s1, s3, sg]
    exact AWp.ret (post_ret1 rfl (by simp [v3]))
  cases v4 : p.loops.any p.isArr
  rotate_left
  · simp [s1, s3, sg]
    exact AWp.ret (post_ret1 rfl (by simp [v4]))
  cases v5 : (p.asked 2).any p.isArr
  rotate_left
  · simp [s1, s3, sg]
    exact AWp.ret (post_ret1 rfl (by simp [v5]))
  by_cases v8 : p.vars.length ≤ 6
  rotate_left
  · have w8 : ¬ (p.vars.length : Int) ≤ 6 := by omega
    simp [s1, s3, sg, w8]
    exact AWp.ret (post_ret1 rfl (by simp [v8]))
  have w8 : (p.vars.length : Int) ≤ 6 := by omega
  simp [s1, s3, sg, w8]
  refine aop_call' cN ?_
  try simp
  exact AWp.ret (post_ret1 rfl (by simp [v1, v2, v3, v4, v5, v8]))
theorem c_impl_ProgOk (p : Pg) (ht : p.tot ≤ 1048576) : PCall Tryz.prog 46 [p.av] (.bool p.ok) := by
  have h1 := totL_len Ar.tot p.arrs
  have h2 := totL_len Sm.tot p.body
  have h3 : p.tot = totL Ar.tot p.arrs + totL Sm.tot p.body := rfl
  have hc : p.cells = [.lst false 2 (p.arrs.map Ar.av), .lst false 19 (p.body.map Sm.av)] := rfl
  have cH := c_arrsOk p.arrs (by omega)
  have cZ := c_impl_Size p.body (by omega)
  have cN := c_namesOk p ht
  refine pcall_of Tryz.func46 (by kernel_rfl) rfl (by simp [Tryz.f46]) ?_
  unfold Pg.av at *
  rw [hc] at *
  (repeat refine AWp.seq ?_); refine AWp.region noP (by kernel_rfl) ?_
  try simp
  intro g
  have hbad : p.head = false → p.ok = false := fun h => by unfold Pg.ok; rw [h]; rfl
  (repeat refine AWp.seq ?_); refine AWp.region allP (by kernel_rfl) ?_
  try simp
  refine aop_call' cH ?_
  cases x1 : (arrsFrom none p.arrs && decide (p.arrs.length ≤ 4))
  · have hz : p.ok = false := hbad (by unfold Pg.head; rw [← Bool.and_assoc, x1]; rfl)
    try simp
    (repeat refine AWp.seq ?_); refine AWp.condT (by simp) ?_
    (repeat refine AWp.seq ?_); refine AWp.region noP (by kernel_rfl) ?_
    try simp
    exact AWp.ret (post_ret1 rfl (by simp [hz]))
  by_cases l2 : p.body.length ≤ 12
  rotate_left
  · have l2' : (12 : Int) < p.body.length := by omega
    have hz : p.ok = false := hbad (by unfold Pg.head; simp [l2])
    simp [l2']
    (repeat refine AWp.seq ?_); refine AWp.condT (by simp) ?_
    (repeat refine AWp.seq ?_); refine AWp.region noP (by kernel_rfl) ?_
    try simp
    exact AWp.ret (post_ret1 rfl (by simp [hz]))
  have l2' : ¬ (12 : Int) < p.body.length := by omega
  simp [l2']
  refine aop_call' cZ ?_
  by_cases l3 : sumL Sm.size p.body ≤ 40
  rotate_left
  · have l3' : (40 : Int) < sumL Sm.size p.body := by omega
    have hz : p.ok = false := hbad (by unfold Pg.head; simp [l3])
    simp [l3']
    (repeat refine AWp.seq ?_); refine AWp.condT (by simp) ?_
    (repeat refine AWp.seq ?_); refine AWp.region noP (by kernel_rfl) ?_
    try simp
    exact AWp.ret (post_ret1 rfl (by simp [hz]))
  have l3' : ¬ (40 : Int) < sumL Sm.size p.body := by omega
  simp [l3']
  (repeat refine AWp.seq ?_); refine AWp.condF (by simp) ?_
  refine AWp.skip ?_
  try simp
  (repeat refine AWp.seq ?_); refine AWp.region noP (by kernel_rfl) ?_
  try simp
  (try refine AWp.seq ?_)
  refine AWp.cutA (fun st => st.slots 1 = .ptr g 0 ∧ st.mem g = some (.box [.lst false 2 (p.arrs.map Ar.av), .lst false 19 (p.body.map Sm.av)]) ∧ p.body.all Sm.ok = true) ?_ ?_
  · refine AWp.block (AWp.rounds (fun k st => ∃ (i : Nat), k = p.body.length - i ∧ i ≤ p.body.length ∧ st.slots 1 = .ptr g 0 ∧ st.mem g = some (.box [.lst false 2 (p.arrs.map Ar.av), .lst false 19 (p.body.map Sm.av)]) ∧ st.slots 22 = .lst false 19 (p.body.map Sm.av) ∧ st.slots 23 = .int .i64 p.body.length ∧ st.slots 24 = .int .i64 i ∧ p.body.all Sm.ok = (p.body.drop i).all Sm.ok) p.body.length ⟨0, by simp, by simp, by simp, by simp, by simp, by simp, by simp, by simp⟩ ?_)
    rintro R k st hR ⟨i, rfl, hi, s1, sg, s22, s23, s24, hr⟩
    (repeat refine AWp.seq ?_); refine AWp.region noP (by kernel_rfl) ?_
    simp [s22, s23, s24]
    (repeat refine AWp.seq ?_); refine AWp.cond (b := decide (i < p.body.length)) (by simp) (fun hb => ?_) (fun hb => ?_)
    · simp at hb
      have hg : p.body[i]? = some p.body[i] := List.getElem?_eq_getElem hb
      have hdr : p.body.drop i = p.body[i] :: p.body.drop (i + 1) := List.drop_eq_getElem_cons hb
      have hx : ∀ m, idxA Tryz.prog m 29 (.lst false 19 (p.body.map Sm.av)) (.int .i64 i) = some (.ref p.body[i].cells) := fun m => idx (y := p.body[i].av) es_29 (by simp [hg])
      have hw : IntKind.wrap .i64 ((i : Int) + 1) = (i + 1 : Nat) := wrap64 (by omega) (by omega)
      have htm := totL_mem Sm.tot (List.getElem_mem hb)
      rw [hdr, List.all_cons] at hr
      refine AWp.skip ?_
      try simp
      (repeat refine AWp.seq ?_); refine AWp.block ?_; (repeat refine AWp.seq ?_); refine AWp.region noP (by kernel_rfl) ?_
      simp [s22, s24, hx]
      intro g2 hgf
      try simp [set_at, set_set]
      have hgg : (st.mem.set g2 (.box p.body[i].cells)) g2 = some (.box p.body[i].cells) := set_same _ _ _
      have hsg : (st.mem.set g2 (.box p.body[i].cells)) g = some (.box [.lst false 2 (p.arrs.map Ar.av), .lst false 19 (p.body.map Sm.av)]) := by
        rw [set_at, if_neg]
        · exact sg
        · rintro rfl; rw [hgf] at sg; cases sg
      generalize st.mem.set g2 (.box p.body[i].cells) = m1 at *
      (repeat refine AWp.seq ?_); refine AWp.region allP (by kernel_rfl) ?_
      simp [hgg]
      refine aop_call' (c_impl_StmtOk p.body[i] (by omega)) ?_
      try simp
      (repeat refine AWp.seq ?_); refine AWp.cond (b := !p.body[i].ok) (by simp) (fun he => ?_) (fun he => ?_)
      · simp at he
        (repeat refine AWp.seq ?_); refine AWp.region noP (by kernel_rfl) ?_
        try simp
        have hz : p.ok = false := hbad (by unfold Pg.head; rw [hr, he]; simp)
        exact AWp.ret (post_ret1 rfl (by simp [hz]))
      · simp at he
        refine AWp.skip ?_
        try simp
        (repeat refine AWp.seq ?_); refine AWp.region noP (by kernel_rfl) ?_
        simp [s24, hw]
        exact hR _ (p.body.length - (i + 1)) (by omega) ⟨i + 1, rfl, hb, by simp [s1], by simp [hsg], by simp [s22], by simp [s23], by simp, by rw [hr, he, Bool.true_and]⟩
    · simp at hb
      refine AWp.exit ?_
      have : i = p.body.length := by omega
      subst this
      simp only [List.drop_length, List.all_nil] at hr
      simp [s1, sg]
      simpa using hr
  rintro st ⟨s1, sg, hB⟩
  have hok : p.ok = p.namesB := by
    unfold Pg.ok Pg.head
    rw [← Bool.and_assoc, x1, hB]
    simp [l2, l3]
  (repeat refine AWp.seq ?_); refine AWp.region allP (by kernel_rfl) ?_
  simp [s1, sg]
  refine aop_call' cN ?_
  try simp
  exact AWp.ret (post_ret1 rfl (by simp [hok]))
end Go.T
