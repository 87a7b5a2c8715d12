/- A list of names cloned; where an array is; are all of these arrays, is any: what the program computes. Programs that are right: what the program computes. Programs that are right: what the program computes, whole. Where all of a program stands: what the program and the reference compute. Bases, words, flags, slots, bars, registers: what the program and the reference compute. Where something of a program stands: what the program and the reference compute. The laws' functions, of where something of a program stands; programs as arguments. What the laws' measuring, copying and comparing functions compute, of machines. Machines that are right: what the program and the reference compute. Machines that are right: what the program and the reference compute; the law. Marks: what the program's marking functions compute. Rows marked: what the program's marking functions compute. -/
import Derived.Test.YtfikgphnjndgdaaGreatG9
import Derived.Ground.Names2Prog
import Derived.Shelf.Slices.Clone
import Derived.Test.YtfikgphnjndgdaaGreatG3
import Derived.Test.YtfikgphnjndgdaaGreatG4
import Derived.Test.YtfikgphnjndgdaaGreatG5
namespace Go.Proofs
open Go.Shelf
shelf_lay Lays2.n16 Nm2 16 at Tryz as Tryz.laysClone -- 421
end Go.Proofs
namespace Go.T
open Go Go.Proofs Go.RowKit
set_option maxRecDepth 10000
set_option maxHeartbeats 1000000
set_option linter.unusedSimpArgs false
set_option linter.unusedVariables false
theorem flat_strs : ∀ ns : List ByteArray, flat (ns.map AV.str) = ns.map AV.str
  | [] => rfl
  | n :: ns => by have := flat_strs ns; simp only [flat, List.map_cons, List.flatMap_cons] at this ⊢; rw [this]; rfl
theorem hb_Clone : HasBody Tryz.prog 421 := ⟨_, Tryz.func421, by kernel_rfl, rfl⟩
theorem memRep_grown {w w' : World} {S : Nat → Prop} {m : Mem} (hm : MemRep w S m) (hbel : Below w.heap.size w w') {g c : Nat} {T : TypeId} {xs : List ByteArray} {us : List Value} (hg : w.heap.size ≤ g) (hh : w'.heap[g]? = some (.cells (xs.map Value.string ++ us).toArray T (0, 0))) (hl : (xs.map Value.string ++ us).length = c * 1) (hle : xs.length ≤ c) :
    MemRep w' S (m.set g (.arr T 1 c (xs.map .str))) ∧ m g = none ∧ Keep (fun _ => False) w w' := by
  have hfree : m g = none := by
    cases hq : m g with
    | none => rfl
    | some b => have := (hm.blk _ b hq).lt; omega
  have hk : Keep (fun _ => False) w w' := ⟨hbel.os, hbel.tape, hbel.output, hbel.size, fun b hb _ => hbel.block b hb⟩
  have hst : Stays S w w' := fun b hb => hbel.block b (hm.apart b hb).2
  refine ⟨⟨fun g' b hb => ?_, fun b hb => ⟨?_, ?_⟩⟩, hfree, hk⟩
  · rw [set_at] at hb
    by_cases e : g' = g
    · subst e
      rw [if_pos rfl] at hb
      obtain rfl := Option.some.inj hb
      exact ⟨_, us, hh, strs_reps _ _ xs, hl, fun x hx => by obtain ⟨y, _, rfl⟩ := List.mem_map.1 hx; rfl, by simpa using hle⟩
    · rw [if_neg e] at hb
      exact (hm.blk g' b hb).mono hst (fun _ h => h) (hbel.block g' (hm.blk g' b hb).lt)
  · have := hm.apart b hb
    rw [set_at, if_neg (by omega)]
    exact this.1
  · exact Nat.lt_of_lt_of_le (hm.apart b hb).2 hbel.size
theorem c_Clone (ns : List ByteArray) (hb : ns.length ≤ 8388608) {m : Mem} {K : AV → Mem → Prop} (hK : ∀ v m', GO m ns v m' → K v m') : WCall Tryz.prog 421 [strs ns] m K := by
  refine ⟨hb_Clone, fun w S cargs hm hargs => ?_⟩
  cases hargs with | @cons _ v _ vs hv ht =>
  cases ht
  have fin : ∀ (n : Nat) (e : Ending) (w' : World), n = ns.length → (∃ v', e = .returned v' ∧ w'.ownsRow w.heap.size 9 1 v' n (ns.map Value.string) ∧ v' ≠ .slice none 0 0 ∧ Below w.heap.size w w') → ∃ v r m' S', e = .returned v ∧ K r m' ∧ (∀ b, S b → S' b) ∧ (∀ b, S' b → S b ∨ m b ≠ none ∨ w.heap.size ≤ b) ∧ MemRep w' S' m' ∧ Rep w' S' r v ∧ Keep (fun g => m g ≠ none) w w' ∧ (∀ g b, m' g = some b → m g ≠ none ∨ w.heap.size ≤ g) := by
    rintro n e w' rfl ⟨v', he, ⟨hl, ho⟩, hne, hbel⟩
    rcases ho with ⟨h0, _⟩ | ⟨g, cap, cur, rfl, hg, hh, hnc, _, hsz, htk⟩
    · exact absurd h0 hne
    rw [Nat.mul_one] at htk hsz
    have hcur : cur = (ns.map Value.string ++ cur.toList.drop ns.length).toArray := by
      rw [← htk, List.take_append_drop, Array.toArray_toList]
    rw [hcur] at hh
    obtain ⟨h1, h2, h3⟩ := memRep_grown (c := cap) hm hbel hg hh (by simp; omega) hnc
    refine ⟨_, _, _, S, he, hK (.own g ns.length cap) _ ⟨(Ext.refl m).set h2 _, .inr ⟨g, cap, rfl, set_same _ _ _, h2⟩⟩, fun _ h => h, fun _ h => .inl h, h1, .own g _ cap, h3.mono (fun _ h => h.elim), fun g' b hb' => ?_⟩
    rw [set_at] at hb'
    by_cases e : g' = g
    · exact .inr (by omega)
    · rw [if_neg e] at hb'; exact .inl (by rw [hb']; simp)
  unfold strs at hv
  generalize hxs : ns.map AV.str = xs at hv
  cases hv with
  | lnil _ _ A c hc =>
    have hns : ns = [] := by simpa using hxs
    subst hns
    cases A with
    | none =>
      refine calls_mono (Any.slices_Clone_string_nil Tryz.laysClone 0 c w) ?_
      rintro e w' ⟨rfl, rfl⟩
      exact ⟨_, _, _, S, rfl, hK (.lst true 0 []) m ⟨Ext.refl m, .inl ⟨rfl, 0, rfl⟩⟩, fun _ h => h, fun _ h => .inl h, hm, .lnil _ _ none 0 (fun _ => rfl), Keep.refl _ _, fun g b hb' => .inl (by rw [hb']; simp)⟩
    | some a => exact calls_mono (Any.slices_Clone_string_zero Tryz.laysClone a c w) fun e w' h => fin 0 e w' rfl h
  | lst _ _ b o c h1 h2 h3 h4 h5 =>
    subst hxs
    have hcell : ∀ j, j < ns.length → w.cell? ⟨b, o + j, none⟩ = some (.string (ns.getD j ByteArray.empty)) := by
      intro j hj
      rw [flat_strs] at h5
      obtain ⟨v, hv, hr⟩ := h5.get j (.str ns[j]) (by simp [hj])
      cases hr
      rw [hv, List.getD_eq_getElem?_getD, List.getElem?_eq_getElem hj]
      rfl
    have h := Any.slices_Clone_string Tryz.laysClone b o ns.length c ns w (Nat.le_refl _) (by omega) hcell
    rw [List.take_length] at h
    have h2 : Calls Tryz.prog 421 #[.slice (some ⟨b, o, none⟩) ns.length c] w _ := h
    rw [List.length_map]
    exact calls_mono h2 fun e w' h => fin ns.length e w' rfl h
theorem c_ArrAt1 (a : Ar) (s : ByteArray) {m : Mem} {gn : Nat} {K : AV → Mem → Prop} (hm : m gn = some (.box [.str s])) (hK : ∀ m', Ext m m' → K (.bool (decide (a.s = s))) m') : WCall Tryz.prog 249 [a.av, .ptr gn 0] m K := by
  refine wcall_of Tryz.func249 (by kernel_rfl) rfl (by simp [Tryz.f249]) ?_
  unfold Ar.av Ar.cells
  (repeat refine AWp.seq ?_); refine AWp.region noP (by kernel_rfl) ?_
  try simp
  intro g hg
  have hgg : (m.set g (.box [.str a.s, .int .i64 a.n])) g = some (.box [.str a.s, .int .i64 a.n]) := set_same _ _ _
  have hE := (Ext.refl m).set hg (.box [.str a.s, .int .i64 a.n])
  have hgn := hE gn _ hm
  generalize m.set g (.box [.str a.s, .int .i64 a.n]) = m1 at *
  (repeat refine AWp.seq ?_); refine AWp.region noP (by kernel_rfl) ?_
  simp [hgg, hgn]
  exact AWp.ret (post_retW rfl ⟨_, _, View.refl _ _, hK _ hE⟩)
theorem c_IndexFunc (A : List Ar) (s : ByteArray) (hl : A.length ≤ 1048576) {m : Mem} {gn : Nat} {K : AV → Mem → Prop} (hm : m gn = some (.box [.str s])) (hK : ∀ m', Ext m m' → K (.int .i64 (at_ (A.map Ar.s) s)) m') :
    WCall Tryz.prog 248 [.lst false 2 (A.map Ar.av), .func (.func 249) [.ptr gn 0]] m K := by
  refine wcall_of Tryz.func248 (by kernel_rfl) rfl (by simp [Tryz.f248]) ?_
  (repeat refine AWp.seq ?_); refine AWp.region noP (by kernel_rfl) ?_
  try simp
  (repeat refine AWp.seq ?_); refine AWp.region noP (by kernel_rfl) ?_
  try simp
  (repeat refine AWp.seq ?_); refine AWp.block (AWp.rounds (fun k st => ∃ (i : Nat), k = A.length - i ∧ i ≤ A.length ∧ st.slots 0 = .lst false 2 (A.map Ar.av) ∧ st.slots 1 = .func (.func 249) [.ptr gn 0] ∧ st.slots 7 = .int .i64 A.length ∧ st.slots 8 = .int .i64 i ∧ Ext m st.mem ∧ at_ (A.map Ar.s) s = idxAt i ((A.map Ar.s).drop i) s) A.length ⟨0, by simp, by simp, by simp, by simp, by simp, by simp, by simpa using Ext.refl m, by simp [at_]⟩ ?_)
  rintro R k st hR ⟨i, rfl, hi, s0, s1, s7, s8, hE, hr⟩
  (repeat refine AWp.seq ?_); refine AWp.region noP (by kernel_rfl) ?_
  simp [s7, s8]
  (repeat refine AWp.seq ?_); refine AWp.cond (b := decide (i < A.length)) (by simp) (fun hb => ?_) (fun hb => ?_)
  · simp at hb
    have hg : A[i]? = some A[i] := List.getElem?_eq_getElem hb
    have hdr : (A.map Ar.s).drop i = A[i].s :: (A.map Ar.s).drop (i + 1) := by
      rw [List.drop_eq_getElem_cons (by simpa using hb)]; simp
    have hz : at_ (A.map Ar.s) s = if A[i].s = s then (i : Int) else idxAt (i + 1) ((A.map Ar.s).drop (i + 1)) s := by rw [hr, hdr, idxAt]
    have hx : ∀ m, idxA Tryz.prog m 35 (.lst false 2 (A.map Ar.av)) (.int .i64 i) = some (.ref A[i].cells) := fun m => idx (y := A[i].av) es_35 (by simp [hg])
    have hw : IntKind.wrap .i64 ((i : Int) + 1) = (i + 1 : Nat) := wrap64 (by omega) (by omega)
    refine AWp.skip ?_
    try simp
    (repeat refine AWp.seq ?_); refine AWp.block ?_; (repeat refine AWp.seq ?_); refine AWp.region noP (by kernel_rfl) ?_
    simp [s8]
    (repeat refine AWp.seq ?_); refine AWp.region noP (by kernel_rfl) ?_
    simp [s0, s1, hx]
    refine aop_wcall _ _ _ _ _ _ _ _ rfl (n := 249) (caps := [.ptr gn 0]) (by simp [s1]) ?_
    try simp [s0, s1, hx]
    refine c_ArrAt1 A[i] s (hE gn _ hm) fun m' hE' => ?_
    try simp
    (repeat refine AWp.seq ?_); refine AWp.cond (b := decide (A[i].s = s)) (by simp) (fun he => ?_) (fun he => ?_)
    · simp at he
      (repeat refine AWp.seq ?_); refine AWp.region noP (by kernel_rfl) ?_
      try simp
      refine AWp.ret (post_retW rfl ⟨_, _, View.refl _ _, ?_⟩)
      try simp
      have := hK m' (fun g b h => hE' g b (hE g b h))
      rw [hz, if_pos he] at this
      exact this
    · simp at he
      refine AWp.skip ?_
      try simp
      (repeat refine AWp.seq ?_); refine AWp.region noP (by kernel_rfl) ?_
      simp [s8, hw]
      exact hR _ (A.length - (i + 1)) (by omega) ⟨i + 1, rfl, hb, by simp [s0], by simp [s1], by simp [s7], by simp, (fun g b h => hE' g b (hE g b h)), by rw [hz, if_neg he]⟩
  · simp at hb
    refine AWp.exit ?_
    try simp
    (repeat refine AWp.seq ?_); refine AWp.region noP (by kernel_rfl) ?_
    try simp
    have : i = A.length := by omega
    subst this
    rw [List.drop_eq_nil_of_le (by simp), idxAt] at hr
    refine AWp.ret (post_retW rfl ⟨_, _, View.refl _ _, ?_⟩)
    try simp
    have := hK st.mem hE
    rw [hr] at this
    exact this
theorem c_impl_ArrAt (p : Pg) (s : ByteArray) (ht : p.arrs.length ≤ 1048576) : PCall Tryz.prog 143 [p.av, .str s] (.int .i64 (at_ p.arrNames s)) := by
  refine pcall_of Tryz.func143 (by kernel_rfl) rfl (by simp [Tryz.f143]) ?_
  have hc : p.cells = [.lst false 2 (p.arrs.map Ar.av), .lst false 19 (p.body.map Sm.av)] := rfl
  unfold Pg.av
  rw [hc]
  (repeat refine AWp.seq ?_); refine AWp.region noP (by kernel_rfl) ?_
  try simp
  intro g1 g2 h2
  have hne : g2 ≠ g1 := by rintro rfl; simp [set_at] at h2
  (repeat refine AWp.seq ?_); refine AWp.region noP (by kernel_rfl) ?_
  simp [set_at, hne, hne.symm]
  refine aop_wcall _ _ _ _ _ _ _ _ rfl (eval_func _ _) ?_
  refine c_IndexFunc p.arrs s ht (by simp [set_at]) fun m' hE => ?_
  try simp
  exact AWp.ret (post_ret1 rfl (by simp [Pg.arrNames]))
theorem c_areArrs (p : Pg) (l : List ByteArray) (ht : p.arrs.length ≤ 1048576) (hl : l.length ≤ 16777216) : PCall Tryz.prog 313 [p.av, strs l] (.tup [.bool (l.all p.isArr), .bool (l.any p.isArr)]) := by
  refine pcall_of Tryz.func313 (by kernel_rfl) rfl (by simp [Tryz.f313]) ?_
  unfold Pg.av
  have c1 := fun s => c_impl_ArrAt p s ht
  unfold Pg.av at c1
  (repeat refine AWp.seq ?_); refine AWp.region noP (by kernel_rfl) ?_
  try simp
  intro g
  (repeat refine AWp.seq ?_); refine AWp.region noP (by kernel_rfl) ?_
  try simp
  (repeat refine AWp.seq ?_); refine AWp.region noP (by kernel_rfl) ?_
  simp [strs]
  (repeat refine AWp.seq ?_); refine AWp.block (AWp.rounds (fun m st => ∃ (i : Nat), m = l.length - i ∧ i ≤ l.length ∧ st.slots 2 = .ptr g 0 ∧ st.mem g = some (.box p.cells) ∧ st.slots 11 = .lst false 1 (l.map .str) ∧ st.slots 12 = .int .i64 l.length ∧ st.slots 13 = .int .i64 i ∧ st.slots 6 = .bool ((l.take i).all p.isArr) ∧ st.slots 7 = .bool ((l.take i).any p.isArr)) l.length ⟨0, by simp, by simp, by simp, by simp, by simp, by simp, by simp, by simp, by simp⟩ ?_)
  rintro R m st hR ⟨i, rfl, hi, s2, sg, s11, s12, s13, s6, s7⟩
  (repeat refine AWp.seq ?_); refine AWp.region noP (by kernel_rfl) ?_
  simp [s11, s12, s13]
  (repeat refine AWp.seq ?_); refine AWp.cond (b := decide (i < l.length)) (by simp) (fun hb => ?_) (fun hb => ?_)
  · simp at hb
    have hg : l[i]? = some l[i] := List.getElem?_eq_getElem hb
    have hx : ∀ m, idxA Tryz.prog m 26 (.lst false 1 (l.map .str)) (.int .i64 i) = some (.ref [.str l[i]]) := fun m => idx (y := .str l[i]) es_26 (by simp [hg])
    have hi2 := idxAt_has l[i] p.arrNames 0
    have hyes : decide (0 ≤ at_ p.arrNames l[i]) = p.isArr l[i] := by
      unfold Pg.isArr at_
      cases hh : has p.arrNames l[i] with
      | true => simpa using hi2.2 hh
      | false =>
        have : ¬ 0 ≤ idxAt 0 p.arrNames l[i] := fun k => by rw [hi2.1 k] at hh; cases hh
        simpa using this
    have hw : IntKind.wrap .i64 ((i : Int) + 1) = (i + 1 : Nat) := wrap64 (by omega) (by omega)
    have e1 : (l.take (i + 1)).all p.isArr = ((l.take i).all p.isArr && p.isArr l[i]) := by rw [List.take_add_one, hg, List.all_append]; simp
    have e2 : (l.take (i + 1)).any p.isArr = ((l.take i).any p.isArr || p.isArr l[i]) := by rw [List.take_add_one, hg, List.any_append]; simp
    refine AWp.skip ?_
    try simp
    (repeat refine AWp.seq ?_); refine AWp.block ?_; (repeat refine AWp.seq ?_); refine AWp.region noP (by kernel_rfl) ?_
    simp [s11, s13, hx]
    (repeat refine AWp.seq ?_); refine AWp.region allP (by kernel_rfl) ?_
    simp [s2, sg]
    refine aop_call' (c1 l[i]) ?_
    simp [hyes]
    generalize (l.take i).all p.isArr = u1 at *
    generalize (l.take i).any p.isArr = u2 at *
    generalize p.isArr l[i] = u3 at *
    cases u1 <;> cases u2 <;> cases u3 <;>
    · (repeat refine AWp.seq ?_); refine AWp.region noP (by kernel_rfl) ?_
      simp [s6]
      (repeat refine AWp.seq ?_); refine AWp.region noP (by kernel_rfl) ?_
      simp [s7]
      (repeat refine AWp.seq ?_); refine AWp.region noP (by kernel_rfl) ?_
      simp [s13, hw]
      exact hR _ (l.length - (i + 1)) (by omega) ⟨i + 1, rfl, hb, by simp [s2], by simp [sg], by simp [s11], by simp [s12], by simp, by simp [e1, s6], by simp [e2, s7]⟩
  · simp at hb
    refine AWp.exit ?_
    try simp
    (repeat refine AWp.seq ?_); refine AWp.region noP (by kernel_rfl) ?_
    have : i = l.length := by omega
    subst this
    rw [List.take_length] at s6 s7
    simp [s6, s7]
    exact AWp.ret (post_ret2 rfl (by simp) (by simp))
end Go.T
namespace Go.T
open Go Go.Proofs
set_option maxRecDepth 10000
set_option maxHeartbeats 1000000
set_option linter.unusedSimpArgs false
set_option linter.unusedVariables false
theorem leq_not (a q : ByteArray) : (Op.bytesLess a.toList q.toList || decide (a = q)) = !blt q a := by
  show (blt a q || decide (a = q)) = !blt q a
  by_cases h : a = q
  · subst h; simp [blt_irrefl]
  · cases h1 : blt a q with
    | true =>
      cases h2 : blt q a with
      | true => have := blt_trans h1 h2; rw [blt_irrefl] at this; cases this
      | false => rfl
    | false => rw [blt_tri h h1]; simp [h]
theorem c_arrsOk (A : List Ar) (ht : totL Ar.tot A ≤ 1048576) : PCall Tryz.prog 209 [.lst false 2 (A.map Ar.av)] (.bool (arrsFrom none A && decide (A.length ≤ 4))) := by
  have h1 := totL_len Ar.tot A
  refine pcall_of Tryz.func209 (by kernel_rfl) rfl (by simp [Tryz.f209]) ?_
  (repeat refine AWp.seq ?_); refine AWp.region noP (by kernel_rfl) ?_
  try simp
  (repeat refine AWp.seq ?_); refine AWp.region noP (by kernel_rfl) ?_
  try simp
  (try refine AWp.seq ?_)
  refine AWp.cutA (fun st => st.slots 0 = .lst false 2 (A.map Ar.av) ∧ arrsFrom none A = true) ?_ ?_
  · refine AWp.block (AWp.rounds (fun m st => ∃ (i : Nat) (pr : Option ByteArray), m = A.length - i ∧ i ≤ A.length ∧ st.slots 0 = .lst false 2 (A.map Ar.av) ∧ st.slots 5 = .lst false 2 (A.map Ar.av) ∧ st.slots 6 = .int .i64 A.length ∧ st.slots 7 = .int .i64 i ∧ Ahead A i pr ∧ arrsFrom none A = arrsFrom pr (A.drop i)) A.length ⟨0, none, by simp, by simp, by simp, by simp, by simp, by simp, .inl ⟨rfl, rfl⟩, by simp⟩ ?_)
    rintro R m st hR ⟨i, pr, rfl, hi, s0, s5, s6, s7, hah, hr⟩
    (repeat refine AWp.seq ?_); refine AWp.region noP (by kernel_rfl) ?_
    simp [s5, s6, s7]
    (repeat refine AWp.seq ?_); refine AWp.cond (b := decide (i < A.length)) (by simp) (fun hb => ?_) (fun hb => ?_)
    · simp at hb
      have hg : A[i]? = some A[i] := List.getElem?_eq_getElem hb
      have hx : ∀ m, idxA Tryz.prog m 35 (.lst false 2 (A.map Ar.av)) (.int .i64 i) = some (.ref [.str A[i].s, .int .i64 A[i].n]) := fun m => idx (y := A[i].av) es_35 (by simp [hg])
      have hw : IntKind.wrap .i64 ((i : Int) + 1) = (i + 1 : Nat) := wrap64 (by omega) (by omega)
      have htm := totL_mem Ar.tot (List.getElem_mem hb)
      have hs : A[i].s.size ≤ 9223372036854775806 := by unfold Ar.tot at htm ht h1; omega
      rw [arrs_step _ _ hb] at hr
      have hnx := ahead_next A i hb
      refine AWp.skip ?_
      try simp
      refine AWp.seq ?_
      refine AWp.cutA (fun st => st.slots 0 = .lst false 2 (A.map Ar.av) ∧ st.slots 5 = .lst false 2 (A.map Ar.av) ∧ st.slots 6 = .int .i64 A.length ∧ st.slots 7 = .int .i64 i ∧ arrsFrom none A = arrsFrom (some A[i].s) (A.drop (i + 1))) ?_ ?_
      · refine AWp.block ?_
        (repeat refine AWp.seq ?_); refine AWp.region noP (by kernel_rfl) ?_
        simp [s5, s7, hx]
        intro g hgf
        try simp [set_at, set_set]
        have hgg : (st.mem.set g (.box [.str A[i].s, .int .i64 A[i].n])) g = some (.box [.str A[i].s, .int .i64 A[i].n]) := set_same _ _ _
        generalize st.mem.set g (.box [.str A[i].s, .int .i64 A[i].n]) = m1 at *
        (repeat refine AWp.seq ?_); refine AWp.region allP (by kernel_rfl) ?_
        simp [hgg]
        refine aop_call' (c_impl_NameOk _ hs) ?_
        cases x1 : nameOk A[i].s
        · rw [x1] at hr
          have hph : arrsFrom none A = false := by rw [hr]; rfl
          try simp
          (repeat refine AWp.seq ?_); refine AWp.condT (by simp) ?_
          (repeat refine AWp.seq ?_); refine AWp.region noP (by kernel_rfl) ?_
          try simp
          exact AWp.ret (post_ret1 rfl (by simp [hph]))
        rw [x1] at hr
        simp [hgg]
        refine aop_call' (c_inRange _ _ _) ?_
        cases x2 : inR A[i].n 1 16
        · rw [x2] at hr
          have hph : arrsFrom none A = false := by rw [hr]; rfl
          try simp
          (repeat refine AWp.seq ?_); refine AWp.condT (by simp) ?_
          (repeat refine AWp.seq ?_); refine AWp.region noP (by kernel_rfl) ?_
          try simp
          exact AWp.ret (post_ret1 rfl (by simp [hph]))
        rw [x2] at hr
        rcases hah with ⟨rfl, rfl⟩ | ⟨a, hi0, ha, rfl⟩
        · simp [s0, s7, hgg]
          (repeat refine AWp.seq ?_); refine AWp.condF (by simp) ?_
          refine AWp.skip ?_
          simp at hr
          simp [s0, s5, s6, s7, hr]
        · replace hr : arrsFrom none A = (true && (true && (blt a.s A[i].s && arrsFrom (some A[i].s) (A.drop (i + 1))))) := hr
          have hxp : ∀ m, idxA Tryz.prog m 35 (.lst false 2 (A.map Ar.av)) (.int .i64 ((i - 1 : Nat) : Int)) = some (.ref [.str a.s, .int .i64 a.n]) := fun m => idx (y := a.av) es_35 (by simp [ha])
          have hwm : IntKind.wrap .i64 ((i : Int) - 1) = ((i - 1 : Nat) : Int) := by rw [wrap64 (by omega) (by omega)]; omega
          have hi1 : (0 : Int) < i := by omega
          have hbl := leq_not A[i].s a.s
          simp [s0, s7, hgg, hi0, hi1, hwm, hxp, hbl]
          cases x3 : blt a.s A[i].s
          · rw [x3] at hr
            have hph : arrsFrom none A = false := by rw [hr]; rfl
            (repeat refine AWp.seq ?_); refine AWp.condT (by simp) ?_
            (repeat refine AWp.seq ?_); refine AWp.region noP (by kernel_rfl) ?_
            simp
            exact AWp.ret (post_ret1 rfl (by simp [hph]))
          · rw [x3] at hr
            (repeat refine AWp.seq ?_); refine AWp.condF (by simp) ?_
            refine AWp.skip ?_
            simp at hr
            simp [s0, s5, s6, s7, hr]
      · clear s0 s5 s6 s7 hr
        rintro st ⟨s0, s5, s6, s7, hr⟩
        (repeat refine AWp.seq ?_); refine AWp.region noP (by kernel_rfl) ?_
        simp [s7, hw]
        exact hR _ (A.length - (i + 1)) (by omega) ⟨i + 1, _, rfl, hb, by simp [s0], by simp [s5], by simp [s6], by simp, hnx, hr⟩
    · simp at hb
      refine AWp.exit ?_
      have : i = A.length := by omega
      subst this
      simp [arrsFrom] at hr
      simp [s0, hr]
  rintro st ⟨s0, hA⟩
  (repeat refine AWp.seq ?_); refine AWp.region noP (by kernel_rfl) ?_
  simp [s0]
  by_cases l1 : A.length ≤ 4
  · have l1' : (A.length : Int) ≤ 4 := by omega
    exact AWp.ret (post_ret1 rfl (by simp [hA, l1, l1']))
  · have l1' : ¬ (A.length : Int) ≤ 4 := by omega
    exact AWp.ret (post_ret1 rfl (by simp [hA, l1, l1']))
theorem View.freezeBox {m : Mem} {g : Nat} {cs : List AV} (hg : m g = some (.box cs)) : View m (.ptr g 0) (m.del g) (.ref cs) := fun w S v h1 h2 => by
  obtain ⟨T, vs, hb, hr⟩ := h1.blk g _ hg
  have hSS : ∀ b, S b → S b ∨ b = g := fun b hb => .inl hb
  refine ⟨fun b => S b ∨ b = g, hSS, fun b hb => hb.imp id (fun h => by rw [h, hg]; simp), ⟨fun g' b' hg' => ?_, fun b hb' => ?_⟩, ?_, fun g' b' hg' => ?_⟩
  · unfold Mem.del at hg'
    split at hg'
    · cases hg'
    · exact (h1.blk g' b' hg').mono (fun _ _ => rfl) hSS rfl
  · rcases hb' with hb' | rfl
    · refine ⟨?_, (h1.apart b hb').2⟩
      unfold Mem.del
      split
      · rfl
      · exact (h1.apart b hb').1
    · exact ⟨by simp [Mem.del], (Array.getElem?_eq_some_iff.1 hb).1⟩
  · cases h2
    exact .ref g 0 (.inr rfl) (Cells.of_block hb (hr.mono (fun _ _ => rfl) hSS) 0 (fun i v hv => by simpa using hv))
  · unfold Mem.del at hg'
    split at hg'
    · cases hg'
    · rw [hg']; simp
theorem c_loopsOk0 (l : List Sm) (ht : totL Sm.tot l ≤ 1048576) (h : ∀ x ∈ l, ∀ ns : List ByteArray, ns.length + totL Sm.tot x.body ≤ 2097152 → PCall Tryz.prog 317 [.lst false 19 (x.body.map Sm.av), strs ns] (.bool (Sm.nests x.body ns)))
    (ns : List ByteArray) (hb : ns.length + totL Sm.tot l ≤ 2097152) : PCall Tryz.prog 317 [.lst false 19 (l.map Sm.av), strs ns] (.bool (Sm.nests l ns)) := by
  have hlen := totL_len Sm.tot l
  refine pcall_of Tryz.func317 (by kernel_rfl) rfl (by simp [Tryz.f317]) ?_
  have c1 := fun s => c_Contains ns s (by omega)
  (repeat refine AWp.seq ?_); refine AWp.region noP (by kernel_rfl) ?_
  try simp
  (repeat refine AWp.seq ?_); refine AWp.region noP (by kernel_rfl) ?_
  try simp
  (repeat refine AWp.seq ?_); refine AWp.block (AWp.rounds (fun m st => ∃ (i : Nat), m = l.length - i ∧ i ≤ l.length ∧ st.slots 7 = .lst false 19 (l.map Sm.av) ∧ st.slots 8 = .int .i64 l.length ∧ st.slots 1 = strs ns ∧ st.slots 9 = .int .i64 i ∧ Sm.nests l ns = Sm.nests (l.drop i) ns) l.length ⟨0, by simp, by simp, by simp, by simp, by simp, by simp, by simp⟩ ?_)
  rintro R m st hR ⟨i, rfl, hi, s7, s8, s1, s9, hr⟩
  (repeat refine AWp.seq ?_); refine AWp.region noP (by kernel_rfl) ?_
  simp [s7, s8, s9]
  (repeat refine AWp.seq ?_); refine AWp.cond (b := decide (i < l.length)) (by simp) (fun hb => ?_) (fun hb => ?_)
  · simp at hb
    have hg : l[i]? = some l[i] := List.getElem?_eq_getElem hb
    have hdr : l.drop i = l[i] :: l.drop (i + 1) := List.drop_eq_getElem_cons hb
    have htm := totL_mem Sm.tot (List.getElem_mem hb)
    have htb := l[i].tot_body
    have hx : ∀ m, idxA Tryz.prog m 36 (.lst false 19 (l.map Sm.av)) (.int .i64 i) = some (.ref l[i].cells) := fun m => idx (y := l[i].av) es_36 (by simp [hg])
    have hw : IntKind.wrap .i64 ((i : Int) + 1) = (i + 1 : Nat) := wrap64 (by omega) (by omega)
    have hz : Sm.nests l ns = ((decide (l[i].k ≠ 3) || (!has ns l[i].s && Sm.nests l[i].body (ns ++ [l[i].s]))) && Sm.nests (l.drop (i + 1)) ns) := by rw [hr, hdr, Sm.nests, Sm.nest_eq]
    refine AWp.skip ?_
    try simp
    (repeat refine AWp.seq ?_); refine AWp.block ?_; (repeat refine AWp.seq ?_); refine AWp.region noP (by kernel_rfl) ?_
    simp [s7, s9, hx]
    intro g hgf
    try simp [set_at, set_set]
    have hgg : (st.mem.set g (.box l[i].cells)) g = some (.box l[i].cells) := set_same _ _ _
    generalize st.mem.set g (.box l[i].cells) = m1 at *
    (repeat refine AWp.seq ?_); refine AWp.region noP (by kernel_rfl) ?_
    simp [hgg]
    (repeat refine AWp.seq ?_); refine AWp.cond (b := !decide (l[i].k = 3)) (by simp) (fun hk => ?_) (fun hk => ?_)
    · simp at hk
      refine AWp.exit ?_
      try simp
      (repeat refine AWp.seq ?_); refine AWp.region noP (by kernel_rfl) ?_
      simp [s9, hw]
      exact hR _ (l.length - (i + 1)) (by omega) ⟨i + 1, rfl, hb, by simp [s7], by simp [s8], by simp [s1], by simp, by rw [hz]; simp [hk]⟩
    · simp at hk
      refine AWp.skip ?_
      try simp
      refine AWp.sees (Sees.view (t := 6) (m' := m1.del g) (r' := .ref l[i].cells) (by simpa using View.freezeBox hgg)) ?_
      try simp
      generalize hst : (St.mk _ _ : St) = st2
      have t6 : st2.slots 6 = .ref l[i].cells := by rw [← hst]; simp
      have t7 : st2.slots 7 = .lst false 19 (l.map Sm.av) := by rw [← hst]; simp [s7]
      have t8 : st2.slots 8 = .int .i64 l.length := by rw [← hst]; simp [s8]
      have t1 : st2.slots 1 = strs ns := by rw [← hst]; simp [s1]
      have t9 : st2.slots 9 = .int .i64 i := by rw [← hst]; simp [s9]
      clear hst
      (repeat refine AWp.seq ?_); refine AWp.regionF (fun i => i == 3) (fun i => i == 2 || i == 6 || i == 10) [0, 1, 2, 3, 4, 5, 6, 9, 10, 11, 7, 8, 12, 13, 14, 15] (by kernel_rfl) ?_
      simp [t1, t6]
      refine aop_call' (c1 _) ?_
      cases hh : has ns l[i].s
      · simp [t1, t6]
        refine aop_wcall _ _ _ _ _ _ _ _ rfl (eval_func _ _) ?_
        refine c_Clone ns (by omega) fun v1 m2 h1 => ?_
        try simp
        refine GO.app h1 true [l[i].s] (by simp; omega) fun v2 m3 h2 => ?_
        try simp
        refine aop_wcall _ _ _ _ _ _ _ _ rfl (eval_func _ _) ?_
        refine PCall.viewed (l := [.lst false 19 (l[i].body.map Sm.av)]) (l' := []) (h l[i] (List.getElem_mem _) (ns ++ [l[i].s]) (by simp; omega)) (by simpa using h2.view) ?_
        try simp
        (repeat refine AWp.seq ?_); refine AWp.cond (b := !Sm.nests l[i].body (ns ++ [l[i].s])) (by simp) (fun he => ?_) (fun he => ?_)
        · simp at he
          (repeat refine AWp.seq ?_); refine AWp.region noP (by kernel_rfl) ?_
          try simp
          exact AWp.ret (post_ret1 rfl (by simp only [put_slot, reduceIte]; rw [hz, hh, he]; simp [hk]))
        · simp at he
          refine AWp.skip ?_
          try simp
          (repeat refine AWp.seq ?_); refine AWp.region noP (by kernel_rfl) ?_
          simp [t9, hw]
          exact hR _ (l.length - (i + 1)) (by omega) ⟨i + 1, rfl, hb, by simp [t7], by simp [t8], by simp [t1], by simp, by rw [hz, hh, he]; simp⟩
      · simp
        (repeat refine AWp.seq ?_); refine AWp.condT (by simp) ?_
        (repeat refine AWp.seq ?_); refine AWp.region noP (by kernel_rfl) ?_
        try simp
        exact AWp.ret (post_ret1 rfl (by simp only [put_slot, reduceIte]; rw [hz, hh]; simp [hk]))
  · simp at hb
    refine AWp.exit ?_
    try simp
    (repeat refine AWp.seq ?_); refine AWp.region noP (by kernel_rfl) ?_
    try simp
    have : i = l.length := by omega
    subst this
    exact AWp.ret (post_ret1 rfl (by simp only [put_slot, reduceIte]; rw [hr]; simp [Sm.nests]))
theorem c_loopsOkB (e : Sm) : e.tot ≤ 1048576 → ∀ ns : List ByteArray, ns.length + totL Sm.tot e.body ≤ 2097152 → PCall Tryz.prog 317 [.lst false 19 (e.body.map Sm.av), strs ns] (.bool (Sm.nests e.body ns)) := by
  induction e using Sm.ind' with | h e h =>
  intro ht
  have := e.tot_body
  exact c_loopsOk0 e.body (by omega) (fun x hx => h x hx (by have := totL_mem Sm.tot hx; omega))
theorem c_loopsOk (l : List Sm) (ht : totL Sm.tot l ≤ 1048576) (ns : List ByteArray) (hb : ns.length + totL Sm.tot l ≤ 2097152) : PCall Tryz.prog 317 [.lst false 19 (l.map Sm.av), strs ns] (.bool (Sm.nests l ns)) :=
  c_loopsOk0 l ht (fun x hx => c_loopsOkB x (by have := totL_mem Sm.tot hx; omega)) ns hb
end Go.T
namespace Go.T
open Go Go.Proofs
set_option maxRecDepth 10000
set_option maxHeartbeats 1000000
set_option linter.unusedSimpArgs false
set_option linter.unusedVariables false
theorem c_namesOk (p : Pg) (ht : p.tot ≤ 1048576) : PCall Tryz.prog 212 [p.av] (.bool p.namesB) := by
  have h2 := totL_len Sm.tot p.body
  have h3 : p.tot = totL Ar.tot p.arrs + totL Sm.tot p.body := rfl
  obtain ⟨L0, L1, L3, L2, L4⟩ := p.lens ht
  have L42 := L4 2
  have L43 := L4 3
  have hc : p.cells = [.lst false 2 (p.arrs.map Ar.av), .lst false 19 (p.body.map Sm.av)] := rfl
  have cV := c_impl_VarsOf p.body (by omega)
  have cL := c_impl_LoopVars p.body (by omega)
  have cA := c_impl_Asked p.body (by omega)
  have cP := c_namesOf p.body 2 (by omega)
  have cQ := c_namesAsked p.body 3 (by omega)
  rw [asked_same] at cQ
  have cN := (c_loopsOk p.body (by omega) [] (by simp; omega)).arg (args := [.lst false 19 (p.body.map Sm.av), .lst true 0 []]) (.cons (Le.refl _) (.cons (Le.nil _ _ _) .nil))
  have d1 := c_areArrs p p.puts L0 (by omega)
  have d2 := c_areArrs p (p.asked 3) L0 (by omega)
  have d3 := c_areArrs p [p.vars, p.loops, p.asked 2].flatten L0 (by simp; omega)
  have cC := c_ConcatP [p.vars, p.loops, p.asked 2] true (by simp [sumL]; omega) (by simp)
  have cO := fun s => c_Contains p.vars s (by omega)
  change PCall _ _ _ (strs p.vars) at cV
  change PCall _ _ _ (strs p.loops) at cL
  change PCall _ _ _ (strs (p.asked 2)) at cA
  change PCall _ _ _ (strs p.puts) at cP
  change PCall _ _ _ (strs (p.asked 3)) at cQ
  simp only [List.map_cons, List.map_nil] at cC
  have hother : [p.vars, p.loops, p.asked 2].flatten.any p.isArr = (p.vars.any p.isArr || (p.loops.any p.isArr || (p.asked 2).any p.isArr)) := by simp
  rw [hother] at d3
  generalize [p.vars, p.loops, p.asked 2].flatten = names3 at d3 cC
  generalize names3.all p.isArr = all3 at d3
  generalize (p.asked 3).any p.isArr = any1 at d2
  generalize p.puts.any p.isArr = any2 at d1
  unfold strs at *
  refine pcall_of Tryz.func212 (by kernel_rfl) rfl (by simp [Tryz.f212]) ?_
  unfold Pg.av at *
  rw [hc] at *
  (repeat refine AWp.seq ?_); refine AWp.region noP (by kernel_rfl) ?_
  try simp
  intro g
  (repeat refine AWp.seq ?_); refine AWp.regionF (fun _ => true) (fun _ => false) [0, 1, 2, 3, 4, 5, 6, 7] (by kernel_rfl) ?_
  try simp
  refine aop_call' cV ?_
  try simp
  refine aop_call' cL ?_
  try simp
  (repeat refine AWp.seq ?_); refine AWp.region noP (by kernel_rfl) ?_
  try simp
  (try refine AWp.seq ?_)
  refine AWp.cutA (fun st => st.slots 1 = .ptr g 0 ∧ st.mem g = some (.box [.lst false 2 (p.arrs.map Ar.av), .lst false 19 (p.body.map Sm.av)]) ∧ st.slots 3 = .lst false 1 (p.vars.map .str) ∧ st.slots 4 = .lst false 1 (p.loops.map .str) ∧ p.loops.any (fun x => has p.vars x) = false) ?_ ?_
  · refine AWp.block (AWp.rounds (fun k st => ∃ (i : Nat), k = p.loops.length - i ∧ i ≤ p.loops.length ∧ st.slots 1 = .ptr g 0 ∧ st.mem g = some (.box [.lst false 2 (p.arrs.map Ar.av), .lst false 19 (p.body.map Sm.av)]) ∧ st.slots 3 = .lst false 1 (p.vars.map .str) ∧ st.slots 4 = .lst false 1 (p.loops.map .str) ∧ st.slots 19 = .lst false 1 (p.loops.map .str) ∧ st.slots 20 = .int .i64 p.loops.length ∧ st.slots 21 = .int .i64 i ∧
      p.loops.any (fun x => has p.vars x) = (p.loops.drop i).any (fun x => has p.vars x)) p.loops.length ⟨0, by simp, by simp, by simp, by simp, by simp, by simp, by simp, by simp, by simp, by simp⟩ ?_)
    rintro R k st hR ⟨i, rfl, hi, s1, sg, s3, s4, s19, s20, s21, hr⟩
    (repeat refine AWp.seq ?_); refine AWp.region noP (by kernel_rfl) ?_
    simp [s19, s20, s21]
    (repeat refine AWp.seq ?_); refine AWp.cond (b := decide (i < p.loops.length)) (by simp) (fun hb => ?_) (fun hb => ?_)
    · simp at hb
      have hg : p.loops[i]? = some p.loops[i] := List.getElem?_eq_getElem hb
      have hdr : p.loops.drop i = p.loops[i] :: p.loops.drop (i + 1) := List.drop_eq_getElem_cons hb
      have hx : ∀ m, idxA Tryz.prog m 26 (.lst false 1 (p.loops.map .str)) (.int .i64 i) = some (.ref [.str p.loops[i]]) := fun m => idx (y := .str p.loops[i]) es_26 (by simp [hg])
      have hw : IntKind.wrap .i64 ((i : Int) + 1) = (i + 1 : Nat) := wrap64 (by omega) (by omega)
      rw [hdr, List.any_cons] at hr
      refine AWp.skip ?_
      try simp
      (repeat refine AWp.seq ?_); refine AWp.block ?_; (repeat refine AWp.seq ?_); refine AWp.region noP (by kernel_rfl) ?_
      simp [s19, s21, hx]
      (repeat refine AWp.seq ?_); refine AWp.region allP (by kernel_rfl) ?_
      simp [s3]
      refine aop_call' (cO p.loops[i]) ?_
      try simp
      (repeat refine AWp.seq ?_); refine AWp.cond (b := has p.vars p.loops[i]) (by simp) (fun he => ?_) (fun he => ?_)
      · (repeat refine AWp.seq ?_); refine AWp.region noP (by kernel_rfl) ?_
        try simp
        rw [he, Bool.true_or] at hr
        have hnb : p.namesB = false := by unfold Pg.namesB; rw [hr]; simp
        exact AWp.ret (post_ret1 rfl (by simp [hnb]))
      · refine AWp.skip ?_
        try simp
        (repeat refine AWp.seq ?_); refine AWp.region noP (by kernel_rfl) ?_
        simp [s21, hw]
        exact hR _ (p.loops.length - (i + 1)) (by omega) ⟨i + 1, rfl, hb, by simp [s1], by simp [sg], by simp [s3], by simp [s4], by simp [s19], by simp [s20], by simp, by rw [hr, he, Bool.false_or]⟩
    · simp at hb
      refine AWp.exit ?_
      have : i = p.loops.length := by omega
      subst this
      rw [List.drop_length, List.any_nil] at hr
      simp [s1, sg, s3, s4]
      simpa using hr
  rintro st ⟨s1, sg, s3, s4, hap⟩
  (repeat refine AWp.seq ?_); refine AWp.regionG (fun _ => true) (fun _ => false) [0, 1, 2, 3, 4, 5, 6, 7, 8, 9] [0, 1, 2, 3, 4, 5, 6, 8, 7, 9] (by kernel_rfl) ?_
  simp [s1, sg]
  refine aop_call' cQ ?_
  try simp
  refine aop_call' d2 ?_
  try simp
  (repeat refine AWp.seq ?_); refine AWp.regionG (fun _ => true) (fun _ => false) [0, 1, 2, 3, 4, 5, 6, 7, 8, 9] [0, 1, 2, 3, 4, 5, 6, 8, 7, 9] (by kernel_rfl) ?_
  simp [s1, sg]
  refine aop_call' cP ?_
  try simp
  refine aop_call' d1 ?_
  try simp
  (repeat refine AWp.seq ?_); refine AWp.regionG (fun _ => true) (fun _ => false) [0, 1, 2, 3, 4, 5, 6, 7, 8, 9, 10, 11, 12, 13] [0, 1, 2, 3, 4, 5, 6, 7, 8, 9, 10, 12, 11, 13] (by kernel_rfl) ?_
  simp [s1, s3, s4, sg]
  refine aop_call' cA ?_
  simp [s1, s3, s4, sg]
  refine aop_call' cC ?_
  try simp
  refine aop_call' d3 ?_
  try simp
  unfold Pg.namesB
  rw [hap]
  (repeat refine AWp.seq ?_); refine AWp.region allP (by kernel_rfl) ?_
  cases v2 : (p.asked 3).all p.isArr
  · simp [s1, s3, sg]
    exact AWp.ret (post_ret1 rfl (by simp [v2]))
  cases v1 : p.puts.all p.isArr
  · simp [s1, s3, sg]
    exact AWp.ret (post_ret1 rfl (by simp [v1]))
  cases v3 : p.vars.any p.isArr
  rotate_left
  · simp [s1, s3, sg]
    exact AWp.ret (post_ret1 rfl (by simp [v3]))
  cases v4 : p.loops.any p.isArr
  rotate_left
  · simp [s1, s3, sg]
    exact AWp.ret (post_ret1 rfl (by simp [v4]))
  cases v5 : (p.asked 2).any p.isArr
  rotate_left
  · simp [s1, s3, sg]
    exact AWp.ret (post_ret1 rfl (by simp [v5]))
  by_cases v8 : p.vars.length ≤ 6
  rotate_left
  · have w8 : ¬ (p.vars.length : Int) ≤ 6 := by omega
    simp [s1, s3, sg, w8]
    exact AWp.ret (post_ret1 rfl (by simp [v8]))
  have w8 : (p.vars.length : Int) ≤ 6 := by omega
  simp [s1, s3, sg, w8]
  refine aop_call' cN ?_
  try simp
  exact AWp.ret (post_ret1 rfl (by simp [v1, v2, v3, v4, v5, v8]))
theorem c_impl_ProgOk (p : Pg) (ht : p.tot ≤ 1048576) : PCall Tryz.prog 95 [p.av] (.bool p.ok) := by
  have h1 := totL_len Ar.tot p.arrs
  have h2 := totL_len Sm.tot p.body
  have h3 : p.tot = totL Ar.tot p.arrs + totL Sm.tot p.body := rfl
  have hc : p.cells = [.lst false 2 (p.arrs.map Ar.av), .lst false 19 (p.body.map Sm.av)] := rfl
  have cH := c_arrsOk p.arrs (by omega)
  have cZ := c_impl_Size p.body (by omega)
  have cN := c_namesOk p ht
  refine pcall_of Tryz.func95 (by kernel_rfl) rfl (by simp [Tryz.f95]) ?_
  unfold Pg.av at *
  rw [hc] at *
  (repeat refine AWp.seq ?_); refine AWp.region noP (by kernel_rfl) ?_
  try simp
  intro g
  have hbad : p.head = false → p.ok = false := fun h => by unfold Pg.ok; rw [h]; rfl
  (repeat refine AWp.seq ?_); refine AWp.region allP (by kernel_rfl) ?_
  try simp
  refine aop_call' cH ?_
  cases x1 : (arrsFrom none p.arrs && decide (p.arrs.length ≤ 4))
  · have hz : p.ok = false := hbad (by unfold Pg.head; rw [← Bool.and_assoc, x1]; rfl)
    try simp
    (repeat refine AWp.seq ?_); refine AWp.condT (by simp) ?_
    (repeat refine AWp.seq ?_); refine AWp.region noP (by kernel_rfl) ?_
    try simp
    exact AWp.ret (post_ret1 rfl (by simp [hz]))
  by_cases l2 : p.body.length ≤ 12
  rotate_left
  · have l2' : (12 : Int) < p.body.length := by omega
    have hz : p.ok = false := hbad (by unfold Pg.head; simp [l2])
    simp [l2']
    (repeat refine AWp.seq ?_); refine AWp.condT (by simp) ?_
    (repeat refine AWp.seq ?_); refine AWp.region noP (by kernel_rfl) ?_
    try simp
    exact AWp.ret (post_ret1 rfl (by simp [hz]))
  have l2' : ¬ (12 : Int) < p.body.length := by omega
  simp [l2']
  refine aop_call' cZ ?_
  by_cases l3 : sumL Sm.size p.body ≤ 40
  rotate_left
  · have l3' : (40 : Int) < sumL Sm.size p.body := by omega
    have hz : p.ok = false := hbad (by unfold Pg.head; simp [l3])
    simp [l3']
    (repeat refine AWp.seq ?_); refine AWp.condT (by simp) ?_
    (repeat refine AWp.seq ?_); refine AWp.region noP (by kernel_rfl) ?_
    try simp
    exact AWp.ret (post_ret1 rfl (by simp [hz]))
  have l3' : ¬ (40 : Int) < sumL Sm.size p.body := by omega
  simp [l3']
  (repeat refine AWp.seq ?_); refine AWp.condF (by simp) ?_
  refine AWp.skip ?_
  try simp
  (repeat refine AWp.seq ?_); refine AWp.region noP (by kernel_rfl) ?_
  try simp
  (try refine AWp.seq ?_)
  refine AWp.cutA (fun st => st.slots 1 = .ptr g 0 ∧ st.mem g = some (.box [.lst false 2 (p.arrs.map Ar.av), .lst false 19 (p.body.map Sm.av)]) ∧ p.body.all Sm.ok = true) ?_ ?_
  · refine AWp.block (AWp.rounds (fun k st => ∃ (i : Nat), k = p.body.length - i ∧ i ≤ p.body.length ∧ st.slots 1 = .ptr g 0 ∧ st.mem g = some (.box [.lst false 2 (p.arrs.map Ar.av), .lst false 19 (p.body.map Sm.av)]) ∧ st.slots 22 = .lst false 19 (p.body.map Sm.av) ∧ st.slots 23 = .int .i64 p.body.length ∧ st.slots 24 = .int .i64 i ∧ p.body.all Sm.ok = (p.body.drop i).all Sm.ok) p.body.length ⟨0, by simp, by simp, by simp, by simp, by simp, by simp, by simp, by simp⟩ ?_)
    rintro R k st hR ⟨i, rfl, hi, s1, sg, s22, s23, s24, hr⟩
    (repeat refine AWp.seq ?_); refine AWp.region noP (by kernel_rfl) ?_
    simp [s22, s23, s24]
    (repeat refine AWp.seq ?_); refine AWp.cond (b := decide (i < p.body.length)) (by simp) (fun hb => ?_) (fun hb => ?_)
    · simp at hb
      have hg : p.body[i]? = some p.body[i] := List.getElem?_eq_getElem hb
      have hdr : p.body.drop i = p.body[i] :: p.body.drop (i + 1) := List.drop_eq_getElem_cons hb
      have hx : ∀ m, idxA Tryz.prog m 36 (.lst false 19 (p.body.map Sm.av)) (.int .i64 i) = some (.ref p.body[i].cells) := fun m => idx (y := p.body[i].av) es_36 (by simp [hg])
      have hw : IntKind.wrap .i64 ((i : Int) + 1) = (i + 1 : Nat) := wrap64 (by omega) (by omega)
      have htm := totL_mem Sm.tot (List.getElem_mem hb)
      rw [hdr, List.all_cons] at hr
      refine AWp.skip ?_
      try simp
      (repeat refine AWp.seq ?_); refine AWp.block ?_; (repeat refine AWp.seq ?_); refine AWp.region noP (by kernel_rfl) ?_
      simp [s22, s24, hx]
      intro g2 hgf
      try simp [set_at, set_set]
      have hgg : (st.mem.set g2 (.box p.body[i].cells)) g2 = some (.box p.body[i].cells) := set_same _ _ _
      have hsg : (st.mem.set g2 (.box p.body[i].cells)) g = some (.box [.lst false 2 (p.arrs.map Ar.av), .lst false 19 (p.body.map Sm.av)]) := by
        rw [set_at, if_neg]
        · exact sg
        · rintro rfl; rw [hgf] at sg; cases sg
      generalize st.mem.set g2 (.box p.body[i].cells) = m1 at *
      (repeat refine AWp.seq ?_); refine AWp.region allP (by kernel_rfl) ?_
      simp [hgg]
      refine aop_call' (c_impl_StmtOk p.body[i] (by omega)) ?_
      try simp
      (repeat refine AWp.seq ?_); refine AWp.cond (b := !p.body[i].ok) (by simp) (fun he => ?_) (fun he => ?_)
      · simp at he
        (repeat refine AWp.seq ?_); refine AWp.region noP (by kernel_rfl) ?_
        try simp
        have hz : p.ok = false := hbad (by unfold Pg.head; rw [hr, he]; simp)
        exact AWp.ret (post_ret1 rfl (by simp [hz]))
      · simp at he
        refine AWp.skip ?_
        try simp
        (repeat refine AWp.seq ?_); refine AWp.region noP (by kernel_rfl) ?_
        simp [s24, hw]
        exact hR _ (p.body.length - (i + 1)) (by omega) ⟨i + 1, rfl, hb, by simp [s1], by simp [hsg], by simp [s22], by simp [s23], by simp, by rw [hr, he, Bool.true_and]⟩
    · simp at hb
      refine AWp.exit ?_
      have : i = p.body.length := by omega
      subst this
      simp only [List.drop_length, List.all_nil] at hr
      simp [s1, sg]
      simpa using hr
  rintro st ⟨s1, sg, hB⟩
  have hok : p.ok = p.namesB := by
    unfold Pg.ok Pg.head
    rw [← Bool.and_assoc, x1, hB]
    simp [l2, l3]
  (repeat refine AWp.seq ?_); refine AWp.region allP (by kernel_rfl) ?_
  simp [s1, sg]
  refine aop_call' cN ?_
  try simp
  exact AWp.ret (post_ret1 rfl (by simp [hok]))
end Go.T
namespace Go.T
open Go Go.Proofs
set_option maxRecDepth 10000
set_option maxHeartbeats 1000000
set_option linter.unusedSimpArgs false
set_option linter.unusedVariables false
theorem c_layOf (p : Pg) (ht : p.tot ≤ 1048576) (hf : p.Fine) : PCall Tryz.prog 213 [p.av] (.ref p.lay) := by
  have h2 := totL_len Sm.tot p.body
  have h3 : p.tot = totL Ar.tot p.arrs + totL Sm.tot p.body := rfl
  have h4 := hf.arrs
  obtain ⟨L0, L1, L3, L2, L4⟩ := p.lens ht
  have hc : p.cells = [.lst false 2 (p.arrs.map Ar.av), .lst false 19 (p.body.map Sm.av)] := rfl
  have cV := c_impl_VarsOf p.body (by omega)
  have cL := c_impl_LoopVars p.body (by omega)
  change PCall _ _ _ (strs p.vars) at cV
  change PCall _ _ _ (strs p.loops) at cL
  refine pcall_of Tryz.func213 (by kernel_rfl) rfl (by simp [Tryz.f213]) ?_
  unfold Pg.av
  rw [hc]
  (repeat refine AWp.seq ?_); refine AWp.region noP (by kernel_rfl) ?_
  try simp
  intro g1
  (repeat refine AWp.seq ?_); refine AWp.region allP (by kernel_rfl) ?_
  try simp
  refine aop_call' cV ?_
  simp [strs]
  intro g2 hg2
  have hne : g2 ≠ g1 := by rintro rfl; simp [set_at] at hg2
  have e1 : ((Mem.set (fun _ => none) g1 (.box [.lst false 2 (p.arrs.map Ar.av), .lst false 19 (p.body.map Sm.av)])).set g2 (.box [.lst false 2 (p.arrs.map Ar.av), .lst false 19 (p.body.map Sm.av), strs p.vars, .lst true 0 [], .int .i64 0])) g1 = some (.box [.lst false 2 (p.arrs.map Ar.av), .lst false 19 (p.body.map Sm.av)]) := by simp [set_at, hne.symm]
  have e2 : ((Mem.set (fun _ => none) g1 (.box [.lst false 2 (p.arrs.map Ar.av), .lst false 19 (p.body.map Sm.av)])).set g2 (.box [.lst false 2 (p.arrs.map Ar.av), .lst false 19 (p.body.map Sm.av), strs p.vars, .lst true 0 [], .int .i64 0])) g2 = some (.box [.lst false 2 (p.arrs.map Ar.av), .lst false 19 (p.body.map Sm.av), strs p.vars, .lst true 0 [], .int .i64 0]) := set_same _ _ _
  unfold strs at e1 e2
  generalize ((Mem.set (fun _ => none) g1 (.box [.lst false 2 (p.arrs.map Ar.av), .lst false 19 (p.body.map Sm.av)])).set g2 (.box [.lst false 2 (p.arrs.map Ar.av), .lst false 19 (p.body.map Sm.av), .lst false 1 (p.vars.map .str), .lst true 0 [], .int .i64 0])) = m0 at *
  (repeat refine AWp.seq ?_); refine AWp.regionF (fun i => i == 3) (fun _ => false) [0, 1, 2, 3, 4, 5, 6, 7, 11, 12, 8, 9, 10, 13] (by kernel_rfl) ?_
  simp [e1]
  refine aop_call' cL ?_
  simp [e2, strs]
  refine aop_wcall _ _ _ _ _ _ _ _ rfl (eval_func _ _) ?_
  refine c_Concat [p.loops, p.vars] true (by simp [sumL]; omega) (by simp) fun v m' hG => ⟨v, m', View.refl _ _, ?_⟩
  try simp
  refine aop_wcall _ _ _ _ _ _ _ _ rfl (eval_func _ _) ?_
  refine c_ordered hG (by simp; omega) ?_
  have hreg : nameSet [p.loops, p.vars].flatten = p.regs := by unfold Pg.regs; simp
  rw [hreg]
  simp [e2, strs]
  have e3 : (m0.set g2 (.box [.lst false 2 (p.arrs.map Ar.av), .lst false 19 (p.body.map Sm.av), .lst false 1 (p.vars.map .str), .lst false 1 (p.regs.map .str), .int .i64 0])) g2 = some (.box [.lst false 2 (p.arrs.map Ar.av), .lst false 19 (p.body.map Sm.av), .lst false 1 (p.vars.map .str), .lst false 1 (p.regs.map .str), .int .i64 0]) := set_same _ _ _
  have e4 : (m0.set g2 (.box [.lst false 2 (p.arrs.map Ar.av), .lst false 19 (p.body.map Sm.av), .lst false 1 (p.vars.map .str), .lst false 1 (p.regs.map .str), .int .i64 0])) g1 = some (.box [.lst false 2 (p.arrs.map Ar.av), .lst false 19 (p.body.map Sm.av)]) := by rw [set_at, if_neg hne.symm]; exact e1
  generalize (m0.set g2 (.box [.lst false 2 (p.arrs.map Ar.av), .lst false 19 (p.body.map Sm.av), .lst false 1 (p.vars.map .str), .lst false 1 (p.regs.map .str), .int .i64 0])) = m1 at *
  (repeat refine AWp.seq ?_); refine AWp.region noP (by kernel_rfl) ?_
  simp [e4]
  (try refine AWp.seq ?_)
  refine AWp.cutA (fun st => st.slots 3 = .ptr g2 0 ∧ st.mem g2 = some (.box p.lay)) ?_ ?_
  · refine AWp.block (AWp.rounds (fun k st => ∃ (i : Nat), k = p.arrs.length - i ∧ i ≤ p.arrs.length ∧ st.slots 3 = .ptr g2 0 ∧ st.slots 26 = .lst false 2 (p.arrs.map Ar.av) ∧ st.slots 27 = .int .i64 p.arrs.length ∧ st.slots 28 = .int .i64 i ∧ st.mem g2 = some (.box [.lst false 2 (p.arrs.map Ar.av), .lst false 19 (p.body.map Sm.av), .lst false 1 (p.vars.map .str), .lst false 1 (p.regs.map .str), .int .i64 (sumN (p.arrs.take i))])) p.arrs.length ⟨0, by simp, by simp, by simp, by simp, by simp, by simp, by simp [e3, sumN]⟩ ?_)
    rintro R k st hR ⟨i, rfl, hi, s3, s26, s27, s28, sg⟩
    (repeat refine AWp.seq ?_); refine AWp.region noP (by kernel_rfl) ?_
    simp [s26, s27, s28]
    (repeat refine AWp.seq ?_); refine AWp.cond (b := decide (i < p.arrs.length)) (by simp) (fun hb => ?_) (fun hb => ?_)
    · simp at hb
      have hg : p.arrs[i]? = some p.arrs[i] := List.getElem?_eq_getElem hb
      have hx : ∀ m, idxA Tryz.prog m 35 (.lst false 2 (p.arrs.map Ar.av)) (.int .i64 i) = some (.ref [.str p.arrs[i].s, .int .i64 p.arrs[i].n]) := fun m => idx (y := p.arrs[i].av) es_35 (by simp [hg])
      have hw : IntKind.wrap .i64 ((i : Int) + 1) = (i + 1 : Nat) := wrap64 (by omega) (by omega)
      have hb1 := hf.take i
      have hb2 := hf.take (i + 1)
      have hsu := sumN_succ p.arrs i hb
      have hw2 : IntKind.wrap .i64 (sumN (p.arrs.take i) + p.arrs[i].n) = sumN (p.arrs.take (i + 1)) := by rw [wrap64 (by omega) (by omega), hsu]
      refine AWp.skip ?_
      try simp
      (repeat refine AWp.seq ?_); refine AWp.block ?_; (repeat refine AWp.seq ?_); refine AWp.region noP (by kernel_rfl) ?_
      simp [s26, s28, hx]
      intro g hgf
      try simp [set_at, set_set]
      have hgg : (st.mem.set g (.box [.str p.arrs[i].s, .int .i64 p.arrs[i].n])) g = some (.box [.str p.arrs[i].s, .int .i64 p.arrs[i].n]) := set_same _ _ _
      have hg2 : (st.mem.set g (.box [.str p.arrs[i].s, .int .i64 p.arrs[i].n])) g2 = some (.box [.lst false 2 (p.arrs.map Ar.av), .lst false 19 (p.body.map Sm.av), .lst false 1 (p.vars.map .str), .lst false 1 (p.regs.map .str), .int .i64 (sumN (p.arrs.take i))]) := by
        rw [set_at, if_neg]
        · exact sg
        · rintro rfl; rw [hgf] at sg; cases sg
      generalize st.mem.set g (.box [.str p.arrs[i].s, .int .i64 p.arrs[i].n]) = m2 at *
      (repeat refine AWp.seq ?_); refine AWp.region allP (by kernel_rfl) ?_
      simp [s3, hgg, hg2, hw2]
      (repeat refine AWp.seq ?_); refine AWp.region noP (by kernel_rfl) ?_
      simp [s28, hw]
      exact hR _ (p.arrs.length - (i + 1)) (by omega) ⟨i + 1, rfl, hb, by simp [s3], by simp [s26], by simp [s27], by simp, by simp [set_at]⟩
    · simp at hb
      refine AWp.exit ?_
      have : i = p.arrs.length := by omega
      subst this
      rw [List.take_length] at sg
      simp [s3, sg, Pg.lay, Pg.size, strs]
  rintro st ⟨s3, sg⟩
  (repeat refine AWp.seq ?_); refine AWp.region noP (by kernel_rfl) ?_
  simp [s3]
  exact AWp.ret (post_retW rfl ⟨.ref p.lay, st.mem.del g2, by simpa using View.freezeBox sg, rfl⟩)
end Go.T
namespace Go.T
open Go Go.Proofs
set_option maxRecDepth 10000
set_option maxHeartbeats 1000000
set_option linter.unusedSimpArgs false
set_option linter.unusedVariables false
theorem c_word (p : Pg) (hf : p.Fine) (s : ByteArray) : PCall Tryz.prog 321 [.ref p.lay, .str s] (.int .i64 (if at_ p.vars s < 0 then -1 else p.size + at_ p.vars s)) := by
  have hs := hf.size
  have hv := hf.vars
  have c1 := c_Index p.vars s (by omega)
  have hb := idxAt_lt s p.vars 0
  have hb2 : at_ p.vars s ≤ 6 := by unfold at_; rcases hb with hb | hb <;> omega
  refine pcall_of Tryz.func321 (by kernel_rfl) rfl (by simp [Tryz.f321]) ?_
  unfold Pg.lay
  unfold strs at *
  by_cases hn : at_ p.vars s < 0
  · rw [if_pos hn]
    repeat' (first
    | refine AWp.seq ?_
    | (refine AWp.region allP (by kernel_rfl) ?_; simp [hn])
    | (refine AWp.condG ?_; simp [hn])
    | (refine AWp.skip ?_; try simp)
    | (refine AWp.exit ?_; try simp)
    | refine AWp.block ?_
    | (refine aop_call' (c1) ?_; simp [hn])
    | (refine AWp.ret (post_ret1 rfl ?_); (simp; done))
    | (refine guardI (fun hq => ?_) (fun hq => ?_) <;> (try simp at hq) <;> (try simp [hn]))
    | (refine condRunI (fun hq => ?_) (fun hq => ?_) <;> (try simp at hq) <;> (try simp [hn]))
    | (refine iteI (fun hq => ?_) (fun hq => ?_) <;> (try simp [hn])))
  · rw [if_neg hn]
    have w1 : IntKind.wrap .i64 (p.size + at_ p.vars s) = p.size + at_ p.vars s := wrap64 (by omega) (by omega)
    repeat' (first
    | refine AWp.seq ?_
    | (refine AWp.region allP (by kernel_rfl) ?_; simp [hn, w1])
    | (refine AWp.condG ?_; simp [hn, w1])
    | (refine AWp.skip ?_; try simp)
    | (refine AWp.exit ?_; try simp)
    | refine AWp.block ?_
    | (refine aop_call' (c1) ?_; simp [hn, w1])
    | (refine AWp.ret (post_ret1 rfl ?_); (simp; done))
    | (refine guardI (fun hq => ?_) (fun hq => ?_) <;> (try simp at hq) <;> (try simp [hn, w1]))
    | (refine condRunI (fun hq => ?_) (fun hq => ?_) <;> (try simp at hq) <;> (try simp [hn, w1]))
    | (refine iteI (fun hq => ?_) (fun hq => ?_) <;> (try simp [hn, w1])))
theorem c_base (p : Pg) (hf : p.Fine) (k : Nat) (hk : k ≤ p.arrs.length) : PCall Tryz.prog 423 [.ref p.lay, .int .i64 k] (.int .i64 (sumN (p.arrs.take k))) := by
  have h4 := hf.arrs
  refine pcall_of Tryz.func423 (by kernel_rfl) rfl (by simp [Tryz.f423]) ?_
  unfold Pg.lay
  have htl : (p.arrs.map Ar.av).take k = (p.arrs.take k).map Ar.av := by rw [List.map_take]
  have hkl : (p.arrs.take k).length = k := by rw [List.length_take]; omega
  have hsl : sliceA Tryz.prog 35 (.lst false 2 (p.arrs.map Ar.av)) none (some (.int .i64 k)) = some (.lst false 2 ((p.arrs.take k).map Ar.av)) := by
    have k1 : ¬ ((k : Int) < 0) := by omega
    have k2 : k ≤ (p.arrs.map Ar.av).length := by simp; omega
    unfold sliceA
    rw [show esz Tryz.prog 35 = some 2 from es_35]
    simp only [boundA, if_neg k1, if_true, List.drop_zero, Int.toNat_natCast]
    rw [← htl, if_pos k2]
  have hA : ∀ i, 0 ≤ sumN ((p.arrs.take k).take i) ∧ sumN ((p.arrs.take k).take i) ≤ 64 := fun i => by rw [List.take_take]; exact hf.take _
  clear htl
  generalize p.arrs.take k = A at hkl hA hsl ⊢
  (repeat refine AWp.seq ?_); refine AWp.region noP (by kernel_rfl) ?_
  try simp
  (repeat refine AWp.seq ?_); refine AWp.region noP (by kernel_rfl) ?_
  try simp
  (repeat refine AWp.seq ?_); refine AWp.region noP (by kernel_rfl) ?_
  simp [hsl]
  clear hsl
  (try refine AWp.seq ?_)
  refine AWp.cutA (fun st => st.slots 5 = .int .i64 (sumN A)) ?_ ?_
  · refine AWp.block (AWp.rounds (fun n st => ∃ (i : Nat), n = A.length - i ∧ i ≤ A.length ∧ st.slots 14 = .lst false 2 (A.map Ar.av) ∧ st.slots 15 = .int .i64 A.length ∧ st.slots 16 = .int .i64 i ∧ st.slots 5 = .int .i64 (sumN (A.take i))) A.length ⟨0, by simp, by simp, by simp, by simp [hkl], by simp, by simp [sumN]⟩ ?_)
    rintro R n st hR ⟨i, rfl, hi, s14, s15, s16, s5⟩
    (repeat refine AWp.seq ?_); refine AWp.region noP (by kernel_rfl) ?_
    simp [s15, s16]
    (repeat refine AWp.seq ?_); refine AWp.cond (b := decide (i < A.length)) (by simp) (fun hb => ?_) (fun hb => ?_)
    · simp at hb
      have hg : A[i]? = some A[i] := List.getElem?_eq_getElem hb
      have hx : ∀ m, idxA Tryz.prog m 35 (.lst false 2 (A.map Ar.av)) (.int .i64 i) = some (.ref [.str A[i].s, .int .i64 A[i].n]) := fun m => idx (y := A[i].av) es_35 (by simp [hg])
      have hw : IntKind.wrap .i64 ((i : Int) + 1) = (i + 1 : Nat) := wrap64 (by omega) (by omega)
      have hb1 := hA i
      have hb2 := hA (i + 1)
      have hsu := sumN_succ A i hb
      have hw2 : IntKind.wrap .i64 (sumN (A.take i) + A[i].n) = sumN (A.take (i + 1)) := by rw [wrap64 (by omega) (by omega), hsu]
      refine AWp.skip ?_
      try simp
      (repeat refine AWp.seq ?_); refine AWp.block ?_; (repeat refine AWp.seq ?_); refine AWp.region noP (by kernel_rfl) ?_
      simp [s14, s16, hx]
      intro g hgf
      try simp [set_at, set_set]
      have hgg : (st.mem.set g (.box [.str A[i].s, .int .i64 A[i].n])) g = some (.box [.str A[i].s, .int .i64 A[i].n]) := set_same _ _ _
      generalize st.mem.set g (.box [.str A[i].s, .int .i64 A[i].n]) = m2 at *
      (repeat refine AWp.seq ?_); refine AWp.region noP (by kernel_rfl) ?_
      simp [s5, hgg, hw2]
      (repeat refine AWp.seq ?_); refine AWp.region noP (by kernel_rfl) ?_
      simp [s16, hw]
      exact hR _ (A.length - (i + 1)) (by omega) ⟨i + 1, rfl, hb, by simp [s14], by simp [s15], by simp, by simp⟩
    · simp at hb
      refine AWp.exit ?_
      have : i = A.length := by omega
      subst this
      rw [List.take_length] at s5
      simp [s5]
  intro st s5
  (repeat refine AWp.seq ?_); refine AWp.region noP (by kernel_rfl) ?_
  simp [s5]
  exact AWp.ret (post_ret1 rfl (by simp))
theorem c_l15Names (p : Pg) (ht : p.tot ≤ 1048576) : PCall Tryz.prog 202 [p.av] (strs p.regs) := by
  have h3 : p.tot = totL Ar.tot p.arrs + totL Sm.tot p.body := rfl
  obtain ⟨L0, L1, L3, L2, L4⟩ := p.lens ht
  have cV := c_spec_VarsOf p.body (by omega)
  have cL := c_spec_LoopVars p.body (by omega)
  change PCall _ _ _ (strs p.vars) at cV
  change PCall _ _ _ (strs p.loops) at cL
  refine pcall_of Tryz.func202 (by kernel_rfl) rfl (by simp [Tryz.f202]) ?_
  have hc : p.cells = [.lst false 2 (p.arrs.map Ar.av), .lst false 19 (p.body.map Sm.av)] := rfl
  unfold Pg.av at *
  rw [hc] at *
  (repeat refine AWp.seq ?_); refine AWp.region noP (by kernel_rfl) ?_
  try simp
  intro g
  (repeat refine AWp.seq ?_); refine AWp.region allP (by kernel_rfl) ?_
  try simp
  refine aop_call' cV ?_
  try simp
  (repeat refine AWp.seq ?_); refine AWp.region allP (by kernel_rfl) ?_
  try simp
  refine aop_call' cL ?_
  try simp
  (repeat refine AWp.seq ?_); refine AWp.region noP (by kernel_rfl) ?_
  try simp
  (try refine AWp.seq ?_)
  refine AWp.cutA (fun st => st.slots 3 = strs p.regs) ?_ ?_
  · refine AWp.block (AWp.rounds (fun n st => ∃ (i : Nat) (acc : List ByteArray), n = p.loops.length - i ∧ i ≤ p.loops.length ∧ st.slots 3 = strs acc ∧ st.slots 4 = .lst false 1 (p.loops.map .str) ∧ st.slots 5 = .int .i64 i ∧ p.regs = (p.loops.drop i).foldl putS acc ∧ acc.length ≤ p.vars.length + i) p.loops.length ⟨0, p.vars, by simp, by simp, by simp, by (simp [strs]), by simp, by simp [Pg.regs_fold], by simp⟩ ?_)
    rintro R n st hR ⟨i, acc, rfl, hi, s3, s4, s5, hr, hal⟩
    (repeat refine AWp.seq ?_); refine AWp.region noP (by kernel_rfl) ?_
    simp [s4, s5]
    (repeat refine AWp.seq ?_); refine AWp.cond (b := decide (i < p.loops.length)) (by simp) (fun hb => ?_) (fun hb => ?_)
    · simp at hb
      have hg : p.loops[i]? = some p.loops[i] := List.getElem?_eq_getElem hb
      have hdr : p.loops.drop i = p.loops[i] :: p.loops.drop (i + 1) := List.drop_eq_getElem_cons hb
      have hx : ∀ m, idxA Tryz.prog m 26 (.lst false 1 (p.loops.map .str)) (.int .i64 i) = some (.ref [.str p.loops[i]]) := fun m => idx (y := .str p.loops[i]) es_26 (by simp [hg])
      have hw : IntKind.wrap .i64 ((i : Int) + 1) = (i + 1 : Nat) := wrap64 (by omega) (by omega)
      rw [hdr, List.foldl_cons] at hr
      have hpl := (putS_len p.loops[i] acc false).1
      refine AWp.skip ?_
      try simp
      (repeat refine AWp.seq ?_); refine AWp.block ?_; (repeat refine AWp.seq ?_); refine AWp.region allP (by kernel_rfl) ?_
      simp [s3, s4, s5, hx]
      refine aop_call' (c_l4Put acc p.loops[i] (by omega)) ?_
      try simp
      (repeat refine AWp.seq ?_); refine AWp.region noP (by kernel_rfl) ?_
      simp [s5, hw]
      exact hR _ (p.loops.length - (i + 1)) (by omega) ⟨i + 1, _, rfl, hb, by simp, by simp [s4], by simp, hr, by unfold putS; omega⟩
    · simp at hb
      refine AWp.exit ?_
      have : i = p.loops.length := by omega
      subst this
      simp at hr
      simp [s3, hr]
  intro st s3
  (repeat refine AWp.seq ?_); refine AWp.region noP (by kernel_rfl) ?_
  simp [s3]
  exact AWp.ret (post_ret1 rfl (by simp))
end Go.T
namespace Go.T
open Go Go.Proofs
set_option maxRecDepth 10000
set_option maxHeartbeats 1000000
set_option linter.unusedSimpArgs false
set_option linter.unusedVariables false
end Go.T
namespace Go.T
open Go Go.Proofs
set_option maxRecDepth 10000
set_option maxHeartbeats 1000000
set_option linter.unusedSimpArgs false
set_option linter.unusedVariables false
section
variable {H : Type} {enc : TypeId × Value → H} {W : World}
theorem o_Exp (fuel : Nat) : Opens enc Tryz.prog W 29 Ex.cells Ex.fit fuel := by
  induction fuel using Nat.strongRecOn with | ind fuel ih =>
  cases fuel with
  | zero => exact opens_zero
  | succ k =>
    have hL : Opens enc Tryz.prog W 27 (fun l : List Ex => [.lst false 4 (l.map Ex.av)]) (fun l => l.length ≤ most ∧ ∀ x ∈ l, x.fit) k := by
      cases k with
      | zero => exact opens_zero
      | succ j => exact opens_slice Tryz.underlying27 (n := 4) (elt := Ex.av) (by kernel_rfl) (by omega) (fun _ => rfl) Ex.cells_len (ih j (by omega))
    exact Opens.map (opens_struct Tryz.underlying29 (N := 4) (by kernel_rfl) (fields_cons (n := 1) rfl (by kernel_rfl) (opens_int Tryz.underlying3 _) (fields_cons (n := 1) rfl (by kernel_rfl) (opens_int Tryz.underlying3 _) (fields_cons (n := 1) rfl (by kernel_rfl) (opens_str Tryz.underlying9 _) (fields_cons (n := 1) rfl (by kernel_rfl) hL (fields_nil rfl))))))
      (fun x => Ex.mk x.1 x.2.1 x.2.2.1 x.2.2.2.1) fun x hx => ⟨(Ex.fit_mk _ _ _ _).2 ⟨hx.2.2.1, hx.2.2.2.1.1, hx.2.2.2.1.2⟩, by rw [Ex.cells_mk]; exact Les.refl _⟩
theorem o_Stmt (fuel : Nat) : Opens enc Tryz.prog W 237 Sm.cells Sm.fit fuel := by
  induction fuel using Nat.strongRecOn with | ind fuel ih =>
  cases fuel with
  | zero => exact opens_zero
  | succ k =>
    have hL : Opens enc Tryz.prog W 23 (fun l : List Sm => [.lst false 19 (l.map Sm.av)]) (fun l => l.length ≤ most ∧ ∀ x ∈ l, x.fit) k := by
      cases k with
      | zero => exact opens_zero
      | succ j => exact opens_slice Tryz.underlying23 (n := 19) (elt := Sm.av) (by kernel_rfl) (by omega) (fun _ => rfl) Sm.cells_len (ih j (by omega))
    exact Opens.map (opens_struct Tryz.underlying237 (N := 19) (by kernel_rfl) (fields_cons (n := 1) rfl (by kernel_rfl) (opens_int Tryz.underlying3 _) (fields_cons (n := 1) rfl (by kernel_rfl) (opens_str Tryz.underlying9 _) (fields_cons (n := 4) rfl (by kernel_rfl) (o_Exp k) (fields_cons (n := 4) rfl (by kernel_rfl) (o_Exp k)
      (fields_cons (n := 4) rfl (by kernel_rfl) (o_Exp k) (fields_cons (n := 4) rfl (by kernel_rfl) (o_Exp k) (fields_cons (n := 1) rfl (by kernel_rfl) hL (fields_nil rfl)))))))))
      (fun x => Sm.mk x.1 x.2.1 x.2.2.1 x.2.2.2.1 x.2.2.2.2.1 x.2.2.2.2.2.1 x.2.2.2.2.2.2.1) fun x hx => ⟨(Sm.fit_mk _ _ _ _ _ _ _).2 ⟨hx.2.1, hx.2.2.1, hx.2.2.2.1, hx.2.2.2.2.1, hx.2.2.2.2.2.1, hx.2.2.2.2.2.2.1.1, hx.2.2.2.2.2.2.1.2⟩, by rw [Sm.cells_mk]; exact Les.refl _⟩
theorem o_Arr (fuel : Nat) : Opens enc Tryz.prog W 234 Ar.cells Ar.fit fuel := by
  cases fuel with
  | zero => exact opens_zero
  | succ k =>
    exact Opens.map (opens_struct Tryz.underlying234 (N := 2) (by kernel_rfl) (fields_cons (n := 1) rfl (by kernel_rfl) (opens_str Tryz.underlying9 _) (fields_cons (n := 1) rfl (by kernel_rfl) (opens_int Tryz.underlying3 _) (fields_nil rfl))))
      (fun x => Ar.mk x.1 x.2.1) fun x hx => ⟨hx.1, Les.refl _⟩
theorem o_ArrS (fuel : Nat) : Opens enc Tryz.prog W 22 (fun l : List Ar => [.lst false 2 (l.map Ar.av)]) (fun l => l.length ≤ most ∧ ∀ x ∈ l, x.fit) fuel := by
  cases fuel with
  | zero => exact opens_zero
  | succ k => exact opens_slice Tryz.underlying22 (n := 2) (elt := Ar.av) (by kernel_rfl) (by omega) (fun _ => rfl) Ar.cells_len (o_Arr k)
theorem o_StmtS (fuel : Nat) : Opens enc Tryz.prog W 23 (fun l : List Sm => [.lst false 19 (l.map Sm.av)]) (fun l => l.length ≤ most ∧ ∀ x ∈ l, x.fit) fuel := by
  cases fuel with
  | zero => exact opens_zero
  | succ k => exact opens_slice Tryz.underlying23 (n := 19) (elt := Sm.av) (by kernel_rfl) (by omega) (fun _ => rfl) Sm.cells_len (o_Stmt k)
theorem o_Prog (fuel : Nat) : Opens enc Tryz.prog W 25 Pg.cells Pg.fit fuel := by
  cases fuel with
  | zero => exact opens_zero
  | succ k =>
    exact Opens.map (opens_struct Tryz.underlying25 (N := 2) (by kernel_rfl) (fields_cons (n := 1) rfl (by kernel_rfl) (o_ArrS k) (fields_cons (n := 1) rfl (by kernel_rfl) (o_StmtS k) (fields_nil rfl))))
      (fun x => Pg.mk x.1 x.2.1) fun x hx => ⟨⟨hx.1.1, hx.1.2, hx.2.1.1, hx.2.1.2⟩, Les.refl _⟩
end
end Go.T
namespace Go.T
open Go Go.Proofs
set_option maxRecDepth 10000
set_option maxHeartbeats 1000000
set_option linter.unusedSimpArgs false
set_option linter.unusedVariables false
end Go.T
namespace Go.T
open Go Go.Proofs
set_option maxRecDepth 10000
set_option maxHeartbeats 1000000
set_option linter.unusedSimpArgs false
set_option linter.unusedVariables false
end Go.T
namespace Go.T
open Go Go.Proofs
set_option maxRecDepth 10000
set_option maxHeartbeats 1000000
set_option linter.unusedSimpArgs false
set_option linter.unusedVariables false
section
variable {H : Type} {enc : TypeId × Value → H} {W : World}
end
end Go.T
namespace Go.T
open Go Go.Proofs
set_option maxRecDepth 10000
set_option maxHeartbeats 1000000
set_option linter.unusedSimpArgs false
set_option linter.unusedVariables false
theorem byte_add (x : Int) (h0 : 0 ≤ x) (h1 : x ≤ 9) : IntKind.wrap .u8 (48 + x) = 48 + x := by
  unfold IntKind.wrap
  simp [IntKind.bits, IntKind.signed]
  omega
theorem bytesOf_one (n : Int) : (bytesOf [n]).size = 1 := rfl
theorem c_markText (k : Int) (h0 : 0 < k) (h1 : k ≤ 4611686018427387904) : PCall Tryz.prog 105 [.int .i64 k] (.str (markT k)) := by
  obtain ⟨n, rfl⟩ := Int.eq_ofNat_of_zero_le (show 0 ≤ k by omega)
  refine pcall_of Tryz.func105 (by kernel_rfl) rfl (by simp [Tryz.f105]) ?_
  (repeat refine AWp.seq ?_); refine AWp.region noP (by kernel_rfl) ?_
  try simp
  (repeat refine AWp.seq ?_); refine AWp.region noP (by kernel_rfl) ?_
  try simp
  (repeat refine AWp.seq ?_); refine AWp.condF (by simp; omega) ?_
  refine AWp.skip ?_
  try simp
  (repeat refine AWp.seq ?_); refine AWp.region noP (by kernel_rfl) ?_
  try simp
  (repeat refine AWp.seq ?_); refine AWp.block (AWp.rounds (fun m st => ∃ (q : Nat) (out : ByteArray), m = q ∧ q + out.size ≤ n ∧ markU n ⟨#[]⟩ = markU q out ∧ st.slots 0 = .int .i64 q ∧ st.slots 3 = .str out) n ⟨n, ⟨#[]⟩, rfl, Nat.le_refl _, rfl, by simp, by simp⟩ ?_)
  rintro R m st hR ⟨q, out, rfl, hq, he, s0, s3⟩
  (repeat refine AWp.seq ?_); refine AWp.region noP (by kernel_rfl) ?_
  simp [s0]
  by_cases hz : m = 0
  · subst hz
    (repeat refine AWp.seq ?_); refine AWp.condF (by simp) ?_
    refine AWp.exit ?_
    try simp
    have hu : markU 0 out = out := by rw [markU, dif_pos rfl]
    rw [hu] at he
    have e2 : markT (n : Int) = ⟨#[109]⟩ ++ out := by unfold markT; rw [Int.toNat_natCast, he]
    (repeat refine AWp.seq ?_); refine AWp.region noP (by kernel_rfl) ?_
    have hadd : strA .add ⟨#[109]⟩ out = some (.str (⟨#[109]⟩ ++ out)) := if_pos (show (⟨#[109]⟩ : ByteArray).size + out.size ≤ 9223372036854775807 by have : (⟨#[109]⟩ : ByteArray).size = 1 := rfl; omega)
    simp [s3, hadd]
    exact AWp.ret (post_ret1 rfl (by simp [e2]))
  · have hm : (m : Int).tmod 10 = (m : Int) % 10 := Int.tmod_eq_emod_of_nonneg (by omega)
    have hd : (m : Int).tdiv 10 = (m : Int) / 10 := Int.tdiv_eq_ediv_of_nonneg (by omega)
    have w1 : IntKind.wrap .i64 (48 + (m : Int) % 10) = 48 + (m : Int) % 10 := wrap64 (by omega) (by omega)
    have w2 := byte_add ((m : Int) % 10) (by omega) (by omega)
    have w3 : IntKind.wrap .i64 ((m : Int) / 10) = (m : Int) / 10 := wrap64 (by omega) (by omega)
    have hs : (bytesOf [48 + (m : Int) % 10]).size + out.size ≤ 9223372036854775807 := by rw [bytesOf_one]; omega
    have e3 : markU m out = markU (m / 10) (bytesOf [48 + (m : Int) % 10] ++ out) := by rw [markU, dif_neg hz]; congr 3
    have hsz : (bytesOf [48 + (m : Int) % 10] ++ out).size = 1 + out.size := by rw [ByteArray.size_append, bytesOf_one]
    rw [e3] at he
    have hadd : strA .add (bytesOf [48 + (m : Int) % 10]) out = some (.str (bytesOf [48 + (m : Int) % 10] ++ out)) := if_pos hs
    generalize hnx : bytesOf [48 + (m : Int) % 10] ++ out = nx at *
    (repeat refine AWp.seq ?_); refine AWp.condT (by simp; omega) ?_
    refine AWp.skip ?_
    try simp
    (repeat refine AWp.seq ?_); refine AWp.block ?_
    (repeat refine AWp.seq ?_); refine AWp.region noP (by kernel_rfl) ?_
    simp [s0, s3, hm, w1, w2, numsA, hadd]
    (repeat refine AWp.seq ?_); refine AWp.region noP (by kernel_rfl) ?_
    simp [s0, hd, w3]
    exact hR _ (m / 10) (by omega) ⟨m / 10, nx, rfl, by omega, he, by simp, by simp⟩
end Go.T
namespace Go.T
open Go Go.Proofs
set_option maxRecDepth 10000
set_option maxHeartbeats 1000000
set_option linter.unusedSimpArgs false
set_option linter.unusedVariables false
def Ex.parts : Ex → List Ex
  | .mk _ _ _ l => l
/-- What marking rows of these comes to. -/
def MkExp (l : List Ex) : Prop := ∀ (m : Mem) (F : Nat → Prop) (v : AV) (f : Bool) (h : OwnT m F v (.lst f 4 (l.map Ex.av))) (k : Int) (h0 : 0 < k) (hb : k + (AV.cnts (l.map Ex.av) : Int) ≤ 4611686018427387904) (K : AV → Mem → Prop)
    (hK : ∀ m' (l' : List Ex), (∀ b, ¬ F b → m' b = m b) → OwnT m' F v (.lst false 4 (l'.map Ex.av)) → Held (l'.map Ex.av) k (k + (AV.cnts (l.map Ex.av) : Int)) → K (.int .i64 (k + (AV.cnts (l.map Ex.av) : Int))) m'), WCall Tryz.prog 106 [v, .int .i64 k] m K
theorem c_markExpS0 (l : List Ex) (hr : ∀ x ∈ l, MkExp x.parts) : MkExp l := by
  intro m F v f h k h0 hb K hK
  refine wcall_of Tryz.func106 (by kernel_rfl) rfl (by simp [Tryz.f106]) ?_
  rcases own_row h with ⟨f', e', rfl, hnil⟩ | ⟨g, n, c, rfl, hn, rfl⟩
  · have hl : l = [] := by simpa using hnil
    subst hl
    (repeat refine AWp.seq ?_); refine AWp.region noP (by kernel_rfl) ?_
    try simp
    (repeat refine AWp.seq ?_); refine AWp.region noP (by kernel_rfl) ?_
    try simp
    (repeat refine AWp.seq ?_); refine AWp.block (AWp.rounds (fun q st => q = 0 ∧ st.slots 0 = .lst f' e' [] ∧ st.slots 1 = .int .i64 k ∧ st.slots 5 = .int .i64 0 ∧ st.mem = m) 0 ⟨rfl, by simp, by simp, by simp, by simp⟩ ?_)
    rintro R q st hR ⟨rfl, s0, s1, s5, sm⟩
    (repeat refine AWp.seq ?_); refine AWp.region noP (by kernel_rfl) ?_
    simp [s0, s5]
    (repeat refine AWp.seq ?_); refine AWp.condF (by simp) ?_
    refine AWp.exit ?_
    try simp
    (repeat refine AWp.seq ?_); refine AWp.region noP (by kernel_rfl) ?_
    simp [s1]
    refine AWp.ret (post_retW rfl ⟨_, _, View.refl _ _, ?_⟩)
    have := hK m [] (fun _ _ => rfl) (.nil _ _ _) (by simpa [AV.cnts] using Held.nil k)
    simpa [AV.cnts, sm] using this
  obtain ⟨T, G, ys, hM, hy, hx⟩ := Marking.start h
  have hlen : l.length = n := by simpa using hx
  have hcl := cnts_len (f := Ex.av) (fun x => by cases x; simp [Ex.av, Ex.cells_mk, AV.cnt, AV.cnts]; try omega) l
  (repeat refine AWp.seq ?_); refine AWp.region noP (by kernel_rfl) ?_
  try simp
  (repeat refine AWp.seq ?_); refine AWp.region noP (by kernel_rfl) ?_
  try simp
  (repeat refine AWp.seq ?_); refine AWp.block (AWp.rounds (fun q st => ∃ (i : Nat) (ys : List AV) (ki : Int) (done : List Ex), q = n - i ∧ i ≤ n ∧ done.length = i ∧ ys.length = n ∧ st.slots 0 = .own g n c ∧ st.slots 1 = .int .i64 ki ∧ st.slots 5 = .int .i64 i ∧ Held (done.map Ex.av) k ki ∧ k ≤ ki ∧ ki + (AV.cnts ((l.drop i).map Ex.av) : Int) = k + (AV.cnts (l.map Ex.av) : Int) ∧ Marking st.mem m F g T 4 c G ys ((done ++ l.drop i).map Ex.av)) n ⟨0, ys, k, [], by simp, by simp, rfl, hy, by simp, by simp, by simp, .nil k, by omega, by simp, by simpa using hM⟩ ?_)
  clear hM hy ys
  rintro R q st hR ⟨i, ys, ki, done, rfl, hi, hdl, hy, s0, s1, s5, hH, hki, hcnt, hM⟩
  (repeat refine AWp.seq ?_); refine AWp.region noP (by kernel_rfl) ?_
  simp [s0, s5]
  (repeat refine AWp.seq ?_); refine AWp.cond (b := decide (i < n)) (by simp) (fun hlt => ?_) (fun hlt => ?_)
  rotate_left
  · simp at hlt
    have hin : i = n := by omega
    subst hin
    refine AWp.exit ?_
    try simp
    (repeat refine AWp.seq ?_); refine AWp.region noP (by kernel_rfl) ?_
    simp [s1]
    rw [List.drop_eq_nil_of_le (by omega)] at hcnt hM
    rw [List.append_nil] at hM
    have hke : ki = k + (AV.cnts (l.map Ex.av) : Int) := by simpa [AV.cnts] using hcnt
    subst hke
    refine AWp.ret (post_retW rfl ⟨_, _, View.refl _ _, ?_⟩)
    simp
    exact hK _ done hM.out (hM.done hy) hH
  simp at hlt
  have hil : i < l.length := by omega
  have hdr : l.drop i = l[i] :: l.drop (i + 1) := List.drop_eq_getElem_cons hil
  have hmem := List.getElem_mem hil
  have hwi : IntKind.wrap .i64 ((i : Int) + 1) = (i + 1 : Nat) := wrap64 (by omega) (by omega)
  rw [hdr] at hcnt hM
  rcases hx0 : l[i] with ⟨b0, b1, b2, b3⟩
  rw [hx0] at hcnt hM hmem
  have hat := at_done Ex.av done (Ex.mk b0 b1 b2 b3) (l.drop (i + 1)) hdl
  obtain ⟨B, cs0, hok, hal, I, hback⟩ := hM.into (i := i) (by omega) (cs := [.int .i64 b0, .int .i64 b1, .str b2, .lst false 4 (b3.map Ex.av)]) (by rw [hat]; simp [Ex.av, Ex.cells_mk])
  obtain ⟨a0, a1, a2, a3, rfl⟩ : ∃ a0 a1 a2 a3, cs0 = [a0, a1, a2, a3] := by
    match cs0, hal with
    | [a0, a1, a2, a3], _ => exact ⟨_, _, _, _, rfl⟩
  simp only [List.map_cons, AV.cnts, Ex.av, Ex.cells_mk, AV.cnt, List.cons_append, List.nil_append] at hcnt
  simp only [List.all_cons, List.all_nil, Bool.and_eq_true, Bool.and_true] at hok
  refine AWp.skip ?_
  try simp
  (repeat refine AWp.seq ?_); refine AWp.block ?_
  have hg := I.row
  have hx : idxA Tryz.prog st.mem 41 (.own g n c) (.int .i64 i) = some (.elt g 4 i 0) := idx_own es_41 hg (by simp [hy]) hlt
  have I2 := I.leaf 0 (x := .int .i64 (ki)) (own_int _ _)
  have hst := I.store (by omega) rfl 0 (by omega) (by omega) (x := .int .i64 (ki)) rfl
  simp only [List.set_cons_zero, List.set_cons_succ] at I2 hst
  (repeat refine AWp.seq ?_); refine AWp.cutA (fun u => u.slots 0 = .own g n c ∧ u.slots 1 = .int .i64 (ki) ∧ u.slots 5 = .int .i64 i ∧ InRow u.mem st.mem g T 4 c i ys B [.int .i64 (ki), a1, a2, a3] [.int .i64 (ki), .int .i64 b1, .str b2, .lst false 4 (b3.map Ex.av)]) ?_ ?_
  · refine AWp.region noP (by kernel_rfl) ?_
    simp [s0, s1, s5, hx, hst]
    exact I2
  clear hg hx hst I2 I
  rintro u0 ⟨s0, s1, s5, I⟩
  have hw : IntKind.wrap .i64 (ki + 1) = ki + 1 := wrap64 (by omega) (by omega)
  (repeat refine AWp.seq ?_); refine AWp.region noP (by kernel_rfl) ?_
  simp [s1, hw]
  clear hw
  have hg := I.row
  have hx : idxA Tryz.prog u0.mem 41 (.own g n c) (.int .i64 i) = some (.elt g 4 i 0) := idx_own es_41 hg (by simp [hy]) hlt
  have I2 := I.leaf 1 (x := .int .i64 (ki + 1)) (own_int _ _)
  have hst := I.store (by omega) rfl 1 (by omega) (by omega) (x := .int .i64 (ki + 1)) rfl
  simp only [List.set_cons_zero, List.set_cons_succ] at I2 hst
  (repeat refine AWp.seq ?_); refine AWp.cutA (fun u => u.slots 0 = .own g n c ∧ u.slots 1 = .int .i64 (ki + 1) ∧ u.slots 5 = .int .i64 i ∧ InRow u.mem st.mem g T 4 c i ys B [.int .i64 (ki), .int .i64 (ki + 1), a2, a3] [.int .i64 (ki), .int .i64 (ki + 1), .str b2, .lst false 4 (b3.map Ex.av)]) ?_ ?_
  · refine AWp.region noP (by kernel_rfl) ?_
    simp [s0, s1, s5, hx, hst]
    exact I2
  clear hg hx hst I2 I
  rintro u1 ⟨s0, s1, s5, I⟩
  have hw : IntKind.wrap .i64 (ki + 1 + 1) = ki + 1 + 1 := wrap64 (by omega) (by omega)
  (repeat refine AWp.seq ?_); refine AWp.region noP (by kernel_rfl) ?_
  simp [s1, hw]
  clear hw
  have hg := I.row
  have hx : idxA Tryz.prog u1.mem 41 (.own g n c) (.int .i64 i) = some (.elt g 4 i 0) := idx_own es_41 hg (by simp [hy]) hlt
  have I2 := I.leaf 2 (x := .str (markT (ki + 1 + 1))) (own_str _)
  have hst := I.store (by omega) rfl 2 (by omega) (by omega) (x := .str (markT (ki + 1 + 1))) rfl
  simp only [List.set_cons_zero, List.set_cons_succ] at I2 hst
  (repeat refine AWp.seq ?_); refine AWp.cutA (fun u => u.slots 0 = .own g n c ∧ u.slots 1 = .int .i64 (ki + 1 + 1) ∧ u.slots 5 = .int .i64 i ∧ InRow u.mem st.mem g T 4 c i ys B [.int .i64 (ki), .int .i64 (ki + 1), .str (markT (ki + 1 + 1)), a3] [.int .i64 (ki), .int .i64 (ki + 1), .str (markT (ki + 1 + 1)), .lst false 4 (b3.map Ex.av)]) ?_ ?_
  · refine AWp.region noP (by kernel_rfl) ?_
    simp [s0, s1, s5, hx, hst]
    refine aop_call' (c_markText (ki + 1 + 1) (by omega) (by omega)) ?_
    simp [s0, s1, s5, hx, hst]
    exact I2
  clear hg hx hst I2 I
  rintro u2 ⟨s0, s1, s5, I⟩
  have hw : IntKind.wrap .i64 (ki + 1 + 1 + 1) = ki + 1 + 1 + 1 := wrap64 (by omega) (by omega)
  (repeat refine AWp.seq ?_); refine AWp.region noP (by kernel_rfl) ?_
  simp [s1, hw]
  clear hw
  have hg := I.row
  have hx : idxA Tryz.prog u2.mem 41 (.own g n c) (.int .i64 i) = some (.elt g 4 i 0) := idx_own es_41 hg (by simp [hy]) hlt
  obtain ⟨A, x, hxo, hown, hupd⟩ := I.call (o := 3) (by simp)
  obtain rfl : .lst false 4 (b3.map Ex.av) = x := Option.some.inj hxo
  simp only [List.getElem_cons_succ, List.getElem_cons_zero] at hown hupd
  (repeat refine AWp.seq ?_); refine AWp.region noP (by kernel_rfl) ?_
  simp [s0, s1, s5, hx, hg, hy, hlt]
  refine aop_wcall _ _ _ _ _ _ _ _ rfl (eval_func _ _) ?_
  refine (show MkExp b3 from hr _ hmem) _ _ _ _ hown (ki + 1 + 1 + 1) (by omega) (by omega) _ fun m' l3 hout ho hh3 => ?_
  simp [s0, s1, s5]
  have I2 := hupd m' _ hout ho
  simp only [List.set_cons_zero, List.set_cons_succ] at I2
  clear hg hx I hupd hown hxo
  have I := I2
  have hnew : Ex.av (Ex.mk (ki) (ki + 1) (markT (ki + 1 + 1)) l3) = .agg [.int .i64 (ki), .int .i64 (ki + 1), .str (markT (ki + 1 + 1)), .lst false 4 (l3.map Ex.av)] := by simp [Ex.av, Ex.cells_mk]
  have hM2 := hback m' [.int .i64 (ki), .int .i64 (ki + 1), .str (markT (ki + 1 + 1)), a3] [.int .i64 (ki), .int .i64 (ki + 1), .str (markT (ki + 1 + 1)), .lst false 4 (l3.map Ex.av)] I (by simp [hok])
  rw [← hnew, set_done Ex.av done _ _ _ hdl] at hM2
  (repeat refine AWp.seq ?_); refine AWp.region noP (by kernel_rfl) ?_
  simp [s0, s1, s5, hwi]
  refine hR _ (n - (i + 1)) (by omega) ⟨i + 1, _, ki + 1 + 1 + 1 + (AV.cnts (b3.map Ex.av) : Int), done ++ [(Ex.mk (ki) (ki + 1) (markT (ki + 1 + 1)) l3)], rfl, by omega, by simp [hdl], ?_, by simp [s0, s1, s5], by simp [s0, s1, s5], by simp, ?_, by omega, by omega, by simpa using hM2⟩
  · simp [hy]
  · rw [List.map_append, List.map_cons, hnew]
    exact hH.append (.agg (.int (.int (.str (.lst hh3 (.nil _))))) (.nil _))
theorem mk_exp (e : Ex) : MkExp e.parts := by
  induction e using Ex.ind with | h k n s l h => exact c_markExpS0 l h
theorem c_markExpS (l : List Ex) : MkExp l := mk_exp (Ex.mk 0 0 ⟨#[]⟩ l)
/-- What marking rows of these comes to. -/
def MkArr (l : List Ar) : Prop := ∀ (m : Mem) (F : Nat → Prop) (v : AV) (f : Bool) (h : OwnT m F v (.lst f 2 (l.map Ar.av))) (k : Int) (h0 : 0 < k) (hb : k + (AV.cnts (l.map Ar.av) : Int) ≤ 4611686018427387904) (K : AV → Mem → Prop)
    (hK : ∀ m' (l' : List Ar), (∀ b, ¬ F b → m' b = m b) → OwnT m' F v (.lst false 2 (l'.map Ar.av)) → Held (l'.map Ar.av) k (k + (AV.cnts (l.map Ar.av) : Int)) → K (.int .i64 (k + (AV.cnts (l.map Ar.av) : Int))) m'), WCall Tryz.prog 103 [v, .int .i64 k] m K
theorem c_markArrS0 (l : List Ar) : MkArr l := by
  intro m F v f h k h0 hb K hK
  refine wcall_of Tryz.func103 (by kernel_rfl) rfl (by simp [Tryz.f103]) ?_
  rcases own_row h with ⟨f', e', rfl, hnil⟩ | ⟨g, n, c, rfl, hn, rfl⟩
  · have hl : l = [] := by simpa using hnil
    subst hl
    (repeat refine AWp.seq ?_); refine AWp.region noP (by kernel_rfl) ?_
    try simp
    (repeat refine AWp.seq ?_); refine AWp.region noP (by kernel_rfl) ?_
    try simp
    (repeat refine AWp.seq ?_); refine AWp.block (AWp.rounds (fun q st => q = 0 ∧ st.slots 0 = .lst f' e' [] ∧ st.slots 1 = .int .i64 k ∧ st.slots 5 = .int .i64 0 ∧ st.mem = m) 0 ⟨rfl, by simp, by simp, by simp, by simp⟩ ?_)
    rintro R q st hR ⟨rfl, s0, s1, s5, sm⟩
    (repeat refine AWp.seq ?_); refine AWp.region noP (by kernel_rfl) ?_
    simp [s0, s5]
    (repeat refine AWp.seq ?_); refine AWp.condF (by simp) ?_
    refine AWp.exit ?_
    try simp
    (repeat refine AWp.seq ?_); refine AWp.region noP (by kernel_rfl) ?_
    simp [s1]
    refine AWp.ret (post_retW rfl ⟨_, _, View.refl _ _, ?_⟩)
    have := hK m [] (fun _ _ => rfl) (.nil _ _ _) (by simpa [AV.cnts] using Held.nil k)
    simpa [AV.cnts, sm] using this
  obtain ⟨T, G, ys, hM, hy, hx⟩ := Marking.start h
  have hlen : l.length = n := by simpa using hx
  have hcl := cnts_len (f := Ar.av) (fun x => by simp [Ar.av, Ar.cells, AV.cnt, AV.cnts]) l
  (repeat refine AWp.seq ?_); refine AWp.region noP (by kernel_rfl) ?_
  try simp
  (repeat refine AWp.seq ?_); refine AWp.region noP (by kernel_rfl) ?_
  try simp
  (repeat refine AWp.seq ?_); refine AWp.block (AWp.rounds (fun q st => ∃ (i : Nat) (ys : List AV) (ki : Int) (done : List Ar), q = n - i ∧ i ≤ n ∧ done.length = i ∧ ys.length = n ∧ st.slots 0 = .own g n c ∧ st.slots 1 = .int .i64 ki ∧ st.slots 5 = .int .i64 i ∧ Held (done.map Ar.av) k ki ∧ k ≤ ki ∧ ki + (AV.cnts ((l.drop i).map Ar.av) : Int) = k + (AV.cnts (l.map Ar.av) : Int) ∧ Marking st.mem m F g T 2 c G ys ((done ++ l.drop i).map Ar.av)) n ⟨0, ys, k, [], by simp, by simp, rfl, hy, by simp, by simp, by simp, .nil k, by omega, by simp, by simpa using hM⟩ ?_)
  clear hM hy ys
  rintro R q st hR ⟨i, ys, ki, done, rfl, hi, hdl, hy, s0, s1, s5, hH, hki, hcnt, hM⟩
  (repeat refine AWp.seq ?_); refine AWp.region noP (by kernel_rfl) ?_
  simp [s0, s5]
  (repeat refine AWp.seq ?_); refine AWp.cond (b := decide (i < n)) (by simp) (fun hlt => ?_) (fun hlt => ?_)
  rotate_left
  · simp at hlt
    have hin : i = n := by omega
    subst hin
    refine AWp.exit ?_
    try simp
    (repeat refine AWp.seq ?_); refine AWp.region noP (by kernel_rfl) ?_
    simp [s1]
    rw [List.drop_eq_nil_of_le (by omega)] at hcnt hM
    rw [List.append_nil] at hM
    have hke : ki = k + (AV.cnts (l.map Ar.av) : Int) := by simpa [AV.cnts] using hcnt
    subst hke
    refine AWp.ret (post_retW rfl ⟨_, _, View.refl _ _, ?_⟩)
    simp
    exact hK _ done hM.out (hM.done hy) hH
  simp at hlt
  have hil : i < l.length := by omega
  have hdr : l.drop i = l[i] :: l.drop (i + 1) := List.drop_eq_getElem_cons hil
  have hmem := List.getElem_mem hil
  have hwi : IntKind.wrap .i64 ((i : Int) + 1) = (i + 1 : Nat) := wrap64 (by omega) (by omega)
  rw [hdr] at hcnt hM
  rcases hx0 : l[i] with ⟨b0, b1⟩
  rw [hx0] at hcnt hM hmem
  have hat := at_done Ar.av done (Ar.mk b0 b1) (l.drop (i + 1)) hdl
  obtain ⟨B, cs0, hok, hal, I, hback⟩ := hM.into (i := i) (by omega) (cs := [.str b0, .int .i64 b1]) (by rw [hat]; simp [Ar.av, Ar.cells])
  obtain ⟨a0, a1, rfl⟩ : ∃ a0 a1, cs0 = [a0, a1] := by
    match cs0, hal with
    | [a0, a1], _ => exact ⟨_, _, rfl⟩
  simp only [List.map_cons, AV.cnts, Ar.av, Ar.cells, AV.cnt, List.cons_append, List.nil_append] at hcnt
  simp only [List.all_cons, List.all_nil, Bool.and_eq_true, Bool.and_true] at hok
  refine AWp.skip ?_
  try simp
  (repeat refine AWp.seq ?_); refine AWp.block ?_
  have hg := I.row
  have hx : idxA Tryz.prog st.mem 35 (.own g n c) (.int .i64 i) = some (.elt g 2 i 0) := idx_own es_35 hg (by simp [hy]) hlt
  have I2 := I.leaf 0 (x := .str (markT (ki))) (own_str _)
  have hst := I.store (by omega) rfl 0 (by omega) (by omega) (x := .str (markT (ki))) rfl
  simp only [List.set_cons_zero, List.set_cons_succ] at I2 hst
  (repeat refine AWp.seq ?_); refine AWp.cutA (fun u => u.slots 0 = .own g n c ∧ u.slots 1 = .int .i64 (ki) ∧ u.slots 5 = .int .i64 i ∧ InRow u.mem st.mem g T 2 c i ys B [.str (markT (ki)), a1] [.str (markT (ki)), .int .i64 b1]) ?_ ?_
  · refine AWp.region noP (by kernel_rfl) ?_
    simp [s0, s1, s5, hx, hst]
    refine aop_call' (c_markText (ki) (by omega) (by omega)) ?_
    simp [s0, s1, s5, hx, hst]
    exact I2
  clear hg hx hst I2 I
  rintro u0 ⟨s0, s1, s5, I⟩
  have hw : IntKind.wrap .i64 (ki + 1) = ki + 1 := wrap64 (by omega) (by omega)
  (repeat refine AWp.seq ?_); refine AWp.region noP (by kernel_rfl) ?_
  simp [s1, hw]
  clear hw
  have hg := I.row
  have hx : idxA Tryz.prog u0.mem 35 (.own g n c) (.int .i64 i) = some (.elt g 2 i 0) := idx_own es_35 hg (by simp [hy]) hlt
  have I2 := I.leaf 1 (x := .int .i64 (ki + 1)) (own_int _ _)
  have hst := I.store (by omega) rfl 1 (by omega) (by omega) (x := .int .i64 (ki + 1)) rfl
  simp only [List.set_cons_zero, List.set_cons_succ] at I2 hst
  (repeat refine AWp.seq ?_); refine AWp.cutA (fun u => u.slots 0 = .own g n c ∧ u.slots 1 = .int .i64 (ki + 1) ∧ u.slots 5 = .int .i64 i ∧ InRow u.mem st.mem g T 2 c i ys B [.str (markT (ki)), .int .i64 (ki + 1)] [.str (markT (ki)), .int .i64 (ki + 1)]) ?_ ?_
  · refine AWp.region noP (by kernel_rfl) ?_
    simp [s0, s1, s5, hx, hst]
    exact I2
  clear hg hx hst I2 I
  rintro u1 ⟨s0, s1, s5, I⟩
  have hw : IntKind.wrap .i64 (ki + 1 + 1) = ki + 1 + 1 := wrap64 (by omega) (by omega)
  (repeat refine AWp.seq ?_); refine AWp.region noP (by kernel_rfl) ?_
  simp [s1, hw]
  clear hw
  have hnew : Ar.av (Ar.mk (markT (ki)) (ki + 1)) = .agg [.str (markT (ki)), .int .i64 (ki + 1)] := by simp [Ar.av, Ar.cells]
  have hM2 := hback u1.mem [.str (markT (ki)), .int .i64 (ki + 1)] [.str (markT (ki)), .int .i64 (ki + 1)] I (by simp [hok])
  rw [← hnew, set_done Ar.av done _ _ _ hdl] at hM2
  (repeat refine AWp.seq ?_); refine AWp.region noP (by kernel_rfl) ?_
  simp [s0, s1, s5, hwi]
  refine hR _ (n - (i + 1)) (by omega) ⟨i + 1, _, ki + 1 + 1, done ++ [(Ar.mk (markT (ki)) (ki + 1))], rfl, by omega, by simp [hdl], ?_, by simp [s0, s1, s5], by simp [s0, s1, s5], by simp, ?_, by omega, by omega, by simpa using hM2⟩
  · simp [hy]
  · rw [List.map_append, List.map_cons, hnew]
    exact hH.append (.agg (.str (.int (.nil _))) (.nil _))
end Go.T
