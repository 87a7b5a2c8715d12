/- A list of names cloned; where an array is; are all of these arrays, is any: what the program computes. Programs that are right: what the program computes. Programs that are right: what the program computes, whole. Where all of a program stands: what the program and the reference compute. Bases, words, flags, slots, bars, registers: what the program and the reference compute. The program's runner: what names have, where words stand. The cursor over a draw's bytes: what its functions may answer. Numbers that go round: what the program and the reference compute; the law's function. The program's runner: its state; what names have, where words stand. The program's runner: places, sums, fuel. The program's runner: what an expression is. -/
import Derived.Test.YtfikgphnjndgdaaGreatG10
import Derived.Ground.Names2Prog
import Derived.Shelf.Slices.Clone
import Derived.Test.YtfikgphnjndgdaaGreatG3
import Derived.Test.YtfikgphnjndgdaaGreatG4
import Derived.Test.YtfikgphnjndgdaaGreatG5
import Derived.Test.YtfikgphnjndgdaaGreatG6
namespace Go.Proofs
open Go.Shelf
shelf_lay Lays2.n16 Nm2 16 at Tryz as Tryz.laysClone -- 421
end Go.Proofs
namespace Go.T
open Go Go.Proofs Go.RowKit
set_option maxRecDepth 10000
set_option maxHeartbeats 1000000
set_option linter.unusedSimpArgs false
set_option linter.unusedVariables false
theorem flat_strs : ∀ ns : List ByteArray, flat (ns.map AV.str) = ns.map AV.str
  | [] => rfl
  | n :: ns => by have := flat_strs ns; simp only [flat, List.map_cons, List.flatMap_cons] at this ⊢; rw [this]; rfl
theorem hb_Clone : HasBody Tryz.prog 421 := ⟨_, Tryz.func421, by kernel_rfl, rfl⟩
theorem memRep_grown {w w' : World} {S : Nat → Prop} {m : Mem} (hm : MemRep w S m) (hbel : Below w.heap.size w w') {g c : Nat} {T : TypeId} {xs : List ByteArray} {us : List Value} (hg : w.heap.size ≤ g) (hh : w'.heap[g]? = some (.cells (xs.map Value.string ++ us).toArray T (0, 0))) (hl : (xs.map Value.string ++ us).length = c * 1) (hle : xs.length ≤ c) :
    MemRep w' S (m.set g (.arr T 1 c (xs.map .str))) ∧ m g = none ∧ Keep (fun _ => False) w w' := by
  have hfree : m g = none := by
    cases hq : m g with
    | none => rfl
    | some b => have := (hm.blk _ b hq).lt; omega
  have hk : Keep (fun _ => False) w w' := ⟨hbel.os, hbel.tape, hbel.output, hbel.size, fun b hb _ => hbel.block b hb⟩
  have hst : Stays S w w' := fun b hb => hbel.block b (hm.apart b hb).2
  refine ⟨⟨fun g' b hb => ?_, fun b hb => ⟨?_, ?_⟩⟩, hfree, hk⟩
  · rw [set_at] at hb
    by_cases e : g' = g
    · subst e
      rw [if_pos rfl] at hb
      obtain rfl := Option.some.inj hb
      exact ⟨_, us, hh, strs_reps _ _ xs, hl, fun x hx => by obtain ⟨y, _, rfl⟩ := List.mem_map.1 hx; rfl, by simpa using hle⟩
    · rw [if_neg e] at hb
      exact (hm.blk g' b hb).mono hst (fun _ h => h) (hbel.block g' (hm.blk g' b hb).lt)
  · have := hm.apart b hb
    rw [set_at, if_neg (by omega)]
    exact this.1
  · exact Nat.lt_of_lt_of_le (hm.apart b hb).2 hbel.size
theorem c_Clone (ns : List ByteArray) (hb : ns.length ≤ 8388608) {m : Mem} {K : AV → Mem → Prop} (hK : ∀ v m', GO m ns v m' → K v m') : WCall Tryz.prog 421 [strs ns] m K := by
  refine ⟨hb_Clone, fun w S cargs hm hargs => ?_⟩
  cases hargs with | @cons _ v _ vs hv ht =>
  cases ht
  have fin : ∀ (n : Nat) (e : Ending) (w' : World), n = ns.length → (∃ v', e = .returned v' ∧ w'.ownsRow w.heap.size 9 1 v' n (ns.map Value.string) ∧ v' ≠ .slice none 0 0 ∧ Below w.heap.size w w') → ∃ v r m' S', e = .returned v ∧ K r m' ∧ (∀ b, S b → S' b) ∧ (∀ b, S' b → S b ∨ m b ≠ none ∨ w.heap.size ≤ b) ∧ MemRep w' S' m' ∧ Rep w' S' r v ∧ Keep (fun g => m g ≠ none) w w' ∧ (∀ g b, m' g = some b → m g ≠ none ∨ w.heap.size ≤ g) := by
    rintro n e w' rfl ⟨v', he, ⟨hl, ho⟩, hne, hbel⟩
    rcases ho with ⟨h0, _⟩ | ⟨g, cap, cur, rfl, hg, hh, hnc, _, hsz, htk⟩
    · exact absurd h0 hne
    rw [Nat.mul_one] at htk hsz
    have hcur : cur = (ns.map Value.string ++ cur.toList.drop ns.length).toArray := by
      rw [← htk, List.take_append_drop, Array.toArray_toList]
    rw [hcur] at hh
    obtain ⟨h1, h2, h3⟩ := memRep_grown (c := cap) hm hbel hg hh (by simp; omega) hnc
    refine ⟨_, _, _, S, he, hK (.own g ns.length cap) _ ⟨(Ext.refl m).set h2 _, .inr ⟨g, cap, rfl, set_same _ _ _, h2⟩⟩, fun _ h => h, fun _ h => .inl h, h1, .own g _ cap, h3.mono (fun _ h => h.elim), fun g' b hb' => ?_⟩
    rw [set_at] at hb'
    by_cases e : g' = g
    · exact .inr (by omega)
    · rw [if_neg e] at hb'; exact .inl (by rw [hb']; simp)
  unfold strs at hv
  generalize hxs : ns.map AV.str = xs at hv
  cases hv with
  | lnil _ _ A c hc =>
    have hns : ns = [] := by simpa using hxs
    subst hns
    cases A with
    | none =>
      refine calls_mono (Any.slices_Clone_string_nil Tryz.laysClone 0 c w) ?_
      rintro e w' ⟨rfl, rfl⟩
      exact ⟨_, _, _, S, rfl, hK (.lst true 0 []) m ⟨Ext.refl m, .inl ⟨rfl, 0, rfl⟩⟩, fun _ h => h, fun _ h => .inl h, hm, .lnil _ _ none 0 (fun _ => rfl), Keep.refl _ _, fun g b hb' => .inl (by rw [hb']; simp)⟩
    | some a => exact calls_mono (Any.slices_Clone_string_zero Tryz.laysClone a c w) fun e w' h => fin 0 e w' rfl h
  | lst _ _ b o c h1 h2 h3 h4 h5 =>
    subst hxs
    have hcell : ∀ j, j < ns.length → w.cell? ⟨b, o + j, none⟩ = some (.string (ns.getD j ByteArray.empty)) := by
      intro j hj
      rw [flat_strs] at h5
      obtain ⟨v, hv, hr⟩ := h5.get j (.str ns[j]) (by simp [hj])
      cases hr
      rw [hv, List.getD_eq_getElem?_getD, List.getElem?_eq_getElem hj]
      rfl
    have h := Any.slices_Clone_string Tryz.laysClone b o ns.length c ns w (Nat.le_refl _) (by omega) hcell
    rw [List.take_length] at h
    have h2 : Calls Tryz.prog 421 #[.slice (some ⟨b, o, none⟩) ns.length c] w _ := h
    rw [List.length_map]
    exact calls_mono h2 fun e w' h => fin ns.length e w' rfl h
theorem c_ArrAt1 (a : Ar) (s : ByteArray) {m : Mem} {gn : Nat} {K : AV → Mem → Prop} (hm : m gn = some (.box [.str s])) (hK : ∀ m', Ext m m' → K (.bool (decide (a.s = s))) m') : WCall Tryz.prog 249 [a.av, .ptr gn 0] m K := by
  refine wcall_of Tryz.func249 (by kernel_rfl) rfl (by simp [Tryz.f249]) ?_
  unfold Ar.av Ar.cells
  (repeat refine AWp.seq ?_); refine AWp.region noP (by kernel_rfl) ?_
  try simp
  intro g hg
  have hgg : (m.set g (.box [.str a.s, .int .i64 a.n])) g = some (.box [.str a.s, .int .i64 a.n]) := set_same _ _ _
  have hE := (Ext.refl m).set hg (.box [.str a.s, .int .i64 a.n])
  have hgn := hE gn _ hm
  generalize m.set g (.box [.str a.s, .int .i64 a.n]) = m1 at *
  (repeat refine AWp.seq ?_); refine AWp.region noP (by kernel_rfl) ?_
  simp [hgg, hgn]
  exact AWp.ret (post_retW rfl ⟨_, _, View.refl _ _, hK _ hE⟩)
theorem c_IndexFunc (A : List Ar) (s : ByteArray) (hl : A.length ≤ 1048576) {m : Mem} {gn : Nat} {K : AV → Mem → Prop} (hm : m gn = some (.box [.str s])) (hK : ∀ m', Ext m m' → K (.int .i64 (at_ (A.map Ar.s) s)) m') :
    WCall Tryz.prog 248 [.lst false 2 (A.map Ar.av), .func (.func 249) [.ptr gn 0]] m K := by
  refine wcall_of Tryz.func248 (by kernel_rfl) rfl (by simp [Tryz.f248]) ?_
  (repeat refine AWp.seq ?_); refine AWp.region noP (by kernel_rfl) ?_
  try simp
  (repeat refine AWp.seq ?_); refine AWp.region noP (by kernel_rfl) ?_
  try simp
  (repeat refine AWp.seq ?_); refine AWp.block (AWp.rounds (fun k st => ∃ (i : Nat), k = A.length - i ∧ i ≤ A.length ∧ st.slots 0 = .lst false 2 (A.map Ar.av) ∧ st.slots 1 = .func (.func 249) [.ptr gn 0] ∧ st.slots 7 = .int .i64 A.length ∧ st.slots 8 = .int .i64 i ∧ Ext m st.mem ∧ at_ (A.map Ar.s) s = idxAt i ((A.map Ar.s).drop i) s) A.length ⟨0, by simp, by simp, by simp, by simp, by simp, by simp, by simpa using Ext.refl m, by simp [at_]⟩ ?_)
  rintro R k st hR ⟨i, rfl, hi, s0, s1, s7, s8, hE, hr⟩
  (repeat refine AWp.seq ?_); refine AWp.region noP (by kernel_rfl) ?_
  simp [s7, s8]
  (repeat refine AWp.seq ?_); refine AWp.cond (b := decide (i < A.length)) (by simp) (fun hb => ?_) (fun hb => ?_)
  · simp at hb
    have hg : A[i]? = some A[i] := List.getElem?_eq_getElem hb
    have hdr : (A.map Ar.s).drop i = A[i].s :: (A.map Ar.s).drop (i + 1) := by
      rw [List.drop_eq_getElem_cons (by simpa using hb)]; simp
    have hz : at_ (A.map Ar.s) s = if A[i].s = s then (i : Int) else idxAt (i + 1) ((A.map Ar.s).drop (i + 1)) s := by rw [hr, hdr, idxAt]
    have hx : ∀ m, idxA Tryz.prog m 35 (.lst false 2 (A.map Ar.av)) (.int .i64 i) = some (.ref A[i].cells) := fun m => idx (y := A[i].av) es_35 (by simp [hg])
    have hw : IntKind.wrap .i64 ((i : Int) + 1) = (i + 1 : Nat) := wrap64 (by omega) (by omega)
    refine AWp.skip ?_
    try simp
    (repeat refine AWp.seq ?_); refine AWp.block ?_; (repeat refine AWp.seq ?_); refine AWp.region noP (by kernel_rfl) ?_
    simp [s8]
    (repeat refine AWp.seq ?_); refine AWp.region noP (by kernel_rfl) ?_
    simp [s0, s1, hx]
    refine aop_wcall _ _ _ _ _ _ _ _ rfl (n := 249) (caps := [.ptr gn 0]) (by simp [s1]) ?_
    try simp [s0, s1, hx]
    refine c_ArrAt1 A[i] s (hE gn _ hm) fun m' hE' => ?_
    try simp
    (repeat refine AWp.seq ?_); refine AWp.cond (b := decide (A[i].s = s)) (by simp) (fun he => ?_) (fun he => ?_)
    · simp at he
      (repeat refine AWp.seq ?_); refine AWp.region noP (by kernel_rfl) ?_
      try simp
      refine AWp.ret (post_retW rfl ⟨_, _, View.refl _ _, ?_⟩)
      try simp
      have := hK m' (fun g b h => hE' g b (hE g b h))
      rw [hz, if_pos he] at this
      exact this
    · simp at he
      refine AWp.skip ?_
      try simp
      (repeat refine AWp.seq ?_); refine AWp.region noP (by kernel_rfl) ?_
      simp [s8, hw]
      exact hR _ (A.length - (i + 1)) (by omega) ⟨i + 1, rfl, hb, by simp [s0], by simp [s1], by simp [s7], by simp, (fun g b h => hE' g b (hE g b h)), by rw [hz, if_neg he]⟩
  · simp at hb
    refine AWp.exit ?_
    try simp
    (repeat refine AWp.seq ?_); refine AWp.region noP (by kernel_rfl) ?_
    try simp
    have : i = A.length := by omega
    subst this
    rw [List.drop_eq_nil_of_le (by simp), idxAt] at hr
    refine AWp.ret (post_retW rfl ⟨_, _, View.refl _ _, ?_⟩)
    try simp
    have := hK st.mem hE
    rw [hr] at this
    exact this
theorem c_impl_ArrAt (p : Pg) (s : ByteArray) (ht : p.arrs.length ≤ 1048576) : PCall Tryz.prog 143 [p.av, .str s] (.int .i64 (at_ p.arrNames s)) := by
  refine pcall_of Tryz.func143 (by kernel_rfl) rfl (by simp [Tryz.f143]) ?_
  have hc : p.cells = [.lst false 2 (p.arrs.map Ar.av), .lst false 19 (p.body.map Sm.av)] := rfl
  unfold Pg.av
  rw [hc]
  (repeat refine AWp.seq ?_); refine AWp.region noP (by kernel_rfl) ?_
  try simp
  intro g1 g2 h2
  have hne : g2 ≠ g1 := by rintro rfl; simp [set_at] at h2
  (repeat refine AWp.seq ?_); refine AWp.region noP (by kernel_rfl) ?_
  simp [set_at, hne, hne.symm]
  refine aop_wcall _ _ _ _ _ _ _ _ rfl (eval_func _ _) ?_
  refine c_IndexFunc p.arrs s ht (by simp [set_at]) fun m' hE => ?_
  try simp
  exact AWp.ret (post_ret1 rfl (by simp [Pg.arrNames]))
theorem c_areArrs (p : Pg) (l : List ByteArray) (ht : p.arrs.length ≤ 1048576) (hl : l.length ≤ 16777216) : PCall Tryz.prog 313 [p.av, strs l] (.tup [.bool (l.all p.isArr), .bool (l.any p.isArr)]) := by
  refine pcall_of Tryz.func313 (by kernel_rfl) rfl (by simp [Tryz.f313]) ?_
  unfold Pg.av
  have c1 := fun s => c_impl_ArrAt p s ht
  unfold Pg.av at c1
  (repeat refine AWp.seq ?_); refine AWp.region noP (by kernel_rfl) ?_
  try simp
  intro g
  (repeat refine AWp.seq ?_); refine AWp.region noP (by kernel_rfl) ?_
  try simp
  (repeat refine AWp.seq ?_); refine AWp.region noP (by kernel_rfl) ?_
  simp [strs]
  (repeat refine AWp.seq ?_); refine AWp.block (AWp.rounds (fun m st => ∃ (i : Nat), m = l.length - i ∧ i ≤ l.length ∧ st.slots 2 = .ptr g 0 ∧ st.mem g = some (.box p.cells) ∧ st.slots 11 = .lst false 1 (l.map .str) ∧ st.slots 12 = .int .i64 l.length ∧ st.slots 13 = .int .i64 i ∧ st.slots 6 = .bool ((l.take i).all p.isArr) ∧ st.slots 7 = .bool ((l.take i).any p.isArr)) l.length ⟨0, by simp, by simp, by simp, by simp, by simp, by simp, by simp, by simp, by simp⟩ ?_)
  rintro R m st hR ⟨i, rfl, hi, s2, sg, s11, s12, s13, s6, s7⟩
  (repeat refine AWp.seq ?_); refine AWp.region noP (by kernel_rfl) ?_
  simp [s11, s12, s13]
  (repeat refine AWp.seq ?_); refine AWp.cond (b := decide (i < l.length)) (by simp) (fun hb => ?_) (fun hb => ?_)
  · simp at hb
    have hg : l[i]? = some l[i] := List.getElem?_eq_getElem hb
    have hx : ∀ m, idxA Tryz.prog m 26 (.lst false 1 (l.map .str)) (.int .i64 i) = some (.ref [.str l[i]]) := fun m => idx (y := .str l[i]) es_26 (by simp [hg])
    have hi2 := idxAt_has l[i] p.arrNames 0
    have hyes : decide (0 ≤ at_ p.arrNames l[i]) = p.isArr l[i] := by
      unfold Pg.isArr at_
      cases hh : has p.arrNames l[i] with
      | true => simpa using hi2.2 hh
      | false =>
        have : ¬ 0 ≤ idxAt 0 p.arrNames l[i] := fun k => by rw [hi2.1 k] at hh; cases hh
        simpa using this
    have hw : IntKind.wrap .i64 ((i : Int) + 1) = (i + 1 : Nat) := wrap64 (by omega) (by omega)
    have e1 : (l.take (i + 1)).all p.isArr = ((l.take i).all p.isArr && p.isArr l[i]) := by rw [List.take_add_one, hg, List.all_append]; simp
    have e2 : (l.take (i + 1)).any p.isArr = ((l.take i).any p.isArr || p.isArr l[i]) := by rw [List.take_add_one, hg, List.any_append]; simp
    refine AWp.skip ?_
    try simp
    (repeat refine AWp.seq ?_); refine AWp.block ?_; (repeat refine AWp.seq ?_); refine AWp.region noP (by kernel_rfl) ?_
    simp [s11, s13, hx]
    (repeat refine AWp.seq ?_); refine AWp.region allP (by kernel_rfl) ?_
    simp [s2, sg]
    refine aop_call' (c1 l[i]) ?_
    simp [hyes]
    generalize (l.take i).all p.isArr = u1 at *
    generalize (l.take i).any p.isArr = u2 at *
    generalize p.isArr l[i] = u3 at *
    cases u1 <;> cases u2 <;> cases u3 <;>
    · (repeat refine AWp.seq ?_); refine AWp.region noP (by kernel_rfl) ?_
      simp [s6]
      (repeat refine AWp.seq ?_); refine AWp.region noP (by kernel_rfl) ?_
      simp [s7]
      (repeat refine AWp.seq ?_); refine AWp.region noP (by kernel_rfl) ?_
      simp [s13, hw]
      exact hR _ (l.length - (i + 1)) (by omega) ⟨i + 1, rfl, hb, by simp [s2], by simp [sg], by simp [s11], by simp [s12], by simp, by simp [e1, s6], by simp [e2, s7]⟩
  · simp at hb
    refine AWp.exit ?_
    try simp
    (repeat refine AWp.seq ?_); refine AWp.region noP (by kernel_rfl) ?_
    have : i = l.length := by omega
    subst this
    rw [List.take_length] at s6 s7
    simp [s6, s7]
    exact AWp.ret (post_ret2 rfl (by simp) (by simp))
end Go.T
namespace Go.T
open Go Go.Proofs
set_option maxRecDepth 10000
set_option maxHeartbeats 1000000
set_option linter.unusedSimpArgs false
set_option linter.unusedVariables false
theorem leq_not (a q : ByteArray) : (Op.bytesLess a.toList q.toList || decide (a = q)) = !blt q a := by
  show (blt a q || decide (a = q)) = !blt q a
  by_cases h : a = q
  · subst h; simp [blt_irrefl]
  · cases h1 : blt a q with
    | true =>
      cases h2 : blt q a with
      | true => have := blt_trans h1 h2; rw [blt_irrefl] at this; cases this
      | false => rfl
    | false => rw [blt_tri h h1]; simp [h]
theorem c_arrsOk (A : List Ar) (ht : totL Ar.tot A ≤ 1048576) : PCall Tryz.prog 209 [.lst false 2 (A.map Ar.av)] (.bool (arrsFrom none A && decide (A.length ≤ 4))) := by
  have h1 := totL_len Ar.tot A
  refine pcall_of Tryz.func209 (by kernel_rfl) rfl (by simp [Tryz.f209]) ?_
  (repeat refine AWp.seq ?_); refine AWp.region noP (by kernel_rfl) ?_
  try simp
  (repeat refine AWp.seq ?_); refine AWp.region noP (by kernel_rfl) ?_
  try simp
  (try refine AWp.seq ?_)
  refine AWp.cutA (fun st => st.slots 0 = .lst false 2 (A.map Ar.av) ∧ arrsFrom none A = true) ?_ ?_
  · refine AWp.block (AWp.rounds (fun m st => ∃ (i : Nat) (pr : Option ByteArray), m = A.length - i ∧ i ≤ A.length ∧ st.slots 0 = .lst false 2 (A.map Ar.av) ∧ st.slots 5 = .lst false 2 (A.map Ar.av) ∧ st.slots 6 = .int .i64 A.length ∧ st.slots 7 = .int .i64 i ∧ Ahead A i pr ∧ arrsFrom none A = arrsFrom pr (A.drop i)) A.length ⟨0, none, by simp, by simp, by simp, by simp, by simp, by simp, .inl ⟨rfl, rfl⟩, by simp⟩ ?_)
    rintro R m st hR ⟨i, pr, rfl, hi, s0, s5, s6, s7, hah, hr⟩
    (repeat refine AWp.seq ?_); refine AWp.region noP (by kernel_rfl) ?_
    simp [s5, s6, s7]
    (repeat refine AWp.seq ?_); refine AWp.cond (b := decide (i < A.length)) (by simp) (fun hb => ?_) (fun hb => ?_)
    · simp at hb
      have hg : A[i]? = some A[i] := List.getElem?_eq_getElem hb
      have hx : ∀ m, idxA Tryz.prog m 35 (.lst false 2 (A.map Ar.av)) (.int .i64 i) = some (.ref [.str A[i].s, .int .i64 A[i].n]) := fun m => idx (y := A[i].av) es_35 (by simp [hg])
      have hw : IntKind.wrap .i64 ((i : Int) + 1) = (i + 1 : Nat) := wrap64 (by omega) (by omega)
      have htm := totL_mem Ar.tot (List.getElem_mem hb)
      have hs : A[i].s.size ≤ 9223372036854775806 := by unfold Ar.tot at htm ht h1; omega
      rw [arrs_step _ _ hb] at hr
      have hnx := ahead_next A i hb
      refine AWp.skip ?_
      try simp
      refine AWp.seq ?_
      refine AWp.cutA (fun st => st.slots 0 = .lst false 2 (A.map Ar.av) ∧ st.slots 5 = .lst false 2 (A.map Ar.av) ∧ st.slots 6 = .int .i64 A.length ∧ st.slots 7 = .int .i64 i ∧ arrsFrom none A = arrsFrom (some A[i].s) (A.drop (i + 1))) ?_ ?_
      · refine AWp.block ?_
        (repeat refine AWp.seq ?_); refine AWp.region noP (by kernel_rfl) ?_
        simp [s5, s7, hx]
        intro g hgf
        try simp [set_at, set_set]
        have hgg : (st.mem.set g (.box [.str A[i].s, .int .i64 A[i].n])) g = some (.box [.str A[i].s, .int .i64 A[i].n]) := set_same _ _ _
        generalize st.mem.set g (.box [.str A[i].s, .int .i64 A[i].n]) = m1 at *
        (repeat refine AWp.seq ?_); refine AWp.region allP (by kernel_rfl) ?_
        simp [hgg]
        refine aop_call' (c_impl_NameOk _ hs) ?_
        cases x1 : nameOk A[i].s
        · rw [x1] at hr
          have hph : arrsFrom none A = false := by rw [hr]; rfl
          try simp
          (repeat refine AWp.seq ?_); refine AWp.condT (by simp) ?_
          (repeat refine AWp.seq ?_); refine AWp.region noP (by kernel_rfl) ?_
          try simp
          exact AWp.ret (post_ret1 rfl (by simp [hph]))
        rw [x1] at hr
        simp [hgg]
        refine aop_call' (c_inRange _ _ _) ?_
        cases x2 : inR A[i].n 1 16
        · rw [x2] at hr
          have hph : arrsFrom none A = false := by rw [hr]; rfl
          try simp
          (repeat refine AWp.seq ?_); refine AWp.condT (by simp) ?_
          (repeat refine AWp.seq ?_); refine AWp.region noP (by kernel_rfl) ?_
          try simp
          exact AWp.ret (post_ret1 rfl (by simp [hph]))
        rw [x2] at hr
        rcases hah with ⟨rfl, rfl⟩ | ⟨a, hi0, ha, rfl⟩
        · simp [s0, s7, hgg]
          (repeat refine AWp.seq ?_); refine AWp.condF (by simp) ?_
          refine AWp.skip ?_
          simp at hr
          simp [s0, s5, s6, s7, hr]
        · replace hr : arrsFrom none A = (true && (true && (blt a.s A[i].s && arrsFrom (some A[i].s) (A.drop (i + 1))))) := hr
          have hxp : ∀ m, idxA Tryz.prog m 35 (.lst false 2 (A.map Ar.av)) (.int .i64 ((i - 1 : Nat) : Int)) = some (.ref [.str a.s, .int .i64 a.n]) := fun m => idx (y := a.av) es_35 (by simp [ha])
          have hwm : IntKind.wrap .i64 ((i : Int) - 1) = ((i - 1 : Nat) : Int) := by rw [wrap64 (by omega) (by omega)]; omega
          have hi1 : (0 : Int) < i := by omega
          have hbl := leq_not A[i].s a.s
          simp [s0, s7, hgg, hi0, hi1, hwm, hxp, hbl]
          cases x3 : blt a.s A[i].s
          · rw [x3] at hr
            have hph : arrsFrom none A = false := by rw [hr]; rfl
            (repeat refine AWp.seq ?_); refine AWp.condT (by simp) ?_
            (repeat refine AWp.seq ?_); refine AWp.region noP (by kernel_rfl) ?_
            simp
            exact AWp.ret (post_ret1 rfl (by simp [hph]))
          · rw [x3] at hr
            (repeat refine AWp.seq ?_); refine AWp.condF (by simp) ?_
            refine AWp.skip ?_
            simp at hr
            simp [s0, s5, s6, s7, hr]
      · clear s0 s5 s6 s7 hr
        rintro st ⟨s0, s5, s6, s7, hr⟩
        (repeat refine AWp.seq ?_); refine AWp.region noP (by kernel_rfl) ?_
        simp [s7, hw]
        exact hR _ (A.length - (i + 1)) (by omega) ⟨i + 1, _, rfl, hb, by simp [s0], by simp [s5], by simp [s6], by simp, hnx, hr⟩
    · simp at hb
      refine AWp.exit ?_
      have : i = A.length := by omega
      subst this
      simp [arrsFrom] at hr
      simp [s0, hr]
  rintro st ⟨s0, hA⟩
  (repeat refine AWp.seq ?_); refine AWp.region noP (by kernel_rfl) ?_
  simp [s0]
  by_cases l1 : A.length ≤ 4
  · have l1' : (A.length : Int) ≤ 4 := by omega
    exact AWp.ret (post_ret1 rfl (by simp [hA, l1, l1']))
  · have l1' : ¬ (A.length : Int) ≤ 4 := by omega
    exact AWp.ret (post_ret1 rfl (by simp [hA, l1, l1']))
theorem View.freezeBox {m : Mem} {g : Nat} {cs : List AV} (hg : m g = some (.box cs)) : View m (.ptr g 0) (m.del g) (.ref cs) := fun w S v h1 h2 => by
  obtain ⟨T, vs, hb, hr⟩ := h1.blk g _ hg
  have hSS : ∀ b, S b → S b ∨ b = g := fun b hb => .inl hb
  refine ⟨fun b => S b ∨ b = g, hSS, fun b hb => hb.imp id (fun h => by rw [h, hg]; simp), ⟨fun g' b' hg' => ?_, fun b hb' => ?_⟩, ?_, fun g' b' hg' => ?_⟩
  · unfold Mem.del at hg'
    split at hg'
    · cases hg'
    · exact (h1.blk g' b' hg').mono (fun _ _ => rfl) hSS rfl
  · rcases hb' with hb' | rfl
    · refine ⟨?_, (h1.apart b hb').2⟩
      unfold Mem.del
      split
      · rfl
      · exact (h1.apart b hb').1
    · exact ⟨by simp [Mem.del], (Array.getElem?_eq_some_iff.1 hb).1⟩
  · cases h2
    exact .ref g 0 (.inr rfl) (Cells.of_block hb (hr.mono (fun _ _ => rfl) hSS) 0 (fun i v hv => by simpa using hv))
  · unfold Mem.del at hg'
    split at hg'
    · cases hg'
    · rw [hg']; simp
theorem c_loopsOk0 (l : List Sm) (ht : totL Sm.tot l ≤ 1048576) (h : ∀ x ∈ l, ∀ ns : List ByteArray, ns.length + totL Sm.tot x.body ≤ 2097152 → PCall Tryz.prog 317 [.lst false 19 (x.body.map Sm.av), strs ns] (.bool (Sm.nests x.body ns)))
    (ns : List ByteArray) (hb : ns.length + totL Sm.tot l ≤ 2097152) : PCall Tryz.prog 317 [.lst false 19 (l.map Sm.av), strs ns] (.bool (Sm.nests l ns)) := by
  have hlen := totL_len Sm.tot l
  refine pcall_of Tryz.func317 (by kernel_rfl) rfl (by simp [Tryz.f317]) ?_
  have c1 := fun s => c_Contains ns s (by omega)
  (repeat refine AWp.seq ?_); refine AWp.region noP (by kernel_rfl) ?_
  try simp
  (repeat refine AWp.seq ?_); refine AWp.region noP (by kernel_rfl) ?_
  try simp
  (repeat refine AWp.seq ?_); refine AWp.block (AWp.rounds (fun m st => ∃ (i : Nat), m = l.length - i ∧ i ≤ l.length ∧ st.slots 7 = .lst false 19 (l.map Sm.av) ∧ st.slots 8 = .int .i64 l.length ∧ st.slots 1 = strs ns ∧ st.slots 9 = .int .i64 i ∧ Sm.nests l ns = Sm.nests (l.drop i) ns) l.length ⟨0, by simp, by simp, by simp, by simp, by simp, by simp, by simp⟩ ?_)
  rintro R m st hR ⟨i, rfl, hi, s7, s8, s1, s9, hr⟩
  (repeat refine AWp.seq ?_); refine AWp.region noP (by kernel_rfl) ?_
  simp [s7, s8, s9]
  (repeat refine AWp.seq ?_); refine AWp.cond (b := decide (i < l.length)) (by simp) (fun hb => ?_) (fun hb => ?_)
  · simp at hb
    have hg : l[i]? = some l[i] := List.getElem?_eq_getElem hb
    have hdr : l.drop i = l[i] :: l.drop (i + 1) := List.drop_eq_getElem_cons hb
    have htm := totL_mem Sm.tot (List.getElem_mem hb)
    have htb := l[i].tot_body
    have hx : ∀ m, idxA Tryz.prog m 36 (.lst false 19 (l.map Sm.av)) (.int .i64 i) = some (.ref l[i].cells) := fun m => idx (y := l[i].av) es_36 (by simp [hg])
    have hw : IntKind.wrap .i64 ((i : Int) + 1) = (i + 1 : Nat) := wrap64 (by omega) (by omega)
    have hz : Sm.nests l ns = ((decide (l[i].k ≠ 3) || (!has ns l[i].s && Sm.nests l[i].body (ns ++ [l[i].s]))) && Sm.nests (l.drop (i + 1)) ns) := by rw [hr, hdr, Sm.nests, Sm.nest_eq]
    refine AWp.skip ?_
    try simp
    (repeat refine AWp.seq ?_); refine AWp.block ?_; (repeat refine AWp.seq ?_); refine AWp.region noP (by kernel_rfl) ?_
    simp [s7, s9, hx]
    intro g hgf
    try simp [set_at, set_set]
    have hgg : (st.mem.set g (.box l[i].cells)) g = some (.box l[i].cells) := set_same _ _ _
    generalize st.mem.set g (.box l[i].cells) = m1 at *
    (repeat refine AWp.seq ?_); refine AWp.region noP (by kernel_rfl) ?_
    simp [hgg]
    (repeat refine AWp.seq ?_); refine AWp.cond (b := !decide (l[i].k = 3)) (by simp) (fun hk => ?_) (fun hk => ?_)
    · simp at hk
      refine AWp.exit ?_
      try simp
      (repeat refine AWp.seq ?_); refine AWp.region noP (by kernel_rfl) ?_
      simp [s9, hw]
      exact hR _ (l.length - (i + 1)) (by omega) ⟨i + 1, rfl, hb, by simp [s7], by simp [s8], by simp [s1], by simp, by rw [hz]; simp [hk]⟩
    · simp at hk
      refine AWp.skip ?_
      try simp
      refine AWp.sees (Sees.view (t := 6) (m' := m1.del g) (r' := .ref l[i].cells) (by simpa using View.freezeBox hgg)) ?_
      try simp
      generalize hst : (St.mk _ _ : St) = st2
      have t6 : st2.slots 6 = .ref l[i].cells := by rw [← hst]; simp
      have t7 : st2.slots 7 = .lst false 19 (l.map Sm.av) := by rw [← hst]; simp [s7]
      have t8 : st2.slots 8 = .int .i64 l.length := by rw [← hst]; simp [s8]
      have t1 : st2.slots 1 = strs ns := by rw [← hst]; simp [s1]
      have t9 : st2.slots 9 = .int .i64 i := by rw [← hst]; simp [s9]
      clear hst
      (repeat refine AWp.seq ?_); refine AWp.regionF (fun i => i == 3) (fun i => i == 2 || i == 6 || i == 10) [0, 1, 2, 3, 4, 5, 6, 9, 10, 11, 7, 8, 12, 13, 14, 15] (by kernel_rfl) ?_
      simp [t1, t6]
      refine aop_call' (c1 _) ?_
      cases hh : has ns l[i].s
      · simp [t1, t6]
        refine aop_wcall _ _ _ _ _ _ _ _ rfl (eval_func _ _) ?_
        refine c_Clone ns (by omega) fun v1 m2 h1 => ?_
        try simp
        refine GO.app h1 true [l[i].s] (by simp; omega) fun v2 m3 h2 => ?_
        try simp
        refine aop_wcall _ _ _ _ _ _ _ _ rfl (eval_func _ _) ?_
        refine PCall.viewed (l := [.lst false 19 (l[i].body.map Sm.av)]) (l' := []) (h l[i] (List.getElem_mem _) (ns ++ [l[i].s]) (by simp; omega)) (by simpa using h2.view) ?_
        try simp
        (repeat refine AWp.seq ?_); refine AWp.cond (b := !Sm.nests l[i].body (ns ++ [l[i].s])) (by simp) (fun he => ?_) (fun he => ?_)
        · simp at he
          (repeat refine AWp.seq ?_); refine AWp.region noP (by kernel_rfl) ?_
          try simp
          exact AWp.ret (post_ret1 rfl (by simp only [put_slot, reduceIte]; rw [hz, hh, he]; simp [hk]))
        · simp at he
          refine AWp.skip ?_
          try simp
          (repeat refine AWp.seq ?_); refine AWp.region noP (by kernel_rfl) ?_
          simp [t9, hw]
          exact hR _ (l.length - (i + 1)) (by omega) ⟨i + 1, rfl, hb, by simp [t7], by simp [t8], by simp [t1], by simp, by rw [hz, hh, he]; simp⟩
      · simp
        (repeat refine AWp.seq ?_); refine AWp.condT (by simp) ?_
        (repeat refine AWp.seq ?_); refine AWp.region noP (by kernel_rfl) ?_
        try simp
        exact AWp.ret (post_ret1 rfl (by simp only [put_slot, reduceIte]; rw [hz, hh]; simp [hk]))
  · simp at hb
    refine AWp.exit ?_
    try simp
    (repeat refine AWp.seq ?_); refine AWp.region noP (by kernel_rfl) ?_
    try simp
    have : i = l.length := by omega
    subst this
    exact AWp.ret (post_ret1 rfl (by simp only [put_slot, reduceIte]; rw [hr]; simp [Sm.nests]))
theorem c_loopsOkB (e : Sm) : e.tot ≤ 1048576 → ∀ ns : List ByteArray, ns.length + totL Sm.tot e.body ≤ 2097152 → PCall Tryz.prog 317 [.lst false 19 (e.body.map Sm.av), strs ns] (.bool (Sm.nests e.body ns)) := by
  induction e using Sm.ind' with | h e h =>
  intro ht
  have := e.tot_body
  exact c_loopsOk0 e.body (by omega) (fun x hx => h x hx (by have := totL_mem Sm.tot hx; omega))
theorem c_loopsOk (l : List Sm) (ht : totL Sm.tot l ≤ 1048576) (ns : List ByteArray) (hb : ns.length + totL Sm.tot l ≤ 2097152) : PCall Tryz.prog 317 [.lst false 19 (l.map Sm.av), strs ns] (.bool (Sm.nests l ns)) :=
  c_loopsOk0 l ht (fun x hx => c_loopsOkB x (by have := totL_mem Sm.tot hx; omega)) ns hb
end Go.T
namespace Go.T
open Go Go.Proofs
set_option maxRecDepth 10000
set_option maxHeartbeats 1000000
set_option linter.unusedSimpArgs false
set_option linter.unusedVariables false
theorem c_namesOk (p : Pg) (ht : p.tot ≤ 1048576) : PCall Tryz.prog 212 [p.av] (.bool p.namesB) := by
  have h2 := totL_len Sm.tot p.body
  have h3 : p.tot = totL Ar.tot p.arrs + totL Sm.tot p.body := rfl
  obtain ⟨L0, L1, L3, L2, L4⟩ := p.lens ht
  have L42 := L4 2
  have L43 := L4 3
  have hc : p.cells = [.lst false 2 (p.arrs.map Ar.av), .lst false 19 (p.body.map Sm.av)] := rfl
  have cV := c_impl_VarsOf p.body (by omega)
  have cL := c_impl_LoopVars p.body (by omega)
  have cA := c_impl_Asked p.body (by omega)
  have cP := c_namesOf p.body 2 (by omega)
  have cQ := c_namesAsked p.body 3 (by omega)
  rw [asked_same] at cQ
  have cN := (c_loopsOk p.body (by omega) [] (by simp; omega)).arg (args := [.lst false 19 (p.body.map Sm.av), .lst true 0 []]) (.cons (Le.refl _) (.cons (Le.nil _ _ _) .nil))
  have d1 := c_areArrs p p.puts L0 (by omega)
  have d2 := c_areArrs p (p.asked 3) L0 (by omega)
  have d3 := c_areArrs p [p.vars, p.loops, p.asked 2].flatten L0 (by simp; omega)
  have cC := c_ConcatP [p.vars, p.loops, p.asked 2] true (by simp [sumL]; omega) (by simp)
  have cO := fun s => c_Contains p.vars s (by omega)
  change PCall _ _ _ (strs p.vars) at cV
  change PCall _ _ _ (strs p.loops) at cL
  change PCall _ _ _ (strs (p.asked 2)) at cA
  change PCall _ _ _ (strs p.puts) at cP
  change PCall _ _ _ (strs (p.asked 3)) at cQ
  simp only [List.map_cons, List.map_nil] at cC
  have hother : [p.vars, p.loops, p.asked 2].flatten.any p.isArr = (p.vars.any p.isArr || (p.loops.any p.isArr || (p.asked 2).any p.isArr)) := by simp
  rw [hother] at d3
  generalize [p.vars, p.loops, p.asked 2].flatten = names3 at d3 cC
  generalize names3.all p.isArr = all3 at d3
  generalize (p.asked 3).any p.isArr = any1 at d2
  generalize p.puts.any p.isArr = any2 at d1
  unfold strs at *
  refine pcall_of Tryz.func212 (by kernel_rfl) rfl (by simp [Tryz.f212]) ?_
  unfold Pg.av at *
  rw [hc] at *
  (repeat refine AWp.seq ?_); refine AWp.region noP (by kernel_rfl) ?_
  try simp
  intro g
  (repeat refine AWp.seq ?_); refine AWp.regionF (fun _ => true) (fun _ => false) [0, 1, 2, 3, 4, 5, 6, 7] (by kernel_rfl) ?_
  try simp
  refine aop_call' cV ?_
  try simp
  refine aop_call' cL ?_
  try simp
  (repeat refine AWp.seq ?_); refine AWp.region noP (by kernel_rfl) ?_
  try simp
  (try refine AWp.seq ?_)
  refine AWp.cutA (fun st => st.slots 1 = .ptr g 0 ∧ st.mem g = some (.box [.lst false 2 (p.arrs.map Ar.av), .lst false 19 (p.body.map Sm.av)]) ∧ st.slots 3 = .lst false 1 (p.vars.map .str) ∧ st.slots 4 = .lst false 1 (p.loops.map .str) ∧ p.loops.any (fun x => has p.vars x) = false) ?_ ?_
  · refine AWp.block (AWp.rounds (fun k st => ∃ (i : Nat), k = p.loops.length - i ∧ i ≤ p.loops.length ∧ st.slots 1 = .ptr g 0 ∧ st.mem g = some (.box [.lst false 2 (p.arrs.map Ar.av), .lst false 19 (p.body.map Sm.av)]) ∧ st.slots 3 = .lst false 1 (p.vars.map .str) ∧ st.slots 4 = .lst false 1 (p.loops.map .str) ∧ st.slots 19 = .lst false 1 (p.loops.map .str) ∧ st.slots 20 = .int .i64 p.loops.length ∧ st.slots 21 = .int .i64 i ∧
      p.loops.any (fun x => has p.vars x) = (p.loops.drop i).any (fun x => has p.vars x)) p.loops.length ⟨0, by simp, by simp, by simp, by simp, by simp, by simp, by simp, by simp, by simp, by simp⟩ ?_)
    rintro R k st hR ⟨i, rfl, hi, s1, sg, s3, s4, s19, s20, s21, hr⟩
    (repeat refine AWp.seq ?_); refine AWp.region noP (by kernel_rfl) ?_
    simp [s19, s20, s21]
    (repeat refine AWp.seq ?_); refine AWp.cond (b := decide (i < p.loops.length)) (by simp) (fun hb => ?_) (fun hb => ?_)
    · simp at hb
      have hg : p.loops[i]? = some p.loops[i] := List.getElem?_eq_getElem hb
      have hdr : p.loops.drop i = p.loops[i] :: p.loops.drop (i + 1) := List.drop_eq_getElem_cons hb
      have hx : ∀ m, idxA Tryz.prog m 26 (.lst false 1 (p.loops.map .str)) (.int .i64 i) = some (.ref [.str p.loops[i]]) := fun m => idx (y := .str p.loops[i]) es_26 (by simp [hg])
      have hw : IntKind.wrap .i64 ((i : Int) + 1) = (i + 1 : Nat) := wrap64 (by omega) (by omega)
      rw [hdr, List.any_cons] at hr
      refine AWp.skip ?_
      try simp
      (repeat refine AWp.seq ?_); refine AWp.block ?_; (repeat refine AWp.seq ?_); refine AWp.region noP (by kernel_rfl) ?_
      simp [s19, s21, hx]
      (repeat refine AWp.seq ?_); refine AWp.region allP (by kernel_rfl) ?_
      simp [s3]
      refine aop_call' (cO p.loops[i]) ?_
      try simp
      (repeat refine AWp.seq ?_); refine AWp.cond (b := has p.vars p.loops[i]) (by simp) (fun he => ?_) (fun he => ?_)
      · (repeat refine AWp.seq ?_); refine AWp.region noP (by kernel_rfl) ?_
        try simp
        rw [he, Bool.true_or] at hr
        have hnb : p.namesB = false := by unfold Pg.namesB; rw [hr]; simp
        exact AWp.ret (post_ret1 rfl (by simp [hnb]))
      · refine AWp.skip ?_
        try simp
        (repeat refine AWp.seq ?_); refine AWp.region noP (by kernel_rfl) ?_
        simp [s21, hw]
        exact hR _ (p.loops.length - (i + 1)) (by omega) ⟨i + 1, rfl, hb, by simp [s1], by simp [sg], by simp [s3], by simp [s4], by simp [s19], by simp [s20], by simp, by rw [hr, he, Bool.false_or]⟩
    · simp at hb
      refine AWp.exit ?_
      have : i = p.loops.length := by omega
      subst this
      rw [List.drop_length, List.any_nil] at hr
      simp [s1, sg, s3, s4]
      simpa using hr
  rintro st ⟨s1, sg, s3, s4, hap⟩
  (repeat refine AWp.seq ?_); refine AWp.regionG (fun _ => true) (fun _ => false) [0, 1, 2, 3, 4, 5, 6, 7, 8, 9] [0, 1, 2, 3, 4, 5, 6, 8, 7, 9] (by kernel_rfl) ?_
  simp [s1, sg]
  refine aop_call' cQ ?_
  try simp
  refine aop_call' d2 ?_
  try simp
  (repeat refine AWp.seq ?_); refine AWp.regionG (fun _ => true) (fun _ => false) [0, 1, 2, 3, 4, 5, 6, 7, 8, 9] [0, 1, 2, 3, 4, 5, 6, 8, 7, 9] (by kernel_rfl) ?_
  simp [s1, sg]
  refine aop_call' cP ?_
  try simp
  refine aop_call' d1 ?_
  try simp
  (repeat refine AWp.seq ?_); refine AWp.regionG (fun _ => true) (fun _ => false) [0, 1, 2, 3, 4, 5, 6, 7, 8, 9, 10, 11, 12, 13] [0, 1, 2, 3, 4, 5, 6, 7, 8, 9, 10, 12, 11, 13] (by kernel_rfl) ?_
  simp [s1, s3, s4, sg]
  refine aop_call' cA ?_
  simp [s1, s3, s4, sg]
  refine aop_call' cC ?_
  try simp
  refine aop_call' d3 ?_
  try simp
  unfold Pg.namesB
  rw [hap]
  (repeat refine AWp.seq ?_); refine AWp.region allP (by kernel_rfl) ?_
  cases v2 : (p.asked 3).all p.isArr
  · simp [s1, s3, sg]
    exact AWp.ret (post_ret1 rfl (by simp [v2]))
  cases v1 : p.puts.all p.isArr
  · simp [s1, s3, sg]
    exact AWp.ret (post_ret1 rfl (by simp [v1]))
  cases v3 : p.vars.any p.isArr
  rotate_left
  · simp [s1, s3, sg]
    exact AWp.ret (post_ret1 rfl (by simp [v3]))
  cases v4 : p.loops.any p.isArr
  rotate_left
  · simp [s1, s3, sg]
    exact AWp.ret (post_ret1 rfl (by simp [v4]))
  cases v5 : (p.asked 2).any p.isArr
  rotate_left
  · simp [s1, s3, sg]
    exact AWp.ret (post_ret1 rfl (by simp [v5]))
  by_cases v8 : p.vars.length ≤ 6
  rotate_left
  · have w8 : ¬ (p.vars.length : Int) ≤ 6 := by omega
    simp [s1, s3, sg, w8]
    exact AWp.ret (post_ret1 rfl (by simp [v8]))
  have w8 : (p.vars.length : Int) ≤ 6 := by omega
  simp [s1, s3, sg, w8]
  refine aop_call' cN ?_
  try simp
  exact AWp.ret (post_ret1 rfl (by simp [v1, v2, v3, v4, v5, v8]))
theorem c_impl_ProgOk (p : Pg) (ht : p.tot ≤ 1048576) : PCall Tryz.prog 95 [p.av] (.bool p.ok) := by
  have h1 := totL_len Ar.tot p.arrs
  have h2 := totL_len Sm.tot p.body
  have h3 : p.tot = totL Ar.tot p.arrs + totL Sm.tot p.body := rfl
  have hc : p.cells = [.lst false 2 (p.arrs.map Ar.av), .lst false 19 (p.body.map Sm.av)] := rfl
  have cH := c_arrsOk p.arrs (by omega)
  have cZ := c_impl_Size p.body (by omega)
  have cN := c_namesOk p ht
  refine pcall_of Tryz.func95 (by kernel_rfl) rfl (by simp [Tryz.f95]) ?_
  unfold Pg.av at *
  rw [hc] at *
  (repeat refine AWp.seq ?_); refine AWp.region noP (by kernel_rfl) ?_
  try simp
  intro g
  have hbad : p.head = false → p.ok = false := fun h => by unfold Pg.ok; rw [h]; rfl
  (repeat refine AWp.seq ?_); refine AWp.region allP (by kernel_rfl) ?_
  try simp
  refine aop_call' cH ?_
  cases x1 : (arrsFrom none p.arrs && decide (p.arrs.length ≤ 4))
  · have hz : p.ok = false := hbad (by unfold Pg.head; rw [← Bool.and_assoc, x1]; rfl)
    try simp
    (repeat refine AWp.seq ?_); refine AWp.condT (by simp) ?_
    (repeat refine AWp.seq ?_); refine AWp.region noP (by kernel_rfl) ?_
    try simp
    exact AWp.ret (post_ret1 rfl (by simp [hz]))
  by_cases l2 : p.body.length ≤ 12
  rotate_left
  · have l2' : (12 : Int) < p.body.length := by omega
    have hz : p.ok = false := hbad (by unfold Pg.head; simp [l2])
    simp [l2']
    (repeat refine AWp.seq ?_); refine AWp.condT (by simp) ?_
    (repeat refine AWp.seq ?_); refine AWp.region noP (by kernel_rfl) ?_
    try simp
    exact AWp.ret (post_ret1 rfl (by simp [hz]))
  have l2' : ¬ (12 : Int) < p.body.length := by omega
  simp [l2']
  refine aop_call' cZ ?_
  by_cases l3 : sumL Sm.size p.body ≤ 40
  rotate_left
  · have l3' : (40 : Int) < sumL Sm.size p.body := by omega
    have hz : p.ok = false := hbad (by unfold Pg.head; simp [l3])
    simp [l3']
    (repeat refine AWp.seq ?_); refine AWp.condT (by simp) ?_
    (repeat refine AWp.seq ?_); refine AWp.region noP (by kernel_rfl) ?_
    try simp
    exact AWp.ret (post_ret1 rfl (by simp [hz]))
  have l3' : ¬ (40 : Int) < sumL Sm.size p.body := by omega
  simp [l3']
  (repeat refine AWp.seq ?_); refine AWp.condF (by simp) ?_
  refine AWp.skip ?_
  try simp
  (repeat refine AWp.seq ?_); refine AWp.region noP (by kernel_rfl) ?_
  try simp
  (try refine AWp.seq ?_)
  refine AWp.cutA (fun st => st.slots 1 = .ptr g 0 ∧ st.mem g = some (.box [.lst false 2 (p.arrs.map Ar.av), .lst false 19 (p.body.map Sm.av)]) ∧ p.body.all Sm.ok = true) ?_ ?_
  · refine AWp.block (AWp.rounds (fun k st => ∃ (i : Nat), k = p.body.length - i ∧ i ≤ p.body.length ∧ st.slots 1 = .ptr g 0 ∧ st.mem g = some (.box [.lst false 2 (p.arrs.map Ar.av), .lst false 19 (p.body.map Sm.av)]) ∧ st.slots 22 = .lst false 19 (p.body.map Sm.av) ∧ st.slots 23 = .int .i64 p.body.length ∧ st.slots 24 = .int .i64 i ∧ p.body.all Sm.ok = (p.body.drop i).all Sm.ok) p.body.length ⟨0, by simp, by simp, by simp, by simp, by simp, by simp, by simp, by simp⟩ ?_)
    rintro R k st hR ⟨i, rfl, hi, s1, sg, s22, s23, s24, hr⟩
    (repeat refine AWp.seq ?_); refine AWp.region noP (by kernel_rfl) ?_
    simp [s22, s23, s24]
    (repeat refine AWp.seq ?_); refine AWp.cond (b := decide (i < p.body.length)) (by simp) (fun hb => ?_) (fun hb => ?_)
    · simp at hb
      have hg : p.body[i]? = some p.body[i] := List.getElem?_eq_getElem hb
      have hdr : p.body.drop i = p.body[i] :: p.body.drop (i + 1) := List.drop_eq_getElem_cons hb
      have hx : ∀ m, idxA Tryz.prog m 36 (.lst false 19 (p.body.map Sm.av)) (.int .i64 i) = some (.ref p.body[i].cells) := fun m => idx (y := p.body[i].av) es_36 (by simp [hg])
      have hw : IntKind.wrap .i64 ((i : Int) + 1) = (i + 1 : Nat) := wrap64 (by omega) (by omega)
      have htm := totL_mem Sm.tot (List.getElem_mem hb)
      rw [hdr, List.all_cons] at hr
      refine AWp.skip ?_
      try simp
      (repeat refine AWp.seq ?_); refine AWp.block ?_; (repeat refine AWp.seq ?_); refine AWp.region noP (by kernel_rfl) ?_
      simp [s22, s24, hx]
      intro g2 hgf
      try simp [set_at, set_set]
      have hgg : (st.mem.set g2 (.box p.body[i].cells)) g2 = some (.box p.body[i].cells) := set_same _ _ _
      have hsg : (st.mem.set g2 (.box p.body[i].cells)) g = some (.box [.lst false 2 (p.arrs.map Ar.av), .lst false 19 (p.body.map Sm.av)]) := by
        rw [set_at, if_neg]
        · exact sg
        · rintro rfl; rw [hgf] at sg; cases sg
      generalize st.mem.set g2 (.box p.body[i].cells) = m1 at *
      (repeat refine AWp.seq ?_); refine AWp.region allP (by kernel_rfl) ?_
      simp [hgg]
      refine aop_call' (c_impl_StmtOk p.body[i] (by omega)) ?_
      try simp
      (repeat refine AWp.seq ?_); refine AWp.cond (b := !p.body[i].ok) (by simp) (fun he => ?_) (fun he => ?_)
      · simp at he
        (repeat refine AWp.seq ?_); refine AWp.region noP (by kernel_rfl) ?_
        try simp
        have hz : p.ok = false := hbad (by unfold Pg.head; rw [hr, he]; simp)
        exact AWp.ret (post_ret1 rfl (by simp [hz]))
      · simp at he
        refine AWp.skip ?_
        try simp
        (repeat refine AWp.seq ?_); refine AWp.region noP (by kernel_rfl) ?_
        simp [s24, hw]
        exact hR _ (p.body.length - (i + 1)) (by omega) ⟨i + 1, rfl, hb, by simp [s1], by simp [hsg], by simp [s22], by simp [s23], by simp, by rw [hr, he, Bool.true_and]⟩
    · simp at hb
      refine AWp.exit ?_
      have : i = p.body.length := by omega
      subst this
      simp only [List.drop_length, List.all_nil] at hr
      simp [s1, sg]
      simpa using hr
  rintro st ⟨s1, sg, hB⟩
  have hok : p.ok = p.namesB := by
    unfold Pg.ok Pg.head
    rw [← Bool.and_assoc, x1, hB]
    simp [l2, l3]
  (repeat refine AWp.seq ?_); refine AWp.region allP (by kernel_rfl) ?_
  simp [s1, sg]
  refine aop_call' cN ?_
  try simp
  exact AWp.ret (post_ret1 rfl (by simp [hok]))
end Go.T
namespace Go.T
open Go Go.Proofs
set_option maxRecDepth 10000
set_option maxHeartbeats 1000000
set_option linter.unusedSimpArgs false
set_option linter.unusedVariables false
end Go.T
namespace Go.T
open Go Go.Proofs
set_option maxRecDepth 10000
set_option maxHeartbeats 1000000
set_option linter.unusedSimpArgs false
set_option linter.unusedVariables false
end Go.T
namespace Go.T
open Go Go.Proofs
set_option maxRecDepth 10000
set_option maxHeartbeats 1000000
set_option linter.unusedSimpArgs false
set_option linter.unusedVariables false
open Go
def intsL (l : List Int) : List AV := l.map (.int .i64)
def bAv (b : ByteArray × Int) : AV := .agg [.str b.1, .int .i64 b.2]
def bndL (l : List (ByteArray × Int)) : List AV := l.map bAv
theorem leafy_ints (l : List Int) : ∀ x ∈ intsL l, Leafy x := fun x hx => by
  obtain ⟨n, _, rfl⟩ := List.mem_map.1 hx
  exact leafy_int _ _
theorem leafy_bnds (l : List (ByteArray × Int)) : ∀ x ∈ bndL l, Leafy x := fun x hx => by
  obtain ⟨b, _, rfl⟩ := List.mem_map.1 hx
  refine leafy_agg fun y hy => ?_
  simp at hy
  rcases hy with rfl | rfl
  · exact leafy_str _
  · exact leafy_int _ _
theorem bnd_take (B : List (ByteArray × Int)) (s : ByteArray) (i : Nat) (h : i < B.length) : bnd (B.take (i + 1)) s = if B[i].1 = s then some B[i].2 else bnd (B.take i) s := by
  unfold bnd
  rw [List.take_add_one, List.getElem?_eq_getElem h]
  simp only [Option.toList_some, List.reverse_append, List.reverse_cons, List.reverse_nil, List.nil_append, List.singleton_append, List.find?_cons]
  by_cases hs : B[i].1 = s
  · simp [hs]
  · simp [hs]
theorem c_boundTo {F : Nat → Prop} {v : AV} {B : List (ByteArray × Int)} {m : Mem} (hB : GrowO 340 2 m F v (bndL B)) (hl : B.length ≤ 1048576) (s : ByteArray) {K : AV → Mem → Prop} (hK : K (.tup [.int .i64 ((bnd B s).getD 0), .bool (bnd B s).isSome]) m) : WCall Tryz.prog 440 [v, .str s] m K := by
  have post : ∀ st : St, st.mem = m → st.slots 4 = .int .i64 ((bnd B s).getD 0) → st.slots 5 = .bool (bnd B s).isSome → Post Tryz.prog Tryz.f440 K .ret st := fun st h1 h2 h3 =>
    ⟨[st.slots 4, st.slots 5], _, st.mem, rfl, View.refl _ _, by rw [h1, h2, h3]; exact hK⟩
  have hlen : v ≠ .undef ∧ lenA Tryz.prog (some 159) v = some (.int .i64 B.length) := by
    rcases hB.leaf (leafy_bnds B) with ⟨rfl, h⟩ | ⟨g, c, rfl, _, _⟩
    · have : B = [] := by simpa [bndL] using h
      subst this
      exact ⟨by simp, by simp [lenA, Tryz.underlying159]⟩
    · exact ⟨by simp, by simp [lenA, Tryz.underlying159, bndL]⟩
  refine wcall_of Tryz.func440 (by kernel_rfl) rfl (by simp [Tryz.f440]) ?_
  (repeat refine AWp.seq ?_); refine AWp.region noP (by kernel_rfl) ?_
  try simp
  have hw : IntKind.wrap .i64 ((B.length : Int) - 1) = (B.length : Int) - 1 := wrap64 (by omega) (by omega)
  (repeat refine AWp.seq ?_); refine AWp.region noP (by kernel_rfl) ?_
  simp [hlen.2, hw]
  refine AWp.cutA (fun st => bnd B s = none ∧ st.mem = m) ?_ ?_
  · refine AWp.block (AWp.rounds (fun k st => ∃ i : Nat, k = i ∧ i ≤ B.length ∧ bnd B s = bnd (B.take i) s ∧ st.slots 0 = v ∧ st.slots 1 = .str s ∧ st.slots 6 = .int .i64 ((i : Int) - 1) ∧ st.mem = m) B.length ⟨B.length, rfl, by omega, by simp, by simp, by simp, by simp, by simp⟩ ?_)
    rintro RR k st hR ⟨i, rfl, hi, hr, s0, s1, s6, sm⟩
    cases k with
    | zero =>
      (repeat refine AWp.seq ?_); refine AWp.region noP (by kernel_rfl) ?_
      simp [s6]
      (repeat refine AWp.seq ?_); refine AWp.condF (by simp) ?_
      refine AWp.exit ?_
      have h0 : bnd B s = none := by rw [hr]; rfl
      exact ⟨h0, by simp [sm]⟩
    | succ i =>
      have hlt : i < B.length := by omega
      rcases hB.leaf (leafy_bnds B) with ⟨rfl, h⟩ | ⟨g, c, rfl, hg, _⟩
      · exfalso
        have : B = [] := by simpa [bndL] using h
        rw [this] at hlt
        simp at hlt
      have hy : (bndL B)[i]? = some (bAv B[i]) := by simp [bndL, List.getElem?_eq_getElem hlt]
      have hlb : (bndL B).length = B.length := by simp [bndL]
      have hx : idxA Tryz.prog m 159 (.own g (bndL B).length c) (.int .i64 i) = some (.elt g 2 i 0) := by
        simp [idxA, es_159, hg, hlb, hlt]
      have hw1 : IntKind.wrap .i64 ((i : Int) - 1) = (i : Int) - 1 := wrap64 (by omega) (by omega)
      have ht := bnd_take B s i hlt
      (repeat refine AWp.seq ?_); refine AWp.region noP (by kernel_rfl) ?_
      simp [s6]
      (repeat refine AWp.seq ?_); refine AWp.condT (by simp) ?_
      refine AWp.skip ?_
      try simp
      (repeat refine AWp.seq ?_); refine AWp.block ?_
      (repeat refine AWp.seq ?_); refine AWp.region noP (by kernel_rfl) ?_
      simp [s0, s1, s6, sm, hx, hg, hy, bAv]
      by_cases he : B[i].1 = s
      · (repeat refine AWp.seq ?_); refine AWp.condT (by simp [he]) ?_
        (repeat refine AWp.seq ?_); refine AWp.region noP (by kernel_rfl) ?_
        simp [s0, s6, sm, hx, hg, hy, bAv]
        exact AWp.ret (post _ (by simp [sm]) (by simp [hr, ht, he]) (by simp [hr, ht, he]))
      · (repeat refine AWp.seq ?_); refine AWp.condF (by simp [he]) ?_
        refine AWp.skip ?_
        try simp
        (repeat refine AWp.seq ?_); refine AWp.region noP (by kernel_rfl) ?_
        simp [s6, hw1]
        exact hR _ i (by omega) ⟨i, rfl, by omega, by rw [hr, ht]; simp [he], by simp [s0], by simp [s1], by simp, by simp [sm]⟩
  rintro st ⟨hn, sm⟩
  (repeat refine AWp.seq ?_); refine AWp.region noP (by kernel_rfl) ?_
  simp
  exact AWp.ret (post _ (by simp [sm]) (by simp [hn]) (by simp [hn]))
end Go.T
namespace Go.T
open Go Go.Proofs
set_option maxRecDepth 10000
set_option maxHeartbeats 1000000
set_option linter.unusedSimpArgs false
set_option linter.unusedVariables false
end Go.T
namespace Go.T
open Go Go.Proofs
set_option maxRecDepth 10000
set_option maxHeartbeats 1000000
set_option linter.unusedSimpArgs false
set_option linter.unusedVariables false
theorem wr32_rng (n : Int) : -2147483648 ≤ wr32 n ∧ wr32 n ≤ 2147483647 := by
  unfold wr32 IntKind.wrap
  simp [IntKind.bits, IntKind.signed]
  omega
theorem wr32_and (n : Int) : ((BitVec.ofInt 64 n &&& BitVec.ofInt 64 4294967295).toNat : Int) = n % 4294967296 := by
  rw [BitVec.toNat_and, BitVec.toNat_ofInt, BitVec.toNat_ofInt]
  have h : ((4294967295 : Int) % ((2 ^ 64 : Nat) : Int)).toNat = 2 ^ 32 - 1 := by decide
  rw [h, Nat.and_two_pow_sub_one_eq_mod]
  omega
theorem wr32_eq (n : Int) : wr32 n = if n % 4294967296 ≥ 2147483648 then n % 4294967296 - 4294967296 else n % 4294967296 := by
  unfold wr32 IntKind.wrap
  simp [IntKind.bits, IntKind.signed]
  try (split <;> omega)
theorem c_impl_Wrap (n : Int) : PCall Tryz.prog 442 [.int .i64 n] (.int .i64 (wr32 n)) := by
  refine pcall_of Tryz.func442 (by kernel_rfl) rfl (by simp [Tryz.f442]) ?_
  have hw : IntKind.wrap .i64 (IntKind.wrap .i32 n) = wr32 n := by have := wr32_rng n; unfold wr32 at this ⊢; exact wrap64 (by omega) (by omega)
  (repeat refine AWp.seq ?_); refine AWp.region noP (by kernel_rfl) ?_
  try simp
  (repeat refine AWp.seq ?_); refine AWp.region noP (by kernel_rfl) ?_
  simp [hw]
  exact AWp.ret (post_ret1 rfl (by simp))
theorem c_spec_Wrap (n : Int) : PCall Tryz.prog 443 [.int .i64 n] (.int .i64 (wr32 n)) := by
  refine pcall_of Tryz.func443 (by kernel_rfl) rfl (by simp [Tryz.f443]) ?_
  have hb := wr32_and n
  have he := wr32_eq n
  have hw1 : IntKind.wrap .i64 ((BitVec.ofInt 64 n &&& BitVec.ofInt 64 4294967295).toNat : Int) = n % 4294967296 := by rw [hb]; exact wrap64 (by omega) (by omega)
  have hand : intA .and .i64 n 4294967295 = some (.int .i64 (n % 4294967296)) := congrArg (fun x => some (AV.int .i64 x)) hw1
  have hw2 : IntKind.wrap .i64 (n % 4294967296 - 4294967296) = n % 4294967296 - 4294967296 := wrap64 (by omega) (by omega)
  (repeat refine AWp.seq ?_); refine AWp.region noP (by kernel_rfl) ?_
  try simp
  (repeat refine AWp.seq ?_); refine AWp.region noP (by kernel_rfl) ?_
  simp [hand]
  (repeat refine AWp.seq ?_); refine AWp.region noP (by kernel_rfl) ?_
  try simp
  by_cases h : n % 4294967296 ≥ 2147483648
  · rw [if_pos h] at he
    rw [he]
    (repeat refine AWp.seq ?_); refine AWp.condT (by simp; omega) ?_
    (repeat refine AWp.seq ?_); refine AWp.region noP (by kernel_rfl) ?_
    simp [hw2]
    exact AWp.ret (post_ret1 rfl (by simp))
  · rw [if_neg h] at he
    rw [he]
    (repeat refine AWp.seq ?_); refine AWp.condF (by simp; omega) ?_
    refine AWp.skip ?_
    try simp
    (repeat refine AWp.seq ?_); refine AWp.region noP (by kernel_rfl) ?_
    try simp
    exact AWp.ret (post_ret1 rfl (by simp))
theorem wr32_mul (a b : Int) : -4611686018427387904 ≤ wr32 a * wr32 b ∧ wr32 a * wr32 b ≤ 4611686018427387904 := by
  have h1 := wr32_rng a
  have h2 := wr32_rng b
  have := mul_small (a := wr32 a) (b := wr32 b) (A := 2147483648) (B := 2147483648) (by omega) (by omega) (by omega) (by omega) (by omega)
  omega
theorem c_impl_AddW (a b : Int) : PCall Tryz.prog 398 [.int .i64 a, .int .i64 b] (.int .i64 (addW a b)) := by
  have h1 := wr32_rng a
  have h2 := wr32_rng b
  have h3 := wr32_mul a b
  have hw : IntKind.wrap .i64 (wr32 a + wr32 b) = wr32 a + wr32 b := wrap64 (by omega) (by omega)
  refine pcall_of Tryz.func398 (by kernel_rfl) rfl (by simp [Tryz.f398]) ?_
  (repeat refine AWp.seq ?_); refine AWp.region noP (by kernel_rfl) ?_
  try simp
  (repeat refine AWp.seq ?_); refine AWp.region allP (by kernel_rfl) ?_
  try simp
  refine aop_call' (c_impl_Wrap a) ?_
  try simp
  refine aop_call' (c_impl_Wrap b) ?_
  simp [hw]
  refine aop_call' (c_impl_Wrap _) ?_
  try simp
  exact AWp.ret (post_ret1 rfl (by simp [addW]))
theorem c_impl_SubW (a b : Int) : PCall Tryz.prog 458 [.int .i64 a, .int .i64 b] (.int .i64 (subW a b)) := by
  have h1 := wr32_rng a
  have h2 := wr32_rng b
  have h3 := wr32_mul a b
  have hw : IntKind.wrap .i64 (wr32 a - wr32 b) = wr32 a - wr32 b := wrap64 (by omega) (by omega)
  refine pcall_of Tryz.func458 (by kernel_rfl) rfl (by simp [Tryz.f458]) ?_
  (repeat refine AWp.seq ?_); refine AWp.region noP (by kernel_rfl) ?_
  try simp
  (repeat refine AWp.seq ?_); refine AWp.region allP (by kernel_rfl) ?_
  try simp
  refine aop_call' (c_impl_Wrap a) ?_
  try simp
  refine aop_call' (c_impl_Wrap b) ?_
  simp [hw]
  refine aop_call' (c_impl_Wrap _) ?_
  try simp
  exact AWp.ret (post_ret1 rfl (by simp [subW]))
theorem c_impl_MulW (a b : Int) : PCall Tryz.prog 459 [.int .i64 a, .int .i64 b] (.int .i64 (mulW a b)) := by
  have h1 := wr32_rng a
  have h2 := wr32_rng b
  have h3 := wr32_mul a b
  have hw : IntKind.wrap .i64 (wr32 a * wr32 b) = wr32 a * wr32 b := wrap64 (by omega) (by omega)
  refine pcall_of Tryz.func459 (by kernel_rfl) rfl (by simp [Tryz.f459]) ?_
  (repeat refine AWp.seq ?_); refine AWp.region noP (by kernel_rfl) ?_
  try simp
  (repeat refine AWp.seq ?_); refine AWp.region allP (by kernel_rfl) ?_
  try simp
  refine aop_call' (c_impl_Wrap a) ?_
  try simp
  refine aop_call' (c_impl_Wrap b) ?_
  simp [hw]
  refine aop_call' (c_impl_Wrap _) ?_
  try simp
  exact AWp.ret (post_ret1 rfl (by simp [mulW]))
theorem c_spec_AddW (a b : Int) : PCall Tryz.prog 424 [.int .i64 a, .int .i64 b] (.int .i64 (addW a b)) := by
  have h1 := wr32_rng a
  have h2 := wr32_rng b
  have h3 := wr32_mul a b
  have hw : IntKind.wrap .i64 (wr32 a + wr32 b) = wr32 a + wr32 b := wrap64 (by omega) (by omega)
  refine pcall_of Tryz.func424 (by kernel_rfl) rfl (by simp [Tryz.f424]) ?_
  (repeat refine AWp.seq ?_); refine AWp.region noP (by kernel_rfl) ?_
  try simp
  (repeat refine AWp.seq ?_); refine AWp.region allP (by kernel_rfl) ?_
  try simp
  refine aop_call' (c_spec_Wrap a) ?_
  try simp
  refine aop_call' (c_spec_Wrap b) ?_
  simp [hw]
  refine aop_call' (c_spec_Wrap _) ?_
  try simp
  exact AWp.ret (post_ret1 rfl (by simp [addW]))
theorem c_spec_SubW (a b : Int) : PCall Tryz.prog 425 [.int .i64 a, .int .i64 b] (.int .i64 (subW a b)) := by
  have h1 := wr32_rng a
  have h2 := wr32_rng b
  have h3 := wr32_mul a b
  have hw : IntKind.wrap .i64 (wr32 a - wr32 b) = wr32 a - wr32 b := wrap64 (by omega) (by omega)
  refine pcall_of Tryz.func425 (by kernel_rfl) rfl (by simp [Tryz.f425]) ?_
  (repeat refine AWp.seq ?_); refine AWp.region noP (by kernel_rfl) ?_
  try simp
  (repeat refine AWp.seq ?_); refine AWp.region allP (by kernel_rfl) ?_
  try simp
  refine aop_call' (c_spec_Wrap a) ?_
  try simp
  refine aop_call' (c_spec_Wrap b) ?_
  simp [hw]
  refine aop_call' (c_spec_Wrap _) ?_
  try simp
  exact AWp.ret (post_ret1 rfl (by simp [subW]))
theorem c_spec_MulW (a b : Int) : PCall Tryz.prog 426 [.int .i64 a, .int .i64 b] (.int .i64 (mulW a b)) := by
  have h1 := wr32_rng a
  have h2 := wr32_rng b
  have h3 := wr32_mul a b
  have hw : IntKind.wrap .i64 (wr32 a * wr32 b) = wr32 a * wr32 b := wrap64 (by omega) (by omega)
  refine pcall_of Tryz.func426 (by kernel_rfl) rfl (by simp [Tryz.f426]) ?_
  (repeat refine AWp.seq ?_); refine AWp.region noP (by kernel_rfl) ?_
  try simp
  (repeat refine AWp.seq ?_); refine AWp.region allP (by kernel_rfl) ?_
  try simp
  refine aop_call' (c_spec_Wrap a) ?_
  try simp
  refine aop_call' (c_spec_Wrap b) ?_
  simp [hw]
  refine aop_call' (c_spec_Wrap _) ?_
  try simp
  exact AWp.ret (post_ret1 rfl (by simp [mulW]))
def words : List Int := [0, 1, 2, 3, 7, -1, -5, 100, 65536, 2147483647, -2147483648, 2147483648, 4294967296, -2147483649, 9223372036854775807, -9223372036854775808]
section
variable {H : Type} {enc : TypeId × Value → H} {W : World}
end
end Go.T
namespace Go.T
open Go Go.Proofs
set_option maxRecDepth 10000
set_option maxHeartbeats 1000000
set_option linter.unusedSimpArgs false
set_option linter.unusedVariables false
open Go
theorem row_len {m : Mem} {F : Nat → Prop} {v : AV} {xs : List AV} (h : OwnT m F v (.lst false 1 xs)) (hl : ∀ x ∈ xs, Leafy x) : lenA Tryz.prog (some 54) v = some (.int .i64 xs.length) := by
  rcases h.leafRow hl with ⟨f, e, rfl, rfl⟩ | ⟨T, g, c, rfl, _, _⟩ <;> simp [lenA, Tryz.underlying54]
theorem row_at {m : Mem} {F : Nat → Prop} {v : AV} {xs : List AV} (h : OwnT m F v (.lst false 1 xs)) (hl : ∀ x ∈ xs, Leafy x) {i : Nat} (hi : i < xs.length) : ∃ T g c, v = .own g xs.length c ∧ m g = some (.arr T 1 c xs) ∧ F g ∧ ∀ k, idxA Tryz.prog m 54 v (.int k i) = some (.elt g 1 i 0) := by
  rcases h.leafRow hl with ⟨f, e, rfl, rfl⟩ | ⟨T, g, c, rfl, hg, hF⟩
  · simp at hi
  · exact ⟨T, g, c, rfl, hg, hF, fun k => by simp [idxA, es_54, hg, hi]⟩
theorem rows_len {m : Mem} {F : Nat → Prop} {v : AV} {f : Bool} {xs : List AV} (h : OwnT m F v (.lst f 1 xs)) : lenA Tryz.prog (some 53) v = some (.int .i64 xs.length) := by
  rcases own_row h with ⟨f, e, rfl, rfl⟩ | ⟨g, n, c, rfl, rfl, _⟩ <;> simp [lenA, Tryz.underlying53]
def rowsL (A : List (List Int)) : List AV := A.map fun r => .lst false 1 (intsL r)
def runCells (p : Pg) (ns : List ByteArray) (vA vV vO vB : AV) (nd : Int) (fu : Nat) : List AV :=
  [.lst false 2 (p.arrs.map Ar.av), .lst false 19 (p.body.map Sm.av), strs ns, vA, vV, vO, .int .i64 nd, .int .i64 fu, vB]
/-- A runner's box, and its rows, apart from each other. -/
structure RunH (gr : Nat) (p : Pg) (ns : List ByteArray) (σ : RS) (vA vV vO vB : AV) (FA FV FO FB : Nat → Prop) (m : Mem) : Prop where
  box : m gr = some (.box (runCells p ns vA vV vO vB σ.nd σ.fu))
  rA : OwnT m FA vA (.lst false 1 (rowsL σ.A))
  rV : OwnT m FV vV (.lst false 1 (intsL σ.V))
  rO : GrowO 3 1 m FO vO (intsL σ.O)
  rB : GrowO 340 2 m FB vB (bndL σ.B)
  dom : ∀ b, FA b ∨ FV b ∨ FO b ∨ FB b → m b ≠ none
  nA : ¬ FA gr
  nV : ¬ FV gr
  nO : ¬ FO gr
  nB : ¬ FB gr
  dAV : ∀ b, FA b → ¬ FV b
  dAO : ∀ b, FA b → ¬ FO b
  dAB : ∀ b, FA b → ¬ FB b
  dVO : ∀ b, FV b → ¬ FO b
  dVB : ∀ b, FV b → ¬ FB b
  dOB : ∀ b, FO b → ¬ FB b
/-- All is small. -/
structure Small (p : Pg) (ns : List ByteArray) (σ : RS) : Prop where
  an : σ.A.length = p.arrs.length
  vn : σ.V.length = ns.length
  arrs : p.arrs.length ≤ 1048576
  ns : ns.length ≤ 1048576
  A : σ.A.length ≤ 1048576
  V : σ.V.length ≤ 1048576
  B : σ.B.length + σ.fu ≤ 100000
  O : σ.O.length + σ.fu ≤ 100000
  rows : ∀ r ∈ σ.A, r.length ≤ 1048576
theorem c_name {gr : Nat} {p : Pg} {ns : List ByteArray} {σ : RS} {vA vV vO vB : AV} {FA FV FO FB : Nat → Prop} {m : Mem} (h : RunH gr p ns σ vA vV vO vB FA FV FO FB m) (sm : Small p ns σ) (s : ByteArray) {K : AV → Mem → Prop} (hK : K (.int .i64 (σ.nm ns s)) m) : WCall Tryz.prog 427 [.ptr gr 0, .str s] m K := by
  have hb := h.box
  unfold runCells at hb
  refine wcall_of Tryz.func427 (by kernel_rfl) rfl (by simp [Tryz.f427]) ?_
  (repeat refine AWp.seq ?_); refine AWp.region noP (by kernel_rfl) ?_
  try simp
  (repeat refine AWp.seq ?_); refine AWp.region noP (by kernel_rfl) ?_
  simp [hb]
  refine aop_wcall _ _ _ _ _ _ _ _ rfl (eval_func _ _) ?_
  try simp
  refine c_boundTo h.rB (by have := sm.B; omega) s ?_
  try simp
  cases hn : bnd σ.B s with
  | some n =>
    try simp
    (repeat refine AWp.seq ?_); refine AWp.region noP (by kernel_rfl) ?_
    simp
    (repeat refine AWp.seq ?_); refine AWp.condT (by simp) ?_
    (repeat refine AWp.seq ?_); refine AWp.region noP (by kernel_rfl) ?_
    simp
    refine AWp.ret (post_retW rfl ⟨_, _, View.refl _ _, ?_⟩)
    have e : σ.nm ns s = n := by simp [RS.nm, nameR, hn]
    rw [e] at hK
    simpa using hK
  | none =>
    try simp
    (repeat refine AWp.seq ?_); refine AWp.region noP (by kernel_rfl) ?_
    simp
    (repeat refine AWp.seq ?_); refine AWp.condF (by simp) ?_
    refine AWp.skip ?_
    try simp
    (repeat refine AWp.seq ?_); refine AWp.region noP (by kernel_rfl) ?_
    simp [hb]
    have hns := sm.ns
    refine aop_call _ _ _ _ _ _ _ _ (c_Index ns s (by omega)) ?_
    try simp
    have hV := sm.V
    have hw : IntKind.wrap .i64 ((σ.V.length : Int) - 1) = (σ.V.length : Int) - 1 := wrap64 (by omega) (by omega)
    have hl := row_len h.rV (leafy_ints _)
    simp only [intsL, List.length_map] at hl
    (repeat refine AWp.seq ?_); refine AWp.region noP (by kernel_rfl) ?_
    simp [hb, hl, hw]
    refine aop_call _ _ _ _ _ _ _ _ (c_inRange (at_ ns s) 0 ((σ.V.length : Int) - 1)) ?_
    try simp
    by_cases hin : 0 ≤ at_ ns s ∧ at_ ns s < σ.V.length
    · have hi2 : inR (at_ ns s) 0 ((σ.V.length : Int) - 1) = true := by simp [inR]; omega
      have e : σ.nm ns s = σ.V.getD (at_ ns s).toNat 0 := by simp [RS.nm, nameR, hn, hin]
      obtain ⟨j, hj⟩ := Int.eq_ofNat_of_zero_le hin.1
      have hjl : j < σ.V.length := by omega
      obtain ⟨T, g, c, hv, hg, hF, hx⟩ := row_at h.rV (leafy_ints _) (i := j) (by simpa [intsL] using hjl)
      have hy : (intsL σ.V)[j]? = some (.int .i64 σ.V[j]) := by simp [intsL, List.getElem?_eq_getElem hjl]
      have e2 : σ.V.getD (at_ ns s).toNat 0 = σ.V[j] := by
        rw [hj]
        simp [List.getD_eq_getElem?_getD, List.getElem?_eq_getElem hjl]
      rw [e, e2] at hK
      simp [hi2]
      (repeat refine AWp.seq ?_); refine AWp.condT (by simp) ?_
      (repeat refine AWp.seq ?_); refine AWp.region noP (by kernel_rfl) ?_
      rw [hj]
      simp [hb, hx, hg, hy]
      refine AWp.ret (post_retW rfl ⟨_, _, View.refl _ _, ?_⟩)
      simpa using hK
    · have hi2 : inR (at_ ns s) 0 ((σ.V.length : Int) - 1) = false := by simp [inR]; omega
      have e : σ.nm ns s = 0 := by simp [RS.nm, nameR, hn, hin]
      rw [e] at hK
      simp [hi2]
      (repeat refine AWp.seq ?_); refine AWp.condF (by simp) ?_
      refine AWp.skip ?_
      try simp
      (repeat refine AWp.seq ?_); refine AWp.region noP (by kernel_rfl) ?_
      simp
      refine AWp.ret (post_retW rfl ⟨_, _, View.refl _ _, ?_⟩)
      simpa using hK
end Go.T
namespace Go.T
open Go Go.Proofs
set_option maxRecDepth 10000
set_option maxHeartbeats 1000000
set_option linter.unusedSimpArgs false
set_option linter.unusedVariables false
open Go
theorem RunH.row {gr : Nat} {p : Pg} {ns : List ByteArray} {σ : RS} {vA vV vO vB : AV} {FA FV FO FB : Nat → Prop} {m : Mem} (h : RunH gr p ns σ vA vV vO vB FA FV FO FB m) {k : Nat} (hk : k < σ.A.length) :
    ∃ (gA c : Nat) (ys : List AV) (T : TypeId) (y : AV), vA = .own gA ys.length c ∧ m gA = some (.arr T 1 c ys) ∧ ys.length = σ.A.length ∧ ys[k]? = some y ∧ lenA Tryz.prog (some 54) y = some (.int .i64 σ.A[k].length) ∧ y.cells = [y] ∧
      ∀ j, j < σ.A[k].length → ∃ (Tg : TypeId) (g cg : Nat), m g = some (.arr Tg 1 cg (intsL σ.A[k])) ∧ FA g ∧ (∀ kk, idxA Tryz.prog m 54 y (.int kk j) = some (.elt g 1 j 0)) ∧
        ∀ x : Int, OwnT (m.set g (.arr Tg 1 cg ((intsL σ.A[k]).set j (.int .i64 x)))) FA vA (.lst false 1 (rowsL (σ.A.set k (σ.A[k].set j x)))) := by
  have hA := h.rA
  generalize hX : rowsL σ.A = X at hA
  have hXl : X.length = σ.A.length := by rw [← hX]; simp [rowsL]
  cases hA with
  | nil f e _ => rw [← hXl] at hk; simp at hk
  | @own _ G gA n c _ T ys _ h1 h2 h3 h4 h5 h6 =>
    have hyl : ys.length = σ.A.length := by rw [← hXl]; exact h3.len
    have hky : k < ys.length := by omega
    obtain ⟨A1, B1, C1, x, e1, e2, e3, e4, e5, e6⟩ := h3.at hky
    have hx : x = .lst false 1 (intsL σ.A[k]) := by
      rw [← hX] at e1
      simp [rowsL, List.getElem?_eq_getElem hk] at e1
      exact e1.symm
    subst hx
    refine ⟨gA, c, ys, T, ys[k], by rw [h2], h1, hyl, List.getElem?_eq_getElem hky, ?_, ?_, fun j hj => ?_⟩
    · have := row_len e2 (leafy_ints _)
      simpa [intsL] using this
    · rcases e2.leafRow (leafy_ints _) with ⟨f, e, q, _⟩ | ⟨T', g, cg, q, _, _⟩ <;> rw [q] <;> simp
    · obtain ⟨Tg, g, cg, q1, q2, q3, q4⟩ := row_at e2 (leafy_ints _) (i := j) (by simpa [intsL] using hj)
      refine ⟨Tg, g, cg, q2, h5 g (e5 g q3), q4, fun x => ?_⟩
      have hgA : gA ≠ g := by rintro rfl; exact h4 (e5 _ q3)
      have hnew : OwnT (m.set g (.arr Tg 1 cg ((intsL σ.A[k]).set j (.int .i64 x)))) B1 ys[k] (.lst false 1 (intsL (σ.A[k].set j x))) := by
        rw [q1]
        have e : (intsL σ.A[k]).set j (.int .i64 x) = intsL (σ.A[k].set j x) := by simp [intsL, List.map_set]
        rw [e]
        refine .own (G := fun _ => False) (set_same _ _ _) (by simp [intsL]) (OwnTs.same fun a ha F => ?_) (fun h => h) (fun b h => h.elim) q3
        obtain ⟨n, _, rfl⟩ := List.mem_map.1 ha
        exact .int _ _
      have h7 := e6 _ ys[k] (.lst false 1 (intsL (σ.A[k].set j x))) B1 (fun b hb => Mem.set_other (by rintro rfl; exact e3 b hb q3)) hnew (fun _ h => h)
      rw [List.set_getElem_self] at h7
      have e : X.set k (.lst false 1 (intsL (σ.A[k].set j x))) = rowsL (σ.A.set k (σ.A[k].set j x)) := by rw [← hX]; simp [rowsL, List.map_set]
      rw [e] at h7
      exact .own (by rw [Mem.set_other hgA]; exact h1) h2 h7 h4 h5 h6
theorem RunH.store {gr : Nat} {p : Pg} {ns : List ByteArray} {σ : RS} {vA vV vO vB : AV} {FA FV FO FB : Nat → Prop} {m : Mem} (h : RunH gr p ns σ vA vV vO vB FA FV FO FB m) {k j : Nat} {x : Int} {g : Nat} {b : Blk} (hF : FA g) (hA : OwnT (m.set g b) FA vA (.lst false 1 (rowsL (σ.setA k j x).A))) : RunH gr p ns (σ.setA k j x) vA vV vO vB FA FV FO FB (m.set g b) := by
  have o : ∀ G : Nat → Prop, (∀ c, FA c → ¬ G c) → ∀ c, G c → (m.set g b) c = m c := fun G hG c hc => Mem.set_other (by rintro rfl; exact hG _ hF hc)
  refine ⟨?_, hA, h.rV.mem (o _ h.dAV), h.rO.mem (o _ h.dAO), h.rB.mem (o _ h.dAB), fun c hc => ?_, h.nA, h.nV, h.nO, h.nB, h.dAV, h.dAO, h.dAB, h.dVO, h.dVB, h.dOB⟩
  · rw [Mem.set_other (by rintro rfl; exact h.nA hF)]; exact h.box
  · rw [set_at]; split
    · simp
    · exact h.dom c hc
theorem c_place {gr : Nat} {p : Pg} {ns : List ByteArray} {σ : RS} {vA vV vO vB : AV} {FA FV FO FB : Nat → Prop} {m : Mem} (h : RunH gr p ns σ vA vV vO vB FA FV FO FB m) (sm : Small p ns σ) (s : ByteArray) (i : Int) {K : AV → Mem → Prop} (h0 : placeR p.arrNames σ.A s i = none → K .nilp m)
    (h1 : ∀ (k j : Nat) (Tg : TypeId) (g cg : Nat) (r : List Int), placeR p.arrNames σ.A s i = some (k, j) → σ.A[k]? = some r → j < r.length → m g = some (.arr Tg 1 cg (intsL r)) → FA g → (∀ x : Int, OwnT (m.set g (.arr Tg 1 cg ((intsL r).set j (.int .i64 x)))) FA vA (.lst false 1 (rowsL (σ.setA k j x).A))) → K (.elt g 1 j 0) m) :
    WCall Tryz.prog 331 [.ptr gr 0, .str s, .int .i64 i] m K := by
  have hb := h.box
  unfold runCells at hb
  refine wcall_of Tryz.func331 (by kernel_rfl) rfl (by simp [Tryz.f331]) ?_
  (repeat refine AWp.seq ?_); refine AWp.region noP (by kernel_rfl) ?_
  try simp
  (repeat refine AWp.seq ?_); refine AWp.region noP (by kernel_rfl) ?_
  simp [hb]
  have ca := c_impl_ArrAt p s sm.arrs
  unfold Pg.av Pg.cells at ca
  refine aop_call _ _ _ _ _ _ _ _ ca ?_
  try simp
  have hA := sm.A
  have hw : IntKind.wrap .i64 ((σ.A.length : Int) - 1) = (σ.A.length : Int) - 1 := wrap64 (by omega) (by omega)
  have hl := rows_len h.rA
  simp only [rowsL, List.length_map] at hl
  (repeat refine AWp.seq ?_); refine AWp.region noP (by kernel_rfl) ?_
  simp [hb, hl, hw]
  refine aop_call _ _ _ _ _ _ _ _ (c_inRange (at_ p.arrNames s) 0 ((σ.A.length : Int) - 1)) ?_
  try simp
  by_cases hin : 0 ≤ at_ p.arrNames s ∧ at_ p.arrNames s < σ.A.length
  · have hi2 : inR (at_ p.arrNames s) 0 ((σ.A.length : Int) - 1) = true := by simp [inR]; omega
    obtain ⟨k, hk⟩ := Int.eq_ofNat_of_zero_le hin.1
    have hkl : k < σ.A.length := by omega
    obtain ⟨gA, c, ys, T, y, q1, q2, q3, q4, q5, q6, q7⟩ := h.row hkl
    have hxA : ∀ kk, idxA Tryz.prog m 53 vA (.int kk (at_ p.arrNames s)) = some (.elt gA 1 k 0) := fun kk => by
      rw [q1, hk]
      have : k < ys.length := by omega
      simp [idxA, es_53, q2, this]
    have hrl := sm.rows _ (List.getElem_mem hkl)
    have hw2 : IntKind.wrap .i64 ((σ.A[k].length : Int) - 1) = (σ.A[k].length : Int) - 1 := wrap64 (by omega) (by omega)
    simp [hi2, hb, hxA, q2, q4]
    simp [q6, q5, hw2]
    refine aop_call _ _ _ _ _ _ _ _ (c_inRange i 0 ((σ.A[k].length : Int) - 1)) ?_
    try simp
    by_cases hj : 0 ≤ i ∧ i < σ.A[k].length
    · have hi3 : inR i 0 ((σ.A[k].length : Int) - 1) = true := by simp [inR]; omega
      obtain ⟨j, rfl⟩ := Int.eq_ofNat_of_zero_le hj.1
      have hjl : j < σ.A[k].length := by omega
      obtain ⟨Tg, g, cg, r1, r2, r3, r4⟩ := q7 j hjl
      have hg : σ.A[k]? = some σ.A[k] := List.getElem?_eq_getElem hkl
      have hd : σ.A.getD k [] = σ.A[k] := by rw [List.getD_eq_getElem?_getD, hg]; rfl
      have hp : placeR p.arrNames σ.A s (j : Int) = some (k, j) := by
        unfold placeR
        rw [hk]
        simp only [Int.toNat_natCast, hd]
        rw [if_pos ⟨by omega, by omega, by omega, by omega⟩]
      simp [hi3]
      (repeat refine AWp.seq ?_); refine AWp.condF (by simp) ?_
      refine AWp.skip ?_
      try simp
      (repeat refine AWp.seq ?_); refine AWp.region noP (by kernel_rfl) ?_
      simp [hb, hxA, q2, q4, q6, r3]
      refine AWp.ret (post_retW rfl ⟨_, _, View.refl _ _, ?_⟩)
      have := h1 k j Tg g cg σ.A[k] hp hg hjl r1 r2 fun x => by
        have := r4 x
        unfold RS.setA
        dsimp only
        rw [hd]
        exact this
      simpa using this
    · have hi3 : inR i 0 ((σ.A[k].length : Int) - 1) = false := by simp [inR]; omega
      have hg : σ.A[k]? = some σ.A[k] := List.getElem?_eq_getElem hkl
      have hd : σ.A.getD k [] = σ.A[k] := by rw [List.getD_eq_getElem?_getD, hg]; rfl
      have hp : placeR p.arrNames σ.A s i = none := by
        unfold placeR
        rw [hk]
        simp only [Int.toNat_natCast, hd]
        rw [if_neg (fun hq => hj ⟨hq.2.2.1, hq.2.2.2⟩)]
      simp [hi3]
      (repeat refine AWp.seq ?_); refine AWp.condT (by simp) ?_
      (repeat refine AWp.seq ?_); refine AWp.region noP (by kernel_rfl) ?_
      simp
      refine AWp.ret (post_retW rfl ⟨_, _, View.refl _ _, ?_⟩)
      simpa using h0 hp
  · have hi2 : inR (at_ p.arrNames s) 0 ((σ.A.length : Int) - 1) = false := by simp [inR]; omega
    have hp : placeR p.arrNames σ.A s i = none := by
      unfold placeR
      rw [if_neg (fun hq => hin ⟨hq.1, hq.2.1⟩)]
    simp [hi2]
    (repeat refine AWp.seq ?_); refine AWp.condT (by simp) ?_
    (repeat refine AWp.seq ?_); refine AWp.region noP (by kernel_rfl) ?_
    simp
    refine AWp.ret (post_retW rfl ⟨_, _, View.refl _ _, ?_⟩)
    simpa using h0 hp
theorem c_operate (k a b : Int) : PCall Tryz.prog 428 [.int .i64 k, .int .i64 a, .int .i64 b] (.int .i64 (opR k a b)) := by
  refine pcall_of Tryz.func428 (by kernel_rfl) rfl (by simp [Tryz.f428]) ?_
  (repeat refine AWp.seq ?_); refine AWp.region noP (by kernel_rfl) ?_
  try simp
  (repeat refine AWp.seq ?_); refine AWp.region noP (by kernel_rfl) ?_
  simp
  (repeat refine AWp.seq ?_); refine AWp.block ?_
  (repeat refine AWp.seq ?_); refine AWp.region noP (by kernel_rfl) ?_
  simp
  by_cases h4 : k = 4
  · (repeat refine AWp.seq ?_); refine AWp.condT (by simp [h4]) ?_
    (repeat refine AWp.seq ?_); refine AWp.region noP (by kernel_rfl) ?_
    simp
    refine aop_call _ _ _ _ _ _ _ _ (c_impl_AddW a b) ?_
    simp
    exact AWp.ret (post_ret1 rfl (by simp [opR, h4]))
  (repeat refine AWp.seq ?_); refine AWp.condF (by simp [h4]) ?_
  (repeat refine AWp.seq ?_); refine AWp.region noP (by kernel_rfl) ?_
  simp
  by_cases h5 : k = 5
  · (repeat refine AWp.seq ?_); refine AWp.condT (by simp [h5]) ?_
    (repeat refine AWp.seq ?_); refine AWp.region noP (by kernel_rfl) ?_
    simp
    refine aop_call _ _ _ _ _ _ _ _ (c_impl_SubW a b) ?_
    simp
    exact AWp.ret (post_ret1 rfl (by simp [opR, h5]))
  (repeat refine AWp.seq ?_); refine AWp.condF (by simp [h5]) ?_
  (repeat refine AWp.seq ?_); refine AWp.region noP (by kernel_rfl) ?_
  simp
  by_cases h6 : k = 6
  · (repeat refine AWp.seq ?_); refine AWp.condT (by simp [h6]) ?_
    (repeat refine AWp.seq ?_); refine AWp.region noP (by kernel_rfl) ?_
    simp
    refine aop_call _ _ _ _ _ _ _ _ (c_impl_MulW a b) ?_
    simp
    exact AWp.ret (post_ret1 rfl (by simp [opR, h6]))
  (repeat refine AWp.seq ?_); refine AWp.condF (by simp [h6]) ?_
  (repeat refine AWp.seq ?_); refine AWp.region noP (by kernel_rfl) ?_
  simp
  by_cases h7 : k = 7
  · (repeat refine AWp.seq ?_); refine AWp.condT (by simp [h7]) ?_
    (repeat refine AWp.seq ?_); refine AWp.region noP (by kernel_rfl) ?_
    simp
    exact AWp.ret (post_ret1 rfl (by simp [opR, h7]; omega))
  (repeat refine AWp.seq ?_); refine AWp.condF (by simp [h7]) ?_
  refine AWp.skip ?_
  try simp
  (repeat refine AWp.seq ?_); refine AWp.region noP (by kernel_rfl) ?_
  simp
  exact AWp.ret (post_ret1 rfl (by simp [opR, h4, h5, h6, h7]; omega))
end Go.T
namespace Go.T
open Go Go.Proofs
set_option maxRecDepth 10000
set_option maxHeartbeats 1000000
set_option linter.unusedSimpArgs false
set_option linter.unusedVariables false
open Go
theorem set_del {m : Mem} {g : Nat} (h : m g = none) (b : Blk) : (m.set g b).del g = m := by
  funext k
  unfold Mem.del Mem.set
  by_cases hk : k = g
  · simp [hk, h]
  · simp [hk]
/-- What the call of an expression's value comes to. -/
def EvC (n : FuncId) (P : Program) (H : Nat → Pg → List ByteArray → RS → Mem → Prop) (x : Ex) : Prop :=
  ∀ (gr : Nat) (p : Pg) (ns : List ByteArray) (σ : RS) (m : Mem), H gr p ns σ m → ∀ K : AV → Mem → Prop, K (.tup [.int .i64 ((σ.ev p.arrNames ns x).getD 0), .bool (σ.ev p.arrNames ns x).isSome]) m → WCall P n [.ptr gr 0, x.av] m K
def RunA (gr : Nat) (p : Pg) (ns : List ByteArray) (σ : RS) (m : Mem) : Prop := ∃ vA vV vO vB FA FV FO FB, RunH gr p ns σ vA vV vO vB FA FV FO FB m ∧ Small p ns σ
theorem ev_1 (an ns : List ByteArray) (σ : RS) (n : Int) (s : ByteArray) (l : List Ex) : σ.ev an ns (.mk 1 n s l) = some n := by unfold RS.ev; rw [Ex.ev]; simp
theorem ev_2 (an ns : List ByteArray) (σ : RS) (n : Int) (s : ByteArray) (l : List Ex) : σ.ev an ns (.mk 2 n s l) = some (σ.nm ns s) := by unfold RS.ev; rw [Ex.ev]; simp
theorem ev_3 (an ns : List ByteArray) (σ : RS) {k : Int} (n : Int) (s : ByteArray) (x : Ex) (h1 : k ≠ 1) (h2 : k ≠ 2) : σ.ev an ns (.mk k n s [x]) = (σ.ev an ns x).bind (σ.pl an s) := by
  unfold RS.ev
  rw [Ex.ev]
  simp [h1, h2, Ex.evs]
theorem ev_4 (an ns : List ByteArray) (σ : RS) {k : Int} (n : Int) (s : ByteArray) (x y : Ex) (h1 : k ≠ 1) (h2 : k ≠ 2) : σ.ev an ns (.mk k n s [x, y]) = (σ.ev an ns x).bind fun a => (σ.ev an ns y).map fun b => opR k a b := by
  unfold RS.ev
  rw [Ex.ev]
  simp [h1, h2, Ex.evs]
theorem c_eval0 (k n : Int) (s : ByteArray) (l : List Ex) (hp : partsOk k n s l.length = true) (hx : ∀ x ∈ l, EvC 328 Tryz.prog RunA x) : EvC 328 Tryz.prog RunA (.mk k n s l) := by
  intro gr p ns σ m hH K hK
  obtain ⟨vA, vV, vO, vB, FA, FV, FO, FB, h, sm⟩ := id hH
  unfold Ex.av
  rw [Ex.cells_mk]
  refine wcall_of Tryz.func328 (by kernel_rfl) rfl (by simp [Tryz.f328]) ?_
  (repeat refine AWp.seq ?_); refine AWp.region noP (by kernel_rfl) ?_
  simp
  intro g hg
  refine AWp.sees (Sees.view (t := 3) (View.freezeB (g := g) (cs := [.int .i64 k, .int .i64 n, .str s, .lst false 4 (l.map Ex.av)]) (by simp [set_at]))) ?_
  refine AWp.gen (fun st => st.slots 0 = .ptr gr 0 ∧ st.slots 3 = .ref [.int .i64 k, .int .i64 n, .str s, .lst false 4 (l.map Ex.av)] ∧ st.mem = m) ⟨by simp, by simp, by simp [set_del hg]⟩ ?_
  rintro st ⟨s0, s3, sm0⟩
  (repeat refine AWp.seq ?_); refine AWp.region noP (by kernel_rfl) ?_
  simp [s3]
  refine AWp.gen (fun st => st.slots 0 = .ptr gr 0 ∧ st.slots 3 = .ref [.int .i64 k, .int .i64 n, .str s, .lst false 4 (l.map Ex.av)] ∧ st.slots 11 = .int .i64 k ∧ st.mem = m) ⟨by simp [s0], by simp [s3], by simp, by simp [sm0]⟩ ?_
  clear s0 s3 sm0
  rintro st ⟨s0, s3, s11, sm0⟩
  refine AWp.cutA (fun st => st.slots 0 = .ptr gr 0 ∧ st.slots 3 = .ref [.int .i64 k, .int .i64 n, .str s, .lst false 4 (l.map Ex.av)] ∧ st.mem = m ∧ k ≠ 1 ∧ k ≠ 2) ?_ ?_
  · (repeat refine AWp.seq ?_); refine AWp.block ?_
    (repeat refine AWp.seq ?_); refine AWp.region noP (by kernel_rfl) ?_
    simp [s11]
    by_cases k1 : k = 1
    · (repeat refine AWp.seq ?_); refine AWp.condT (by simp [k1]) ?_
      subst k1
      rw [ev_1] at hK
      (repeat refine AWp.seq ?_); refine AWp.region noP (by kernel_rfl) ?_
      simp [s3]
      exact AWp.ret ⟨[.int .i64 n, .bool true], _, m, by simp [Tryz.f328, resA], by simp [sm0]; exact View.refl _ _, hK⟩
    (repeat refine AWp.seq ?_); refine AWp.condF (by simp [k1]) ?_
    (repeat refine AWp.seq ?_); refine AWp.region noP (by kernel_rfl) ?_
    simp [s11]
    by_cases k2 : k = 2
    · (repeat refine AWp.seq ?_); refine AWp.condT (by simp [k2]) ?_
      subst k2
      rw [ev_2] at hK
      (repeat refine AWp.seq ?_); refine AWp.region noP (by kernel_rfl) ?_
      simp [s3, s0]
      refine aop_wcall _ _ _ _ _ _ _ _ rfl (eval_func _ _) ?_
      simp [sm0]
      refine c_name h sm s ?_
      try simp
      exact AWp.ret ⟨[.int .i64 (σ.nm ns s), .bool true], _, m, by simp [Tryz.f328, resA], by simp; exact View.refl _ _, hK⟩
    (repeat refine AWp.seq ?_); refine AWp.condF (by simp [k2]) ?_
    refine AWp.skip ?_
    try simp
    exact ⟨s0, s3, sm0, k1, k2⟩
  clear s0 s3 s11 sm0
  rintro st ⟨s0, s3, sm0, k1, k2⟩
  obtain ⟨x, r, hl⟩ : ∃ x r, l = x :: r := by
    cases l with
    | nil =>
      exfalso
      unfold partsOk at hp
      rw [if_neg k1, if_neg k2] at hp
      split at hp <;> simp at hp
    | cons x r => exact ⟨x, r, rfl⟩
  subst hl
  have hx0 : ∀ m, idxA Tryz.prog m 41 (.lst false 4 ((x :: r).map Ex.av)) (.int .i64 0) = some (.ref x.cells) := fun m => idx (i := 0) (y := x.av) es_41 (by simp)
  have cx := hx x (List.mem_cons_self ..)
  simp only [List.map_cons] at hx0 s3
  have cxE : ∀ K : AV → Mem → Prop, K (.tup [.int .i64 ((σ.ev p.arrNames ns x).getD 0), .bool (σ.ev p.arrNames ns x).isSome]) m → WCall Tryz.prog 328 [.ptr gr 0, .agg x.cells] m K := cx gr p ns σ m hH
  (repeat refine AWp.seq ?_); refine AWp.region noP (by kernel_rfl) ?_
  simp [s0, s3, sm0, hx0]
  refine aop_wcall _ _ _ _ _ _ _ _ rfl (eval_func _ _) ?_
  simp [sm0]
  refine cxE _ ?_
  simp
  generalize hrx : σ.ev p.arrNames ns x = rx at *
  refine AWp.gen (fun st => st.slots 0 = .ptr gr 0 ∧ st.slots 3 = .ref [.int .i64 k, .int .i64 n, .str s, .lst false 4 (x.av :: r.map Ex.av)] ∧ st.slots 6 = .int .i64 (rx.getD 0) ∧ st.slots 7 = .bool rx.isSome ∧ st.mem = m) ⟨by simp [s0], by simp [s3], by simp, by simp, by simp⟩ ?_
  clear s0 s3 sm0
  rintro st ⟨s0, s3, s6, s7, sm0⟩
  (repeat refine AWp.seq ?_); refine AWp.region noP (by kernel_rfl) ?_
  simp [s7]
  cases rx with
  | none =>
    (repeat refine AWp.seq ?_); refine AWp.condT (by simp) ?_
    (repeat refine AWp.seq ?_); refine AWp.region noP (by kernel_rfl) ?_
    simp
    refine AWp.ret ⟨[.int .i64 0, .bool false], _, m, by simp [Tryz.f328, resA], by simp [sm0]; exact View.refl _ _, ?_⟩
    have : σ.ev p.arrNames ns (.mk k n s (x :: r)) = none := by
      by_cases k3 : k = 3
      · have hr : r = [] := by
          unfold partsOk at hp
          rw [if_neg k1, if_neg k2, if_pos k3] at hp
          simp at hp
          exact List.eq_nil_of_length_eq_zero (by have := hp.2; omega)
        rw [hr, ev_3 _ _ _ _ _ _ k1 k2, hrx]
        rfl
      · obtain ⟨y, hr⟩ : ∃ y, r = [y] := by
          unfold partsOk at hp
          rw [if_neg k1, if_neg k2, if_neg k3] at hp
          simp at hp
          have := hp.2
          match r, this with
          | [y], _ => exact ⟨y, rfl⟩
          | [], h => simp at h
          | _ :: _ :: _, h => simp at h; omega
        rw [hr, ev_4 _ _ _ _ _ _ _ k1 k2, hrx]
        rfl
    rw [this] at hK
    exact hK
  | some a =>
  (repeat refine AWp.seq ?_); refine AWp.condF (by simp) ?_
  refine AWp.skip ?_
  try simp
  simp at s6
  (repeat refine AWp.seq ?_); refine AWp.region noP (by kernel_rfl) ?_
  simp [s3]
  by_cases k3 : k = 3
  · have hr : r = [] := by
      unfold partsOk at hp
      rw [if_neg k1, if_neg k2, if_pos k3] at hp
      simp at hp
      exact List.eq_nil_of_length_eq_zero (by have := hp.2; omega)
    subst hr
    rw [ev_3 _ _ _ _ _ _ k1 k2, hrx] at hK
    simp only [Option.bind_some] at hK
    (repeat refine AWp.seq ?_); refine AWp.condT (by simp [k3]) ?_
    (repeat refine AWp.seq ?_); refine AWp.region noP (by kernel_rfl) ?_
    simp [s0, s3, s6]
    refine aop_wcall _ _ _ _ _ _ _ _ rfl (eval_func _ _) ?_
    simp [sm0]
    refine c_place h sm s a (fun h0 => ?_) (fun kk j Tg g cg row hpl hrow hjl hg hF hst => ?_)
    · try simp
      (repeat refine AWp.seq ?_); refine AWp.region noP (by kernel_rfl) ?_
      simp
      (repeat refine AWp.seq ?_); refine AWp.condT (by simp) ?_
      (repeat refine AWp.seq ?_); refine AWp.region noP (by kernel_rfl) ?_
      simp
      refine AWp.ret ⟨[.int .i64 0, .bool false], _, m, by simp [Tryz.f328, resA], by simp; exact View.refl _ _, ?_⟩
      have e : σ.pl p.arrNames s a = none := by unfold RS.pl; rw [h0]; rfl
      rw [e] at hK
      exact hK
    · try simp
      (repeat refine AWp.seq ?_); refine AWp.region noP (by kernel_rfl) ?_
      simp
      (repeat refine AWp.seq ?_); refine AWp.condF (by simp) ?_
      refine AWp.skip ?_
      try simp
      have hy : (intsL row)[j]? = some (.int .i64 row[j]) := by simp [intsL, List.getElem?_eq_getElem hjl]
      (repeat refine AWp.seq ?_); refine AWp.region noP (by kernel_rfl) ?_
      simp [hg, hy]
      refine AWp.ret ⟨[.int .i64 row[j], .bool true], _, m, by simp [Tryz.f328, resA], by simp; exact View.refl _ _, ?_⟩
      have e : σ.pl p.arrNames s a = some row[j] := by
        unfold RS.pl
        rw [hpl]
        simp [List.getD_eq_getElem?_getD, hrow, List.getElem?_eq_getElem hjl]
      rw [e] at hK
      exact hK
  · obtain ⟨y, hr⟩ : ∃ y, r = [y] := by
      unfold partsOk at hp
      rw [if_neg k1, if_neg k2, if_neg k3] at hp
      simp at hp
      have := hp.2
      match r, this with
      | [y], _ => exact ⟨y, rfl⟩
      | [], h => simp at h
      | _ :: _ :: _, h => simp at h; omega
    subst hr
    rw [ev_4 _ _ _ _ _ _ _ k1 k2, hrx] at hK
    simp only [Option.bind_some] at hK
    (repeat refine AWp.seq ?_); refine AWp.condF (by simp [k3]) ?_
    refine AWp.skip ?_
    try simp
    have hy0 : ∀ m, idxA Tryz.prog m 41 (.lst false 4 [x.av, y.av]) (.int .i64 1) = some (.ref y.cells) := fun m => idx (i := 1) (y := y.av) es_41 (by simp)
    have cyE : ∀ K : AV → Mem → Prop, K (.tup [.int .i64 ((σ.ev p.arrNames ns y).getD 0), .bool (σ.ev p.arrNames ns y).isSome]) m → WCall Tryz.prog 328 [.ptr gr 0, .agg y.cells] m K := hx y (by simp) gr p ns σ m hH
    simp only [List.map_cons, List.map_nil] at s3
    (repeat refine AWp.seq ?_); refine AWp.region noP (by kernel_rfl) ?_
    simp [s0, s3, sm0, hy0]
    refine aop_wcall _ _ _ _ _ _ _ _ rfl (eval_func _ _) ?_
    simp [sm0]
    refine cyE _ ?_
    simp
    generalize hry : σ.ev p.arrNames ns y = ry at *
    refine AWp.gen (fun st => st.slots 0 = .ptr gr 0 ∧ st.slots 3 = .ref [.int .i64 k, .int .i64 n, .str s, .lst false 4 [x.av, y.av]] ∧ st.slots 6 = .int .i64 a ∧ st.slots 9 = .int .i64 (ry.getD 0) ∧ st.slots 7 = .bool ry.isSome ∧ st.mem = m) ⟨by simp [s0], by simp [s3], by simp [s6], by simp, by simp, by simp⟩ ?_
    clear s0 s3 s6 s7 sm0
    rintro st ⟨s0, s3, s6, s9, s7, sm0⟩
    (repeat refine AWp.seq ?_); refine AWp.region noP (by kernel_rfl) ?_
    simp [s7]
    cases ry with
    | none =>
      (repeat refine AWp.seq ?_); refine AWp.condT (by simp) ?_
      (repeat refine AWp.seq ?_); refine AWp.region noP (by kernel_rfl) ?_
      simp
      exact AWp.ret ⟨[.int .i64 0, .bool false], _, m, by simp [Tryz.f328, resA], by simp [sm0]; exact View.refl _ _, hK⟩
    | some b =>
      (repeat refine AWp.seq ?_); refine AWp.condF (by simp) ?_
      refine AWp.skip ?_
      try simp
      simp at s9
      (repeat refine AWp.seq ?_); refine AWp.region noP (by kernel_rfl) ?_
      simp [s3, s6, s9]
      refine aop_call _ _ _ _ _ _ _ _ (c_operate k a b) ?_
      simp
      exact AWp.ret ⟨[.int .i64 (opR k a b), .bool true], _, m, by simp [Tryz.f328, resA], by simp [sm0]; exact View.refl _ _, hK⟩
theorem c_eval (x : Ex) : ∀ d, x.good d = true → EvC 328 Tryz.prog RunA x := by
  induction x using Ex.ind with | h k n s l ih =>
  intro d hd
  unfold Ex.good at hd
  simp only [Bool.and_eq_true] at hd
  refine c_eval0 k n s l hd.1.2 fun x hx => ih x hx (d + 1) ?_
  have : ∀ (l : List Ex) (d : Nat), Ex.goods l d = true → ∀ x ∈ l, x.good d = true := by
    intro l d
    induction l with
    | nil => intro _ x hx; cases hx
    | cons y l ih =>
      intro h x hx
      unfold Ex.goods at h
      simp only [Bool.and_eq_true] at h
      rcases List.mem_cons.1 hx with rfl | hx
      · exact h.1
      · exact ih h.2 x hx
  exact this l _ hd.2 x hx
end Go.T
