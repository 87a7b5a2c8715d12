/- Programs held and marked. The program's parser: trees of statements beside each other; words that are taken. The program's parser: statements that are no loops. -/
import Derived.Test.YtdbnllfjmkmdiaaGreatDoorG15
import Derived.Test.YtdbnllfjmkmdiaaGreatDoorG5
import Derived.Test.YtdbnllfjmkmdiaaGreatDoorG13
import Derived.Test.YtdbnllfjmkmdiaaGreatDoorG6
set_option linter.unusedSimpArgs false
set_option linter.unusedVariables false
namespace Go.T
open Go Go.Proofs
set_option maxRecDepth 10000
set_option maxHeartbeats 1000000
open Go
def HdS (l : List Sm) : Prop := ∀ k k' : Int, 0 < k → k' ≤ 4611686018427387904 → Held (l.map Sm.av) k k' → PCall Tryz.prog 73 [.lst false 19 (l.map Sm.av), .int .i64 k] (.int .i64 k')
theorem c_heldArrS (l : List Ar) (k k' : Int) (h0 : 0 < k) (hb : k' ≤ 4611686018427387904) (h : Held (l.map Ar.av) k k') : PCall Tryz.prog 72 [.lst false 2 (l.map Ar.av), .int .i64 k] (.int .i64 k') := by
 refine pcall_of Tryz.func72 (by kernel_rfl) rfl (by simp [Tryz.f72]) ?_
 have hcl := cnts_len (f := Ar.av) (fun x => by simp [Ar.av, Ar.cells, AV.cnt, AV.cnts]) l
 have hct := h.count
 (repeat refine sqA ?_); refine rgA (by kernel_rfl) ?_
 try simp
 (repeat refine sqA ?_); refine rgA (by kernel_rfl) ?_
 try simp
 (repeat refine sqA ?_); refine AWp.block (AWp.rounds (fun q st => ∃ (i : Nat) (ki : Int), q = l.length - i ∧ i ≤ l.length ∧ k ≤ ki ∧ Held ((l.drop i).map Ar.av) ki k' ∧ st.slots 0 = .lst false 2 (l.map Ar.av) ∧ st.slots 1 = .int .i64 ki ∧ st.slots 5 = .int .i64 i) l.length ⟨0, k, by simp, by simp, by omega, by simpa using h, by simp, by simp, by simp⟩ ?_)
 rintro R q st hR ⟨i, ki, rfl, hi, hki, hH, s0, s1, s5⟩
 (repeat refine sqA ?_); refine rgA (by kernel_rfl) ?_
 simp [s0, s5]
 (repeat refine sqA ?_); refine AWp.cond (b := decide (i < l.length)) (by simp) (fun hlt => ?_) (fun hlt => ?_)
 rotate_left
 ·simp at hlt
  rw [List.drop_eq_nil_of_le hlt] at hH
  have hke := Held.nil_inv hH
  subst hke
  refine AWp.exit ?_
  try simp
  (repeat refine sqA ?_); refine rgA (by kernel_rfl) ?_
  simp [s1]
  exact AWp.ret (post_ret1 rfl (by simp))
 simp at hlt
 have hdr : l.drop i = l[i] :: l.drop (i + 1) := List.drop_eq_getElem_cons hlt
 have hmem := List.getElem_mem hlt
 have hwi : IntKind.wrap .i64 ((i : Int) + 1) = (i + 1 : Nat) := wrap64 (by omega) (by omega)
 rw [hdr, List.map_cons] at hH
 have hq : (l.map Ar.av)[i]? = some (Ar.av l[i]) := by simp [hlt]
 rcases hx0 : l[i] with ⟨b0, b1⟩
 rw [hx0] at hH hmem hq
 have hav : Ar.av (Ar.mk b0 b1) = .agg [.str b0, .int .i64 b1] := by simp [Ar.av, Ar.cells]
 rw [hav] at hH hq
 have hx : idxA Tryz.prog st.mem 29 (.lst false 2 (l.map Ar.av)) (.int .i64 i) = some (.ref [.str b0, .int .i64 b1]) := idx (y := .agg [.str b0, .int .i64 b1]) es_29 hq
 obtain ⟨kz, hH1, hH2⟩ := hH.agg_inv
 have hlz := hH2.le
 refine AWp.skip ?_
 try simp
 (repeat refine sqA ?_); refine AWp.block ?_
 obtain ⟨e0, hH1⟩ := hH1.str_inv
 have hle0 := hH1.le
 (repeat refine sqA ?_); refine AWp.regionG (fun _ => true) (fun _ => false) [0, 1, 2, 3, 4, 5, 6, 7] [0, 1, 2, 3, 4, 5, 6, 7] (by kernel_rfl) ?_
 simp [s0, s1, s5, hx, e0]
 refine aop_call' (c_markText (ki) (by omega) (by omega)) ?_
 simp [s0, s1, s5, hx, e0]
 (repeat refine sqA ?_); refine AWp.condF (by simp) ?_
 refine AWp.skip ?_
 try simp
 have hw0 : IntKind.wrap .i64 (ki + 1) = ki + 1 := wrap64 (by omega) (by omega)
 (repeat refine sqA ?_); refine rgA (by kernel_rfl) ?_
 simp [s0, s1, s5, hx, hw0]
 obtain ⟨e1, hH1⟩ := hH1.int_inv
 have hle1 := hH1.le
 (repeat refine sqA ?_); refine rgA (by kernel_rfl) ?_
 simp [s0, s1, s5, hx, hw0, e1]
 (repeat refine sqA ?_); refine AWp.condF (by simp) ?_
 refine AWp.skip ?_
 try simp
 have hw1 : IntKind.wrap .i64 (ki + 1 + 1) = ki + 1 + 1 := wrap64 (by omega) (by omega)
 (repeat refine sqA ?_); refine rgA (by kernel_rfl) ?_
 simp [s0, s1, s5, hx, hw0, hw1]
 have hz := Held.nil_inv hH1
 subst hz
 (repeat refine sqA ?_); refine rgA (by kernel_rfl) ?_
 simp [s0, s1, s5, hx, hw0, hw1, hwi]
 exact hR _ (l.length - (i + 1)) (by omega) ⟨i + 1, ki + 1 + 1, rfl, hlt, by omega, hH2, by simp [s0], by simp [s0, s1, s5, hx, hw0, hw1], by simp⟩
set_option maxHeartbeats 4000000 in
theorem c_heldStmtS0 (l : List Sm) (hr : ∀ x ∈ l, HdS x.body) (k k' : Int) (h0 : 0 < k) (hb : k' ≤ 4611686018427387904) (h : Held (l.map Sm.av) k k') : PCall Tryz.prog 73 [.lst false 19 (l.map Sm.av), .int .i64 k] (.int .i64 k') := by
 refine pcall_of Tryz.func73 (by kernel_rfl) rfl (by simp [Tryz.f73]) ?_
 have hcl := cnts_len (f := Sm.av) (fun x => by rcases x with ⟨_, _, ⟨_, _, _, _⟩, ⟨_, _, _, _⟩, ⟨_, _, _, _⟩, ⟨_, _, _, _⟩, _⟩; simp [Sm.av, Sm.cells_mk, Ex.cells_mk, AV.cnt, AV.cnts]; try omega) l
 have hct := h.count
 (repeat refine sqA ?_); refine rgA (by kernel_rfl) ?_
 try simp
 (repeat refine sqA ?_); refine rgA (by kernel_rfl) ?_
 try simp
 (repeat refine sqA ?_); refine AWp.block (AWp.rounds (fun q st => ∃ (i : Nat) (ki : Int), q = l.length - i ∧ i ≤ l.length ∧ k ≤ ki ∧ Held ((l.drop i).map Sm.av) ki k' ∧ st.slots 0 = .lst false 19 (l.map Sm.av) ∧ st.slots 1 = .int .i64 ki ∧ st.slots 5 = .int .i64 i) l.length ⟨0, k, by simp, by simp, by omega, by simpa using h, by simp, by simp, by simp⟩ ?_)
 rintro R q st hR ⟨i, ki, rfl, hi, hki, hH, s0, s1, s5⟩
 (repeat refine sqA ?_); refine rgA (by kernel_rfl) ?_
 simp [s0, s5]
 (repeat refine sqA ?_); refine AWp.cond (b := decide (i < l.length)) (by simp) (fun hlt => ?_) (fun hlt => ?_)
 rotate_left
 ·simp at hlt
  rw [List.drop_eq_nil_of_le hlt] at hH
  have hke := Held.nil_inv hH
  subst hke
  refine AWp.exit ?_
  try simp
  (repeat refine sqA ?_); refine rgA (by kernel_rfl) ?_
  simp [s1]
  exact AWp.ret (post_ret1 rfl (by simp))
 simp at hlt
 have hdr : l.drop i = l[i] :: l.drop (i + 1) := List.drop_eq_getElem_cons hlt
 have hmem := List.getElem_mem hlt
 have hwi : IntKind.wrap .i64 ((i : Int) + 1) = (i + 1 : Nat) := wrap64 (by omega) (by omega)
 rw [hdr, List.map_cons] at hH
 have hq : (l.map Sm.av)[i]? = some (Sm.av l[i]) := by simp [hlt]
 rcases hx0 : l[i] with ⟨b0, b1, ⟨b2, b3, b4, b5⟩, ⟨b6, b7, b8, b9⟩, ⟨b10, b11, b12, b13⟩, ⟨b14, b15, b16, b17⟩, b18⟩
 rw [hx0] at hH hmem hq
 have hav : Sm.av (Sm.mk b0 b1 (Ex.mk b2 b3 b4 b5) (Ex.mk b6 b7 b8 b9) (Ex.mk b10 b11 b12 b13) (Ex.mk b14 b15 b16 b17) b18) = .agg [.int .i64 b0, .str b1, .int .i64 b2, .int .i64 b3, .str b4, .lst false 4 (b5.map Ex.av), .int .i64 b6, .int .i64 b7, .str b8, .lst false 4 (b9.map Ex.av), .int .i64 b10, .int .i64 b11, .str b12, .lst false 4 (b13.map Ex.av), .int .i64 b14, .int .i64 b15, .str b16, .lst false 4 (b17.map Ex.av), .lst false 19 (b18.map Sm.av)] := by simp [Sm.av, Sm.cells_mk, Ex.cells_mk]
 rw [hav] at hH hq
 have hx : idxA Tryz.prog st.mem 30 (.lst false 19 (l.map Sm.av)) (.int .i64 i) = some (.ref [.int .i64 b0, .str b1, .int .i64 b2, .int .i64 b3, .str b4, .lst false 4 (b5.map Ex.av), .int .i64 b6, .int .i64 b7, .str b8, .lst false 4 (b9.map Ex.av), .int .i64 b10, .int .i64 b11, .str b12, .lst false 4 (b13.map Ex.av), .int .i64 b14, .int .i64 b15, .str b16, .lst false 4 (b17.map Ex.av), .lst false 19 (b18.map Sm.av)]) := idx (y := .agg [.int .i64 b0, .str b1, .int .i64 b2, .int .i64 b3, .str b4, .lst false 4 (b5.map Ex.av), .int .i64 b6, .int .i64 b7, .str b8, .lst false 4 (b9.map Ex.av), .int .i64 b10, .int .i64 b11, .str b12, .lst false 4 (b13.map Ex.av), .int .i64 b14, .int .i64 b15, .str b16, .lst false 4 (b17.map Ex.av), .lst false 19 (b18.map Sm.av)]) es_30 hq
 obtain ⟨kz, hH1, hH2⟩ := hH.agg_inv
 have hlz := hH2.le
 refine AWp.skip ?_
 try simp
 (repeat refine sqA ?_); refine AWp.block ?_
 obtain ⟨e0, hH1⟩ := hH1.int_inv
 have hle0 := hH1.le
 (repeat refine sqA ?_); refine rgA (by kernel_rfl) ?_
 simp [s0, s1, s5, hx, e0]
 (repeat refine sqA ?_); refine AWp.condF (by simp) ?_
 refine AWp.skip ?_
 try simp
 have hw0 : IntKind.wrap .i64 (ki + 1) = ki + 1 := wrap64 (by omega) (by omega)
 (repeat refine sqA ?_); refine rgA (by kernel_rfl) ?_
 simp [s0, s1, s5, hx, hw0]
 obtain ⟨e1, hH1⟩ := hH1.str_inv
 have hle1 := hH1.le
 (repeat refine sqA ?_); refine AWp.regionG (fun _ => true) (fun _ => false) [0, 1, 2, 3, 4, 5, 6, 7] [0, 1, 2, 3, 4, 5, 6, 7] (by kernel_rfl) ?_
 simp [s0, s1, s5, hx, hw0, e1]
 refine aop_call' (c_markText (ki + 1) (by omega) (by omega)) ?_
 simp [s0, s1, s5, hx, hw0, e1]
 (repeat refine sqA ?_); refine AWp.condF (by simp) ?_
 refine AWp.skip ?_
 try simp
 have hw1 : IntKind.wrap .i64 (ki + 1 + 1) = ki + 1 + 1 := wrap64 (by omega) (by omega)
 (repeat refine sqA ?_); refine rgA (by kernel_rfl) ?_
 simp [s0, s1, s5, hx, hw0, hw1]
 obtain ⟨e2, hH1⟩ := hH1.int_inv
 have hle2 := hH1.le
 (repeat refine sqA ?_); refine rgA (by kernel_rfl) ?_
 simp [s0, s1, s5, hx, hw0, hw1, e2]
 (repeat refine sqA ?_); refine AWp.condF (by simp) ?_
 refine AWp.skip ?_
 try simp
 have hw2 : IntKind.wrap .i64 (ki + 1 + 1 + 1) = ki + 1 + 1 + 1 := wrap64 (by omega) (by omega)
 (repeat refine sqA ?_); refine rgA (by kernel_rfl) ?_
 simp [s0, s1, s5, hx, hw0, hw1, hw2]
 obtain ⟨e3, hH1⟩ := hH1.int_inv
 have hle3 := hH1.le
 (repeat refine sqA ?_); refine rgA (by kernel_rfl) ?_
 simp [s0, s1, s5, hx, hw0, hw1, hw2, e3]
 (repeat refine sqA ?_); refine AWp.condF (by simp) ?_
 refine AWp.skip ?_
 try simp
 have hw3 : IntKind.wrap .i64 (ki + 1 + 1 + 1 + 1) = ki + 1 + 1 + 1 + 1 := wrap64 (by omega) (by omega)
 (repeat refine sqA ?_); refine rgA (by kernel_rfl) ?_
 simp [s0, s1, s5, hx, hw0, hw1, hw2, hw3]
 obtain ⟨e4, hH1⟩ := hH1.str_inv
 have hle4 := hH1.le
 (repeat refine sqA ?_); refine AWp.regionG (fun _ => true) (fun _ => false) [0, 1, 2, 3, 4, 5, 6, 7, 8] [0, 1, 2, 3, 4, 5, 6, 7, 8] (by kernel_rfl) ?_
 simp [s0, s1, s5, hx, hw0, hw1, hw2, hw3, e4]
 refine aop_call' (c_markText (ki + 1 + 1 + 1 + 1) (by omega) (by omega)) ?_
 simp [s0, s1, s5, hx, hw0, hw1, hw2, hw3, e4]
 (repeat refine sqA ?_); refine AWp.condF (by simp) ?_
 refine AWp.skip ?_
 try simp
 have hw4 : IntKind.wrap .i64 (ki + 1 + 1 + 1 + 1 + 1) = ki + 1 + 1 + 1 + 1 + 1 := wrap64 (by omega) (by omega)
 (repeat refine sqA ?_); refine rgA (by kernel_rfl) ?_
 simp [s0, s1, s5, hx, hw0, hw1, hw2, hw3, hw4]
 obtain ⟨k5, hr5, hH1⟩ := hH1.lst_inv
 have hle5 := hH1.le
 have hlr5 := hr5.le
 (repeat refine sqA ?_); refine AWp.region allP (by kernel_rfl) ?_
 simp [s0, s1, s5, hx, hw0, hw1, hw2, hw3, hw4]
 refine aop_call' (c_heldExpS b5 (ki + 1 + 1 + 1 + 1 + 1) k5 (by omega) (by omega) hr5) ?_
 simp [s0, s1, s5, hx, hw0, hw1, hw2, hw3, hw4]
 (repeat refine sqA ?_); refine rgA (by kernel_rfl) ?_
 simp [s0, s1, s5, hx, hw0, hw1, hw2, hw3, hw4]
 (repeat refine sqA ?_); refine AWp.condF (by simp; omega) ?_
 refine AWp.skip ?_
 try simp
 obtain ⟨e6, hH1⟩ := hH1.int_inv
 have hle6 := hH1.le
 (repeat refine sqA ?_); refine rgA (by kernel_rfl) ?_
 simp [s0, s1, s5, hx, hw0, hw1, hw2, hw3, hw4, e6]
 (repeat refine sqA ?_); refine AWp.condF (by simp) ?_
 refine AWp.skip ?_
 try simp
 have hw6 : IntKind.wrap .i64 (k5 + 1) = k5 + 1 := wrap64 (by omega) (by omega)
 (repeat refine sqA ?_); refine rgA (by kernel_rfl) ?_
 simp [s0, s1, s5, hx, hw0, hw1, hw2, hw3, hw4, hw6]
 obtain ⟨e7, hH1⟩ := hH1.int_inv
 have hle7 := hH1.le
 (repeat refine sqA ?_); refine rgA (by kernel_rfl) ?_
 simp [s0, s1, s5, hx, hw0, hw1, hw2, hw3, hw4, hw6, e7]
 (repeat refine sqA ?_); refine AWp.condF (by simp) ?_
 refine AWp.skip ?_
 try simp
 have hw7 : IntKind.wrap .i64 (k5 + 1 + 1) = k5 + 1 + 1 := wrap64 (by omega) (by omega)
 (repeat refine sqA ?_); refine rgA (by kernel_rfl) ?_
 simp [s0, s1, s5, hx, hw0, hw1, hw2, hw3, hw4, hw6, hw7]
 obtain ⟨e8, hH1⟩ := hH1.str_inv
 have hle8 := hH1.le
 (repeat refine sqA ?_); refine AWp.regionG (fun _ => true) (fun _ => false) [0, 1, 2, 3, 4, 5, 6, 7, 8] [0, 1, 2, 3, 4, 5, 6, 7, 8] (by kernel_rfl) ?_
 simp [s0, s1, s5, hx, hw0, hw1, hw2, hw3, hw4, hw6, hw7, e8]
 refine aop_call' (c_markText (k5 + 1 + 1) (by omega) (by omega)) ?_
 simp [s0, s1, s5, hx, hw0, hw1, hw2, hw3, hw4, hw6, hw7, e8]
 (repeat refine sqA ?_); refine AWp.condF (by simp) ?_
 refine AWp.skip ?_
 try simp
 have hw8 : IntKind.wrap .i64 (k5 + 1 + 1 + 1) = k5 + 1 + 1 + 1 := wrap64 (by omega) (by omega)
 (repeat refine sqA ?_); refine rgA (by kernel_rfl) ?_
 simp [s0, s1, s5, hx, hw0, hw1, hw2, hw3, hw4, hw6, hw7, hw8]
 obtain ⟨k9, hr9, hH1⟩ := hH1.lst_inv
 have hle9 := hH1.le
 have hlr9 := hr9.le
 (repeat refine sqA ?_); refine AWp.region allP (by kernel_rfl) ?_
 simp [s0, s1, s5, hx, hw0, hw1, hw2, hw3, hw4, hw6, hw7, hw8]
 refine aop_call' (c_heldExpS b9 (k5 + 1 + 1 + 1) k9 (by omega) (by omega) hr9) ?_
 simp [s0, s1, s5, hx, hw0, hw1, hw2, hw3, hw4, hw6, hw7, hw8]
 (repeat refine sqA ?_); refine rgA (by kernel_rfl) ?_
 simp [s0, s1, s5, hx, hw0, hw1, hw2, hw3, hw4, hw6, hw7, hw8]
 (repeat refine sqA ?_); refine AWp.condF (by simp; omega) ?_
 refine AWp.skip ?_
 try simp
 obtain ⟨e10, hH1⟩ := hH1.int_inv
 have hle10 := hH1.le
 (repeat refine sqA ?_); refine rgA (by kernel_rfl) ?_
 simp [s0, s1, s5, hx, hw0, hw1, hw2, hw3, hw4, hw6, hw7, hw8, e10]
 (repeat refine sqA ?_); refine AWp.condF (by simp) ?_
 refine AWp.skip ?_
 try simp
 have hw10 : IntKind.wrap .i64 (k9 + 1) = k9 + 1 := wrap64 (by omega) (by omega)
 (repeat refine sqA ?_); refine rgA (by kernel_rfl) ?_
 simp [s0, s1, s5, hx, hw0, hw1, hw2, hw3, hw4, hw6, hw7, hw8, hw10]
 obtain ⟨e11, hH1⟩ := hH1.int_inv
 have hle11 := hH1.le
 (repeat refine sqA ?_); refine rgA (by kernel_rfl) ?_
 simp [s0, s1, s5, hx, hw0, hw1, hw2, hw3, hw4, hw6, hw7, hw8, hw10, e11]
 (repeat refine sqA ?_); refine AWp.condF (by simp) ?_
 refine AWp.skip ?_
 try simp
 have hw11 : IntKind.wrap .i64 (k9 + 1 + 1) = k9 + 1 + 1 := wrap64 (by omega) (by omega)
 (repeat refine sqA ?_); refine rgA (by kernel_rfl) ?_
 simp [s0, s1, s5, hx, hw0, hw1, hw2, hw3, hw4, hw6, hw7, hw8, hw10, hw11]
 obtain ⟨e12, hH1⟩ := hH1.str_inv
 have hle12 := hH1.le
 (repeat refine sqA ?_); refine AWp.regionG (fun _ => true) (fun _ => false) [0, 1, 2, 3, 4, 5, 6, 7, 8] [0, 1, 2, 3, 4, 5, 6, 7, 8] (by kernel_rfl) ?_
 simp [s0, s1, s5, hx, hw0, hw1, hw2, hw3, hw4, hw6, hw7, hw8, hw10, hw11, e12]
 refine aop_call' (c_markText (k9 + 1 + 1) (by omega) (by omega)) ?_
 simp [s0, s1, s5, hx, hw0, hw1, hw2, hw3, hw4, hw6, hw7, hw8, hw10, hw11, e12]
 (repeat refine sqA ?_); refine AWp.condF (by simp) ?_
 refine AWp.skip ?_
 try simp
 have hw12 : IntKind.wrap .i64 (k9 + 1 + 1 + 1) = k9 + 1 + 1 + 1 := wrap64 (by omega) (by omega)
 (repeat refine sqA ?_); refine rgA (by kernel_rfl) ?_
 simp [s0, s1, s5, hx, hw0, hw1, hw2, hw3, hw4, hw6, hw7, hw8, hw10, hw11, hw12]
 obtain ⟨k13, hr13, hH1⟩ := hH1.lst_inv
 have hle13 := hH1.le
 have hlr13 := hr13.le
 (repeat refine sqA ?_); refine AWp.region allP (by kernel_rfl) ?_
 simp [s0, s1, s5, hx, hw0, hw1, hw2, hw3, hw4, hw6, hw7, hw8, hw10, hw11, hw12]
 refine aop_call' (c_heldExpS b13 (k9 + 1 + 1 + 1) k13 (by omega) (by omega) hr13) ?_
 simp [s0, s1, s5, hx, hw0, hw1, hw2, hw3, hw4, hw6, hw7, hw8, hw10, hw11, hw12]
 (repeat refine sqA ?_); refine rgA (by kernel_rfl) ?_
 simp [s0, s1, s5, hx, hw0, hw1, hw2, hw3, hw4, hw6, hw7, hw8, hw10, hw11, hw12]
 (repeat refine sqA ?_); refine AWp.condF (by simp; omega) ?_
 refine AWp.skip ?_
 try simp
 obtain ⟨e14, hH1⟩ := hH1.int_inv
 have hle14 := hH1.le
 (repeat refine sqA ?_); refine rgA (by kernel_rfl) ?_
 simp [s0, s1, s5, hx, hw0, hw1, hw2, hw3, hw4, hw6, hw7, hw8, hw10, hw11, hw12, e14]
 (repeat refine sqA ?_); refine AWp.condF (by simp) ?_
 refine AWp.skip ?_
 try simp
 have hw14 : IntKind.wrap .i64 (k13 + 1) = k13 + 1 := wrap64 (by omega) (by omega)
 (repeat refine sqA ?_); refine rgA (by kernel_rfl) ?_
 simp [s0, s1, s5, hx, hw0, hw1, hw2, hw3, hw4, hw6, hw7, hw8, hw10, hw11, hw12, hw14]
 obtain ⟨e15, hH1⟩ := hH1.int_inv
 have hle15 := hH1.le
 (repeat refine sqA ?_); refine rgA (by kernel_rfl) ?_
 simp [s0, s1, s5, hx, hw0, hw1, hw2, hw3, hw4, hw6, hw7, hw8, hw10, hw11, hw12, hw14, e15]
 (repeat refine sqA ?_); refine AWp.condF (by simp) ?_
 refine AWp.skip ?_
 try simp
 have hw15 : IntKind.wrap .i64 (k13 + 1 + 1) = k13 + 1 + 1 := wrap64 (by omega) (by omega)
 (repeat refine sqA ?_); refine rgA (by kernel_rfl) ?_
 simp [s0, s1, s5, hx, hw0, hw1, hw2, hw3, hw4, hw6, hw7, hw8, hw10, hw11, hw12, hw14, hw15]
 obtain ⟨e16, hH1⟩ := hH1.str_inv
 have hle16 := hH1.le
 (repeat refine sqA ?_); refine AWp.regionG (fun _ => true) (fun _ => false) [0, 1, 2, 3, 4, 5, 6, 7, 8] [0, 1, 2, 3, 4, 5, 6, 7, 8] (by kernel_rfl) ?_
 simp [s0, s1, s5, hx, hw0, hw1, hw2, hw3, hw4, hw6, hw7, hw8, hw10, hw11, hw12, hw14, hw15, e16]
 refine aop_call' (c_markText (k13 + 1 + 1) (by omega) (by omega)) ?_
 simp [s0, s1, s5, hx, hw0, hw1, hw2, hw3, hw4, hw6, hw7, hw8, hw10, hw11, hw12, hw14, hw15, e16]
 (repeat refine sqA ?_); refine AWp.condF (by simp) ?_
 refine AWp.skip ?_
 try simp
 have hw16 : IntKind.wrap .i64 (k13 + 1 + 1 + 1) = k13 + 1 + 1 + 1 := wrap64 (by omega) (by omega)
 (repeat refine sqA ?_); refine rgA (by kernel_rfl) ?_
 simp [s0, s1, s5, hx, hw0, hw1, hw2, hw3, hw4, hw6, hw7, hw8, hw10, hw11, hw12, hw14, hw15, hw16]
 obtain ⟨k17, hr17, hH1⟩ := hH1.lst_inv
 have hle17 := hH1.le
 have hlr17 := hr17.le
 (repeat refine sqA ?_); refine AWp.region allP (by kernel_rfl) ?_
 simp [s0, s1, s5, hx, hw0, hw1, hw2, hw3, hw4, hw6, hw7, hw8, hw10, hw11, hw12, hw14, hw15, hw16]
 refine aop_call' (c_heldExpS b17 (k13 + 1 + 1 + 1) k17 (by omega) (by omega) hr17) ?_
 simp [s0, s1, s5, hx, hw0, hw1, hw2, hw3, hw4, hw6, hw7, hw8, hw10, hw11, hw12, hw14, hw15, hw16]
 (repeat refine sqA ?_); refine rgA (by kernel_rfl) ?_
 simp [s0, s1, s5, hx, hw0, hw1, hw2, hw3, hw4, hw6, hw7, hw8, hw10, hw11, hw12, hw14, hw15, hw16]
 (repeat refine sqA ?_); refine AWp.condF (by simp; omega) ?_
 refine AWp.skip ?_
 try simp
 obtain ⟨k18, hr18, hH1⟩ := hH1.lst_inv
 have hle18 := hH1.le
 have hlr18 := hr18.le
 (repeat refine sqA ?_); refine AWp.region allP (by kernel_rfl) ?_
 simp [s0, s1, s5, hx, hw0, hw1, hw2, hw3, hw4, hw6, hw7, hw8, hw10, hw11, hw12, hw14, hw15, hw16]
 refine aop_call' ((show HdS b18 from hr _ hmem) (k17) k18 (by omega) (by omega) hr18) ?_
 simp [s0, s1, s5, hx, hw0, hw1, hw2, hw3, hw4, hw6, hw7, hw8, hw10, hw11, hw12, hw14, hw15, hw16]
 (repeat refine sqA ?_); refine rgA (by kernel_rfl) ?_
 simp [s0, s1, s5, hx, hw0, hw1, hw2, hw3, hw4, hw6, hw7, hw8, hw10, hw11, hw12, hw14, hw15, hw16]
 (repeat refine sqA ?_); refine AWp.condF (by simp; omega) ?_
 refine AWp.skip ?_
 try simp
 have hz := Held.nil_inv hH1
 subst hz
 (repeat refine sqA ?_); refine rgA (by kernel_rfl) ?_
 simp [s0, s1, s5, hx, hw0, hw1, hw2, hw3, hw4, hw6, hw7, hw8, hw10, hw11, hw12, hw14, hw15, hw16, hwi]
 exact hR _ (l.length - (i + 1)) (by omega) ⟨i + 1, kz, rfl, hlt, by omega, hH2, by simp [s0], by simp [s0, s1, s5, hx, hw0, hw1, hw2, hw3, hw4, hw6, hw7, hw8, hw10, hw11, hw12, hw14, hw15, hw16], by simp⟩
theorem hd_stmt (e : Sm) : HdS e.body := by
 induction e using Sm.ind with | h k s a e lo hi b h => exact fun k k' h0 hb hH => c_heldStmtS0 b h k k' h0 hb hH
theorem c_heldStmtS (l : List Sm) : HdS l := hd_stmt (Sm.mk 0 ⟨#[]⟩ zE zE zE zE l)
def Pg.cntP' (p : Pg) : Nat := AV.cnts (p.arrs.map Ar.av) + AV.cnts (p.body.map Sm.av)
def Pg.HeldP' (p : Pg) (k k' : Int) : Prop := Held [.lst false 2 (p.arrs.map Ar.av), .lst false 19 (p.body.map Sm.av)] k k'
theorem mk_Prog' (p : Pg) : MarkC Tryz.prog 22 Pg.av Pg.HeldP' p p.cntP' := fun m F v h k h0 hb K hK => by
 unfold BIG Pg.cntP' at hb
 unfold Pg.cntP' at hK
 refine c_markProg p h k h0 (by omega) fun m' l0 l1 ho hO hH => ?_
 have e : k + (AV.cnts (p.arrs.map Ar.av) : Int) + (AV.cnts (p.body.map Sm.av) : Int) = k + ((AV.cnts (p.arrs.map Ar.av) + AV.cnts (p.body.map Sm.av) : Nat) : Int) := by omega
 rw [e] at hH ⊢
 exact hK m' ⟨l0, l1⟩ ho hO hH
theorem hd_Prog' : HeldC Tryz.prog 23 Pg.av Pg.HeldP' := fun p k k' h0 hb hH => by
 unfold BIG at hb
 obtain ⟨k1, hA, hH⟩ := Held.lst_inv hH
 obtain ⟨k2, hB, hH⟩ := Held.lst_inv hH
 have hz := Held.nil_inv hH
 subst hz
 have hka := hA.le
 have hkb := hB.le
 refine pcall_of Tryz.func23 (by kernel_rfl) rfl (by simp [Tryz.f23]) ?_
 (repeat refine sqA ?_); refine rgA (by kernel_rfl) ?_
 simp [Pg.av, Pg.cells]
 intro g2
 (repeat refine sqA ?_); refine rgA (by kernel_rfl) ?_
 simp
 refine aop_call' (c_heldArrS p.arrs k k1 h0 (by omega) hA) ?_
 simp
 (repeat refine sqA ?_); refine rgA (by kernel_rfl) ?_
 simp
 (repeat refine sqA ?_); refine AWp.condF (by simp; omega) ?_
 refine AWp.skip ?_
 try simp
 (repeat refine sqA ?_); refine rgA (by kernel_rfl) ?_
 simp
 refine aop_call' (c_heldStmtS p.body k1 _ (by omega) (by omega) hB) ?_
 simp
 (repeat refine sqA ?_); refine rgA (by kernel_rfl) ?_
 simp
 (repeat refine sqA ?_); refine AWp.condF (by simp; omega) ?_
 refine AWp.skip ?_
 try simp
 (repeat refine sqA ?_); refine rgA (by kernel_rfl) ?_
 simp
 exact AWp.ret (post_ret1 rfl (by simp))
end Go.T
namespace Go.T
open Go Go.Proofs
set_option maxRecDepth 10000
set_option maxHeartbeats 1000000
open Go
/-- What looks like x is new behind m0. -/
structure Tv (m0 m : Mem) (F : Nat → Prop) (r x : AV) : Prop where
 own : OwnT m F r x
 new : ∀ g, F g → m0 g = none ∧ m g ≠ none
theorem Tv.off {gr : Nat} {m0 m m' : Mem} {F : Nat → Prop} {r e : AV} (h : Tv m0 m F r e) (hgr : m0 gr ≠ none) (hO : Off gr m m') : Tv m0 m' F r e := by
 have k : ∀ b, F b → m' b = m b := fun b hb => off_at hO (by rintro rfl; exact hgr (h.new _ hb).1) (h.new b hb).2
 exact ⟨h.own.mem k, fun g hg => ⟨(h.new g hg).1, by rw [k g hg]; exact (h.new g hg).2⟩⟩
theorem Tv.set {m0 m : Mem} {F : Nat → Prop} {r e : AV} (h : Tv m0 m F r e) {g : Nat} (hg : ¬ F g) (b : Blk) : Tv m0 (m.set g b) F r e := by
 have k : ∀ x, F x → (m.set g b) x = m x := fun x hx => Mem.set_other (by rintro rfl; exact hg hx)
 exact ⟨h.own.mem k, fun x hx => ⟨(h.new x hx).1, by rw [k x hx]; exact (h.new x hx).2⟩⟩
theorem Tv.base {gr : Nat} {m0 m1 m : Mem} {F : Nat → Prop} {r e : AV} (h : Tv m1 m F r e) (hO : Off gr m0 m1) (hgr : m1 gr ≠ none) : Tv m0 m F r e :=
 ⟨h.own, fun g hg => ⟨off_none hO hgr (h.new g hg).1, (h.new g hg).2⟩⟩
theorem Tv.not {m0 m : Mem} {F : Nat → Prop} {r e : AV} (h : Tv m0 m F r e) {g : Nat} (hg : m0 g ≠ none) : ¬ F g := fun hF => hg (h.new g hF).1
theorem Tv.fresh {m0 m : Mem} {F : Nat → Prop} {r e : AV} (h : Tv m0 m F r e) {g : Nat} (hg : m g = none) : ¬ F g := fun hF => (h.new g hF).2 hg
/-- A parser's box, boxes of one's own and trees of whatever kind, apart from each other. -/
structure QH (m1 : Mem) (gr : Nat) (T : List Tk) (a : Nat) (d : Int) (bad : Bool) (bs : List (Nat × List AV)) (ts : List ((Nat → Prop) × AV × AV)) (m : Mem) : Prop where
 ps : PS gr T a d bad m
 off : Off gr m1 m
 bx : ∀ b ∈ bs, m b.1 = some (.box b.2) ∧ b.1 ≠ gr ∧ m1 b.1 = none
 bd : bs.Pairwise fun x y => x.1 ≠ y.1
 tr : ∀ t ∈ ts, Tv m1 m t.1 t.2.1 t.2.2 ∧ ∀ b ∈ bs, ¬ t.1 b.1
 td : ts.Pairwise fun x y => ∀ g, x.1 g → ¬ y.1 g
section
variable {m1 m m' : Mem} {gr : Nat} {T : List Tk} {a a' : Nat} {d d' : Int} {bad bad' : Bool} {bs : List (Nat × List AV)} {ts : List ((Nat → Prop) × AV × AV)}
theorem QH.start (h : PS gr T a d bad m) : QH m gr T a d bad [] [] m := ⟨h, Off.refl _ _, by simp, .nil, by simp, .nil⟩
theorem QH.box1 (h : QH m1 gr T a d bad bs ts m) {g : Nat} {cs : List AV} (hb : (g, cs) ∈ bs) : m g = some (.box cs) := (h.bx _ hb).1
theorem QH.call (h : QH m1 gr T a d bad bs ts m) (h1 : m1 gr ≠ none) (hO : Off gr m m') (hP : PS gr T a' d' bad' m') : QH m1 gr T a' d' bad' bs ts m' :=
 ⟨hP, h.off.trans hO, fun b hb => ⟨hO _ _ (h.bx b hb).2.1 (h.bx b hb).1, (h.bx b hb).2⟩, h.bd, fun t ht => ⟨(h.tr t ht).1.off h1 hO, (h.tr t ht).2⟩, h.td⟩
theorem QH.treeV (h : QH m1 gr T a d bad bs ts m) (h1 : m1 gr ≠ none) (hO : Off gr m m') (hP : PS gr T a' d' bad' m') {F : Nat → Prop} {r x : AV} (hT : Tv m m' F r x) : QH m1 gr T a' d' bad' bs ((F, r, x) :: ts) m' := by
 have k := h.call h1 hO hP
 refine ⟨k.ps, k.off, k.bx, k.bd, fun t ht => ?_, List.pairwise_cons.2 ⟨fun t ht g hg hq => ?_, k.td⟩⟩
 ·rcases List.mem_cons.1 ht with rfl | ht
  ·exact ⟨hT.base h.off h.ps.at, fun b hb => hT.not (by rw [(h.bx b hb).1]; simp)⟩
  ·exact k.tr t ht
 ·exact ((h.tr t ht).1.new g hq).2 (hT.new g hg).1
theorem QH.tree (h : QH m1 gr T a d bad bs ts m) (h1 : m1 gr ≠ none) (hO : Off gr m m') (hP : PS gr T a' d' bad' m') {F : Nat → Prop} {r : AV} {e : Ex} (hT : Tr m m' F r e) : QH m1 gr T a' d' bad' bs ((F, r, e.av) :: ts) m' := h.treeV h1 hO hP ⟨hT.own, hT.new⟩
theorem QH.box (h : QH m1 gr T a d bad bs ts m) (h1 : m1 gr ≠ none) {g : Nat} (hg : m g = none) (cs : List AV) : QH m1 gr T a d bad ((g, cs) :: bs) ts (m.set g (.box cs)) := by
 have hne : g ≠ gr := by rintro rfl; exact h.ps.at hg
 have hE := ext_set hg (.box cs)
 have k := h.call h1 (Off.ext hE) (h.ps.off hne (.box cs))
 refine ⟨k.ps, k.off, fun b hb => ?_, List.pairwise_cons.2 ⟨fun b hb e => ?_, k.bd⟩, fun t ht => ⟨(k.tr t ht).1, fun b hb => ?_⟩, k.td⟩
 ·rcases List.mem_cons.1 hb with rfl | hb
  ·exact ⟨set_same _ _ _, hne, off_none h.off h.ps.at hg⟩
  ·exact k.bx b hb
 ·have := (h.bx b hb).1
  rw [← e] at this
  simp only at this
  rw [hg] at this
  cases this
 ·rcases List.mem_cons.1 hb with rfl | hb
  ·exact (h.tr t ht).1.fresh hg
  ·exact (k.tr t ht).2 b hb
theorem QH.put {l1 l2 : List (Nat × List AV)} {g : Nat} {cs : List AV} (h : QH m1 gr T a d bad (l1 ++ (g, cs) :: l2) ts m) (cs' : List AV) : QH m1 gr T a d bad (l1 ++ (g, cs') :: l2) ts (m.set g (.box cs')) := by
 have hg := h.bx (g, cs) (by simp)
 have hd := List.pairwise_append.1 h.bd
 have hd2 := List.pairwise_cons.1 hd.2.1
 have ho : ∀ b, b ∈ l1 ∨ b ∈ l2 → b.1 ≠ g := fun b hb => by
  rcases hb with hb | hb
  ·exact hd.2.2 b hb (g, cs) (by simp)
  ·exact Ne.symm (hd2.1 b hb)
 refine ⟨h.ps.off hg.2.1 _, fun k x hk hx => ?_, fun b hb => ?_, ?_, fun t ht => ?_, h.td⟩
 ·have hne : k ≠ g := by rintro rfl; rw [hg.2.2] at hx; cases hx
  rw [Mem.set_other hne]
  exact h.off k x hk hx
 ·rcases List.mem_append.1 hb with hb | hb
  ·have := h.bx b (by simp [hb])
   exact ⟨by rw [Mem.set_other (ho b (.inl hb))]; exact this.1, this.2⟩
  ·rcases List.mem_cons.1 hb with rfl | hb
   ·exact ⟨set_same _ _ _, hg.2⟩
   ·have := h.bx b (by simp [hb])
    exact ⟨by rw [Mem.set_other (ho b (.inr hb))]; exact this.1, this.2⟩
 ·exact List.pairwise_append.2 ⟨hd.1, List.pairwise_cons.2 ⟨fun b hb => hd2.1 b hb, hd2.2⟩, fun x hx y hy => by
   rcases List.mem_cons.1 hy with rfl | hy
   ·exact hd.2.2 x hx (g, cs) (by simp)
   ·exact hd.2.2 x hx y (by simp [hy])⟩
 ·have hT := h.tr t ht
  refine ⟨hT.1.set (hT.2 (g, cs) (by simp)) _, fun b hb => ?_⟩
  rcases List.mem_append.1 hb with hb | hb
  ·exact hT.2 b (by simp [hb])
  ·rcases List.mem_cons.1 hb with rfl | hb
   ·exact hT.2 (g, cs) (by simp)
   ·exact hT.2 b (by simp [hb])
theorem QH.less (h : QH m1 gr T a d bad bs ts m) {bs' : List (Nat × List AV)} {ts' : List ((Nat → Prop) × AV × AV)} (hb : bs'.Sublist bs) (ht : ts'.Sublist ts) : QH m1 gr T a d bad bs' ts' m :=
 ⟨h.ps, h.off, fun b k => h.bx b (hb.subset k), h.bd.sublist hb, fun t k => ⟨(h.tr t (ht.subset k)).1, fun b q => (h.tr t (ht.subset k)).2 b (hb.subset q)⟩, h.td.sublist ht⟩
theorem QH.fresh (h : QH m1 gr T a d bad bs ts m) (h1 : m1 gr ≠ none) {g : Nat} (hg : m g = none) (b : Blk) : QH m1 gr T a d bad bs ts (m.set g b) := by
 have hne : g ≠ gr := by rintro rfl; exact h.ps.at hg
 exact h.call h1 (Off.ext (ext_set hg b)) (h.ps.off hne b)
/-- What is no address: a tree without blocks. -/
theorem QH.plain (h : QH m1 gr T a d bad bs ts m) {r x : AV} (hx : OwnT m (fun _ => False) r x) : QH m1 gr T a d bad bs ((fun _ => False, r, x) :: ts) m := by
 refine ⟨h.ps, h.off, h.bx, h.bd, fun t ht => ?_, List.pairwise_cons.2 ⟨fun t ht x hx => hx.elim, h.td⟩⟩
 rcases List.mem_cons.1 ht with rfl | ht
 ·exact ⟨⟨hx, fun _ h => h.elim⟩, fun _ _ h => h⟩
 ·exact h.tr t ht
/-- A tree for another one, of the same blocks. -/
theorem QH.as_ {F : Nat → Prop} {r x r' x' : AV} (h : QH m1 gr T a d bad bs ((F, r, x) :: ts) m) (hx : OwnT m F r x → OwnT m F r' x') : QH m1 gr T a d bad bs ((F, r', x') :: ts) m := by
 refine ⟨h.ps, h.off, h.bx, h.bd, fun t ht => ?_, List.pairwise_cons.2 ⟨fun t ht => (List.pairwise_cons.1 h.td).1 t ht, (List.pairwise_cons.1 h.td).2⟩⟩
 have h0 := h.tr (F, r, x) (by simp)
 rcases List.mem_cons.1 ht with rfl | ht
 ·exact ⟨⟨hx h0.1.own, h0.1.new⟩, h0.2⟩
 ·exact h.tr t (by simp [ht])
theorem QH.swap {s t : (Nat → Prop) × AV × AV} (h : QH m1 gr T a d bad bs (s :: t :: ts) m) : QH m1 gr T a d bad bs (t :: s :: ts) m := by
 have d1 := List.pairwise_cons.1 h.td
 have d2 := List.pairwise_cons.1 d1.2
 refine ⟨h.ps, h.off, h.bx, h.bd, fun x hx => h.tr x ?_, List.pairwise_cons.2 ⟨fun x hx g hg hq => ?_, List.pairwise_cons.2 ⟨fun x hx => d1.1 x (by simp [hx]), d2.2⟩⟩⟩
 ·simp only [List.mem_cons] at hx ⊢
  rcases hx with h | h | h
  ·exact .inr (.inl h)
  ·exact .inl h
  ·exact .inr (.inr h)
 ·rcases List.mem_cons.1 hx with rfl | hx
  ·exact d1.1 t (by simp) g hq hg
  ·exact d2.1 x hx g hg hq
/-- Two trees come together. -/
theorem QH.join {F G : Nat → Prop} {r x s y r' x' : AV} (h : QH m1 gr T a d bad bs ((G, s, y) :: (F, r, x) :: ts) m) (hx : OwnT m F r x → OwnT m G s y → (∀ g, F g → ¬ G g) → OwnT m (fun g => F g ∨ G g) r' x') : QH m1 gr T a d bad bs (((fun g => F g ∨ G g), r', x') :: ts) m := by
 have d1 := List.pairwise_cons.1 h.td
 have d2 := List.pairwise_cons.1 d1.2
 have hG := h.tr (G, s, y) (by simp)
 have hF := h.tr (F, r, x) (by simp)
 refine ⟨h.ps, h.off, h.bx, h.bd, fun t ht => ?_, List.pairwise_cons.2 ⟨fun t ht g hg hq => ?_, d2.2⟩⟩
 ·rcases List.mem_cons.1 ht with rfl | ht
  ·refine ⟨⟨hx hF.1.own hG.1.own fun g h1 h2 => d1.1 (F, r, x) (by simp) g h2 h1, fun g hg => ?_⟩, fun b hb hg => ?_⟩
   ·exact hg.elim (hF.1.new g) (hG.1.new g)
   ·exact hg.elim (hF.2 b hb) (hG.2 b hb)
  ·exact h.tr t (by simp [ht])
 ·rcases hg with hg | hg
  ·exact d2.1 t ht g hg hq
  ·exact d1.1 t (by simp [ht]) g hg hq
/-- Some of the cells are others now. -/
theorem own_part {m : Mem} {F G : Nat → Prop} {u o v o' x y z y' : List AV} (h : OwnT m F (.agg (u ++ (o ++ v))) (.agg (x ++ (y ++ z)))) (hu : u.length = x.length) (ho : o.length = y.length) (k : OwnT m G (.agg o') (.agg y')) (hd : ∀ g, F g → ¬ G g) : OwnT m (fun g => F g ∨ G g) (.agg (u ++ (o' ++ v))) (.agg (x ++ (y' ++ z))) := by
 cases h with | agg h1 hok =>
 cases k with | agg h2 hok' =>
 obtain ⟨A, R, x1, r1, e1, l1, k1, k2, d1, s1, s2⟩ := OwnTs.split h1
 obtain ⟨rfl, rfl⟩ := List.append_inj e1 (by omega)
 obtain ⟨B, C, y1, z1, e2, l2, k3, k4, d2, s3, s4⟩ := OwnTs.split k2
 obtain ⟨rfl, rfl⟩ := List.append_inj e2 (by omega)
 refine .agg (OwnTs.append (A := A) (B := fun g => G g ∨ C g) k1 (OwnTs.append (A := G) (B := C) h2 k4 (fun g hg hc => hd g (s2 g (s4 g hc)) hg) (fun _ h => .inl h) (fun _ h => .inr h)) (fun g hg hq => hq.elim (hd g (s1 g hg)) (fun hc => d1 g hg (s4 g hc))) (fun g hg => .inl (s1 g hg)) (fun g hg => hg.elim .inr (fun hc => .inl (s2 g (s4 g hc))))) ?_
 simp only [List.all_append, Bool.and_eq_true] at hok ⊢
 exact ⟨hok.1, hok', hok.2.2⟩
/-- A row of one's own that grows: where it lies. -/
def RowV (E : TypeId) (n : Nat) (F : Nat → Prop) (v : AV) (len : Nat) (m : Mem) : Prop := (v = .lst true 0 [] ∧ len = 0) ∨ ∃ g c ys, v = .own g len c ∧ F g ∧ m g = some (.arr E n c ys)
theorem RowV.keep {E : TypeId} {n len : Nat} {F : Nat → Prop} {v : AV} (h : RowV E n F v len m) (hk : ∀ g, F g → m' g = m g) : RowV E n F v len m' := by
 rcases h with h | ⟨g, c, ys, h1, h2, h3⟩
 ·exact .inl h
 ·exact .inr ⟨g, c, ys, h1, h2, by rw [hk g h2]; exact h3⟩
theorem RowV.ok {E : TypeId} {n len : Nat} {F : Nat → Prop} {v : AV} (h : RowV E n F v len m) : v.cells = [v] ∧ okCell v = true ∧ v ≠ .undef := by
 rcases h with ⟨rfl, _⟩ | ⟨g, c, ys, rfl, h2, h3⟩ <;> exact ⟨rfl, rfl, by simp⟩
theorem QH.same (h : QH m1 gr T a d bad bs ts m) (h1 : m1 gr ≠ none) {F : Nat → Prop} {r x : AV} (ht : (F, r, x) ∈ ts) (hO : Off gr m m') : ∀ g, F g → m' g = m g := fun g hg => off_at hO (by rintro rfl; exact h1 ((h.tr _ ht).1.new _ hg).1) ((h.tr _ ht).1.new g hg).2
theorem QH.samePut (h : QH m1 gr T a d bad bs ts m) {F : Nat → Prop} {r x : AV} (ht : (F, r, x) ∈ ts) {g : Nat} {cs : List AV} (hb : (g, cs) ∈ bs) (b : Blk) : ∀ k, F k → (m.set g b) k = m k := fun k hk => Mem.set_other (by rintro rfl; exact (h.tr _ ht).2 _ hb hk)
theorem QH.sameNew (h : QH m1 gr T a d bad bs ts m) {F : Nat → Prop} {r x : AV} (ht : (F, r, x) ∈ ts) {g : Nat} (hg : m g = none) (b : Blk) : ∀ k, F k → (m.set g b) k = m k := fun k hk => Mem.set_other (by rintro rfl; exact ((h.tr _ ht).1.new _ hk).2 hg)
/-- One more behind a row of one's own. -/
theorem QH.app {P : Program} {Ty E : TypeId} {n b : Nat} (hT : ElemT P Ty E n b) {F G : Nat → Prop} {v x s : AV} {l cx : List AV} (h : QH m1 gr T a d bad bs ((G, .agg cx, x) :: (F, v, .lst false n l) :: ts) m) (h1 : m1 gr ≠ none) (hv : RowV E n F v l.length m)
  (hs : srcA m n s = some [.agg cx]) (hb : (2 * (l.length + 1) + 1024) * b ≤ 281474976710656) {k : AV → Mem → Prop}
  (hk : ∀ F' v' m', QH m1 gr T a d bad bs ((F', v', .lst false n (l ++ [x])) :: ts) m' → RowV E n F' v' (l ++ [x]).length m' → (∀ t ∈ ts, ∀ q, t.1 q → m' q = m q) → k v' m') : appendW P m k #[Ty, Ty] v s := by
 obtain ⟨z, hz, hzl⟩ := hT.zero
 have hG := h.tr (G, .agg cx, x) (by simp)
 have hF := h.tr (F, v, .lst false n l) (by simp)
 have d1 := List.pairwise_cons.1 h.td
 have d2 := List.pairwise_cons.1 d1.2
 have hokx : ∀ y ∈ [AV.agg cx], y.cells.all okCell = true := by
  intro y hy
  rw [List.mem_singleton] at hy
  subst hy
  cases hG.1.own with | agg _ hok => exact hok
 unfold appendW
 simp only [List.getElem?_toArray, List.getElem?_cons_zero, List.getElem?_cons_succ, hT.int, hT.elem, hT.size, hT.byte, hz, hs, true_and]
 refine ⟨hT.pos.1, hT.pos.2, hzl, ?_⟩
 -- what comes of it, in the row's block or in a new one
 have fin : ∀ (g' c' : Nat) (ys : List AV) (G0 : Nat → Prop), OwnTs m G0 ys l → ys.length = l.length → (∀ b, G0 b → F b) → ¬ G0 g' → (F g' ∨ m g' = none) → k (.own g' (l.length + 1) c') (m.set g' (.arr E n c' (ys ++ [.agg cx]))) := by
  intro g' c' ys G0 hO hl hsub hn hg'
  have n1 : ¬ G g' := fun hg => hg'.elim (fun hf => d1.1 (F, v, .lst false n l) (by simp) g' hg hf) (fun hf => (hG.1.new g' hg).2 hf)
  have hm1 : m1 g' = none := hg'.elim (fun hf => (hF.1.new g' hf).1) (fun hf => off_none h.off h.ps.at hf)
  have hne : g' ≠ gr := by rintro rfl; exact h1 hm1
  have hbx : ∀ b ∈ bs, b.1 ≠ g' := fun b hb e => by
   rcases hg' with hf | hf
   ·exact hF.2 b hb (by rw [e]; exact hf)
   ·have := (h.bx b hb).1; rw [e, hf] at this; cases this
  have hts : ∀ t ∈ ts, ¬ t.1 g' := fun t ht hq => by
   rcases hg' with hf | hf
   ·exact d2.1 t ht g' hf hq
   ·exact ((h.tr t (by simp [ht])).1.new g' hq).2 hf
  have k0 : ∀ b, G0 b → (m.set g' (.arr E n c' (ys ++ [.agg cx]))) b = m b := fun b hb => Mem.set_other (by rintro rfl; exact hn hb)
  have kG : ∀ b, G b → (m.set g' (.arr E n c' (ys ++ [.agg cx]))) b = m b := fun b hb => Mem.set_other (by rintro rfl; exact n1 hb)
  have own : OwnT (m.set g' (.arr E n c' (ys ++ [.agg cx]))) (fun b => (G0 b ∨ G b) ∨ b = g') (.own g' (l.length + 1) c') (.lst false n (l ++ [x])) :=
   .own (G := fun b => G0 b ∨ G b) (set_same _ _ _) (by simp [hl]) (OwnTs.snoc (hO.mem k0) (hG.1.own.mem kG) fun g h2 h3 => d1.1 (F, v, .lst false n l) (by simp) g h3 (hsub g h2)) (fun h => h.elim hn n1) (fun _ h => .inl h) (.inr rfl)
  refine hk (fun b => (G0 b ∨ G b) ∨ b = g') _ _ ⟨h.ps.off hne _, fun g x hg hx => ?_, fun b hb => ?_, h.bd, fun t ht => ?_, List.pairwise_cons.2 ⟨fun t ht g hg hq => ?_, d2.2⟩⟩ (.inr ⟨g', c', _, by simp, .inr rfl, set_same _ _ _⟩) (fun t ht q hq => Mem.set_other (by rintro rfl; exact hts t ht hq))
  ·have hg2 : g ≠ g' := by rintro rfl; rw [hm1] at hx; cases hx
   rw [Mem.set_other hg2]
   exact h.off g x hg hx
  ·rw [Mem.set_other (hbx b hb)]
   exact h.bx b hb
  ·rcases List.mem_cons.1 ht with rfl | ht
   ·refine ⟨⟨own, fun g hg => ?_⟩, fun b hb hg => ?_⟩
    ·rcases hg with (hg | hg) | rfl
     ·rw [k0 g hg]; exact hF.1.new g (hsub g hg)
     ·rw [kG g hg]; exact hG.1.new g hg
     ·exact ⟨hm1, by rw [set_same]; simp⟩
    ·rcases hg with (hg | hg) | hg
     ·exact hF.2 b hb (hsub _ hg)
     ·exact hG.2 b hb hg
     ·exact hbx b hb hg
   ·have := h.tr t (by simp [ht])
    exact ⟨this.1.set (hts t ht) _, this.2⟩
  ·rcases hg with (hg | hg) | rfl
   ·exact d2.1 t ht g (hsub g hg) hq
   ·exact d1.1 t (by simp [ht]) g hg hq
   ·exact hts t ht hq
 rcases hv with ⟨rfl, h0⟩ | ⟨g, c, ys0, rfl, hFg, hmg⟩
 ·have hl : l = [] := List.eq_nil_of_length_eq_zero h0
  subst hl
  refine ⟨.inr rfl, by simpa using hb, ⟨fun h0 => (by cases h0), fun _ g c hg hle => ?_⟩⟩
  have := fin g c [] (fun _ => False) .nil rfl (fun _ h => h.elim) id (.inr hg)
  simpa using this
 ·cases hF.1.own with
  | @own _ G0 _ _ _ _ T0 ys _ k1 k2 k3 k4 k5 k6 =>
   rw [hmg] at k1
   obtain ⟨rfl, -, -, rfl⟩ : E = T0 ∧ n = n ∧ c = c ∧ ys0 = ys := by
    simp only [Option.some.injEq, Blk.arr.injEq] at k1
    exact ⟨k1.1, rfl, rfl, k1.2.2.2⟩
   simp only [hmg]
   refine ⟨trivial, trivial, trivial, k2, hokx, by simpa [k2] using hb, fun g' c' hg' hle => ?_⟩
   have := fin g' c' ys0 G0 k3 k2 k5 (by
    rcases hg' with rfl | hg'
    ·exact k4
    ·exact fun hq => (hF.1.new g' (k5 _ hq)).2 hg') (hg'.imp (fun e => by rw [e]; exact hFg) id)
   simpa [k2] using this
/-- The last of three first but one. -/
theorem QH.rot {s t u : (Nat → Prop) × AV × AV} (h : QH m1 gr T a d bad bs (s :: t :: u :: ts) m) : QH m1 gr T a d bad bs (s :: u :: t :: ts) m := by
 have d1 := List.pairwise_cons.1 h.td
 have d2 := List.pairwise_cons.1 d1.2
 have d3 := List.pairwise_cons.1 d2.2
 refine ⟨h.ps, h.off, h.bx, h.bd, fun x hx => h.tr x ?_, List.pairwise_cons.2 ⟨fun x hx => d1.1 x ?_, List.pairwise_cons.2 ⟨fun x hx g hg hq => ?_, List.pairwise_cons.2 ⟨fun x hx => d2.1 x (by simp [hx]), d3.2⟩⟩⟩⟩
 ·simp only [List.mem_cons] at hx ⊢
  rcases hx with h | h | h | h
  ·exact .inl h
  ·exact .inr (.inr (.inl h))
  ·exact .inr (.inl h)
  ·exact .inr (.inr (.inr h))
 ·simp only [List.mem_cons] at hx ⊢
  rcases hx with h | h | h
  ·exact .inr (.inl h)
  ·exact .inl h
  ·exact .inr (.inr h)
 ·rcases List.mem_cons.1 hx with rfl | hx
  ·exact d2.1 u (by simp) g hq hg
  ·exact d3.1 x hx g hg hq
end
theorem c_takeK {gr : Nat} {T : List Tk} {a : Nat} {d : Int} {bad : Bool} {m : Mem} (h : PS gr T a d bad m) (hT : ∀ t ∈ T, t.fine) (s : ByteArray) (hs : 2 ≤ s.size) {K : AV → Mem → Prop}
  (hK : ∀ m' a' b', PS gr T a' d b' m' → Off gr m m' → Run1 (kpR s) T a bad () a' b' → K (.tup []) m') : WCall Tryz.prog 54 [.ptr gr 0, .str s] m K :=
 c_take h s fun m' hP hO => hK m' _ _ hP hO (kpR_run hT hs _ rfl)
theorem c_kindName {gr : Nat} {T : List Tk} {a : Nat} {d : Int} {bad : Bool} {m : Mem} (h : PS gr T a d bad m) {K : AV → Mem → Prop}
  (hK : ∀ m' s k n a' b', PS gr T a' d b' m' → Off gr m m' → Run1 nmP T a bad s a' b' → K (.agg [.int .i64 k, .str s, .int .i64 n]) m') : WCall Tryz.prog 53 [.ptr gr 0, .int .i64 1] m K :=
 c_kind h 1 (by omega) fun m' hP hO => hK m' _ _ _ _ _ hP hO (nmP_run _ rfl)
theorem c_kindNum {gr : Nat} {T : List Tk} {a : Nat} {d : Int} {bad : Bool} {m : Mem} (h : PS gr T a d bad m) {K : AV → Mem → Prop}
  (hK : ∀ m' s k n a' b', PS gr T a' d b' m' → Off gr m m' → Run1 numP T a bad n a' b' → K (.agg [.int .i64 k, .str s, .int .i64 n]) m') : WCall Tryz.prog 53 [.ptr gr 0, .int .i64 2] m K :=
 c_kind h 2 (by omega) fun m' hP hO => hK m' _ _ _ _ _ hP hO (numP_run _ rfl)
end Go.T
namespace Go.T
open Go Go.Proofs
set_option maxRecDepth 10000
set_option maxHeartbeats 1000000
open Go
def loopPm : Nat → PA Sm
 | 0 => fun _ => none
 | d + 1 => loopP (stmtP d)
theorem stmtP_loop {d : Nat} {T : List Tk} {a a' : Nat} {b' : Bool} {x : Sm} (hlt : a < T.length) (hm : T[a].is 3 forB = true) (h : Run1 (loopPm d) T (a + 1) false x a' b') : Run1 (stmtP d) T a false x a' b' := by
 cases d with
 | zero =>
  have := h.ill (.inr rfl)
  subst this
  exact stmtP_for0 hlt hm
 | succ d => exact stmtP_for hlt hm h
/-- What the call of a statement's reader comes to. -/
def StmtC (P : Program) (n : FuncId) (k : Int) (f : PA Sm) : Prop :=
 ∀ (gr : Nat) (T : List Tk) (a : Nat) (d : Int) (bad : Bool) (m : Mem), PS gr T a d bad m → (∀ t ∈ T, t.fine) → (bad = false → d = 0) → ∀ K : AV → Mem → Prop,
  (∀ m' F cs x a' d' bad', PS gr T a' d' bad' m' → Off gr m m' → Tv m m' F (.agg cs) (Sm.av x) → Run1 f T a bad x a' bad' → (bad' = false → d' = 0) → K (.agg cs) m') → WCall P n [.ptr gr 0, .int .i64 k] m K
theorem OwnTs.c0 {m : Mem} {a x : AV} {us xs : List AV} (h : OwnT m (fun _ => False) a x) (k : OwnTs m (fun _ => False) us xs) : OwnTs m (fun _ => False) (a :: us) (x :: xs) := .cons h k (fun _ h _ => h) (fun _ h => h) (fun _ h => h)
theorem zS_own (m : Mem) : OwnT m (fun _ => False) (.agg [.int .i64 0, .str ByteArray.empty, .int .i64 0, .int .i64 0, .str ByteArray.empty, .lst true 0 [], .int .i64 0, .int .i64 0, .str ByteArray.empty, .lst true 0 [], .int .i64 0, .int .i64 0, .str ByteArray.empty, .lst true 0 [], .int .i64 0, .int .i64 0, .str ByteArray.empty, .lst true 0 [], .lst true 0 []]) (Sm.mk 0 ⟨#[]⟩ zE zE zE zE []).av := by
 show OwnT m _ _ (.agg (Sm.cells _))
 rw [Sm.cells_mk]
 unfold zE
 simp only [Ex.cells_mk, List.map_nil, List.cons_append, List.nil_append]
 exact .agg (by repeat (first | exact .nil | refine OwnTs.c0 (by first | exact .int _ _ | exact .str _ | exact .nil _ _ _) ?_)) rfl
theorem own_ks {m : Mem} {F : Nat → Prop} {k k' : Int} {s s' : ByteArray} {a e lo hi : Ex} {b : List Sm} {v : List AV} (h : OwnT m F (.agg (.int .i64 k :: .str s :: v)) (Sm.mk k s a e lo hi b).av) : OwnT m F (.agg (.int .i64 k' :: .str s' :: v)) (Sm.mk k' s' a e lo hi b).av := by
 have e1 : ∀ k s, (Sm.mk k s a e lo hi b).av = .agg (.int .i64 k :: .str s :: (a.cells ++ (e.cells ++ (lo.cells ++ (hi.cells ++ [.lst false 19 (b.map Sm.av)]))))) := fun k s => by show AV.agg _ = _; rw [Sm.cells_mk]
 rw [e1] at h ⊢
 cases h with | agg h hok =>
 cases h with | cons h1 h2 h3 h4 h5 =>
 cases h2 with | cons k1 k2 k3 k4 k5 =>
 exact .agg (.cons (A := fun _ => False) (.int _ _) (.cons (A := fun _ => False) (B := F) (F := F) (.str _) (k2.up fun g hg => h5 g (k5 g hg)) (fun _ h => h.elim) (fun _ h => h.elim) fun _ h => h) (fun _ h => h.elim) (fun _ h => h.elim) fun _ h => h) (by simpa using hok)
theorem own_a {m : Mem} {F G : Nat → Prop} {k : Int} {s : ByteArray} {a a' e lo hi : Ex} {b : List Sm} {u o o' v : List AV} (hu : u.length = 2) (ho : o.length = 4) (h : OwnT m F (.agg (u ++ (o ++ v))) (Sm.mk k s a e lo hi b).av) (h2 : OwnT m G (.agg o') a'.av) (hd : ∀ g, F g → ¬ G g) : OwnT m (fun g => F g ∨ G g) (.agg (u ++ (o' ++ v))) (Sm.mk k s a' e lo hi b).av := by
 have e1 : ∀ a, (Sm.mk k s a e lo hi b).av = .agg ([.int .i64 k, .str s] ++ (a.cells ++ (e.cells ++ (lo.cells ++ (hi.cells ++ [.lst false 19 (b.map Sm.av)]))))) := fun a => by show AV.agg _ = _; rw [Sm.cells_mk]; rfl
 rw [e1] at h ⊢
 exact own_part h (by simp [hu]) (by simp [ho]) h2 hd
theorem own_e {m : Mem} {F G : Nat → Prop} {k : Int} {s : ByteArray} {a e e' lo hi : Ex} {b : List Sm} {u o o' v : List AV} (hu : u.length = 6) (ho : o.length = 4) (h : OwnT m F (.agg (u ++ (o ++ v))) (Sm.mk k s a e lo hi b).av) (h2 : OwnT m G (.agg o') e'.av) (hd : ∀ g, F g → ¬ G g) : OwnT m (fun g => F g ∨ G g) (.agg (u ++ (o' ++ v))) (Sm.mk k s a e' lo hi b).av := by
 have e1 : ∀ e, (Sm.mk k s a e lo hi b).av = .agg ((.int .i64 k :: .str s :: a.cells) ++ (e.cells ++ (lo.cells ++ (hi.cells ++ [.lst false 19 (b.map Sm.av)])))) := fun e => by show AV.agg _ = _; rw [Sm.cells_mk]; rfl
 rw [e1] at h ⊢
 exact own_part h (by simp [hu]) (by simp [ho]) h2 hd
theorem own_lo {m : Mem} {F G : Nat → Prop} {k : Int} {s : ByteArray} {a e lo lo' hi : Ex} {b : List Sm} {u o o' v : List AV} (hu : u.length = 10) (ho : o.length = 4) (h : OwnT m F (.agg (u ++ (o ++ v))) (Sm.mk k s a e lo hi b).av) (h2 : OwnT m G (.agg o') lo'.av) (hd : ∀ g, F g → ¬ G g) : OwnT m (fun g => F g ∨ G g) (.agg (u ++ (o' ++ v))) (Sm.mk k s a e lo' hi b).av := by
 have e1 : ∀ lo, (Sm.mk k s a e lo hi b).av = .agg ((.int .i64 k :: .str s :: (a.cells ++ e.cells)) ++ (lo.cells ++ (hi.cells ++ [.lst false 19 (b.map Sm.av)]))) := fun lo => by show AV.agg _ = _; rw [Sm.cells_mk]; simp
 rw [e1] at h ⊢
 exact own_part h (by simp [hu]) (by simp [ho]) h2 hd
theorem own_hi {m : Mem} {F G : Nat → Prop} {k : Int} {s : ByteArray} {a e lo hi hi' : Ex} {b : List Sm} {u o o' v : List AV} (hu : u.length = 14) (ho : o.length = 4) (h : OwnT m F (.agg (u ++ (o ++ v))) (Sm.mk k s a e lo hi b).av) (h2 : OwnT m G (.agg o') hi'.av) (hd : ∀ g, F g → ¬ G g) : OwnT m (fun g => F g ∨ G g) (.agg (u ++ (o' ++ v))) (Sm.mk k s a e lo hi' b).av := by
 have e1 : ∀ hi, (Sm.mk k s a e lo hi b).av = .agg ((.int .i64 k :: .str s :: (a.cells ++ (e.cells ++ lo.cells))) ++ (hi.cells ++ [.lst false 19 (b.map Sm.av)])) := fun hi => by show AV.agg _ = _; rw [Sm.cells_mk]; simp
 rw [e1] at h ⊢
 exact own_part h (by simp [hu]) (by simp [ho]) h2 hd
theorem own_body {m : Mem} {F G : Nat → Prop} {k : Int} {s : ByteArray} {a e lo hi : Ex} {b b' : List Sm} {u : List AV} {o o' : AV} (hu : u.length = 18) (h : OwnT m F (.agg (u ++ [o])) (Sm.mk k s a e lo hi b).av) (h2 : OwnT m G o' (.lst false 19 (b'.map Sm.av))) (hd : ∀ g, F g → ¬ G g) : OwnT m (fun g => F g ∨ G g) (.agg (u ++ [o'])) (Sm.mk k s a e lo hi b').av := by
 have e1 : ∀ b : List Sm, (Sm.mk k s a e lo hi b).av = .agg ((.int .i64 k :: .str s :: (a.cells ++ (e.cells ++ (lo.cells ++ hi.cells)))) ++ ([.lst false 19 (b.map Sm.av)] ++ [])) := fun b => by show AV.agg _ = _; rw [Sm.cells_mk]; simp
 rw [e1] at h ⊢
 have hk : OwnT m G (.agg [o']) (.agg [.lst false 19 (b'.map Sm.av)]) := .agg (.cons (A := G) (B := fun _ => False) h2 .nil (fun _ _ h => h) (fun _ h => h) fun _ h => h.elim) (by simp [h2.okc.1])
 exact own_part (u := u) (o := [o]) (v := []) (o' := [o']) (y' := [.lst false 19 (b'.map Sm.av)]) (z := []) h (by simp [hu]) rfl hk hd
theorem own_19 {m : Mem} {F : Nat → Prop} {cs : List AV} {x : Sm} (h : OwnT m F (.agg cs) x.av) : cs.length = 19 ∧ (∀ c ∈ cs, okCell c = true) ∧ List.take 19 cs = cs := by
 have h0 : OwnT m F (.agg cs) (.agg x.cells) := h
 have hl := h0.len
 cases h with | agg h1 hok =>
 have hl2 : cs.length = 19 := by simpa [AV.cells] using hl
 exact ⟨hl2, List.all_eq_true.1 hok, List.take_of_length_le (by omega)⟩
theorem c_stmt0 (d : Nat) (hL : StmtC Tryz.prog 115 (4 - (d : Int)) (loopPm d)) : StmtC Tryz.prog 55 (4 - (d : Int)) (stmtP d) := by
 intro gr T a dd bad m hP hT hd0 K hK
 have hgr := hP.at
 have eE : ByteArray.empty = (⟨#[]⟩ : ByteArray) := rfl
 refine wcall_of Tryz.func55 (by kernel_rfl) rfl (by simp [Tryz.f55]) ?_
 (repeat refine sqA ?_); refine rgA (by kernel_rfl) ?_
 simp
 intro g4 hg4
 have h := (QH.start hP).box hgr hg4 [.int .i64 0, .str ByteArray.empty, .int .i64 0, .int .i64 0, .str ByteArray.empty, .lst true 0 [], .int .i64 0, .int .i64 0, .str ByteArray.empty, .lst true 0 [], .int .i64 0, .int .i64 0, .str ByteArray.empty, .lst true 0 [], .int .i64 0, .int .i64 0, .str ByteArray.empty, .lst true 0 [], .lst true 0 []]
 refine AWp.gen (fun st => st.slots 0 = .ptr gr 0 ∧ st.slots 1 = .int .i64 (4 - (d : Int)) ∧ st.slots 4 = .ptr g4 0 ∧ st.mem = m.set g4 (.box [.int .i64 0, .str ByteArray.empty, .int .i64 0, .int .i64 0, .str ByteArray.empty, .lst true 0 [], .int .i64 0, .int .i64 0, .str ByteArray.empty, .lst true 0 [], .int .i64 0, .int .i64 0, .str ByteArray.empty, .lst true 0 [], .int .i64 0, .int .i64 0, .str ByteArray.empty, .lst true 0 [], .lst true 0 []])) ⟨by simp, by simp, by simp, by simp⟩ ?_
 generalize m.set g4 (.box [.int .i64 0, .str ByteArray.empty, .int .i64 0, .int .i64 0, .str ByteArray.empty, .lst true 0 [], .int .i64 0, .int .i64 0, .str ByteArray.empty, .lst true 0 [], .int .i64 0, .int .i64 0, .str ByteArray.empty, .lst true 0 [], .int .i64 0, .int .i64 0, .str ByteArray.empty, .lst true 0 [], .lst true 0 []]) = m1 at *
 rintro st ⟨s0, s1, s4, sm⟩
 (repeat refine sqA ?_); refine rgA (by kernel_rfl) ?_
 simp [sm]
 intro g5 hg5
 have h := (h.box hgr hg5 [.int .i64 0, .str ByteArray.empty, .int .i64 0, .int .i64 0, .str ByteArray.empty, .lst true 0 [], .int .i64 0, .int .i64 0, .str ByteArray.empty, .lst true 0 [], .int .i64 0, .int .i64 0, .str ByteArray.empty, .lst true 0 [], .int .i64 0, .int .i64 0, .str ByteArray.empty, .lst true 0 [], .lst true 0 []]).plain (zS_own _)
 refine AWp.gen (fun st => st.slots 0 = .ptr gr 0 ∧ st.slots 1 = .int .i64 (4 - (d : Int)) ∧ st.slots 4 = .ptr g4 0 ∧ st.slots 5 = .ptr g5 0 ∧ st.mem = m1.set g5 (.box [.int .i64 0, .str ByteArray.empty, .int .i64 0, .int .i64 0, .str ByteArray.empty, .lst true 0 [], .int .i64 0, .int .i64 0, .str ByteArray.empty, .lst true 0 [], .int .i64 0, .int .i64 0, .str ByteArray.empty, .lst true 0 [], .int .i64 0, .int .i64 0, .str ByteArray.empty, .lst true 0 [], .lst true 0 []])) ⟨by simp [s0], by simp [s1], by simp [s4], by simp, by simp⟩ ?_
 generalize m1.set g5 (.box [.int .i64 0, .str ByteArray.empty, .int .i64 0, .int .i64 0, .str ByteArray.empty, .lst true 0 [], .int .i64 0, .int .i64 0, .str ByteArray.empty, .lst true 0 [], .int .i64 0, .int .i64 0, .str ByteArray.empty, .lst true 0 [], .int .i64 0, .int .i64 0, .str ByteArray.empty, .lst true 0 [], .lst true 0 []]) = m2 at *
 clear s0 s1 s4 sm
 rintro st ⟨s0, s1, s4, s5, sm⟩
 obtain ⟨M, hM⟩ : ∃ M : St → Prop, M = (fun st => ∃ k s A c0 c1 c2 c3 F a1 d1 b1, st.slots 0 = .ptr gr 0 ∧ st.slots 4 = .ptr g4 0 ∧ st.slots 5 = .ptr g5 0 ∧ QH m gr T a1 d1 b1 [(g5, [.int .i64 k, .str s, c0, c1, c2, c3, .int .i64 0, .int .i64 0, .str ByteArray.empty, .lst true 0 [], .int .i64 0, .int .i64 0, .str ByteArray.empty, .lst true 0 [], .int .i64 0, .int .i64 0, .str ByteArray.empty, .lst true 0 [], .lst true 0 []]), (g4, [.int .i64 0, .str ByteArray.empty, .int .i64 0, .int .i64 0, .str ByteArray.empty, .lst true 0 [], .int .i64 0, .int .i64 0, .str ByteArray.empty, .lst true 0 [], .int .i64 0, .int .i64 0, .str ByteArray.empty, .lst true 0 [], .int .i64 0, .int .i64 0, .str ByteArray.empty, .lst true 0 [], .lst true 0 []])] [(F, .agg [.int .i64 k, .str s, c0, c1, c2, c3, .int .i64 0, .int .i64 0, .str ByteArray.empty, .lst true 0 [], .int .i64 0, .int .i64 0, .str ByteArray.empty, .lst true 0 [], .int .i64 0, .int .i64 0, .str ByteArray.empty, .lst true 0 [], .lst true 0 []], (Sm.mk k s A zE zE zE []).av)] st.mem ∧ (b1 = false → d1 = 0) ∧ ∀ e a2 b2, Run1 (exEnd 59) T a1 b1 e a2 b2 → Run1 (stmtP d) T a bad (Sm.mk k s A e zE zE []) a2 b2) := ⟨_, rfl⟩
 (repeat refine sqA ?_); refine AWp.cutA M ?_ ?_
 ·(repeat refine sqA ?_); refine AWp.block ?_
  (repeat refine sqA ?_); refine rgA (by kernel_rfl) ?_
  simp [s0]
  refine aop_wcall _ _ _ _ _ _ _ _ rfl (eval_func _ _) ?_
  simp [sm]
  refine c_skip h.ps forB fun m3 hPn hOn => ?_
  try simp
  have h := h.call hgr hOn hPn
  clear hPn hOn
  cases hi : isT (hdT T a bad) forB with
  | true =>
   obtain ⟨rfl, hlt, hmk⟩ := isT_word hT (by decide) hi
   rw [hi] at h
   simp at h
   (repeat refine sqA ?_); refine AWp.condT (by simp) ?_
   (repeat refine sqA ?_); refine rgA (by kernel_rfl) ?_
   simp [s0, s1]
   refine aop_wcall _ _ _ _ _ _ _ _ rfl (eval_func _ _) ?_
   try simp
   refine hL gr T (a + 1) dd false _ h.ps hT hd0 _ fun m4 F cs x a' d' b' hPn hOn hTn run hdd => ?_
   have h := h.treeV hgr hOn hPn hTn
   clear hPn hOn
   obtain ⟨hl, hok, htk⟩ := own_19 hTn.own
   have w4 := h.box1 (g := g4) (cs := [.int .i64 0, .str ByteArray.empty, .int .i64 0, .int .i64 0, .str ByteArray.empty, .lst true 0 [], .int .i64 0, .int .i64 0, .str ByteArray.empty, .lst true 0 [], .int .i64 0, .int .i64 0, .str ByteArray.empty, .lst true 0 [], .int .i64 0, .int .i64 0, .str ByteArray.empty, .lst true 0 [], .lst true 0 []]) (by simp)
   simp [s4, w4, hl, htk]
   try refine ⟨hok, ?_⟩
   have q := QH.put (l1 := [(g5, [.int .i64 0, .str ByteArray.empty, .int .i64 0, .int .i64 0, .str ByteArray.empty, .lst true 0 [], .int .i64 0, .int .i64 0, .str ByteArray.empty, .lst true 0 [], .int .i64 0, .int .i64 0, .str ByteArray.empty, .lst true 0 [], .int .i64 0, .int .i64 0, .str ByteArray.empty, .lst true 0 [], .lst true 0 []])]) (cs' := cs) h
   refine AWp.ret ⟨[.agg cs], .agg cs, _, by simp [Tryz.f55, resA, s4, htk, hl], by (try simp); exact View.refl _ _, hK _ F cs x _ _ _ q.ps q.off (q.tr _ (List.mem_cons_self ..)).1 (stmtP_loop hlt hmk run) hdd⟩
  | false =>
   have hnf := isT_word_no hT (by decide) hi
   rw [hi] at h
   simp at h
   (repeat refine sqA ?_); refine AWp.condF (by simp) ?_
   refine AWp.gen (fun st => st.slots 0 = .ptr gr 0 ∧ st.slots 4 = .ptr g4 0 ∧ st.slots 5 = .ptr g5 0 ∧ st.mem = m3) ⟨by simp [s0], by simp [s4], by simp [s5], by simp⟩ ?_
   clear s0 s1 s4 s5 sm
   rintro st ⟨s0, s4, s5, sm⟩
   (repeat refine sqA ?_); refine rgA (by kernel_rfl) ?_
   simp [s0]
   refine aop_wcall _ _ _ _ _ _ _ _ rfl (eval_func _ _) ?_
   simp [sm]
   refine c_skip h.ps printB fun m4 hPn hOn => ?_
   try simp
   have h := h.call hgr hOn hPn
   clear hPn hOn hi
   cases hi : isT (hdT T a bad) printB with
   | true =>
    obtain ⟨rfl, hlt, hmk⟩ := isT_word hT (by decide) hi
    rw [hi] at h
    simp at h
    have w5 := h.box1 (g := g5) (cs := [.int .i64 0, .str ByteArray.empty, .int .i64 0, .int .i64 0, .str ByteArray.empty, .lst true 0 [], .int .i64 0, .int .i64 0, .str ByteArray.empty, .lst true 0 [], .int .i64 0, .int .i64 0, .str ByteArray.empty, .lst true 0 [], .int .i64 0, .int .i64 0, .str ByteArray.empty, .lst true 0 [], .lst true 0 []]) (by simp)
    (repeat refine sqA ?_); refine AWp.condT (by simp) ?_
    (repeat refine sqA ?_); refine rgA (by kernel_rfl) ?_
    simp [s5, w5]
    have h := ((QH.put (l1 := []) (cs' := [.int .i64 4, .str ByteArray.empty, .int .i64 0, .int .i64 0, .str ByteArray.empty, .lst true 0 [], .int .i64 0, .int .i64 0, .str ByteArray.empty, .lst true 0 [], .int .i64 0, .int .i64 0, .str ByteArray.empty, .lst true 0 [], .int .i64 0, .int .i64 0, .str ByteArray.empty, .lst true 0 [], .lst true 0 []]) h).as_ (own_ks (k' := 4) (s' := ByteArray.empty)))
    subst hM
    refine ⟨4, ByteArray.empty, zE, _, _, _, _, _, _, _, _, by simp [s0], by simp [s4], by simp [s5], by simpa using h, fun _ => hd0 rfl, fun e a2 b2 hr => stmtP_plain hnf (plain_print hlt hmk (hr.then_ (Run1.done _ T a2 b2)))⟩
   | false =>
    have hnp := isT_word_no hT (by decide) hi
    rw [hi] at h
    simp at h
    (repeat refine sqA ?_); refine AWp.condF (by simp) ?_
    refine AWp.gen (fun st => st.slots 0 = .ptr gr 0 ∧ st.slots 4 = .ptr g4 0 ∧ st.slots 5 = .ptr g5 0 ∧ st.mem = m4) ⟨by simp [s0], by simp [s4], by simp [s5], by simp⟩ ?_
    clear s0 s4 s5 sm
    rintro st ⟨s0, s4, s5, sm⟩
    (repeat refine sqA ?_); refine rgA (by kernel_rfl) ?_
    simp [s0]
    refine aop_wcall _ _ _ _ _ _ _ _ rfl (eval_func _ _) ?_
    simp [sm]
    refine c_kindName h.ps fun m5 s kk nn a1 b1 hPn hOn run1 => ?_
    have h := h.call hgr hOn hPn
    clear hPn hOn hi
    have was1 := Run1.was run1
    have w5 := h.box1 (g := g5) (cs := [.int .i64 0, .str ByteArray.empty, .int .i64 0, .int .i64 0, .str ByteArray.empty, .lst true 0 [], .int .i64 0, .int .i64 0, .str ByteArray.empty, .lst true 0 [], .int .i64 0, .int .i64 0, .str ByteArray.empty, .lst true 0 [], .int .i64 0, .int .i64 0, .str ByteArray.empty, .lst true 0 [], .lst true 0 []]) (by simp)
    simp [s5, w5]
    have h := ((QH.put (l1 := []) (cs' := [.int .i64 1, .str s, .int .i64 0, .int .i64 0, .str ByteArray.empty, .lst true 0 [], .int .i64 0, .int .i64 0, .str ByteArray.empty, .lst true 0 [], .int .i64 0, .int .i64 0, .str ByteArray.empty, .lst true 0 [], .int .i64 0, .int .i64 0, .str ByteArray.empty, .lst true 0 [], .lst true 0 []]) h).as_ (own_ks (k' := 1) (s' := s)))
    refine AWp.gen (fun st => st.slots 0 = .ptr gr 0 ∧ st.slots 4 = .ptr g4 0 ∧ st.slots 5 = .ptr g5 0 ∧ st.mem = m5.set g5 (.box [.int .i64 1, .str s, .int .i64 0, .int .i64 0, .str ByteArray.empty, .lst true 0 [], .int .i64 0, .int .i64 0, .str ByteArray.empty, .lst true 0 [], .int .i64 0, .int .i64 0, .str ByteArray.empty, .lst true 0 [], .int .i64 0, .int .i64 0, .str ByteArray.empty, .lst true 0 [], .lst true 0 []])) ⟨by simp [s0], by simp [s4], by simp [s5], by simp⟩ ?_
    generalize m5.set g5 (.box [.int .i64 1, .str s, .int .i64 0, .int .i64 0, .str ByteArray.empty, .lst true 0 [], .int .i64 0, .int .i64 0, .str ByteArray.empty, .lst true 0 [], .int .i64 0, .int .i64 0, .str ByteArray.empty, .lst true 0 [], .int .i64 0, .int .i64 0, .str ByteArray.empty, .lst true 0 [], .lst true 0 []]) = m6 at *
    clear s0 s4 s5 sm
    rintro st ⟨s0, s4, s5, sm⟩
    (repeat refine sqA ?_); refine rgA (by kernel_rfl) ?_
    simp [s0]
    refine aop_wcall _ _ _ _ _ _ _ _ rfl (eval_func _ _) ?_
    simp [sm]
    refine c_skip h.ps (ch 91) fun m7 hPn hOn => ?_
    try simp
    have h := h.call hgr hOn hPn
    clear hPn hOn
    obtain ⟨M2, hM2⟩ : ∃ M2 : St → Prop, M2 = (fun st => ∃ k A c0 c1 c2 c3 F a1 d1 b1, st.slots 0 = .ptr gr 0 ∧ st.slots 4 = .ptr g4 0 ∧ st.slots 5 = .ptr g5 0 ∧ QH m gr T a1 d1 b1 [(g5, [.int .i64 k, .str s, c0, c1, c2, c3, .int .i64 0, .int .i64 0, .str ByteArray.empty, .lst true 0 [], .int .i64 0, .int .i64 0, .str ByteArray.empty, .lst true 0 [], .int .i64 0, .int .i64 0, .str ByteArray.empty, .lst true 0 [], .lst true 0 []]), (g4, [.int .i64 0, .str ByteArray.empty, .int .i64 0, .int .i64 0, .str ByteArray.empty, .lst true 0 [], .int .i64 0, .int .i64 0, .str ByteArray.empty, .lst true 0 [], .int .i64 0, .int .i64 0, .str ByteArray.empty, .lst true 0 [], .int .i64 0, .int .i64 0, .str ByteArray.empty, .lst true 0 [], .lst true 0 []])] [(F, .agg [.int .i64 k, .str s, c0, c1, c2, c3, .int .i64 0, .int .i64 0, .str ByteArray.empty, .lst true 0 [], .int .i64 0, .int .i64 0, .str ByteArray.empty, .lst true 0 [], .int .i64 0, .int .i64 0, .str ByteArray.empty, .lst true 0 [], .lst true 0 []], (Sm.mk k s A zE zE zE []).av)] st.mem ∧ (b1 = false → d1 = 0) ∧ ∀ e a2 b2 a3 b3, Run1 (tkR (ch 61)) T a1 b1 () a2 b2 → Run1 (exEnd 59) T a2 b2 e a3 b3 → Run1 (stmtP d) T a bad (Sm.mk k s A e zE zE []) a3 b3) := ⟨_, rfl⟩
    (repeat refine sqA ?_); refine AWp.cutA M2 ?_ ?_
    ·cases hi : isT (hdT T a1 b1) (ch 91) with
     | true =>
      obtain ⟨rfl, hlt, hmk⟩ := is_mark_at hT hi
      rw [hi] at h
      simp at h
      have w5 := h.box1 (g := g5) (cs := [.int .i64 1, .str s, .int .i64 0, .int .i64 0, .str ByteArray.empty, .lst true 0 [], .int .i64 0, .int .i64 0, .str ByteArray.empty, .lst true 0 [], .int .i64 0, .int .i64 0, .str ByteArray.empty, .lst true 0 [], .int .i64 0, .int .i64 0, .str ByteArray.empty, .lst true 0 [], .lst true 0 []]) (by simp)
      refine AWp.condT (by simp) ?_
      (repeat refine sqA ?_); refine rgA (by kernel_rfl) ?_
      simp [s5, w5]
      have h := ((QH.put (l1 := []) (cs' := [.int .i64 2, .str s, .int .i64 0, .int .i64 0, .str ByteArray.empty, .lst true 0 [], .int .i64 0, .int .i64 0, .str ByteArray.empty, .lst true 0 [], .int .i64 0, .int .i64 0, .str ByteArray.empty, .lst true 0 [], .int .i64 0, .int .i64 0, .str ByteArray.empty, .lst true 0 [], .lst true 0 []]) h).as_ (own_ks (k' := 2) (s' := s)))
      refine AWp.gen (fun st => st.slots 0 = .ptr gr 0 ∧ st.slots 4 = .ptr g4 0 ∧ st.slots 5 = .ptr g5 0 ∧ st.mem = m7.set g5 (.box [.int .i64 2, .str s, .int .i64 0, .int .i64 0, .str ByteArray.empty, .lst true 0 [], .int .i64 0, .int .i64 0, .str ByteArray.empty, .lst true 0 [], .int .i64 0, .int .i64 0, .str ByteArray.empty, .lst true 0 [], .int .i64 0, .int .i64 0, .str ByteArray.empty, .lst true 0 [], .lst true 0 []])) ⟨by simp [s0], by simp [s4], by simp [s5], by simp⟩ ?_
      generalize m7.set g5 (.box [.int .i64 2, .str s, .int .i64 0, .int .i64 0, .str ByteArray.empty, .lst true 0 [], .int .i64 0, .int .i64 0, .str ByteArray.empty, .lst true 0 [], .int .i64 0, .int .i64 0, .str ByteArray.empty, .lst true 0 [], .int .i64 0, .int .i64 0, .str ByteArray.empty, .lst true 0 [], .lst true 0 []]) = m8 at *
      clear s0 s4 s5 sm w5
      rintro st ⟨s0, s4, s5, sm⟩
      have hdz : dd = 0 := hd0 (was1 rfl)
      (repeat refine sqA ?_); refine rgA (by kernel_rfl) ?_
      simp [s0]
      refine aop_wcall _ _ _ _ _ _ _ _ rfl (eval_func _ _) ?_
      simp [sm]
      refine c_sum 30 (by omega) gr T _ _ _ _ h.ps hT (fun _ => by rw [hdz]; rfl) _ fun m9 F2 r2 e2 a2 d2 b2 hPn hOn hTn run2 hdd2 => ?_
      obtain ⟨c0, c1, c2, c3, rfl, o0, o1, o2, o3⟩ := hTn.cs
      have h := h.tree hgr hOn hPn hTn
      clear hPn hOn hTn
      have was2 := Run1.was run2
      have w5 := h.box1 (g := g5) (cs := [.int .i64 2, .str s, .int .i64 0, .int .i64 0, .str ByteArray.empty, .lst true 0 [], .int .i64 0, .int .i64 0, .str ByteArray.empty, .lst true 0 [], .int .i64 0, .int .i64 0, .str ByteArray.empty, .lst true 0 [], .int .i64 0, .int .i64 0, .str ByteArray.empty, .lst true 0 [], .lst true 0 []]) (by simp)
      simp [o0, o1, o2, o3, s5, w5]
      have h := (QH.put (l1 := []) (cs' := [.int .i64 2, .str s, c0, c1, c2, c3, .int .i64 0, .int .i64 0, .str ByteArray.empty, .lst true 0 [], .int .i64 0, .int .i64 0, .str ByteArray.empty, .lst true 0 [], .int .i64 0, .int .i64 0, .str ByteArray.empty, .lst true 0 [], .lst true 0 []]) h).join (r' := .agg [.int .i64 2, .str s, c0, c1, c2, c3, .int .i64 0, .int .i64 0, .str ByteArray.empty, .lst true 0 [], .int .i64 0, .int .i64 0, .str ByteArray.empty, .lst true 0 [], .int .i64 0, .int .i64 0, .str ByteArray.empty, .lst true 0 [], .lst true 0 []]) (x' := (Sm.mk 2 s e2 zE zE zE []).av) (fun hx hy hd => own_a (u := [.int .i64 2, .str s]) (o := [.int .i64 0, .int .i64 0, .str ByteArray.empty, .lst true 0 []]) (o' := [c0, c1, c2, c3]) rfl rfl hx hy hd)
      refine AWp.gen (fun st => st.slots 0 = .ptr gr 0 ∧ st.slots 4 = .ptr g4 0 ∧ st.slots 5 = .ptr g5 0 ∧ st.mem = m9.set g5 (.box [.int .i64 2, .str s, c0, c1, c2, c3, .int .i64 0, .int .i64 0, .str ByteArray.empty, .lst true 0 [], .int .i64 0, .int .i64 0, .str ByteArray.empty, .lst true 0 [], .int .i64 0, .int .i64 0, .str ByteArray.empty, .lst true 0 [], .lst true 0 []])) ⟨by simp [s0], by simp [s4], by simp [s5], by simp⟩ ?_
      generalize m9.set g5 (.box [.int .i64 2, .str s, c0, c1, c2, c3, .int .i64 0, .int .i64 0, .str ByteArray.empty, .lst true 0 [], .int .i64 0, .int .i64 0, .str ByteArray.empty, .lst true 0 [], .int .i64 0, .int .i64 0, .str ByteArray.empty, .lst true 0 [], .lst true 0 []]) = m10 at *
      clear s0 s4 s5 sm w5
      rintro st ⟨s0, s4, s5, sm⟩
      (repeat refine sqA ?_); refine rgA (by kernel_rfl) ?_
      simp [s0]
      refine aop_wcall _ _ _ _ _ _ _ _ rfl (eval_func _ _) ?_
      simp [sm]
      refine c_takeR h.ps hT 93 fun m11 a3 b3 hPn hOn run3 => ?_
      have h := h.call hgr hOn hPn
      clear hPn hOn
      have was3 := Run1.was run3
      try simp
      subst hM2
      refine ⟨2, e2, c0, c1, c2, c3, _, a3, d2, b3, by simp [s0], by simp [s4], by simp [s5], by simpa using h, fun e => (hdd2 (was3 e)).trans hdz, fun e a4 b4 a5 b5 r4 r5 => ?_⟩
      exact stmtP_plain hnf (plain_name hnp (run1.then_ (asg_put hlt hmk (Run1.then_ (Run1.then_ run2 (run3.then_ (Run1.done _ T a3 b3))) (r4.then_ (r5.then_ (Run1.done _ T a5 b5)))))))
     | false =>
      have hno := not_mark hT hi
      rw [hi] at h
      simp at h
      refine AWp.condF (by simp) ?_
      refine AWp.skip ?_
      subst hM2
      refine ⟨1, zE, _, _, _, _, _, a1, dd, b1, by simp [s0], by simp [s4], by simp [s5], by simpa using h, fun e => hd0 (was1 e), fun e a4 b4 a5 b5 r4 r5 => ?_⟩
      exact stmtP_plain hnf (plain_name hnp (run1.then_ (asg_set hno (r4.then_ (r5.then_ (Run1.done _ T a5 b5))))))
    intro st hst
    subst hM2
    obtain ⟨k, A, c0, c1, c2, c3, F, a2, d2, b2, s0, s4, s5, h, hdd, hrun⟩ := hst
    (repeat refine sqA ?_); refine rgA (by kernel_rfl) ?_
    simp [s0]
    refine aop_wcall _ _ _ _ _ _ _ _ rfl (eval_func _ _) ?_
    try simp
    refine c_takeR h.ps hT 61 fun m11 a3 b3 hPn hOn run3 => ?_
    have h := h.call hgr hOn hPn
    clear hPn hOn
    have was3 := Run1.was run3
    try simp
    subst hM
    exact ⟨k, s, A, c0, c1, c2, c3, F, a3, d2, b3, by simp [s0], by simp [s4], by simp [s5], by simpa using h, fun e => hdd (was3 e), fun e a4 b4 r4 => hrun _ _ _ _ _ run3 r4⟩
 intro st hst
 subst hM
 obtain ⟨k, s, A, c0, c1, c2, c3, F, a1, d1, b1, s0, s4, s5, h, hdd, hrun⟩ := hst
 obtain ⟨n1, sm⟩ : ∃ n1, st.mem = n1 := ⟨_, rfl⟩
 rw [sm] at h
 (repeat refine sqA ?_); refine rgA (by kernel_rfl) ?_
 simp [s0]
 refine aop_wcall _ _ _ _ _ _ _ _ rfl (eval_func _ _) ?_
 simp [sm]
 refine c_sum 30 (by omega) gr T _ _ _ _ h.ps hT (fun e => by rw [hdd e]; rfl) _ fun m9 F2 r2 e2 a2 d2 b2 hPn hOn hTn run2 hdd2 => ?_
 obtain ⟨e0, e1, e2', e3, rfl, o0, o1, o2, o3⟩ := hTn.cs
 have h := h.tree hgr hOn hPn hTn
 clear hPn hOn hTn
 have was2 := Run1.was run2
 have w5 := h.box1 (g := g5) (cs := [.int .i64 k, .str s, c0, c1, c2, c3, .int .i64 0, .int .i64 0, .str ByteArray.empty, .lst true 0 [], .int .i64 0, .int .i64 0, .str ByteArray.empty, .lst true 0 [], .int .i64 0, .int .i64 0, .str ByteArray.empty, .lst true 0 [], .lst true 0 []]) (by simp)
 simp [o0, o1, o2, o3, s5, w5]
 have h := (QH.put (l1 := []) (cs' := [.int .i64 k, .str s, c0, c1, c2, c3, e0, e1, e2', e3, .int .i64 0, .int .i64 0, .str ByteArray.empty, .lst true 0 [], .int .i64 0, .int .i64 0, .str ByteArray.empty, .lst true 0 [], .lst true 0 []]) h).join (r' := .agg [.int .i64 k, .str s, c0, c1, c2, c3, e0, e1, e2', e3, .int .i64 0, .int .i64 0, .str ByteArray.empty, .lst true 0 [], .int .i64 0, .int .i64 0, .str ByteArray.empty, .lst true 0 [], .lst true 0 []]) (x' := (Sm.mk k s A e2 zE zE []).av) (fun hx hy hd => own_e (u := [.int .i64 k, .str s, c0, c1, c2, c3]) (o := [.int .i64 0, .int .i64 0, .str ByteArray.empty, .lst true 0 []]) (o' := [e0, e1, e2', e3]) rfl rfl hx hy hd)
 refine AWp.gen (fun st => st.slots 0 = .ptr gr 0 ∧ st.slots 4 = .ptr g4 0 ∧ st.slots 5 = .ptr g5 0 ∧ st.mem = m9.set g5 (.box [.int .i64 k, .str s, c0, c1, c2, c3, e0, e1, e2', e3, .int .i64 0, .int .i64 0, .str ByteArray.empty, .lst true 0 [], .int .i64 0, .int .i64 0, .str ByteArray.empty, .lst true 0 [], .lst true 0 []])) ⟨by simp [s0], by simp [s4], by simp [s5], by simp⟩ ?_
 generalize m9.set g5 (.box [.int .i64 k, .str s, c0, c1, c2, c3, e0, e1, e2', e3, .int .i64 0, .int .i64 0, .str ByteArray.empty, .lst true 0 [], .int .i64 0, .int .i64 0, .str ByteArray.empty, .lst true 0 [], .lst true 0 []]) = m10 at *
 clear s0 s4 s5 w5 sm
 rintro st ⟨s0, s4, s5, sm⟩
 (repeat refine sqA ?_); refine rgA (by kernel_rfl) ?_
 simp [s0]
 refine aop_wcall _ _ _ _ _ _ _ _ rfl (eval_func _ _) ?_
 simp [sm]
 refine c_takeR h.ps hT 59 fun m11 a3 b3 hPn hOn run3 => ?_
 have h := h.call hgr hOn hPn
 clear hPn hOn
 have was3 := Run1.was run3
 try simp
 have w5 := h.box1 (g := g5) (cs := [.int .i64 k, .str s, c0, c1, c2, c3, e0, e1, e2', e3, .int .i64 0, .int .i64 0, .str ByteArray.empty, .lst true 0 [], .int .i64 0, .int .i64 0, .str ByteArray.empty, .lst true 0 [], .lst true 0 []]) (by simp)
 have w4 := h.box1 (g := g4) (cs := [.int .i64 0, .str ByteArray.empty, .int .i64 0, .int .i64 0, .str ByteArray.empty, .lst true 0 [], .int .i64 0, .int .i64 0, .str ByteArray.empty, .lst true 0 [], .int .i64 0, .int .i64 0, .str ByteArray.empty, .lst true 0 [], .int .i64 0, .int .i64 0, .str ByteArray.empty, .lst true 0 [], .lst true 0 []]) (by simp)
 obtain ⟨hl, hok, htk⟩ := own_19 (h.tr _ (List.mem_cons_self ..)).1.own
 obtain ⟨cs, hcs⟩ : ∃ cs, cs = [.int .i64 k, .str s, c0, c1, c2, c3, e0, e1, e2', e3, .int .i64 0, .int .i64 0, .str ByteArray.empty, .lst true 0 [], .int .i64 0, .int .i64 0, .str ByteArray.empty, .lst true 0 [], .lst true 0 []] := ⟨_, rfl⟩
 rw [← hcs] at h w5 hl hok htk
 (repeat refine sqA ?_); refine rgA (by kernel_rfl) ?_
 simp [s4, s5, w5, w4, hl, htk]
 try refine ⟨hok, ?_⟩
 have q := QH.put (l1 := [(g5, cs)]) (cs' := cs) h
 refine AWp.ret ⟨[.agg cs], .agg cs, _, by simp [Tryz.f55, resA, s4, htk, hl], by (try simp); exact View.refl _ _, hK _ _ cs _ _ _ _ q.ps q.off (q.tr _ (List.mem_cons_self ..)).1 (hrun _ _ _ (Run1.then_ run2 (run3.then_ (Run1.done _ T a3 b3)))) (fun e => (hdd2 (was3 e)).trans (hdd (was2 (was3 e))))⟩
end Go.T
