/- Drawn statements, bent. Drawn programs. What is the same with itself: expressions, statements, programs. What is the same with itself: statements, programs. The reference's ParseExp. The program's ParseExp. Machines that are right: what the program and the reference compute; the law. Marks: what the program's marking functions compute. Rows marked: what the program's marking functions compute. Statements marked: what the program's marking function computes. Copies that are one's own: what the laws' copying functions compute, of programs. Copies that are one's own, of statements and programs: what the laws' copying functions compute. Statements and expressions marked. Expressions held. What holds the marks of machines; programs and machines marked. Programs and machines marked; what holds a machine's marks. Programs held and marked. -/
import Derived.Test.YtdbnllfjmkmdiaaGreatDoorG16
import Derived.Test.YtdbnllfjmkmdiaaGreatDoorG6
import Derived.Test.YtdbnllfjmkmdiaaGreatDoorG9
import Derived.Test.YtdbnllfjmkmdiaaGreatDoorG14
import Derived.Test.YtdbnllfjmkmdiaaGreatDoorG12
import Derived.Test.YtdbnllfjmkmdiaaGreatDoorG5
import Derived.Test.YtdbnllfjmkmdiaaGreatDoorG4
set_option linter.unusedSimpArgs false
set_option linter.unusedVariables false
namespace Go.T
open Go Go.Proofs
set_option maxRecDepth 10000
set_option maxHeartbeats 1000000
open Go
theorem DH.rot {m1 m : Mem} {l : List Int} {gr : Nat} {x : Nat × Blk} {r bs : List (Nat × Blk)} (h : DH m1 l gr (x :: (r ++ bs)) m) : DH m1 l gr (r ++ x :: bs) m :=
 ⟨h.ps, h.off, fun b hb => h.bx b (List.perm_middle.subset hb), (List.perm_middle.pairwise_iff (fun h => Ne.symm h)).2 h.bd⟩
theorem sc_lesE (k : Int) (s : ByteArray) (a e lo hi : Ex) (e0 : Nat) : Les (sc k s a e lo hi (.lst true e0 [])) (sc k s a e lo hi (.lst false 19 [])) := by
 unfold sc
 exact .cons (Le.refl _) (.cons (Le.refl _) ((Les.refl _).append ((Les.refl _).append ((Les.refl _).append ((Les.refl _).append (.cons (Le.nil _ _ _) .nil))))))
theorem frz {m1 : Mem} {l : List Int} {g g3 e0 : Nat} {k : Int} {s : ByteArray} {a e lo hi : Ex} {L : List Sm} {o : Option (Nat × Nat)} {bs : List (Nat × Blk)} {st : St} (h : DH m1 l g (rowB 83 19 (L.map Sm.av) o ++ (g3, .box (sc k s a e lo hi (rowE e0 L.length o))) :: bs) st.mem) (ho : o = none -> L = []) : ∃ m', Sees st ⟨st.slots, m'⟩ /\ DH m1 l g ((g3, .box (sc k s a e lo hi (.lst false 19 (L.map Sm.av)))) :: bs) m' := by
 have w3 := h.get (g := g3) (b := .box (sc k s a e lo hi (rowE e0 L.length o))) (by simp)
 cases o with
 | none =>
  have := ho rfl
  subst this
  exact ⟨_, Sees.boxLe w3 (sc_lesE k s a e lo hi e0), DH.put (l1 := []) (b' := .box (sc k s a e lo hi (.lst false 19 []))) h⟩
 | some p =>
  obtain ⟨g', c'⟩ := p
  have wg := h.get (g := g') (b := .arr 83 19 c' (L.map Sm.av)) (by simp [rowB])
  have q := DH.del (l1 := []) h
  have q2 := DH.put (l1 := []) (b' := .box (sc k s a e lo hi (.lst false 19 (L.map Sm.av)))) q
  refine ⟨_, Sees.freezeIn (e := 19) w3 (sc_at k s a e lo hi _) wg (by simp), ?_⟩
  rw [sc_set]
  exact q2
theorem c_l3AnyStmt : DrwS Tryz.prog 92 [] 800 := by
 intro l hl g m hc0 K hK
 have hgr := hc0.at
 refine wcall_of Tryz.func92 (by kernel_rfl) rfl (by simp [Tryz.f92]) ?_
 (repeat refine qA ?_);refine rA ?_
 simp
 intro g2 hg2
 have h := (DH.start hc0).new hgr hg2 (.box [.int .i64 0, .str ByteArray.empty, .int .i64 0, .int .i64 0, .str ByteArray.empty, .lst true 0 [], .int .i64 0, .int .i64 0, .str ByteArray.empty, .lst true 0 [], .int .i64 0, .int .i64 0, .str ByteArray.empty, .lst true 0 [], .int .i64 0, .int .i64 0, .str ByteArray.empty, .lst true 0 [], .lst true 0 []])
 refine AWp.gen (fun st => st.slots 0 = .ptr g 0 /\ st.slots 2 = .ptr g2 0 /\ st.mem = m.set g2 (.box [.int .i64 0, .str ByteArray.empty, .int .i64 0, .int .i64 0, .str ByteArray.empty, .lst true 0 [], .int .i64 0, .int .i64 0, .str ByteArray.empty, .lst true 0 [], .int .i64 0, .int .i64 0, .str ByteArray.empty, .lst true 0 [], .int .i64 0, .int .i64 0, .str ByteArray.empty, .lst true 0 [], .lst true 0 []])) ⟨by simp, by simp, by simp⟩ ?_
 generalize m.set g2 (.box [.int .i64 0, .str ByteArray.empty, .int .i64 0, .int .i64 0, .str ByteArray.empty, .lst true 0 [], .int .i64 0, .int .i64 0, .str ByteArray.empty, .lst true 0 [], .int .i64 0, .int .i64 0, .str ByteArray.empty, .lst true 0 [], .int .i64 0, .int .i64 0, .str ByteArray.empty, .lst true 0 [], .lst true 0 []]) = m0 at *
 rintro st ⟨s0, s2, sm⟩
 (repeat refine qA ?_);refine rA ?_
 simp [s0]
 refine wA ?_
 simp [sm]
 refine c_l3DrawStmt_2 l hl g _ h.ps _ fun k s a e lo hi e0 L o m1 ht hno hD => ?_
 have h := h.join hgr hD
 clear hD
 obtain ⟨r1, r2, r3⟩ := rowE_ok e0 L.length o
 have ok := sc_okv k s a e lo hi r2
 simp
 intro g3 hg3
 try refine ⟨by simpa using ok, ?_⟩
 have h := (h.new hgr hg3 (.box (sc k s a e lo hi (rowE e0 L.length o)))).rot
 refine AWp.gen (fun st => st.slots 0 = .ptr g 0 /\ st.slots 2 = .ptr g2 0 /\ st.slots 3 = .ptr g3 0 /\ st.mem = m1.set g3 (.box (sc k s a e lo hi (rowE e0 L.length o)))) ⟨by simp [s0], by simp [s2], by simp, by simp⟩ ?_
 generalize m1.set g3 (.box (sc k s a e lo hi (rowE e0 L.length o))) = m2 at *
 clear s0 s2 sm hg3
 rintro st ⟨s0, s2, s3, sm⟩
 (repeat refine qA ?_);refine rA ?_
 simp [s0]
 refine wA ?_
 simp [sm]
 refine c_l1Below hl h.ps 12 (by omega) fun n m3 n0 n1 hc ho => ?_
 have h := h.call hgr (off_of ho) hc
 clear hc ho
 try simp
 refine AWp.gen (fun st => st.slots 0 = .ptr g 0 /\ st.slots 2 = .ptr g2 0 /\ st.slots 3 = .ptr g3 0 /\ st.slots 8 = .int .i64 n /\ st.mem = m3) ⟨by simp [s0], by simp [s2], by simp [s3], by simp, by simp⟩ ?_
 clear s0 s2 s3 sm
 rintro st ⟨s0, s2, s3, s8, sm⟩
 obtain ⟨M, hM⟩ : ∃ M : St -> Prop, M = (fun st => st.slots 2 = .ptr g2 0 /\ st.slots 3 = .ptr g3 0 /\ ∃ k s a e lo hi L, (Sm.mk k s a e lo hi L).tot <= 800 /\ (DH m l g [(g3, .box (sc k s a e lo hi (.lst false 19 (L.map Sm.av)))), (g2, .box [.int .i64 0, .str ByteArray.empty, .int .i64 0, .int .i64 0, .str ByteArray.empty, .lst true 0 [], .int .i64 0, .int .i64 0, .str ByteArray.empty, .lst true 0 [], .int .i64 0, .int .i64 0, .str ByteArray.empty, .lst true 0 [], .int .i64 0, .int .i64 0, .str ByteArray.empty, .lst true 0 [], .lst true 0 []])] st.mem ∨ ∃ (e0 : Nat) (o : Option (Nat × Nat)), (o = none -> L = []) /\ DH m l g (rowB 83 19 (L.map Sm.av) o ++ [(g3, .box (sc k s a e lo hi (rowE e0 L.length o))), (g2, .box [.int .i64 0, .str ByteArray.empty, .int .i64 0, .int .i64 0, .str ByteArray.empty, .lst true 0 [], .int .i64 0, .int .i64 0, .str ByteArray.empty, .lst true 0 [], .int .i64 0, .int .i64 0, .str ByteArray.empty, .lst true 0 [], .int .i64 0, .int .i64 0, .str ByteArray.empty, .lst true 0 [], .lst true 0 []])]) st.mem)) := ⟨_, rfl⟩
 (repeat refine qA ?_);refine AWp.cutA M ?_ ?_
 ·(repeat refine qA ?_);refine bA ?_
  (repeat refine qA ?_);refine rA ?_
  simp [s8]
  by_cases q0 : n = 0
  ·(repeat refine qA ?_);refine AWp.condT (by simp [q0]) ?_
   (repeat refine qA ?_);refine rA ?_
   simp [s0]
   refine wA ?_
   simp [sm]
   refine c_l1Below hl h.ps 6 (by omega) fun k' m4 k0 k1 hc ho => ?_
   have h := h.call hgr (off_of ho) hc
   have w3 := h.get (g := g3) (b := .box (sc k s a e lo hi (rowE e0 L.length o))) (by simp)
   have t3 := stK w3 k'
   simp [-store_ptr, s3, t3]
   have h := DH.put (l1 := rowB 83 19 (L.map Sm.av) o) (b' := .box (sc k' s a e lo hi (rowE e0 L.length o))) h
   subst hM
   exact ⟨by simp [s2], by simp [s3], k', s, a, e, lo, hi, L, by rw [Sm.tot_mk] at ht ⊢; omega, .inr ⟨e0, o, hno, by simpa using h⟩⟩
  (repeat refine qA ?_);refine AWp.condF (by simp [q0]) ?_
  (repeat refine qA ?_);refine rA ?_
  simp [s8]
  by_cases q1 : n = 1
  ·(repeat refine qA ?_);refine AWp.condT (by simp [q1]) ?_
   (repeat refine qA ?_);refine rA ?_
   simp [s0, literalA]
   refine wA ?_
   simp [sm]
   refine c_l1Str hl h.ps true [⟨#[]⟩, ⟨#[102, 111, 114]⟩, ⟨#[120]⟩, ⟨#[65]⟩] (by simp) (by simp) fun nm m4 hn hc ho => ?_
   have h := h.call hgr ho hc
   have w3 := h.get (g := g3) (b := .box (sc k s a e lo hi (rowE e0 L.length o))) (by simp)
   have t3 := stN w3 nm
   simp [-store_ptr, s3, t3]
   have hnm : nm.size <= 3 := by simp at hn; rcases hn with rfl | rfl | rfl | rfl <;> decide
   have h := DH.put (l1 := rowB 83 19 (L.map Sm.av) o) (b' := .box (sc k nm a e lo hi (rowE e0 L.length o))) h
   subst hM
   exact ⟨by simp [s2], by simp [s3], k, nm, a, e, lo, hi, L, by rw [Sm.tot_mk] at ht ⊢; omega, .inr ⟨e0, o, hno, by simpa using h⟩⟩
  (repeat refine qA ?_);refine AWp.condF (by simp [q1]) ?_
  (repeat refine qA ?_);refine rA ?_
  simp [s8]
  by_cases q2 : n = 2
  ·(repeat refine qA ?_);refine AWp.condT (by simp [q2]) ?_
   (repeat refine qA ?_);refine rA ?_
   simp [s0]
   refine wA ?_
   simp [sm]
   refine c_l3Any l hl g _ h.ps _ fun x m4 hx hc ho => ?_
   have h := h.call hgr ho hc
   have w3 := h.get (g := g3) (b := .box (sc k s a e lo hi (rowE e0 L.length o))) (by simp)
   have t3 := stA w3 x
   simp [-store_ptr, Ex.av, s3, t3]
   try refine ⟨okE _, ?_⟩
   have h := DH.put (l1 := rowB 83 19 (L.map Sm.av) o) (b' := .box (sc k s x e lo hi (rowE e0 L.length o))) h
   subst hM
   exact ⟨by simp [s2], by simp [s3], k, s, x, e, lo, hi, L, by rw [Sm.tot_mk] at ht ⊢; omega, .inr ⟨e0, o, hno, by simpa using h⟩⟩
  (repeat refine qA ?_);refine AWp.condF (by simp [q2]) ?_
  (repeat refine qA ?_);refine rA ?_
  simp [s8]
  by_cases q3 : n = 3
  ·(repeat refine qA ?_);refine AWp.condT (by simp [q3]) ?_
   (repeat refine qA ?_);refine rA ?_
   simp [s0]
   refine wA ?_
   simp [sm]
   refine c_l3Any l hl g _ h.ps _ fun x m4 hx hc ho => ?_
   have h := h.call hgr ho hc
   have w3 := h.get (g := g3) (b := .box (sc k s a e lo hi (rowE e0 L.length o))) (by simp)
   have t3 := stE w3 x
   simp [-store_ptr, Ex.av, s3, t3]
   try refine ⟨okE _, ?_⟩
   have h := DH.put (l1 := rowB 83 19 (L.map Sm.av) o) (b' := .box (sc k s a x lo hi (rowE e0 L.length o))) h
   subst hM
   exact ⟨by simp [s2], by simp [s3], k, s, a, x, lo, hi, L, by rw [Sm.tot_mk] at ht ⊢; omega, .inr ⟨e0, o, hno, by simpa using h⟩⟩
  (repeat refine qA ?_);refine AWp.condF (by simp [q3]) ?_
  (repeat refine qA ?_);refine rA ?_
  simp [s8]
  by_cases q4 : n = 4
  ·(repeat refine qA ?_);refine AWp.condT (by simp [q4]) ?_
   (repeat refine qA ?_);refine rA ?_
   simp [s0]
   refine wA ?_
   simp [sm]
   refine c_l3Any l hl g _ h.ps _ fun x m4 hx hc ho => ?_
   have h := h.call hgr ho hc
   have w3 := h.get (g := g3) (b := .box (sc k s a e lo hi (rowE e0 L.length o))) (by simp)
   have t3 := stL w3 x
   simp [-store_ptr, Ex.av, s3, t3]
   try refine ⟨okE _, ?_⟩
   have h := DH.put (l1 := rowB 83 19 (L.map Sm.av) o) (b' := .box (sc k s a e x hi (rowE e0 L.length o))) h
   subst hM
   exact ⟨by simp [s2], by simp [s3], k, s, a, e, x, hi, L, by rw [Sm.tot_mk] at ht ⊢; omega, .inr ⟨e0, o, hno, by simpa using h⟩⟩
  (repeat refine qA ?_);refine AWp.condF (by simp [q4]) ?_
  (repeat refine qA ?_);refine rA ?_
  simp [s8]
  by_cases q5 : n = 5
  ·(repeat refine qA ?_);refine AWp.condT (by simp [q5]) ?_
   have w3 := h.get (g := g3) (b := .box (sc k s a e lo hi (rowE e0 L.length o))) (by simp)
   (repeat refine qA ?_);refine AWp.regionX (fun _ => false) (fun _ => false) [0, 1, 2, 3, 4, 5, 6, 7] [0, 2, 3, 1, 4, 5, 6, 7] 1 3 [0, 1, 2, 3, 4, 5, 6, 7] (by kernel_rfl) ?_ ?_
   ·simp [-store_ptr, s0, s3, sm, w3]
    refine wA ?_
    try simp [-store_ptr, sm]
    refine c_l3DrawStmt_2.s l hl g _ h.ps _ fun y m4 hy hc ho => ?_
    have h := h.call hgr ho hc
    have w3 := h.get (g := g3) (b := .box (sc k s a e lo hi (rowE e0 L.length o))) (by simp)
    simp [-store_ptr, Sm.av, literalA]
    refine DH.app (e0 := e0) (xs := L.map Sm.av) (bs := [(g3, .box (sc k s a e lo hi (rowE e0 L.length o))), (g2, .box [.int .i64 0, .str ByteArray.empty, .int .i64 0, .int .i64 0, .str ByteArray.empty, .lst true 0 [], .int .i64 0, .int .i64 0, .str ByteArray.empty, .lst true 0 [], .int .i64 0, .int .i64 0, .str ByteArray.empty, .lst true 0 [], .int .i64 0, .int .i64 0, .str ByteArray.empty, .lst true 0 [], .lst true 0 []])]) (x := Sm.av y) et_30 (by simp) h hgr (fun e => by rw [hno e]; rfl) (by simp [srcA, Sm.av]) (Sm.cells_ok y) (by have h9 := totL_len Sm.tot L; have h8 := ht; rw [Sm.tot_mk] at h8; omega) fun g' c' n2 h => ?_
    obtain ⟨r1, r2, r3⟩ := rowE_ok e0 (L.length + 1) (some (g', c'))
    have w3 := h.get (g := g3) (b := .box (sc k s a e lo hi (rowE e0 L.length o))) (by simp)
    have t3 := stB w3 (rowE e0 (L.length + 1) (some (g', c'))) r1
    simp [-store_ptr, s3, t3, r1, r2, r3]
    have h := DH.put (l1 := rowB 83 19 (L.map Sm.av ++ [Sm.av y]) (some (g', c'))) (b' := .box (sc k s a e lo hi (rowE e0 (L.length + 1) (some (g', c'))))) h
    subst hM
    exact ⟨by simp [s2], by simp [s3], k, s, a, e, lo, hi, L ++ [y], by rw [Sm.tot_mk] at ht ⊢; rw [totL_snoc]; unfold Sm.w; omega, .inr ⟨e0, some (g', c'), fun e => (by cases e), by simpa using h⟩⟩
   simp [-store_ptr, s0, s3, sm]
   refine wA ?_
   try simp [-store_ptr, sm]
   refine c_l3DrawStmt_2.s l hl g _ h.ps _ fun y m4 hy hc ho => ?_
   have h := h.call hgr ho hc
   have w3 := h.get (g := g3) (b := .box (sc k s a e lo hi (rowE e0 L.length o))) (by simp)
   simp [-store_ptr, Sm.av, literalA, s3, w3]
   refine DH.app (e0 := e0) (xs := L.map Sm.av) (bs := [(g3, .box (sc k s a e lo hi (rowE e0 L.length o))), (g2, .box [.int .i64 0, .str ByteArray.empty, .int .i64 0, .int .i64 0, .str ByteArray.empty, .lst true 0 [], .int .i64 0, .int .i64 0, .str ByteArray.empty, .lst true 0 [], .int .i64 0, .int .i64 0, .str ByteArray.empty, .lst true 0 [], .int .i64 0, .int .i64 0, .str ByteArray.empty, .lst true 0 [], .lst true 0 []])]) (x := Sm.av y) et_30 (by simp) h hgr (fun e => by rw [hno e]; rfl) (by simp [srcA, Sm.av]) (Sm.cells_ok y) (by have h9 := totL_len Sm.tot L; have h8 := ht; rw [Sm.tot_mk] at h8; omega) fun g' c' n2 h => ?_
   obtain ⟨r1, r2, r3⟩ := rowE_ok e0 (L.length + 1) (some (g', c'))
   have w3 := h.get (g := g3) (b := .box (sc k s a e lo hi (rowE e0 L.length o))) (by simp)
   have t3 := stB w3 (rowE e0 (L.length + 1) (some (g', c'))) r1
   simp [-store_ptr, s3, t3, r1, r2, r3]
   have h := DH.put (l1 := rowB 83 19 (L.map Sm.av ++ [Sm.av y]) (some (g', c'))) (b' := .box (sc k s a e lo hi (rowE e0 (L.length + 1) (some (g', c'))))) h
   subst hM
   exact ⟨by simp [s2], by simp [s3], k, s, a, e, lo, hi, L ++ [y], by rw [Sm.tot_mk] at ht ⊢; rw [totL_snoc]; unfold Sm.w; omega, .inr ⟨e0, some (g', c'), fun e => (by cases e), by simpa using h⟩⟩
  (repeat refine qA ?_);refine AWp.condF (by simp [q5]) ?_
  (repeat refine qA ?_);refine rA ?_
  simp [s8]
  by_cases q6 : n = 6
  ·(repeat refine qA ?_);refine AWp.condT (by simp [q6]) ?_
   (repeat refine qA ?_);refine rA ?_
   simp [s0]
   refine wA ?_
   simp [sm]
   refine c_l1Below hl h.ps 4 (by omega) fun n' m4 k0 k1 hc ho => ?_
   have h := h.call hgr (off_of ho) hc
   obtain ⟨j, rfl⟩ := Int.eq_ofNat_of_zero_le k0
   try simp
   refine AWp.lastQ M ?_ (fun st hst => by simpa [blockA, thenA] using hst)
   refine AWp.gen (fun st => st.slots 2 = .ptr g2 0 /\ st.slots 3 = .ptr g3 0 /\ st.slots 4 = .int .i64 j /\ st.mem = m4) ⟨by simp [s2], by simp [s3], by simp, by simp⟩ ?_
   clear s0 s2 s3 s8 sm
   rintro st ⟨s2, s3, s4, sm⟩
   rw [<- sm] at h
   obtain ⟨m5, hsee, h⟩ := frz h hno
   refine AWp.sees hsee ?_
   refine AWp.block (AWp.rounds (fun q st => ∃ (i : Nat) (x : Sm), q = i /\ i <= 3 /\ x.tot + 2 * i <= 356 /\ st.slots 2 = .ptr g2 0 /\ st.slots 3 = .ptr g3 0 /\ st.slots 4 = .int .i64 i /\ DH m l g [(g3, .box x.cells), (g2, .box [.int .i64 0, .str ByteArray.empty, .int .i64 0, .int .i64 0, .str ByteArray.empty, .lst true 0 [], .int .i64 0, .int .i64 0, .str ByteArray.empty, .lst true 0 [], .int .i64 0, .int .i64 0, .str ByteArray.empty, .lst true 0 [], .int .i64 0, .int .i64 0, .str ByteArray.empty, .lst true 0 [], .lst true 0 []])] st.mem) j ⟨j, Sm.mk k s a e lo hi L, rfl, by omega, by omega, s2, s3, s4, by rw [sc_eq]; exact h⟩ ?_)
   clear h hno ht s2 s3 s4 sm
   rintro RR q st hRR ⟨i, x, rfl, hi8, het, s2, s3, s4, h⟩
   (repeat refine qA ?_);refine rA ?_
   simp [s4]
   by_cases hlt : 0 < q
   ·(repeat refine qA ?_);refine AWp.condT (by simp [hlt]) ?_
    refine kA ?_
    try simp
    (repeat refine qA ?_);refine bA ?_
    obtain ⟨M3, hM3⟩ : ∃ M3 : St -> Prop, M3 = (fun st => st.slots 2 = .ptr g2 0 /\ st.slots 3 = .ptr g3 0 /\ st.slots 4 = .int .i64 q /\ DH m l g [(g3, .box (Sm.mk 3 ⟨#[113]⟩ zE zE (Ex.mk 1 0 ⟨#[]⟩ []) (Ex.mk 1 1 ⟨#[]⟩ []) [x]).cells), (g2, .box [.int .i64 0, .str ByteArray.empty, .int .i64 0, .int .i64 0, .str ByteArray.empty, .lst true 0 [], .int .i64 0, .int .i64 0, .str ByteArray.empty, .lst true 0 [], .int .i64 0, .int .i64 0, .str ByteArray.empty, .lst true 0 [], .int .i64 0, .int .i64 0, .str ByteArray.empty, .lst true 0 [], .lst true 0 []])] st.mem) := ⟨_, rfl⟩
    have drx : List.drop 19 x.cells = [] := by
     rcases x with ⟨k, s, a, e, lo, hi, L⟩
     rw [sc_eq]
     exact List.drop_eq_nil_of_le (by simp)
    have w3 := h.get (g := g3) (b := .box x.cells) (by simp)
    have w : IntKind.wrap .i64 ((q : Int) - 1) = ((q - 1 : Nat) : Int) := by rw [wrap64 (by omega) (by omega)]; omega
    (repeat refine qA ?_);refine AWp.regionG (fun i => i == 0 || i == 1) (fun _ => false) [0, 1, 2, 3, 4, 5] [0, 1, 2, 3, 4, 5] (by kernel_rfl) ?_
    simp
    refine oC' (c_l3Num 0) ?_
    simp
    refine oC' (c_l3Num 1) ?_
    simp [s3, w3, literalA, Ex.av, Sm.av]
    have h := DH.put (l1 := []) (b' := .box (.int .i64 3 :: .str ⟨#[113]⟩ :: .int .i64 0 :: .int .i64 0 :: .str ByteArray.empty :: .lst true 0 [] :: .int .i64 0 :: .int .i64 0 :: .str ByteArray.empty :: .lst true 0 [] :: ((Ex.mk 1 0 ⟨#[]⟩ []).cells ++ ((Ex.mk 1 1 ⟨#[]⟩ []).cells ++ [.lst true 19 [.agg x.cells]])))) h
    refine AWp.gen (fun st' => st'.slots 2 = .ptr g2 0 /\ st'.slots 3 = .ptr g3 0 /\ st'.slots 4 = .int .i64 q /\ st'.mem = st.mem.set g3 (.box (.int .i64 3 :: .str ⟨#[113]⟩ :: .int .i64 0 :: .int .i64 0 :: .str ByteArray.empty :: .lst true 0 [] :: .int .i64 0 :: .int .i64 0 :: .str ByteArray.empty :: .lst true 0 [] :: ((Ex.mk 1 0 ⟨#[]⟩ []).cells ++ ((Ex.mk 1 1 ⟨#[]⟩ []).cells ++ [.lst true 19 [.agg x.cells]]))))) ⟨by simp [s2], by simp [s3], by simp [s4], by simp [drx]⟩ ?_
    generalize st.mem.set g3 (.box (.int .i64 3 :: .str ⟨#[113]⟩ :: .int .i64 0 :: .int .i64 0 :: .str ByteArray.empty :: .lst true 0 [] :: .int .i64 0 :: .int .i64 0 :: .str ByteArray.empty :: .lst true 0 [] :: ((Ex.mk 1 0 ⟨#[]⟩ []).cells ++ ((Ex.mk 1 1 ⟨#[]⟩ []).cells ++ [.lst true 19 [.agg x.cells]])))) = m6 at *
    clear s2 s3 s4 w3
    rintro st ⟨s2, s3, s4, sm⟩
    rw [<- sm] at h
    have hY : Les (.int .i64 3 :: .str ⟨#[113]⟩ :: .int .i64 0 :: .int .i64 0 :: .str ByteArray.empty :: .lst true 0 [] :: .int .i64 0 :: .int .i64 0 :: .str ByteArray.empty :: .lst true 0 [] :: ((Ex.mk 1 0 ⟨#[]⟩ []).cells ++ ((Ex.mk 1 1 ⟨#[]⟩ []).cells ++ [.lst true 19 [.agg x.cells]]))) (Sm.mk 3 ⟨#[113]⟩ zE zE (Ex.mk 1 0 ⟨#[]⟩ []) (Ex.mk 1 1 ⟨#[]⟩ []) [x]).cells := by
     rw [sc_eq]
     unfold sc zE
     simp only [Ex.cells_mk, List.map_nil, List.map_cons, List.cons_append, List.nil_append]
     repeat (first | exact .nil | refine .cons (by first | exact Le.refl _ | exact Le.nil _ _ _ | exact Le.lst _ _ _) ?_)
    have hT : (Sm.mk 3 ⟨#[113]⟩ zE zE (Ex.mk 1 0 ⟨#[]⟩ []) (Ex.mk 1 1 ⟨#[]⟩ []) [x]).tot = x.tot + 2 := by
     rw [Sm.tot_mk, zE_tot, Ex.tot_mk, Ex.tot_mk]
     have i0 : (⟨#[]⟩ : ByteArray).size = 0 := rfl
     have i1 : (⟨#[113]⟩ : ByteArray).size = 1 := rfl
     simp only [totL]
     omega
    have w3 := h.get (g := g3) (b := .box (.int .i64 3 :: .str ⟨#[113]⟩ :: .int .i64 0 :: .int .i64 0 :: .str ByteArray.empty :: .lst true 0 [] :: .int .i64 0 :: .int .i64 0 :: .str ByteArray.empty :: .lst true 0 [] :: ((Ex.mk 1 0 ⟨#[]⟩ []).cells ++ ((Ex.mk 1 1 ⟨#[]⟩ []).cells ++ [.lst true 19 [.agg x.cells]])))) (by simp)
    refine AWp.sees (Sees.boxLe w3 hY) ?_
    have h := DH.put (l1 := []) (b' := .box (Sm.mk 3 ⟨#[113]⟩ zE zE (Ex.mk 1 0 ⟨#[]⟩ []) (Ex.mk 1 1 ⟨#[]⟩ []) [x]).cells) h
    refine AWp.gen (fun st' => st'.slots 2 = .ptr g2 0 /\ st'.slots 3 = .ptr g3 0 /\ st'.slots 4 = .int .i64 q /\ st'.mem = st.mem.set g3 (.box (Sm.mk 3 ⟨#[113]⟩ zE zE (Ex.mk 1 0 ⟨#[]⟩ []) (Ex.mk 1 1 ⟨#[]⟩ []) [x]).cells)) ⟨s2, s3, s4, rfl⟩ ?_
    generalize st.mem.set g3 (.box (Sm.mk 3 ⟨#[113]⟩ zE zE (Ex.mk 1 0 ⟨#[]⟩ []) (Ex.mk 1 1 ⟨#[]⟩ []) [x]).cells) = m7 at *
    generalize (Sm.mk 3 ⟨#[113]⟩ zE zE (Ex.mk 1 0 ⟨#[]⟩ []) (Ex.mk 1 1 ⟨#[]⟩ []) [x]) = x' at *
    clear s2 s3 s4 sm w3 hY
    rintro st ⟨s2, s3, s4, sm⟩
    (repeat refine qA ?_);refine rA ?_
    simp [s4, w]
    exact hRR _ (q - 1) (by omega) ⟨q - 1, x', rfl, by omega, by omega, by simp [s2], by simp [s3], by simp, by simpa [sm] using h⟩
   (repeat refine qA ?_);refine AWp.condF (by simp; omega) ?_
   refine eA ?_
   subst hM
   rcases x with ⟨k, s, a, e, lo, hi, L⟩
   exact ⟨by simp [s2], by simp [s3], k, s, a, e, lo, hi, L, by omega, .inl (by rw [<- sc_eq]; simpa using h)⟩
  (repeat refine qA ?_);refine AWp.condF (by simp [q6]) ?_
  refine kA ?_
  subst hM
  exact ⟨by simp [s2], by simp [s3], k, s, a, e, lo, hi, L, by rw [Sm.tot_mk] at ht ⊢; omega, .inr ⟨e0, o, hno, by simpa [sm] using h⟩⟩
 clear s0 s2 s3 s8 sm h ht hno r1 r2 r3 ok
 intro st hst
 subst hM
 obtain ⟨s2, s3, k, s, a, e, lo, hi, L, ht, hor⟩ := hst
 obtain ⟨m5, hsee, h⟩ : ∃ m', Sees st ⟨st.slots, m'⟩ /\ DH m l g [(g3, .box (sc k s a e lo hi (.lst false 19 (L.map Sm.av)))), (g2, .box [.int .i64 0, .str ByteArray.empty, .int .i64 0, .int .i64 0, .str ByteArray.empty, .lst true 0 [], .int .i64 0, .int .i64 0, .str ByteArray.empty, .lst true 0 [], .int .i64 0, .int .i64 0, .str ByteArray.empty, .lst true 0 [], .int .i64 0, .int .i64 0, .str ByteArray.empty, .lst true 0 [], .lst true 0 []])] m' := by
  rcases hor with h | ⟨e0, o, hno, h⟩
  ·exact ⟨st.mem, Sees.slots rfl fun t => Le.refl _, h⟩
  exact frz h hno
 refine AWp.sees hsee ?_
 refine AWp.gen (fun st => st.slots 2 = .ptr g2 0 /\ st.slots 3 = .ptr g3 0 /\ st.mem = m5) ⟨s2, s3, rfl⟩ ?_
 clear s2 s3
 rintro st ⟨s2, s3, sm⟩
 have ok := sc_okv k s a e lo hi (v := .lst false 19 (L.map Sm.av)) rfl
 have w3 := h.get (g := g3) (b := .box (sc k s a e lo hi (.lst false 19 (L.map Sm.av)))) (by simp)
 have w2 := h.get (g := g2) (b := .box [.int .i64 0, .str ByteArray.empty, .int .i64 0, .int .i64 0, .str ByteArray.empty, .lst true 0 [], .int .i64 0, .int .i64 0, .str ByteArray.empty, .lst true 0 [], .int .i64 0, .int .i64 0, .str ByteArray.empty, .lst true 0 [], .int .i64 0, .int .i64 0, .str ByteArray.empty, .lst true 0 [], .lst true 0 []]) (by simp)
 (repeat refine qA ?_);refine rA ?_
 simp [s2, s3, sm, w2, w3]
 try refine ⟨by simpa using ok, ?_⟩
 have q := DH.put (l1 := [(g3, .box (sc k s a e lo hi (.lst false 19 (L.map Sm.av))))]) (b' := .box (sc k s a e lo hi (.lst false 19 (L.map Sm.av)))) h
 have hav : (Sm.mk k s a e lo hi L).av = .agg (sc k s a e lo hi (.lst false 19 (L.map Sm.av))) := by show AV.agg _ = _; rw [sc_eq]
 have hK := hK (Sm.mk k s a e lo hi L) _ ht q.ps q.off
 rw [hav] at hK
 exact AWp.ret ⟨[.agg (sc k s a e lo hi (.lst false 19 (L.map Sm.av)))], _, _, by simp [Tryz.f92, resA, s2], by (try simp); exact View.refl _ _, hK⟩
def DrwP (P : Program) (n : FuncId) (us : List AV) (S : Nat) : Prop := ∀ (l : List Int), byOk l -> ∀ (g : Nat) (m : Mem), Cur l g m -> ∀ K : AV -> Mem -> Prop, (∀ p m', Pg.tot p <= S -> Cur l g m' -> Off g m m' -> K (Pg.av p) m') -> WCall P n (.ptr g 0 :: us) m K
theorem totL_le {X : Type} (f : X -> Nat) (S : Nat) : ∀ L : List X, (∀ x ∈ L, f x <= S) -> totL f L <= L.length * (S + 1)
 | [], _ => by simp [totL]
 | x :: L, h => by
  have h1 := totL_le f S L fun y hy => h y (by simp [hy])
  have h2 := h x (by simp)
  simp only [totL, List.length_cons, Nat.succ_mul]
  omega
theorem DH.swap {m1 m : Mem} {l : List Int} {gr : Nat} {x : Nat × Blk} {r bs : List (Nat × Blk)} (h : DH m1 l gr (x :: (r ++ bs)) m) : DH m1 l gr (r ++ ([x] ++ bs)) m := h.rot
theorem DH.appL {P : Program} {Ty E : TypeId} {n b : Nat} (hT : ElemT P Ty E n b) {m1 m : Mem} {l : List Int} {gr : Nat} {bs : List (Nat × Blk)} (h : DH m1 l gr bs m) (h1 : m1 gr ≠ none) {xs : List AV} {x s : AV}
  (hs : srcA m n s = some [x]) (hb : (2 * (xs.length + 1) + 1024) * b <= 281474976710656) {k : AV -> Mem -> Prop}
  (hk : ∀ g c m', DH m1 l gr ((g, .arr E n c (xs ++ [x])) :: bs) m' -> k (.own g (xs.length + 1) c) m') : appendW P m k #[Ty, Ty] (.lst true n xs) s := by
 obtain ⟨z, hz, hzl⟩ := hT.zero
 unfold appendW
 simp only [List.getElem?_toArray, List.getElem?_cons_zero, List.getElem?_cons_succ, hT.int, hT.elem, hT.size, hT.byte, hz, hs, true_and]
 refine ⟨hT.pos.1, hT.pos.2, hzl, .inl trivial, by simpa using hb, ⟨fun h0 => (by simp at h0), fun _ g c hg hle => ?_⟩⟩
 exact hk _ _ _ (h.new h1 hg _)
section
variable {m1 : Mem} {l : List Int} {g g3 : Nat} {bs : List (Nat × Blk)} {st : St}
theorem frzL {va : AV} {ba : List (Nat × Blk)} {L : List Sm} {o : Option (Nat × Nat)} (h : DH m1 l g (rowB 83 19 (L.map Sm.av) o ++ (ba ++ (g3, .box [va, rowE 19 L.length o]) :: bs)) st.mem) (ho : o = none -> L = []) : ∃ m', Sees st ⟨st.slots, m'⟩ /\ DH m1 l g (ba ++ (g3, .box [va, .lst false 19 (L.map Sm.av)]) :: bs) m' := by
 have w3 := h.get (g := g3) (b := .box [va, rowE 19 L.length o]) (by simp)
 cases o with
 | none =>
  have := ho rfl
  subst this
  exact ⟨_, Sees.boxLe (cs' := [va, .lst false 19 []]) w3 (.cons (Le.refl _) (.cons (Le.nil _ _ _) .nil)), DH.put (l1 := ba) (b' := .box [va, .lst false 19 []]) h⟩
 | some p =>
  obtain ⟨g', c'⟩ := p
  have wg := h.get (g := g') (b := .arr 83 19 c' (L.map Sm.av)) (by simp [rowB])
  have q := DH.del (l1 := []) h
  have q2 := DH.put (l1 := ba) (b' := .box [va, .lst false 19 (L.map Sm.av)]) q
  exact ⟨_, Sees.freezeIn (i := 1) (e := 19) w3 rfl wg (by simp), q2⟩
theorem frzA {va vb : AV} {ba : List (Nat × Blk)} {A : List Ar} (h : DH m1 l g (ba ++ (g3, .box [va, vb]) :: bs) st.mem) (hva : (ba = [] /\ ∃ f, va = .lst f 2 (A.map Ar.av)) ∨ ∃ g' c', ba = [(g', .arr 57 2 c' (A.map Ar.av))] /\ va = .own g' A.length c') : ∃ m', Sees st ⟨st.slots, m'⟩ /\ DH m1 l g ((g3, .box [.lst false 2 (A.map Ar.av), vb]) :: bs) m' := by
 have w3 := h.get (g := g3) (b := .box [va, vb]) (by simp)
 rcases hva with ⟨rfl, f, rfl⟩ | ⟨g', c', rfl, rfl⟩
 ·exact ⟨_, Sees.boxLe (cs' := [.lst false 2 (A.map Ar.av), vb]) w3 (.cons (Le.lst _ _ _) (.cons (Le.refl _) .nil)), DH.put (l1 := []) (b' := .box [.lst false 2 (A.map Ar.av), vb]) h⟩
 have wg := h.get (g := g') (b := .arr 57 2 c' (A.map Ar.av)) (by simp)
 have q := DH.del (l1 := []) (l2 := (g3, .box [.own g' A.length c', vb]) :: bs) h
 have q2 := DH.put (l1 := []) (b' := .box [.lst false 2 (A.map Ar.av), vb]) q
 exact ⟨_, Sees.freezeIn (i := 0) (e := 2) w3 rfl wg (by simp), q2⟩
end
theorem c_l4Prog : DrwP Tryz.prog 32 [] 2300 := by
 intro l hl g m hc0 K hK
 have hgr := hc0.at
 refine wcall_of Tryz.func32 (by kernel_rfl) rfl (by simp [Tryz.f32]) ?_
 (repeat refine qA ?_);refine rA ?_
 simp
 intro g2 hg2
 have h := (DH.start hc0).new hgr hg2 (.box [.lst true 0 [], .lst true 0 []])
 refine AWp.gen (fun st => st.slots 0 = .ptr g 0 /\ st.slots 2 = .ptr g2 0 /\ st.mem = m.set g2 (.box [.lst true 0 [], .lst true 0 []])) ⟨by simp, by simp, by simp⟩ ?_
 generalize m.set g2 (.box [.lst true 0 [], .lst true 0 []]) = m0 at *
 rintro st ⟨s0, s2, sm⟩
 (repeat refine qA ?_);refine rA ?_
 simp [s0, literalA]
 refine wA ?_
 simp [sm]
 refine c_l3Stmts0 2 350 4 (by omega) (by omega) c_l3DrawStmt_2.s l hl g _ h.ps _ fun L o m1 hLn hLt hno hD => ?_
 have h := h.join hgr hD
 clear hD
 have hL : totL Sm.tot L <= 1404 := by
  have := totL_le Sm.tot 350 L hLt
  have := Nat.mul_le_mul_right 351 (show L.length <= 4 by omega)
  omega
 obtain ⟨r1, r2, r3⟩ := rowE_ok 19 L.length o
 simp [r1, r2, r3]
 intro g3 hg3
 have h := (h.new hgr hg3 (.box [(.lst true 2 [.agg [.str ⟨#[97]⟩, .int .i64 8], .agg [.str ⟨#[98]⟩, .int .i64 6]]), rowE 19 L.length o])).rot
 refine AWp.gen (fun st => st.slots 0 = .ptr g 0 /\ st.slots 2 = .ptr g2 0 /\ st.slots 3 = .ptr g3 0 /\ st.mem = m1.set g3 (.box [(.lst true 2 [.agg [.str ⟨#[97]⟩, .int .i64 8], .agg [.str ⟨#[98]⟩, .int .i64 6]]), rowE 19 L.length o])) ⟨by simp [s0], by simp [s2], by simp, by simp⟩ ?_
 generalize m1.set g3 (.box [(.lst true 2 [.agg [.str ⟨#[97]⟩, .int .i64 8], .agg [.str ⟨#[98]⟩, .int .i64 6]]), rowE 19 L.length o]) = m2 at *
 clear s0 s2 sm hg3
 rintro st ⟨s0, s2, s3, sm⟩
 (repeat refine qA ?_);refine rA ?_
 simp [s0]
 refine wA ?_
 simp [sm]
 refine c_l1Below hl h.ps 10 (by omega) fun n m3 n0 n1 hc ho => ?_
 have h := h.call hgr (off_of ho) hc
 clear hc ho
 try simp
 refine AWp.gen (fun st => st.slots 0 = .ptr g 0 /\ st.slots 2 = .ptr g2 0 /\ st.slots 3 = .ptr g3 0 /\ st.slots 11 = .int .i64 n /\ st.mem = m3) ⟨by simp [s0], by simp [s2], by simp [s3], by simp, by simp⟩ ?_
 clear s0 s2 s3 sm
 rintro st ⟨s0, s2, s3, s11, sm⟩
 obtain ⟨M, hM⟩ : ∃ M : St -> Prop, M = (fun st => st.slots 2 = .ptr g2 0 /\ st.slots 3 = .ptr g3 0 /\ ∃ (A : List Ar) (va : AV) (ba : List (Nat × Blk)) (L : List Sm) (o : Option (Nat × Nat)), (Pg.mk A L).tot <= 2300 /\ (o = none -> L = []) /\ ((ba = [] /\ ∃ f, va = .lst f 2 (A.map Ar.av)) ∨ ∃ g' c', ba = [(g', .arr 57 2 c' (A.map Ar.av))] /\ va = .own g' A.length c') /\ DH m l g (rowB 83 19 (L.map Sm.av) o ++ (ba ++ [(g3, .box [va, rowE 19 L.length o]), (g2, .box [.lst true 0 [], .lst true 0 []])])) st.mem) := ⟨_, rfl⟩
 (repeat refine qA ?_);refine AWp.cutA M ?_ ?_
 ·(repeat refine qA ?_);refine bA ?_
  (repeat refine qA ?_);refine rA ?_
  simp [s11]
  by_cases q0 : n = 0
  ·(repeat refine qA ?_);refine AWp.condT (by simp [q0]) ?_
   have w3 := h.get (g := g3) (b := .box [(.lst true 2 [.agg [.str ⟨#[97]⟩, .int .i64 8], .agg [.str ⟨#[98]⟩, .int .i64 6]]), rowE 19 L.length o]) (by simp)
   (repeat refine qA ?_);refine AWp.regionX3 (fun _ => false) (fun _ => false) [0, 1, 2, 3, 5, 6, 11, 4, 7, 8, 9, 10, 12] [0, 2, 3, 5, 6, 11] [1, 7, 8, 9, 10, 12] [7, 1, 8, 9, 10, 12] 1 4 7 [0, 1, 2, 3, 4, 5, 6, 7, 8, 9, 10, 11, 12] (by kernel_rfl) ?_ ?_
   ·simp [-store_ptr, s0, s3, sm, w3, literalA]
    refine wA ?_
    try simp [-store_ptr, sm]
    refine c_l1Str hl h.ps true [⟨#[99]⟩, ⟨#[97]⟩, ⟨#[120]⟩, ⟨#[102, 111, 114]⟩] (by simp) (by simp) fun nm m4 hn hc ho => ?_
    have h := h.call hgr ho hc
    have hnm : nm.size <= 3 := by simp at hn; rcases hn with rfl | rfl | rfl | rfl <;> decide
    clear hn hc ho
    have w3 := h.get (g := g3) (b := .box [(.lst true 2 [.agg [.str ⟨#[97]⟩, .int .i64 8], .agg [.str ⟨#[98]⟩, .int .i64 6]]), rowE 19 L.length o]) (by simp)
    try simp [-store_ptr, s0, literalA]
    refine wA ?_
    try simp [-store_ptr]
    refine c_l1Int hl h.ps true [0, 1, 16, 17] (by simp) (by simp) fun sz m5 hsz hc ho => ?_
    have h := h.call hgr (off_of ho) hc
    clear hsz hc ho
    have w3 := h.get (g := g3) (b := .box [(.lst true 2 [.agg [.str ⟨#[97]⟩, .int .i64 8], .agg [.str ⟨#[98]⟩, .int .i64 6]]), rowE 19 L.length o]) (by simp)
    try simp [-store_ptr]
    refine DH.appL et_29 h hgr (xs := [.agg [.str ⟨#[97]⟩, .int .i64 8], .agg [.str ⟨#[98]⟩, .int .i64 6]]) (x := .agg [.str nm, .int .i64 sz]) (by simp [srcA]) (by simp) fun g' c' n2 h => ?_
    have w3 := h.get (g := g3) (b := .box [(.lst true 2 [.agg [.str ⟨#[97]⟩, .int .i64 8], .agg [.str ⟨#[98]⟩, .int .i64 6]]), rowE 19 L.length o]) (by simp)
    simp [-store_ptr, s3]
    have t3 : storeA n2 (.ptr g3 0) (.own g' 3 c') = some (n2.set g3 (.box [.own g' 3 c', rowE 19 L.length o])) := by simp [storeA, w3, AV.cells]
    simp [-store_ptr, t3]
    have h := DH.put (l1 := (g', .arr 57 2 c' [.agg [.str ⟨#[97]⟩, .int .i64 8], .agg [.str ⟨#[98]⟩, .int .i64 6], .agg [.str nm, .int .i64 sz]]) :: (rowB 83 19 (L.map Sm.av) o)) (b' := .box [.own g' 3 c', rowE 19 L.length o]) (by simpa using h)
    subst hM
    exact ⟨by simp [s2], by simp [s3], [Ar.mk ⟨#[97]⟩ 8, Ar.mk ⟨#[98]⟩ 6, Ar.mk nm sz], _, _, L, o, by unfold Pg.tot; simp only [totL, Ar.tot]; have i0 : (⟨#[97]⟩ : ByteArray).size = 1 := rfl; have i1 : (⟨#[98]⟩ : ByteArray).size = 1 := rfl; omega, hno, .inr ⟨g', c', rfl, rfl⟩, DH.swap (by simpa [Ar.av, Ar.cells] using h)⟩
   simp [-store_ptr, s0, s3, sm, literalA]
   refine wA ?_
   try simp [-store_ptr, sm]
   refine c_l1Str hl h.ps true [⟨#[99]⟩, ⟨#[97]⟩, ⟨#[120]⟩, ⟨#[102, 111, 114]⟩] (by simp) (by simp) fun nm m4 hn hc ho => ?_
   have h := h.call hgr ho hc
   have hnm : nm.size <= 3 := by simp at hn; rcases hn with rfl | rfl | rfl | rfl <;> decide
   clear hn hc ho
   have w3 := h.get (g := g3) (b := .box [(.lst true 2 [.agg [.str ⟨#[97]⟩, .int .i64 8], .agg [.str ⟨#[98]⟩, .int .i64 6]]), rowE 19 L.length o]) (by simp)
   try simp only [aopsF_nil]
   refine ⟨?_, ?_⟩
   ·simp [-store_ptr, s0, s3, w3, literalA]
    refine wA ?_
    try simp [-store_ptr]
    refine c_l1Int hl h.ps true [0, 1, 16, 17] (by simp) (by simp) fun sz m5 hsz hc ho => ?_
    have h := h.call hgr (off_of ho) hc
    clear hsz hc ho
    have w3 := h.get (g := g3) (b := .box [(.lst true 2 [.agg [.str ⟨#[97]⟩, .int .i64 8], .agg [.str ⟨#[98]⟩, .int .i64 6]]), rowE 19 L.length o]) (by simp)
    try simp [-store_ptr]
    refine DH.appL et_29 h hgr (xs := [.agg [.str ⟨#[97]⟩, .int .i64 8], .agg [.str ⟨#[98]⟩, .int .i64 6]]) (x := .agg [.str nm, .int .i64 sz]) (by simp [srcA]) (by simp) fun g' c' n2 h => ?_
    have w3 := h.get (g := g3) (b := .box [(.lst true 2 [.agg [.str ⟨#[97]⟩, .int .i64 8], .agg [.str ⟨#[98]⟩, .int .i64 6]]), rowE 19 L.length o]) (by simp)
    simp [-store_ptr, s3]
    have t3 : storeA n2 (.ptr g3 0) (.own g' 3 c') = some (n2.set g3 (.box [.own g' 3 c', rowE 19 L.length o])) := by simp [storeA, w3, AV.cells]
    simp [-store_ptr, t3]
    have h := DH.put (l1 := (g', .arr 57 2 c' [.agg [.str ⟨#[97]⟩, .int .i64 8], .agg [.str ⟨#[98]⟩, .int .i64 6], .agg [.str nm, .int .i64 sz]]) :: (rowB 83 19 (L.map Sm.av) o)) (b' := .box [.own g' 3 c', rowE 19 L.length o]) (by simpa using h)
    subst hM
    exact ⟨by simp [s2], by simp [s3], [Ar.mk ⟨#[97]⟩ 8, Ar.mk ⟨#[98]⟩ 6, Ar.mk nm sz], _, _, L, o, by unfold Pg.tot; simp only [totL, Ar.tot]; have i0 : (⟨#[97]⟩ : ByteArray).size = 1 := rfl; have i1 : (⟨#[98]⟩ : ByteArray).size = 1 := rfl; omega, hno, .inr ⟨g', c', rfl, rfl⟩, DH.swap (by simpa [Ar.av, Ar.cells] using h)⟩
   refine wA ?_
   try simp [-store_ptr]
   refine c_l1Int hl h.ps true [0, 1, 16, 17] (by simp) (by simp) fun sz m5 hsz hc ho => ?_
   have h := h.call hgr (off_of ho) hc
   clear hsz hc ho
   have w3 := h.get (g := g3) (b := .box [(.lst true 2 [.agg [.str ⟨#[97]⟩, .int .i64 8], .agg [.str ⟨#[98]⟩, .int .i64 6]]), rowE 19 L.length o]) (by simp)
   simp [-store_ptr, s3, w3]
   try simp [-store_ptr]
   refine DH.appL et_29 h hgr (xs := [.agg [.str ⟨#[97]⟩, .int .i64 8], .agg [.str ⟨#[98]⟩, .int .i64 6]]) (x := .agg [.str nm, .int .i64 sz]) (by simp [srcA]) (by simp) fun g' c' n2 h => ?_
   have w3 := h.get (g := g3) (b := .box [(.lst true 2 [.agg [.str ⟨#[97]⟩, .int .i64 8], .agg [.str ⟨#[98]⟩, .int .i64 6]]), rowE 19 L.length o]) (by simp)
   simp [-store_ptr, s3]
   have t3 : storeA n2 (.ptr g3 0) (.own g' 3 c') = some (n2.set g3 (.box [.own g' 3 c', rowE 19 L.length o])) := by simp [storeA, w3, AV.cells]
   simp [-store_ptr, t3]
   have h := DH.put (l1 := (g', .arr 57 2 c' [.agg [.str ⟨#[97]⟩, .int .i64 8], .agg [.str ⟨#[98]⟩, .int .i64 6], .agg [.str nm, .int .i64 sz]]) :: (rowB 83 19 (L.map Sm.av) o)) (b' := .box [.own g' 3 c', rowE 19 L.length o]) (by simpa using h)
   subst hM
   exact ⟨by simp [s2], by simp [s3], [Ar.mk ⟨#[97]⟩ 8, Ar.mk ⟨#[98]⟩ 6, Ar.mk nm sz], _, _, L, o, by unfold Pg.tot; simp only [totL, Ar.tot]; have i0 : (⟨#[97]⟩ : ByteArray).size = 1 := rfl; have i1 : (⟨#[98]⟩ : ByteArray).size = 1 := rfl; omega, hno, .inr ⟨g', c', rfl, rfl⟩, DH.swap (by simpa [Ar.av, Ar.cells] using h)⟩
  (repeat refine qA ?_);refine AWp.condF (by simp [q0]) ?_
  (repeat refine qA ?_);refine rA ?_
  simp [s11]
  by_cases q1 : n = 1
  ·(repeat refine qA ?_);refine AWp.condT (by simp [q1]) ?_
   have w3 := h.get (g := g3) (b := .box [(.lst true 2 [.agg [.str ⟨#[97]⟩, .int .i64 8], .agg [.str ⟨#[98]⟩, .int .i64 6]]), rowE 19 L.length o]) (by simp)
   have hsl : sliceA Tryz.prog 29 (.lst true 2 [.agg [.str ⟨#[97]⟩, .int .i64 8], .agg [.str ⟨#[98]⟩, .int .i64 6]]) none (some (.int .i64 1)) = some (.lst false 2 [.agg [.str ⟨#[97]⟩, .int .i64 8]]) := by
    have hb : ∀ n : Nat, boundA 2 n (some (.int .i64 1)) = some 1 ∨ True := fun _ => .inr trivial
    unfold sliceA
    simp [boundA]
   (repeat refine qA ?_);refine rA ?_
   have t3 : storeA m3 (.ptr g3 0) (.lst false 2 [.agg [.str ⟨#[97]⟩, .int .i64 8]]) = some (m3.set g3 (.box [.lst false 2 [.agg [.str ⟨#[97]⟩, .int .i64 8]], rowE 19 L.length o])) := by simp [storeA, w3, AV.cells]
   simp [-store_ptr, s3, sm, w3, hsl, t3]
   have h := DH.put (l1 := rowB 83 19 (L.map Sm.av) o) (b' := .box [.lst false 2 [.agg [.str ⟨#[97]⟩, .int .i64 8]], rowE 19 L.length o]) h
   subst hM
   exact ⟨by simp [s2], by simp [s3], [Ar.mk ⟨#[97]⟩ 8], .lst false 2 [.agg [.str ⟨#[97]⟩, .int .i64 8]], [], L, o, by unfold Pg.tot; simp only [totL, Ar.tot]; have i0 : (⟨#[97]⟩ : ByteArray).size = 1 := rfl; omega, hno, .inl ⟨rfl, false, rfl⟩, by simpa using h⟩
  (repeat refine qA ?_);refine AWp.condF (by simp [q1]) ?_
  (repeat refine qA ?_);refine rA ?_
  simp [s11]
  by_cases q2 : n = 2
  ·(repeat refine qA ?_);refine AWp.condT (by simp [q2]) ?_
   have w3 := h.get (g := g3) (b := .box [(.lst true 2 [.agg [.str ⟨#[97]⟩, .int .i64 8], .agg [.str ⟨#[98]⟩, .int .i64 6]]), rowE 19 L.length o]) (by simp)
   (repeat refine qA ?_);refine AWp.regionX (fun _ => false) (fun _ => false) [0, 1, 2, 3, 4, 5, 6, 7] [0, 2, 3, 1, 4, 5, 6, 7] 1 3 [0, 1, 2, 3, 4, 5, 6, 7] (by kernel_rfl) ?_ ?_
   ·simp [-store_ptr, s0, s3, sm, w3]
    refine wA ?_
    try simp [-store_ptr, sm]
    refine c_l3AnyStmt l hl g _ h.ps _ fun y m4 hy hc ho => ?_
    have h := h.call hgr ho hc
    have w3 := h.get (g := g3) (b := .box [(.lst true 2 [.agg [.str ⟨#[97]⟩, .int .i64 8], .agg [.str ⟨#[98]⟩, .int .i64 6]]), rowE 19 L.length o]) (by simp)
    simp [-store_ptr, Sm.av, literalA]
    refine DH.app (e0 := 19) (xs := L.map Sm.av) (bs := [(g3, .box [(.lst true 2 [.agg [.str ⟨#[97]⟩, .int .i64 8], .agg [.str ⟨#[98]⟩, .int .i64 6]]), rowE 19 L.length o]), (g2, .box [.lst true 0 [], .lst true 0 []])]) (x := Sm.av y) et_30 (by simp) h hgr (fun e => by rw [hno e]; rfl) (by simp [srcA, Sm.av]) (Sm.cells_ok y) (by omega) fun g' c' n2 h => ?_
    obtain ⟨r1, r2, r3⟩ := rowE_ok 19 (L.length + 1) (some (g', c'))
    have w3 := h.get (g := g3) (b := .box [(.lst true 2 [.agg [.str ⟨#[97]⟩, .int .i64 8], .agg [.str ⟨#[98]⟩, .int .i64 6]]), rowE 19 L.length o]) (by simp)
    have t3 : storeA n2 (.ptr g3 1) (rowE 19 (L.length + 1) (some (g', c'))) = some (n2.set g3 (.box [(.lst true 2 [.agg [.str ⟨#[97]⟩, .int .i64 8], .agg [.str ⟨#[98]⟩, .int .i64 6]]), rowE 19 (L.length + 1) (some (g', c'))])) := by simp [storeA, w3, r1]
    simp [-store_ptr, s3, t3, r1, r2, r3]
    have h := DH.put (l1 := rowB 83 19 (L.map Sm.av ++ [Sm.av y]) (some (g', c'))) (b' := .box [(.lst true 2 [.agg [.str ⟨#[97]⟩, .int .i64 8], .agg [.str ⟨#[98]⟩, .int .i64 6]]), rowE 19 (L.length + 1) (some (g', c'))]) h
    subst hM
    exact ⟨by simp [s2], by simp [s3], [Ar.mk ⟨#[97]⟩ 8, Ar.mk ⟨#[98]⟩ 6], (.lst true 2 [.agg [.str ⟨#[97]⟩, .int .i64 8], .agg [.str ⟨#[98]⟩, .int .i64 6]]), [], L ++ [y], some (g', c'), by unfold Pg.tot; rw [totL_snoc]; unfold Sm.w; simp only [totL, Ar.tot]; have i0 : (⟨#[97]⟩ : ByteArray).size = 1 := rfl; have i1 : (⟨#[98]⟩ : ByteArray).size = 1 := rfl; omega, fun e => (by cases e), .inl ⟨rfl, true, rfl⟩, by simpa using h⟩
   simp [-store_ptr, s0, s3, sm]
   refine wA ?_
   try simp [-store_ptr, sm]
   refine c_l3AnyStmt l hl g _ h.ps _ fun y m4 hy hc ho => ?_
   have h := h.call hgr ho hc
   have w3 := h.get (g := g3) (b := .box [(.lst true 2 [.agg [.str ⟨#[97]⟩, .int .i64 8], .agg [.str ⟨#[98]⟩, .int .i64 6]]), rowE 19 L.length o]) (by simp)
   simp [-store_ptr, Sm.av, literalA, s3, w3]
   refine DH.app (e0 := 19) (xs := L.map Sm.av) (bs := [(g3, .box [(.lst true 2 [.agg [.str ⟨#[97]⟩, .int .i64 8], .agg [.str ⟨#[98]⟩, .int .i64 6]]), rowE 19 L.length o]), (g2, .box [.lst true 0 [], .lst true 0 []])]) (x := Sm.av y) et_30 (by simp) h hgr (fun e => by rw [hno e]; rfl) (by simp [srcA, Sm.av]) (Sm.cells_ok y) (by omega) fun g' c' n2 h => ?_
   obtain ⟨r1, r2, r3⟩ := rowE_ok 19 (L.length + 1) (some (g', c'))
   have w3 := h.get (g := g3) (b := .box [(.lst true 2 [.agg [.str ⟨#[97]⟩, .int .i64 8], .agg [.str ⟨#[98]⟩, .int .i64 6]]), rowE 19 L.length o]) (by simp)
   have t3 : storeA n2 (.ptr g3 1) (rowE 19 (L.length + 1) (some (g', c'))) = some (n2.set g3 (.box [(.lst true 2 [.agg [.str ⟨#[97]⟩, .int .i64 8], .agg [.str ⟨#[98]⟩, .int .i64 6]]), rowE 19 (L.length + 1) (some (g', c'))])) := by simp [storeA, w3, r1]
   simp [-store_ptr, s3, t3, r1, r2, r3]
   have h := DH.put (l1 := rowB 83 19 (L.map Sm.av ++ [Sm.av y]) (some (g', c'))) (b' := .box [(.lst true 2 [.agg [.str ⟨#[97]⟩, .int .i64 8], .agg [.str ⟨#[98]⟩, .int .i64 6]]), rowE 19 (L.length + 1) (some (g', c'))]) h
   subst hM
   exact ⟨by simp [s2], by simp [s3], [Ar.mk ⟨#[97]⟩ 8, Ar.mk ⟨#[98]⟩ 6], (.lst true 2 [.agg [.str ⟨#[97]⟩, .int .i64 8], .agg [.str ⟨#[98]⟩, .int .i64 6]]), [], L ++ [y], some (g', c'), by unfold Pg.tot; rw [totL_snoc]; unfold Sm.w; simp only [totL, Ar.tot]; have i0 : (⟨#[97]⟩ : ByteArray).size = 1 := rfl; have i1 : (⟨#[98]⟩ : ByteArray).size = 1 := rfl; omega, fun e => (by cases e), .inl ⟨rfl, true, rfl⟩, by simpa using h⟩
  (repeat refine qA ?_);refine AWp.condF (by simp [q2]) ?_
  refine kA ?_
  subst hM
  exact ⟨by simp [s2], by simp [s3], [Ar.mk ⟨#[97]⟩ 8, Ar.mk ⟨#[98]⟩ 6], (.lst true 2 [.agg [.str ⟨#[97]⟩, .int .i64 8], .agg [.str ⟨#[98]⟩, .int .i64 6]]), [], L, o, by unfold Pg.tot; simp only [totL, Ar.tot]; have i0 : (⟨#[97]⟩ : ByteArray).size = 1 := rfl; have i1 : (⟨#[98]⟩ : ByteArray).size = 1 := rfl; omega, hno, .inl ⟨rfl, true, rfl⟩, by simpa [sm] using h⟩
 clear s0 s2 s3 s11 sm h hno r1 r2 r3 hL hLn hLt
 intro st hst
 subst hM
 obtain ⟨s2, s3, A, va, ba, L, o, ht, hno, hva, h⟩ := hst
 obtain ⟨m5, hsee, h⟩ := frzL h hno
 refine AWp.sees hsee ?_
 refine AWp.gen (fun st => st.slots 2 = .ptr g2 0 /\ st.slots 3 = .ptr g3 0 /\ st.mem = m5) ⟨s2, s3, rfl⟩ ?_
 clear s2 s3 hsee
 rintro st ⟨s2, s3, sm⟩
 rw [<- sm] at h
 obtain ⟨m6, hsee, h⟩ := frzA h hva
 refine AWp.sees hsee ?_
 refine AWp.gen (fun st => st.slots 2 = .ptr g2 0 /\ st.slots 3 = .ptr g3 0 /\ st.mem = m6) ⟨s2, s3, rfl⟩ ?_
 clear s2 s3 hsee sm
 rintro st ⟨s2, s3, sm⟩
 have w3 := h.get (g := g3) (b := .box (Pg.mk A L).cells) (by simp [Pg.cells])
 have w2 := h.get (g := g2) (b := .box [.lst true 0 [], .lst true 0 []]) (by simp)
 (repeat refine qA ?_);refine rA ?_
 simp [s2, s3, sm, w2, w3]
 have q := DH.put (l1 := [(g3, .box (Pg.mk A L).cells)]) (b' := .box (Pg.mk A L).cells) h
 exact AWp.ret ⟨[(Pg.mk A L).av], _, _, by simp [Tryz.f32, resA, s2, Pg.av], by (try simp); exact View.refl _ _, hK (Pg.mk A L) _ ht q.ps q.off⟩
theorem c_EqualFuncExp (l : List Ex) (fn : FuncId) (hl : l.length <= 1048576) (h : ∀ x ∈ l, PCall Tryz.prog fn [x.av, x.av] (.bool true)) : PCall Tryz.prog 180 [.lst false 4 (l.map Ex.av), .lst false 4 (l.map Ex.av), .func (.func fn) []] (.bool true) := by
 refine pO Tryz.func180 (by kernel_rfl) rfl (by simp [Tryz.f180]) ?_
 (repeat refine qA ?_);refine rA ?_
 simp
 (repeat refine qA ?_);refine rA ?_
 simp
 (repeat refine qA ?_);refine fA ?_
 refine kA ?_
 try simp
 (repeat refine qA ?_);refine rA ?_
 simp
 (repeat refine qA ?_);refine AWp.block (AWp.rounds (fun q st => ∃ i : Nat, q = l.length - i /\ i <= l.length /\ st.slots 1 = .lst false 4 (l.map Ex.av) /\ st.slots 2 = .func (.func fn) [] /\ st.slots 15 = .lst false 4 (l.map Ex.av) /\ st.slots 16 = .int .i64 l.length /\ st.slots 17 = .int .i64 i) l.length ⟨0, by simp, by simp, by simp, by simp, by simp, by simp, by simp⟩ ?_)
 rintro RR q st hRR ⟨i, rfl, hi, s1, s2, s15, s16, s17⟩
 by_cases hbl : i < l.length
 ·have hx : ∀ m, idxA Tryz.prog m 24 (.lst false 4 (l.map Ex.av)) (.int .i64 i) = some (.ref l[i].cells) := fun m => idx (y := l[i].av) es_24 (by simp [List.getElem?_eq_getElem hbl])
  have hw := iA i (by omega)
  have hm := h _ (List.getElem_mem hbl)
  have hcl : l[i].cells.length = 4 := by simp
  have hcd : List.drop 4 l[i].cells = [] := List.drop_eq_nil_of_le (by omega)
  have hct : List.take 4 l[i].cells = l[i].cells := List.take_of_length_le (by omega)
  unfold Ex.av at hm
  (repeat refine qA ?_);refine rA ?_
  simp [s16, s17, hbl]
  (repeat refine qA ?_);refine tA ?_
  refine kA ?_
  try simp
  (repeat refine qA ?_);refine bA ?_
  (repeat refine qA ?_);refine rA ?_
  simp [s15, s17, hx]
  intro g8 hg8
  refine AWp.gen (fun st => st.slots 1 = .lst false 4 (l.map Ex.av) /\ st.slots 2 = .func (.func fn) [] /\ st.slots 15 = .lst false 4 (l.map Ex.av) /\ st.slots 16 = .int .i64 l.length /\ st.slots 17 = .int .i64 i /\ st.slots 7 = .int .i64 i /\ st.slots 8 = .ptr g8 0 /\ st.mem g8 = some (.box l[i].cells)) ⟨by simp [s1], by simp [s2], by simp [s15], by simp [s16], by simp [s17], by simp, by simp, by simp [hcd, hct]⟩ ?_
  clear s1 s2 s15 s16 s17 hg8
  rintro st ⟨s1, s2, s15, s16, s17, s7, s8, w8⟩
  (repeat refine qA ?_);refine rA ?_
  simp [s1, s7, hx]
  intro g9 hg9
  have n89 : g8 ≠ g9 := by rintro rfl; rw [w8] at hg9; cases hg9
  refine AWp.gen (fun st => st.slots 1 = .lst false 4 (l.map Ex.av) /\ st.slots 2 = .func (.func fn) [] /\ st.slots 15 = .lst false 4 (l.map Ex.av) /\ st.slots 16 = .int .i64 l.length /\ st.slots 17 = .int .i64 i /\ st.slots 8 = .ptr g8 0 /\ st.slots 9 = .ptr g9 0 /\ st.mem g8 = some (.box l[i].cells) /\ st.mem g9 = some (.box l[i].cells)) ⟨by simp [s1], by simp [s2], by simp [s15], by simp [s16], by simp [s17], by simp [s8], by simp, by simp [Mem.set_other n89, w8], by simp [hcd, hct]⟩ ?_
  clear s1 s2 s15 s16 s17 s7 s8 w8 hg9 n89 hx
  rintro st ⟨s1, s2, s15, s16, s17, s8, s9, w8, w9⟩
  (repeat refine qA ?_);refine rA ?_
  simp [s2, s8, s9, w8, w9, hct]
  refine aop_wcall _ _ _ _ _ _ _ _ rfl (show _ = AV.func (.func fn) [] by simp) ?_
  try simp [s2, s8, s9, w8, w9, hct]
  refine hm.w ?_
  try simp
  (repeat refine qA ?_);refine fA ?_
  refine kA ?_
  try simp
  (repeat refine qA ?_);refine rA ?_
  simp [s17, hw]
  exact hRR _ (l.length - (i + 1)) (by omega) ⟨i + 1, rfl, by omega, by simp [s1], by simp [s2], by simp [s15], by simp [s16], by simp⟩
 have : i = l.length := by omega
 subst this
 (repeat refine qA ?_);refine rA ?_
 simp [s16, s17]
 (repeat refine qA ?_);refine fA ?_
 refine eA ?_
 try simp
 (repeat refine qA ?_);refine rA ?_
 try simp
 exact AWp.ret (pR1 rfl (by simp))
theorem c_EqualFuncStmt (l : List Sm) (fn : FuncId) (hl : l.length <= 1048576) (h : ∀ x ∈ l, PCall Tryz.prog fn [x.av, x.av] (.bool true)) : PCall Tryz.prog 158 [.lst false 19 (l.map Sm.av), .lst false 19 (l.map Sm.av), .func (.func fn) []] (.bool true) := by
 refine pO Tryz.func158 (by kernel_rfl) rfl (by simp [Tryz.f158]) ?_
 (repeat refine qA ?_);refine rA ?_
 simp
 (repeat refine qA ?_);refine rA ?_
 simp
 (repeat refine qA ?_);refine fA ?_
 refine kA ?_
 try simp
 (repeat refine qA ?_);refine rA ?_
 simp
 (repeat refine qA ?_);refine AWp.block (AWp.rounds (fun q st => ∃ i : Nat, q = l.length - i /\ i <= l.length /\ st.slots 1 = .lst false 19 (l.map Sm.av) /\ st.slots 2 = .func (.func fn) [] /\ st.slots 15 = .lst false 19 (l.map Sm.av) /\ st.slots 16 = .int .i64 l.length /\ st.slots 17 = .int .i64 i) l.length ⟨0, by simp, by simp, by simp, by simp, by simp, by simp, by simp⟩ ?_)
 rintro RR q st hRR ⟨i, rfl, hi, s1, s2, s15, s16, s17⟩
 by_cases hbl : i < l.length
 ·have hx : ∀ m, idxA Tryz.prog m 30 (.lst false 19 (l.map Sm.av)) (.int .i64 i) = some (.ref l[i].cells) := fun m => idx (y := l[i].av) es_30 (by simp [List.getElem?_eq_getElem hbl])
  have hw := iA i (by omega)
  have hm := h _ (List.getElem_mem hbl)
  have hcl : l[i].cells.length = 19 := by simp
  have hcd : List.drop 19 l[i].cells = [] := List.drop_eq_nil_of_le (by omega)
  have hct : List.take 19 l[i].cells = l[i].cells := List.take_of_length_le (by omega)
  unfold Sm.av at hm
  (repeat refine qA ?_);refine rA ?_
  simp [s16, s17, hbl]
  (repeat refine qA ?_);refine tA ?_
  refine kA ?_
  try simp
  (repeat refine qA ?_);refine bA ?_
  (repeat refine qA ?_);refine rA ?_
  simp [s15, s17, hx]
  intro g8 hg8
  refine AWp.gen (fun st => st.slots 1 = .lst false 19 (l.map Sm.av) /\ st.slots 2 = .func (.func fn) [] /\ st.slots 15 = .lst false 19 (l.map Sm.av) /\ st.slots 16 = .int .i64 l.length /\ st.slots 17 = .int .i64 i /\ st.slots 7 = .int .i64 i /\ st.slots 8 = .ptr g8 0 /\ st.mem g8 = some (.box l[i].cells)) ⟨by simp [s1], by simp [s2], by simp [s15], by simp [s16], by simp [s17], by simp, by simp, by simp [hcd, hct]⟩ ?_
  clear s1 s2 s15 s16 s17 hg8
  rintro st ⟨s1, s2, s15, s16, s17, s7, s8, w8⟩
  (repeat refine qA ?_);refine rA ?_
  simp [s1, s7, hx]
  intro g9 hg9
  have n89 : g8 ≠ g9 := by rintro rfl; rw [w8] at hg9; cases hg9
  refine AWp.gen (fun st => st.slots 1 = .lst false 19 (l.map Sm.av) /\ st.slots 2 = .func (.func fn) [] /\ st.slots 15 = .lst false 19 (l.map Sm.av) /\ st.slots 16 = .int .i64 l.length /\ st.slots 17 = .int .i64 i /\ st.slots 8 = .ptr g8 0 /\ st.slots 9 = .ptr g9 0 /\ st.mem g8 = some (.box l[i].cells) /\ st.mem g9 = some (.box l[i].cells)) ⟨by simp [s1], by simp [s2], by simp [s15], by simp [s16], by simp [s17], by simp [s8], by simp, by simp [Mem.set_other n89, w8], by simp [hcd, hct]⟩ ?_
  clear s1 s2 s15 s16 s17 s7 s8 w8 hg9 n89 hx
  rintro st ⟨s1, s2, s15, s16, s17, s8, s9, w8, w9⟩
  (repeat refine qA ?_);refine rA ?_
  simp [s2, s8, s9, w8, w9, hct]
  refine aop_wcall _ _ _ _ _ _ _ _ rfl (show _ = AV.func (.func fn) [] by simp) ?_
  try simp [s2, s8, s9, w8, w9, hct]
  refine hm.w ?_
  try simp
  (repeat refine qA ?_);refine fA ?_
  refine kA ?_
  try simp
  (repeat refine qA ?_);refine rA ?_
  simp [s17, hw]
  exact hRR _ (l.length - (i + 1)) (by omega) ⟨i + 1, rfl, by omega, by simp [s1], by simp [s2], by simp [s15], by simp [s16], by simp⟩
 have : i = l.length := by omega
 subst this
 (repeat refine qA ?_);refine rA ?_
 simp [s16, s17]
 (repeat refine qA ?_);refine fA ?_
 refine eA ?_
 try simp
 (repeat refine qA ?_);refine rA ?_
 try simp
 exact AWp.ret (pR1 rfl (by simp))
theorem c_impl_SameExp (e : Ex) : e.tot <= 1048576 -> PCall Tryz.prog 157 [e.av, e.av] (.bool true) := by
 induction e using Ex.ind with | h k m s l h =>
 intro ht
 rw [Ex.tot_mk] at ht
 have hl := totL_len Ex.tot l
 have cf := c_EqualFuncExp l 157 (by omega) fun x hx => h x hx (by have := totL_mem Ex.tot hx; omega)
 unfold Ex.av
 rw [Ex.cells_mk]
 refine pO Tryz.func157 (by kernel_rfl) rfl (by simp [Tryz.f157]) ?_
 (repeat refine qA ?_);refine rA ?_
 simp [set_at]
 intro g1 g2 h2
 have n21 : g2 ≠ g1 := fun e => by simp [e] at h2
 have m12 := n21.symm
 (repeat refine qA ?_);refine raA ?_
 simp [set_at, n21, m12]
 refine oC' cf ?_
 simp
 exact AWp.ret (pR1 rfl (by simp))
theorem c_spec_SameExp (e : Ex) : e.tot <= 1048576 -> PCall Tryz.prog 15 [e.av, e.av] (.bool true) := by
 induction e using Ex.ind with | h k m s l h =>
 intro ht
 rw [Ex.tot_mk] at ht
 have hl := totL_len Ex.tot l
 unfold Ex.av
 rw [Ex.cells_mk]
 refine pO Tryz.func15 (by kernel_rfl) rfl (by simp [Tryz.f15]) ?_
 (repeat refine qA ?_);refine rA ?_
 simp [set_at]
 intro g1 g2 h2
 have n21 : g2 ≠ g1 := fun e => by simp [e] at h2
 have m12 := n21.symm
 (repeat refine qA ?_);refine rA ?_
 simp [set_at, n21, m12]
 (repeat refine qA ?_);refine fA ?_
 refine kA ?_
 try simp
 (repeat refine qA ?_);refine rA ?_
 simp
 (repeat refine qA ?_);refine AWp.block (AWp.rounds (fun q st => ∃ i : Nat, q = l.length - i /\ i <= l.length /\ st.slots 2 = .ptr g1 0 /\ st.slots 3 = .ptr g2 0 /\ st.slots 5 = .int .i64 i /\ st.mem g1 = some (.box [.int .i64 k, .int .i64 m, .str s, .lst false 4 (l.map Ex.av)]) /\ st.mem g2 = some (.box [.int .i64 k, .int .i64 m, .str s, .lst false 4 (l.map Ex.av)])) l.length ⟨0, by simp, by simp, by simp, by simp, by simp, by simp [set_at, m12], by simp [set_at, n21]⟩ ?_)
 rintro RR q st hRR ⟨i, rfl, hi, s2, s3, s5, w1, w2⟩
 (repeat refine qA ?_);refine rA ?_
 by_cases hbl : i < l.length
 ·have hx : ∀ m, idxA Tryz.prog m 24 (.lst false 4 (l.map Ex.av)) (.int .i64 i) = some (.ref l[i].cells) := fun m => idx (y := l[i].av) es_24 (by simp [List.getElem?_eq_getElem hbl])
  have hw := iA i (by omega)
  have hct : List.take 4 l[i].cells = l[i].cells := List.take_of_length_le (by simp)
  have hm := h _ (List.getElem_mem hbl) (by have := totL_mem Ex.tot (List.getElem_mem hbl); omega)
  unfold Ex.av at hm
  simp [s2, s5, w1, hbl]
  (repeat refine qA ?_);refine tA ?_
  refine kA ?_
  try simp
  (repeat refine qA ?_);refine bA ?_
  (repeat refine qA ?_);refine AWp.regionG (fun i => i == 10) (fun _ => false) [0, 1, 2, 3, 4, 5, 6, 7, 8, 9, 10, 11] [0, 1, 2, 3, 4, 5, 6, 7, 8, 9, 10, 11] (by kernel_rfl) ?_
  simp [s2, s3, s5, w1, w2, hx, hct]
  refine oC' hm ?_
  simp
  (repeat refine qA ?_);refine fA ?_
  refine kA ?_
  try simp
  (repeat refine qA ?_);refine rA ?_
  simp [s5, hw]
  exact hRR _ (l.length - (i + 1)) (by omega) ⟨i + 1, rfl, by omega, by simp [s2], by simp [s3], by simp, by simp [w1], by simp [w2]⟩
 have : i = l.length := by omega
 subst this
 simp [s2, s5, w1]
 (repeat refine qA ?_);refine fA ?_
 refine eA ?_
 try simp
 (repeat refine qA ?_);refine rA ?_
 try simp
 exact AWp.ret (pR1 rfl (by simp))
theorem c_impl_SameStmt (x : Sm) : x.tot <= 1048576 -> PCall Tryz.prog 118 [x.av, x.av] (.bool true) := by
 induction x using Sm.ind with | h k s a e lo hi b h =>
 intro ht
 rw [Sm.tot_mk] at ht
 have hl := totL_len Sm.tot b
 have cf := c_EqualFuncStmt b 118 (by omega) fun x hx => h x hx (by have := totL_mem Sm.tot hx; omega)
 have ca := c_impl_SameExp a (by omega)
 have ce := c_impl_SameExp e (by omega)
 have cl := c_impl_SameExp lo (by omega)
 have ch := c_impl_SameExp hi (by omega)
 unfold Ex.av at ca ce cl ch
 unfold Sm.av
 rw [Sm.cells_mk]
 refine pO Tryz.func118 (by kernel_rfl) rfl (by simp [Tryz.f118]) ?_
 (repeat refine qA ?_);refine rA ?_
 simp [set_at]
 intro g1 g2 h2
 have n21 : g2 ≠ g1 := fun e => by simp [e] at h2
 have m12 := n21.symm
 (repeat refine qA ?_);refine raA ?_
 simp [set_at, n21, m12]
 refine oC' ca ?_
 simp [set_at, n21, m12]
 refine oC' ce ?_
 simp
 (repeat refine qA ?_);refine fA ?_
 refine kA ?_
 try simp
 (repeat refine qA ?_);refine raA ?_
 simp [set_at, n21, m12]
 refine oC' cl ?_
 simp [set_at, n21, m12]
 refine oC' ch ?_
 simp [set_at, n21, m12]
 refine oC' cf ?_
 simp
 exact AWp.ret (pR1 rfl (by simp))
theorem c_spec_SameStmt (x : Sm) : x.tot <= 1048576 -> PCall Tryz.prog 119 [x.av, x.av] (.bool true) := by
 induction x using Sm.ind with | h k s a e lo hi b h =>
 intro ht
 rw [Sm.tot_mk] at ht
 have hl := totL_len Sm.tot b
 have ca := c_spec_SameExp a (by omega)
 have ce := c_spec_SameExp e (by omega)
 have cl := c_spec_SameExp lo (by omega)
 have ch := c_spec_SameExp hi (by omega)
 unfold Ex.av at ca ce cl ch
 unfold Sm.av
 rw [Sm.cells_mk]
 refine pO Tryz.func119 (by kernel_rfl) rfl (by simp [Tryz.f119]) ?_
 (repeat refine qA ?_);refine rA ?_
 simp [set_at]
 intro g1 g2 h2
 have n21 : g2 ≠ g1 := fun e => by simp [e] at h2
 have m12 := n21.symm
 (repeat refine qA ?_);refine raA ?_
 simp [set_at, n21, m12]
 refine oC' ca ?_
 simp [set_at, n21, m12]
 refine oC' ce ?_
 simp [set_at, n21, m12]
 refine oC' cl ?_
 simp [set_at, n21, m12]
 refine oC' ch ?_
 simp [set_at, n21, m12]
 (repeat refine qA ?_);refine fA ?_
 refine kA ?_
 try simp
 (repeat refine qA ?_);refine rA ?_
 simp
 (repeat refine qA ?_);refine AWp.block (AWp.rounds (fun q st => ∃ i : Nat, q = b.length - i /\ i <= b.length /\ st.slots 2 = .ptr g1 0 /\ st.slots 3 = .ptr g2 0 /\ st.slots 5 = .int .i64 i /\ st.mem g1 = some (.box (.int .i64 k :: .str s :: (a.cells ++ (e.cells ++ (lo.cells ++ (hi.cells ++ [.lst false 19 (b.map Sm.av)])))))) /\ st.mem g2 = some (.box (.int .i64 k :: .str s :: (a.cells ++ (e.cells ++ (lo.cells ++ (hi.cells ++ [.lst false 19 (b.map Sm.av)]))))))) b.length ⟨0, by simp, by simp, by simp, by simp, by simp, by simp [set_at, m12], by simp [set_at, n21]⟩ ?_)
 rintro RR q st hRR ⟨i, rfl, hi', s2, s3, s5, w1, w2⟩
 (repeat refine qA ?_);refine rA ?_
 by_cases hbl : i < b.length
 ·have hx : ∀ m, idxA Tryz.prog m 30 (.lst false 19 (b.map Sm.av)) (.int .i64 i) = some (.ref b[i].cells) := fun m => idx (y := b[i].av) es_30 (by simp [List.getElem?_eq_getElem hbl])
  have hw := iA i (by omega)
  have hct : List.take 19 b[i].cells = b[i].cells := List.take_of_length_le (by simp)
  have hm := h _ (List.getElem_mem hbl) (by have := totL_mem Sm.tot (List.getElem_mem hbl); omega)
  unfold Sm.av at hm
  simp [s2, s5, w1, hbl]
  (repeat refine qA ?_);refine tA ?_
  refine kA ?_
  try simp
  (repeat refine qA ?_);refine bA ?_
  (repeat refine qA ?_);refine AWp.regionG (fun i => i == 10) (fun _ => false) [0, 1, 2, 3, 4, 5, 6, 7, 8, 9, 10, 11] [0, 1, 2, 3, 4, 5, 6, 7, 8, 9, 10, 11] (by kernel_rfl) ?_
  simp [s2, s3, s5, w1, w2, hx, hct]
  refine oC' hm ?_
  simp
  (repeat refine qA ?_);refine fA ?_
  refine kA ?_
  try simp
  (repeat refine qA ?_);refine rA ?_
  simp [s5, hw]
  exact hRR _ (b.length - (i + 1)) (by omega) ⟨i + 1, rfl, by omega, by simp [s2], by simp [s3], by simp, by simp [w1], by simp [w2]⟩
 have : i = b.length := by omega
 subst this
 simp [s2, s5, w1]
 (repeat refine qA ?_);refine fA ?_
 refine eA ?_
 try simp
 (repeat refine qA ?_);refine rA ?_
 try simp
 exact AWp.ret (pR1 rfl (by simp))
theorem c_sameBody (b : List Sm) (ht : totL Sm.tot b <= 1048576) : PCall Tryz.prog 59 [.lst false 19 (b.map Sm.av), .lst false 19 (b.map Sm.av)] (.bool true) := by
 have hl := totL_len Sm.tot b
 refine pO Tryz.func59 (by kernel_rfl) rfl (by simp [Tryz.f59]) ?_
 (repeat refine qA ?_);refine rA ?_
 simp
 (repeat refine qA ?_);refine rA ?_
 simp
 (repeat refine qA ?_);refine fA ?_
 refine kA ?_
 try simp
 (repeat refine qA ?_);refine rA ?_
 simp
 (repeat refine qA ?_);refine AWp.block (AWp.rounds (fun q st => ∃ i : Nat, q = b.length - i /\ i <= b.length /\ st.slots 0 = .lst false 19 (b.map Sm.av) /\ st.slots 1 = .lst false 19 (b.map Sm.av) /\ st.slots 5 = .int .i64 i) b.length ⟨0, by simp, by simp, by simp, by simp, by simp⟩ ?_)
 rintro RR q st hRR ⟨i, rfl, hi', s0, s1, s5⟩
 (repeat refine qA ?_);refine rA ?_
 by_cases hbl : i < b.length
 ·have hx : ∀ m, idxA Tryz.prog m 30 (.lst false 19 (b.map Sm.av)) (.int .i64 i) = some (.ref b[i].cells) := fun m => idx (y := b[i].av) es_30 (by simp [List.getElem?_eq_getElem hbl])
  have hw := iA i (by omega)
  have hct : List.take 19 b[i].cells = b[i].cells := List.take_of_length_le (by simp)
  have h1 := c_impl_SameStmt b[i] (by have := totL_mem Sm.tot (List.getElem_mem hbl); omega)
  have h2 := c_spec_SameStmt b[i] (by have := totL_mem Sm.tot (List.getElem_mem hbl); omega)
  unfold Sm.av at h1 h2
  simp [s0, s1, s5, hbl]
  (repeat refine qA ?_);refine tA ?_
  refine kA ?_
  try simp
  (repeat refine qA ?_);refine bA ?_
  (repeat refine qA ?_);refine AWp.regionG (fun i => i == 8 || i == 19) (fun _ => false) [0, 1, 2, 3, 4, 5, 6, 7, 8, 9, 10, 11, 12, 13, 14, 15, 16, 17, 18, 19, 20, 21] [0, 1, 2, 3, 4, 5, 6, 7, 8, 9, 10, 11, 12, 13, 14, 15, 16, 17, 18, 19, 20, 21] (by kernel_rfl) ?_
  simp [s0, s1, s5, hx, hct]
  refine oC' h1 ?_
  simp [s0, s1, s5, hx, hct]
  refine oC' h2 ?_
  simp
  (repeat refine qA ?_);refine fA ?_
  refine kA ?_
  try simp
  (repeat refine qA ?_);refine rA ?_
  simp [s5, hw]
  exact hRR _ (b.length - (i + 1)) (by omega) ⟨i + 1, rfl, by omega, by simp [s0], by simp [s1], by simp⟩
 have : i = b.length := by omega
 subst this
 simp [s0, s5]
 (repeat refine qA ?_);refine fA ?_
 refine eA ?_
 try simp
 (repeat refine qA ?_);refine rA ?_
 try simp
 exact AWp.ret (pR1 rfl (by simp))
theorem eq_arr (a : Ar) : eqA Tryz.prog 57 (.agg [.str a.s, .int .i64 a.n]) (.agg [.str a.s, .int .i64 a.n]) = some true := by
 have h1 : Tryz.prog.eqGuardType Tryz.prog.depth 57 = false := by kernel_rfl
 have h2 : Tryz.prog.stoodInHeld 57 = false := by kernel_rfl
 have h3 : aggT Tryz.prog 9 = some false := by kernel_rfl
 have h4 : aggT Tryz.prog 3 = some false := by kernel_rfl
 simp [eqA, h1, h2, Tryz.underlying57, eqFA, h3, h4, eqSc, Tryz.underlying9, Tryz.underlying3]
theorem c_sameProg (p : Pg) (ht : p.tot <= 1048576) : PCall Tryz.prog 19 [p.av, p.av] (.bool true) := by
 have h1 := totL_len Ar.tot p.arrs
 have h2 := totL_len Sm.tot p.body
 have h3 : p.tot = totL Ar.tot p.arrs + totL Sm.tot p.body := rfl
 have cb := c_sameBody p.body (by omega)
 unfold Pg.av Pg.cells
 refine pO Tryz.func19 (by kernel_rfl) rfl (by simp [Tryz.f19]) ?_
 (repeat refine qA ?_);refine rA ?_
 simp [set_at]
 intro g1 g2 h2
 have n21 : g2 ≠ g1 := fun e => by simp [e] at h2
 have m12 := n21.symm
 (repeat refine qA ?_);refine raA ?_
 simp [set_at, n21, m12]
 refine oC' cb ?_
 simp
 (repeat refine qA ?_);refine fA ?_
 refine kA ?_
 try simp
 (repeat refine qA ?_);refine rA ?_
 simp
 (repeat refine qA ?_);refine AWp.block (AWp.rounds (fun q st => ∃ i : Nat, q = p.arrs.length - i /\ i <= p.arrs.length /\ st.slots 2 = .ptr g1 0 /\ st.slots 3 = .ptr g2 0 /\ st.slots 5 = .int .i64 i /\ st.mem g1 = some (.box [.lst false 2 (p.arrs.map Ar.av), .lst false 19 (p.body.map Sm.av)]) /\ st.mem g2 = some (.box [.lst false 2 (p.arrs.map Ar.av), .lst false 19 (p.body.map Sm.av)])) p.arrs.length ⟨0, by simp, by simp, by simp, by simp, by simp, by simp [set_at, m12], by simp [set_at, n21]⟩ ?_)
 rintro RR q st hRR ⟨i, rfl, hi, s2, s3, s5, w1, w2⟩
 (repeat refine qA ?_);refine rA ?_
 by_cases hbl : i < p.arrs.length
 ·have hx : ∀ m, idxA Tryz.prog m 29 (.lst false 2 (p.arrs.map Ar.av)) (.int .i64 i) = some (.ref [.str p.arrs[i].s, .int .i64 p.arrs[i].n]) := fun m => idx (y := p.arrs[i].av) es_29 (by simp [List.getElem?_eq_getElem hbl])
  have hw := iA i (by omega)
  have he := eq_arr p.arrs[i]
  simp [s2, s5, w1, hbl]
  (repeat refine qA ?_);refine tA ?_
  refine kA ?_
  try simp
  (repeat refine qA ?_);refine bA ?_
  (repeat refine qA ?_);refine AWp.regionG (fun _ => false) (fun _ => false) [0, 1, 2, 3, 4, 5, 6, 7, 8, 9, 10] [0, 1, 2, 3, 4, 5, 6, 7, 8, 9, 10] (by kernel_rfl) ?_
  simp [s2, s3, s5, w1, w2, hx, eqO, he]
  (repeat refine qA ?_);refine fA ?_
  refine kA ?_
  try simp
  (repeat refine qA ?_);refine rA ?_
  simp [s5, hw]
  exact hRR _ (p.arrs.length - (i + 1)) (by omega) ⟨i + 1, rfl, by omega, by simp [s2], by simp [s3], by simp, by simp [w1], by simp [w2]⟩
 have : i = p.arrs.length := by omega
 subst this
 simp [s2, s5, w1]
 (repeat refine qA ?_);refine fA ?_
 refine eA ?_
 try simp
 (repeat refine qA ?_);refine rA ?_
 try simp
 exact AWp.ret (pR1 rfl (by simp))
theorem parse_out {s : ByteArray} {e : Ex} {a' : Nat} {bad' : Bool} (h : Run1 (sumP 30) ((lex s).getD []) 0 (!(lex s).isSome) e a' bad') (ha : a' <= ((lex s).getD []).length) :
  (bad' = true -> parseE s = none) /\ (bad' = false -> e.tot <= 1048576 /\ (a' < ((lex s).getD []).length -> parseE s = none) /\ (a' = ((lex s).getD []).length -> parseE s = if e.ok = true then some e else none)) := by
 unfold parseE
 cases hl : lex s with
 | none =>
  rw [hl] at h
  refine ⟨fun _ => rfl, fun e => ?_⟩
  have := h.ill (.inl rfl)
  rw [this] at e; cases e
 | some T =>
  rw [hl] at h ha
  simp only [Option.getD_some, Option.isSome_some, Bool.not_true] at h ha ⊢
  obtain ⟨hT, hl6⟩ := lex_fine hl
  cases hs : sumP 30 T with
  | none =>
   refine ⟨fun _ => rfl, fun e => ?_⟩
   have := h.ill (.inr (by simpa using hs))
   rw [this] at e; cases e
  | some p =>
   obtain ⟨x0, r⟩ := p
   obtain ⟨rfl, hb, hd⟩ := h.good x0 r rfl (by simpa using hs)
   subst hb
   refine ⟨fun e => (nomatch e), fun _ => ?_⟩
   have hw := (sum_fit 30 _ _ _ hs).2.2
   have hw2 := W_le T hT
   have hlen := congrArg List.length hd
   simp at hlen
   refine ⟨by omega, fun hlt => ?_, fun he => ?_⟩
   ·cases r with
    | nil => simp at hlen; omega
    | cons t l => rfl
   cases r with
   | nil => rfl
   | cons t l => simp at hlen; omega
theorem c_impl_ParseExp (s : ByteArray) (hz : s.size <= 9223372036854775807) {Tb : TypeId} {m : Mem} (hm : m TB = some (tabBlk Tb)) {K : AV -> Mem -> Prop}
  (hK : ∀ m' F r, Ext m m' -> Tr m m' F r ((parseE s).getD (Ex.mk 0 0 ⟨#[]⟩ [])) -> K (.tup [r, .bool (parseE s).isSome]) m') : WCall Tryz.prog 14 [.str s] m K := by
 have eE : ByteArray.empty = (⟨#[]⟩ : ByteArray) := rfl
 obtain ⟨T, hTd⟩ : ∃ T, T = (lex s).getD [] := ⟨_, rfl⟩
 have hT : (∀ t ∈ T, t.fine) /\ T.length <= 600 := by
  cases hl : lex s with
  | none => rw [hTd, hl]; simp
  | some T' =>
   rw [hTd, hl]
   exact lex_fine hl
 obtain ⟨hT, h6⟩ := hT
 refine wcall_of Tryz.func14 (by kernel_rfl) rfl (by simp [Tryz.f14]) ?_
 (repeat refine qA ?_);refine rA ?_
 simp
 intro g2 hg2
 have hE2 := ext_set hg2 (.box [.int .i64 0, .int .i64 0, .str ByteArray.empty, .lst true 0 []])
 have w2 := set_same m g2 (.box [.int .i64 0, .int .i64 0, .str ByteArray.empty, .lst true 0 []])
 refine AWp.gen (fun st => st.slots 0 = .str s /\ st.slots 2 = .ptr g2 0 /\ st.mem = m.set g2 (.box [.int .i64 0, .int .i64 0, .str ByteArray.empty, .lst true 0 []])) ⟨by simp, by simp, by simp⟩ ?_
 generalize m.set g2 (.box [.int .i64 0, .int .i64 0, .str ByteArray.empty, .lst true 0 []]) = m1 at *
 rintro st ⟨s0, s2, sm⟩
 (repeat refine qA ?_);refine rA ?_
 simp [s0]
 refine wA ?_
 simp [sm]
 refine c_impl_Lex s hz (hE2 _ _ hm) ?_
 rw [<- hTd]
 try simp
 refine AWp.gen (fun st => st.slots 2 = .ptr g2 0 /\ st.slots 4 = .lst false 3 (T.map Tk.av) /\ st.slots 5 = .bool (lex s).isSome /\ st.mem = m1) ⟨by first | (simp; done) | (simp [s2]; done), by simp, by simp, by first | (simp; done) | (simp [sm]; done)⟩ ?_
 clear s0 s2 sm
 rintro st ⟨s2, s4, s5, sm⟩
 (repeat refine qA ?_);refine rA ?_
 simp [s4, s5, sm]
 intro g6 hg6
 have n26 : g2 ≠ g6 := by rintro rfl; rw [w2] at hg6; cases hg6
 have hE6 := ext_set hg6 (.box (pc T 0 0 (!(lex s).isSome)))
 have w2 := hE6 _ _ w2
 have hE := hE2.trans hE6
 have hm6 : m g6 = none := by
  cases hq : m g6 with
  | none => rfl
  | some b => rw [hE2 _ _ hq] at hg6; cases hg6
 have hP : PS g6 T 0 0 (!(lex s).isSome) (m1.set g6 (.box (pc T 0 0 (!(lex s).isSome)))) := ⟨set_same _ _ _, by simp, h6⟩
 refine AWp.gen (fun st => st.slots 2 = .ptr g2 0 /\ st.slots 4 = .lst false 3 (T.map Tk.av) /\ st.slots 6 = .ptr g6 0 /\ st.mem = m1.set g6 (.box (pc T 0 0 (!(lex s).isSome)))) ⟨by simp [s2], by simp [s4], by simp, by simp [pc]⟩ ?_
 generalize m1.set g6 (.box (pc T 0 0 (!(lex s).isSome))) = m2 at *
 clear s2 s4 s5 sm hg6 hE2 hE6
 rintro st ⟨s2, s4, s6, sm⟩
 (repeat refine qA ?_);refine rA ?_
 simp [s6]
 refine wA ?_
 simp [sm, s6]
 refine c_sum 30 (by omega) g6 T 0 0 _ m2 hP hT (fun _ => by simp) _ fun m3 F r e a' d' bad' hPn hOn hTn run _ => ?_
 obtain ⟨c0, c1, c2, c3, rfl, q0, q1, q2, q3⟩ := hTn.cs
 have h := (PH.start hP).tree hP.at hOn hPn hTn
 have nF2 : ¬ F g2 := hTn.not (by rw [w2]; simp)
 have w2 := hOn _ _ n26 w2
 have hle := hPn.le
 rw [hTd] at run
 obtain ⟨o1, o2⟩ := parse_out run (by rw [<- hTd]; exact hle)
 rw [<- hTd] at o2
 simp [q0, q1, q2, q3]
 intro g7 hg7
 have w2 := ext_set hg7 (.box [c0, c1, c2, c3]) _ _ w2
 have h := h.box hP.at hg7 [c0, c1, c2, c3]
 refine AWp.gen (fun st => st.slots 2 = .ptr g2 0 /\ st.slots 4 = .lst false 3 (T.map Tk.av) /\ st.slots 6 = .ptr g6 0 /\ st.slots 7 = .ptr g7 0 /\ st.mem = m3.set g7 (.box [c0, c1, c2, c3])) ⟨by simp [s2], by simp [s4], by simp [s6], by simp, by simp⟩ ?_
 generalize m3.set g7 (.box [c0, c1, c2, c3]) = m4 at *
 clear s2 s4 s6 sm hg7 hPn hOn hTn run
 rintro st ⟨s2, s4, s6, s7, sm⟩
 have w7 := h.box1 (g := g7) (cs := [c0, c1, c2, c3]) (by simp)
 have hbx := h.ps.box
 unfold pc at hbx
 have toE : ∀ m', Off g6 m m' -> Ext m m' := fun m' hO g b hg => hO g b (by rintro rfl; rw [hm6] at hg; cases hg) hg
 have hm2 : m g2 = none := hg2
 have hO4 : Off g6 m m4 := (Off.ext hE).trans h.off
 have hO5 : ∀ b, Off g6 m (m4.set g2 b) := fun b g x hk hx => by
  have hne : g ≠ g2 := by rintro rfl; rw [hm2] at hx; cases hx
  rw [Mem.set_other hne]
  exact hO4 g x hk hx
 have zero : Tr m (m4.set g2 (.box [.int .i64 0, .int .i64 0, .str ⟨#[]⟩, .lst true 0 []])) (fun _ => False) (.agg [.int .i64 0, .int .i64 0, .str ⟨#[]⟩, .lst true 0 []]) (Ex.mk 0 0 ⟨#[]⟩ []) := ⟨own_leaf _ _ _ _, fun _ h => h.elim⟩
 have bad : ∀ st' : St, parseE s = none -> st'.slots 2 = .ptr g2 0 -> st'.slots 3 = .bool false -> st'.mem = m4.set g2 (.box [.int .i64 0, .int .i64 0, .str ByteArray.empty, .lst true 0 []]) -> Post Tryz.prog Tryz.f14 K .ret st' := fun st' hn t2 t3 tm => by
  have hK := hK _ _ _ (toE _ (hO5 _)) (by rw [hn]; exact zero)
  rw [hn] at hK
  exact ⟨[.agg [.int .i64 0, .int .i64 0, .str ⟨#[]⟩, .lst true 0 []], .bool false], _, _, by simp [Tryz.f14, resA, t2, t3, tm, eE], by rw [tm, eE]; exact View.refl _ _, hK⟩
 by_cases hb : bad' = true
 ·subst hb
  (repeat refine qA ?_);refine rA ?_
  simp [s6, sm, hbx]
  (repeat refine qA ?_);refine tA ?_
  (repeat refine qA ?_);refine rA ?_
  simp [s2, w2, sm]
  refine AWp.ret (bad _ (o1 rfl) ?_ ?_ ?_) <;> simp [s2, sm]
 have hb : bad' = false := by simpa using hb
 subst hb
 obtain ⟨ht, o3, o4⟩ := o2 rfl
 by_cases hlt : a' < T.length
 ·have hne : (a' : Int) < T.length := by omega
  (repeat refine qA ?_);refine rA ?_
  simp [s4, s6, sm, hbx, hne]
  (repeat refine qA ?_);refine tA ?_
  (repeat refine qA ?_);refine rA ?_
  simp [s2, w2, sm]
  refine AWp.ret (bad _ (o3 hlt) ?_ ?_ ?_) <;> simp [s2, sm]
 have hae : a' = T.length := by omega
 have o4 := o4 hae
 subst hae
 (repeat refine qA ?_);refine rA ?_
 simp [s4, s6, s7, sm, hbx, w7]
 obtain ⟨_, hL⟩ : ∃ F : Nat -> Prop, Lent m4 F [.agg [c0, c1, c2, c3]] [e.av] := (Lent.nil m4).own (h.tr (F, .agg [c0, c1, c2, c3], e) (by simp)).1.own
 refine wA ?_
 simp [sm]
 refine PCall.lend (c_impl_ExpOk e ht) hL rfl ?_
 clear hL
 cases hok : e.ok with
 | false =>
  rw [hok] at o4
  try simp
  (repeat refine qA ?_);refine tA ?_
  (repeat refine qA ?_);refine rA ?_
  simp [s2, w2, sm]
  refine AWp.ret (bad _ (by simpa using o4) ?_ ?_ ?_) <;> simp [s2, sm]
 | true =>
  rw [hok] at o4
  simp at o4
  try simp
  (repeat refine qA ?_);refine fA ?_
  refine kA ?_
  try simp
  (repeat refine qA ?_);refine rA ?_
  simp [s2, s7, sm, w2, w7, q0, q1, q2, q3]
  have q := (h.less (bs' := []) (List.nil_sublist _) (List.Sublist.refl _)).fin (m0 := m) (g2 := g2) (cs0 := [.int .i64 0, .int .i64 0, .str ByteArray.empty, .lst true 0 []]) (cs := [c0, c1, c2, c3]) (.inr ⟨w2, n26, hm2, nF2⟩) hE (fun hh => (by cases hh)) hP.at
  have hK := hK _ F (.agg [c0, c1, c2, c3]) (toE _ (hO5 _)) (by rw [o4]; exact q.2.2)
  rw [o4] at hK
  exact AWp.ret ⟨[.agg [c0, c1, c2, c3], .bool true], _, _, by simp [Tryz.f14, resA, s2], by (try simp); exact View.refl _ _, hK⟩
end Go.T
namespace Go.T
open Go Go.Proofs
set_option maxRecDepth 10000
set_option maxHeartbeats 1000000
section
variable {H : Type} {enc : TypeId × Value -> H} {W : World}
end





end Go.T
namespace Go.T
open Go Go.Proofs
set_option maxRecDepth 10000
set_option maxHeartbeats 1000000
open Go
end Go.T
namespace Go.T
open Go Go.Proofs
set_option maxRecDepth 10000
set_option maxHeartbeats 1000000
end Go.T
namespace Go.T
open Go Go.Proofs
set_option maxRecDepth 10000
set_option maxHeartbeats 1000000
open Go
end Go.T
