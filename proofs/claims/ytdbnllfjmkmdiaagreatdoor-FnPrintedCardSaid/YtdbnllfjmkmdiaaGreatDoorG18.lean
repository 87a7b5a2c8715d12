/- The program's parser: statements that are no loops. The program's parser: loops, and all statements. Arrays put in order by the library: what compares them; swaps. Arrays put in order by the library: turns. Arrays put in order by the library: insertions. -/
import Derived.Test.YtdbnllfjmkmdiaaGreatDoorG17
import Derived.Test.YtdbnllfjmkmdiaaGreatDoorG14
import Derived.Test.YtdbnllfjmkmdiaaGreatDoorG6
set_option linter.unusedSimpArgs false
set_option linter.unusedVariables false
namespace Go.T
open Go Go.Proofs
set_option maxRecDepth 10000
set_option maxHeartbeats 1000000
open Go
def loopPm : Nat -> PA Sm
 | 0 => fun _ => none
 | d + 1 => loopP (stmtP d)
theorem stmtP_loop {d : Nat} {T : List Tk} {a a' : Nat} {b' : Bool} {x : Sm} (hlt : a < T.length) (hm : T[a].is 3 forB = true) (h : Run1 (loopPm d) T (a + 1) false x a' b') : Run1 (stmtP d) T a false x a' b' := by
 cases d with
 | zero =>
  have := h.ill (.inr rfl)
  subst this
  exact stmtP_for0 hlt hm
 | succ d => exact stmtP_for hlt hm h
def StmtC (P : Program) (n : FuncId) (k : Int) (f : PA Sm) : Prop :=
 ∀ (gr : Nat) (T : List Tk) (a : Nat) (d : Int) (bad : Bool) (m : Mem), PS gr T a d bad m -> (∀ t ∈ T, t.fine) -> (bad = false -> d = 0) -> ∀ K : AV -> Mem -> Prop,
  (∀ m' F cs x a' d' bad', PS gr T a' d' bad' m' -> Off gr m m' -> Tv m m' F (.agg cs) (Sm.av x) -> Run1 f T a bad x a' bad' -> (bad' = false -> d' = 0) -> K (.agg cs) m') -> WCall P n [.ptr gr 0, .int .i64 k] m K
theorem OwnTs.c0 {m : Mem} {a x : AV} {us xs : List AV} (h : OwnT m (fun _ => False) a x) (k : OwnTs m (fun _ => False) us xs) : OwnTs m (fun _ => False) (a :: us) (x :: xs) := .cons h k (fun _ h _ => h) (fun _ h => h) (fun _ h => h)
theorem zS_own (m : Mem) : OwnT m (fun _ => False) (.agg [.int .i64 0, .str ByteArray.empty, .int .i64 0, .int .i64 0, .str ByteArray.empty, .lst true 0 [], .int .i64 0, .int .i64 0, .str ByteArray.empty, .lst true 0 [], .int .i64 0, .int .i64 0, .str ByteArray.empty, .lst true 0 [], .int .i64 0, .int .i64 0, .str ByteArray.empty, .lst true 0 [], .lst true 0 []]) (Sm.mk 0 ⟨#[]⟩ zE zE zE zE []).av := by
 show OwnT m _ _ (.agg (Sm.cells _))
 rw [Sm.cells_mk]
 unfold zE
 simp only [Ex.cells_mk, List.map_nil, List.cons_append, List.nil_append]
 exact .agg (by repeat (first | exact .nil | refine OwnTs.c0 (by first | exact .int _ _ | exact .str _ | exact .nil _ _ _) ?_)) rfl
theorem own_ks {m : Mem} {F : Nat -> Prop} {k k' : Int} {s s' : ByteArray} {a e lo hi : Ex} {b : List Sm} {v : List AV} (h : OwnT m F (.agg (.int .i64 k :: .str s :: v)) (Sm.mk k s a e lo hi b).av) : OwnT m F (.agg (.int .i64 k' :: .str s' :: v)) (Sm.mk k' s' a e lo hi b).av := by
 have e1 : ∀ k s, (Sm.mk k s a e lo hi b).av = .agg (.int .i64 k :: .str s :: (a.cells ++ (e.cells ++ (lo.cells ++ (hi.cells ++ [.lst false 19 (b.map Sm.av)]))))) := fun k s => by show AV.agg _ = _; rw [Sm.cells_mk]
 rw [e1] at h ⊢
 cases h with | agg h hok =>
 cases h with | cons h1 h2 h3 h4 h5 =>
 cases h2 with | cons k1 k2 k3 k4 k5 =>
 exact .agg (.cons (A := fun _ => False) (.int _ _) (.cons (A := fun _ => False) (B := F) (F := F) (.str _) (k2.up fun g hg => h5 g (k5 g hg)) (fun _ h => h.elim) (fun _ h => h.elim) fun _ h => h) (fun _ h => h.elim) (fun _ h => h.elim) fun _ h => h) (by simpa using hok)
theorem own_a {m : Mem} {F G : Nat -> Prop} {k : Int} {s : ByteArray} {a a' e lo hi : Ex} {b : List Sm} {u o o' v : List AV} (hu : u.length = 2) (ho : o.length = 4) (h : OwnT m F (.agg (u ++ (o ++ v))) (Sm.mk k s a e lo hi b).av) (h2 : OwnT m G (.agg o') a'.av) (hd : ∀ g, F g -> ¬ G g) : OwnT m (fun g => F g ∨ G g) (.agg (u ++ (o' ++ v))) (Sm.mk k s a' e lo hi b).av := by
 have e1 : ∀ a, (Sm.mk k s a e lo hi b).av = .agg ([.int .i64 k, .str s] ++ (a.cells ++ (e.cells ++ (lo.cells ++ (hi.cells ++ [.lst false 19 (b.map Sm.av)]))))) := fun a => by show AV.agg _ = _; rw [Sm.cells_mk]; rfl
 rw [e1] at h ⊢
 exact own_part h (by simp [hu]) (by simp [ho]) h2 hd
theorem own_e {m : Mem} {F G : Nat -> Prop} {k : Int} {s : ByteArray} {a e e' lo hi : Ex} {b : List Sm} {u o o' v : List AV} (hu : u.length = 6) (ho : o.length = 4) (h : OwnT m F (.agg (u ++ (o ++ v))) (Sm.mk k s a e lo hi b).av) (h2 : OwnT m G (.agg o') e'.av) (hd : ∀ g, F g -> ¬ G g) : OwnT m (fun g => F g ∨ G g) (.agg (u ++ (o' ++ v))) (Sm.mk k s a e' lo hi b).av := by
 have e1 : ∀ e, (Sm.mk k s a e lo hi b).av = .agg ((.int .i64 k :: .str s :: a.cells) ++ (e.cells ++ (lo.cells ++ (hi.cells ++ [.lst false 19 (b.map Sm.av)])))) := fun e => by show AV.agg _ = _; rw [Sm.cells_mk]; rfl
 rw [e1] at h ⊢
 exact own_part h (by simp [hu]) (by simp [ho]) h2 hd
theorem own_lo {m : Mem} {F G : Nat -> Prop} {k : Int} {s : ByteArray} {a e lo lo' hi : Ex} {b : List Sm} {u o o' v : List AV} (hu : u.length = 10) (ho : o.length = 4) (h : OwnT m F (.agg (u ++ (o ++ v))) (Sm.mk k s a e lo hi b).av) (h2 : OwnT m G (.agg o') lo'.av) (hd : ∀ g, F g -> ¬ G g) : OwnT m (fun g => F g ∨ G g) (.agg (u ++ (o' ++ v))) (Sm.mk k s a e lo' hi b).av := by
 have e1 : ∀ lo, (Sm.mk k s a e lo hi b).av = .agg ((.int .i64 k :: .str s :: (a.cells ++ e.cells)) ++ (lo.cells ++ (hi.cells ++ [.lst false 19 (b.map Sm.av)]))) := fun lo => by show AV.agg _ = _; rw [Sm.cells_mk]; simp
 rw [e1] at h ⊢
 exact own_part h (by simp [hu]) (by simp [ho]) h2 hd
theorem own_hi {m : Mem} {F G : Nat -> Prop} {k : Int} {s : ByteArray} {a e lo hi hi' : Ex} {b : List Sm} {u o o' v : List AV} (hu : u.length = 14) (ho : o.length = 4) (h : OwnT m F (.agg (u ++ (o ++ v))) (Sm.mk k s a e lo hi b).av) (h2 : OwnT m G (.agg o') hi'.av) (hd : ∀ g, F g -> ¬ G g) : OwnT m (fun g => F g ∨ G g) (.agg (u ++ (o' ++ v))) (Sm.mk k s a e lo hi' b).av := by
 have e1 : ∀ hi, (Sm.mk k s a e lo hi b).av = .agg ((.int .i64 k :: .str s :: (a.cells ++ (e.cells ++ lo.cells))) ++ (hi.cells ++ [.lst false 19 (b.map Sm.av)])) := fun hi => by show AV.agg _ = _; rw [Sm.cells_mk]; simp
 rw [e1] at h ⊢
 exact own_part h (by simp [hu]) (by simp [ho]) h2 hd
theorem own_body {m : Mem} {F G : Nat -> Prop} {k : Int} {s : ByteArray} {a e lo hi : Ex} {b b' : List Sm} {u : List AV} {o o' : AV} (hu : u.length = 18) (h : OwnT m F (.agg (u ++ [o])) (Sm.mk k s a e lo hi b).av) (h2 : OwnT m G o' (.lst false 19 (b'.map Sm.av))) (hd : ∀ g, F g -> ¬ G g) : OwnT m (fun g => F g ∨ G g) (.agg (u ++ [o'])) (Sm.mk k s a e lo hi b').av := by
 have e1 : ∀ b : List Sm, (Sm.mk k s a e lo hi b).av = .agg ((.int .i64 k :: .str s :: (a.cells ++ (e.cells ++ (lo.cells ++ hi.cells)))) ++ ([.lst false 19 (b.map Sm.av)] ++ [])) := fun b => by show AV.agg _ = _; rw [Sm.cells_mk]; simp
 rw [e1] at h ⊢
 have hk : OwnT m G (.agg [o']) (.agg [.lst false 19 (b'.map Sm.av)]) := .agg (.cons (A := G) (B := fun _ => False) h2 .nil (fun _ _ h => h) (fun _ h => h) fun _ h => h.elim) (by simp [h2.okc.1])
 exact own_part (u := u) (o := [o]) (v := []) (o' := [o']) (y' := [.lst false 19 (b'.map Sm.av)]) (z := []) h (by simp [hu]) rfl hk hd
theorem own_19 {m : Mem} {F : Nat -> Prop} {cs : List AV} {x : Sm} (h : OwnT m F (.agg cs) x.av) : cs.length = 19 /\ (∀ c ∈ cs, okCell c = true) /\ List.take 19 cs = cs := by
 have h0 : OwnT m F (.agg cs) (.agg x.cells) := h
 have hl := h0.len
 cases h with | agg h1 hok =>
 have hl2 : cs.length = 19 := by simpa [AV.cells] using hl
 exact ⟨hl2, List.all_eq_true.1 hok, List.take_of_length_le (by omega)⟩
theorem c_stmt0 (d : Nat) (hL : StmtC Tryz.prog 115 (4 - (d : Int)) (loopPm d)) : StmtC Tryz.prog 55 (4 - (d : Int)) (stmtP d) := by
 intro gr T a dd bad m hP hT hd0 K hK
 have hgr := hP.at
 have eE : ByteArray.empty = (⟨#[]⟩ : ByteArray) := rfl
 refine wcall_of Tryz.func55 (by kernel_rfl) rfl (by simp [Tryz.f55]) ?_
 (repeat refine qA ?_);refine rA ?_
 simp
 intro g4 hg4
 have h := (QH.start hP).box hgr hg4 [.int .i64 0, .str ByteArray.empty, .int .i64 0, .int .i64 0, .str ByteArray.empty, .lst true 0 [], .int .i64 0, .int .i64 0, .str ByteArray.empty, .lst true 0 [], .int .i64 0, .int .i64 0, .str ByteArray.empty, .lst true 0 [], .int .i64 0, .int .i64 0, .str ByteArray.empty, .lst true 0 [], .lst true 0 []]
 refine AWp.gen (fun st => st.slots 0 = .ptr gr 0 /\ st.slots 1 = .int .i64 (4 - (d : Int)) /\ st.slots 4 = .ptr g4 0 /\ st.mem = m.set g4 (.box [.int .i64 0, .str ByteArray.empty, .int .i64 0, .int .i64 0, .str ByteArray.empty, .lst true 0 [], .int .i64 0, .int .i64 0, .str ByteArray.empty, .lst true 0 [], .int .i64 0, .int .i64 0, .str ByteArray.empty, .lst true 0 [], .int .i64 0, .int .i64 0, .str ByteArray.empty, .lst true 0 [], .lst true 0 []])) ⟨by simp, by simp, by simp, by simp⟩ ?_
 generalize m.set g4 (.box [.int .i64 0, .str ByteArray.empty, .int .i64 0, .int .i64 0, .str ByteArray.empty, .lst true 0 [], .int .i64 0, .int .i64 0, .str ByteArray.empty, .lst true 0 [], .int .i64 0, .int .i64 0, .str ByteArray.empty, .lst true 0 [], .int .i64 0, .int .i64 0, .str ByteArray.empty, .lst true 0 [], .lst true 0 []]) = m1 at *
 rintro st ⟨s0, s1, s4, sm⟩
 (repeat refine qA ?_);refine rA ?_
 simp [sm]
 intro g5 hg5
 have h := (h.box hgr hg5 [.int .i64 0, .str ByteArray.empty, .int .i64 0, .int .i64 0, .str ByteArray.empty, .lst true 0 [], .int .i64 0, .int .i64 0, .str ByteArray.empty, .lst true 0 [], .int .i64 0, .int .i64 0, .str ByteArray.empty, .lst true 0 [], .int .i64 0, .int .i64 0, .str ByteArray.empty, .lst true 0 [], .lst true 0 []]).plain (zS_own _)
 refine AWp.gen (fun st => st.slots 0 = .ptr gr 0 /\ st.slots 1 = .int .i64 (4 - (d : Int)) /\ st.slots 4 = .ptr g4 0 /\ st.slots 5 = .ptr g5 0 /\ st.mem = m1.set g5 (.box [.int .i64 0, .str ByteArray.empty, .int .i64 0, .int .i64 0, .str ByteArray.empty, .lst true 0 [], .int .i64 0, .int .i64 0, .str ByteArray.empty, .lst true 0 [], .int .i64 0, .int .i64 0, .str ByteArray.empty, .lst true 0 [], .int .i64 0, .int .i64 0, .str ByteArray.empty, .lst true 0 [], .lst true 0 []])) ⟨by simp [s0], by simp [s1], by simp [s4], by simp, by simp⟩ ?_
 generalize m1.set g5 (.box [.int .i64 0, .str ByteArray.empty, .int .i64 0, .int .i64 0, .str ByteArray.empty, .lst true 0 [], .int .i64 0, .int .i64 0, .str ByteArray.empty, .lst true 0 [], .int .i64 0, .int .i64 0, .str ByteArray.empty, .lst true 0 [], .int .i64 0, .int .i64 0, .str ByteArray.empty, .lst true 0 [], .lst true 0 []]) = m2 at *
 clear s0 s1 s4 sm
 rintro st ⟨s0, s1, s4, s5, sm⟩
 obtain ⟨M, hM⟩ : ∃ M : St -> Prop, M = (fun st => ∃ k s A c0 c1 c2 c3 F a1 d1 b1, st.slots 0 = .ptr gr 0 /\ st.slots 4 = .ptr g4 0 /\ st.slots 5 = .ptr g5 0 /\ QH m gr T a1 d1 b1 [(g5, [.int .i64 k, .str s, c0, c1, c2, c3, .int .i64 0, .int .i64 0, .str ByteArray.empty, .lst true 0 [], .int .i64 0, .int .i64 0, .str ByteArray.empty, .lst true 0 [], .int .i64 0, .int .i64 0, .str ByteArray.empty, .lst true 0 [], .lst true 0 []]), (g4, [.int .i64 0, .str ByteArray.empty, .int .i64 0, .int .i64 0, .str ByteArray.empty, .lst true 0 [], .int .i64 0, .int .i64 0, .str ByteArray.empty, .lst true 0 [], .int .i64 0, .int .i64 0, .str ByteArray.empty, .lst true 0 [], .int .i64 0, .int .i64 0, .str ByteArray.empty, .lst true 0 [], .lst true 0 []])] [(F, .agg [.int .i64 k, .str s, c0, c1, c2, c3, .int .i64 0, .int .i64 0, .str ByteArray.empty, .lst true 0 [], .int .i64 0, .int .i64 0, .str ByteArray.empty, .lst true 0 [], .int .i64 0, .int .i64 0, .str ByteArray.empty, .lst true 0 [], .lst true 0 []], (Sm.mk k s A zE zE zE []).av)] st.mem /\ (b1 = false -> d1 = 0) /\ ∀ e a2 b2, Run1 (exEnd 59) T a1 b1 e a2 b2 -> Run1 (stmtP d) T a bad (Sm.mk k s A e zE zE []) a2 b2) := ⟨_, rfl⟩
 (repeat refine qA ?_);refine AWp.cutA M ?_ ?_
 ·(repeat refine qA ?_);refine bA ?_
  (repeat refine qA ?_);refine rA ?_
  simp [s0]
  refine wA ?_
  simp [sm]
  refine c_skip h.ps forB fun m3 hPn hOn => ?_
  try simp
  have h := h.call hgr hOn hPn
  clear hPn hOn
  cases hi : isT (hdT T a bad) forB with
  | true =>
   obtain ⟨rfl, hlt, hmk⟩ := isT_word hT (by decide) hi
   rw [hi] at h
   simp at h
   (repeat refine qA ?_);refine tA ?_
   (repeat refine qA ?_);refine rA ?_
   simp [s0, s1]
   refine wA ?_
   try simp
   refine hL gr T (a + 1) dd false _ h.ps hT hd0 _ fun m4 F cs x a' d' b' hPn hOn hTn run hdd => ?_
   have h := h.treeV hgr hOn hPn hTn
   clear hPn hOn
   obtain ⟨hl, hok, htk⟩ := own_19 hTn.own
   have w4 := h.box1 (g := g4) (cs := [.int .i64 0, .str ByteArray.empty, .int .i64 0, .int .i64 0, .str ByteArray.empty, .lst true 0 [], .int .i64 0, .int .i64 0, .str ByteArray.empty, .lst true 0 [], .int .i64 0, .int .i64 0, .str ByteArray.empty, .lst true 0 [], .int .i64 0, .int .i64 0, .str ByteArray.empty, .lst true 0 [], .lst true 0 []]) (by simp)
   simp [s4, w4, hl, htk]
   try refine ⟨hok, ?_⟩
   have q := QH.put (l1 := [(g5, [.int .i64 0, .str ByteArray.empty, .int .i64 0, .int .i64 0, .str ByteArray.empty, .lst true 0 [], .int .i64 0, .int .i64 0, .str ByteArray.empty, .lst true 0 [], .int .i64 0, .int .i64 0, .str ByteArray.empty, .lst true 0 [], .int .i64 0, .int .i64 0, .str ByteArray.empty, .lst true 0 [], .lst true 0 []])]) (cs' := cs) h
   refine AWp.ret ⟨[.agg cs], .agg cs, _, by simp [Tryz.f55, resA, s4, htk, hl], by (try simp); exact View.refl _ _, hK _ F cs x _ _ _ q.ps q.off (q.tr _ (List.mem_cons_self ..)).1 (stmtP_loop hlt hmk run) hdd⟩
  | false =>
   have hnf := isT_word_no hT (by decide) hi
   rw [hi] at h
   simp at h
   (repeat refine qA ?_);refine fA ?_
   refine AWp.gen (fun st => st.slots 0 = .ptr gr 0 /\ st.slots 4 = .ptr g4 0 /\ st.slots 5 = .ptr g5 0 /\ st.mem = m3) ⟨by simp [s0], by simp [s4], by simp [s5], by simp⟩ ?_
   clear s0 s1 s4 s5 sm
   rintro st ⟨s0, s4, s5, sm⟩
   (repeat refine qA ?_);refine rA ?_
   simp [s0]
   refine wA ?_
   simp [sm]
   refine c_skip h.ps printB fun m4 hPn hOn => ?_
   try simp
   have h := h.call hgr hOn hPn
   clear hPn hOn hi
   cases hi : isT (hdT T a bad) printB with
   | true =>
    obtain ⟨rfl, hlt, hmk⟩ := isT_word hT (by decide) hi
    rw [hi] at h
    simp at h
    have w5 := h.box1 (g := g5) (cs := [.int .i64 0, .str ByteArray.empty, .int .i64 0, .int .i64 0, .str ByteArray.empty, .lst true 0 [], .int .i64 0, .int .i64 0, .str ByteArray.empty, .lst true 0 [], .int .i64 0, .int .i64 0, .str ByteArray.empty, .lst true 0 [], .int .i64 0, .int .i64 0, .str ByteArray.empty, .lst true 0 [], .lst true 0 []]) (by simp)
    (repeat refine qA ?_);refine tA ?_
    (repeat refine qA ?_);refine rA ?_
    simp [s5, w5]
    have h := ((QH.put (l1 := []) (cs' := [.int .i64 4, .str ByteArray.empty, .int .i64 0, .int .i64 0, .str ByteArray.empty, .lst true 0 [], .int .i64 0, .int .i64 0, .str ByteArray.empty, .lst true 0 [], .int .i64 0, .int .i64 0, .str ByteArray.empty, .lst true 0 [], .int .i64 0, .int .i64 0, .str ByteArray.empty, .lst true 0 [], .lst true 0 []]) h).as_ (own_ks (k' := 4) (s' := ByteArray.empty)))
    subst hM
    refine ⟨4, ByteArray.empty, zE, _, _, _, _, _, _, _, _, by simp [s0], by simp [s4], by simp [s5], by simpa using h, fun _ => hd0 rfl, fun e a2 b2 hr => stmtP_plain hnf (plain_print hlt hmk (hr.then_ (Run1.done _ T a2 b2)))⟩
   | false =>
    have hnp := isT_word_no hT (by decide) hi
    rw [hi] at h
    simp at h
    (repeat refine qA ?_);refine fA ?_
    refine AWp.gen (fun st => st.slots 0 = .ptr gr 0 /\ st.slots 4 = .ptr g4 0 /\ st.slots 5 = .ptr g5 0 /\ st.mem = m4) ⟨by simp [s0], by simp [s4], by simp [s5], by simp⟩ ?_
    clear s0 s4 s5 sm
    rintro st ⟨s0, s4, s5, sm⟩
    (repeat refine qA ?_);refine rA ?_
    simp [s0]
    refine wA ?_
    simp [sm]
    refine c_kindName h.ps fun m5 s kk nn a1 b1 hPn hOn run1 => ?_
    have h := h.call hgr hOn hPn
    clear hPn hOn hi
    have was1 := Run1.was run1
    have w5 := h.box1 (g := g5) (cs := [.int .i64 0, .str ByteArray.empty, .int .i64 0, .int .i64 0, .str ByteArray.empty, .lst true 0 [], .int .i64 0, .int .i64 0, .str ByteArray.empty, .lst true 0 [], .int .i64 0, .int .i64 0, .str ByteArray.empty, .lst true 0 [], .int .i64 0, .int .i64 0, .str ByteArray.empty, .lst true 0 [], .lst true 0 []]) (by simp)
    simp [s5, w5]
    have h := ((QH.put (l1 := []) (cs' := [.int .i64 1, .str s, .int .i64 0, .int .i64 0, .str ByteArray.empty, .lst true 0 [], .int .i64 0, .int .i64 0, .str ByteArray.empty, .lst true 0 [], .int .i64 0, .int .i64 0, .str ByteArray.empty, .lst true 0 [], .int .i64 0, .int .i64 0, .str ByteArray.empty, .lst true 0 [], .lst true 0 []]) h).as_ (own_ks (k' := 1) (s' := s)))
    refine AWp.gen (fun st => st.slots 0 = .ptr gr 0 /\ st.slots 4 = .ptr g4 0 /\ st.slots 5 = .ptr g5 0 /\ st.mem = m5.set g5 (.box [.int .i64 1, .str s, .int .i64 0, .int .i64 0, .str ByteArray.empty, .lst true 0 [], .int .i64 0, .int .i64 0, .str ByteArray.empty, .lst true 0 [], .int .i64 0, .int .i64 0, .str ByteArray.empty, .lst true 0 [], .int .i64 0, .int .i64 0, .str ByteArray.empty, .lst true 0 [], .lst true 0 []])) ⟨by simp [s0], by simp [s4], by simp [s5], by simp⟩ ?_
    generalize m5.set g5 (.box [.int .i64 1, .str s, .int .i64 0, .int .i64 0, .str ByteArray.empty, .lst true 0 [], .int .i64 0, .int .i64 0, .str ByteArray.empty, .lst true 0 [], .int .i64 0, .int .i64 0, .str ByteArray.empty, .lst true 0 [], .int .i64 0, .int .i64 0, .str ByteArray.empty, .lst true 0 [], .lst true 0 []]) = m6 at *
    clear s0 s4 s5 sm
    rintro st ⟨s0, s4, s5, sm⟩
    (repeat refine qA ?_);refine rA ?_
    simp [s0]
    refine wA ?_
    simp [sm]
    refine c_skip h.ps (ch 91) fun m7 hPn hOn => ?_
    try simp
    have h := h.call hgr hOn hPn
    clear hPn hOn
    obtain ⟨M2, hM2⟩ : ∃ M2 : St -> Prop, M2 = (fun st => ∃ k A c0 c1 c2 c3 F a1 d1 b1, st.slots 0 = .ptr gr 0 /\ st.slots 4 = .ptr g4 0 /\ st.slots 5 = .ptr g5 0 /\ QH m gr T a1 d1 b1 [(g5, [.int .i64 k, .str s, c0, c1, c2, c3, .int .i64 0, .int .i64 0, .str ByteArray.empty, .lst true 0 [], .int .i64 0, .int .i64 0, .str ByteArray.empty, .lst true 0 [], .int .i64 0, .int .i64 0, .str ByteArray.empty, .lst true 0 [], .lst true 0 []]), (g4, [.int .i64 0, .str ByteArray.empty, .int .i64 0, .int .i64 0, .str ByteArray.empty, .lst true 0 [], .int .i64 0, .int .i64 0, .str ByteArray.empty, .lst true 0 [], .int .i64 0, .int .i64 0, .str ByteArray.empty, .lst true 0 [], .int .i64 0, .int .i64 0, .str ByteArray.empty, .lst true 0 [], .lst true 0 []])] [(F, .agg [.int .i64 k, .str s, c0, c1, c2, c3, .int .i64 0, .int .i64 0, .str ByteArray.empty, .lst true 0 [], .int .i64 0, .int .i64 0, .str ByteArray.empty, .lst true 0 [], .int .i64 0, .int .i64 0, .str ByteArray.empty, .lst true 0 [], .lst true 0 []], (Sm.mk k s A zE zE zE []).av)] st.mem /\ (b1 = false -> d1 = 0) /\ ∀ e a2 b2 a3 b3, Run1 (tkR (ch 61)) T a1 b1 () a2 b2 -> Run1 (exEnd 59) T a2 b2 e a3 b3 -> Run1 (stmtP d) T a bad (Sm.mk k s A e zE zE []) a3 b3) := ⟨_, rfl⟩
    (repeat refine qA ?_);refine AWp.cutA M2 ?_ ?_
    ·cases hi : isT (hdT T a1 b1) (ch 91) with
     | true =>
      obtain ⟨rfl, hlt, hmk⟩ := is_mark_at hT hi
      rw [hi] at h
      simp at h
      have w5 := h.box1 (g := g5) (cs := [.int .i64 1, .str s, .int .i64 0, .int .i64 0, .str ByteArray.empty, .lst true 0 [], .int .i64 0, .int .i64 0, .str ByteArray.empty, .lst true 0 [], .int .i64 0, .int .i64 0, .str ByteArray.empty, .lst true 0 [], .int .i64 0, .int .i64 0, .str ByteArray.empty, .lst true 0 [], .lst true 0 []]) (by simp)
      refine tA ?_
      (repeat refine qA ?_);refine rA ?_
      simp [s5, w5]
      have h := ((QH.put (l1 := []) (cs' := [.int .i64 2, .str s, .int .i64 0, .int .i64 0, .str ByteArray.empty, .lst true 0 [], .int .i64 0, .int .i64 0, .str ByteArray.empty, .lst true 0 [], .int .i64 0, .int .i64 0, .str ByteArray.empty, .lst true 0 [], .int .i64 0, .int .i64 0, .str ByteArray.empty, .lst true 0 [], .lst true 0 []]) h).as_ (own_ks (k' := 2) (s' := s)))
      refine AWp.gen (fun st => st.slots 0 = .ptr gr 0 /\ st.slots 4 = .ptr g4 0 /\ st.slots 5 = .ptr g5 0 /\ st.mem = m7.set g5 (.box [.int .i64 2, .str s, .int .i64 0, .int .i64 0, .str ByteArray.empty, .lst true 0 [], .int .i64 0, .int .i64 0, .str ByteArray.empty, .lst true 0 [], .int .i64 0, .int .i64 0, .str ByteArray.empty, .lst true 0 [], .int .i64 0, .int .i64 0, .str ByteArray.empty, .lst true 0 [], .lst true 0 []])) ⟨by simp [s0], by simp [s4], by simp [s5], by simp⟩ ?_
      generalize m7.set g5 (.box [.int .i64 2, .str s, .int .i64 0, .int .i64 0, .str ByteArray.empty, .lst true 0 [], .int .i64 0, .int .i64 0, .str ByteArray.empty, .lst true 0 [], .int .i64 0, .int .i64 0, .str ByteArray.empty, .lst true 0 [], .int .i64 0, .int .i64 0, .str ByteArray.empty, .lst true 0 [], .lst true 0 []]) = m8 at *
      clear s0 s4 s5 sm w5
      rintro st ⟨s0, s4, s5, sm⟩
      have hdz : dd = 0 := hd0 (was1 rfl)
      (repeat refine qA ?_);refine rA ?_
      simp [s0]
      refine wA ?_
      simp [sm]
      refine c_sum 30 (by omega) gr T _ _ _ _ h.ps hT (fun _ => by rw [hdz]; rfl) _ fun m9 F2 r2 e2 a2 d2 b2 hPn hOn hTn run2 hdd2 => ?_
      obtain ⟨c0, c1, c2, c3, rfl, o0, o1, o2, o3⟩ := hTn.cs
      have h := h.tree hgr hOn hPn hTn
      clear hPn hOn hTn
      have was2 := Run1.was run2
      have w5 := h.box1 (g := g5) (cs := [.int .i64 2, .str s, .int .i64 0, .int .i64 0, .str ByteArray.empty, .lst true 0 [], .int .i64 0, .int .i64 0, .str ByteArray.empty, .lst true 0 [], .int .i64 0, .int .i64 0, .str ByteArray.empty, .lst true 0 [], .int .i64 0, .int .i64 0, .str ByteArray.empty, .lst true 0 [], .lst true 0 []]) (by simp)
      simp [o0, o1, o2, o3, s5, w5]
      have h := (QH.put (l1 := []) (cs' := [.int .i64 2, .str s, c0, c1, c2, c3, .int .i64 0, .int .i64 0, .str ByteArray.empty, .lst true 0 [], .int .i64 0, .int .i64 0, .str ByteArray.empty, .lst true 0 [], .int .i64 0, .int .i64 0, .str ByteArray.empty, .lst true 0 [], .lst true 0 []]) h).join (r' := .agg [.int .i64 2, .str s, c0, c1, c2, c3, .int .i64 0, .int .i64 0, .str ByteArray.empty, .lst true 0 [], .int .i64 0, .int .i64 0, .str ByteArray.empty, .lst true 0 [], .int .i64 0, .int .i64 0, .str ByteArray.empty, .lst true 0 [], .lst true 0 []]) (x' := (Sm.mk 2 s e2 zE zE zE []).av) (fun hx hy hd => own_a (u := [.int .i64 2, .str s]) (o := [.int .i64 0, .int .i64 0, .str ByteArray.empty, .lst true 0 []]) (o' := [c0, c1, c2, c3]) rfl rfl hx hy hd)
      refine AWp.gen (fun st => st.slots 0 = .ptr gr 0 /\ st.slots 4 = .ptr g4 0 /\ st.slots 5 = .ptr g5 0 /\ st.mem = m9.set g5 (.box [.int .i64 2, .str s, c0, c1, c2, c3, .int .i64 0, .int .i64 0, .str ByteArray.empty, .lst true 0 [], .int .i64 0, .int .i64 0, .str ByteArray.empty, .lst true 0 [], .int .i64 0, .int .i64 0, .str ByteArray.empty, .lst true 0 [], .lst true 0 []])) ⟨by simp [s0], by simp [s4], by simp [s5], by simp⟩ ?_
      generalize m9.set g5 (.box [.int .i64 2, .str s, c0, c1, c2, c3, .int .i64 0, .int .i64 0, .str ByteArray.empty, .lst true 0 [], .int .i64 0, .int .i64 0, .str ByteArray.empty, .lst true 0 [], .int .i64 0, .int .i64 0, .str ByteArray.empty, .lst true 0 [], .lst true 0 []]) = m10 at *
      clear s0 s4 s5 sm w5
      rintro st ⟨s0, s4, s5, sm⟩
      (repeat refine qA ?_);refine rA ?_
      simp [s0]
      refine wA ?_
      simp [sm]
      refine c_takeR h.ps hT 93 fun m11 a3 b3 hPn hOn run3 => ?_
      have h := h.call hgr hOn hPn
      clear hPn hOn
      have was3 := Run1.was run3
      try simp
      subst hM2
      refine ⟨2, e2, c0, c1, c2, c3, _, a3, d2, b3, by simp [s0], by simp [s4], by simp [s5], by simpa using h, fun e => (hdd2 (was3 e)).trans hdz, fun e a4 b4 a5 b5 r4 r5 => ?_⟩
      exact stmtP_plain hnf (plain_name hnp (run1.then_ (asg_put hlt hmk (Run1.then_ (Run1.then_ run2 (run3.then_ (Run1.done _ T a3 b3))) (r4.then_ (r5.then_ (Run1.done _ T a5 b5)))))))
     | false =>
      have hno := not_mark hT hi
      rw [hi] at h
      simp at h
      refine fA ?_
      refine kA ?_
      subst hM2
      refine ⟨1, zE, _, _, _, _, _, a1, dd, b1, by simp [s0], by simp [s4], by simp [s5], by simpa using h, fun e => hd0 (was1 e), fun e a4 b4 a5 b5 r4 r5 => ?_⟩
      exact stmtP_plain hnf (plain_name hnp (run1.then_ (asg_set hno (r4.then_ (r5.then_ (Run1.done _ T a5 b5))))))
    intro st hst
    subst hM2
    obtain ⟨k, A, c0, c1, c2, c3, F, a2, d2, b2, s0, s4, s5, h, hdd, hrun⟩ := hst
    (repeat refine qA ?_);refine rA ?_
    simp [s0]
    refine wA ?_
    try simp
    refine c_takeR h.ps hT 61 fun m11 a3 b3 hPn hOn run3 => ?_
    have h := h.call hgr hOn hPn
    clear hPn hOn
    have was3 := Run1.was run3
    try simp
    subst hM
    exact ⟨k, s, A, c0, c1, c2, c3, F, a3, d2, b3, by simp [s0], by simp [s4], by simp [s5], by simpa using h, fun e => hdd (was3 e), fun e a4 b4 r4 => hrun _ _ _ _ _ run3 r4⟩
 intro st hst
 subst hM
 obtain ⟨k, s, A, c0, c1, c2, c3, F, a1, d1, b1, s0, s4, s5, h, hdd, hrun⟩ := hst
 obtain ⟨n1, sm⟩ : ∃ n1, st.mem = n1 := ⟨_, rfl⟩
 rw [sm] at h
 (repeat refine qA ?_);refine rA ?_
 simp [s0]
 refine wA ?_
 simp [sm]
 refine c_sum 30 (by omega) gr T _ _ _ _ h.ps hT (fun e => by rw [hdd e]; rfl) _ fun m9 F2 r2 e2 a2 d2 b2 hPn hOn hTn run2 hdd2 => ?_
 obtain ⟨e0, e1, e2', e3, rfl, o0, o1, o2, o3⟩ := hTn.cs
 have h := h.tree hgr hOn hPn hTn
 clear hPn hOn hTn
 have was2 := Run1.was run2
 have w5 := h.box1 (g := g5) (cs := [.int .i64 k, .str s, c0, c1, c2, c3, .int .i64 0, .int .i64 0, .str ByteArray.empty, .lst true 0 [], .int .i64 0, .int .i64 0, .str ByteArray.empty, .lst true 0 [], .int .i64 0, .int .i64 0, .str ByteArray.empty, .lst true 0 [], .lst true 0 []]) (by simp)
 simp [o0, o1, o2, o3, s5, w5]
 have h := (QH.put (l1 := []) (cs' := [.int .i64 k, .str s, c0, c1, c2, c3, e0, e1, e2', e3, .int .i64 0, .int .i64 0, .str ByteArray.empty, .lst true 0 [], .int .i64 0, .int .i64 0, .str ByteArray.empty, .lst true 0 [], .lst true 0 []]) h).join (r' := .agg [.int .i64 k, .str s, c0, c1, c2, c3, e0, e1, e2', e3, .int .i64 0, .int .i64 0, .str ByteArray.empty, .lst true 0 [], .int .i64 0, .int .i64 0, .str ByteArray.empty, .lst true 0 [], .lst true 0 []]) (x' := (Sm.mk k s A e2 zE zE []).av) (fun hx hy hd => own_e (u := [.int .i64 k, .str s, c0, c1, c2, c3]) (o := [.int .i64 0, .int .i64 0, .str ByteArray.empty, .lst true 0 []]) (o' := [e0, e1, e2', e3]) rfl rfl hx hy hd)
 refine AWp.gen (fun st => st.slots 0 = .ptr gr 0 /\ st.slots 4 = .ptr g4 0 /\ st.slots 5 = .ptr g5 0 /\ st.mem = m9.set g5 (.box [.int .i64 k, .str s, c0, c1, c2, c3, e0, e1, e2', e3, .int .i64 0, .int .i64 0, .str ByteArray.empty, .lst true 0 [], .int .i64 0, .int .i64 0, .str ByteArray.empty, .lst true 0 [], .lst true 0 []])) ⟨by simp [s0], by simp [s4], by simp [s5], by simp⟩ ?_
 generalize m9.set g5 (.box [.int .i64 k, .str s, c0, c1, c2, c3, e0, e1, e2', e3, .int .i64 0, .int .i64 0, .str ByteArray.empty, .lst true 0 [], .int .i64 0, .int .i64 0, .str ByteArray.empty, .lst true 0 [], .lst true 0 []]) = m10 at *
 clear s0 s4 s5 w5 sm
 rintro st ⟨s0, s4, s5, sm⟩
 (repeat refine qA ?_);refine rA ?_
 simp [s0]
 refine wA ?_
 simp [sm]
 refine c_takeR h.ps hT 59 fun m11 a3 b3 hPn hOn run3 => ?_
 have h := h.call hgr hOn hPn
 clear hPn hOn
 have was3 := Run1.was run3
 try simp
 have w5 := h.box1 (g := g5) (cs := [.int .i64 k, .str s, c0, c1, c2, c3, e0, e1, e2', e3, .int .i64 0, .int .i64 0, .str ByteArray.empty, .lst true 0 [], .int .i64 0, .int .i64 0, .str ByteArray.empty, .lst true 0 [], .lst true 0 []]) (by simp)
 have w4 := h.box1 (g := g4) (cs := [.int .i64 0, .str ByteArray.empty, .int .i64 0, .int .i64 0, .str ByteArray.empty, .lst true 0 [], .int .i64 0, .int .i64 0, .str ByteArray.empty, .lst true 0 [], .int .i64 0, .int .i64 0, .str ByteArray.empty, .lst true 0 [], .int .i64 0, .int .i64 0, .str ByteArray.empty, .lst true 0 [], .lst true 0 []]) (by simp)
 obtain ⟨hl, hok, htk⟩ := own_19 (h.tr _ (List.mem_cons_self ..)).1.own
 obtain ⟨cs, hcs⟩ : ∃ cs, cs = [.int .i64 k, .str s, c0, c1, c2, c3, e0, e1, e2', e3, .int .i64 0, .int .i64 0, .str ByteArray.empty, .lst true 0 [], .int .i64 0, .int .i64 0, .str ByteArray.empty, .lst true 0 [], .lst true 0 []] := ⟨_, rfl⟩
 rw [<- hcs] at h w5 hl hok htk
 (repeat refine qA ?_);refine rA ?_
 simp [s4, s5, w5, w4, hl, htk]
 try refine ⟨hok, ?_⟩
 have q := QH.put (l1 := [(g5, cs)]) (cs' := cs) h
 refine AWp.ret ⟨[.agg cs], .agg cs, _, by simp [Tryz.f55, resA, s4, htk, hl], by (try simp); exact View.refl _ _, hK _ _ cs _ _ _ _ q.ps q.off (q.tr _ (List.mem_cons_self ..)).1 (hrun _ _ _ (Run1.then_ run2 (run3.then_ (Run1.done _ T a3 b3)))) (fun e => (hdd2 (was3 e)).trans (hdd (was2 (was3 e))))⟩
def bodyM : Nat -> List Sm -> PA (List Sm)
 | 0, _ => fun _ => none
 | d + 1, l => bodyL (stmtP d) l
theorem loop_all {d : Nat} {T : List Tk} {a a1 a2 a3 a4 a5 a6 a7 : Nat} {b b1 b2 b3 b4 b5 b6 b7 b8 : Bool} {s : ByteArray} {lo hi : Ex} {y : List Sm} (r1 : Run1 nmP T a b s a1 b1) (r2 : Run1 (tkR (ch 61)) T a1 b1 () a2 b2) (r3 : Run1 exP T a2 b2 lo a3 b3) (r4 : Run1 (kpR toB) T a3 b3 () a4 b4) (r5 : Run1 exP T a4 b4 hi a5 b5) (r6 : Run1 (tkR (ch 123)) T a5 b5 () a6 b6) (e : b7 = (b6 || decide (d = 0))) (r7 : Run1 (bodyM d []) T a6 b7 y a7 b8) : Run1 (loopPm d) T a b (smFor s lo hi y) a7 b8 := by
 cases d with
 | zero =>
  have hb : b7 = true := by rw [e]; simp
  rw [r7.ill (.inl hb)]
  exact Run1.nope (.inr rfl)
 | succ d =>
  have hb : b7 = b6 := by rw [e]; simp
  subst hb
  show Run1 (loopP (stmtP d)) T a b _ a7 b8
  unfold loopP
  exact r1.then_ (r2.then_ (r3.then_ (r4.then_ (r5.then_ (r6.then_ (r7.then_ (Run1.done _ T a7 b8)))))))
theorem bodyM_exit {d : Nat} {l : List Sm} {T : List Tk} {a a' : Nat} {b b' : Bool} (h0 : d = 0 -> b = true) (hb : b = true ∨ ∃ hlt : a < T.length, T[a].is 4 (ch 125) = true) (h : Run1 (tkR (ch 125)) T a b () a' b') : Run1 (bodyM d l) T a b l a' b' := by
 cases d with
 | zero =>
  have := h0 rfl
  subst this
  rw [h.ill (.inl rfl)]
  exact Run1.nope (.inl rfl)
 | succ d => exact body_exit (stmtP_fit d) l hb h
theorem c_loop0 (d : Nat) (hd4 : d <= 3) (hS : ∀ j, d = j + 1 -> StmtC Tryz.prog 55 (4 - (j : Int)) (stmtP j)) : StmtC Tryz.prog 115 (4 - (d : Int)) (loopPm d) := by
 intro gr T a dd bad m hP hT hd0 K hK
 have hgr := hP.at
 have hsmall := hP.small
 have eE : ByteArray.empty = (⟨#[]⟩ : ByteArray) := rfl
 refine wcall_of Tryz.func115 (by kernel_rfl) rfl (by simp [Tryz.f115]) ?_
 (repeat refine qA ?_);refine rA ?_
 simp
 intro g4 hg4
 have h := (QH.start hP).box hgr hg4 [.int .i64 0, .str ByteArray.empty, .int .i64 0, .int .i64 0, .str ByteArray.empty, .lst true 0 [], .int .i64 0, .int .i64 0, .str ByteArray.empty, .lst true 0 [], .int .i64 0, .int .i64 0, .str ByteArray.empty, .lst true 0 [], .int .i64 0, .int .i64 0, .str ByteArray.empty, .lst true 0 [], .lst true 0 []]
 refine AWp.gen (fun st => st.slots 0 = .ptr gr 0 /\ st.slots 1 = .int .i64 (4 - (d : Int)) /\ st.slots 4 = .ptr g4 0 /\ st.mem = m.set g4 (.box [.int .i64 0, .str ByteArray.empty, .int .i64 0, .int .i64 0, .str ByteArray.empty, .lst true 0 [], .int .i64 0, .int .i64 0, .str ByteArray.empty, .lst true 0 [], .int .i64 0, .int .i64 0, .str ByteArray.empty, .lst true 0 [], .int .i64 0, .int .i64 0, .str ByteArray.empty, .lst true 0 [], .lst true 0 []])) ⟨by simp, by simp, by simp, by simp⟩ ?_
 generalize m.set g4 (.box [.int .i64 0, .str ByteArray.empty, .int .i64 0, .int .i64 0, .str ByteArray.empty, .lst true 0 [], .int .i64 0, .int .i64 0, .str ByteArray.empty, .lst true 0 [], .int .i64 0, .int .i64 0, .str ByteArray.empty, .lst true 0 [], .int .i64 0, .int .i64 0, .str ByteArray.empty, .lst true 0 [], .lst true 0 []]) = m1 at *
 rintro st ⟨s0, s1, s4, sm⟩
 (repeat refine qA ?_);refine rA ?_
 simp [s0]
 refine wA ?_
 simp [sm]
 refine c_kindName h.ps fun m2 s kk nn a1 b1 hPn hOn run1 => ?_
 have h := h.call hgr hOn hPn
 clear hPn hOn
 have was1 := Run1.was run1
 simp
 intro g5 hg5
 have h := (h.box hgr hg5 [.int .i64 3, .str s, .int .i64 0, .int .i64 0, .str ByteArray.empty, .lst true 0 [], .int .i64 0, .int .i64 0, .str ByteArray.empty, .lst true 0 [], .int .i64 0, .int .i64 0, .str ByteArray.empty, .lst true 0 [], .int .i64 0, .int .i64 0, .str ByteArray.empty, .lst true 0 [], .lst true 0 []]).plain (own_ks (k' := 3) (s' := s) (zS_own _))
 refine AWp.gen (fun st => st.slots 0 = .ptr gr 0 /\ st.slots 1 = .int .i64 (4 - (d : Int)) /\ st.slots 4 = .ptr g4 0 /\ st.slots 5 = .ptr g5 0 /\ st.mem = m2.set g5 (.box [.int .i64 3, .str s, .int .i64 0, .int .i64 0, .str ByteArray.empty, .lst true 0 [], .int .i64 0, .int .i64 0, .str ByteArray.empty, .lst true 0 [], .int .i64 0, .int .i64 0, .str ByteArray.empty, .lst true 0 [], .int .i64 0, .int .i64 0, .str ByteArray.empty, .lst true 0 [], .lst true 0 []])) ⟨by simp [s0], by simp [s1], by simp [s4], by simp, by first | (simp; done) | (simp [sm]; done)⟩ ?_
 generalize m2.set g5 (.box [.int .i64 3, .str s, .int .i64 0, .int .i64 0, .str ByteArray.empty, .lst true 0 [], .int .i64 0, .int .i64 0, .str ByteArray.empty, .lst true 0 [], .int .i64 0, .int .i64 0, .str ByteArray.empty, .lst true 0 [], .int .i64 0, .int .i64 0, .str ByteArray.empty, .lst true 0 [], .lst true 0 []]) = n1 at *
 clear s0 s1 s4 sm
 rintro st ⟨s0, s1, s4, s5, sm⟩
 (repeat refine qA ?_);refine rA ?_
 simp [s0]
 refine wA ?_
 simp [sm]
 refine c_takeR h.ps hT 61 fun m3 a2 b2 hPn hOn run2 => ?_
 have h := h.call hgr hOn hPn
 clear hPn hOn
 have was2 := Run1.was run2
 try simp
 refine AWp.gen (fun st => st.slots 0 = .ptr gr 0 /\ st.slots 1 = .int .i64 (4 - (d : Int)) /\ st.slots 4 = .ptr g4 0 /\ st.slots 5 = .ptr g5 0 /\ st.mem = m3) ⟨by simp [s0], by simp [s1], by simp [s4], by simp [s5], by first | (simp; done) | (simp [sm]; done)⟩ ?_
 clear s0 s1 s4 s5 sm
 rintro st ⟨s0, s1, s4, s5, sm⟩
 have hdz : b2 = false -> dd = 0 := fun e => hd0 (was1 (was2 e))
 (repeat refine qA ?_);refine rA ?_
 simp [s0]
 refine wA ?_
 simp [sm]
 refine c_sum 30 (by omega) gr T _ _ _ _ h.ps hT (fun e => by rw [hdz e]; rfl) _ fun m4 F3 r3 lo a3 d3 b3 hPn hOn hTn run3 hdd3 => ?_
 obtain ⟨l0, l1, l2, l3, rfl, o0, o1, o2, o3⟩ := hTn.cs
 have h := h.tree hgr hOn hPn hTn
 clear hPn hOn hTn
 have was3 := Run1.was run3
 have w5 := h.box1 (g := g5) (cs := [.int .i64 3, .str s, .int .i64 0, .int .i64 0, .str ByteArray.empty, .lst true 0 [], .int .i64 0, .int .i64 0, .str ByteArray.empty, .lst true 0 [], .int .i64 0, .int .i64 0, .str ByteArray.empty, .lst true 0 [], .int .i64 0, .int .i64 0, .str ByteArray.empty, .lst true 0 [], .lst true 0 []]) (by simp)
 simp [o0, o1, o2, o3, s5, w5]
 have h := (QH.put (l1 := []) (cs' := [.int .i64 3, .str s, .int .i64 0, .int .i64 0, .str ByteArray.empty, .lst true 0 [], .int .i64 0, .int .i64 0, .str ByteArray.empty, .lst true 0 [], l0, l1, l2, l3, .int .i64 0, .int .i64 0, .str ByteArray.empty, .lst true 0 [], .lst true 0 []]) h).join (r' := .agg [.int .i64 3, .str s, .int .i64 0, .int .i64 0, .str ByteArray.empty, .lst true 0 [], .int .i64 0, .int .i64 0, .str ByteArray.empty, .lst true 0 [], l0, l1, l2, l3, .int .i64 0, .int .i64 0, .str ByteArray.empty, .lst true 0 [], .lst true 0 []]) (x' := (Sm.mk 3 s zE zE lo zE []).av) (fun hx hy hd => own_lo (u := [.int .i64 3, .str s, .int .i64 0, .int .i64 0, .str ByteArray.empty, .lst true 0 [], .int .i64 0, .int .i64 0, .str ByteArray.empty, .lst true 0 []]) (o := [.int .i64 0, .int .i64 0, .str ByteArray.empty, .lst true 0 []]) (o' := [l0, l1, l2, l3]) rfl rfl hx hy hd)
 refine AWp.gen (fun st => st.slots 0 = .ptr gr 0 /\ st.slots 1 = .int .i64 (4 - (d : Int)) /\ st.slots 4 = .ptr g4 0 /\ st.slots 5 = .ptr g5 0 /\ st.mem = m4.set g5 (.box [.int .i64 3, .str s, .int .i64 0, .int .i64 0, .str ByteArray.empty, .lst true 0 [], .int .i64 0, .int .i64 0, .str ByteArray.empty, .lst true 0 [], l0, l1, l2, l3, .int .i64 0, .int .i64 0, .str ByteArray.empty, .lst true 0 [], .lst true 0 []])) ⟨by simp [s0], by simp [s1], by simp [s4], by simp [s5], by first | (simp; done) | (simp [sm]; done)⟩ ?_
 generalize m4.set g5 (.box [.int .i64 3, .str s, .int .i64 0, .int .i64 0, .str ByteArray.empty, .lst true 0 [], .int .i64 0, .int .i64 0, .str ByteArray.empty, .lst true 0 [], l0, l1, l2, l3, .int .i64 0, .int .i64 0, .str ByteArray.empty, .lst true 0 [], .lst true 0 []]) = n3 at *
 clear s0 s1 s4 s5 sm
 rintro st ⟨s0, s1, s4, s5, sm⟩
 clear w5
 (repeat refine qA ?_);refine rA ?_
 simp [s0]
 refine wA ?_
 simp [sm]
 refine c_takeK h.ps hT toB (by decide) fun m5 a4 b4 hPn hOn run4 => ?_
 have h := h.call hgr hOn hPn
 clear hPn hOn
 have was4 := Run1.was run4
 try simp
 refine AWp.gen (fun st => st.slots 0 = .ptr gr 0 /\ st.slots 1 = .int .i64 (4 - (d : Int)) /\ st.slots 4 = .ptr g4 0 /\ st.slots 5 = .ptr g5 0 /\ st.mem = m5) ⟨by simp [s0], by simp [s1], by simp [s4], by simp [s5], by first | (simp; done) | (simp [sm]; done)⟩ ?_
 clear s0 s1 s4 s5 sm
 rintro st ⟨s0, s1, s4, s5, sm⟩
 have hdz4 : b4 = false -> d3 = 0 := fun e => (hdd3 (was4 e)).trans (hdz (was3 (was4 e)))
 (repeat refine qA ?_);refine rA ?_
 simp [s0]
 refine wA ?_
 simp [sm]
 refine c_sum 30 (by omega) gr T _ _ _ _ h.ps hT (fun e => by rw [hdz4 e]; rfl) _ fun m6 F5 r5 hi a5 d5 b5 hPn hOn hTn run5 hdd5 => ?_
 obtain ⟨h0, h1, h2, h3, rfl, o0, o1, o2, o3⟩ := hTn.cs
 have h := h.tree hgr hOn hPn hTn
 clear hPn hOn hTn
 have was5 := Run1.was run5
 have w5 := h.box1 (g := g5) (cs := [.int .i64 3, .str s, .int .i64 0, .int .i64 0, .str ByteArray.empty, .lst true 0 [], .int .i64 0, .int .i64 0, .str ByteArray.empty, .lst true 0 [], l0, l1, l2, l3, .int .i64 0, .int .i64 0, .str ByteArray.empty, .lst true 0 [], .lst true 0 []]) (by simp)
 simp [o0, o1, o2, o3, s5, w5]
 have h := (QH.put (l1 := []) (cs' := [.int .i64 3, .str s, .int .i64 0, .int .i64 0, .str ByteArray.empty, .lst true 0 [], .int .i64 0, .int .i64 0, .str ByteArray.empty, .lst true 0 [], l0, l1, l2, l3, h0, h1, h2, h3, .lst true 0 []]) h).join (r' := .agg [.int .i64 3, .str s, .int .i64 0, .int .i64 0, .str ByteArray.empty, .lst true 0 [], .int .i64 0, .int .i64 0, .str ByteArray.empty, .lst true 0 [], l0, l1, l2, l3, h0, h1, h2, h3, .lst true 0 []]) (x' := (Sm.mk 3 s zE zE lo hi []).av) (fun hx hy hd => own_hi (u := [.int .i64 3, .str s, .int .i64 0, .int .i64 0, .str ByteArray.empty, .lst true 0 [], .int .i64 0, .int .i64 0, .str ByteArray.empty, .lst true 0 [], l0, l1, l2, l3]) (o := [.int .i64 0, .int .i64 0, .str ByteArray.empty, .lst true 0 []]) (o' := [h0, h1, h2, h3]) rfl rfl hx hy hd)
 refine AWp.gen (fun st => st.slots 0 = .ptr gr 0 /\ st.slots 1 = .int .i64 (4 - (d : Int)) /\ st.slots 4 = .ptr g4 0 /\ st.slots 5 = .ptr g5 0 /\ st.mem = m6.set g5 (.box [.int .i64 3, .str s, .int .i64 0, .int .i64 0, .str ByteArray.empty, .lst true 0 [], .int .i64 0, .int .i64 0, .str ByteArray.empty, .lst true 0 [], l0, l1, l2, l3, h0, h1, h2, h3, .lst true 0 []])) ⟨by simp [s0], by simp [s1], by simp [s4], by simp [s5], by first | (simp; done) | (simp [sm]; done)⟩ ?_
 generalize m6.set g5 (.box [.int .i64 3, .str s, .int .i64 0, .int .i64 0, .str ByteArray.empty, .lst true 0 [], .int .i64 0, .int .i64 0, .str ByteArray.empty, .lst true 0 [], l0, l1, l2, l3, h0, h1, h2, h3, .lst true 0 []]) = n5 at *
 clear s0 s1 s4 s5 sm
 rintro st ⟨s0, s1, s4, s5, sm⟩
 clear w5
 (repeat refine qA ?_);refine rA ?_
 simp [s0]
 refine wA ?_
 simp [sm]
 refine c_takeR h.ps hT 123 fun m7 a6 b6 hPn hOn run6 => ?_
 have h := h.call hgr hOn hPn
 clear hPn hOn
 have was6 := Run1.was run6
 try simp
 refine AWp.gen (fun st => st.slots 0 = .ptr gr 0 /\ st.slots 1 = .int .i64 (4 - (d : Int)) /\ st.slots 4 = .ptr g4 0 /\ st.slots 5 = .ptr g5 0 /\ st.mem = m7) ⟨by simp [s0], by simp [s1], by simp [s4], by simp [s5], by first | (simp; done) | (simp [sm]; done)⟩ ?_
 clear s0 s1 s4 s5 sm
 rintro st ⟨s0, s1, s4, s5, sm⟩
 have hdz6 : b6 = false -> d5 = 0 := fun e => (hdd5 (was6 e)).trans (hdz4 (was5 (was6 e)))
 have hbx := h.ps.box
 unfold pc at hbx
 obtain ⟨b7, hb7⟩ : ∃ b7, b7 = (b6 || decide (d = 0)) := ⟨_, rfl⟩
 have h := h.call hgr (Off.box _ _) (h.ps.step a6 d5 b7 h.ps.le)
 (repeat refine qA ?_);refine AWp.cutA (fun st => st.slots 0 = .ptr gr 0 /\ st.slots 1 = .int .i64 (4 - (d : Int)) /\ st.slots 4 = .ptr g4 0 /\ st.slots 5 = .ptr g5 0 /\ st.mem = m7.set gr (.box (pc T a6 d5 b7))) ?_ ?_
 ·refine rA ?_
  cases b6 with
  | true =>
   subst hb7
   simp [s0, s1, s4, s5, sm, hbx, pc]
  | false =>
   have e3 : decide (3 < (4 - (d : Int))) = b7 := by rw [hb7]; simp; omega
   simp [s0, s1, s4, s5, sm, hbx, pc]
   first | rw [e3] | simpa using e3
 generalize m7.set gr (.box (pc T a6 d5 b7)) = m8 at *
 clear s0 s1 s4 s5 sm hbx
 rintro st ⟨s0, s1, s4, s5, sm⟩
 have h := h.plain (r := .lst true 0 []) (x := .lst false 19 (([] : List Sm).map Sm.av)) (.nil _ _ _)
 have hall : ∀ y a2 b2, Run1 (bodyM d []) T a6 b7 y a2 b2 -> Run1 (loopPm d) T a bad (smFor s lo hi y) a2 b2 := fun y a7 b8 r7 => loop_all run1 run2 run3 run4 run5 run6 hb7 r7
 have hd7 : b7 = false -> d5 = 0 := fun e => hdz6 (by rw [hb7] at e; simp at e; exact e.1)
 have hd8 : d = 0 -> b7 = true := fun e => by rw [hb7, e]; simp
 clear run1 run2 run3 run4 run5 run6 was1 was2 was3 was4 was5 was6 hdd3 hdd5 hdz hdz4 hdz6 hb7
 obtain ⟨M, hM⟩ : ∃ M : St -> Prop, M = (fun st => ∃ FR v F l a1 d1 b1, st.slots 0 = .ptr gr 0 /\ st.slots 4 = .ptr g4 0 /\ st.slots 5 = .ptr g5 0 /\ QH m gr T a1 d1 b1 [(g5, [.int .i64 3, .str s, .int .i64 0, .int .i64 0, .str ByteArray.empty, .lst true 0 [], .int .i64 0, .int .i64 0, .str ByteArray.empty, .lst true 0 [], l0, l1, l2, l3, h0, h1, h2, h3, v]), (g4, [.int .i64 0, .str ByteArray.empty, .int .i64 0, .int .i64 0, .str ByteArray.empty, .lst true 0 [], .int .i64 0, .int .i64 0, .str ByteArray.empty, .lst true 0 [], .int .i64 0, .int .i64 0, .str ByteArray.empty, .lst true 0 [], .int .i64 0, .int .i64 0, .str ByteArray.empty, .lst true 0 [], .lst true 0 []])] [(FR, v, .lst false 19 (l.map Sm.av)), (F, .agg [.int .i64 3, .str s, .int .i64 0, .int .i64 0, .str ByteArray.empty, .lst true 0 [], .int .i64 0, .int .i64 0, .str ByteArray.empty, .lst true 0 [], l0, l1, l2, l3, h0, h1, h2, h3, .lst true 0 []], (Sm.mk 3 s zE zE lo hi []).av)] st.mem /\ RowV 83 19 FR v (l.map Sm.av).length st.mem /\ (b1 = false -> d1 = 0) /\ (d = 0 -> b1 = true) /\ (b1 = true ∨ ∃ hlt : a1 < T.length, T[a1].is 4 (ch 125) = true) /\ ∀ y a2 b2, Run1 (bodyM d l) T a1 b1 y a2 b2 -> Run1 (loopPm d) T a bad (smFor s lo hi y) a2 b2) := ⟨_, rfl⟩
 (repeat refine qA ?_);refine AWp.cutA M ?_ ?_
 ·refine AWp.block (AWp.rounds (fun q st => ∃ FR v F l a1 d1 b1, q = (if b1 = true then 0 else T.length - a1 + 1) /\ st.slots 0 = .ptr gr 0 /\ st.slots 1 = .int .i64 (4 - (d : Int)) /\ st.slots 4 = .ptr g4 0 /\ st.slots 5 = .ptr g5 0 /\ QH m gr T a1 d1 b1 [(g5, [.int .i64 3, .str s, .int .i64 0, .int .i64 0, .str ByteArray.empty, .lst true 0 [], .int .i64 0, .int .i64 0, .str ByteArray.empty, .lst true 0 [], l0, l1, l2, l3, h0, h1, h2, h3, v]), (g4, [.int .i64 0, .str ByteArray.empty, .int .i64 0, .int .i64 0, .str ByteArray.empty, .lst true 0 [], .int .i64 0, .int .i64 0, .str ByteArray.empty, .lst true 0 [], .int .i64 0, .int .i64 0, .str ByteArray.empty, .lst true 0 [], .int .i64 0, .int .i64 0, .str ByteArray.empty, .lst true 0 [], .lst true 0 []])] [(FR, v, .lst false 19 (l.map Sm.av)), (F, .agg [.int .i64 3, .str s, .int .i64 0, .int .i64 0, .str ByteArray.empty, .lst true 0 [], .int .i64 0, .int .i64 0, .str ByteArray.empty, .lst true 0 [], l0, l1, l2, l3, h0, h1, h2, h3, .lst true 0 []], (Sm.mk 3 s zE zE lo hi []).av)] st.mem /\ RowV 83 19 FR v (l.map Sm.av).length st.mem /\ (b1 = false -> d1 = 0 /\ l.length <= a1) /\ (d = 0 -> b1 = true) /\ ∀ y a2 b2, Run1 (bodyM d l) T a1 b1 y a2 b2 -> Run1 (loopPm d) T a bad (smFor s lo hi y) a2 b2) (if b7 = true then 0 else T.length - a6 + 1) ⟨_, .lst true 0 [], _, [], a6, d5, b7, rfl, s0, s1, s4, s5, by rw [sm]; exact h, .inl ⟨rfl, rfl⟩, fun e => ⟨hd7 e, by simp⟩, hd8, hall⟩ ?_)
  clear s0 s1 s4 s5 sm h hall hd7 hd8
  rintro RR q st hRR ⟨FR, v, F, l, a1, d1, b1, rfl, s0, s1, s4, s5, h, hv, hdl, hd8, hall⟩
  have hbx := h.ps.box
  unfold pc at hbx
  cases b1 with
  | true =>
   (repeat refine qA ?_);refine rA ?_
   simp [s0, hbx]
   (repeat refine qA ?_);refine fA ?_
   refine eA ?_
   subst hM
   exact ⟨FR, v, F, l, a1, d1, true, by simp [s0], by simp [s4], by simp [s5], by simpa using h, by simpa using hv, fun e => (by cases e), hd8, .inl rfl, hall⟩
  | false =>
   obtain ⟨hd1, hlen⟩ := hdl rfl
   subst hd1
   have hle1 := h.ps.le
   (repeat refine qA ?_);refine rA ?_
   simp [s0, hbx]
   refine wA ?_
   try simp
   refine c_is h.ps (ch 125) ?_
   try simp
   cases hi2 : isT (hdT T a1 false) (ch 125) with
   | true =>
    obtain ⟨_, hlt, hmk⟩ := is_mark_at hT hi2
    try simp
    (repeat refine qA ?_);refine fA ?_
    refine eA ?_
    subst hM
    exact ⟨FR, v, F, l, a1, 0, false, by simp [s0], by simp [s4], by simp [s5], by simpa using h, by simpa using hv, fun _ => rfl, hd8, .inr ⟨hlt, hmk⟩, hall⟩
   | false =>
    have hno := not_mark hT hi2
    obtain ⟨j, rfl⟩ : ∃ j, d = j + 1 := by
     cases d with
     | zero => have := hd8 rfl; cases this
     | succ j => exact ⟨j, rfl⟩
    have hS := hS j rfl
    have hw : IntKind.wrap .i64 ((4 : Int) - ((j + 1 : Nat) : Int) + 1) = 4 - (j : Int) := by
     rw [wrap64 (by omega) (by omega)]; omega
    try simp
    (repeat refine qA ?_);refine tA ?_
    refine kA ?_
    try simp
    (repeat refine qA ?_);refine bA ?_
    refine AWp.gen (fun st' => st'.slots 0 = .ptr gr 0 /\ st'.slots 1 = .int .i64 (4 - ((j + 1 : Nat) : Int)) /\ st'.slots 4 = .ptr g4 0 /\ st'.slots 5 = .ptr g5 0 /\ st'.mem = st.mem) ⟨by simp [s0], by simp [s1], by simp [s4], by simp [s5], by simp⟩ ?_
    clear s0 s1 s4 s5
    generalize st.mem = n0 at *
    rintro st ⟨s0, s1, s4, s5, sm⟩
    (repeat refine qA ?_);refine rA ?_
    simp only [Int.natCast_add, Int.cast_ofNat_Int] at s1 hw
    simp [s0, s1, hw]
    refine wA ?_
    simp [sm]
    refine hS gr T a1 0 false _ h.ps hT (fun _ => rfl) _ fun n1 Fx cx x a2 d2 b2 hPn hOn hTn run hdd => ?_
    have hv := hv.keep (h.same hgr (List.mem_cons_self ..) hOn)
    have h := h.treeV hgr hOn hPn hTn
    obtain ⟨hl, hok, htk⟩ := own_19 hTn.own
    clear hPn hOn hTn hbx
    simp [hl]
    intro g6 hg6
    refine ⟨hok, ?_⟩
    have hv := hv.keep (h.sameNew (List.mem_cons_of_mem _ (List.mem_cons_self ..)) hg6 (.box cx))
    have h := h.box hgr hg6 cx
    refine AWp.gen (fun st => st.slots 0 = .ptr gr 0 /\ st.slots 1 = .int .i64 (4 - ((j + 1 : Nat) : Int)) /\ st.slots 4 = .ptr g4 0 /\ st.slots 5 = .ptr g5 0 /\ st.slots 6 = .ptr g6 0 /\ st.mem = n1.set g6 (.box cx)) ⟨by simp [s0], by simp [s1], by simp [s4], by simp [s5], by simp, by simp⟩ ?_
    generalize n1.set g6 (.box cx) = n2 at *
    clear s0 s1 s4 s5 sm hg6
    rintro st ⟨s0, s1, s4, s5, s6, sm⟩
    have w5 := h.box1 (g := g5) (cs := [.int .i64 3, .str s, .int .i64 0, .int .i64 0, .str ByteArray.empty, .lst true 0 [], .int .i64 0, .int .i64 0, .str ByteArray.empty, .lst true 0 [], l0, l1, l2, l3, h0, h1, h2, h3, v]) (by simp)
    have w6 := h.box1 (g := g6) (cs := cx) (by simp)
    obtain ⟨v1, v2, v3⟩ := hv.ok
    (repeat refine qA ?_);refine rA ?_
    simp [s5, s6, sm, w5, w6, v2, v3, hl, htk, literalA]
    have hlm : (l.map Sm.av).length = l.length := by simp
    have hle := h.ps.le
    refine h.app et_30 hgr hv (by simp [srcA]) (by rw [hlm]; omega) fun FR' v' n3 h hv _ => ?_
    obtain ⟨v1', v2', v3'⟩ := hv.ok
    have w5 := h.box1 (g := g5) (cs := [.int .i64 3, .str s, .int .i64 0, .int .i64 0, .str ByteArray.empty, .lst true 0 [], .int .i64 0, .int .i64 0, .str ByteArray.empty, .lst true 0 [], l0, l1, l2, l3, h0, h1, h2, h3, v]) (by simp)
    simp [w5, v1', v2', v3', s5]
    have hv := hv.keep (h.samePut (List.mem_cons_self ..) (g := g5) (cs := [.int .i64 3, .str s, .int .i64 0, .int .i64 0, .str ByteArray.empty, .lst true 0 [], .int .i64 0, .int .i64 0, .str ByteArray.empty, .lst true 0 [], l0, l1, l2, l3, h0, h1, h2, h3, v]) (by simp) (.box [.int .i64 3, .str s, .int .i64 0, .int .i64 0, .str ByteArray.empty, .lst true 0 [], .int .i64 0, .int .i64 0, .str ByteArray.empty, .lst true 0 [], l0, l1, l2, l3, h0, h1, h2, h3, v']))
    have h := (QH.put (l1 := [(g6, cx)]) (cs' := [.int .i64 3, .str s, .int .i64 0, .int .i64 0, .str ByteArray.empty, .lst true 0 [], .int .i64 0, .int .i64 0, .str ByteArray.empty, .lst true 0 [], l0, l1, l2, l3, h0, h1, h2, h3, v']) h).less (bs' := [(g5, [.int .i64 3, .str s, .int .i64 0, .int .i64 0, .str ByteArray.empty, .lst true 0 [], .int .i64 0, .int .i64 0, .str ByteArray.empty, .lst true 0 [], l0, l1, l2, l3, h0, h1, h2, h3, v']), (g4, [.int .i64 0, .str ByteArray.empty, .int .i64 0, .int .i64 0, .str ByteArray.empty, .lst true 0 [], .int .i64 0, .int .i64 0, .str ByteArray.empty, .lst true 0 [], .int .i64 0, .int .i64 0, .str ByteArray.empty, .lst true 0 [], .int .i64 0, .int .i64 0, .str ByteArray.empty, .lst true 0 [], .lst true 0 []])]) (List.sublist_cons_self _ _) (List.Sublist.refl _)
    refine hRR _ (if b2 = true then 0 else T.length - a2 + 1) ?_ ⟨FR', v', F, l ++ [x], a2, d2, b2, rfl, by simp [s0], by simp [s1], by simp [s4], by simp [s5], by simpa using h, by simpa using hv, fun e => ⟨hdd e, ?_⟩, fun e => (by cases e), fun y a3 b3 hr => hall y a3 b3 (body_step (stmtP_fit j) hno run hr)⟩
    ·cases b2 with
     | true => simp
     | false =>
      have := (Run1.ltN (stmtP_fit j) run hle).1
      simp
      omega
    subst e
    have := (Run1.ltN (stmtP_fit j) run hle).1
    simp
    omega
 intro st hst
 subst hM
 obtain ⟨FR, v, F, l, a1, d1, b1, s0, s4, s5, h, hv, hdl, hd8, hex, hall⟩ := hst
 obtain ⟨n1, sm⟩ : ∃ n1, st.mem = n1 := ⟨_, rfl⟩
 rw [sm] at h hv
 (repeat refine qA ?_);refine rA ?_
 simp [s0]
 refine wA ?_
 simp [sm]
 refine c_takeR h.ps hT 125 fun m9 a2 b2 hPn hOn run => ?_
 have hv := hv.keep (h.same hgr (List.mem_cons_self ..) hOn)
 have h := h.call hgr hOn hPn
 clear hPn hOn
 have was := Run1.was run
 try simp
 have h := h.join (r' := .agg [.int .i64 3, .str s, .int .i64 0, .int .i64 0, .str ByteArray.empty, .lst true 0 [], .int .i64 0, .int .i64 0, .str ByteArray.empty, .lst true 0 [], l0, l1, l2, l3, h0, h1, h2, h3, v]) (x' := (Sm.mk 3 s zE zE lo hi l).av) (fun hx hy hd => own_body (u := [.int .i64 3, .str s, .int .i64 0, .int .i64 0, .str ByteArray.empty, .lst true 0 [], .int .i64 0, .int .i64 0, .str ByteArray.empty, .lst true 0 [], l0, l1, l2, l3, h0, h1, h2, h3]) rfl hx hy hd)
 have w5 := h.box1 (g := g5) (cs := [.int .i64 3, .str s, .int .i64 0, .int .i64 0, .str ByteArray.empty, .lst true 0 [], .int .i64 0, .int .i64 0, .str ByteArray.empty, .lst true 0 [], l0, l1, l2, l3, h0, h1, h2, h3, v]) (by simp)
 have w4 := h.box1 (g := g4) (cs := [.int .i64 0, .str ByteArray.empty, .int .i64 0, .int .i64 0, .str ByteArray.empty, .lst true 0 [], .int .i64 0, .int .i64 0, .str ByteArray.empty, .lst true 0 [], .int .i64 0, .int .i64 0, .str ByteArray.empty, .lst true 0 [], .int .i64 0, .int .i64 0, .str ByteArray.empty, .lst true 0 [], .lst true 0 []]) (by simp)
 obtain ⟨hl, hok, htk⟩ := own_19 (h.tr _ (List.mem_cons_self ..)).1.own
 obtain ⟨cs, hcs⟩ : ∃ cs, cs = [.int .i64 3, .str s, .int .i64 0, .int .i64 0, .str ByteArray.empty, .lst true 0 [], .int .i64 0, .int .i64 0, .str ByteArray.empty, .lst true 0 [], l0, l1, l2, l3, h0, h1, h2, h3, v] := ⟨_, rfl⟩
 rw [<- hcs] at h w5 hl hok htk
 (repeat refine qA ?_);refine rA ?_
 simp [s4, s5, w5, w4, hl, htk]
 try refine ⟨hok, ?_⟩
 have q := QH.put (l1 := [(g5, cs)]) (cs' := cs) h
 refine AWp.ret ⟨[.agg cs], .agg cs, _, by simp [Tryz.f115, resA, s4, htk, hl], by (try simp); exact View.refl _ _, hK _ _ cs _ _ _ _ q.ps q.off (q.tr _ (List.mem_cons_self ..)).1 (hall _ _ _ (bodyM_exit hd8 hex run)) (fun e => hdl (was e))⟩
theorem c_stmt : ∀ d : Nat, d <= 3 -> StmtC Tryz.prog 55 (4 - (d : Int)) (stmtP d)
 | 0, h => c_stmt0 0 (c_loop0 0 (by omega) fun j e => by cases e)
 | d + 1, h => c_stmt0 (d + 1) (c_loop0 (d + 1) h fun j e => by
  cases e
  exact c_stmt d (by omega))
theorem aop_pval {P : Program} {p : Bool} {s : St} {K : St -> Prop} {d : Option Tmp} {T : TypeId} {pos : String} {af : Array Edge} {g : Option (Nat × Bool)} {f : Operand} {args : Array Operand} {ts : Array TypeId} {n : FuncId} {caps : List AV} {r : AV} (hp : p = true) (hf : s.eval f = .func (.func n) caps) (h : PCall P n (args.toList.map s.eval ++ caps) r) (hk : K (s.put d r)) : AOp P p ⟨d, .call ⟨.value f, args, ts⟩, T, pos, af, g⟩ s K := by
 subst hp
 have e : (s.put d r).withMem s.mem = s.put d r := by cases d <;> rfl
 simp only [AOp, outR, WT, hf]
 exact ⟨r, h, by rw [e]; exact hk⟩
def cmpS (x y : ByteArray) : Int := if blt x y = true then -1 else if blt y x = true then 1 else 0
theorem cmpS_neg (x y : ByteArray) : decide (cmpS x y < 0) = blt x y := by
 unfold cmpS
 cases blt x y with
 | true => simp
 | false => cases blt y x <;> simp
theorem c_isNaN (x : ByteArray) : PCall Tryz.prog 117 [.str x] (.bool false) := by
 refine pO Tryz.func117 (by kernel_rfl) rfl (by simp [Tryz.f117]) ?_
 (repeat refine qA ?_);refine raA ?_
 simp
 (repeat refine qA ?_);refine raA ?_
 simp
 exact AWp.ret (pR1 rfl (by simp))
theorem c_Compare (x y : ByteArray) : PCall Tryz.prog 58 [.str x, .str y] (.int .i64 (cmpS x y)) := by
 refine pO Tryz.func58 (by kernel_rfl) rfl (by simp [Tryz.f58]) ?_
 (repeat refine qA ?_);refine raA ?_
 simp
 (repeat refine qA ?_);refine raA ?_
 simp
 refine oC' (by simpa using c_isNaN x) ?_
 simp
 (repeat refine qA ?_);refine raA ?_
 simp
 refine oC' (by simpa using c_isNaN y) ?_
 simp
 (repeat refine qA ?_);refine raA ?_
 simp
 (repeat refine qA ?_);refine fA ?_
 refine kA ?_
 try simp
 (repeat refine qA ?_);refine raA ?_
 simp
 (repeat refine qA ?_);refine fA ?_
 refine kA ?_
 try simp
 (repeat refine qA ?_);refine raA ?_
 simp
 have e1 : Op.bytesLess x.toList y.toList = blt x y := rfl
 have e2 : Op.bytesLess y.toList x.toList = blt y x := rfl
 unfold cmpS
 by_cases h1 : blt x y = true
 ·(repeat refine qA ?_);refine AWp.condT (by simp [e1, h1]) ?_
  (repeat refine qA ?_);refine raA ?_
  simp
  exact AWp.ret (pR1 rfl (by simp [h1]))
 (repeat refine qA ?_);refine AWp.condF (by simp [e1, h1]) ?_
 refine kA ?_
 try simp
 (repeat refine qA ?_);refine raA ?_
 simp
 have h1f : Op.bytesLess x.toList y.toList = false := by rw [e1]; simpa using h1
 by_cases h2 : blt y x = true
 ·have hn : ¬ x = y := fun e => blt_ne h2 e.symm
  (repeat refine qA ?_);refine AWp.condT (by simp [h1f, hn]) ?_
  (repeat refine qA ?_);refine raA ?_
  simp
  exact AWp.ret (pR1 rfl (by simp [h1, h2]))
 have hxy : x = y := by
  apply Classical.byContradiction
  intro hn
  exact h2 (blt_tri hn h1f)
 subst hxy
 (repeat refine qA ?_);refine AWp.condF (by simp [h1f]) ?_
 refine kA ?_
 try simp
 (repeat refine qA ?_);refine raA ?_
 simp
 exact AWp.ret (pR1 rfl (by simp [h1, h2]))
theorem c_Parse1 (a b : Ar) : PCall Tryz.prog 57 [.agg [.str a.s, .int .i64 a.n], .agg [.str b.s, .int .i64 b.n]] (.int .i64 (cmpS a.s b.s)) := by
 refine pO Tryz.func57 (by kernel_rfl) rfl (by simp [Tryz.f57]) ?_
 (repeat refine qA ?_);refine rA ?_
 simp
 intro g1 g2 h2
 have hne : g2 ≠ g1 := by rintro rfl; rw [set_same] at h2; cases h2
 (repeat refine qA ?_);refine rA ?_
 simp [set_at, hne, Ne.symm hne]
 refine oC' (by simpa using c_Compare a.s b.s) ?_
 simp
 exact AWp.ret (pR1 rfl (by simp))
def arB (c : Nat) (L : List Ar) : Blk := .arr 57 2 c (L.map Ar.av)
theorem set_self {m : Mem} {g : Nat} {b : Blk} (h : m g = some b) : m.set g b = m := by
 funext k
 rw [set_at]
 split
 ·rename_i e; rw [e, h]
 rfl
theorem ar_idx {m : Mem} {g c n : Nat} {L : List Ar} (hm : m g = some (arB c L)) (hn : L.length = n) {i : Nat} (hi : i < n) {z : Int} (hz : z = i) : idxA Tryz.prog m 29 (.own g n c) (.int .i64 z) = some (.elt g 2 i 0) := by
 subst hz
 have hes : esz Tryz.prog 29 = some 2 := es_29
 unfold arB at hm
 simp only [idxA, hes, hm]
 rw [if_neg (by omega), if_pos (by simp; omega)]
 simp
theorem ar_load {m : Mem} {g c : Nat} {L : List Ar} (hm : m g = some (arB c L)) {i : Nat} (hi : i < L.length) : loadA Tryz.prog m 57 (.elt g 2 i 0) = some (.agg [.str L[i].s, .int .i64 L[i].n]) := by
 have hl : loadT Tryz.prog 57 = some (2, true) := ld_57
 unfold arB at hm
 simp only [loadA, hl, hm, if_true]
 rw [List.getElem?_map, List.getElem?_eq_getElem hi]
 rfl
theorem ar_store {m : Mem} {g c : Nat} {L : List Ar} (hm : m g = some (arB c L)) {i : Nat} (hi : i < L.length) (a : Ar) : storeA m (.elt g 2 i 0) (.agg [.str a.s, .int .i64 a.n]) = some (m.set g (arB c (L.set i a))) := by
 unfold arB at hm ⊢
 simp only [storeA, hm, if_true]
 rw [List.getElem?_map, List.getElem?_eq_getElem hi]
 simp [AV.cells, List.map_set, Ar.av, Ar.cells]
abbrev Sh (L' L : List Ar) : Prop := L'.length = L.length /\ ∀ x ∈ L', x ∈ L
theorem Sh.refl (L : List Ar) : Sh L L := ⟨rfl, fun _ h => h⟩
theorem sh_trans {A B C : List Ar} (h : Sh A B) (k : Sh B C) : Sh A C := ⟨h.1.trans k.1, fun x hx => k.2 x (h.2 x hx)⟩
theorem sh_two {L' L : List Ar} (hs : ∀ x ∈ L', x ∈ L) {i j : Nat} {u v : Ar} (hu : u ∈ L') (hv : v ∈ L') : ∀ x ∈ (L'.set i u).set j v, x ∈ L := by
 intro x hx
 rcases List.mem_or_eq_of_mem_set hx with hx | rfl
 ·rcases List.mem_or_eq_of_mem_set hx with hx | rfl
  ·exact hs x hx
  exact hs _ hu
 exact hs _ hv
theorem c_swapRange {m : Mem} {g c ln : Nat} {L : List Ar} (hm : m g = some (arB c L)) (hln : L.length = ln) (hl : L.length <= 600) {za zb zn : Int} (a b n : Nat) (ea : za = a) (eb : zb = b) (en : zn = n) (ha : a + n <= L.length) (hb : b + n <= L.length) {K : AV -> Mem -> Prop} (hK : ∀ L' : List Ar, Sh L' L -> K (.tup []) (m.set g (arB c L'))) :
  WCall Tryz.prog 198 [.own g ln c, .int .i64 za, .int .i64 zb, .int .i64 zn, .func (.func 57) []] m K := by
 subst hln
 subst ea
 subst eb
 subst en
 refine wcall_of Tryz.func198 (by kernel_rfl) rfl (by simp [Tryz.f198]) ?_
 (repeat refine qA ?_);refine rA ?_
 simp
 (repeat refine qA ?_);refine AWp.lastQ (fun st => ∃ L' : List Ar, Sh L' L /\ st.mem = m.set g (arB c L')) ?_ ?_
 ·refine AWp.block (AWp.rounds (fun q st => ∃ (i : Nat) (L' : List Ar), q = n - i /\ i <= n /\ st.slots 0 = .own g L.length c /\ st.slots 1 = .int .i64 a /\ st.slots 2 = .int .i64 b /\ st.slots 3 = .int .i64 n /\ st.slots 10 = .int .i64 i /\ Sh L' L /\ st.mem = m.set g (arB c L')) n ⟨0, L, rfl, by omega, by simp, by simp, by simp, by simp, by simp, Sh.refl L, by simp [set_self hm]⟩ ?_)
  rintro RR q st hRR ⟨i, L', rfl, hi, s0, s1, s2, s3, s10, ⟨hL, hs⟩, sm⟩
  (repeat refine qA ?_);refine rA ?_
  simp [s10, s3]
  by_cases hlt : i < n
  ·(repeat refine qA ?_);refine AWp.condT (by simp [hlt]) ?_
   refine kA ?_
   try simp
   (repeat refine qA ?_);refine bA ?_
   have w1 : IntKind.wrap .i64 ((a : Int) + i) = (a : Int) + i := wrap64 (by omega) (by omega)
   have w2 : IntKind.wrap .i64 ((b : Int) + i) = (b : Int) + i := wrap64 (by omega) (by omega)
   have w3 : IntKind.wrap .i64 ((i : Int) + 1) = (i : Int) + 1 := wrap64 (by omega) (by omega)
   have hma := set_same m g (arB c L')
   have i1 := ar_idx hma hL (i := a + i) (by omega) (z := (a : Int) + i) (by omega)
   have i2 := ar_idx hma hL (i := b + i) (by omega) (z := (b : Int) + i) (by omega)
   have l1 := ar_load hma (i := a + i) (by omega)
   have l2 := ar_load hma (i := b + i) (by omega)
   have t1 := ar_store hma (i := a + i) (by omega) L'[b + i]
   have hmb := set_same m g (arB c (L'.set (a + i) L'[b + i]))
   have i3 := ar_idx hmb (n := L.length) (by simp [hL]) (i := b + i) (by omega) (z := (b : Int) + i) (by omega)
   have t2 := ar_store hmb (i := b + i) (by simp; omega) L'[a + i]
   simp only [set_set] at t1 t2
   (repeat refine qA ?_);refine AWp.regionG (fun _ => false) (fun _ => false) [0, 1, 2, 3, 4, 5, 6, 7, 8, 9, 10, 11, 12, 13, 14, 15, 16, 17, 18, 19, 20, 21, 22, 23] [0, 1, 2, 3, 8, 9, 10, 11, 12, 13, 14, 15, 16, 17, 18, 19, 20, 21, 4, 5, 6, 7, 22, 23] (by kernel_rfl) ?_
   simp [s0, s1, s2, s10, sm, w1, w2, i1, i2, l1, l2, t1, t2, i3]
   (repeat refine qA ?_);refine rA ?_
   simp [s10, w3]
   exact hRR _ (n - (i + 1)) (by omega) ⟨i + 1, (L'.set (a + i) L'[b + i]).set (b + i) L'[a + i], rfl, by omega, by simp [s0], by simp [s1], by simp [s2], by simp [s3], by simp, ⟨by simp [hL], sh_two hs (List.getElem_mem _) (List.getElem_mem _)⟩, by first | rfl | simp⟩
  (repeat refine qA ?_);refine AWp.condF (by simp; omega) ?_
  refine eA ?_
  exact ⟨L', ⟨hL, hs⟩, by simpa using sm⟩
 rintro st ⟨L', hL, sm⟩
 exact ⟨[], .tup [], _, by simp [Tryz.f198, resA], by rw [sm]; exact View.refl _ _, hK L' hL⟩
theorem c_rotate {m : Mem} {g c ln : Nat} {L : List Ar} (hm : m g = some (arB c L)) (hln : L.length = ln) (hl : L.length <= 600) {za zk zb : Int} (a k b : Nat) (ea : za = a) (ek : zk = k) (eb : zb = b) (h1 : a < k) (h2 : k < b) (h3 : b <= L.length) {K : AV -> Mem -> Prop} (hK : ∀ L' : List Ar, Sh L' L -> K (.tup []) (m.set g (arB c L'))) :
  WCall Tryz.prog 179 [.own g ln c, .int .i64 za, .int .i64 zk, .int .i64 zb, .func (.func 57) []] m K := by
 subst hln
 subst ea
 subst ek
 subst eb
 refine wcall_of Tryz.func179 (by kernel_rfl) rfl (by simp [Tryz.f179]) ?_
 (repeat refine qA ?_);refine rA ?_
 simp
 have w1 : IntKind.wrap .i64 ((k : Int) - a) = ((k - a : Nat) : Int) := by rw [wrap64 (by omega) (by omega)]; omega
 have w2 : IntKind.wrap .i64 ((b : Int) - k) = ((b - k : Nat) : Int) := by rw [wrap64 (by omega) (by omega)]; omega
 (repeat refine qA ?_);refine rA ?_
 simp
 obtain ⟨M, hM⟩ : ∃ M : St -> Prop, M = (fun st => ∃ (i : Nat) (L' : List Ar), 1 <= i /\ i <= k /\ k + i <= L.length /\ st.slots 0 = .own g L.length c /\ st.slots 2 = .int .i64 k /\ st.slots 4 = .func (.func 57) [] /\ st.slots 10 = .int .i64 i /\ Sh L' L /\ st.mem = m.set g (arB c L')) := ⟨_, rfl⟩
 (repeat refine qA ?_);refine AWp.cutA M ?_ ?_
 ·refine AWp.block (AWp.rounds (fun q st => ∃ (i j : Nat) (L' : List Ar), q = i + j /\ 1 <= i /\ 1 <= j /\ i <= k /\ k + j <= L.length /\ st.slots 0 = .own g L.length c /\ st.slots 2 = .int .i64 k /\ st.slots 4 = .func (.func 57) [] /\ st.slots 10 = .int .i64 i /\ st.slots 11 = .int .i64 j /\ Sh L' L /\ st.mem = m.set g (arB c L')) (k - a + (b - k)) ⟨k - a, b - k, L, rfl, by omega, by omega, by omega, by omega, by simp, by simp, by simp, by simp [w1], by simp [w2], Sh.refl L, by simp [set_self hm]⟩ ?_)
  rintro RR q st hRR ⟨i, j, L', rfl, hi, hj, hik, hkj, s0, s2, s4, s10, s11, ⟨hL, hs⟩, sm⟩
  have hma := set_same m g (arB c L')
  (repeat refine qA ?_);refine rA ?_
  simp [s10, s11]
  by_cases hij : i = j
  ·subst hij
   (repeat refine qA ?_);refine fA ?_
   refine eA ?_
   subst hM
   exact ⟨i, L', hi, hik, hkj, by simp [s0], by simp [s2], by simp [s4], by simp [s10], ⟨hL, hs⟩, by simpa using sm⟩
  (repeat refine qA ?_);refine AWp.condT (by simp; omega) ?_
  refine kA ?_
  try simp
  (repeat refine qA ?_);refine bA ?_
  (repeat refine qA ?_);refine rA ?_
  simp [s10, s11]
  by_cases hlt : j < i
  ·(repeat refine qA ?_);refine AWp.condT (by simp [hlt]) ?_
   have w3 : IntKind.wrap .i64 ((k : Int) - i) = ((k - i : Nat) : Int) := by rw [wrap64 (by omega) (by omega)]; omega
   have w4 : IntKind.wrap .i64 ((i : Int) - j) = ((i - j : Nat) : Int) := by rw [wrap64 (by omega) (by omega)]; omega
   (repeat refine qA ?_);refine rA ?_
   simp [s0, s2, s4, s10, s11, w3]
   refine wA ?_
   simp [sm]
   refine c_swapRange hma hL (by omega) (k - i) k j rfl rfl rfl (by omega) (by omega) fun L2 hL2 => ?_
   try simp
   (repeat refine qA ?_);refine rA ?_
   simp [s10, s11, w4]
   exact hRR _ (i - j + j) (by omega) ⟨i - j, j, L2, rfl, by omega, hj, by omega, hkj, by simp [s0], by simp [s2], by simp [s4], by simp, by simp [s11], sh_trans hL2 ⟨hL, hs⟩, by simp⟩
  (repeat refine qA ?_);refine AWp.condF (by simp; omega) ?_
  have w3 : IntKind.wrap .i64 ((k : Int) - i) = ((k - i : Nat) : Int) := by rw [wrap64 (by omega) (by omega)]; omega
  have w4 : IntKind.wrap .i64 ((j : Int) - i) = ((j - i : Nat) : Int) := by rw [wrap64 (by omega) (by omega)]; omega
  have w5 : IntKind.wrap .i64 ((k : Int) + j) = (k : Int) + j := wrap64 (by omega) (by omega)
  have w6 : IntKind.wrap .i64 ((k : Int) + j - i) = ((k + j - i : Nat) : Int) := by rw [wrap64 (by omega) (by omega)]; omega
  (repeat refine qA ?_);refine rA ?_
  simp [s0, s2, s4, s10, s11, w3, w5, w6]
  refine wA ?_
  simp [sm]
  refine c_swapRange hma hL (by omega) (k - i) (k + j - i) i rfl rfl rfl (by omega) (by omega) fun L2 hL2 => ?_
  try simp
  (repeat refine qA ?_);refine rA ?_
  simp [s10, s11, w4]
  exact hRR _ (i + (j - i)) (by omega) ⟨i, j - i, L2, rfl, hi, by omega, hik, by omega, by simp [s0], by simp [s2], by simp [s4], by simp [s10], by simp, sh_trans hL2 ⟨hL, hs⟩, by simp⟩
 intro st hst
 subst hM
 obtain ⟨i, L', hi, hik, hki, s0, s2, s4, s10, ⟨hL, hs⟩, sm⟩ := hst
 have hma := set_same m g (arB c L')
 have w3 : IntKind.wrap .i64 ((k : Int) - i) = ((k - i : Nat) : Int) := by rw [wrap64 (by omega) (by omega)]; omega
 (repeat refine qA ?_);refine rA ?_
 simp [s0, s2, s4, s10, w3]
 refine wA ?_
 simp [sm]
 refine c_swapRange hma hL (by omega) (k - i) k i rfl rfl rfl (by omega) (by omega) fun L2 hL2 => ?_
 try simp
 exact ⟨[], .tup [], _, by simp [Tryz.f179, resA], by simp; exact View.refl _ _, hK L2 (sh_trans hL2 ⟨hL, hs⟩)⟩
theorem sort_start (L : List Ar) : L = sortA (L.take 1) ++ L.drop 1 := by
 cases L with
 | nil => rfl
 | cons x l => simp [sortA, insR]
theorem sort_more {L : List Ar} {i : Nat} (hi : i < L.length) : sortA (L.take (i + 1)) = insR (sortA (L.take i)) L[i] := by
 rw [<- sort_snoc]
 congr 1
 rw [List.take_add_one, List.getElem?_eq_getElem hi]
 rfl
theorem c_insertion {m : Mem} {g c ln : Nat} {L : List Ar} (hm : m g = some (arB c L)) (hln : L.length = ln) (hl : L.length <= 600) {za zb : Int} (a b : Nat) (ea : za = a) (eb : zb = b) (h1 : a <= b) (h2 : b <= L.length) {K : AV -> Mem -> Prop} (hK : ∀ L' : List Ar, Sh L' L -> (a = 0 -> b = L.length -> L' = sortA L) -> K (.tup []) (m.set g (arB c L'))) :
  WCall Tryz.prog 155 [.own g ln c, .int .i64 za, .int .i64 zb, .func (.func 57) []] m K := by
 subst hln
 subst ea
 subst eb
 refine wcall_of Tryz.func155 (by kernel_rfl) rfl (by simp [Tryz.f155]) ?_
 have w0 : IntKind.wrap .i64 ((a : Int) + 1) = ((a + 1 : Nat) : Int) := by rw [wrap64 (by omega) (by omega)]; omega
 (repeat refine qA ?_);refine rA ?_
 simp
 obtain ⟨M0, hM0⟩ : ∃ M0 : St -> Prop, M0 = (fun st => ∃ (i : Nat) (L' : List Ar), b <= i /\ Sh L' L /\ st.mem = m.set g (arB c L') /\ (a = 0 -> L' = sortA (L.take i) ++ L.drop i)) := ⟨_, rfl⟩
 (repeat refine qA ?_);refine AWp.lastQ M0 ?_ ?_
 ·refine AWp.block (AWp.rounds (fun q st => ∃ (i : Nat) (L' : List Ar), q = b - i /\ a < i /\ st.slots 0 = .own g L.length c /\ st.slots 1 = .int .i64 a /\ st.slots 2 = .int .i64 b /\ st.slots 3 = .func (.func 57) [] /\ st.slots 8 = .int .i64 i /\ Sh L' L /\ st.mem = m.set g (arB c L') /\ (a = 0 -> L' = sortA (L.take i) ++ L.drop i)) (b - (a + 1)) ⟨a + 1, L, rfl, by omega, by simp, by simp, by simp, by simp, by simp [w0], Sh.refl L, by simp [set_self hm], fun e => by subst e; exact sort_start L⟩ ?_)
  rintro RR q st hRR ⟨i, L', rfl, hai, s0, s1, s2, s3, s8, ⟨hL, hsh⟩, sm, hord⟩
  (repeat refine qA ?_);refine rA ?_
  simp [s8, s2]
  by_cases hlt : i < b
  ·(repeat refine qA ?_);refine AWp.condT (by simp [hlt]) ?_
   refine kA ?_
   try simp
   (repeat refine qA ?_);refine bA ?_
   have hil : i < L.length := by omega
   (repeat refine qA ?_);refine rA ?_
   simp [s8]
   obtain ⟨M, hM⟩ : ∃ M : St -> Prop, M = (fun st => ∃ (L' : List Ar), st.slots 0 = .own g L.length c /\ st.slots 1 = .int .i64 a /\ st.slots 2 = .int .i64 b /\ st.slots 3 = .func (.func 57) [] /\ st.slots 8 = .int .i64 i /\ Sh L' L /\ st.mem = m.set g (arB c L') /\ (a = 0 -> L' = sortA (L.take (i + 1)) ++ L.drop (i + 1))) := ⟨_, rfl⟩
   (repeat refine qA ?_);refine AWp.lastQ M ?_ ?_
   ·refine AWp.block (AWp.rounds (fun q st => ∃ (j : Nat) (L' : List Ar), q = j /\ a <= j /\ j <= i /\ st.slots 0 = .own g L.length c /\ st.slots 1 = .int .i64 a /\ st.slots 2 = .int .i64 b /\ st.slots 3 = .func (.func 57) [] /\ st.slots 8 = .int .i64 i /\ st.slots 9 = .int .i64 j /\ Sh L' L /\ st.mem = m.set g (arB c L') /\ (a = 0 -> ∃ P Q, P.length = j /\ P ++ Q = sortA (L.take i) /\ (∀ q ∈ Q, blt L[i].s q.s = true) /\ L' = P ++ L[i] :: (Q ++ L.drop (i + 1)))) i ⟨i, L', rfl, by omega, by omega, by simp [s0], by simp [s1], by simp [s2], by simp [s3], by simp [s8], by simp, ⟨hL, hsh⟩, by simpa using sm, fun e => ⟨sortA (L.take i), [], by rw [sort_len]; simp; omega, by simp, by simp, by
     rw [hord e, List.drop_eq_getElem_cons hil]; simp⟩⟩ ?_)
    clear sm hord s0 s1 s2 s3 s8
    rintro RR2 j st hRR2 ⟨_, L', rfl, haj, hji, s0, s1, s2, s3, s8, s9, ⟨hL, hsh⟩, sm, hord⟩
    have stop : (a = 0 -> ∀ x, j ≠ 0 -> L'[j - 1]? = some x -> blt L[i].s x.s = false) -> a = 0 -> L' = sortA (L.take (i + 1)) ++ L.drop (i + 1) := by
     intro hs e
     obtain ⟨P, Q, hP, hPQ, hQ, rfl⟩ := hord e
     rw [sort_more hil, <- hPQ, ins_done hQ]
     ·simp
     intro x hx
     have hj0 : j ≠ 0 := by
      rintro rfl
      have := List.eq_nil_of_length_eq_zero hP
      subst this
      cases hx
     refine hs e x hj0 ?_
     rw [List.getElem?_append_left (by omega), <- hx, List.getLast?_eq_getElem?, hP]
    by_cases hja : a < j
    ·have hma := set_same m g (arB c L')
     have w1 : IntKind.wrap .i64 ((j : Int) - 1) = ((j - 1 : Nat) : Int) := by rw [wrap64 (by omega) (by omega)]; omega
     have i1 := ar_idx hma hL (i := j) (by omega) (z := (j : Int)) rfl
     have i2 := ar_idx hma hL (i := j - 1) (by omega) (z := ((j - 1 : Nat) : Int)) rfl
     have l1 := ar_load hma (i := j) (by omega)
     have l2 := ar_load hma (i := j - 1) (by omega)
     (repeat refine qA ?_);refine AWp.regionG (fun i => i == 14) (fun _ => false) [0, 1, 2, 3, 4, 5, 6, 7, 8, 9, 10, 11, 12, 13, 14, 15, 16] [0, 1, 2, 3, 4, 5, 6, 7, 8, 9, 10, 11, 12, 13, 14, 15, 16] (by kernel_rfl) ?_
     simp [s0, s1, s3, s9, sm, hja, w1, i1, i2, l1, l2]
     refine aop_pval rfl (n := 57) (caps := []) (by simp [s3]) (by simpa using c_Parse1 L'[j] L'[j - 1]) ?_
     simp [hja]
     have hcmp := cmpS_neg L'[j].s L'[j - 1].s
     cases hb : blt L'[j].s L'[j - 1].s with
     | false =>
      rw [hb] at hcmp
      (repeat refine qA ?_);refine AWp.condF (by simpa using hcmp) ?_
      refine eA ?_
      subst hM
      refine ⟨L', by simp [s0], by simp [s1], by simp [s2], by simp [s3], by simp [s8], ⟨hL, hsh⟩, by simpa using sm, stop fun e x hj0 hx => ?_⟩
      obtain ⟨P, Q, hP, hPQ, hQ, hLe⟩ := hord e
      have e1 : L'[j] = L[i] := by
       have : L'[j]? = some L[i] := by rw [hLe, List.getElem?_append_right (by omega), hP]; simp
       rw [List.getElem?_eq_getElem (by omega)] at this
       exact Option.some.inj this
      have e2 : L'[j - 1] = x := by
       rw [List.getElem?_eq_getElem (by omega)] at hx
       exact Option.some.inj hx
      rw [<- e1, <- e2]
      exact hb
     | true =>
      rw [hb] at hcmp
      (repeat refine qA ?_);refine AWp.condT (by simpa using hcmp) ?_
      refine kA ?_
      try simp
      (repeat refine qA ?_);refine bA ?_
      have t1 := ar_store hma (i := j) (by omega) L'[j - 1]
      have hmb := set_same m g (arB c (L'.set j L'[j - 1]))
      have i3 := ar_idx hmb (n := L.length) (by simp [hL]) (i := j - 1) (by omega) (z := ((j - 1 : Nat) : Int)) rfl
      have t2 := ar_store hmb (i := j - 1) (by simp; omega) L'[j]
      simp only [set_set] at t1 t2
      (repeat refine qA ?_);refine AWp.regionG (fun _ => false) (fun _ => false) [0, 1, 2, 3, 4, 5, 6, 7, 8, 9, 10, 11, 12, 13, 14, 15, 16, 17] [0, 1, 5, 6, 7, 8, 9, 10, 11, 12, 13, 14, 15, 2, 3, 4, 16, 17] (by kernel_rfl) ?_
      simp [s0, s9, sm, w1, i1, i2, l1, l2, t1, t2, i3]
      (repeat refine qA ?_);refine rA ?_
      simp [s9, w1]
      refine hRR2 _ (j - 1) (by omega) ⟨j - 1, (L'.set j L'[j - 1]).set (j - 1) L'[j], rfl, by omega, by omega, by simp [s0], by simp [s1], by simp [s2], by simp [s3], by simp [s8], by simp, ⟨by simp [hL], sh_two hsh (List.getElem_mem _) (List.getElem_mem _)⟩, by first | rfl | simp, fun e => ?_⟩
      obtain ⟨P, Q, hP, hPQ, hQ, hLe⟩ := hord e
      have hne : P ≠ [] := by rintro rfl; simp at hP; omega
      obtain ⟨P', y, rfl⟩ : ∃ P' y, P = P' ++ [y] := ⟨P.dropLast, P.getLast hne, (List.dropLast_concat_getLast hne).symm⟩
      simp only [List.length_append, List.length_singleton] at hP
      have hP' : P'.length = j - 1 := by omega
      have e1 : L'[j] = L[i] := by
       have : L'[j]? = some L[i] := by rw [hLe, List.getElem?_append_right (by simp; omega)]; simp [hP]
       rw [List.getElem?_eq_getElem (by omega)] at this
       exact Option.some.inj this
      have e2 : L'[j - 1] = y := by
       have : L'[j - 1]? = some y := by rw [hLe, List.append_assoc, List.getElem?_append_right (by omega), hP']; simp
       rw [List.getElem?_eq_getElem (by omega)] at this
       exact Option.some.inj this
      rw [e1, e2] at hb
      refine ⟨P', y :: Q, hP', by rw [<- hPQ]; simp, fun q hq => ?_, ?_⟩
      ·rcases List.mem_cons.1 hq with rfl | hq
       ·exact hb
       exact hQ q hq
      rw [e1, e2]
      subst hLe
      have hj : j = P'.length + 1 := by omega
      subst hj
      simp [List.set_append]
    have hj : j = a := by omega
    subst hj
    (repeat refine qA ?_);refine AWp.regionG (fun i => i == 14) (fun _ => false) [0, 1, 2, 3, 4, 5, 6, 7, 8, 9, 10, 11, 12, 13, 14, 15, 16] [0, 1, 2, 3, 4, 5, 6, 7, 8, 9, 10, 11, 12, 13, 14, 15, 16] (by kernel_rfl) ?_
    simp [s0, s1, s3, s9, sm]
    (repeat refine qA ?_);refine fA ?_
    refine eA ?_
    subst hM
    exact ⟨L', by simp [s0], by simp [s1], by simp [s2], by simp [s3], by simp [s8], ⟨hL, hsh⟩, by simpa using sm, stop fun e x hj0 hx => absurd e hj0⟩
   clear sm hord s0 s1 s2 s3 s8
   intro st hst
   subst hM
   obtain ⟨L', s0, s1, s2, s3, s8, ⟨hL, hsh⟩, sm, hord⟩ := hst
   simp only [blockA, thenA]
   have w1 : IntKind.wrap .i64 ((i : Int) + 1) = ((i + 1 : Nat) : Int) := by rw [wrap64 (by omega) (by omega)]; omega
   (repeat refine qA ?_);refine rA ?_
   simp [s8, w1]
   exact hRR _ (b - (i + 1)) (by omega) ⟨i + 1, L', rfl, by omega, by simp [s0], by simp [s1], by simp [s2], by simp [s3], by simp, ⟨hL, hsh⟩, by simpa using sm, hord⟩
  (repeat refine qA ?_);refine AWp.condF (by simp; omega) ?_
  refine eA ?_
  subst hM0
  exact ⟨i, L', by omega, ⟨hL, hsh⟩, by simpa using sm, hord⟩
 intro st hst
 subst hM0
 obtain ⟨i, L', hbi, ⟨hL, hsh⟩, sm, hord⟩ := hst
 refine ⟨[], .tup [], _, by simp [Tryz.f155, resA], by rw [sm]; exact View.refl _ _, hK L' ⟨hL, hsh⟩ fun e1 e2 => ?_⟩
 rw [hord e1, List.take_of_length_le (by omega), List.drop_eq_nil_of_le (by omega)]
 simp
end Go.T
