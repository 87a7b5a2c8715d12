/- The program's parser: atoms. The program's parser: sums. The program's parser: trees of statements beside each other; words that are taken. The reference's reader: what it looks at and takes. The reference's reader: pairs, atoms. The reference's reader: products, sums. The reference's reader: statements. -/
import Derived.Test.YtdbnllfjmkmdiaaGreatDoorG13
import Derived.Test.YtdbnllfjmkmdiaaGreatDoorG5
import Derived.Test.YtdbnllfjmkmdiaaGreatDoorG6
set_option linter.unusedSimpArgs false
set_option linter.unusedVariables false
namespace Go.T
open Go Go.Proofs
set_option maxRecDepth 10000
set_option maxHeartbeats 1000000
open Go
theorem atom_7 {sub : PE} {t : Tk} {l : List Tk} (h : t.is 3 minB = true) : atomP sub (t :: l) = pairP sub 7 l := by
 have hk : t.k = 3 := by unfold Tk.is at h; simp at h; exact h.1
 have h4 : t.is 4 (ch 40) = false := by unfold Tk.is; simp [hk]
 simp only [atomP, hk, h4, h, if_true, Bool.false_eq_true, if_false]
 rfl
theorem atom_8 {sub : PE} {t : Tk} {l : List Tk} (h : t.is 3 maxB = true) : atomP sub (t :: l) = pairP sub 8 l := by
 have hk : t.k = 3 := by unfold Tk.is at h; simp at h; exact h.1
 have hs : t.s = maxB := by unfold Tk.is at h; simp at h; exact h.2
 have h4 : t.is 4 (ch 40) = false := by unfold Tk.is; simp [hk]
 have h3 : t.is 3 minB = false := by unfold Tk.is; rw [hs]; simp [hk]; decide
 simp only [atomP, hk, h4, h3, h, if_true, Bool.false_eq_true, if_false]
 rfl
theorem atom_par {sub : PE} {t : Tk} {l : List Tk} (h : t.is 4 (ch 40) = true) : atomP sub (t :: l) = paren sub l := by
 have hk : t.k = 4 := by unfold Tk.is at h; simp at h; exact h.1
 simp only [atomP, hk, h, if_true]
 rfl
theorem atom_num {sub : PE} {t : Tk} {l : List Tk} (h : t.k = 2) : atomP sub (t :: l) = some (.mk 1 t.n ⟨#[]⟩ [], l) := by
 simp only [atomP, h, if_true]
def nameP (sub : PE) (s : ByteArray) : PE := fun ts => match tkS 4 (ch 91) ts with | none => some (.mk 2 0 s [], ts) | some r => plc sub s r
theorem atom_name {sub : PE} {t : Tk} {l : List Tk} (h : t.k = 1) : atomP sub (t :: l) = nameP sub t.s l := by
 simp only [atomP, h, if_true]
 rfl
theorem name_run {sub : PE} {s : ByteArray} {T : List Tk} {a : Nat} (h : notM T a 91) : Run1 (nameP sub s) T a false (.mk 2 0 s []) a false := by
 have e : nameP sub s (T.drop a) = some (.mk 2 0 s [], T.drop a) := by
  by_cases hlt : a < T.length
  ·rw [List.drop_eq_getElem_cons hlt]
   have := h hlt
   simp [nameP, tkS, this]
  rw [List.drop_eq_nil_of_le (by omega)]
  rfl
 exact ⟨fun x0 r _ he => by rw [e] at he; cases he; exact ⟨rfl, rfl, rfl⟩, fun hi => by
  have := hi.resolve_left (by simp)
  rw [e] at this; cases this⟩
theorem name_plc {sub : PE} {s : ByteArray} {T : List Tk} {a a' : Nat} {b' : Bool} {x : Ex} (hlt : a < T.length) (hm : T[a].is 4 (ch 91) = true) (h : Run1 (plc sub s) T (a + 1) false x a' b') : Run1 (nameP sub s) T a false x a' b' :=
 Run1.cons hlt h fun l => by simp [nameP, tkS, hm]
theorem min_max {t : Tk} (h : isT t minB = true) : isT t maxB = false := by
 unfold isT at h ⊢
 simp at h
 rw [h.2]
 have : ¬ minB = maxB := by decide
 simp [this]
theorem atom_ill {sub : PE} {T : List Tk} {a a' : Nat} {bad : Bool} {e : Ex} (h : bad = true ∨ atomP sub (T.drop a) = none) : Run1 (atomP sub) T a bad e a' true :=
 ⟨fun x0 r hb he => (by
  have := h.resolve_left (by simp [hb])
  rw [this] at he
  cases he), fun _ => rfl⟩
theorem PH.start {gr : Nat} {T : List Tk} {a : Nat} {d : Int} {bad : Bool} {m : Mem} (h : PS gr T a d bad m) : PH m gr T a d bad [] [] m :=
 ⟨h, Off.refl _ _, fun b hb => (by cases hb), .nil, fun t ht => (by cases ht), .nil⟩
theorem c_atom (k : Nat) (hS : ExpC Tryz.prog 41 k (sumP k)) : ExpC Tryz.prog 148 k (atomP (sumP k)) := by
 intro gr T a d bad m hP hT hd K hK
 have hgr := hP.at
 have eE : ByteArray.empty = (⟨#[]⟩ : ByteArray) := rfl
 refine wcall_of Tryz.func148 (by kernel_rfl) rfl (by simp [Tryz.f148]) ?_
 (repeat refine qA ?_);refine rA ?_
 simp
 intro g2 hg2
 have h := (PH.start hP).box hgr hg2 [.int .i64 0, .int .i64 0, .str ByteArray.empty, .lst true 0 []]
 refine AWp.gen (fun st => st.slots 0 = .ptr gr 0 /\ st.slots 2 = .ptr g2 0 /\ st.mem = m.set g2 (.box [.int .i64 0, .int .i64 0, .str ByteArray.empty, .lst true 0 []])) ⟨by simp, by simp, by simp⟩ ?_
 generalize m.set g2 (.box [.int .i64 0, .int .i64 0, .str ByteArray.empty, .lst true 0 []]) = m1 at *
 rintro st ⟨s0, s2, sm⟩
 (repeat refine qA ?_);refine bA ?_
 (repeat refine qA ?_);refine rA ?_
 simp [s0]
 refine wA ?_
 simp [sm]
 refine c_next h.ps ?_
 simp [Tk.cells_eq]
 by_cases h2 : (hdT T a bad).k = 2
 ·obtain ⟨rfl, hlt, ht⟩ := hdT_k (T := T) (a := a) (bad := bad) (by omega)
  (repeat refine qA ?_);refine AWp.condT (by simp [h2]) ?_
  (repeat refine qA ?_);refine rA ?_
  simp [s0]
  refine wA ?_
  try simp
  refine c_kind h.ps 2 (by omega) fun m2 hPn hOn => ?_
  simp only [h2, if_true, decide_true, Bool.not_true] at hPn ⊢
  have h := h.call hgr hOn hPn
  have w2 := h.box1 (g := g2) (cs := [.int .i64 0, .int .i64 0, .str ByteArray.empty, .lst true 0 []]) (by simp)
  simp [Tk.cells_eq, s2, w2]
  have h := h.leaf 1 (hdT T a false).n ⟨#[]⟩
  have q := PH.put (l1 := []) (cs' := [.int .i64 1, .int .i64 (hdT T a false).n, .str ⟨#[]⟩, .lst true 0 []]) h
  refine AWp.ret ⟨[.agg [.int .i64 1, .int .i64 (hdT T a false).n, .str ⟨#[]⟩, .lst true 0 []]], .agg [.int .i64 1, .int .i64 (hdT T a false).n, .str ⟨#[]⟩, .lst true 0 []], _, by simp [Tryz.f148, resA, s2, eE], by (try simp [eE]); exact View.refl _ _, hK _ _ _ _ _ _ _ q.ps q.off (q.tr _ (List.mem_cons_self ..)).1 (Run1.cons hlt (g := fun ts => some (.mk 1 (hdT T a false).n ⟨#[]⟩ [], ts)) (Run1.pure _ _ _ _) (fun l => by rw [ht] at h2 ⊢; exact atom_num h2)) (fun _ => rfl)⟩
 (repeat refine qA ?_);refine AWp.condF (by simp [h2]) ?_
 (repeat refine qA ?_);refine rA ?_
 simp [s0]
 refine wA ?_
 try simp
 refine c_is h.ps minB ?_
 try simp
 by_cases hmin : isT (hdT T a bad) minB = true
 ·obtain ⟨rfl, hlt, hmi⟩ := isT_word hT (by decide) hmin
  have hmax := min_max hmin
  simp [hmin]
  (repeat refine qA ?_);refine tA ?_
  (repeat refine qA ?_);refine rA ?_
  simp
  intro g3 hg3
  have h := h.box hgr hg3 [.int .i64 7, .int .i64 0, .str ByteArray.empty, .lst true 0 []]
  refine AWp.gen (fun st => st.slots 0 = .ptr gr 0 /\ st.slots 2 = .ptr g2 0 /\ st.slots 3 = .ptr g3 0 /\ st.mem = m1.set g3 (.box [.int .i64 7, .int .i64 0, .str ByteArray.empty, .lst true 0 []])) ⟨by simp [s0], by simp [s2], by simp, by simp⟩ ?_
  generalize m1.set g3 (.box [.int .i64 7, .int .i64 0, .str ByteArray.empty, .lst true 0 []]) = m4 at *
  clear s0 s2 sm
  rintro st ⟨s0, s2, s3, sm⟩
  (repeat refine qA ?_);refine rA ?_
  simp [s0]
  refine wA ?_
  simp [sm]
  refine c_is h.ps maxB ?_
  simp [hmax]
  (repeat refine qA ?_);refine fA ?_
  refine kA ?_
  try simp
  refine AWp.gen (fun st => st.slots 0 = .ptr gr 0 /\ st.slots 2 = .ptr g2 0 /\ st.slots 3 = .ptr g3 0 /\ st.mem = m4) ⟨by simp [s0], by simp [s2], by simp [s3], by simp⟩ ?_
  clear s0 s2 s3 sm hg3
  rintro st ⟨s0, s2, s3, sm⟩
  have hbx := h.ps.box
  have hle := h.ps.le
  have hsm := h.ps.small
  unfold pc at hbx
  have hw : IntKind.wrap .i64 ((a : Int) + 1) = (a : Int) + 1 := wrap64 (by omega) (by omega)
  (repeat refine qA ?_);refine rA ?_
  simp [s0, sm, hbx, hw]
  have h := h.call hgr (Off.box _ _) (h.ps.step (a + 1) d false (by omega))
  refine AWp.gen (fun st => st.slots 0 = .ptr gr 0 /\ st.slots 2 = .ptr g2 0 /\ st.slots 3 = .ptr g3 0 /\ st.mem = m4.set gr (.box (pc T (a + 1) d false))) ⟨by first | (simp; done) | (simp [s0]; done), by first | (simp; done) | (simp [s2]; done), by first | (simp; done) | (simp [s3]; done), by first | (simp [pc]; done) | (simp [sm, pc]; done)⟩ ?_
  clear s0 s2 s3 sm
  rintro st ⟨s0, s2, s3, sm⟩
  generalize m4.set gr (.box (pc T (a + 1) d false)) = m5 at *
  clear hbx
  (repeat refine qA ?_);refine rA ?_
  simp [s0]
  refine wA ?_
  simp [sm]
  refine c_takeR h.ps hT 40 fun m6 a1 b1 hPn hOn run1 => ?_
  have h := h.call hgr hOn hPn
  clear hPn hOn
  try simp
  refine AWp.gen (fun st => st.slots 0 = .ptr gr 0 /\ st.slots 2 = .ptr g2 0 /\ st.slots 3 = .ptr g3 0 /\ st.mem = m6) ⟨by first | (simp; done) | (simp [s0]; done), by first | (simp; done) | (simp [s2]; done), by first | (simp; done) | (simp [s3]; done), by first | (simp; done) | (simp [sm]; done)⟩ ?_
  clear s0 s2 s3 sm
  rintro st ⟨s0, s2, s3, sm⟩
  (repeat refine qA ?_);refine rA ?_
  simp [s0]
  refine wA ?_
  simp [sm]
  refine hS gr T a1 d b1 _ h.ps hT (fun _ => hd rfl) _ fun m7 F2 r2 e2 a2 d2 b2 hPn hOn hTn run2 hdd2 => ?_
  obtain ⟨c20, c21, c22, c23, rfl, o20, o21, o22, o23⟩ := hTn.cs
  have h := h.tree hgr hOn hPn hTn
  clear hPn hOn hTn
  simp [o20, o21, o22, o23]
  intro g4 hg2
  have h := h.box hgr hg2 [c20, c21, c22, c23]
  refine AWp.gen (fun st => st.slots 0 = .ptr gr 0 /\ st.slots 2 = .ptr g2 0 /\ st.slots 3 = .ptr g3 0 /\ st.slots 4 = .ptr g4 0 /\ st.mem = m7.set g4 (.box [c20, c21, c22, c23])) ⟨by first | (simp; done) | (simp [s0]; done), by first | (simp; done) | (simp [s2]; done), by first | (simp; done) | (simp [s3]; done), by simp, by first | (simp; done) | (simp [sm]; done)⟩ ?_
  clear s0 s2 s3 sm
  rintro st ⟨s0, s2, s3, s4, sm⟩
  generalize m7.set g4 (.box [c20, c21, c22, c23]) = n2 at *
  clear hg2
  (repeat refine qA ?_);refine rA ?_
  simp [s0]
  refine wA ?_
  simp [sm]
  refine c_takeR h.ps hT 44 fun m8 a3 b3 hPn hOn run3 => ?_
  have h := h.call hgr hOn hPn
  clear hPn hOn
  try simp
  refine AWp.gen (fun st => st.slots 0 = .ptr gr 0 /\ st.slots 2 = .ptr g2 0 /\ st.slots 3 = .ptr g3 0 /\ st.slots 4 = .ptr g4 0 /\ st.mem = m8) ⟨by first | (simp; done) | (simp [s0]; done), by first | (simp; done) | (simp [s2]; done), by first | (simp; done) | (simp [s3]; done), by first | (simp; done) | (simp [s4]; done), by first | (simp; done) | (simp [sm]; done)⟩ ?_
  clear s0 s2 s3 s4 sm
  rintro st ⟨s0, s2, s3, s4, sm⟩
  have hb32 : b3 = false -> b2 = false := fun e => by
   cases b2 with
   | false => rfl
   | true => rw [run3.ill (.inl rfl)] at e; cases e
  (repeat refine qA ?_);refine rA ?_
  simp [s0]
  refine wA ?_
  simp [sm]
  refine hS gr T a3 d2 b3 _ h.ps hT (fun e => (hdd2 (hb32 e)).trans (hd rfl)) _ fun m9 F4 r4 e4 a4 d4 b4 hPn hOn hTn run4 hdd4 => ?_
  obtain ⟨c40, c41, c42, c43, rfl, o40, o41, o42, o43⟩ := hTn.cs
  have h := h.tree hgr hOn hPn hTn
  clear hPn hOn hTn
  simp [o40, o41, o42, o43]
  intro g5 hg4
  have h := h.box hgr hg4 [c40, c41, c42, c43]
  refine AWp.gen (fun st => st.slots 0 = .ptr gr 0 /\ st.slots 2 = .ptr g2 0 /\ st.slots 3 = .ptr g3 0 /\ st.slots 4 = .ptr g4 0 /\ st.slots 5 = .ptr g5 0 /\ st.mem = m9.set g5 (.box [c40, c41, c42, c43])) ⟨by first | (simp; done) | (simp [s0]; done), by first | (simp; done) | (simp [s2]; done), by first | (simp; done) | (simp [s3]; done), by first | (simp; done) | (simp [s4]; done), by simp, by first | (simp; done) | (simp [sm]; done)⟩ ?_
  clear s0 s2 s3 s4 sm
  rintro st ⟨s0, s2, s3, s4, s5, sm⟩
  generalize m9.set g5 (.box [c40, c41, c42, c43]) = n4 at *
  clear hg4
  (repeat refine qA ?_);refine rA ?_
  simp [s0]
  refine wA ?_
  simp [sm]
  refine c_takeR h.ps hT 41 fun m10 a5 b5 hPn hOn run5 => ?_
  have h := h.call hgr hOn hPn
  clear hPn hOn
  try simp
  refine AWp.gen (fun st => st.slots 0 = .ptr gr 0 /\ st.slots 2 = .ptr g2 0 /\ st.slots 3 = .ptr g3 0 /\ st.slots 4 = .ptr g4 0 /\ st.slots 5 = .ptr g5 0 /\ st.mem = m10) ⟨by first | (simp; done) | (simp [s0]; done), by first | (simp; done) | (simp [s2]; done), by first | (simp; done) | (simp [s3]; done), by first | (simp; done) | (simp [s4]; done), by first | (simp; done) | (simp [s5]; done), by first | (simp; done) | (simp [sm]; done)⟩ ?_
  clear s0 s2 s3 s4 s5 sm
  rintro st ⟨s0, s2, s3, s4, s5, sm⟩
  have w4 := h.box1 (g := g4) (cs := [c20, c21, c22, c23]) (by simp)
  have w5 := h.box1 (g := g5) (cs := [c40, c41, c42, c43]) (by simp)
  have w3 := h.box1 (g := g3) (cs := [.int .i64 7, .int .i64 0, .str ByteArray.empty, .lst true 0 []]) (by simp)
  (repeat refine qA ?_);refine AWp.regionN noP (fun i => i == 2) [0, 1, 2, 3, 4] (by kernel_rfl) ?_
  simp [s4, s5, sm, w4, w5, literalA]
  intro gL hgL
  obtain ⟨F, h⟩ := h.lit2 hgr hgL 26 7
  have w3 := h.box1 (g := g3) (cs := [.int .i64 7, .int .i64 0, .str ByteArray.empty, .lst true 0 []]) (by simp)
  simp [s3, w3]
  have h := PH.put (l1 := [(g5, [c40, c41, c42, c43]), (g4, [c20, c21, c22, c23])]) (cs' := [.int .i64 7, .int .i64 0, .str ByteArray.empty, .own gL 2 2]) h
  generalize (m10.set gL (.arr 26 4 2 [.agg [c20, c21, c22, c23], .agg [c40, c41, c42, c43]])).set g3 (.box [.int .i64 7, .int .i64 0, .str ByteArray.empty, .own gL 2 2]) = m11 at *
  have h := h.less (bs' := [(g3, [.int .i64 7, .int .i64 0, .str ByteArray.empty, .own gL 2 2]), (g2, [.int .i64 0, .int .i64 0, .str ByteArray.empty, .lst true 0 []])]) (List.sublist_append_right [(g5, [c40, c41, c42, c43]), (g4, [c20, c21, c22, c23])] _) (List.Sublist.refl _)
  have w3 := h.box1 (g := g3) (cs := [.int .i64 7, .int .i64 0, .str ByteArray.empty, .own gL 2 2]) (by simp)
  have w2 := h.box1 (g := g2) (cs := [.int .i64 0, .int .i64 0, .str ByteArray.empty, .lst true 0 []]) (by simp)
  have h := h.less (bs' := [(g2, [.int .i64 0, .int .i64 0, .str ByteArray.empty, .lst true 0 []])]) (List.sublist_cons_self _ _) (List.Sublist.refl _)
  (repeat refine qA ?_);refine rA ?_
  simp [s2, s3, w2, w3]
  have q := PH.put (l1 := []) (cs' := [.int .i64 7, .int .i64 0, .str ⟨#[]⟩, .own gL 2 2]) h
  refine AWp.ret ⟨[.agg [.int .i64 7, .int .i64 0, .str ⟨#[]⟩, .own gL 2 2]], .agg [.int .i64 7, .int .i64 0, .str ⟨#[]⟩, .own gL 2 2], _, by simp [Tryz.f148, resA, s2, eE], by (try simp [eE]); exact View.refl _ _, hK _ _ _ _ _ _ _ q.ps q.off (q.tr _ (List.mem_cons_self ..)).1 (Run1.cons hlt (pair_run 7 run1 run2 run3 run4 run5) (fun l => atom_7 (by assumption))) (fun e => by
    have e4 : b4 = false := by cases b4 with | false => rfl | true => rw [run5.ill (.inl rfl)] at e; cases e
    have e3 : b3 = false := by cases b3 with | false => rfl | true => rw [run4.ill (.inl rfl)] at e4; cases e4
    exact (hdd4 e4).trans (hdd2 (hb32 e3)))⟩
 simp [hmin, s0]
 refine wA ?_
 try simp
 refine c_is h.ps maxB ?_
 try simp
 by_cases hmax : isT (hdT T a bad) maxB = true
 ·obtain ⟨rfl, hlt, hmx⟩ := isT_word hT (by decide) hmax
  simp [hmax]
  (repeat refine qA ?_);refine tA ?_
  (repeat refine qA ?_);refine rA ?_
  simp
  intro g3 hg3
  have h := h.box hgr hg3 [.int .i64 7, .int .i64 0, .str ByteArray.empty, .lst true 0 []]
  refine AWp.gen (fun st => st.slots 0 = .ptr gr 0 /\ st.slots 2 = .ptr g2 0 /\ st.slots 3 = .ptr g3 0 /\ st.mem = m1.set g3 (.box [.int .i64 7, .int .i64 0, .str ByteArray.empty, .lst true 0 []])) ⟨by simp [s0], by simp [s2], by simp, by simp⟩ ?_
  generalize m1.set g3 (.box [.int .i64 7, .int .i64 0, .str ByteArray.empty, .lst true 0 []]) = m3 at *
  clear s0 s2 sm
  rintro st ⟨s0, s2, s3, sm⟩
  (repeat refine qA ?_);refine rA ?_
  simp [s0]
  refine wA ?_
  simp [sm]
  refine c_is h.ps maxB ?_
  simp [hmax]
  (repeat refine qA ?_);refine tA ?_
  have w3 := h.box1 (g := g3) (cs := [.int .i64 7, .int .i64 0, .str ByteArray.empty, .lst true 0 []]) (by simp)
  (repeat refine qA ?_);refine rA ?_
  simp [s3, w3]
  have h := PH.put (l1 := []) (cs' := [.int .i64 8, .int .i64 0, .str ByteArray.empty, .lst true 0 []]) h
  refine AWp.gen (fun st => st.slots 0 = .ptr gr 0 /\ st.slots 2 = .ptr g2 0 /\ st.slots 3 = .ptr g3 0 /\ st.mem = m3.set g3 (.box [.int .i64 8, .int .i64 0, .str ByteArray.empty, .lst true 0 []])) ⟨by simp [s0], by simp [s2], by simp [s3], by simp⟩ ?_
  simp only [List.nil_append] at h
  generalize m3.set g3 (.box [.int .i64 8, .int .i64 0, .str ByteArray.empty, .lst true 0 []]) = m4 at *
  clear s0 s2 s3 sm hg3
  rintro st ⟨s0, s2, s3, sm⟩
  have hbx := h.ps.box
  have hle := h.ps.le
  have hsm := h.ps.small
  unfold pc at hbx
  have hw : IntKind.wrap .i64 ((a : Int) + 1) = (a : Int) + 1 := wrap64 (by omega) (by omega)
  (repeat refine qA ?_);refine rA ?_
  simp [s0, sm, hbx, hw]
  have h := h.call hgr (Off.box _ _) (h.ps.step (a + 1) d false (by omega))
  refine AWp.gen (fun st => st.slots 0 = .ptr gr 0 /\ st.slots 2 = .ptr g2 0 /\ st.slots 3 = .ptr g3 0 /\ st.mem = m4.set gr (.box (pc T (a + 1) d false))) ⟨by first | (simp; done) | (simp [s0]; done), by first | (simp; done) | (simp [s2]; done), by first | (simp; done) | (simp [s3]; done), by first | (simp [pc]; done) | (simp [sm, pc]; done)⟩ ?_
  clear s0 s2 s3 sm
  rintro st ⟨s0, s2, s3, sm⟩
  generalize m4.set gr (.box (pc T (a + 1) d false)) = m5 at *
  clear hbx
  (repeat refine qA ?_);refine rA ?_
  simp [s0]
  refine wA ?_
  simp [sm]
  refine c_takeR h.ps hT 40 fun m6 a1 b1 hPn hOn run1 => ?_
  have h := h.call hgr hOn hPn
  clear hPn hOn
  try simp
  refine AWp.gen (fun st => st.slots 0 = .ptr gr 0 /\ st.slots 2 = .ptr g2 0 /\ st.slots 3 = .ptr g3 0 /\ st.mem = m6) ⟨by first | (simp; done) | (simp [s0]; done), by first | (simp; done) | (simp [s2]; done), by first | (simp; done) | (simp [s3]; done), by first | (simp; done) | (simp [sm]; done)⟩ ?_
  clear s0 s2 s3 sm
  rintro st ⟨s0, s2, s3, sm⟩
  (repeat refine qA ?_);refine rA ?_
  simp [s0]
  refine wA ?_
  simp [sm]
  refine hS gr T a1 d b1 _ h.ps hT (fun _ => hd rfl) _ fun m7 F2 r2 e2 a2 d2 b2 hPn hOn hTn run2 hdd2 => ?_
  obtain ⟨c20, c21, c22, c23, rfl, o20, o21, o22, o23⟩ := hTn.cs
  have h := h.tree hgr hOn hPn hTn
  clear hPn hOn hTn
  simp [o20, o21, o22, o23]
  intro g4 hg2
  have h := h.box hgr hg2 [c20, c21, c22, c23]
  refine AWp.gen (fun st => st.slots 0 = .ptr gr 0 /\ st.slots 2 = .ptr g2 0 /\ st.slots 3 = .ptr g3 0 /\ st.slots 4 = .ptr g4 0 /\ st.mem = m7.set g4 (.box [c20, c21, c22, c23])) ⟨by first | (simp; done) | (simp [s0]; done), by first | (simp; done) | (simp [s2]; done), by first | (simp; done) | (simp [s3]; done), by simp, by first | (simp; done) | (simp [sm]; done)⟩ ?_
  clear s0 s2 s3 sm
  rintro st ⟨s0, s2, s3, s4, sm⟩
  generalize m7.set g4 (.box [c20, c21, c22, c23]) = n2 at *
  clear hg2
  (repeat refine qA ?_);refine rA ?_
  simp [s0]
  refine wA ?_
  simp [sm]
  refine c_takeR h.ps hT 44 fun m8 a3 b3 hPn hOn run3 => ?_
  have h := h.call hgr hOn hPn
  clear hPn hOn
  try simp
  refine AWp.gen (fun st => st.slots 0 = .ptr gr 0 /\ st.slots 2 = .ptr g2 0 /\ st.slots 3 = .ptr g3 0 /\ st.slots 4 = .ptr g4 0 /\ st.mem = m8) ⟨by first | (simp; done) | (simp [s0]; done), by first | (simp; done) | (simp [s2]; done), by first | (simp; done) | (simp [s3]; done), by first | (simp; done) | (simp [s4]; done), by first | (simp; done) | (simp [sm]; done)⟩ ?_
  clear s0 s2 s3 s4 sm
  rintro st ⟨s0, s2, s3, s4, sm⟩
  have hb32 : b3 = false -> b2 = false := fun e => by
   cases b2 with
   | false => rfl
   | true => rw [run3.ill (.inl rfl)] at e; cases e
  (repeat refine qA ?_);refine rA ?_
  simp [s0]
  refine wA ?_
  simp [sm]
  refine hS gr T a3 d2 b3 _ h.ps hT (fun e => (hdd2 (hb32 e)).trans (hd rfl)) _ fun m9 F4 r4 e4 a4 d4 b4 hPn hOn hTn run4 hdd4 => ?_
  obtain ⟨c40, c41, c42, c43, rfl, o40, o41, o42, o43⟩ := hTn.cs
  have h := h.tree hgr hOn hPn hTn
  clear hPn hOn hTn
  simp [o40, o41, o42, o43]
  intro g5 hg4
  have h := h.box hgr hg4 [c40, c41, c42, c43]
  refine AWp.gen (fun st => st.slots 0 = .ptr gr 0 /\ st.slots 2 = .ptr g2 0 /\ st.slots 3 = .ptr g3 0 /\ st.slots 4 = .ptr g4 0 /\ st.slots 5 = .ptr g5 0 /\ st.mem = m9.set g5 (.box [c40, c41, c42, c43])) ⟨by first | (simp; done) | (simp [s0]; done), by first | (simp; done) | (simp [s2]; done), by first | (simp; done) | (simp [s3]; done), by first | (simp; done) | (simp [s4]; done), by simp, by first | (simp; done) | (simp [sm]; done)⟩ ?_
  clear s0 s2 s3 s4 sm
  rintro st ⟨s0, s2, s3, s4, s5, sm⟩
  generalize m9.set g5 (.box [c40, c41, c42, c43]) = n4 at *
  clear hg4
  (repeat refine qA ?_);refine rA ?_
  simp [s0]
  refine wA ?_
  simp [sm]
  refine c_takeR h.ps hT 41 fun m10 a5 b5 hPn hOn run5 => ?_
  have h := h.call hgr hOn hPn
  clear hPn hOn
  try simp
  refine AWp.gen (fun st => st.slots 0 = .ptr gr 0 /\ st.slots 2 = .ptr g2 0 /\ st.slots 3 = .ptr g3 0 /\ st.slots 4 = .ptr g4 0 /\ st.slots 5 = .ptr g5 0 /\ st.mem = m10) ⟨by first | (simp; done) | (simp [s0]; done), by first | (simp; done) | (simp [s2]; done), by first | (simp; done) | (simp [s3]; done), by first | (simp; done) | (simp [s4]; done), by first | (simp; done) | (simp [s5]; done), by first | (simp; done) | (simp [sm]; done)⟩ ?_
  clear s0 s2 s3 s4 s5 sm
  rintro st ⟨s0, s2, s3, s4, s5, sm⟩
  have w4 := h.box1 (g := g4) (cs := [c20, c21, c22, c23]) (by simp)
  have w5 := h.box1 (g := g5) (cs := [c40, c41, c42, c43]) (by simp)
  have w3 := h.box1 (g := g3) (cs := [.int .i64 8, .int .i64 0, .str ByteArray.empty, .lst true 0 []]) (by simp)
  (repeat refine qA ?_);refine AWp.regionN noP (fun i => i == 2) [0, 1, 2, 3, 4] (by kernel_rfl) ?_
  simp [s4, s5, sm, w4, w5, literalA]
  intro gL hgL
  obtain ⟨F, h⟩ := h.lit2 hgr hgL 26 8
  have w3 := h.box1 (g := g3) (cs := [.int .i64 8, .int .i64 0, .str ByteArray.empty, .lst true 0 []]) (by simp)
  simp [s3, w3]
  have h := PH.put (l1 := [(g5, [c40, c41, c42, c43]), (g4, [c20, c21, c22, c23])]) (cs' := [.int .i64 8, .int .i64 0, .str ByteArray.empty, .own gL 2 2]) h
  generalize (m10.set gL (.arr 26 4 2 [.agg [c20, c21, c22, c23], .agg [c40, c41, c42, c43]])).set g3 (.box [.int .i64 8, .int .i64 0, .str ByteArray.empty, .own gL 2 2]) = m11 at *
  have h := h.less (bs' := [(g3, [.int .i64 8, .int .i64 0, .str ByteArray.empty, .own gL 2 2]), (g2, [.int .i64 0, .int .i64 0, .str ByteArray.empty, .lst true 0 []])]) (List.sublist_append_right [(g5, [c40, c41, c42, c43]), (g4, [c20, c21, c22, c23])] _) (List.Sublist.refl _)
  have w3 := h.box1 (g := g3) (cs := [.int .i64 8, .int .i64 0, .str ByteArray.empty, .own gL 2 2]) (by simp)
  have w2 := h.box1 (g := g2) (cs := [.int .i64 0, .int .i64 0, .str ByteArray.empty, .lst true 0 []]) (by simp)
  have h := h.less (bs' := [(g2, [.int .i64 0, .int .i64 0, .str ByteArray.empty, .lst true 0 []])]) (List.sublist_cons_self _ _) (List.Sublist.refl _)
  (repeat refine qA ?_);refine rA ?_
  simp [s2, s3, w2, w3]
  have q := PH.put (l1 := []) (cs' := [.int .i64 8, .int .i64 0, .str ⟨#[]⟩, .own gL 2 2]) h
  refine AWp.ret ⟨[.agg [.int .i64 8, .int .i64 0, .str ⟨#[]⟩, .own gL 2 2]], .agg [.int .i64 8, .int .i64 0, .str ⟨#[]⟩, .own gL 2 2], _, by simp [Tryz.f148, resA, s2, eE], by (try simp [eE]); exact View.refl _ _, hK _ _ _ _ _ _ _ q.ps q.off (q.tr _ (List.mem_cons_self ..)).1 (Run1.cons hlt (pair_run 8 run1 run2 run3 run4 run5) (fun l => atom_8 (by assumption))) (fun e => by
    have e4 : b4 = false := by cases b4 with | false => rfl | true => rw [run5.ill (.inl rfl)] at e; cases e
    have e3 : b3 = false := by cases b3 with | false => rfl | true => rw [run4.ill (.inl rfl)] at e4; cases e4
    exact (hdd4 e4).trans (hdd2 (hb32 e3)))⟩
 have hmin : isT (hdT T a bad) minB = false := by simpa using hmin
 have hmax : isT (hdT T a bad) maxB = false := by simpa using hmax
 simp [hmax]
 (repeat refine qA ?_);refine fA ?_
 (repeat refine qA ?_);refine rA ?_
 simp [s0]
 refine wA ?_
 try simp
 refine c_skip h.ps (ch 40) fun m2 hPn hOn => ?_
 have h := h.call hgr hOn hPn
 clear hPn hOn
 try simp
 cases hpa : isT (hdT T a bad) (ch 40) with
 | true =>
  obtain ⟨rfl, hlt, hmk⟩ := is_mark_at hT hpa
  rw [hpa] at h
  simp only [if_true] at h
  (repeat refine qA ?_);refine tA ?_
  refine AWp.gen (fun st => st.slots 0 = .ptr gr 0 /\ st.slots 2 = .ptr g2 0 /\ st.mem = m2) ⟨by simp [s0], by simp [s2], by simp⟩ ?_
  clear s0 s2 sm
  rintro st ⟨s0, s2, sm⟩
  (repeat refine qA ?_);refine rA ?_
  simp [s0]
  refine wA ?_
  simp [sm]
  refine hS gr T (a + 1) d false _ h.ps hT (fun _ => hd rfl) _ fun m7 F1 r1 e1 a1 d1 b1 hPn hOn hTn run1 hdd1 => ?_
  obtain ⟨c10, c11, c12, c13, rfl, o10, o11, o12, o13⟩ := hTn.cs
  have h := h.tree hgr hOn hPn hTn
  clear hPn hOn hTn
  simp [o10, o11, o12, o13]
  intro g6 hg1
  have h := h.box hgr hg1 [c10, c11, c12, c13]
  refine AWp.gen (fun st => st.slots 0 = .ptr gr 0 /\ st.slots 2 = .ptr g2 0 /\ st.slots 6 = .ptr g6 0 /\ st.mem = m7.set g6 (.box [c10, c11, c12, c13])) ⟨by first | (simp; done) | (simp [s0]; done), by first | (simp; done) | (simp [s2]; done), by simp, by first | (simp; done) | (simp [sm]; done)⟩ ?_
  clear s0 s2 sm
  rintro st ⟨s0, s2, s6, sm⟩
  generalize m7.set g6 (.box [c10, c11, c12, c13]) = n1 at *
  clear hg1
  (repeat refine qA ?_);refine rA ?_
  simp [s0]
  refine wA ?_
  simp [sm]
  refine c_takeR h.ps hT 41 fun m8 a2 b2 hPn hOn run2 => ?_
  have h := h.call hgr hOn hPn
  clear hPn hOn
  try simp
  refine AWp.gen (fun st => st.slots 0 = .ptr gr 0 /\ st.slots 2 = .ptr g2 0 /\ st.slots 6 = .ptr g6 0 /\ st.mem = m8) ⟨by first | (simp; done) | (simp [s0]; done), by first | (simp; done) | (simp [s2]; done), by first | (simp; done) | (simp [s6]; done), by first | (simp; done) | (simp [sm]; done)⟩ ?_
  clear s0 s2 s6 sm
  rintro st ⟨s0, s2, s6, sm⟩
  have w6 := h.box1 (g := g6) (cs := [c10, c11, c12, c13]) (by simp)
  have w2 := h.box1 (g := g2) (cs := [.int .i64 0, .int .i64 0, .str ByteArray.empty, .lst true 0 []]) (by simp)
  have h := h.less (bs' := [(g2, [.int .i64 0, .int .i64 0, .str ByteArray.empty, .lst true 0 []])]) (List.sublist_cons_self _ _) (List.Sublist.refl _)
  (repeat refine qA ?_);refine rA ?_
  simp [s2, s6, sm, w2, w6, o10, o11, o12, o13]
  have q := PH.put (l1 := []) (cs' := [c10, c11, c12, c13]) h
  refine AWp.ret ⟨[.agg [c10, c11, c12, c13]], .agg [c10, c11, c12, c13], _, by simp [Tryz.f148, resA, s2, eE], by (try simp [eE]); exact View.refl _ _, hK _ _ _ _ _ _ _ q.ps q.off (q.tr _ (List.mem_cons_self ..)).1 (Run1.cons hlt (paren_run run1 run2) (fun l => atom_par hmk)) (fun e => hdd1 (by cases b1 with | false => rfl | true => rw [run2.ill (.inl rfl)] at e; cases e))⟩
 | false =>
 rw [hpa] at h
 simp at h
 (repeat refine qA ?_);refine fA ?_
 refine kA ?_
 try simp
 refine AWp.gen (fun st => st.slots 0 = .ptr gr 0 /\ st.slots 2 = .ptr g2 0 /\ st.mem = m2) ⟨by simp [s0], by simp [s2], by simp⟩ ?_
 clear s0 s2 sm
 rintro st ⟨s0, s2, sm⟩
 (repeat refine qA ?_);refine rA ?_
 simp [s0]
 refine wA ?_
 simp [sm]
 refine c_kind h.ps 1 (by omega) fun m3 hPn hOn => ?_
 have h := h.call hgr hOn hPn
 clear hPn hOn
 generalize htt : (if (hdT T a bad).k = 1 then hdT T a bad else ⟨0, ⟨#[]⟩, 0⟩ : Tk) = tt at *
 simp [Tk.cells_eq]
 intro g7 hg7
 have h := h.box hgr hg7 [.int .i64 2, .int .i64 0, .str tt.s, .lst true 0 []]
 refine AWp.gen (fun st => st.slots 0 = .ptr gr 0 /\ st.slots 2 = .ptr g2 0 /\ st.slots 7 = .ptr g7 0 /\ st.mem = m3.set g7 (.box [.int .i64 2, .int .i64 0, .str tt.s, .lst true 0 []])) ⟨by simp [s0], by simp [s2], by simp, by simp⟩ ?_
 generalize m3.set g7 (.box [.int .i64 2, .int .i64 0, .str tt.s, .lst true 0 []]) = m4 at *
 clear s0 s2 sm hg7
 rintro st ⟨s0, s2, s7, sm⟩
 by_cases hk1 : (hdT T a bad).k = 1
 rotate_left
 ·simp only [hk1, if_false, decide_false, Bool.not_false] at h
  have hill : bad = true ∨ atomP (sumP k) (T.drop a) = none := by
   cases bad with
   | true => exact .inl rfl
   | false =>
    right
    by_cases hlt : a < T.length
    ·have h5 := (isT_word_no hT (by decide) hmin).resolve_left (by simp) hlt
     have h6 := (isT_word_no hT (by decide) hmax).resolve_left (by simp) hlt
     have h4 := (not_mark hT hpa).resolve_left (by simp) hlt
     have e := hdT_at hlt
     rw [e] at h2 hk1
     exact atom_none hlt rfl h2 hk1 h4 h5 h6
    rw [List.drop_eq_nil_of_le (by omega)]; rfl
  (repeat refine qA ?_);refine rA ?_
  simp [s0]
  refine wA ?_
  simp [sm]
  refine c_skip h.ps (ch 91) fun m5 hPn hOn => ?_
  have h := h.call hgr hOn hPn
  clear hPn hOn
  have hbd : isT (hdT T a true) (ch 91) = false := by rw [hdT_bad]; rfl
  rw [hbd] at h
  simp only [hbd, Bool.false_eq_true, if_false] at h
  simp [hbd]
  (repeat refine qA ?_);refine fA ?_
  refine kA ?_
  try simp
  have w7 := h.box1 (g := g7) (cs := [.int .i64 2, .int .i64 0, .str tt.s, .lst true 0 []]) (by simp)
  have w2 := h.box1 (g := g2) (cs := [.int .i64 0, .int .i64 0, .str ByteArray.empty, .lst true 0 []]) (by simp)
  have h := (h.less (bs' := [(g2, [.int .i64 0, .int .i64 0, .str ByteArray.empty, .lst true 0 []])]) (List.sublist_cons_self _ _) (List.Sublist.refl _)).leaf 2 0 tt.s
  (repeat refine qA ?_);refine rA ?_
  simp [s2, s7, w2, w7]
  have q := PH.put (l1 := []) (cs' := [.int .i64 2, .int .i64 0, .str tt.s, .lst true 0 []]) h
  refine AWp.ret ⟨[.agg [.int .i64 2, .int .i64 0, .str tt.s, .lst true 0 []]], .agg [.int .i64 2, .int .i64 0, .str tt.s, .lst true 0 []], _, by simp [Tryz.f148, resA, s2, eE], by (try simp [eE]); exact View.refl _ _, hK _ _ _ _ _ _ _ q.ps q.off (q.tr _ (List.mem_cons_self ..)).1 (atom_ill hill) (fun e => by cases e)⟩
 obtain ⟨rfl, hlt, ht⟩ := hdT_k (T := T) (a := a) (bad := bad) (by omega)
 simp only [hk1, if_true, decide_true, Bool.not_true] at h
 rw [if_pos hk1] at htt
 have hts : tt = T[a] := by rw [<- htt, ht]
 rw [ht] at hk1
 (repeat refine qA ?_);refine rA ?_
 simp [s0]
 refine wA ?_
 simp [sm]
 refine c_skip h.ps (ch 91) fun m5 hPn hOn => ?_
 have h := h.call hgr hOn hPn
 clear hPn hOn
 try simp
 cases hbr : isT (hdT T (a + 1) false) (ch 91) with
 | false =>
  rw [hbr] at h
  simp only [Bool.false_eq_true, if_false] at h
  (repeat refine qA ?_);refine fA ?_
  refine kA ?_
  try simp
  have w7 := h.box1 (g := g7) (cs := [.int .i64 2, .int .i64 0, .str tt.s, .lst true 0 []]) (by simp)
  have w2 := h.box1 (g := g2) (cs := [.int .i64 0, .int .i64 0, .str ByteArray.empty, .lst true 0 []]) (by simp)
  have h := (h.less (bs' := [(g2, [.int .i64 0, .int .i64 0, .str ByteArray.empty, .lst true 0 []])]) (List.sublist_cons_self _ _) (List.Sublist.refl _)).leaf 2 0 tt.s
  (repeat refine qA ?_);refine rA ?_
  simp [s2, s7, w2, w7]
  have q := PH.put (l1 := []) (cs' := [.int .i64 2, .int .i64 0, .str tt.s, .lst true 0 []]) h
  refine AWp.ret ⟨[.agg [.int .i64 2, .int .i64 0, .str tt.s, .lst true 0 []]], .agg [.int .i64 2, .int .i64 0, .str tt.s, .lst true 0 []], _, by simp [Tryz.f148, resA, s2, eE], by (try simp [eE]); exact View.refl _ _, hK _ _ _ _ _ _ _ q.ps q.off (q.tr _ (List.mem_cons_self ..)).1 (Run1.cons hlt (name_run ((not_mark hT hbr).resolve_left (by simp))) (fun l => by rw [hts]; exact atom_name hk1)) (fun _ => rfl)⟩
 | true =>
  obtain ⟨_, hlt2, hmk⟩ := is_mark_at hT hbr
  rw [hbr] at h
  simp only [if_true] at h
  (repeat refine qA ?_);refine tA ?_
  refine AWp.gen (fun st => st.slots 0 = .ptr gr 0 /\ st.slots 2 = .ptr g2 0 /\ st.slots 7 = .ptr g7 0 /\ st.mem = m5) ⟨by simp [s0], by simp [s2], by simp [s7], by simp⟩ ?_
  clear s0 s2 s7 sm
  rintro st ⟨s0, s2, s7, sm⟩
  (repeat refine qA ?_);refine rA ?_
  simp [s0]
  refine wA ?_
  simp [sm]
  refine hS gr T (a + 1 + 1) d false _ h.ps hT (fun _ => hd rfl) _ fun m7 F1 r1 e1 a1 d1 b1 hPn hOn hTn run1 hdd1 => ?_
  obtain ⟨c10, c11, c12, c13, rfl, o10, o11, o12, o13⟩ := hTn.cs
  have h := h.tree hgr hOn hPn hTn
  clear hPn hOn hTn
  simp [o10, o11, o12, o13]
  intro g8 hg1
  have h := h.box hgr hg1 [c10, c11, c12, c13]
  refine AWp.gen (fun st => st.slots 0 = .ptr gr 0 /\ st.slots 2 = .ptr g2 0 /\ st.slots 7 = .ptr g7 0 /\ st.slots 8 = .ptr g8 0 /\ st.mem = m7.set g8 (.box [c10, c11, c12, c13])) ⟨by first | (simp; done) | (simp [s0]; done), by first | (simp; done) | (simp [s2]; done), by first | (simp; done) | (simp [s7]; done), by simp, by first | (simp; done) | (simp [sm]; done)⟩ ?_
  clear s0 s2 s7 sm
  rintro st ⟨s0, s2, s7, s8, sm⟩
  generalize m7.set g8 (.box [c10, c11, c12, c13]) = n1 at *
  clear hg1
  have w8 := h.box1 (g := g8) (cs := [c10, c11, c12, c13]) (by simp)
  have w7 := h.box1 (g := g7) (cs := [.int .i64 2, .int .i64 0, .str tt.s, .lst true 0 []]) (by simp)
  have w2 := h.box1 (g := g2) (cs := [.int .i64 0, .int .i64 0, .str ByteArray.empty, .lst true 0 []]) (by simp)
  have hn78 : g7 ≠ g8 := by
   have := List.pairwise_cons.1 h.bd
   exact Ne.symm (this.1 (g7, [.int .i64 2, .int .i64 0, .str tt.s, .lst true 0 []]) (by simp))
  refine AWp.sees (Sees.view (t := 8) (by rw [s8]; exact View.freezeB (g := g8) (cs := [c10, c11, c12, c13]) (by rw [sm]; exact w8))) ?_
  have hD : PH m gr T a1 d1 b1 [(g7, [.int .i64 2, .int .i64 0, .str tt.s, .lst true 0 []]), (g2, [.int .i64 0, .int .i64 0, .str ByteArray.empty, .lst true 0 []])] [(F1, .agg [c10, c11, c12, c13], e1)] (n1.del g8) := by
   have hkeep : ∀ x, x ≠ g8 -> (n1.del g8) x = n1 x := fun x hx => by unfold Mem.del; rw [if_neg hx]
   have h9 := h.bx (g8, [c10, c11, c12, c13]) (by simp)
   have hT1 := h.tr (F1, .agg [c10, c11, c12, c13], e1) (by simp)
   have hF8 := hT1.2 (g8, [c10, c11, c12, c13]) (by simp)
   have hbd := List.pairwise_cons.1 h.bd
   refine ⟨⟨by rw [hkeep _ (Ne.symm h9.2.1)]; exact h.ps.box, h.ps.le, h.ps.small⟩, fun x b hx hb => ?_, fun b hb => ⟨?_, (h.bx b (by simp at hb ⊢; exact .inr hb)).2⟩, hbd.2, fun t ht => ?_, h.td⟩
   ·rw [hkeep x (by rintro rfl; rw [h9.2.2] at hb; cases hb)]
    exact h.off x b hx hb
   ·rw [hkeep _ (Ne.symm (hbd.1 b hb))]
    exact (h.bx b (by simp at hb ⊢; exact .inr hb)).1
   have e : t = (F1, .agg [c10, c11, c12, c13], e1) := by simpa using ht
   subst e
   refine ⟨⟨hT1.1.own.mem fun x hx => hkeep x (by rintro rfl; exact hF8 hx), fun x hx => ⟨(hT1.1.new x hx).1, by rw [hkeep x (by rintro rfl; exact hF8 hx)]; exact (hT1.1.new x hx).2⟩⟩, fun b hb => hT1.2 b (by simp at hb ⊢; exact .inr hb)⟩
  refine AWp.gen (fun st => st.slots 0 = .ptr gr 0 /\ st.slots 2 = .ptr g2 0 /\ st.slots 7 = .ptr g7 0 /\ st.slots 8 = .ref [c10, c11, c12, c13] /\ st.mem = n1.del g8) ⟨by simp [s0], by simp [s2], by simp [s7], by simp, by simp [sm]⟩ ?_
  clear h w8 w7 w2 s0 s2 s7 s8 sm
  generalize n1.del g8 = n2 at *
  have h := hD
  clear hD
  rintro st ⟨s0, s2, s7, s8, sm⟩
  have w7 := h.box1 (g := g7) (cs := [.int .i64 2, .int .i64 0, .str tt.s, .lst true 0 []]) (by simp)
  (repeat refine qA ?_);refine AWp.regionG (fun _ => false) (fun i => i == 0 || i == 1) [0, 2, 3, 1, 4, 5] [2, 3, 0, 1, 4, 5] (by kernel_rfl) ?_
  simp [s7, s8, sm, w7, literalA, o10, o11, o12, o13]
  intro gL hgL
  have h := PH.put (l1 := []) (cs' := [.int .i64 3, .int .i64 0, .str tt.s, .lst true 0 []]) h
  simp only [List.nil_append] at h
  obtain ⟨F, h⟩ := h.lit1 hgr hgL 26 3 tt.s
  have w7 := h.box1 (g := g7) (cs := [.int .i64 3, .int .i64 0, .str tt.s, .lst true 0 []]) (by simp)
  simp [w7]
  have h := PH.put (l1 := []) (cs' := [.int .i64 3, .int .i64 0, .str tt.s, .own gL 1 1]) h
  simp only [List.nil_append] at h
  refine AWp.gen (fun st => st.slots 0 = .ptr gr 0 /\ st.slots 2 = .ptr g2 0 /\ st.slots 7 = .ptr g7 0 /\ st.mem = ((n2.set g7 (.box [.int .i64 3, .int .i64 0, .str tt.s, .lst true 0 []])).set gL (.arr 26 4 1 [.agg [c10, c11, c12, c13]])).set g7 (.box [.int .i64 3, .int .i64 0, .str tt.s, .own gL 1 1])) ⟨by simp [s0], by simp [s2], by simp [s7], by simp⟩ ?_
  generalize ((n2.set g7 (.box [.int .i64 3, .int .i64 0, .str tt.s, .lst true 0 []])).set gL (.arr 26 4 1 [.agg [c10, c11, c12, c13]])).set g7 (.box [.int .i64 3, .int .i64 0, .str tt.s, .own gL 1 1]) = n3 at *
  clear s0 s2 s7 s8 sm w7 hgL
  rintro st ⟨s0, s2, s7, sm⟩
  (repeat refine qA ?_);refine rA ?_
  simp [s0]
  refine wA ?_
  simp [sm]
  refine c_takeR h.ps hT 93 fun m9 a2 b2 hPn hOn run2 => ?_
  have h := h.call hgr hOn hPn
  clear hPn hOn
  try simp
  refine AWp.gen (fun st => st.slots 0 = .ptr gr 0 /\ st.slots 2 = .ptr g2 0 /\ st.slots 7 = .ptr g7 0 /\ st.mem = m9) ⟨by first | (simp; done) | (simp [s0]; done), by first | (simp; done) | (simp [s2]; done), by first | (simp; done) | (simp [s7]; done), by first | (simp; done) | (simp [sm]; done)⟩ ?_
  clear s0 s2 s7 sm
  rintro st ⟨s0, s2, s7, sm⟩
  have w7 := h.box1 (g := g7) (cs := [.int .i64 3, .int .i64 0, .str tt.s, .own gL 1 1]) (by simp)
  have w2 := h.box1 (g := g2) (cs := [.int .i64 0, .int .i64 0, .str ByteArray.empty, .lst true 0 []]) (by simp)
  have h := h.less (bs' := [(g2, [.int .i64 0, .int .i64 0, .str ByteArray.empty, .lst true 0 []])]) (List.sublist_cons_self _ _) (List.Sublist.refl _)
  (repeat refine qA ?_);refine rA ?_
  simp [s2, s7, sm, w2, w7]
  have q := PH.put (l1 := []) (cs' := [.int .i64 3, .int .i64 0, .str tt.s, .own gL 1 1]) h
  refine AWp.ret ⟨[.agg [.int .i64 3, .int .i64 0, .str tt.s, .own gL 1 1]], .agg [.int .i64 3, .int .i64 0, .str tt.s, .own gL 1 1], _, by simp [Tryz.f148, resA, s2, eE], by (try simp [eE]); exact View.refl _ _, hK _ _ _ _ _ _ _ q.ps q.off (q.tr _ (List.mem_cons_self ..)).1 (Run1.cons hlt (name_plc hlt2 hmk (plc_run tt.s run1 run2)) (fun l => by rw [hts]; exact atom_name hk1)) (fun e => hdd1 (by cases b1 with | false => rfl | true => rw [run2.ill (.inl rfl)] at e; cases e))⟩
theorem plus_minus {T : List Tk} {a : Nat} {bad : Bool} (h : isT (hdT T a bad) (ch 43) = true) : isT (hdT T a bad) (ch 45) = false := by
 unfold isT at h ⊢
 simp at h
 rw [h.2]
 have : ¬ ch 43 = ch 45 := by decide
 simp [this]
theorem c_sum0 (k : Nat) (hk30 : k <= 30) (hM : ∀ j, k = j + 1 -> ExpC Tryz.prog 97 j (mulP (sumP j))) : ExpC Tryz.prog 41 k (sumP k) := by
 intro gr T a d bad m hP hT hd K hK
 have hgr := hP.at
 have eE : ByteArray.empty = (⟨#[]⟩ : ByteArray) := rfl
 refine wcall_of Tryz.func41 (by kernel_rfl) rfl (by simp [Tryz.f41]) ?_
 (repeat refine qA ?_);refine rA ?_
 simp
 intro g2 hg2
 have h := (PH.start hP).box hgr hg2 [.int .i64 0, .int .i64 0, .str ByteArray.empty, .lst true 0 []]
 refine AWp.gen (fun st => st.slots 0 = .ptr gr 0 /\ st.slots 2 = .ptr g2 0 /\ st.mem = m.set g2 (.box [.int .i64 0, .int .i64 0, .str ByteArray.empty, .lst true 0 []])) ⟨by simp, by simp, by simp⟩ ?_
 generalize m.set g2 (.box [.int .i64 0, .int .i64 0, .str ByteArray.empty, .lst true 0 []]) = m1 at *
 rintro st ⟨s0, s2, sm⟩
 have hbx := h.ps.box
 unfold pc at hbx
 obtain ⟨d', hd'⟩ : ∃ d' : Int, d' = IntKind.wrap .i64 (d + 1) := ⟨_, rfl⟩
 (repeat refine qA ?_);refine rA ?_
 simp [s0, sm, hbx, <- hd']
 have h := h.call hgr (Off.box _ _) (h.ps.step a d' bad h.ps.le)
 refine AWp.gen (fun st => st.slots 0 = .ptr gr 0 /\ st.slots 2 = .ptr g2 0 /\ st.mem = m1.set gr (.box (pc T a d' bad))) ⟨by simp [s0], by simp [s2], by simp [pc]⟩ ?_
 generalize m1.set gr (.box (pc T a d' bad)) = m2 at *
 clear s0 s2 sm hbx
 rintro st ⟨s0, s2, sm⟩
 have hbx := h.ps.box
 unfold pc at hbx
 have hdk : bad = false -> d' = d + 1 /\ d = 30 - (k : Int) := fun e => by
  have := hd e
  exact ⟨by rw [hd']; exact wrap64 (by omega) (by omega), this⟩
 by_cases hbd : bad = true ∨ 30 < d'
 ·have hrun : Run1 (sumP k) T a bad (Ex.mk 0 0 ⟨#[]⟩ []) a true := by
   cases bad with
   | true => exact Run1.bad _ _ _ _ _
   | false =>
    have h30 := hbd.resolve_left (by simp)
    have := hdk rfl
    have hk0 : k = 0 := by omega
    subst hk0
    exact ⟨fun _ _ _ he => (by cases he), fun _ => rfl⟩
  have h := h.call hgr (Off.box _ _) (h.ps.step a d' true h.ps.le)
  (repeat refine qA ?_);refine AWp.cutA (fun st => st.slots 0 = .ptr gr 0 /\ st.slots 2 = .ptr g2 0 /\ st.mem = m2.set gr (.box (pc T a d' true))) ?_ ?_
  ·refine rA ?_
   cases bad with
   | true => simp [s0, s2, sm, hbx, pc]
   | false =>
    have h30 := hbd.resolve_left (by simp)
    simp [s0, s2, sm, hbx, h30, pc]
  generalize m2.set gr (.box (pc T a d' true)) = m3 at *
  clear s0 s2 sm hbx
  rintro st ⟨s0, s2, sm⟩
  have hbx := h.ps.box
  unfold pc at hbx
  have w2 := h.box1 (g := g2) (cs := [.int .i64 0, .int .i64 0, .str ByteArray.empty, .lst true 0 []]) (by simp)
  (repeat refine qA ?_);refine rA ?_
  simp [s0, sm, hbx]
  (repeat refine qA ?_);refine tA ?_
  have h := h.leaf 0 0 ⟨#[]⟩
  (repeat refine qA ?_);refine rA ?_
  simp [s2, sm, w2]
  have q := PH.put (l1 := []) (cs' := [.int .i64 0, .int .i64 0, .str ⟨#[]⟩, .lst true 0 []]) h
  refine AWp.ret ⟨[.agg [.int .i64 0, .int .i64 0, .str ⟨#[]⟩, .lst true 0 []]], .agg [.int .i64 0, .int .i64 0, .str ⟨#[]⟩, .lst true 0 []], _, by simp [Tryz.f41, resA, s2, eE], by (try simp [eE]); exact View.refl _ _, hK _ _ _ _ _ _ _ q.ps q.off (q.tr _ (List.mem_cons_self ..)).1 (hrun) (fun e => by cases e)⟩
 have hbf : bad = false := by
  cases bad with
  | false => rfl
  | true => exact absurd (.inl rfl) hbd
 subst hbf
 have h30 : ¬ 30 < d' := fun h => hbd (.inr h)
 obtain ⟨hdd, hdk⟩ := hdk rfl
 obtain ⟨j, rfl⟩ : ∃ j, k = j + 1 := ⟨k - 1, by omega⟩
 have hM := hM j rfl
 have hf := sum_fit j
 have hdj : d' = 30 - (j : Int) := by omega
 have h := h.call hgr (Off.box _ _) (h.ps.step a d' false h.ps.le)
 (repeat refine qA ?_);refine rA ?_
 simp [s0, sm, hbx, h30]
 refine AWp.gen (fun st => st.slots 0 = .ptr gr 0 /\ st.slots 2 = .ptr g2 0 /\ st.mem = m2.set gr (.box (pc T a d' false))) ⟨by simp [s0], by simp [s2], by simp [pc]⟩ ?_
 generalize m2.set gr (.box (pc T a d' false)) = m3 at *
 clear s0 s2 sm hbx
 rintro st ⟨s0, s2, sm⟩
 have hbx := h.ps.box
 unfold pc at hbx
 (repeat refine qA ?_);refine rA ?_
 simp [s0, sm, hbx]
 (repeat refine qA ?_);refine fA ?_
 refine kA ?_
 try simp
 (repeat refine qA ?_);refine rA ?_
 simp [s0]
 refine wA ?_
 simp [sm]
 refine hM gr T a _ _ _ h.ps hT (fun _ => hdj) _ fun m4 F1 r1 e1 a1 d1 b1 hPn hOn hTn run1 hdd1 => ?_
 obtain ⟨c10, c11, c12, c13, rfl, o10, o11, o12, o13⟩ := hTn.cs
 have h := h.tree hgr hOn hPn hTn
 clear hPn hOn hTn
 simp [o10, o11, o12, o13]
 intro g3 hg3
 have h := h.box hgr hg3 [c10, c11, c12, c13]
 refine AWp.gen (fun st => st.slots 0 = .ptr gr 0 /\ st.slots 2 = .ptr g2 0 /\ st.slots 3 = .ptr g3 0 /\ st.mem = m4.set g3 (.box [c10, c11, c12, c13])) ⟨by simp [s0], by simp [s2], by simp, by simp⟩ ?_
 generalize m4.set g3 (.box [c10, c11, c12, c13]) = m5 at *
 clear s0 s2 sm hg3 hbx
 rintro st ⟨s0, s2, s3, sm⟩
 obtain ⟨M, hMM⟩ : ∃ M : St -> Prop, M = (fun st => ∃ cs F e a1 d1 b1, st.slots 0 = .ptr gr 0 /\ st.slots 2 = .ptr g2 0 /\ st.slots 3 = .ptr g3 0 /\ PH m gr T a1 d1 b1 [(g3, cs), (g2, [.int .i64 0, .int .i64 0, .str ByteArray.empty, .lst true 0 []])] [(F, .agg cs, e)] st.mem /\ (b1 = false -> d1 = d') /\ Run1 (sumP (j + 1)) T a false e a1 b1) := ⟨_, rfl⟩
 (repeat refine qA ?_);refine AWp.cutA M ?_ ?_
 ·refine AWp.block (AWp.rounds (fun q st => ∃ cs F e a1 d1 b1, q = (if b1 = true then 0 else T.length - a1 + 1) /\ st.slots 0 = .ptr gr 0 /\ st.slots 2 = .ptr g2 0 /\ st.slots 3 = .ptr g3 0 /\ PH m gr T a1 d1 b1 [(g3, cs), (g2, [.int .i64 0, .int .i64 0, .str ByteArray.empty, .lst true 0 []])] [(F, .agg cs, e)] st.mem /\ (b1 = false -> d1 = d') /\ ∀ y a2 b2, Run1 (addsL (sumP j) e) T a1 b1 y a2 b2 -> Run1 (sumP (j + 1)) T a false y a2 b2) (if b1 = true then 0 else T.length - a1 + 1) ⟨[c10, c11, c12, c13], F1, e1, a1, d1, b1, rfl, s0, s2, s3, by rw [sm]; exact h, hdd1, fun y a2 b2 hr => sum_run run1 hr⟩ ?_)
  clear s0 s2 s3 sm h hdd1 run1
  rintro RR q st0 hRR ⟨cs, F, e, a1, d1, b1, rfl, s0, s2, s3, h, hd1, hinv⟩
  (repeat refine qA ?_);refine rA ?_
  simp [s0]
  refine wA ?_
  try simp
  refine c_is h.ps (ch 43) ?_
  try simp
  cases hpl : isT (hdT T a1 b1) (ch 43) with
  | true =>
   obtain ⟨rfl, hlt, hmk⟩ := is_mark_at hT hpl
   have hmi := plus_minus hpl
   have hd1 := hd1 rfl
   try simp
   (repeat refine qA ?_);refine tA ?_
   refine kA ?_
   try simp
   (repeat refine qA ?_);refine bA ?_
   (repeat refine qA ?_);refine rA ?_
   simp
   (repeat refine qA ?_);refine rA ?_
   simp [s0]
   refine wA ?_
   try simp
   refine c_is h.ps (ch 45) ?_
   simp [hmi]
   (repeat refine qA ?_);refine fA ?_
   refine kA ?_
   try simp
   refine AWp.gen (fun st => st.slots 0 = .ptr gr 0 /\ st.slots 2 = .ptr g2 0 /\ st.slots 3 = .ptr g3 0 /\ st.slots 4 = .int .i64 4 /\ st.mem = st0.mem) ⟨by simp [s0], by simp [s2], by simp [s3], by simp, by simp⟩ ?_
   clear s0 s2 s3
   rintro st ⟨s0, s2, s3, s4, sm⟩
   generalize st0.mem = n0 at *
   have hbx := h.ps.box
   have hle := h.ps.le
   have hsm := h.ps.small
   unfold pc at hbx
   have hw : IntKind.wrap .i64 ((a1 : Int) + 1) = (a1 : Int) + 1 := wrap64 (by omega) (by omega)
   (repeat refine qA ?_);refine rA ?_
   simp [s0, sm, hbx, hw]
   have h := h.call hgr (Off.box _ _) (h.ps.step (a1 + 1) d1 false (by omega))
   refine AWp.gen (fun st => st.slots 0 = .ptr gr 0 /\ st.slots 2 = .ptr g2 0 /\ st.slots 3 = .ptr g3 0 /\ st.slots 4 = .int .i64 4 /\ st.mem = n0.set gr (.box (pc T (a1 + 1) d1 false))) ⟨by simp [s0], by simp [s2], by simp [s3], by simp [s4], by simp [pc]⟩ ?_
   generalize n0.set gr (.box (pc T (a1 + 1) d1 false)) = n1 at *
   clear s0 s2 s3 s4 sm hbx
   rintro st ⟨s0, s2, s3, s4, sm⟩
   (repeat refine qA ?_);refine rA ?_
   simp [s0]
   refine wA ?_
   simp [sm]
   refine hM gr T (a1 + 1) _ _ _ h.ps hT (fun _ => by rw [hd1]; exact hdj) _ fun n2 F2 r2 e2 a2 d2 b2 hPn hOn hTn run2 hdd2 => ?_
   obtain ⟨c20, c21, c22, c23, rfl, o20, o21, o22, o23⟩ := hTn.cs
   have h := h.tree hgr hOn hPn hTn
   clear hPn hOn hTn
   simp [o20, o21, o22, o23]
   intro g5 hg5
   have h := h.box hgr hg5 [c20, c21, c22, c23]
   refine AWp.gen (fun st => st.slots 0 = .ptr gr 0 /\ st.slots 2 = .ptr g2 0 /\ st.slots 3 = .ptr g3 0 /\ st.slots 4 = .int .i64 4 /\ st.slots 5 = .ptr g5 0 /\ st.mem = n2.set g5 (.box [c20, c21, c22, c23])) ⟨by simp [s0], by simp [s2], by simp [s3], by simp [s4], by simp, by simp⟩ ?_
   generalize n2.set g5 (.box [c20, c21, c22, c23]) = n3 at *
   clear s0 s2 s3 s4 sm hg5
   rintro st ⟨s0, s2, s3, s4, s5, sm⟩
   obtain ⟨y0, y1, y2, y3, hcs, q0, q1, q2, q3⟩ := (h.tr (F, .agg cs, e) (by simp)).1.cs
   cases hcs
   have w5 := h.box1 (g := g5) (cs := [c20, c21, c22, c23]) (by simp)
   have w3 := h.box1 (g := g3) (cs := [y0, y1, y2, y3]) (by simp)
   (repeat refine qA ?_);refine AWp.regionN noP (fun i => i == 3) [0, 1, 2, 3, 4, 5] (by kernel_rfl) ?_
   simp [s3, s4, s5, sm, w3, w5, literalA]
   intro gL hgL
   obtain ⟨F', h⟩ := h.lit2 hgr hgL 26 4
   have w3 := h.box1 (g := g3) (cs := [y0, y1, y2, y3]) (by simp)
   simp [w3]
   have h := (PH.put (l1 := [(g5, [c20, c21, c22, c23])]) (cs' := [.int .i64 4, .int .i64 0, .str ⟨#[]⟩, .own gL 2 2]) h).less (bs' := [(g3, [.int .i64 4, .int .i64 0, .str ⟨#[]⟩, .own gL 2 2]), (g2, [.int .i64 0, .int .i64 0, .str ByteArray.empty, .lst true 0 []])]) (List.sublist_cons_self _ _) (List.Sublist.refl _)
   refine hRR _ (if b2 = true then 0 else T.length - a2 + 1) ?_ ⟨[.int .i64 4, .int .i64 0, .str ⟨#[]⟩, .own gL 2 2], F', two 4 e e2, a2, d2, b2, rfl, by simp [s0], by simp [s2], by simp [s3], by simpa [eE] using h, fun e => (hdd2 e).trans hd1, fun y a3 b3 hr => hinv y a3 b3 (adds_step hf hlt (.inl ⟨hmk, rfl⟩) run2 hr)⟩
   cases b2 with
   | true => simp
   | false =>
    have := run2.lt (mul_fit hf) h.ps.le
    simp
    omega
  | false =>
   have hnp := not_mark hT hpl
   try simp
   simp [s0]
   refine wA ?_
   try simp
   refine c_is h.ps (ch 45) ?_
   try simp
   cases hmi : isT (hdT T a1 b1) (ch 45) with
   | false =>
    have hnm := not_mark hT hmi
    try simp
    (repeat refine qA ?_);refine fA ?_
    refine eA ?_
    subst hMM
    refine ⟨cs, F, e, a1, d1, b1, by simp [s0], by simp [s2], by simp [s3], by simpa using h, hd1, hinv _ _ _ (adds_exit hf e ?_)⟩
    rcases hnp with e1 | e1
    ·exact .inl e1
    rcases hnm with e2 | e2
    ·exact .inl e2
    exact .inr ⟨e1, e2⟩
   | true =>
    obtain ⟨rfl, hlt, hmk⟩ := is_mark_at hT hmi
    have hm4 := (hnp.resolve_left (by simp)) hlt
    have hd1 := hd1 rfl
    try simp
    (repeat refine qA ?_);refine tA ?_
    refine kA ?_
    try simp
    (repeat refine qA ?_);refine bA ?_
    (repeat refine qA ?_);refine rA ?_
    simp
    (repeat refine qA ?_);refine rA ?_
    simp [s0]
    refine wA ?_
    try simp
    refine c_is h.ps (ch 45) ?_
    simp [hmi]
    (repeat refine qA ?_);refine tA ?_
    (repeat refine qA ?_);refine rA ?_
    simp
    refine AWp.gen (fun st => st.slots 0 = .ptr gr 0 /\ st.slots 2 = .ptr g2 0 /\ st.slots 3 = .ptr g3 0 /\ st.slots 4 = .int .i64 5 /\ st.mem = st0.mem) ⟨by simp [s0], by simp [s2], by simp [s3], by simp, by simp⟩ ?_
    clear s0 s2 s3
    rintro st ⟨s0, s2, s3, s4, sm⟩
    generalize st0.mem = n0 at *
    have hbx := h.ps.box
    have hle := h.ps.le
    have hsm := h.ps.small
    unfold pc at hbx
    have hw : IntKind.wrap .i64 ((a1 : Int) + 1) = (a1 : Int) + 1 := wrap64 (by omega) (by omega)
    (repeat refine qA ?_);refine rA ?_
    simp [s0, sm, hbx, hw]
    have h := h.call hgr (Off.box _ _) (h.ps.step (a1 + 1) d1 false (by omega))
    refine AWp.gen (fun st => st.slots 0 = .ptr gr 0 /\ st.slots 2 = .ptr g2 0 /\ st.slots 3 = .ptr g3 0 /\ st.slots 4 = .int .i64 5 /\ st.mem = n0.set gr (.box (pc T (a1 + 1) d1 false))) ⟨by simp [s0], by simp [s2], by simp [s3], by simp [s4], by simp [pc]⟩ ?_
    generalize n0.set gr (.box (pc T (a1 + 1) d1 false)) = n1 at *
    clear s0 s2 s3 s4 sm hbx
    rintro st ⟨s0, s2, s3, s4, sm⟩
    (repeat refine qA ?_);refine rA ?_
    simp [s0]
    refine wA ?_
    simp [sm]
    refine hM gr T (a1 + 1) _ _ _ h.ps hT (fun _ => by rw [hd1]; exact hdj) _ fun n2 F2 r2 e2 a2 d2 b2 hPn hOn hTn run2 hdd2 => ?_
    obtain ⟨c20, c21, c22, c23, rfl, o20, o21, o22, o23⟩ := hTn.cs
    have h := h.tree hgr hOn hPn hTn
    clear hPn hOn hTn
    simp [o20, o21, o22, o23]
    intro g5 hg5
    have h := h.box hgr hg5 [c20, c21, c22, c23]
    refine AWp.gen (fun st => st.slots 0 = .ptr gr 0 /\ st.slots 2 = .ptr g2 0 /\ st.slots 3 = .ptr g3 0 /\ st.slots 4 = .int .i64 5 /\ st.slots 5 = .ptr g5 0 /\ st.mem = n2.set g5 (.box [c20, c21, c22, c23])) ⟨by simp [s0], by simp [s2], by simp [s3], by simp [s4], by simp, by simp⟩ ?_
    generalize n2.set g5 (.box [c20, c21, c22, c23]) = n3 at *
    clear s0 s2 s3 s4 sm hg5
    rintro st ⟨s0, s2, s3, s4, s5, sm⟩
    obtain ⟨y0, y1, y2, y3, hcs, q0, q1, q2, q3⟩ := (h.tr (F, .agg cs, e) (by simp)).1.cs
    cases hcs
    have w5 := h.box1 (g := g5) (cs := [c20, c21, c22, c23]) (by simp)
    have w3 := h.box1 (g := g3) (cs := [y0, y1, y2, y3]) (by simp)
    (repeat refine qA ?_);refine AWp.regionN noP (fun i => i == 3) [0, 1, 2, 3, 4, 5] (by kernel_rfl) ?_
    simp [s3, s4, s5, sm, w3, w5, literalA]
    intro gL hgL
    obtain ⟨F', h⟩ := h.lit2 hgr hgL 26 5
    have w3 := h.box1 (g := g3) (cs := [y0, y1, y2, y3]) (by simp)
    simp [w3]
    have h := (PH.put (l1 := [(g5, [c20, c21, c22, c23])]) (cs' := [.int .i64 5, .int .i64 0, .str ⟨#[]⟩, .own gL 2 2]) h).less (bs' := [(g3, [.int .i64 5, .int .i64 0, .str ⟨#[]⟩, .own gL 2 2]), (g2, [.int .i64 0, .int .i64 0, .str ByteArray.empty, .lst true 0 []])]) (List.sublist_cons_self _ _) (List.Sublist.refl _)
    refine hRR _ (if b2 = true then 0 else T.length - a2 + 1) ?_ ⟨[.int .i64 5, .int .i64 0, .str ⟨#[]⟩, .own gL 2 2], F', two 5 e e2, a2, d2, b2, rfl, by simp [s0], by simp [s2], by simp [s3], by simpa [eE] using h, fun e => (hdd2 e).trans hd1, fun y a3 b3 hr => hinv y a3 b3 (adds_step hf hlt (.inr ⟨hm4, hmk, rfl⟩) run2 hr)⟩
    cases b2 with
    | true => simp
    | false =>
     have := run2.lt (mul_fit hf) h.ps.le
     simp
     omega
 intro st hst
 subst hMM
 obtain ⟨cs, F, e, a1, d1, b1, s0, s2, s3, h, hd1, hr⟩ := hst
 have hbx := h.ps.box
 unfold pc at hbx
 obtain ⟨d2, hd2⟩ : ∃ d2 : Int, d2 = IntKind.wrap .i64 (d1 - 1) := ⟨_, rfl⟩
 (repeat refine qA ?_);refine rA ?_
 simp [s0, hbx, <- hd2]
 have h := h.call hgr (Off.box _ _) (h.ps.step a1 d2 b1 h.ps.le)
 refine AWp.gen (fun st1 => st1.slots 2 = .ptr g2 0 /\ st1.slots 3 = .ptr g3 0 /\ st1.mem = st.mem.set gr (.box (pc T a1 d2 b1))) ⟨by simp [s2], by simp [s3], by simp [pc]⟩ ?_
 generalize st.mem.set gr (.box (pc T a1 d2 b1)) = m9 at *
 clear s0 s2 s3 hbx
 rintro st ⟨s2, s3, sm⟩
 obtain ⟨y0, y1, y2, y3, hcs, q0, q1, q2, q3⟩ := (h.tr (F, .agg cs, e) (by simp)).1.cs
 cases hcs
 have w3 := h.box1 (g := g3) (cs := [y0, y1, y2, y3]) (by simp)
 have w2 := h.box1 (g := g2) (cs := [.int .i64 0, .int .i64 0, .str ByteArray.empty, .lst true 0 []]) (by simp)
 have h := h.less (bs' := [(g2, [.int .i64 0, .int .i64 0, .str ByteArray.empty, .lst true 0 []])]) (List.sublist_cons_self _ _) (List.Sublist.refl _)
 (repeat refine qA ?_);refine rA ?_
 simp [s2, s3, sm, w2, w3, q0, q1, q2, q3]
 have q := PH.put (l1 := []) (cs' := [y0, y1, y2, y3]) h
 refine AWp.ret ⟨[.agg [y0, y1, y2, y3]], .agg [y0, y1, y2, y3], _, by simp [Tryz.f41, resA, s2, eE], by (try simp [eE]); exact View.refl _ _, hK _ _ _ _ _ _ _ q.ps q.off (q.tr _ (List.mem_cons_self ..)).1 (hr) (fun e => by rw [hd2, hd1 e, hdd, wrap64 (by omega) (by omega)]; omega)⟩
theorem c_sum : ∀ k : Nat, k <= 30 -> ExpC Tryz.prog 41 k (sumP k)
 | 0, h => c_sum0 0 h fun j e => by cases e
 | k + 1, h => c_sum0 (k + 1) h fun j e => by
  cases e
  exact c_product k (c_atom k (c_sum k (by omega)))
structure Tv (m0 m : Mem) (F : Nat -> Prop) (r x : AV) : Prop where
 own : OwnT m F r x
 new : ∀ g, F g -> m0 g = none /\ m g ≠ none
theorem Tv.off {gr : Nat} {m0 m m' : Mem} {F : Nat -> Prop} {r e : AV} (h : Tv m0 m F r e) (hgr : m0 gr ≠ none) (hO : Off gr m m') : Tv m0 m' F r e := by
 have k : ∀ b, F b -> m' b = m b := fun b hb => off_at hO (by rintro rfl; exact hgr (h.new _ hb).1) (h.new b hb).2
 exact ⟨h.own.mem k, fun g hg => ⟨(h.new g hg).1, by rw [k g hg]; exact (h.new g hg).2⟩⟩
theorem Tv.set {m0 m : Mem} {F : Nat -> Prop} {r e : AV} (h : Tv m0 m F r e) {g : Nat} (hg : ¬ F g) (b : Blk) : Tv m0 (m.set g b) F r e := by
 have k : ∀ x, F x -> (m.set g b) x = m x := fun x hx => Mem.set_other (by rintro rfl; exact hg hx)
 exact ⟨h.own.mem k, fun x hx => ⟨(h.new x hx).1, by rw [k x hx]; exact (h.new x hx).2⟩⟩
theorem Tv.base {gr : Nat} {m0 m1 m : Mem} {F : Nat -> Prop} {r e : AV} (h : Tv m1 m F r e) (hO : Off gr m0 m1) (hgr : m1 gr ≠ none) : Tv m0 m F r e :=
 ⟨h.own, fun g hg => ⟨off_none hO hgr (h.new g hg).1, (h.new g hg).2⟩⟩
theorem Tv.not {m0 m : Mem} {F : Nat -> Prop} {r e : AV} (h : Tv m0 m F r e) {g : Nat} (hg : m0 g ≠ none) : ¬ F g := fun hF => hg (h.new g hF).1
theorem Tv.fresh {m0 m : Mem} {F : Nat -> Prop} {r e : AV} (h : Tv m0 m F r e) {g : Nat} (hg : m g = none) : ¬ F g := fun hF => (h.new g hF).2 hg
structure QH (m1 : Mem) (gr : Nat) (T : List Tk) (a : Nat) (d : Int) (bad : Bool) (bs : List (Nat × List AV)) (ts : List ((Nat -> Prop) × AV × AV)) (m : Mem) : Prop where
 ps : PS gr T a d bad m
 off : Off gr m1 m
 bx : ∀ b ∈ bs, m b.1 = some (.box b.2) /\ b.1 ≠ gr /\ m1 b.1 = none
 bd : bs.Pairwise fun x y => x.1 ≠ y.1
 tr : ∀ t ∈ ts, Tv m1 m t.1 t.2.1 t.2.2 /\ ∀ b ∈ bs, ¬ t.1 b.1
 td : ts.Pairwise fun x y => ∀ g, x.1 g -> ¬ y.1 g
section
variable {m1 m m' : Mem} {gr : Nat} {T : List Tk} {a a' : Nat} {d d' : Int} {bad bad' : Bool} {bs : List (Nat × List AV)} {ts : List ((Nat -> Prop) × AV × AV)}
theorem QH.start (h : PS gr T a d bad m) : QH m gr T a d bad [] [] m := ⟨h, Off.refl _ _, by simp, .nil, by simp, .nil⟩
theorem QH.box1 (h : QH m1 gr T a d bad bs ts m) {g : Nat} {cs : List AV} (hb : (g, cs) ∈ bs) : m g = some (.box cs) := (h.bx _ hb).1
theorem QH.call (h : QH m1 gr T a d bad bs ts m) (h1 : m1 gr ≠ none) (hO : Off gr m m') (hP : PS gr T a' d' bad' m') : QH m1 gr T a' d' bad' bs ts m' :=
 ⟨hP, h.off.trans hO, fun b hb => ⟨hO _ _ (h.bx b hb).2.1 (h.bx b hb).1, (h.bx b hb).2⟩, h.bd, fun t ht => ⟨(h.tr t ht).1.off h1 hO, (h.tr t ht).2⟩, h.td⟩
theorem QH.treeV (h : QH m1 gr T a d bad bs ts m) (h1 : m1 gr ≠ none) (hO : Off gr m m') (hP : PS gr T a' d' bad' m') {F : Nat -> Prop} {r x : AV} (hT : Tv m m' F r x) : QH m1 gr T a' d' bad' bs ((F, r, x) :: ts) m' := by
 have k := h.call h1 hO hP
 refine ⟨k.ps, k.off, k.bx, k.bd, fun t ht => ?_, List.pairwise_cons.2 ⟨fun t ht g hg hq => ?_, k.td⟩⟩
 ·rcases List.mem_cons.1 ht with rfl | ht
  ·exact ⟨hT.base h.off h.ps.at, fun b hb => hT.not (by rw [(h.bx b hb).1]; simp)⟩
  exact k.tr t ht
 exact ((h.tr t ht).1.new g hq).2 (hT.new g hg).1
theorem QH.tree (h : QH m1 gr T a d bad bs ts m) (h1 : m1 gr ≠ none) (hO : Off gr m m') (hP : PS gr T a' d' bad' m') {F : Nat -> Prop} {r : AV} {e : Ex} (hT : Tr m m' F r e) : QH m1 gr T a' d' bad' bs ((F, r, e.av) :: ts) m' := h.treeV h1 hO hP ⟨hT.own, hT.new⟩
theorem QH.box (h : QH m1 gr T a d bad bs ts m) (h1 : m1 gr ≠ none) {g : Nat} (hg : m g = none) (cs : List AV) : QH m1 gr T a d bad ((g, cs) :: bs) ts (m.set g (.box cs)) := by
 have hne : g ≠ gr := by rintro rfl; exact h.ps.at hg
 have hE := ext_set hg (.box cs)
 have k := h.call h1 (Off.ext hE) (h.ps.off hne (.box cs))
 refine ⟨k.ps, k.off, fun b hb => ?_, List.pairwise_cons.2 ⟨fun b hb e => ?_, k.bd⟩, fun t ht => ⟨(k.tr t ht).1, fun b hb => ?_⟩, k.td⟩
 ·rcases List.mem_cons.1 hb with rfl | hb
  ·exact ⟨set_same _ _ _, hne, off_none h.off h.ps.at hg⟩
  exact k.bx b hb
 ·have := (h.bx b hb).1
  rw [<- e] at this
  simp only at this
  rw [hg] at this
  cases this
 rcases List.mem_cons.1 hb with rfl | hb
 ·exact (h.tr t ht).1.fresh hg
 exact (k.tr t ht).2 b hb
theorem QH.put {l1 l2 : List (Nat × List AV)} {g : Nat} {cs : List AV} (h : QH m1 gr T a d bad (l1 ++ (g, cs) :: l2) ts m) (cs' : List AV) : QH m1 gr T a d bad (l1 ++ (g, cs') :: l2) ts (m.set g (.box cs')) := by
 have hg := h.bx (g, cs) (by simp)
 have hd := List.pairwise_append.1 h.bd
 have hd2 := List.pairwise_cons.1 hd.2.1
 have ho : ∀ b, b ∈ l1 ∨ b ∈ l2 -> b.1 ≠ g := fun b hb => by
  rcases hb with hb | hb
  ·exact hd.2.2 b hb (g, cs) (by simp)
  exact Ne.symm (hd2.1 b hb)
 refine ⟨h.ps.off hg.2.1 _, fun k x hk hx => ?_, fun b hb => ?_, ?_, fun t ht => ?_, h.td⟩
 ·have hne : k ≠ g := by rintro rfl; rw [hg.2.2] at hx; cases hx
  rw [Mem.set_other hne]
  exact h.off k x hk hx
 ·rcases List.mem_append.1 hb with hb | hb
  ·have := h.bx b (by simp [hb])
   exact ⟨by rw [Mem.set_other (ho b (.inl hb))]; exact this.1, this.2⟩
  rcases List.mem_cons.1 hb with rfl | hb
  ·exact ⟨set_same _ _ _, hg.2⟩
  have := h.bx b (by simp [hb])
  exact ⟨by rw [Mem.set_other (ho b (.inr hb))]; exact this.1, this.2⟩
 ·exact List.pairwise_append.2 ⟨hd.1, List.pairwise_cons.2 ⟨fun b hb => hd2.1 b hb, hd2.2⟩, fun x hx y hy => by
   rcases List.mem_cons.1 hy with rfl | hy
   ·exact hd.2.2 x hx (g, cs) (by simp)
   exact hd.2.2 x hx y (by simp [hy])⟩
 have hT := h.tr t ht
 refine ⟨hT.1.set (hT.2 (g, cs) (by simp)) _, fun b hb => ?_⟩
 rcases List.mem_append.1 hb with hb | hb
 ·exact hT.2 b (by simp [hb])
 rcases List.mem_cons.1 hb with rfl | hb
 ·exact hT.2 (g, cs) (by simp)
 exact hT.2 b (by simp [hb])
theorem QH.less (h : QH m1 gr T a d bad bs ts m) {bs' : List (Nat × List AV)} {ts' : List ((Nat -> Prop) × AV × AV)} (hb : bs'.Sublist bs) (ht : ts'.Sublist ts) : QH m1 gr T a d bad bs' ts' m :=
 ⟨h.ps, h.off, fun b k => h.bx b (hb.subset k), h.bd.sublist hb, fun t k => ⟨(h.tr t (ht.subset k)).1, fun b q => (h.tr t (ht.subset k)).2 b (hb.subset q)⟩, h.td.sublist ht⟩
theorem QH.plain (h : QH m1 gr T a d bad bs ts m) {r x : AV} (hx : OwnT m (fun _ => False) r x) : QH m1 gr T a d bad bs ((fun _ => False, r, x) :: ts) m := by
 refine ⟨h.ps, h.off, h.bx, h.bd, fun t ht => ?_, List.pairwise_cons.2 ⟨fun t ht x hx => hx.elim, h.td⟩⟩
 rcases List.mem_cons.1 ht with rfl | ht
 ·exact ⟨⟨hx, fun _ h => h.elim⟩, fun _ _ h => h⟩
 exact h.tr t ht
theorem QH.as_ {F : Nat -> Prop} {r x r' x' : AV} (h : QH m1 gr T a d bad bs ((F, r, x) :: ts) m) (hx : OwnT m F r x -> OwnT m F r' x') : QH m1 gr T a d bad bs ((F, r', x') :: ts) m := by
 refine ⟨h.ps, h.off, h.bx, h.bd, fun t ht => ?_, List.pairwise_cons.2 ⟨fun t ht => (List.pairwise_cons.1 h.td).1 t ht, (List.pairwise_cons.1 h.td).2⟩⟩
 have h0 := h.tr (F, r, x) (by simp)
 rcases List.mem_cons.1 ht with rfl | ht
 ·exact ⟨⟨hx h0.1.own, h0.1.new⟩, h0.2⟩
 exact h.tr t (by simp [ht])
theorem QH.swap {s t : (Nat -> Prop) × AV × AV} (h : QH m1 gr T a d bad bs (s :: t :: ts) m) : QH m1 gr T a d bad bs (t :: s :: ts) m := by
 have d1 := List.pairwise_cons.1 h.td
 have d2 := List.pairwise_cons.1 d1.2
 refine ⟨h.ps, h.off, h.bx, h.bd, fun x hx => h.tr x ?_, List.pairwise_cons.2 ⟨fun x hx g hg hq => ?_, List.pairwise_cons.2 ⟨fun x hx => d1.1 x (by simp [hx]), d2.2⟩⟩⟩
 ·simp only [List.mem_cons] at hx ⊢
  rcases hx with h | h | h
  ·exact .inr (.inl h)
  ·exact .inl h
  exact .inr (.inr h)
 rcases List.mem_cons.1 hx with rfl | hx
 ·exact d1.1 t (by simp) g hq hg
 exact d2.1 x hx g hg hq
theorem QH.join {F G : Nat -> Prop} {r x s y r' x' : AV} (h : QH m1 gr T a d bad bs ((G, s, y) :: (F, r, x) :: ts) m) (hx : OwnT m F r x -> OwnT m G s y -> (∀ g, F g -> ¬ G g) -> OwnT m (fun g => F g ∨ G g) r' x') : QH m1 gr T a d bad bs (((fun g => F g ∨ G g), r', x') :: ts) m := by
 have d1 := List.pairwise_cons.1 h.td
 have d2 := List.pairwise_cons.1 d1.2
 have hG := h.tr (G, s, y) (by simp)
 have hF := h.tr (F, r, x) (by simp)
 refine ⟨h.ps, h.off, h.bx, h.bd, fun t ht => ?_, List.pairwise_cons.2 ⟨fun t ht g hg hq => ?_, d2.2⟩⟩
 ·rcases List.mem_cons.1 ht with rfl | ht
  ·refine ⟨⟨hx hF.1.own hG.1.own fun g h1 h2 => d1.1 (F, r, x) (by simp) g h2 h1, fun g hg => ?_⟩, fun b hb hg => ?_⟩
   ·exact hg.elim (hF.1.new g) (hG.1.new g)
   exact hg.elim (hF.2 b hb) (hG.2 b hb)
  exact h.tr t (by simp [ht])
 rcases hg with hg | hg
 ·exact d2.1 t ht g hg hq
 exact d1.1 t (by simp [ht]) g hg hq
theorem own_part {m : Mem} {F G : Nat -> Prop} {u o v o' x y z y' : List AV} (h : OwnT m F (.agg (u ++ (o ++ v))) (.agg (x ++ (y ++ z)))) (hu : u.length = x.length) (ho : o.length = y.length) (k : OwnT m G (.agg o') (.agg y')) (hd : ∀ g, F g -> ¬ G g) : OwnT m (fun g => F g ∨ G g) (.agg (u ++ (o' ++ v))) (.agg (x ++ (y' ++ z))) := by
 cases h with | agg h1 hok =>
 cases k with | agg h2 hok' =>
 obtain ⟨A, R, x1, r1, e1, l1, k1, k2, d1, s1, s2⟩ := OwnTs.split h1
 obtain ⟨rfl, rfl⟩ := List.append_inj e1 (by omega)
 obtain ⟨B, C, y1, z1, e2, l2, k3, k4, d2, s3, s4⟩ := OwnTs.split k2
 obtain ⟨rfl, rfl⟩ := List.append_inj e2 (by omega)
 refine .agg (OwnTs.append (A := A) (B := fun g => G g ∨ C g) k1 (OwnTs.append (A := G) (B := C) h2 k4 (fun g hg hc => hd g (s2 g (s4 g hc)) hg) (fun _ h => .inl h) (fun _ h => .inr h)) (fun g hg hq => hq.elim (hd g (s1 g hg)) (fun hc => d1 g hg (s4 g hc))) (fun g hg => .inl (s1 g hg)) (fun g hg => hg.elim .inr (fun hc => .inl (s2 g (s4 g hc))))) ?_
 simp only [List.all_append, Bool.and_eq_true] at hok ⊢
 exact ⟨hok.1, hok', hok.2.2⟩
def RowV (E : TypeId) (n : Nat) (F : Nat -> Prop) (v : AV) (len : Nat) (m : Mem) : Prop := (v = .lst true 0 [] /\ len = 0) ∨ ∃ g c ys, v = .own g len c /\ F g /\ m g = some (.arr E n c ys)
theorem RowV.keep {E : TypeId} {n len : Nat} {F : Nat -> Prop} {v : AV} (h : RowV E n F v len m) (hk : ∀ g, F g -> m' g = m g) : RowV E n F v len m' := by
 rcases h with h | ⟨g, c, ys, h1, h2, h3⟩
 ·exact .inl h
 exact .inr ⟨g, c, ys, h1, h2, by rw [hk g h2]; exact h3⟩
theorem RowV.ok {E : TypeId} {n len : Nat} {F : Nat -> Prop} {v : AV} (h : RowV E n F v len m) : v.cells = [v] /\ okCell v = true /\ v ≠ .undef := by
 rcases h with ⟨rfl, _⟩ | ⟨g, c, ys, rfl, h2, h3⟩ <;> exact ⟨rfl, rfl, by simp⟩
theorem QH.same (h : QH m1 gr T a d bad bs ts m) (h1 : m1 gr ≠ none) {F : Nat -> Prop} {r x : AV} (ht : (F, r, x) ∈ ts) (hO : Off gr m m') : ∀ g, F g -> m' g = m g := fun g hg => off_at hO (by rintro rfl; exact h1 ((h.tr _ ht).1.new _ hg).1) ((h.tr _ ht).1.new g hg).2
theorem QH.samePut (h : QH m1 gr T a d bad bs ts m) {F : Nat -> Prop} {r x : AV} (ht : (F, r, x) ∈ ts) {g : Nat} {cs : List AV} (hb : (g, cs) ∈ bs) (b : Blk) : ∀ k, F k -> (m.set g b) k = m k := fun k hk => Mem.set_other (by rintro rfl; exact (h.tr _ ht).2 _ hb hk)
theorem QH.sameNew (h : QH m1 gr T a d bad bs ts m) {F : Nat -> Prop} {r x : AV} (ht : (F, r, x) ∈ ts) {g : Nat} (hg : m g = none) (b : Blk) : ∀ k, F k -> (m.set g b) k = m k := fun k hk => Mem.set_other (by rintro rfl; exact ((h.tr _ ht).1.new _ hk).2 hg)
theorem QH.app {P : Program} {Ty E : TypeId} {n b : Nat} (hT : ElemT P Ty E n b) {F G : Nat -> Prop} {v x s : AV} {l cx : List AV} (h : QH m1 gr T a d bad bs ((G, .agg cx, x) :: (F, v, .lst false n l) :: ts) m) (h1 : m1 gr ≠ none) (hv : RowV E n F v l.length m)
  (hs : srcA m n s = some [.agg cx]) (hb : (2 * (l.length + 1) + 1024) * b <= 281474976710656) {k : AV -> Mem -> Prop}
  (hk : ∀ F' v' m', QH m1 gr T a d bad bs ((F', v', .lst false n (l ++ [x])) :: ts) m' -> RowV E n F' v' (l ++ [x]).length m' -> (∀ t ∈ ts, ∀ q, t.1 q -> m' q = m q) -> k v' m') : appendW P m k #[Ty, Ty] v s := by
 obtain ⟨z, hz, hzl⟩ := hT.zero
 have hG := h.tr (G, .agg cx, x) (by simp)
 have hF := h.tr (F, v, .lst false n l) (by simp)
 have d1 := List.pairwise_cons.1 h.td
 have d2 := List.pairwise_cons.1 d1.2
 have hokx : ∀ y ∈ [AV.agg cx], y.cells.all okCell = true := by
  intro y hy
  rw [List.mem_singleton] at hy
  subst hy
  cases hG.1.own with | agg _ hok => exact hok
 unfold appendW
 simp only [List.getElem?_toArray, List.getElem?_cons_zero, List.getElem?_cons_succ, hT.int, hT.elem, hT.size, hT.byte, hz, hs, true_and]
 refine ⟨hT.pos.1, hT.pos.2, hzl, ?_⟩
 -- what comes of it, in the row's block or in a new one
 have fin : ∀ (g' c' : Nat) (ys : List AV) (G0 : Nat -> Prop), OwnTs m G0 ys l -> ys.length = l.length -> (∀ b, G0 b -> F b) -> ¬ G0 g' -> (F g' ∨ m g' = none) -> k (.own g' (l.length + 1) c') (m.set g' (.arr E n c' (ys ++ [.agg cx]))) := by
  intro g' c' ys G0 hO hl hsub hn hg'
  have n1 : ¬ G g' := fun hg => hg'.elim (fun hf => d1.1 (F, v, .lst false n l) (by simp) g' hg hf) (fun hf => (hG.1.new g' hg).2 hf)
  have hm1 : m1 g' = none := hg'.elim (fun hf => (hF.1.new g' hf).1) (fun hf => off_none h.off h.ps.at hf)
  have hne : g' ≠ gr := by rintro rfl; exact h1 hm1
  have hbx : ∀ b ∈ bs, b.1 ≠ g' := fun b hb e => by
   rcases hg' with hf | hf
   ·exact hF.2 b hb (by rw [e]; exact hf)
   have := (h.bx b hb).1; rw [e, hf] at this; cases this
  have hts : ∀ t ∈ ts, ¬ t.1 g' := fun t ht hq => by
   rcases hg' with hf | hf
   ·exact d2.1 t ht g' hf hq
   exact ((h.tr t (by simp [ht])).1.new g' hq).2 hf
  have k0 : ∀ b, G0 b -> (m.set g' (.arr E n c' (ys ++ [.agg cx]))) b = m b := fun b hb => Mem.set_other (by rintro rfl; exact hn hb)
  have kG : ∀ b, G b -> (m.set g' (.arr E n c' (ys ++ [.agg cx]))) b = m b := fun b hb => Mem.set_other (by rintro rfl; exact n1 hb)
  have own : OwnT (m.set g' (.arr E n c' (ys ++ [.agg cx]))) (fun b => (G0 b ∨ G b) ∨ b = g') (.own g' (l.length + 1) c') (.lst false n (l ++ [x])) :=
   .own (G := fun b => G0 b ∨ G b) (set_same _ _ _) (by simp [hl]) (OwnTs.snoc (hO.mem k0) (hG.1.own.mem kG) fun g h2 h3 => d1.1 (F, v, .lst false n l) (by simp) g h3 (hsub g h2)) (fun h => h.elim hn n1) (fun _ h => .inl h) (.inr rfl)
  refine hk (fun b => (G0 b ∨ G b) ∨ b = g') _ _ ⟨h.ps.off hne _, fun g x hg hx => ?_, fun b hb => ?_, h.bd, fun t ht => ?_, List.pairwise_cons.2 ⟨fun t ht g hg hq => ?_, d2.2⟩⟩ (.inr ⟨g', c', _, by simp, .inr rfl, set_same _ _ _⟩) (fun t ht q hq => Mem.set_other (by rintro rfl; exact hts t ht hq))
  ·have hg2 : g ≠ g' := by rintro rfl; rw [hm1] at hx; cases hx
   rw [Mem.set_other hg2]
   exact h.off g x hg hx
  ·rw [Mem.set_other (hbx b hb)]
   exact h.bx b hb
  ·rcases List.mem_cons.1 ht with rfl | ht
   ·refine ⟨⟨own, fun g hg => ?_⟩, fun b hb hg => ?_⟩
    ·rcases hg with (hg | hg) | rfl
     ·rw [k0 g hg]; exact hF.1.new g (hsub g hg)
     ·rw [kG g hg]; exact hG.1.new g hg
     exact ⟨hm1, by rw [set_same]; simp⟩
    rcases hg with (hg | hg) | hg
    ·exact hF.2 b hb (hsub _ hg)
    ·exact hG.2 b hb hg
    exact hbx b hb hg
   have := h.tr t (by simp [ht])
   exact ⟨this.1.set (hts t ht) _, this.2⟩
  rcases hg with (hg | hg) | rfl
  ·exact d2.1 t ht g (hsub g hg) hq
  ·exact d1.1 t (by simp [ht]) g hg hq
  exact hts t ht hq
 rcases hv with ⟨rfl, h0⟩ | ⟨g, c, ys0, rfl, hFg, hmg⟩
 ·have hl : l = [] := List.eq_nil_of_length_eq_zero h0
  subst hl
  refine ⟨.inr rfl, by simpa using hb, ⟨fun h0 => (by cases h0), fun _ g c hg hle => ?_⟩⟩
  have := fin g c [] (fun _ => False) .nil rfl (fun _ h => h.elim) id (.inr hg)
  simpa using this
 cases hF.1.own with
 | @own _ G0 _ _ _ _ T0 ys _ k1 k2 k3 k4 k5 k6 =>
  rw [hmg] at k1
  obtain ⟨rfl, -, -, rfl⟩ : E = T0 /\ n = n /\ c = c /\ ys0 = ys := by
   simp only [Option.some.injEq, Blk.arr.injEq] at k1
   exact ⟨k1.1, rfl, rfl, k1.2.2.2⟩
  simp only [hmg]
  refine ⟨trivial, trivial, trivial, k2, hokx, by simpa [k2] using hb, fun g' c' hg' hle => ?_⟩
  have := fin g' c' ys0 G0 k3 k2 k5 (by
   rcases hg' with rfl | hg'
   ·exact k4
   exact fun hq => (hF.1.new g' (k5 _ hq)).2 hg') (hg'.imp (fun e => by rw [e]; exact hFg) id)
  simpa [k2] using this
theorem QH.rot {s t u : (Nat -> Prop) × AV × AV} (h : QH m1 gr T a d bad bs (s :: t :: u :: ts) m) : QH m1 gr T a d bad bs (s :: u :: t :: ts) m := by
 have d1 := List.pairwise_cons.1 h.td
 have d2 := List.pairwise_cons.1 d1.2
 have d3 := List.pairwise_cons.1 d2.2
 refine ⟨h.ps, h.off, h.bx, h.bd, fun x hx => h.tr x ?_, List.pairwise_cons.2 ⟨fun x hx => d1.1 x ?_, List.pairwise_cons.2 ⟨fun x hx g hg hq => ?_, List.pairwise_cons.2 ⟨fun x hx => d2.1 x (by simp [hx]), d3.2⟩⟩⟩⟩
 ·simp only [List.mem_cons] at hx ⊢
  rcases hx with h | h | h | h
  ·exact .inl h
  ·exact .inr (.inr (.inl h))
  ·exact .inr (.inl h)
  exact .inr (.inr (.inr h))
 ·simp only [List.mem_cons] at hx ⊢
  rcases hx with h | h | h
  ·exact .inr (.inl h)
  ·exact .inl h
  exact .inr (.inr h)
 rcases List.mem_cons.1 hx with rfl | hx
 ·exact d2.1 u (by simp) g hq hg
 exact d3.1 x hx g hg hq
end
theorem c_takeK {gr : Nat} {T : List Tk} {a : Nat} {d : Int} {bad : Bool} {m : Mem} (h : PS gr T a d bad m) (hT : ∀ t ∈ T, t.fine) (s : ByteArray) (hs : 2 <= s.size) {K : AV -> Mem -> Prop}
  (hK : ∀ m' a' b', PS gr T a' d b' m' -> Off gr m m' -> Run1 (kpR s) T a bad () a' b' -> K (.tup []) m') : WCall Tryz.prog 54 [.ptr gr 0, .str s] m K :=
 c_take h s fun m' hP hO => hK m' _ _ hP hO (kpR_run hT hs _ rfl)
theorem c_kindName {gr : Nat} {T : List Tk} {a : Nat} {d : Int} {bad : Bool} {m : Mem} (h : PS gr T a d bad m) {K : AV -> Mem -> Prop}
  (hK : ∀ m' s k n a' b', PS gr T a' d b' m' -> Off gr m m' -> Run1 nmP T a bad s a' b' -> K (.agg [.int .i64 k, .str s, .int .i64 n]) m') : WCall Tryz.prog 53 [.ptr gr 0, .int .i64 1] m K :=
 c_kind h 1 (by omega) fun m' hP hO => hK m' _ _ _ _ _ hP hO (nmP_run _ rfl)
theorem c_kindNum {gr : Nat} {T : List Tk} {a : Nat} {d : Int} {bad : Bool} {m : Mem} (h : PS gr T a d bad m) {K : AV -> Mem -> Prop}
  (hK : ∀ m' s k n a' b', PS gr T a' d b' m' -> Off gr m m' -> Run1 numP T a bad n a' b' -> K (.agg [.int .i64 k, .str s, .int .i64 n]) m') : WCall Tryz.prog 53 [.ptr gr 0, .int .i64 2] m K :=
 c_kind h 2 (by omega) fun m' hP hO => hK m' _ _ _ _ _ hP hO (numP_run _ rfl)
theorem c_l3Num (n : Int) : PCall Tryz.prog 86 [.int .i64 n] (Ex.mk 1 n ⟨#[]⟩ []).av := by
 have eE : ByteArray.empty = (⟨#[]⟩ : ByteArray) := rfl
 have tk : ∀ e : Ex, List.take 4 e.av.cells = e.cells := fun e => List.take_of_length_le (by show e.cells.length <= 4; simp)
 have ln : ∀ e : Ex, e.av.cells.length = 4 := fun e => Ex.cells_len e
 refine PCall.le (r := .agg [.int .i64 1, .int .i64 n, .str ⟨#[]⟩, .lst true 0 []]) (args' := [.int .i64 n]) ?_ (Les.refl _) (by
  show Le _ (AV.agg (Ex.mk 1 n ⟨#[]⟩ []).cells)
  try unfold two
  rw [Ex.cells_mk]
  exact Le.agg (.cons (Le.refl _) (.cons (Le.refl _) (.cons (Le.refl _) (.cons (by first | exact Le.nil _ _ _ | exact Le.lst _ _ _) .nil)))))
 refine pO Tryz.func86 (by kernel_rfl) rfl (by simp [Tryz.f86]) ?_
 (repeat refine qA ?_);refine rA ?_
 simp
 intro g2
 (repeat refine qA ?_);refine rA ?_
 simp [set_at, tk, ln, literalA]
 exact AWp.ret (post_cell (.inl rfl) rfl (by simp [eE, Ex.av]))
theorem c_l3Var (s : ByteArray) : PCall Tryz.prog 129 [.str s] (Ex.mk 2 0 s []).av := by
 have eE : ByteArray.empty = (⟨#[]⟩ : ByteArray) := rfl
 have tk : ∀ e : Ex, List.take 4 e.av.cells = e.cells := fun e => List.take_of_length_le (by show e.cells.length <= 4; simp)
 have ln : ∀ e : Ex, e.av.cells.length = 4 := fun e => Ex.cells_len e
 refine PCall.le (r := .agg [.int .i64 2, .int .i64 0, .str s, .lst true 0 []]) (args' := [.str s]) ?_ (Les.refl _) (by
  show Le _ (AV.agg (Ex.mk 2 0 s []).cells)
  try unfold two
  rw [Ex.cells_mk]
  exact Le.agg (.cons (Le.refl _) (.cons (Le.refl _) (.cons (Le.refl _) (.cons (by first | exact Le.nil _ _ _ | exact Le.lst _ _ _) .nil)))))
 refine pO Tryz.func129 (by kernel_rfl) rfl (by simp [Tryz.f129]) ?_
 (repeat refine qA ?_);refine rA ?_
 simp
 intro g2
 (repeat refine qA ?_);refine rA ?_
 simp [set_at, tk, ln, literalA]
 exact AWp.ret (post_cell (.inl rfl) rfl (by simp [eE, Ex.av]))
theorem c_l3At (s : ByteArray) (e : Ex) : PCall Tryz.prog 130 [.str s, e.av] (Ex.mk 3 0 s [e]).av := by
 have eE : ByteArray.empty = (⟨#[]⟩ : ByteArray) := rfl
 have tk : ∀ e : Ex, List.take 4 e.av.cells = e.cells := fun e => List.take_of_length_le (by show e.cells.length <= 4; simp)
 have ln : ∀ e : Ex, e.av.cells.length = 4 := fun e => Ex.cells_len e
 refine PCall.le (r := .agg [.int .i64 3, .int .i64 0, .str s, .lst true 4 [e.av]]) (args' := [.str s, e.av]) ?_ (Les.refl _) (by
  show Le _ (AV.agg (Ex.mk 3 0 s [e]).cells)
  try unfold two
  rw [Ex.cells_mk]
  exact Le.agg (.cons (Le.refl _) (.cons (Le.refl _) (.cons (Le.refl _) (.cons (by first | exact Le.nil _ _ _ | exact Le.lst _ _ _) .nil)))))
 refine pO Tryz.func130 (by kernel_rfl) rfl (by simp [Tryz.f130]) ?_
 (repeat refine qA ?_);refine rA ?_
 simp
 intro g3 g4 hg4
 have hg3g4 : g3 ≠ g4 := by rintro rfl; simp [Mem.set] at hg4 <;> (split at hg4 <;> cases hg4)
 (repeat refine qA ?_);refine rA ?_
 simp [set_at, tk, ln, literalA, hg3g4]
 exact AWp.ret (post_cell (.inl rfl) rfl (by simp [eE, Ex.av]))
theorem c_l3Two (k : Int) (x y : Ex) : PCall Tryz.prog 85 [.int .i64 k, x.av, y.av] (two k x y).av := by
 have eE : ByteArray.empty = (⟨#[]⟩ : ByteArray) := rfl
 have tk : ∀ e : Ex, List.take 4 e.av.cells = e.cells := fun e => List.take_of_length_le (by show e.cells.length <= 4; simp)
 have ln : ∀ e : Ex, e.av.cells.length = 4 := fun e => Ex.cells_len e
 refine PCall.le (r := .agg [.int .i64 k, .int .i64 0, .str ⟨#[]⟩, .lst true 4 [x.av, y.av]]) (args' := [.int .i64 k, x.av, y.av]) ?_ (Les.refl _) (by
  show Le _ (AV.agg (two k x y).cells)
  try unfold two
  rw [Ex.cells_mk]
  exact Le.agg (.cons (Le.refl _) (.cons (Le.refl _) (.cons (Le.refl _) (.cons (by first | exact Le.nil _ _ _ | exact Le.lst _ _ _) .nil)))))
 refine pO Tryz.func85 (by kernel_rfl) rfl (by simp [Tryz.f85]) ?_
 (repeat refine qA ?_);refine rA ?_
 simp
 intro g4 g5 hg5 g6 hg6
 have hg4g5 : g4 ≠ g5 := by rintro rfl; simp [Mem.set] at hg5 <;> (split at hg5 <;> cases hg5)
 have hg4g6 : g4 ≠ g6 := by rintro rfl; simp [Mem.set] at hg6 <;> (split at hg6 <;> cases hg6)
 have hg5g6 : g5 ≠ g6 := by rintro rfl; simp [Mem.set] at hg6 <;> (split at hg6 <;> cases hg6)
 (repeat refine qA ?_);refine rA ?_
 simp [set_at, tk, ln, literalA, hg4g5, hg4g6, hg5g6]
 exact AWp.ret (post_cell (.inl rfl) rfl (by simp [eE, Ex.av]))
theorem Run1.was {α : Type} {g : List Tk -> Option (α × List Tk)} {T : List Tk} {a a' : Nat} {b b' : Bool} {x : α} (h : Run1 g T a b x a' b') : b' = false -> b = false := by
 intro e
 cases b with
 | false => rfl
 | true => rw [h.ill (.inl rfl)] at e; cases e
theorem zero_le : Le (.agg [.int .i64 0, .int .i64 0, .str ⟨#[]⟩, .lst true 0 []]) (Ex.mk 0 0 ⟨#[]⟩ []).av := by
 show Le _ (AV.agg (Ex.mk 0 0 ⟨#[]⟩ []).cells)
 rw [Ex.cells_mk]
 exact Le.agg (.cons (Le.refl _) (.cons (Le.refl _) (.cons (Le.refl _) (.cons (Le.nil _ _ _) .nil))))
theorem okE (e : Ex) : ∀ x ∈ e.cells, okCell x = true := fun x hx => List.all_eq_true.1 (Ex.cells_ok e) x hx

section
variable {m1 m m' : Mem} {gr : Nat} {T : List Tk} {a a' : Nat} {d d' : Int} {bad bad' : Bool} {bs : List (Nat × Blk)}
def rowB (E : TypeId) (n : Nat) (xs : List AV) : Option (Nat × Nat) -> List (Nat × Blk)
 | none => []
 | some (g, c) => [(g, .arr E n c xs)]
def sc (k : Int) (s : ByteArray) (a e lo hi : Ex) (v : AV) : List AV := .int .i64 k :: .str s :: (a.cells ++ (e.cells ++ (lo.cells ++ (hi.cells ++ [v]))))
theorem sc_eq (k : Int) (s : ByteArray) (a e lo hi : Ex) (b : List Sm) : (Sm.mk k s a e lo hi b).cells = sc k s a e lo hi (.lst false 19 (b.map Sm.av)) := Sm.cells_mk _ _ _ _ _ _ _
@[simp] theorem sc_len (k : Int) (s : ByteArray) (a e lo hi : Ex) (v : AV) : (sc k s a e lo hi v).length = 19 := by simp [sc]
@[simp] theorem sc_take (k : Int) (s : ByteArray) (a e lo hi : Ex) (v : AV) : List.take 19 (sc k s a e lo hi v) = sc k s a e lo hi v := List.take_of_length_le (by simp)
@[simp] theorem sc_drop (k : Int) (s : ByteArray) (a e lo hi : Ex) (v : AV) : List.drop 18 (sc k s a e lo hi v) = [v] := by
 have : sc k s a e lo hi v = (.int .i64 k :: .str s :: (a.cells ++ (e.cells ++ (lo.cells ++ hi.cells)))) ++ [v] := by simp [sc]
 rw [this]
 exact List.drop_left' (by simp)
theorem store_part {m : Mem} {g o : Nat} {u y w : List AV} {x : AV} (h : m g = some (.box (u ++ (y ++ w)))) (hu : u.length = o) (hy : y.length = x.cells.length) : storeA m (.ptr g o) x = some (m.set g (.box (u ++ (x.cells ++ w)))) := by
 simp only [storeA, h]
 rw [if_pos (by first | (simp [hu, hy]; done) | (simp [hu, hy]; omega))]
 congr 3
 have e1 : List.take o (u ++ (y ++ w)) = u := List.take_left' hu
 have e2 : List.drop (o + x.cells.length) (u ++ (y ++ w)) = w := by
  rw [<- List.append_assoc]
  exact List.drop_left' (by simp [hu, hy])
 rw [e1, e2, List.append_assoc]
theorem stK {g : Nat} {k : Int} {s : ByteArray} {a e lo hi : Ex} {v : AV} (h : m g = some (.box (sc k s a e lo hi v))) (k' : Int) : storeA m (.ptr g 0) (.int .i64 k') = some (m.set g (.box (sc k' s a e lo hi v))) := store_part (u := []) (y := [.int .i64 k]) (x := .int .i64 k') h rfl rfl
theorem stN {g : Nat} {k : Int} {s : ByteArray} {a e lo hi : Ex} {v : AV} (h : m g = some (.box (sc k s a e lo hi v))) (s' : ByteArray) : storeA m (.ptr g 1) (.str s') = some (m.set g (.box (sc k s' a e lo hi v))) := store_part (u := [.int .i64 k]) (y := [.str s]) (x := .str s') h rfl rfl
theorem stA {g : Nat} {k : Int} {s : ByteArray} {a e lo hi : Ex} {v : AV} (h : m g = some (.box (sc k s a e lo hi v))) (x : Ex) : storeA m (.ptr g 2) (.agg x.cells) = some (m.set g (.box (sc k s x e lo hi v))) := store_part (u := [.int .i64 k, .str s]) (y := a.cells) (x := .agg x.cells) h rfl (by simp [AV.cells])
theorem stE {g : Nat} {k : Int} {s : ByteArray} {a e lo hi : Ex} {v : AV} (h : m g = some (.box (sc k s a e lo hi v))) (x : Ex) : storeA m (.ptr g 6) (.agg x.cells) = some (m.set g (.box (sc k s a x lo hi v))) := by
 have e1 : ∀ e, sc k s a e lo hi v = (.int .i64 k :: .str s :: a.cells) ++ (e.cells ++ (lo.cells ++ (hi.cells ++ [v]))) := fun e => by simp [sc]
 rw [e1] at h ⊢
 exact store_part (x := .agg x.cells) h (by simp) (by simp [AV.cells])
theorem stL {g : Nat} {k : Int} {s : ByteArray} {a e lo hi : Ex} {v : AV} (h : m g = some (.box (sc k s a e lo hi v))) (x : Ex) : storeA m (.ptr g 10) (.agg x.cells) = some (m.set g (.box (sc k s a e x hi v))) := by
 have e1 : ∀ lo, sc k s a e lo hi v = (.int .i64 k :: .str s :: (a.cells ++ e.cells)) ++ (lo.cells ++ (hi.cells ++ [v])) := fun e => by simp [sc]
 rw [e1] at h ⊢
 exact store_part (x := .agg x.cells) h (by simp) (by simp [AV.cells])
theorem stH {g : Nat} {k : Int} {s : ByteArray} {a e lo hi : Ex} {v : AV} (h : m g = some (.box (sc k s a e lo hi v))) (x : Ex) : storeA m (.ptr g 14) (.agg x.cells) = some (m.set g (.box (sc k s a e lo x v))) := by
 have e1 : ∀ hi, sc k s a e lo hi v = (.int .i64 k :: .str s :: (a.cells ++ (e.cells ++ lo.cells))) ++ (hi.cells ++ [v]) := fun e => by simp [sc]
 rw [e1] at h ⊢
 exact store_part (x := .agg x.cells) h (by simp) (by simp [AV.cells])
theorem stB {g : Nat} {k : Int} {s : ByteArray} {a e lo hi : Ex} {v : AV} (h : m g = some (.box (sc k s a e lo hi v))) (v' : AV) (hv : v'.cells = [v']) : storeA m (.ptr g 18) v' = some (m.set g (.box (sc k s a e lo hi v'))) := by
 have e1 : ∀ v, sc k s a e lo hi v = (.int .i64 k :: .str s :: (a.cells ++ (e.cells ++ (lo.cells ++ hi.cells)))) ++ ([v] ++ []) := fun e => by simp [sc]
 rw [e1] at h ⊢
 have h2 := store_part (u := .int .i64 k :: .str s :: (a.cells ++ (e.cells ++ (lo.cells ++ hi.cells)))) (y := [v]) (w := []) (x := v') (o := 18) h (by simp) (by rw [hv]; rfl)
 rw [hv] at h2
 exact h2
end
end Go.T
