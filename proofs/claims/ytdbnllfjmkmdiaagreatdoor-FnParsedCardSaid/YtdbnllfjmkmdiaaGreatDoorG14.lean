/- Parts of the proof of FnParsed: The program's parser: its state. -/
import Derived.Test.YtdbnllfjmkmdiaaGreatDoorG13
import Derived.Test.YtdbnllfjmkmdiaaGreatDoorG5
set_option linter.unusedSimpArgs false
set_option linter.unusedVariables false
namespace Go.T
open Go Go.Proofs
set_option maxRecDepth 10000
set_option maxHeartbeats 1000000
open Go
def pc (T : List Tk) (a : Nat) (d : Int) (bad : Bool) : List AV := [.lst false 3 (T.map Tk.av), .int .i64 a, .int .i64 d, .bool bad]
structure PS (gr : Nat) (T : List Tk) (a : Nat) (d : Int) (bad : Bool) (m : Mem) : Prop where
 box : m gr = some (.box (pc T a d bad))
 le : a <= T.length
 small : T.length <= 600
def Off (gr : Nat) (m m' : Mem) : Prop := ∀ g b, g ≠ gr -> m g = some b -> m' g = some b
theorem Off.refl (gr : Nat) (m : Mem) : Off gr m m := fun _ _ _ h => h
theorem Off.trans {gr : Nat} {a b c : Mem} (h : Off gr a b) (k : Off gr b c) : Off gr a c := fun g x hg hx => k g x hg (h g x hg hx)
theorem Off.ext {gr : Nat} {a b : Mem} (h : Ext a b) : Off gr a b := fun g x _ hx => h g x hx
theorem Off.box {gr : Nat} (m : Mem) (b : Blk) : Off gr m (m.set gr b) := fun g x hg hx => by rw [Mem.so hg]; exact hx
theorem PS.ext {gr : Nat} {T : List Tk} {a : Nat} {d : Int} {bad : Bool} {m m' : Mem} (h : PS gr T a d bad m) (hE : Ext m m') : PS gr T a d bad m' := ⟨hE _ _ h.box, h.le, h.small⟩
def hdT (T : List Tk) (a : Nat) (bad : Bool) : Tk := if bad = true then ⟨0, ⟨#[]⟩, 0⟩ else (T[a]?).getD ⟨0, ⟨#[]⟩, 0⟩
theorem z0b (T : List Tk) (a : Nat) : hdT T a true = ⟨0, ⟨#[]⟩, 0⟩ := rfl
theorem wta {T : List Tk} {a : Nat} (h : T.length <= a) : hdT T a false = ⟨0, ⟨#[]⟩, 0⟩ := by
 unfold hdT;rw [if_neg (by simp), List.getElem?_eq_none h];rfl
theorem xUa {T : List Tk} {a : Nat} (h : a < T.length) : hdT T a false = T[a] := by
 unfold hdT;rw [if_neg (by simp), gE h];rfl
theorem Tk.cells_eq (t : Tk) : t.cells = [.int .i64 t.k, .str t.s, .int .i64 t.n] := rfl
theorem yQe {gr : Nat} {T : List Tk} {a : Nat} {d : Int} {bad : Bool} {m : Mem} (h : PS gr T a d bad m) {K : AV -> Mem -> Prop} (hK : K (.agg (hdT T a bad).cells) m) : zka Tryz.prog 154 [.ptr gr 0, .int .i64 0] m K := by
 have hb := h.box;have hle := h.le;have hsm := h.small;unfold pc at hb;refine wO Tryz.func154 ?_;refine rA ?_;simp;intro g hg;have hne : g ≠ gr := by rintro rfl; rw [hb] at hg; cases hg
 have hE := Mem.ext_box hg;have hgm : ∀ cs, (m.set g (.box cs)) gr = some (.box [.lst false 3 (T.map Tk.av), .int .i64 a, .int .i64 d, .bool bad]) := fun cs => hE cs _ _ hb;have hw : IntKind.wrap .i64 (a : Int) = a := zga (by omega) (by omega);have eE : ByteArray.empty = (⟨#[]⟩ : ByteArray) := rfl;have zero : ∀ st : St, hdT T a bad = ⟨0, ⟨#[]⟩, 0⟩ -> st.sl 4 = .ptr g 0 -> st.mem = m.set g (.box [.int .i64 0, .str ⟨#[]⟩, .int .i64 0]) -> Post Tryz.prog Tryz.f154 K .ret st := fun st e s4 sm => by
  rw [e] at hK;exact ⟨[.agg [.int .i64 0, .str ⟨#[]⟩, .int .i64 0]], _, m, by simp [Tryz.f154, zQa, s4, sm], by rw [sm]; exact View.fo (hE _) _, hK⟩
 (repeat refine qA ?_);refine AWp.rG (fun _ => false) (fun _ => false) [0, 1, 2, 3, 4, 5, 6, 7, 8, 9, 10, 11, 12, 13, 14, 15, 16, 17] [0, 1, 2, 3, 4, 5, 6, 7, 8, 9, 10, 11, 12, 13, 14, 15, 16, 17] (by kernel_rfl) ?_;simp [hgm];by_cases hbad : bad = true
 ·subst hbad;simp;refine tA ?_;refine rA ?_;simp;refine AWp.ret (zero _ rfl ?_ ?_) <;> simp
  try rfl
 have hbad : bad = false := by simpa using hbad
 subst hbad;simp [hgm, hw];by_cases hlt : a < T.length
 ·have h1 : ¬ (T.length : Int) <= a := by omega
  have hx : ∀ m : Mem, yga Tryz.prog m 40 (.lst false 3 (T.map Tk.av)) (.int .i64 a) = some (.ref T[a].cells) := fun m => idx (y := T[a].av) es_40 (by simp [gE hlt]);rw [xUa hlt] at hK;try simp [h1]
  (repeat refine qA ?_);refine AWp.condF (by simp; try omega) ?_;refine kA ?_;try simp
  (repeat refine qA ?_);refine AWp.rG (fun _ => false) (fun _ => false) [0, 1, 2, 3, 4, 5, 6, 7, 8, 9, 10, 11, 12] [0, 1, 2, 3, 4, 5, 6, 7, 8, 9, 10, 11, 12] (by kernel_rfl) ?_;simp [hgm, hw, hx, Tk.cells_eq];refine AWp.ret ⟨[.agg T[a].cells], _, m, by simp [Tryz.f154, zQa, Tk.cells_eq], ?_, hK⟩;simp;exact View.fo (hE _) _
 have h1 : (T.length : Int) <= a := by omega
 try simp [h1]
 (repeat refine qA ?_);refine AWp.condT (by simp; try omega) ?_;refine rA ?_;simp;refine AWp.ret (zero _ (wta (by omega)) ?_ ?_) <;> simp
 try rfl
theorem yUd {gr : Nat} {T : List Tk} {a : Nat} {d : Int} {bad : Bool} {m : Mem} (h : PS gr T a d bad m) {K : AV -> Mem -> Prop} (hK : K (.agg (hdT T a bad).cells) m) : zka Tryz.prog 114 [.ptr gr 0] m K := by
 refine wO Tryz.func114 ?_;refine rA ?_;simp;intro g hg;have hE := Mem.ext_box hg;refine rA ?_;simp;refine wA ?_;simp;refine yQe (h.ext fun k b hk => hE _ k b hk) ?_;generalize hdT T a bad = t at *;simp [Tk.cells_eq];refine AWp.ret ⟨[.agg t.cells], _, m, by simp [Tryz.f114, zQa, Tk.cells_eq], by simp; exact View.fo (hE _) _, hK⟩
def isT (t : Tk) (s : ByteArray) : Bool := (decide (t.k = 4) || decide (t.k = 3)) && decide (t.s = s)
theorem xrd {gr : Nat} {T : List Tk} {a : Nat} {d : Int} {bad : Bool} {m : Mem} (h : PS gr T a d bad m) (s : ByteArray) {K : AV -> Mem -> Prop} (hK : K (.bool (isT (hdT T a bad) s)) m) : zka Tryz.prog 98 [.ptr gr 0, .str s] m K := by
 refine wO Tryz.func98 ?_;refine rA ?_;try simp
 refine rA ?_;simp;refine wA ?_;try simp
 refine yUd h ?_;generalize hdT T a bad = t at *;simp [Tk.cells_eq];intro g hg;have hE := Mem.ext_box hg;have fin : ∀ (st : St) (b : Bool), isT t s = b -> st.sl 4 = .bool b -> st.mem = m.set g (.box t.cells) -> Post Tryz.prog Tryz.f98 K .ret st := fun st b e s4 sm => by
  rw [e] at hK;exact ⟨[.bool b], _, m, by simp [Tryz.f98, zQa, s4], by rw [sm]; exact View.fo (hE _) _, hK⟩
 simp only [Tk.cells_eq] at fin;unfold isT at fin;refine rA ?_;by_cases h4 : t.k = 4
 ·simp [h4];refine AWp.ret (fin _ (decide (t.s = s)) (by simp [h4]) ?_ ?_) <;> simp [h4]
 by_cases h3 : t.k = 3
 ·simp [h4, h3];refine AWp.ret (fin _ (decide (t.s = s)) (by simp [h3]) ?_ ?_) <;> simp [h3]
 simp [h4, h3];refine AWp.ret (fin _ false (by simp [h4, h3]) ?_ ?_) <;> simp
theorem PS.step {gr : Nat} {T : List Tk} {a : Nat} {d : Int} {bad : Bool} {m : Mem} (h : PS gr T a d bad m) (a' : Nat) (d' : Int) (bad' : Bool) (ha : a' <= T.length) : PS gr T a' d' bad' (m.set gr (.box (pc T a' d' bad'))) := ⟨zaa _ _ _, ha, h.small⟩
theorem wcc {T : List Tk} {a : Nat} {bad : Bool} {s : ByteArray} (h : isT (hdT T a bad) s = true) : bad = false /\ ∃ hlt : a < T.length, isT T[a] s = true := by
 cases bad with
 | true => rw [z0b] at h; simp [isT] at h
 | false =>
  refine ⟨rfl, ?_⟩;by_cases hlt : a < T.length
  ·rw [xUa hlt] at h; exact ⟨hlt, h⟩
  rw [wta (by omega)] at h; simp [isT] at h
theorem zwb {gr : Nat} {T : List Tk} {a : Nat} {d : Int} {bad : Bool} {m : Mem} (h : PS gr T a d bad m) (s : ByteArray) {K : AV -> Mem -> Prop}
  (hK : ∀ m', PS gr T (if isT (hdT T a bad) s = true then a + 1 else a) d bad m' -> Off gr m m' -> K (.bool (isT (hdT T a bad) s)) m') : zka Tryz.prog 52 [.ptr gr 0, .str s] m K := by
 have hb := h.box;have hle := h.le;have hsm := h.small;unfold pc at hb;refine wO Tryz.func52 ?_;refine rA ?_;try simp
 refine rA ?_;simp;refine wA ?_;try simp
 refine xrd h s ?_;try simp
 cases hi : isT (hdT T a bad) s with
 | false =>
  rw [hi] at hK;simp at hK;refine tA ?_;refine rA ?_;simp;refine AWp.ret (zea rfl ⟨_, _, View.refl _ _, ?_⟩);simpa using hK m h (Off.refl _ _)
 | true =>
  obtain ⟨hbd, hlt, _⟩ := wcc hi;rw [hi] at hK;simp at hK;have hw : IntKind.wrap .i64 ((a : Int) + 1) = (a : Int) + 1 := zga (by omega) (by omega);refine fA ?_;refine kA ?_;try simp
  refine rA ?_;simp [hb, hw];refine rA ?_;simp;refine AWp.ret (zea rfl ⟨_, _, View.refl _ _, ?_⟩);have := hK _ (h.step (a + 1) d bad (by omega)) (Off.box _ _);simpa [pc] using this
theorem wMd {gr : Nat} {T : List Tk} {a : Nat} {d : Int} {bad : Bool} {m : Mem} (h : PS gr T a d bad m) (s : ByteArray) {K : AV -> Mem -> Prop}
  (hK : ∀ m', PS gr T (if isT (hdT T a bad) s = true then a + 1 else a) d (!isT (hdT T a bad) s) m' -> Off gr m m' -> K (.tup []) m') : zka Tryz.prog 54 [.ptr gr 0, .str s] m K := by
 refine wO Tryz.func54 ?_;refine AWp.gen (fun st => st.sl 0 = .ptr gr 0 /\ st.sl 1 = .str s /\ st.mem = m) ⟨by simp, by simp, by simp⟩ ?_;rintro st ⟨s0, s1, sm⟩;refine rA ?_;simp [s0, s1];refine wA ?_;simp [sm];refine zwb h s fun m' h' hO => ?_;try simp
 cases hi : isT (hdT T a bad) s with
 | true =>
  obtain ⟨hbd, hlt, _⟩ := wcc hi;subst hbd;rw [hi] at hK h';simp at hK h';refine fA ?_;refine kA ?_;exact ⟨[], .tup [], m', by simp [Tryz.f54, zQa], by simp; exact View.refl _ _, hK m' h' hO⟩
 | false =>
  rw [hi] at hK h';simp at hK h';have hb := h'.box;unfold pc at hb;refine tA ?_;refine rA ?_;simp [s0, hb];refine ⟨[], .tup [], m'.set gr (.box (pc T a d true)), by simp [Tryz.f54, zQa], by simp [pc]; exact View.refl _ _, hK _ (h'.step a d true h'.le) (hO.trans (Off.box _ _))⟩
theorem wdc {gr : Nat} {T : List Tk} {a : Nat} {d : Int} {bad : Bool} {m : Mem} (h : PS gr T a d bad m) (k : Int) (hk0 : k ≠ 0) {K : AV -> Mem -> Prop}
  (hK : ∀ m', PS gr T (if (hdT T a bad).k = k then a + 1 else a) d (!decide ((hdT T a bad).k = k)) m' -> Off gr m m' -> K (.agg (if (hdT T a bad).k = k then hdT T a bad else ⟨0, ⟨#[]⟩, 0⟩ : Tk).cells) m') : zka Tryz.prog 53 [.ptr gr 0, .int .i64 k] m K := by
 have hb := h.box;have hle := h.le;have hsm := h.small;have eE : ByteArray.empty = (⟨#[]⟩ : ByteArray) := rfl;unfold pc at hb;refine wO Tryz.func53 ?_;refine rA ?_;simp;intro g hg;have hne : g ≠ gr := by rintro rfl; rw [hb] at hg; cases hg
 have hE : Ext m (m.set g (.box [.int .i64 0, .str ⟨#[]⟩, .int .i64 0])) := zFa hg _;have hb1 := hE _ _ hb;have bg := zaa m g (.box [.int .i64 0, .str ⟨#[]⟩, .int .i64 0]);have h1 := h.ext hE;simp only [<- eE] at hE hb1 bg h1;generalize m.set g (.box [.int .i64 0, .str ByteArray.empty, .int .i64 0]) = m1 at *;refine rA ?_;simp;refine wA ?_;simp;refine yUd h1 ?_;have hlt : (hdT T a bad).k = k -> bad = false /\ a < T.length := by
  intro e;cases bad with
  | true => rw [z0b] at e; exact absurd e.symm hk0
  | false =>
   refine ⟨rfl, ?_⟩;by_cases hlt : a < T.length
   ·exact hlt
   rw [wta (by omega)] at e; exact absurd e.symm hk0
 generalize hdT T a bad = t at *;simp [Tk.cells_eq];intro g5 hg5;have hne5 : g5 ≠ gr := by rintro rfl; rw [hb1] at hg5; cases hg5
 have hne6 : g5 ≠ g := by rintro rfl; rw [bg] at hg5; cases hg5
 have hE2 : Ext m1 (m1.set g5 (.box [.int .i64 t.k, .str t.s, .int .i64 t.n])) := zFa hg5 _;have bg5 := zaa m1 g5 (.box [.int .i64 t.k, .str t.s, .int .i64 t.n]);have hb2 := hE2 _ _ hb1;have bg2 := hE2 _ _ bg;have h2 := h1.ext hE2;have hE3 := hE.trans hE2;generalize m1.set g5 (.box [.int .i64 t.k, .str t.s, .int .i64 t.n]) = m2 at *;refine rA ?_;simp [bg5];by_cases hk : t.k = k
 ·obtain ⟨hbd, hlt⟩ := hlt hk;have hw : IntKind.wrap .i64 ((a : Int) + 1) = (a : Int) + 1 := zga (by omega) (by omega);(repeat refine qA ?_);refine AWp.condF (by simp [hk]) ?_;refine kA ?_;try simp
  refine rA ?_;simp [hb2, hw];refine rA ?_;simp [zia, hne, hne5, Ne.symm hne, Ne.symm hne5, bg5, bg2];have := hK ((m2.set gr (.box (pc T (a + 1) d false))).set g (.box t.cells)) (by
   rw [if_pos hk];simp only [hk, decide_true, Bool.not_true];exact ⟨by rw [Mem.so (Ne.symm hne)]; exact zaa _ _ _, by omega, hsm⟩) (fun b x hbg hx => by
    have hbg2 : b ≠ g := by rintro rfl; rw [hg] at hx; cases hx
    rw [Mem.so hbg2, Mem.so hbg];exact hE3 _ _ hx)
  rw [if_pos hk] at this;subst hbd;refine AWp.ret ⟨[.agg t.cells], .agg t.cells, _, by simp [Tryz.f53, zQa, Tk.cells_eq], ?_, this⟩;simp [pc, Tk.cells_eq];exact View.refl _ _
 (repeat refine qA ?_);refine AWp.condT (by simp [hk]) ?_;refine rA ?_;simp [hb2];refine rA ?_;simp [zia, hne, Ne.symm hne, bg2];have := hK ((m2.set gr (.box (pc T a d true))).set g (.box [.int .i64 0, .str ⟨#[]⟩, .int .i64 0])) (by
  rw [if_neg hk];simp only [hk, decide_false, Bool.not_false];exact ⟨by rw [Mem.so (Ne.symm hne)]; exact zaa _ _ _, by omega, hsm⟩) (fun b x hbg hx => by
   have hbg2 : b ≠ g := by rintro rfl; rw [hg] at hx; cases hx
   rw [Mem.so hbg2, Mem.so hbg];exact hE3 _ _ hx)
 rw [if_neg hk] at this;refine AWp.ret ⟨[.agg [.int .i64 0, .str ⟨#[]⟩, .int .i64 0]], .agg [.int .i64 0, .str ⟨#[]⟩, .int .i64 0], _, by simp [Tryz.f53, zQa, eE], ?_, this⟩;simp [pc, eE];exact View.refl _ _
structure Tr (m0 m : Mem) (F : Nat -> Prop) (r : AV) (e : Ex) : Prop where
 own : z6a m F r e.av
 new : ∀ g, F g -> m0 g = none /\ m g ≠ none
theorem yVd {gr : Nat} {m m' : Mem} (h : Off gr m m') {g : Nat} (hne : g ≠ gr) (hg : m g ≠ none) : m' g = m g := by
 cases hq : m g with
 | none => exact absurd hq hg
 | some b => exact h g b hne hq
theorem Tr.off {gr : Nat} {m0 m m' : Mem} {F : Nat -> Prop} {r : AV} {e : Ex} (h : Tr m0 m F r e) (hgr : m0 gr ≠ none) (hO : Off gr m m') : Tr m0 m' F r e := by
 have k : ∀ b, F b -> m' b = m b := fun b hb => yVd hO (by rintro rfl; exact hgr (h.new _ hb).1) (h.new b hb).2;exact ⟨h.own.mem k, fun g hg => ⟨(h.new g hg).1, by rw [k g hg]; exact (h.new g hg).2⟩⟩
theorem Tr.set {m0 m : Mem} {F : Nat -> Prop} {r : AV} {e : Ex} (h : Tr m0 m F r e) {g : Nat} (hg : ¬ F g) (b : Blk) : Tr m0 (m.set g b) F r e := by
 have k : ∀ x, F x -> (m.set g b) x = m x := fun x hx => Mem.so (by rintro rfl; exact hg hx);exact ⟨h.own.mem k, fun x hx => ⟨(h.new x hx).1, by rw [k x hx]; exact (h.new x hx).2⟩⟩
theorem yAa {gr : Nat} {m0 m1 : Mem} (hO : Off gr m0 m1) (hgr : m1 gr ≠ none) {g : Nat} (hg : m1 g = none) : m0 g = none := by
 cases hq : m0 g with
 | none => rfl
 | some b =>
  by_cases e : g = gr
  ·subst e; exact absurd hg hgr
  rw [hO g b e hq] at hg; cases hg
theorem Tr.base {gr : Nat} {m0 m1 m : Mem} {F : Nat -> Prop} {r : AV} {e : Ex} (h : Tr m1 m F r e) (hO : Off gr m0 m1) (hgr : m1 gr ≠ none) : Tr m0 m F r e :=
 ⟨h.own, fun g hg => ⟨yAa hO hgr (h.new g hg).1, (h.new g hg).2⟩⟩
theorem Tr.not {m0 m : Mem} {F : Nat -> Prop} {r : AV} {e : Ex} (h : Tr m0 m F r e) {g : Nat} (hg : m0 g ≠ none) : ¬ F g := fun hF => hg (h.new g hF).1
theorem Tr.fresh {m0 m : Mem} {F : Nat -> Prop} {r : AV} {e : Ex} (h : Tr m0 m F r e) {g : Nat} (hg : m g = none) : ¬ F g := fun hF => (h.new g hF).2 hg
theorem Tr.cs {m0 m : Mem} {F : Nat -> Prop} {r : AV} {e : Ex} (h : Tr m0 m F r e) : ∃ c0 c1 c2 c3, r = .agg [c0, c1, c2, c3] /\ zya c0 = true /\ zya c1 = true /\ zya c2 = true /\ zya c3 = true := by
 have ho := h.own;unfold Ex.av at ho;obtain ⟨cs, rfl, hT, hok⟩ := zke ho;have hl := hT.len;rw [Ex.cells_len] at hl
 match cs, hl with
 | [c0, c1, c2, c3], _ =>
  simp only [List.all_cons, List.all_nil, Bool.and_true, Bool.and_eq_true] at hok;exact ⟨c0, c1, c2, c3, rfl, hok.1, hok.2.1, hok.2.2.1, hok.2.2.2⟩
def zIe (P : Program) (n : FuncId) (k : Nat) (f : PE) : Prop :=
 ∀ (gr : Nat) (T : List Tk) (a : Nat) (d : Int) (bad : Bool) (m : Mem), PS gr T a d bad m -> (∀ t ∈ T, t.fine) -> (bad = false -> d = 30 - (k : Int)) -> ∀ K : AV -> Mem -> Prop,
  (∀ m' F r e a' d' bad', PS gr T a' d' bad' m' -> Off gr m m' -> Tr m m' F r e -> zfa f T a bad e a' bad' -> (bad' = false -> d' = d) -> K r m') -> zka P n [.ptr gr 0] m K
theorem PS.at {gr : Nat} {T : List Tk} {a : Nat} {d : Int} {bad : Bool} {m : Mem} (h : PS gr T a d bad m) : m gr ≠ none := by rw [h.box]; simp
theorem PS.off {gr : Nat} {T : List Tk} {a : Nat} {d : Int} {bad : Bool} {m : Mem} (h : PS gr T a d bad m) {g : Nat} (hg : g ≠ gr) (b : Blk) : PS gr T a d bad (m.set g b) := ⟨by rw [Mem.so (Ne.symm hg)]; exact h.box, h.le, h.small⟩
theorem yWd {m : Mem} {FA FB : Nat -> Prop} {csA csB : List AV} {eA eB : Ex} {E : TypeId} {gL : Nat} (hA : z6a m FA (.agg csA) eA.av) (hB : z6a m FB (.agg csB) eB.av) (hd : ∀ g, FA g -> ¬ FB g) (hL : m gL = some (.arr E 4 2 [.agg csA, .agg csB])) (nA : ¬ FA gL) (nB : ¬ FB gL) (k : Int) :
  z6a m (fun g => FA g ∨ FB g ∨ g = gL) (.agg [.int .i64 k, .int .i64 0, .str ⟨#[]⟩, .own gL 2 2]) (two k eA eB).av := by
 show z6a m _ _ (.agg (Ex.mk k 0 ⟨#[]⟩ [eA, eB]).cells);rw [Ex.cells_mk];have hown : z6a m (fun g => FA g ∨ FB g ∨ g = gL) (.own gL 2 2) (.lst false 4 [eA.av, eB.av]) :=
  .own (G := fun g => FA g ∨ FB g) hL rfl (.cons (A := FA) (B := FB) hA (.cons (A := FB) (B := fun _ => False) hB .nil (fun _ _ h => h) (fun _ h => h) (fun _ h => h.elim)) hd (fun _ h => .inl h) (fun _ h => .inr h)) (fun h => h.elim nA nB) (fun _ h => by rcases h with h | h <;> simp [h]) (.inr (.inr rfl))
 exact .agg (.cons (A := fun _ => False) (B := fun g => FA g ∨ FB g ∨ g = gL) (.int _ _) (.cons (A := fun _ => False) (B := fun g => FA g ∨ FB g ∨ g = gL) (.int _ _) (.cons (A := fun _ => False) (B := fun g => FA g ∨ FB g ∨ g = gL) (.str _) (.cons (A := fun g => FA g ∨ FB g ∨ g = gL) (B := fun _ => False) hown .nil (fun _ _ h => h) (fun _ h => h) (fun _ h => h.elim)) (fun _ h => h.elim) (fun _ h => h.elim) (fun _ h => h)) (fun _ h => h.elim) (fun _ h => h.elim) (fun _ h => h)) (fun _ h => h.elim) (fun _ h => h.elim) (fun _ h => h)) rfl
theorem x9a {T : List Tk} (hT : ∀ t ∈ T, t.fine) {a : Nat} {bad : Bool} {c : UInt8} (h : isT (hdT T a bad) (ch c) = false) : bad = true ∨ xPd T a c := by
 cases bad with
 | true => exact .inl rfl
 | false =>
  right;intro hlt;rw [xUa hlt] at h;unfold isT at h;rw [y1c (hT _ (List.getElem_mem hlt))] at h;exact h
theorem yWa {T : List Tk} (hT : ∀ t ∈ T, t.fine) {a : Nat} {bad : Bool} {c : UInt8} (h : isT (hdT T a bad) (ch c) = true) : bad = false /\ ∃ hlt : a < T.length, T[a].is 4 (ch c) = true := by
 obtain ⟨h1, hlt, h2⟩ := wcc h;unfold isT at h2;rw [y1c (hT _ (List.getElem_mem hlt))] at h2;exact ⟨h1, hlt, h2⟩
theorem yXd (k : Nat) (hA : zIe Tryz.prog 148 k (yda (yPa k))) : zIe Tryz.prog 97 k (zjb (yPa k)) := by
 intro gr T a d bad m hP hT hd K hK;have hf := x2a k;have eE : ByteArray.empty = (⟨#[]⟩ : ByteArray) := rfl;refine wO Tryz.func97 ?_;refine rA ?_;simp;intro g2 hg2;have n2 : g2 ≠ gr := by rintro rfl; exact hP.at hg2
 have hE1 : Ext m (m.set g2 (.box [.int .i64 0, .int .i64 0, .str ⟨#[]⟩, .lst true 0 []])) := zFa hg2 _;have b2 := zaa m g2 (.box [.int .i64 0, .int .i64 0, .str ⟨#[]⟩, .lst true 0 []]);have hP1 := hP.off n2 (.box [.int .i64 0, .int .i64 0, .str ⟨#[]⟩, .lst true 0 []]);simp only [<- eE] at hE1 b2 hP1;generalize m.set g2 (.box [.int .i64 0, .int .i64 0, .str ByteArray.empty, .lst true 0 []]) = m1 at *;have hgr1 := hP1.at
 refine rA ?_;simp;refine wA ?_;try simp
 refine hA gr T a d bad m1 hP1 hT hd _ fun m2 F r e a1 d1 b1 hP2 hO2 hT2 hr2 hd2 => ?_;obtain ⟨c0, c1, c2, c3, rfl, o0, o1, o2, o3⟩ := hT2.cs;have nd0 : c0 ≠ .undef := by rintro rfl; cases o0
 simp [o0, o1, o2, o3];intro g3 hg3;have n3 : g3 ≠ gr := by rintro rfl; exact hP2.at hg3
 have b22 := hO2 _ _ n2 b2;have n32 : g3 ≠ g2 := by rintro rfl; rw [b22] at hg3; cases hg3
 have hT3 := hT2.set (hT2.fresh hg3) (.box [c0, c1, c2, c3]);have n3m : m1 g3 = none := yAa hO2 hP2.at hg3;have b1m := b2;refine AWp.gen (fun st => st.sl 0 = .ptr gr 0 /\ st.sl 2 = .ptr g2 0 /\ st.sl 3 = .ptr g3 0 /\ st.mem = m2.set g3 (.box [c0, c1, c2, c3])) ⟨by simp, by simp, by simp, by simp⟩ ?_;rintro st ⟨s0, s2, s3, sm⟩;obtain ⟨M, hM⟩ : ∃ M : St -> Prop, M = (fun st => ∃ cs F e a1 d1 b1, st.sl 2 = .ptr g2 0 /\ st.sl 3 = .ptr g3 0 /\ st.mem g2 = some (.box [.int .i64 0, .int .i64 0, .str ByteArray.empty, .lst true 0 []]) /\ st.mem g3 = some (.box cs) /\ Tr m1 st.mem F (.agg cs) e /\ PS gr T a1 d1 b1 st.mem /\ Off gr m1 st.mem /\ (b1 = false -> d1 = d) /\ zfa (zjb (yPa k)) T a bad e a1 b1) := ⟨_, rfl⟩;(repeat refine qA ?_);refine AWp.cA M ?_ ?_
 ·refine AWp.block (AWp.ro (fun q st => ∃ cs F e a1 d1 b1, q = (if b1 = true then 0 else T.length - a1 + 1) /\ st.sl 0 = .ptr gr 0 /\ st.sl 2 = .ptr g2 0 /\ st.sl 3 = .ptr g3 0 /\ st.mem g2 = some (.box [.int .i64 0, .int .i64 0, .str ByteArray.empty, .lst true 0 []]) /\ st.mem g3 = some (.box cs) /\ Tr m1 st.mem F (.agg cs) e /\ ¬ F g3 /\ PS gr T a1 d1 b1 st.mem /\ Off gr m1 st.mem /\ (b1 = false -> d1 = d /\ bad = false) /\ ∀ y a2 b2, zfa (zkb (yPa k) e) T a1 b1 y a2 b2 -> zfa (zjb (yPa k)) T a bad y a2 b2) (if b1 = true then 0 else T.length - a1 + 1) ⟨[c0, c1, c2, c3], F, e, a1, d1, b1, rfl, s0, s2, s3, by rw [sm, Mem.so (Ne.symm n32)]; exact b22, by rw [sm]; exact zaa _ _ _, by rw [sm]; exact hT3, hT2.fresh hg3, by rw [sm]; exact hP2.off n3 _, by rw [sm]; exact hO2.trans (Off.ext (zFa hg3 _)), fun h => ⟨hd2 h, by
   cases bad with
   | false => rfl
   | true => rw [hr2.ill (.inl rfl)] at h; cases h⟩, fun y a2 b2 h => yed hr2 h⟩ ?_)
  clear s0 s2 s3 sm hT3 hP2 hO2 hT2 hr2 hd2 b22 hg3;rintro RR q st hRR ⟨cs, F, e, a1, d1, b1, rfl, s0, s2, s3, b2, b3, hTr, hF3, hP2, hO2, hd2, hinv⟩;refine rA ?_;simp [s0];refine wA ?_;try simp
  refine zwb hP2 (ch 42) fun m3 hP3 hO3 => ?_;try simp
  cases hi : isT (hdT T a1 b1) (ch 42) with
  | false =>
   rw [hi] at hP3;simp at hP3;refine fA ?_;refine eA ?_;subst hM;exact ⟨cs, F, e, a1, d1, b1, by simp [s2], by simp [s3], by simpa using hO3 _ _ n2 b2, by simpa using hO3 _ _ n3 b3, by simpa using hTr.off hgr1 hO3, by simpa using hP3, by simpa using hO2.trans hO3, fun h => (hd2 h).1, hinv _ _ _ (zWc hf e (x9a hT hi))⟩
  | true =>
   obtain ⟨rfl, hlt, hmk⟩ := yWa hT hi;rw [hi] at hP3;simp at hP3;obtain ⟨hd3, hbd⟩ := hd2 rfl;refine tA ?_;refine kA ?_;try simp
   (repeat refine qA ?_);refine bA ?_;refine AWp.gen (fun st => st.sl 0 = .ptr gr 0 /\ st.sl 2 = .ptr g2 0 /\ st.sl 3 = .ptr g3 0 /\ st.mem = m3) ⟨by simp [s0], by simp [s2], by simp [s3], by simp⟩ ?_;have b23 := hO3 _ _ n2 b2;have b33 := hO3 _ _ n3 b3;have hTr3 := hTr.off hgr1 hO3;have hO13 := hO2.trans hO3;clear s0 s2 s3 b2 b3 hTr hO2 hP2 hO3;rintro st ⟨s0, s2, s3, sm⟩;refine rA ?_;simp [s0];refine wA ?_;simp [sm];refine hA gr T (a1 + 1) d1 false m3 hP3 hT (fun _ => by rw [hd3]; exact hd hbd) _ fun m4 F4 r4 e4 a4 d4 b4 hP4 hO4 hT4 hr4 hd4 => ?_;obtain ⟨x0, x1, x2, x3, rfl, p0, p1, p2, p3⟩ := hT4.cs;simp [p0, p1, p2, p3];intro g4 hg4;have b24 := hO4 _ _ n2 b23;have b34 := hO4 _ _ n3 b33;have hTr4 := hTr3.off hgr1 hO4;have n4 : g4 ≠ gr := by rintro rfl; exact hP4.at hg4
   have n42 : g4 ≠ g2 := by rintro rfl; rw [b24] at hg4; cases hg4
   have n43 : g4 ≠ g3 := by rintro rfl; rw [b34] at hg4; cases hg4
   have hE4 := zFa hg4 (.box [x0, x1, x2, x3]);have c2 := hE4 _ _ b24;have c3 := hE4 _ _ b34;have c4 := zaa m4 g4 (.box [x0, x1, x2, x3]);have hTa := hTr4.set (hTr4.fresh hg4) (.box [x0, x1, x2, x3]);have hTb := hT4.set (hT4.fresh hg4) (.box [x0, x1, x2, x3]);have hPc := hP4.off n4 (.box [x0, x1, x2, x3]);have hOc := (hO13.trans hO4).trans (Off.ext (gr := gr) hE4);have hdis : ∀ g, F g -> ¬ F4 g := fun g h1 h2 => (hTr3.new g h1).2 (hT4.new g h2).1;have hF43 : ¬ F4 g3 := hT4.not (by rw [b33]; simp);have hbase := hTb.base (gr := gr) hO13 hP3.at
   refine AWp.gen (fun st => st.sl 0 = .ptr gr 0 /\ st.sl 2 = .ptr g2 0 /\ st.sl 3 = .ptr g3 0 /\ st.sl 4 = .ptr g4 0 /\ st.mem = m4.set g4 (.box [x0, x1, x2, x3])) ⟨by simp [s0], by simp [s2], by simp [s3], by simp, by simp⟩ ?_;generalize m4.set g4 (.box [x0, x1, x2, x3]) = m5 at *;clear s0 s2 s3 sm b24 b34 hE4;rintro st ⟨s0, s2, s3, s4, sm⟩;obtain ⟨y0, y1, y2, y3, hcs, q0, q1, q2, q3⟩ := hTa.cs;cases hcs;(repeat refine qA ?_);refine AWp.regionN noP (fun i => i == 2) [0, 1, 2, 3, 4] (by kernel_rfl) ?_;simp [s3, s4, sm, c3, c4, zda];intro gL hgL;have nL : gL ≠ gr := by rintro rfl; exact hPc.at hgL
   have nL2 : gL ≠ g2 := by rintro rfl; rw [c2] at hgL; cases hgL
   have nL3 : gL ≠ g3 := by rintro rfl; rw [c3] at hgL; cases hgL
   simp [zia, Ne.symm nL3, c3];refine hRR _ (if b4 = true then 0 else T.length - a4 + 1) ?_ ⟨[.int .i64 6, .int .i64 0, .str ⟨#[]⟩, .own gL 2 2], (fun g => F g ∨ F4 g ∨ g = gL), two 6 e e4, a4, d4, b4, rfl, by simp [s0], by simp [s2], by simp [s3], ?_, ?_, ⟨?_, ?_⟩, ?_, ?_, ?_, ?_, ?_⟩
   ·cases b4 with
    | true => simp
    | false =>
     have := hr4.lt (wya hf) hP4.le;simp;omega
   ·simp [zia, Ne.symm n32, Ne.symm nL2, c2]
   ·simp [zia]; rfl
   ·have e1 := (hTa.set (hTa.fresh hgL) (.arr 26 4 2 [.agg [y0, y1, y2, y3], .agg [x0, x1, x2, x3]])).set (g := g3) hF3 (.box [.int .i64 6, .int .i64 0, .str ⟨#[]⟩, .own gL 2 2]);have e2 := (hbase.set (hbase.fresh hgL) (.arr 26 4 2 [.agg [y0, y1, y2, y3], .agg [x0, x1, x2, x3]])).set (g := g3) hF43 (.box [.int .i64 6, .int .i64 0, .str ⟨#[]⟩, .own gL 2 2]);simpa [eE] using yWd e1.own e2.own hdis (E := 26) (gL := gL) (by rw [Mem.so nL3]; exact zaa _ _ _) (hTa.fresh hgL) (hbase.fresh hgL) 6
   ·intro g hg;have hnone : m1 gL = none := yAa hOc hPc.at hgL;rcases hg with hg | hg | rfl
    ·refine ⟨(hTa.new g hg).1, ?_⟩;have h1 := (hTa.new g hg).2;simp [zia];split
     ·simp
     split
     ·simp
     exact h1
    ·refine ⟨(hbase.new g hg).1, ?_⟩;have h1 := (hbase.new g hg).2;simp [zia];split
     ·simp
     split
     ·simp
     exact h1
    exact ⟨hnone, by simp [zia, nL3]⟩
   ·rintro (h | h | h)
    ·exact hF3 h
    ·exact hF43 h
    exact nL3 h.symm
   ·simpa using (hPc.off nL _).off n3 _
   ·have h1 := hOc.trans (Off.ext (gr := gr) (zFa hgL (.arr 26 4 2 [.agg [y0, y1, y2, y3], .agg [x0, x1, x2, x3]])));intro g x hg hx;have hne : g ≠ g3 := by rintro rfl; rw [n3m] at hx; cases hx
    have := h1 g x hg hx;simp [zia, hne] at this ⊢;exact this
   ·intro h;exact ⟨(hd4 h).trans hd3, hbd⟩
   exact fun y a2 b2 h => hinv y a2 b2 (zXc hf hlt hmk hr4 h)
 intro st hst;subst hM;obtain ⟨cs, F, e, a1, d1, b1, s2, s3, b2, b3, hTr, hPe, hOe, hde, hre⟩ := hst;obtain ⟨y0, y1, y2, y3, hcs, q0, q1, q2, q3⟩ := hTr.cs;cases hcs;have hF2 : ¬ F g2 := hTr.not (by rw [b1m]; simp);refine rA ?_;simp [s2, s3, b2, b3, q0, q1, q2, q3];refine AWp.ret ⟨[.agg [y0, y1, y2, y3]], .agg [y0, y1, y2, y3], st.mem.set g2 (.box [y0, y1, y2, y3]), by simp [Tryz.f97, zQa, s2], by simp; exact View.refl _ _, hK _ F _ e a1 d1 b1 (hPe.off n2 _) ?_ ((hTr.set hF2 _).base (gr := gr) (Off.ext hE1) hP1.at) hre hde⟩;intro g x hg hx;have hne : g ≠ g2 := by rintro rfl; rw [hg2] at hx; cases hx
 rw [Mem.so hne];exact hOe g x hg (hE1 _ _ hx)
structure PH (m1 : Mem) (gr : Nat) (T : List Tk) (a : Nat) (d : Int) (bad : Bool) (bs : List (Nat × List AV)) (ts : List ((Nat -> Prop) × AV × Ex)) (m : Mem) : Prop where
 ps : PS gr T a d bad m
 off : Off gr m1 m
 bx : ∀ b ∈ bs, m b.1 = some (.box b.2) /\ b.1 ≠ gr /\ m1 b.1 = none
 bd : bs.Pairwise fun x y => x.1 ≠ y.1
 tr : ∀ t ∈ ts, Tr m1 m t.1 t.2.1 t.2.2 /\ ∀ b ∈ bs, ¬ t.1 b.1
 td : ts.Pairwise fun x y => ∀ g, x.1 g -> ¬ y.1 g
section
variable {m1 m m' : Mem} {gr : Nat} {T : List Tk} {a a' : Nat} {d d' : Int} {bad bad' : Bool} {bs : List (Nat × List AV)} {ts : List ((Nat -> Prop) × AV × Ex)}
theorem PH.box1 (h : PH m1 gr T a d bad bs ts m) {g : Nat} {cs : List AV} (hb : (g, cs) ∈ bs) : m g = some (.box cs) := (h.bx _ hb).1
theorem PH.call (h : PH m1 gr T a d bad bs ts m) (h1 : m1 gr ≠ none) (hO : Off gr m m') (hP : PS gr T a' d' bad' m') : PH m1 gr T a' d' bad' bs ts m' :=
 ⟨hP, h.off.trans hO, fun b hb => ⟨hO _ _ (h.bx b hb).2.1 (h.bx b hb).1, (h.bx b hb).2⟩, h.bd, fun t ht => ⟨(h.tr t ht).1.off h1 hO, (h.tr t ht).2⟩, h.td⟩
theorem PH.tree (h : PH m1 gr T a d bad bs ts m) (h1 : m1 gr ≠ none) (hO : Off gr m m') (hP : PS gr T a' d' bad' m') {F : Nat -> Prop} {r : AV} {e : Ex} (hT : Tr m m' F r e) : PH m1 gr T a' d' bad' bs ((F, r, e) :: ts) m' := by
 have k := h.call h1 hO hP;refine ⟨k.ps, k.off, k.bx, k.bd, fun t ht => ?_, List.pairwise_cons.2 ⟨fun t ht g hg hq => ?_, k.td⟩⟩
 ·rcases List.mem_cons.1 ht with rfl | ht
  ·exact ⟨hT.base h.off h.ps.at, fun b hb => hT.not (by rw [(h.bx b hb).1]; simp)⟩
  exact k.tr t ht
 exact ((h.tr t ht).1.new g hq).2 (hT.new g hg).1
theorem PH.box (h : PH m1 gr T a d bad bs ts m) (h1 : m1 gr ≠ none) {g : Nat} (hg : m g = none) (cs : List AV) : PH m1 gr T a d bad ((g, cs) :: bs) ts (m.set g (.box cs)) := by
 have hne : g ≠ gr := by rintro rfl; exact h.ps.at hg
 have hE := zFa hg (.box cs);have k := h.call h1 (Off.ext hE) (h.ps.off hne (.box cs));refine ⟨k.ps, k.off, fun b hb => ?_, List.pairwise_cons.2 ⟨fun b hb e => ?_, k.bd⟩, fun t ht => ⟨(k.tr t ht).1, fun b hb => ?_⟩, k.td⟩
 ·rcases List.mem_cons.1 hb with rfl | hb
  ·exact ⟨zaa _ _ _, hne, yAa h.off h.ps.at hg⟩
  exact k.bx b hb
 ·have := (h.bx b hb).1;rw [<- e] at this;simp only at this;rw [hg] at this;cases this
 rcases List.mem_cons.1 hb with rfl | hb
 ·exact (h.tr t ht).1.fresh hg
 exact (k.tr t ht).2 b hb
theorem PH.put {l1 l2 : List (Nat × List AV)} {g : Nat} {cs : List AV} (h : PH m1 gr T a d bad (l1 ++ (g, cs) :: l2) ts m) (cs' : List AV) : PH m1 gr T a d bad (l1 ++ (g, cs') :: l2) ts (m.set g (.box cs')) := by
 have hg := h.bx (g, cs) (by simp);have hd := List.pairwise_append.1 h.bd;have hd2 := List.pairwise_cons.1 hd.2.1;have ho : ∀ b, b ∈ l1 ∨ b ∈ l2 -> b.1 ≠ g := fun b hb => by
  rcases hb with hb | hb
  ·exact hd.2.2 b hb (g, cs) (by simp)
  exact Ne.symm (hd2.1 b hb)
 refine ⟨h.ps.off hg.2.1 _, fun k x hk hx => ?_, fun b hb => ?_, ?_, fun t ht => ?_, h.td⟩
 ·have hne : k ≠ g := by rintro rfl; rw [hg.2.2] at hx; cases hx
  rw [Mem.so hne];exact h.off k x hk hx
 ·rcases List.mem_append.1 hb with hb | hb
  ·have := h.bx b (by simp [hb]);exact ⟨by rw [Mem.so (ho b (.inl hb))]; exact this.1, this.2⟩
  rcases List.mem_cons.1 hb with rfl | hb
  ·exact ⟨zaa _ _ _, hg.2⟩
  have := h.bx b (by simp [hb]);exact ⟨by rw [Mem.so (ho b (.inr hb))]; exact this.1, this.2⟩
 ·exact List.pairwise_append.2 ⟨hd.1, List.pairwise_cons.2 ⟨fun b hb => hd2.1 b hb, hd2.2⟩, fun x hx y hy => by
   rcases List.mem_cons.1 hy with rfl | hy
   ·exact hd.2.2 x hx (g, cs) (by simp)
   exact hd.2.2 x hx y (by simp [hy])⟩
 have hT := h.tr t ht;refine ⟨hT.1.set (hT.2 (g, cs) (by simp)) _, fun b hb => ?_⟩;rcases List.mem_append.1 hb with hb | hb
 ·exact hT.2 b (by simp [hb])
 rcases List.mem_cons.1 hb with rfl | hb
 ·exact hT.2 (g, cs) (by simp)
 exact hT.2 b (by simp [hb])
theorem PH.less (h : PH m1 gr T a d bad bs ts m) {bs' : List (Nat × List AV)} {ts' : List ((Nat -> Prop) × AV × Ex)} (hb : bs'.Sublist bs) (ht : ts'.Sublist ts) : PH m1 gr T a d bad bs' ts' m :=
 ⟨h.ps, h.off, fun b k => h.bx b (hb.subset k), h.bd.sublist hb, fun t k => ⟨(h.tr t (ht.subset k)).1, fun b q => (h.tr t (ht.subset k)).2 b (hb.subset q)⟩, h.td.sublist ht⟩
theorem PH.fresh (h : PH m1 gr T a d bad bs ts m) (h1 : m1 gr ≠ none) {g : Nat} (hg : m g = none) (b : Blk) : PH m1 gr T a d bad bs ts (m.set g b) := by
 have hne : g ≠ gr := by rintro rfl; exact h.ps.at hg
 exact h.call h1 (Off.ext (zFa hg b)) (h.ps.off hne b)
theorem PH.lit2 {FA FB : Nat -> Prop} {csA csB : List AV} {eA eB : Ex} (h : PH m1 gr T a d bad bs ((FB, .agg csB, eB) :: (FA, .agg csA, eA) :: ts) m) (h1 : m1 gr ≠ none) {g : Nat} (hg : m g = none) (E : TypeId) (k : Int) :
  ∃ F, PH m1 gr T a d bad bs ((F, .agg [.int .i64 k, .int .i64 0, .str ⟨#[]⟩, .own g 2 2], two k eA eB) :: ts) (m.set g (.arr E 4 2 [.agg csA, .agg csB])) := by
 have q := h.fresh h1 hg (.arr E 4 2 [.agg csA, .agg csB]);have hB := q.tr (FB, .agg csB, eB) (by simp);have hA := q.tr (FA, .agg csA, eA) (by simp);have hB0 := h.tr (FB, .agg csB, eB) (by simp);have hA0 := h.tr (FA, .agg csA, eA) (by simp);have d1 := List.pairwise_cons.1 q.td;have d2 := List.pairwise_cons.1 d1.2;refine ⟨fun x => FA x ∨ FB x ∨ x = g, q.ps, q.off, q.bx, q.bd, fun t ht => ?_, List.pairwise_cons.2 ⟨fun t ht x hx hq => ?_, d2.2⟩⟩
 ·rcases List.mem_cons.1 ht with rfl | ht
  ·refine ⟨⟨yWd hA.1.own hB.1.own (fun x h2 h3 => d1.1 (FA, .agg csA, eA) (by simp) x h3 h2) (zaa _ _ _) (hA0.1.fresh hg) (hB0.1.fresh hg) k, fun x hx => ?_⟩, fun b hb hx => ?_⟩
   ·rcases hx with hx | hx | rfl
    ·exact hA.1.new x hx
    ·exact hB.1.new x hx
    exact ⟨yAa h.off h.ps.at hg, by rw [zaa]; simp⟩
   rcases hx with hx | hx | hx
   ·exact hA.2 b hb hx
   ·exact hB.2 b hb hx
   have := (h.bx b hb).1; rw [hx, hg] at this; cases this
  exact q.tr t (by simp [ht])
 rcases hx with hx | hx | rfl
 ·exact d2.1 t ht x hx hq
 ·exact d1.1 t (by simp [ht]) x hx hq
 exact (h.tr t (by simp [ht])).1.fresh hg hq
theorem zJe {m : Mem} {FA : Nat -> Prop} {csA : List AV} {eA : Ex} {E : TypeId} {gL : Nat} (hA : z6a m FA (.agg csA) eA.av) (hL : m gL = some (.arr E 4 1 [.agg csA])) (nA : ¬ FA gL) (k : Int) (s : ByteArray) :
  z6a m (fun g => FA g ∨ g = gL) (.agg [.int .i64 k, .int .i64 0, .str s, .own gL 1 1]) (Ex.mk k 0 s [eA]).av := by
 show z6a m _ _ (.agg (Ex.mk k 0 s [eA]).cells);rw [Ex.cells_mk];have hown : z6a m (fun g => FA g ∨ g = gL) (.own gL 1 1) (.lst false 4 [eA.av]) :=
  .own (G := FA) hL rfl (.cons (A := FA) (B := fun _ => False) hA .nil (fun _ _ h => h) (fun _ h => h) (fun _ h => h.elim)) nA (fun _ h => .inl h) (.inr rfl)
 exact .agg (.cons (A := fun _ => False) (B := fun g => FA g ∨ g = gL) (.int _ _) (.cons (A := fun _ => False) (B := fun g => FA g ∨ g = gL) (.int _ _) (.cons (A := fun _ => False) (B := fun g => FA g ∨ g = gL) (.str _) (.cons (A := fun g => FA g ∨ g = gL) (B := fun _ => False) hown .nil (fun _ _ h => h) (fun _ h => h) (fun _ h => h.elim)) (fun _ h => h.elim) (fun _ h => h.elim) (fun _ h => h)) (fun _ h => h.elim) (fun _ h => h.elim) (fun _ h => h)) (fun _ h => h.elim) (fun _ h => h.elim) (fun _ h => h)) rfl
theorem PH.lit1 {FA : Nat -> Prop} {csA : List AV} {eA : Ex} (h : PH m1 gr T a d bad bs ((FA, .agg csA, eA) :: ts) m) (h1 : m1 gr ≠ none) {g : Nat} (hg : m g = none) (E : TypeId) (k : Int) (s : ByteArray) :
  ∃ F, PH m1 gr T a d bad bs ((F, .agg [.int .i64 k, .int .i64 0, .str s, .own g 1 1], Ex.mk k 0 s [eA]) :: ts) (m.set g (.arr E 4 1 [.agg csA])) := by
 have q := h.fresh h1 hg (.arr E 4 1 [.agg csA]);have hA := q.tr (FA, .agg csA, eA) (by simp);have hA0 := h.tr (FA, .agg csA, eA) (by simp);have d1 := List.pairwise_cons.1 q.td;refine ⟨fun x => FA x ∨ x = g, q.ps, q.off, q.bx, q.bd, fun t ht => ?_, List.pairwise_cons.2 ⟨fun t ht x hx hq => ?_, d1.2⟩⟩
 ·rcases List.mem_cons.1 ht with rfl | ht
  ·refine ⟨⟨zJe hA.1.own (zaa _ _ _) (hA0.1.fresh hg) k s, fun x hx => ?_⟩, fun b hb hx => ?_⟩
   ·rcases hx with hx | rfl
    ·exact hA.1.new x hx
    exact ⟨yAa h.off h.ps.at hg, by rw [zaa]; simp⟩
   rcases hx with hx | hx
   ·exact hA.2 b hb hx
   have := (h.bx b hb).1; rw [hx, hg] at this; cases this
  exact q.tr t (by simp [ht])
 rcases hx with hx | rfl
 ·exact d1.1 t ht x hx hq
 exact (h.tr t (by simp [ht])).1.fresh hg hq
theorem wec (m : Mem) (k n : Int) (s : ByteArray) : z6a m (fun _ => False) (.agg [.int .i64 k, .int .i64 n, .str s, .lst true 0 []]) (Ex.mk k n s []).av := by
 show z6a m _ _ (.agg (Ex.mk k n s []).cells);rw [Ex.cells_mk];exact .agg (.cons (A := fun _ => False) (B := fun _ => False) (.int _ _) (.cons (A := fun _ => False) (B := fun _ => False) (.int _ _) (.cons (A := fun _ => False) (B := fun _ => False) (.str _) (.cons (A := fun _ => False) (B := fun _ => False) (.nil _ _ _) .nil (fun _ h _ => h) (fun _ h => h) (fun _ h => h)) (fun _ h _ => h) (fun _ h => h) (fun _ h => h)) (fun _ h _ => h) (fun _ h => h) (fun _ h => h)) (fun _ h _ => h) (fun _ h => h) (fun _ h => h)) rfl
theorem PH.leaf (h : PH m1 gr T a d bad bs ts m) (k n : Int) (s : ByteArray) : PH m1 gr T a d bad bs ((fun _ => False, .agg [.int .i64 k, .int .i64 n, .str s, .lst true 0 []], Ex.mk k n s []) :: ts) m := by
 refine ⟨h.ps, h.off, h.bx, h.bd, fun t ht => ?_, List.pairwise_cons.2 ⟨fun t ht x hx => hx.elim, h.td⟩⟩;rcases List.mem_cons.1 ht with rfl | ht
 ·exact ⟨⟨wec m k n s, fun _ h => h.elim⟩, fun _ _ h => h⟩
 exact h.tr t ht
theorem PH.fin {m0 : Mem} {g2 : Nat} {cs0 cs : List AV} {F : Nat -> Prop} {e : Ex} (h : PH m1 gr T a d bad bs ((F, .agg cs, e) :: ts) m) (hg2 : (g2, cs0) ∈ bs ∨ (m g2 = some (.box cs0) /\ g2 ≠ gr /\ m0 g2 = none /\ ¬ F g2)) (h0 : Ext m0 m1) (h00 : (g2, cs0) ∈ bs -> m0 g2 = none) (h1 : m1 gr ≠ none) :
  PS gr T a d bad (m.set g2 (.box cs)) /\ Off gr m0 (m.set g2 (.box cs)) /\ Tr m0 (m.set g2 (.box cs)) F (.agg cs) e := by
 have hT := h.tr (F, .agg cs, e) (by simp);have hx : g2 ≠ gr /\ m0 g2 = none /\ ¬ F g2 := by
  rcases hg2 with hb | hb
  ·exact ⟨(h.bx _ hb).2.1, h00 hb, hT.2 _ hb⟩
  exact ⟨hb.2.1, hb.2.2.1, hb.2.2.2⟩
 refine ⟨h.ps.off hx.1 _, fun k x hk hx2 => ?_, (hT.1.set hx.2.2 _).base (gr := gr) (Off.ext h0) h1⟩;have hne : k ≠ g2 := by rintro rfl; rw [hx.2.1] at hx2; cases hx2
 rw [Mem.so hne];exact h.off k x hk (h0 _ _ hx2)
end
theorem yEa {gr : Nat} {T : List Tk} {a : Nat} {d : Int} {bad : Bool} {m : Mem} (h : PS gr T a d bad m) (hT : ∀ t ∈ T, t.fine) (c : UInt8) {K : AV -> Mem -> Prop}
  (hK : ∀ m' a' b', PS gr T a' d b' m' -> Off gr m m' -> zfa (tkR (ch c)) T a bad () a' b' -> K (.tup []) m') : zka Tryz.prog 54 [.ptr gr 0, .str (ch c)] m K :=
 wMd h (ch c) fun m' hP hO => hK m' _ _ hP hO (zle hT h.le c _ rfl)
theorem yRe {T : List Tk} {a : Nat} {bad : Bool} (h : (hdT T a bad).k ≠ 0) : bad = false /\ ∃ hlt : a < T.length, hdT T a bad = T[a] := by
 cases bad with
 | true => rw [z0b] at h; exact absurd rfl h
 | false =>
  by_cases hlt : a < T.length
  ·exact ⟨rfl, hlt, xUa hlt⟩
  rw [wta (by omega)] at h; exact absurd rfl h
theorem zxb {T : List Tk} (hT : ∀ t ∈ T, t.fine) {a : Nat} {bad : Bool} {s : ByteArray} (hs : 2 <= s.size) (h : isT (hdT T a bad) s = true) : bad = false /\ ∃ hlt : a < T.length, T[a].is 3 s = true := by
 obtain ⟨h1, hlt, h2⟩ := wcc h;unfold isT at h2;rw [y2c (hT _ (List.getElem_mem hlt)) hs] at h2;exact ⟨h1, hlt, h2⟩
theorem xqa {T : List Tk} (hT : ∀ t ∈ T, t.fine) {a : Nat} {bad : Bool} {s : ByteArray} (hs : 2 <= s.size) (h : isT (hdT T a bad) s = false) : bad = true ∨ ∀ hlt : a < T.length, T[a].is 3 s = false := by
 cases bad with
 | true => exact .inl rfl
 | false =>
  right;intro hlt;rw [xUa hlt] at h;unfold isT at h;rw [y2c (hT _ (List.getElem_mem hlt)) hs] at h;exact h
open _root_.ByteArray (empty)
theorem wNd {sub : PE} {t : Tk} {l : List Tk} (h : t.is 3 wjb = true) : yda sub (t :: l) = y1b sub 7 l := by
 have hk : t.k = 3 := by unfold Tk.is at h; simp at h; exact h.1
 have h4 : t.is 4 (ch 40) = false := by unfold Tk.is; simp [hk]
 simp only [yda, hk, h4, h, if_true, Bool.false_eq_true, if_false];rfl
theorem wOd {sub : PE} {t : Tk} {l : List Tk} (h : t.is 3 xGb = true) : yda sub (t :: l) = y1b sub 8 l := by
 have hk : t.k = 3 := by unfold Tk.is at h; simp at h; exact h.1
 have hs : t.s = xGb := by unfold Tk.is at h; simp at h; exact h.2
 have h4 : t.is 4 (ch 40) = false := by unfold Tk.is; simp [hk]
 have h3 : t.is 3 wjb = false := by unfold Tk.is; rw [hs]; simp [hk]; decide
 simp only [yda, hk, h4, h3, h, if_true, Bool.false_eq_true, if_false];rfl
theorem wfc {sub : PE} {t : Tk} {l : List Tk} (h : t.is 4 (ch 40) = true) : yda sub (t :: l) = paren sub l := by
 have hk : t.k = 4 := by unfold Tk.is at h; simp at h; exact h.1
 simp only [yda, hk, h, if_true];rfl
theorem wgc {sub : PE} {t : Tk} {l : List Tk} (h : t.k = 2) : yda sub (t :: l) = some (.mk 1 t.n ⟨#[]⟩ [], l) := by
 simp only [yda, h, if_true]
def xnc (sub : PE) (s : ByteArray) : PE := fun ts => match tkS 4 (ch 91) ts with | none => some (.mk 2 0 s [], ts) | some r => plc sub s r
theorem xsb {sub : PE} {t : Tk} {l : List Tk} (h : t.k = 1) : yda sub (t :: l) = xnc sub t.s l := by
 simp only [yda, h, if_true];rfl
theorem whc {sub : PE} {s : ByteArray} {T : List Tk} {a : Nat} (h : xPd T a 91) : zfa (xnc sub s) T a false (.mk 2 0 s []) a false := by
 have e : xnc sub s (T.drop a) = some (.mk 2 0 s [], T.drop a) := by
  by_cases hlt : a < T.length
  ·rw [List.drop_eq_getElem_cons hlt];have := h hlt;simp [xnc, tkS, this]
  rw [List.drop_eq_nil_of_le (by omega)];rfl
 exact ⟨fun x0 r _ he => by rw [e] at he; cases he; exact ⟨rfl, rfl, rfl⟩, fun hi => by
  have := hi.resolve_left (by simp);rw [e] at this; cases this⟩
theorem wic {sub : PE} {s : ByteArray} {T : List Tk} {a a' : Nat} {b' : Bool} {x : Ex} (hlt : a < T.length) (hm : T[a].is 4 (ch 91) = true) (h : zfa (plc sub s) T (a + 1) false x a' b') : zfa (xnc sub s) T a false x a' b' :=
 zfa.cons hlt h fun l => by simp [xnc, tkS, hm]
theorem zKe {t : Tk} (h : isT t wjb = true) : isT t xGb = false := by
 unfold isT at h ⊢;simp at h;rw [h.2];have : ¬ wjb = xGb := by decide
 simp [this]
theorem wjc {sub : PE} {T : List Tk} {a a' : Nat} {bad : Bool} {e : Ex} (h : bad = true ∨ yda sub (T.drop a) = none) : zfa (yda sub) T a bad e a' true :=
 ⟨fun x0 r hb he => (by
  have := h.resolve_left (by simp [hb]);rw [this] at he;cases he), fun _ => rfl⟩
theorem PH.start {gr : Nat} {T : List Tk} {a : Nat} {d : Int} {bad : Bool} {m : Mem} (h : PS gr T a d bad m) : PH m gr T a d bad [] [] m :=
 ⟨h, Off.refl _ _, fun b hb => (by cases hb), .nil, fun t ht => (by cases ht), .nil⟩
theorem ySe (k : Nat) (hS : zIe Tryz.prog 41 k (yPa k)) : zIe Tryz.prog 148 k (yda (yPa k)) := by
 intro gr T a d bad m hP hT hd K hK;have hgr := hP.at
 have eE : empty = (⟨#[]⟩ : ByteArray) := rfl;refine wO Tryz.func148 ?_;refine rA ?_;simp;intro g2 hg2;have h := (PH.start hP).box hgr hg2 [.int .i64 0, .int .i64 0, .str empty, .lst true 0 []];refine AWp.gen (fun st => st.sl 0 = .ptr gr 0 /\ st.sl 2 = .ptr g2 0 /\ st.mem = m.set g2 (.box [.int .i64 0, .int .i64 0, .str empty, .lst true 0 []])) ⟨by simp, by simp, by simp⟩ ?_;generalize m.set g2 (.box [.int .i64 0, .int .i64 0, .str empty, .lst true 0 []]) = m1 at *;rintro st ⟨s0, s2, sm⟩;(repeat refine qA ?_);refine bA ?_;refine rA ?_;simp [s0];refine wA ?_;simp [sm];refine yUd h.ps ?_;simp [Tk.cells_eq];by_cases h2 : (hdT T a bad).k = 2
 ·obtain ⟨rfl, hlt, ht⟩ := yRe (T := T) (a := a) (bad := bad) (by omega);(repeat refine qA ?_);refine AWp.condT (by simp [h2]) ?_;refine rA ?_;simp [s0];refine wA ?_;try simp
  refine wdc h.ps 2 (by omega) fun m2 hPn hOn => ?_;simp only [h2, if_true, decide_true, Bool.not_true] at hPn ⊢;have h := h.call hgr hOn hPn;have w2 := h.box1 (g := g2) (cs := [.int .i64 0, .int .i64 0, .str empty, .lst true 0 []]) (by simp);simp [Tk.cells_eq, s2, w2];have h := h.leaf 1 (hdT T a false).n ⟨#[]⟩;have q := PH.put (l1 := []) (cs' := [.int .i64 1, .int .i64 (hdT T a false).n, .str ⟨#[]⟩, .lst true 0 []]) h;refine AWp.ret ⟨[.agg [.int .i64 1, .int .i64 (hdT T a false).n, .str ⟨#[]⟩, .lst true 0 []]], .agg [.int .i64 1, .int .i64 (hdT T a false).n, .str ⟨#[]⟩, .lst true 0 []], _, by simp [Tryz.f148, zQa, s2, eE], by (try simp [eE]); exact View.refl _ _, hK _ _ _ _ _ _ _ q.ps q.off (q.tr _ (List.mem_cons_self ..)).1 (zfa.cons hlt (g := fun ts => some (.mk 1 (hdT T a false).n ⟨#[]⟩ [], ts)) (zfa.pure _ _ _ _) (fun l => by rw [ht] at h2 ⊢; exact wgc h2)) (fun _ => rfl)⟩
 (repeat refine qA ?_);refine AWp.condF (by simp [h2]) ?_;refine rA ?_;simp [s0];refine wA ?_;try simp
 refine xrd h.ps wjb ?_;try simp
 by_cases hmin : isT (hdT T a bad) wjb = true
 ·obtain ⟨rfl, hlt, hmi⟩ := zxb hT (by decide) hmin;have hmax := zKe hmin;simp [hmin];refine tA ?_;refine rA ?_;simp;intro g3 hg3;have h := h.box hgr hg3 [.int .i64 7, .int .i64 0, .str empty, .lst true 0 []];refine AWp.gen (fun st => st.sl 0 = .ptr gr 0 /\ st.sl 2 = .ptr g2 0 /\ st.sl 3 = .ptr g3 0 /\ st.mem = m1.set g3 (.box [.int .i64 7, .int .i64 0, .str empty, .lst true 0 []])) ⟨by simp [s0], by simp [s2], by simp, by simp⟩ ?_;generalize m1.set g3 (.box [.int .i64 7, .int .i64 0, .str empty, .lst true 0 []]) = m4 at *;clear s0 s2 sm;rintro st ⟨s0, s2, s3, sm⟩;refine rA ?_;simp [s0];refine wA ?_;simp [sm];refine xrd h.ps xGb ?_;simp [hmax];refine fA ?_;refine kA ?_;try simp
  refine AWp.gen (fun st => st.sl 0 = .ptr gr 0 /\ st.sl 2 = .ptr g2 0 /\ st.sl 3 = .ptr g3 0 /\ st.mem = m4) ⟨by simp [s0], by simp [s2], by simp [s3], by simp⟩ ?_;clear s0 s2 s3 sm hg3;rintro st ⟨s0, s2, s3, sm⟩;have hbx := h.ps.box;have hle := h.ps.le;have hsm := h.ps.small;unfold pc at hbx;have hw : IntKind.wrap .i64 ((a : Int) + 1) = (a : Int) + 1 := zga (by omega) (by omega);refine rA ?_;simp [s0, sm, hbx, hw];have h := h.call hgr (Off.box _ _) (h.ps.step (a + 1) d false (by omega));refine AWp.gen (fun st => st.sl 0 = .ptr gr 0 /\ st.sl 2 = .ptr g2 0 /\ st.sl 3 = .ptr g3 0 /\ st.mem = m4.set gr (.box (pc T (a + 1) d false))) ⟨by first | (simp; done) | (simp [s0]; done), by first | (simp; done) | (simp [s2]; done), by first | (simp; done) | (simp [s3]; done), by first | (simp [pc]; done) | (simp [sm, pc]; done)⟩ ?_
  clear s0 s2 s3 sm;rintro st ⟨s0, s2, s3, sm⟩;generalize m4.set gr (.box (pc T (a + 1) d false)) = m5 at *;clear hbx;refine rA ?_;simp [s0];refine wA ?_;simp [sm];refine yEa h.ps hT 40 fun m6 a1 b1 hPn hOn run1 => ?_;have h := h.call hgr hOn hPn;clear hPn hOn;try simp
  refine AWp.gen (fun st => st.sl 0 = .ptr gr 0 /\ st.sl 2 = .ptr g2 0 /\ st.sl 3 = .ptr g3 0 /\ st.mem = m6) ⟨by first | (simp; done) | (simp [s0]; done), by first | (simp; done) | (simp [s2]; done), by first | (simp; done) | (simp [s3]; done), by first | (simp; done) | (simp [sm]; done)⟩ ?_
  clear s0 s2 s3 sm;rintro st ⟨s0, s2, s3, sm⟩;refine rA ?_;simp [s0];refine wA ?_;simp [sm];refine hS gr T a1 d b1 _ h.ps hT (fun _ => hd rfl) _ fun m7 F2 r2 e2 a2 d2 b2 hPn hOn hTn run2 hdd2 => ?_;obtain ⟨c20, c21, c22, c23, rfl, o20, o21, o22, o23⟩ := hTn.cs;have h := h.tree hgr hOn hPn hTn;clear hPn hOn hTn;simp [o20, o21, o22, o23];intro g4 hg2;have h := h.box hgr hg2 [c20, c21, c22, c23];refine AWp.gen (fun st => st.sl 0 = .ptr gr 0 /\ st.sl 2 = .ptr g2 0 /\ st.sl 3 = .ptr g3 0 /\ st.sl 4 = .ptr g4 0 /\ st.mem = m7.set g4 (.box [c20, c21, c22, c23])) ⟨by first | (simp; done) | (simp [s0]; done), by first | (simp; done) | (simp [s2]; done), by first | (simp; done) | (simp [s3]; done), by simp, by first | (simp; done) | (simp [sm]; done)⟩ ?_
  clear s0 s2 s3 sm;rintro st ⟨s0, s2, s3, s4, sm⟩;generalize m7.set g4 (.box [c20, c21, c22, c23]) = n2 at *;clear hg2;refine rA ?_;simp [s0];refine wA ?_;simp [sm];refine yEa h.ps hT 44 fun m8 a3 b3 hPn hOn run3 => ?_;have h := h.call hgr hOn hPn;clear hPn hOn;try simp
  refine AWp.gen (fun st => st.sl 0 = .ptr gr 0 /\ st.sl 2 = .ptr g2 0 /\ st.sl 3 = .ptr g3 0 /\ st.sl 4 = .ptr g4 0 /\ st.mem = m8) ⟨by first | (simp; done) | (simp [s0]; done), by first | (simp; done) | (simp [s2]; done), by first | (simp; done) | (simp [s3]; done), by first | (simp; done) | (simp [s4]; done), by first | (simp; done) | (simp [sm]; done)⟩ ?_
  clear s0 s2 s3 s4 sm;rintro st ⟨s0, s2, s3, s4, sm⟩;have hb32 : b3 = false -> b2 = false := fun e => by
   cases b2 with
   | false => rfl
   | true => rw [run3.ill (.inl rfl)] at e; cases e
  refine rA ?_;simp [s0];refine wA ?_;simp [sm];refine hS gr T a3 d2 b3 _ h.ps hT (fun e => (hdd2 (hb32 e)).trans (hd rfl)) _ fun m9 F4 r4 e4 a4 d4 b4 hPn hOn hTn run4 hdd4 => ?_;obtain ⟨c40, c41, c42, c43, rfl, o40, o41, o42, o43⟩ := hTn.cs;have h := h.tree hgr hOn hPn hTn;clear hPn hOn hTn;simp [o40, o41, o42, o43];intro g5 hg4;have h := h.box hgr hg4 [c40, c41, c42, c43];refine AWp.gen (fun st => st.sl 0 = .ptr gr 0 /\ st.sl 2 = .ptr g2 0 /\ st.sl 3 = .ptr g3 0 /\ st.sl 4 = .ptr g4 0 /\ st.sl 5 = .ptr g5 0 /\ st.mem = m9.set g5 (.box [c40, c41, c42, c43])) ⟨by first | (simp; done) | (simp [s0]; done), by first | (simp; done) | (simp [s2]; done), by first | (simp; done) | (simp [s3]; done), by first | (simp; done) | (simp [s4]; done), by simp, by first | (simp; done) | (simp [sm]; done)⟩ ?_
  clear s0 s2 s3 s4 sm;rintro st ⟨s0, s2, s3, s4, s5, sm⟩;generalize m9.set g5 (.box [c40, c41, c42, c43]) = n4 at *;clear hg4;refine rA ?_;simp [s0];refine wA ?_;simp [sm];refine yEa h.ps hT 41 fun m10 a5 b5 hPn hOn run5 => ?_;have h := h.call hgr hOn hPn;clear hPn hOn;try simp
  refine AWp.gen (fun st => st.sl 0 = .ptr gr 0 /\ st.sl 2 = .ptr g2 0 /\ st.sl 3 = .ptr g3 0 /\ st.sl 4 = .ptr g4 0 /\ st.sl 5 = .ptr g5 0 /\ st.mem = m10) ⟨by first | (simp; done) | (simp [s0]; done), by first | (simp; done) | (simp [s2]; done), by first | (simp; done) | (simp [s3]; done), by first | (simp; done) | (simp [s4]; done), by first | (simp; done) | (simp [s5]; done), by first | (simp; done) | (simp [sm]; done)⟩ ?_
  clear s0 s2 s3 s4 s5 sm;rintro st ⟨s0, s2, s3, s4, s5, sm⟩;have w4 := h.box1 (g := g4) (cs := [c20, c21, c22, c23]) (by simp);have w5 := h.box1 (g := g5) (cs := [c40, c41, c42, c43]) (by simp);have w3 := h.box1 (g := g3) (cs := [.int .i64 7, .int .i64 0, .str empty, .lst true 0 []]) (by simp);(repeat refine qA ?_);refine AWp.regionN noP (fun i => i == 2) [0, 1, 2, 3, 4] (by kernel_rfl) ?_;simp [s4, s5, sm, w4, w5, zda];intro gL hgL;obtain ⟨F, h⟩ := h.lit2 hgr hgL 26 7;have w3 := h.box1 (g := g3) (cs := [.int .i64 7, .int .i64 0, .str empty, .lst true 0 []]) (by simp);simp [s3, w3];have h := PH.put (l1 := [(g5, [c40, c41, c42, c43]), (g4, [c20, c21, c22, c23])]) (cs' := [.int .i64 7, .int .i64 0, .str empty, .own gL 2 2]) h;generalize (m10.set gL (.arr 26 4 2 [.agg [c20, c21, c22, c23], .agg [c40, c41, c42, c43]])).set g3 (.box [.int .i64 7, .int .i64 0, .str empty, .own gL 2 2]) = m11 at *;have h := h.less (bs' := [(g3, [.int .i64 7, .int .i64 0, .str empty, .own gL 2 2]), (g2, [.int .i64 0, .int .i64 0, .str empty, .lst true 0 []])]) (List.sublist_append_right [(g5, [c40, c41, c42, c43]), (g4, [c20, c21, c22, c23])] _) (List.Sublist.refl _);have w3 := h.box1 (g := g3) (cs := [.int .i64 7, .int .i64 0, .str empty, .own gL 2 2]) (by simp);have w2 := h.box1 (g := g2) (cs := [.int .i64 0, .int .i64 0, .str empty, .lst true 0 []]) (by simp);have h := h.less (bs' := [(g2, [.int .i64 0, .int .i64 0, .str empty, .lst true 0 []])]) (List.sublist_cons_self _ _) (List.Sublist.refl _);refine rA ?_;simp [s2, s3, w2, w3];have q := PH.put (l1 := []) (cs' := [.int .i64 7, .int .i64 0, .str ⟨#[]⟩, .own gL 2 2]) h;refine AWp.ret ⟨[.agg [.int .i64 7, .int .i64 0, .str ⟨#[]⟩, .own gL 2 2]], .agg [.int .i64 7, .int .i64 0, .str ⟨#[]⟩, .own gL 2 2], _, by simp [Tryz.f148, zQa, s2, eE], by (try simp [eE]); exact View.refl _ _, hK _ _ _ _ _ _ _ q.ps q.off (q.tr _ (List.mem_cons_self ..)).1 (zfa.cons hlt (wWb 7 run1 run2 run3 run4 run5) (fun l => wNd (by assumption))) (fun e => by
    have e4 : b4 = false := by cases b4 with | false => rfl | true => rw [run5.ill (.inl rfl)] at e; cases e
    have e3 : b3 = false := by cases b3 with | false => rfl | true => rw [run4.ill (.inl rfl)] at e4; cases e4
    exact (hdd4 e4).trans (hdd2 (hb32 e3)))⟩
 simp [hmin, s0];refine wA ?_;try simp
 refine xrd h.ps xGb ?_;try simp
 by_cases hmax : isT (hdT T a bad) xGb = true
 ·obtain ⟨rfl, hlt, hmx⟩ := zxb hT (by decide) hmax;simp [hmax];refine tA ?_;refine rA ?_;simp;intro g3 hg3;have h := h.box hgr hg3 [.int .i64 7, .int .i64 0, .str empty, .lst true 0 []];refine AWp.gen (fun st => st.sl 0 = .ptr gr 0 /\ st.sl 2 = .ptr g2 0 /\ st.sl 3 = .ptr g3 0 /\ st.mem = m1.set g3 (.box [.int .i64 7, .int .i64 0, .str empty, .lst true 0 []])) ⟨by simp [s0], by simp [s2], by simp, by simp⟩ ?_;generalize m1.set g3 (.box [.int .i64 7, .int .i64 0, .str empty, .lst true 0 []]) = m3 at *;clear s0 s2 sm;rintro st ⟨s0, s2, s3, sm⟩;refine rA ?_;simp [s0];refine wA ?_;simp [sm];refine xrd h.ps xGb ?_;simp [hmax];refine tA ?_;have w3 := h.box1 (g := g3) (cs := [.int .i64 7, .int .i64 0, .str empty, .lst true 0 []]) (by simp);refine rA ?_;simp [s3, w3];have h := PH.put (l1 := []) (cs' := [.int .i64 8, .int .i64 0, .str empty, .lst true 0 []]) h;refine AWp.gen (fun st => st.sl 0 = .ptr gr 0 /\ st.sl 2 = .ptr g2 0 /\ st.sl 3 = .ptr g3 0 /\ st.mem = m3.set g3 (.box [.int .i64 8, .int .i64 0, .str empty, .lst true 0 []])) ⟨by simp [s0], by simp [s2], by simp [s3], by simp⟩ ?_;simp only [List.nil_append] at h;generalize m3.set g3 (.box [.int .i64 8, .int .i64 0, .str empty, .lst true 0 []]) = m4 at *;clear s0 s2 s3 sm hg3;rintro st ⟨s0, s2, s3, sm⟩;have hbx := h.ps.box;have hle := h.ps.le;have hsm := h.ps.small;unfold pc at hbx;have hw : IntKind.wrap .i64 ((a : Int) + 1) = (a : Int) + 1 := zga (by omega) (by omega);refine rA ?_;simp [s0, sm, hbx, hw];have h := h.call hgr (Off.box _ _) (h.ps.step (a + 1) d false (by omega));refine AWp.gen (fun st => st.sl 0 = .ptr gr 0 /\ st.sl 2 = .ptr g2 0 /\ st.sl 3 = .ptr g3 0 /\ st.mem = m4.set gr (.box (pc T (a + 1) d false))) ⟨by first | (simp; done) | (simp [s0]; done), by first | (simp; done) | (simp [s2]; done), by first | (simp; done) | (simp [s3]; done), by first | (simp [pc]; done) | (simp [sm, pc]; done)⟩ ?_
  clear s0 s2 s3 sm;rintro st ⟨s0, s2, s3, sm⟩;generalize m4.set gr (.box (pc T (a + 1) d false)) = m5 at *;clear hbx;refine rA ?_;simp [s0];refine wA ?_;simp [sm];refine yEa h.ps hT 40 fun m6 a1 b1 hPn hOn run1 => ?_;have h := h.call hgr hOn hPn;clear hPn hOn;try simp
  refine AWp.gen (fun st => st.sl 0 = .ptr gr 0 /\ st.sl 2 = .ptr g2 0 /\ st.sl 3 = .ptr g3 0 /\ st.mem = m6) ⟨by first | (simp; done) | (simp [s0]; done), by first | (simp; done) | (simp [s2]; done), by first | (simp; done) | (simp [s3]; done), by first | (simp; done) | (simp [sm]; done)⟩ ?_
  clear s0 s2 s3 sm;rintro st ⟨s0, s2, s3, sm⟩;refine rA ?_;simp [s0];refine wA ?_;simp [sm];refine hS gr T a1 d b1 _ h.ps hT (fun _ => hd rfl) _ fun m7 F2 r2 e2 a2 d2 b2 hPn hOn hTn run2 hdd2 => ?_;obtain ⟨c20, c21, c22, c23, rfl, o20, o21, o22, o23⟩ := hTn.cs;have h := h.tree hgr hOn hPn hTn;clear hPn hOn hTn;simp [o20, o21, o22, o23];intro g4 hg2;have h := h.box hgr hg2 [c20, c21, c22, c23];refine AWp.gen (fun st => st.sl 0 = .ptr gr 0 /\ st.sl 2 = .ptr g2 0 /\ st.sl 3 = .ptr g3 0 /\ st.sl 4 = .ptr g4 0 /\ st.mem = m7.set g4 (.box [c20, c21, c22, c23])) ⟨by first | (simp; done) | (simp [s0]; done), by first | (simp; done) | (simp [s2]; done), by first | (simp; done) | (simp [s3]; done), by simp, by first | (simp; done) | (simp [sm]; done)⟩ ?_
  clear s0 s2 s3 sm;rintro st ⟨s0, s2, s3, s4, sm⟩;generalize m7.set g4 (.box [c20, c21, c22, c23]) = n2 at *;clear hg2;refine rA ?_;simp [s0];refine wA ?_;simp [sm];refine yEa h.ps hT 44 fun m8 a3 b3 hPn hOn run3 => ?_;have h := h.call hgr hOn hPn;clear hPn hOn;try simp
  refine AWp.gen (fun st => st.sl 0 = .ptr gr 0 /\ st.sl 2 = .ptr g2 0 /\ st.sl 3 = .ptr g3 0 /\ st.sl 4 = .ptr g4 0 /\ st.mem = m8) ⟨by first | (simp; done) | (simp [s0]; done), by first | (simp; done) | (simp [s2]; done), by first | (simp; done) | (simp [s3]; done), by first | (simp; done) | (simp [s4]; done), by first | (simp; done) | (simp [sm]; done)⟩ ?_
  clear s0 s2 s3 s4 sm;rintro st ⟨s0, s2, s3, s4, sm⟩;have hb32 : b3 = false -> b2 = false := fun e => by
   cases b2 with
   | false => rfl
   | true => rw [run3.ill (.inl rfl)] at e; cases e
  refine rA ?_;simp [s0];refine wA ?_;simp [sm];refine hS gr T a3 d2 b3 _ h.ps hT (fun e => (hdd2 (hb32 e)).trans (hd rfl)) _ fun m9 F4 r4 e4 a4 d4 b4 hPn hOn hTn run4 hdd4 => ?_;obtain ⟨c40, c41, c42, c43, rfl, o40, o41, o42, o43⟩ := hTn.cs;have h := h.tree hgr hOn hPn hTn;clear hPn hOn hTn;simp [o40, o41, o42, o43];intro g5 hg4;have h := h.box hgr hg4 [c40, c41, c42, c43];refine AWp.gen (fun st => st.sl 0 = .ptr gr 0 /\ st.sl 2 = .ptr g2 0 /\ st.sl 3 = .ptr g3 0 /\ st.sl 4 = .ptr g4 0 /\ st.sl 5 = .ptr g5 0 /\ st.mem = m9.set g5 (.box [c40, c41, c42, c43])) ⟨by first | (simp; done) | (simp [s0]; done), by first | (simp; done) | (simp [s2]; done), by first | (simp; done) | (simp [s3]; done), by first | (simp; done) | (simp [s4]; done), by simp, by first | (simp; done) | (simp [sm]; done)⟩ ?_
  clear s0 s2 s3 s4 sm;rintro st ⟨s0, s2, s3, s4, s5, sm⟩;generalize m9.set g5 (.box [c40, c41, c42, c43]) = n4 at *;clear hg4;refine rA ?_;simp [s0];refine wA ?_;simp [sm];refine yEa h.ps hT 41 fun m10 a5 b5 hPn hOn run5 => ?_;have h := h.call hgr hOn hPn;clear hPn hOn;try simp
  refine AWp.gen (fun st => st.sl 0 = .ptr gr 0 /\ st.sl 2 = .ptr g2 0 /\ st.sl 3 = .ptr g3 0 /\ st.sl 4 = .ptr g4 0 /\ st.sl 5 = .ptr g5 0 /\ st.mem = m10) ⟨by first | (simp; done) | (simp [s0]; done), by first | (simp; done) | (simp [s2]; done), by first | (simp; done) | (simp [s3]; done), by first | (simp; done) | (simp [s4]; done), by first | (simp; done) | (simp [s5]; done), by first | (simp; done) | (simp [sm]; done)⟩ ?_
  clear s0 s2 s3 s4 s5 sm;rintro st ⟨s0, s2, s3, s4, s5, sm⟩;have w4 := h.box1 (g := g4) (cs := [c20, c21, c22, c23]) (by simp);have w5 := h.box1 (g := g5) (cs := [c40, c41, c42, c43]) (by simp);have w3 := h.box1 (g := g3) (cs := [.int .i64 8, .int .i64 0, .str empty, .lst true 0 []]) (by simp);(repeat refine qA ?_);refine AWp.regionN noP (fun i => i == 2) [0, 1, 2, 3, 4] (by kernel_rfl) ?_;simp [s4, s5, sm, w4, w5, zda];intro gL hgL;obtain ⟨F, h⟩ := h.lit2 hgr hgL 26 8;have w3 := h.box1 (g := g3) (cs := [.int .i64 8, .int .i64 0, .str empty, .lst true 0 []]) (by simp);simp [s3, w3];have h := PH.put (l1 := [(g5, [c40, c41, c42, c43]), (g4, [c20, c21, c22, c23])]) (cs' := [.int .i64 8, .int .i64 0, .str empty, .own gL 2 2]) h;generalize (m10.set gL (.arr 26 4 2 [.agg [c20, c21, c22, c23], .agg [c40, c41, c42, c43]])).set g3 (.box [.int .i64 8, .int .i64 0, .str empty, .own gL 2 2]) = m11 at *;have h := h.less (bs' := [(g3, [.int .i64 8, .int .i64 0, .str empty, .own gL 2 2]), (g2, [.int .i64 0, .int .i64 0, .str empty, .lst true 0 []])]) (List.sublist_append_right [(g5, [c40, c41, c42, c43]), (g4, [c20, c21, c22, c23])] _) (List.Sublist.refl _);have w3 := h.box1 (g := g3) (cs := [.int .i64 8, .int .i64 0, .str empty, .own gL 2 2]) (by simp);have w2 := h.box1 (g := g2) (cs := [.int .i64 0, .int .i64 0, .str empty, .lst true 0 []]) (by simp);have h := h.less (bs' := [(g2, [.int .i64 0, .int .i64 0, .str empty, .lst true 0 []])]) (List.sublist_cons_self _ _) (List.Sublist.refl _);refine rA ?_;simp [s2, s3, w2, w3];have q := PH.put (l1 := []) (cs' := [.int .i64 8, .int .i64 0, .str ⟨#[]⟩, .own gL 2 2]) h;refine AWp.ret ⟨[.agg [.int .i64 8, .int .i64 0, .str ⟨#[]⟩, .own gL 2 2]], .agg [.int .i64 8, .int .i64 0, .str ⟨#[]⟩, .own gL 2 2], _, by simp [Tryz.f148, zQa, s2, eE], by (try simp [eE]); exact View.refl _ _, hK _ _ _ _ _ _ _ q.ps q.off (q.tr _ (List.mem_cons_self ..)).1 (zfa.cons hlt (wWb 8 run1 run2 run3 run4 run5) (fun l => wOd (by assumption))) (fun e => by
    have e4 : b4 = false := by cases b4 with | false => rfl | true => rw [run5.ill (.inl rfl)] at e; cases e
    have e3 : b3 = false := by cases b3 with | false => rfl | true => rw [run4.ill (.inl rfl)] at e4; cases e4
    exact (hdd4 e4).trans (hdd2 (hb32 e3)))⟩
 have hmin : isT (hdT T a bad) wjb = false := by simpa using hmin
 have hmax : isT (hdT T a bad) xGb = false := by simpa using hmax
 simp [hmax];refine fA ?_;refine rA ?_;simp [s0];refine wA ?_;try simp
 refine zwb h.ps (ch 40) fun m2 hPn hOn => ?_;have h := h.call hgr hOn hPn;clear hPn hOn;try simp
 cases hpa : isT (hdT T a bad) (ch 40) with
 | true =>
  obtain ⟨rfl, hlt, hmk⟩ := yWa hT hpa;rw [hpa] at h;simp only [if_true] at h;refine tA ?_;refine AWp.gen (fun st => st.sl 0 = .ptr gr 0 /\ st.sl 2 = .ptr g2 0 /\ st.mem = m2) ⟨by simp [s0], by simp [s2], by simp⟩ ?_;clear s0 s2 sm;rintro st ⟨s0, s2, sm⟩;refine rA ?_;simp [s0];refine wA ?_;simp [sm];refine hS gr T (a + 1) d false _ h.ps hT (fun _ => hd rfl) _ fun m7 F1 r1 e1 a1 d1 b1 hPn hOn hTn run1 hdd1 => ?_;obtain ⟨c10, c11, c12, c13, rfl, o10, o11, o12, o13⟩ := hTn.cs;have h := h.tree hgr hOn hPn hTn;clear hPn hOn hTn;simp [o10, o11, o12, o13];intro g6 hg1;have h := h.box hgr hg1 [c10, c11, c12, c13];refine AWp.gen (fun st => st.sl 0 = .ptr gr 0 /\ st.sl 2 = .ptr g2 0 /\ st.sl 6 = .ptr g6 0 /\ st.mem = m7.set g6 (.box [c10, c11, c12, c13])) ⟨by first | (simp; done) | (simp [s0]; done), by first | (simp; done) | (simp [s2]; done), by simp, by first | (simp; done) | (simp [sm]; done)⟩ ?_
  clear s0 s2 sm;rintro st ⟨s0, s2, s6, sm⟩;generalize m7.set g6 (.box [c10, c11, c12, c13]) = n1 at *;clear hg1;refine rA ?_;simp [s0];refine wA ?_;simp [sm];refine yEa h.ps hT 41 fun m8 a2 b2 hPn hOn run2 => ?_;have h := h.call hgr hOn hPn;clear hPn hOn;try simp
  refine AWp.gen (fun st => st.sl 0 = .ptr gr 0 /\ st.sl 2 = .ptr g2 0 /\ st.sl 6 = .ptr g6 0 /\ st.mem = m8) ⟨by first | (simp; done) | (simp [s0]; done), by first | (simp; done) | (simp [s2]; done), by first | (simp; done) | (simp [s6]; done), by first | (simp; done) | (simp [sm]; done)⟩ ?_
  clear s0 s2 s6 sm;rintro st ⟨s0, s2, s6, sm⟩;have w6 := h.box1 (g := g6) (cs := [c10, c11, c12, c13]) (by simp);have w2 := h.box1 (g := g2) (cs := [.int .i64 0, .int .i64 0, .str empty, .lst true 0 []]) (by simp);have h := h.less (bs' := [(g2, [.int .i64 0, .int .i64 0, .str empty, .lst true 0 []])]) (List.sublist_cons_self _ _) (List.Sublist.refl _);refine rA ?_;simp [s2, s6, sm, w2, w6, o10, o11, o12, o13];have q := PH.put (l1 := []) (cs' := [c10, c11, c12, c13]) h;refine AWp.ret ⟨[.agg [c10, c11, c12, c13]], .agg [c10, c11, c12, c13], _, by simp [Tryz.f148, zQa, s2, eE], by (try simp [eE]); exact View.refl _ _, hK _ _ _ _ _ _ _ q.ps q.off (q.tr _ (List.mem_cons_self ..)).1 (zfa.cons hlt (zSc run1 run2) (fun l => wfc hmk)) (fun e => hdd1 (by cases b1 with | false => rfl | true => rw [run2.ill (.inl rfl)] at e; cases e))⟩
 | false =>
 rw [hpa] at h;simp at h;refine fA ?_;refine kA ?_;try simp
 refine AWp.gen (fun st => st.sl 0 = .ptr gr 0 /\ st.sl 2 = .ptr g2 0 /\ st.mem = m2) ⟨by simp [s0], by simp [s2], by simp⟩ ?_;clear s0 s2 sm;rintro st ⟨s0, s2, sm⟩;refine rA ?_;simp [s0];refine wA ?_;simp [sm];refine wdc h.ps 1 (by omega) fun m3 hPn hOn => ?_;have h := h.call hgr hOn hPn;clear hPn hOn;generalize htt : (if (hdT T a bad).k = 1 then hdT T a bad else ⟨0, ⟨#[]⟩, 0⟩ : Tk) = tt at *
 simp [Tk.cells_eq];intro g7 hg7;have h := h.box hgr hg7 [.int .i64 2, .int .i64 0, .str tt.s, .lst true 0 []];refine AWp.gen (fun st => st.sl 0 = .ptr gr 0 /\ st.sl 2 = .ptr g2 0 /\ st.sl 7 = .ptr g7 0 /\ st.mem = m3.set g7 (.box [.int .i64 2, .int .i64 0, .str tt.s, .lst true 0 []])) ⟨by simp [s0], by simp [s2], by simp, by simp⟩ ?_;generalize m3.set g7 (.box [.int .i64 2, .int .i64 0, .str tt.s, .lst true 0 []]) = m4 at *;clear s0 s2 sm hg7;rintro st ⟨s0, s2, s7, sm⟩;by_cases hk1 : (hdT T a bad).k = 1;rotate_left
 ·simp only [hk1, if_false, decide_false, Bool.not_false] at h;have hill : bad = true ∨ yda (yPa k) (T.drop a) = none := by
   cases bad with
   | true => exact .inl rfl
   | false =>
    right;by_cases hlt : a < T.length
    ·have h5 := (xqa hT (by decide) hmin).resolve_left (by simp) hlt;have h6 := (xqa hT (by decide) hmax).resolve_left (by simp) hlt;have h4 := (x9a hT hpa).resolve_left (by simp) hlt;have e := xUa hlt;rw [e] at h2 hk1;exact zTc hlt rfl h2 hk1 h4 h5 h6
    rw [List.drop_eq_nil_of_le (by omega)]; rfl
  refine rA ?_;simp [s0];refine wA ?_;simp [sm];refine zwb h.ps (ch 91) fun m5 hPn hOn => ?_;have h := h.call hgr hOn hPn;clear hPn hOn;have hbd : isT (hdT T a true) (ch 91) = false := by rw [z0b]; rfl
  rw [hbd] at h;simp only [hbd, Bool.false_eq_true, if_false] at h;simp [hbd];refine fA ?_;refine kA ?_;try simp
  have w7 := h.box1 (g := g7) (cs := [.int .i64 2, .int .i64 0, .str tt.s, .lst true 0 []]) (by simp);have w2 := h.box1 (g := g2) (cs := [.int .i64 0, .int .i64 0, .str empty, .lst true 0 []]) (by simp);have h := (h.less (bs' := [(g2, [.int .i64 0, .int .i64 0, .str empty, .lst true 0 []])]) (List.sublist_cons_self _ _) (List.Sublist.refl _)).leaf 2 0 tt.s;refine rA ?_;simp [s2, s7, w2, w7];have q := PH.put (l1 := []) (cs' := [.int .i64 2, .int .i64 0, .str tt.s, .lst true 0 []]) h;refine AWp.ret ⟨[.agg [.int .i64 2, .int .i64 0, .str tt.s, .lst true 0 []]], .agg [.int .i64 2, .int .i64 0, .str tt.s, .lst true 0 []], _, by simp [Tryz.f148, zQa, s2, eE], by (try simp [eE]); exact View.refl _ _, hK _ _ _ _ _ _ _ q.ps q.off (q.tr _ (List.mem_cons_self ..)).1 (wjc hill) (fun e => by cases e)⟩
 obtain ⟨rfl, hlt, ht⟩ := yRe (T := T) (a := a) (bad := bad) (by omega);simp only [hk1, if_true, decide_true, Bool.not_true] at h;rw [if_pos hk1] at htt;have hts : tt = T[a] := by rw [<- htt, ht]
 rw [ht] at hk1;refine rA ?_;simp [s0];refine wA ?_;simp [sm];refine zwb h.ps (ch 91) fun m5 hPn hOn => ?_;have h := h.call hgr hOn hPn;clear hPn hOn;try simp
 cases hbr : isT (hdT T (a + 1) false) (ch 91) with
 | false =>
  rw [hbr] at h;simp only [Bool.false_eq_true, if_false] at h;refine fA ?_;refine kA ?_;try simp
  have w7 := h.box1 (g := g7) (cs := [.int .i64 2, .int .i64 0, .str tt.s, .lst true 0 []]) (by simp);have w2 := h.box1 (g := g2) (cs := [.int .i64 0, .int .i64 0, .str empty, .lst true 0 []]) (by simp);have h := (h.less (bs' := [(g2, [.int .i64 0, .int .i64 0, .str empty, .lst true 0 []])]) (List.sublist_cons_self _ _) (List.Sublist.refl _)).leaf 2 0 tt.s;refine rA ?_;simp [s2, s7, w2, w7];have q := PH.put (l1 := []) (cs' := [.int .i64 2, .int .i64 0, .str tt.s, .lst true 0 []]) h;refine AWp.ret ⟨[.agg [.int .i64 2, .int .i64 0, .str tt.s, .lst true 0 []]], .agg [.int .i64 2, .int .i64 0, .str tt.s, .lst true 0 []], _, by simp [Tryz.f148, zQa, s2, eE], by (try simp [eE]); exact View.refl _ _, hK _ _ _ _ _ _ _ q.ps q.off (q.tr _ (List.mem_cons_self ..)).1 (zfa.cons hlt (whc ((x9a hT hbr).resolve_left (by simp))) (fun l => by rw [hts]; exact xsb hk1)) (fun _ => rfl)⟩
 | true =>
  obtain ⟨_, hlt2, hmk⟩ := yWa hT hbr;rw [hbr] at h;simp only [if_true] at h;refine tA ?_;refine AWp.gen (fun st => st.sl 0 = .ptr gr 0 /\ st.sl 2 = .ptr g2 0 /\ st.sl 7 = .ptr g7 0 /\ st.mem = m5) ⟨by simp [s0], by simp [s2], by simp [s7], by simp⟩ ?_;clear s0 s2 s7 sm;rintro st ⟨s0, s2, s7, sm⟩;refine rA ?_;simp [s0];refine wA ?_;simp [sm];refine hS gr T (a + 1 + 1) d false _ h.ps hT (fun _ => hd rfl) _ fun m7 F1 r1 e1 a1 d1 b1 hPn hOn hTn run1 hdd1 => ?_;obtain ⟨c10, c11, c12, c13, rfl, o10, o11, o12, o13⟩ := hTn.cs;have h := h.tree hgr hOn hPn hTn;clear hPn hOn hTn;simp [o10, o11, o12, o13];intro g8 hg1;have h := h.box hgr hg1 [c10, c11, c12, c13];refine AWp.gen (fun st => st.sl 0 = .ptr gr 0 /\ st.sl 2 = .ptr g2 0 /\ st.sl 7 = .ptr g7 0 /\ st.sl 8 = .ptr g8 0 /\ st.mem = m7.set g8 (.box [c10, c11, c12, c13])) ⟨by first | (simp; done) | (simp [s0]; done), by first | (simp; done) | (simp [s2]; done), by first | (simp; done) | (simp [s7]; done), by simp, by first | (simp; done) | (simp [sm]; done)⟩ ?_
  clear s0 s2 s7 sm;rintro st ⟨s0, s2, s7, s8, sm⟩;generalize m7.set g8 (.box [c10, c11, c12, c13]) = n1 at *;clear hg1;have w8 := h.box1 (g := g8) (cs := [c10, c11, c12, c13]) (by simp);have w7 := h.box1 (g := g7) (cs := [.int .i64 2, .int .i64 0, .str tt.s, .lst true 0 []]) (by simp);have w2 := h.box1 (g := g2) (cs := [.int .i64 0, .int .i64 0, .str empty, .lst true 0 []]) (by simp);have hn78 : g7 ≠ g8 := by
   have := List.pairwise_cons.1 h.bd;exact Ne.symm (this.1 (g7, [.int .i64 2, .int .i64 0, .str tt.s, .lst true 0 []]) (by simp))
  refine AWp.se (Sees.view (t := 8) (by rw [s8]; exact View.fB (g := g8) (cs := [c10, c11, c12, c13]) (by rw [sm]; exact w8))) ?_;have hD : PH m gr T a1 d1 b1 [(g7, [.int .i64 2, .int .i64 0, .str tt.s, .lst true 0 []]), (g2, [.int .i64 0, .int .i64 0, .str empty, .lst true 0 []])] [(F1, .agg [c10, c11, c12, c13], e1)] (n1.del g8) := by
   have hkeep : ∀ x, x ≠ g8 -> (n1.del g8) x = n1 x := fun x hx => by unfold Mem.del; rw [if_neg hx]
   have h9 := h.bx (g8, [c10, c11, c12, c13]) (by simp);have hT1 := h.tr (F1, .agg [c10, c11, c12, c13], e1) (by simp);have hF8 := hT1.2 (g8, [c10, c11, c12, c13]) (by simp);have hbd := List.pairwise_cons.1 h.bd;refine ⟨⟨by rw [hkeep _ (Ne.symm h9.2.1)]; exact h.ps.box, h.ps.le, h.ps.small⟩, fun x b hx hb => ?_, fun b hb => ⟨?_, (h.bx b (by simp at hb ⊢; exact .inr hb)).2⟩, hbd.2, fun t ht => ?_, h.td⟩
   ·rw [hkeep x (by rintro rfl; rw [h9.2.2] at hb; cases hb)];exact h.off x b hx hb
   ·rw [hkeep _ (Ne.symm (hbd.1 b hb))];exact (h.bx b (by simp at hb ⊢; exact .inr hb)).1
   have e : t = (F1, .agg [c10, c11, c12, c13], e1) := by simpa using ht
   subst e;refine ⟨⟨hT1.1.own.mem fun x hx => hkeep x (by rintro rfl; exact hF8 hx), fun x hx => ⟨(hT1.1.new x hx).1, by rw [hkeep x (by rintro rfl; exact hF8 hx)]; exact (hT1.1.new x hx).2⟩⟩, fun b hb => hT1.2 b (by simp at hb ⊢; exact .inr hb)⟩
  refine AWp.gen (fun st => st.sl 0 = .ptr gr 0 /\ st.sl 2 = .ptr g2 0 /\ st.sl 7 = .ptr g7 0 /\ st.sl 8 = .ref [c10, c11, c12, c13] /\ st.mem = n1.del g8) ⟨by simp [s0], by simp [s2], by simp [s7], by simp, by simp [sm]⟩ ?_;clear h w8 w7 w2 s0 s2 s7 s8 sm;generalize n1.del g8 = n2 at *;have h := hD;clear hD;rintro st ⟨s0, s2, s7, s8, sm⟩;have w7 := h.box1 (g := g7) (cs := [.int .i64 2, .int .i64 0, .str tt.s, .lst true 0 []]) (by simp);(repeat refine qA ?_);refine AWp.rG (fun _ => false) (fun i => i == 0 || i == 1) [0, 2, 3, 1, 4, 5] [2, 3, 0, 1, 4, 5] (by kernel_rfl) ?_;simp [s7, s8, sm, w7, zda, o10, o11, o12, o13];intro gL hgL;have h := PH.put (l1 := []) (cs' := [.int .i64 3, .int .i64 0, .str tt.s, .lst true 0 []]) h;simp only [List.nil_append] at h;obtain ⟨F, h⟩ := h.lit1 hgr hgL 26 3 tt.s;have w7 := h.box1 (g := g7) (cs := [.int .i64 3, .int .i64 0, .str tt.s, .lst true 0 []]) (by simp);simp [w7];have h := PH.put (l1 := []) (cs' := [.int .i64 3, .int .i64 0, .str tt.s, .own gL 1 1]) h;simp only [List.nil_append] at h;refine AWp.gen (fun st => st.sl 0 = .ptr gr 0 /\ st.sl 2 = .ptr g2 0 /\ st.sl 7 = .ptr g7 0 /\ st.mem = ((n2.set g7 (.box [.int .i64 3, .int .i64 0, .str tt.s, .lst true 0 []])).set gL (.arr 26 4 1 [.agg [c10, c11, c12, c13]])).set g7 (.box [.int .i64 3, .int .i64 0, .str tt.s, .own gL 1 1])) ⟨by simp [s0], by simp [s2], by simp [s7], by simp⟩ ?_;generalize ((n2.set g7 (.box [.int .i64 3, .int .i64 0, .str tt.s, .lst true 0 []])).set gL (.arr 26 4 1 [.agg [c10, c11, c12, c13]])).set g7 (.box [.int .i64 3, .int .i64 0, .str tt.s, .own gL 1 1]) = n3 at *;clear s0 s2 s7 s8 sm w7 hgL;rintro st ⟨s0, s2, s7, sm⟩;refine rA ?_;simp [s0];refine wA ?_;simp [sm];refine yEa h.ps hT 93 fun m9 a2 b2 hPn hOn run2 => ?_;have h := h.call hgr hOn hPn;clear hPn hOn;try simp
  refine AWp.gen (fun st => st.sl 0 = .ptr gr 0 /\ st.sl 2 = .ptr g2 0 /\ st.sl 7 = .ptr g7 0 /\ st.mem = m9) ⟨by first | (simp; done) | (simp [s0]; done), by first | (simp; done) | (simp [s2]; done), by first | (simp; done) | (simp [s7]; done), by first | (simp; done) | (simp [sm]; done)⟩ ?_
  clear s0 s2 s7 sm;rintro st ⟨s0, s2, s7, sm⟩;have w7 := h.box1 (g := g7) (cs := [.int .i64 3, .int .i64 0, .str tt.s, .own gL 1 1]) (by simp);have w2 := h.box1 (g := g2) (cs := [.int .i64 0, .int .i64 0, .str empty, .lst true 0 []]) (by simp);have h := h.less (bs' := [(g2, [.int .i64 0, .int .i64 0, .str empty, .lst true 0 []])]) (List.sublist_cons_self _ _) (List.Sublist.refl _);refine rA ?_;simp [s2, s7, sm, w2, w7];have q := PH.put (l1 := []) (cs' := [.int .i64 3, .int .i64 0, .str tt.s, .own gL 1 1]) h;refine AWp.ret ⟨[.agg [.int .i64 3, .int .i64 0, .str tt.s, .own gL 1 1]], .agg [.int .i64 3, .int .i64 0, .str tt.s, .own gL 1 1], _, by simp [Tryz.f148, zQa, s2, eE], by (try simp [eE]); exact View.refl _ _, hK _ _ _ _ _ _ _ q.ps q.off (q.tr _ (List.mem_cons_self ..)).1 (zfa.cons hlt (wic hlt2 hmk (ydd tt.s run1 run2)) (fun l => by rw [hts]; exact xsb hk1)) (fun e => hdd1 (by cases b1 with | false => rfl | true => rw [run2.ill (.inl rfl)] at e; cases e))⟩
end Go.T
