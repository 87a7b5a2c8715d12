/- Parts of the proof of FnParsed: Names put in order: what the reference computes. -/
import Derived.Test.YtdbnllfjmkmdiaaGreatDoorG10
import Derived.Test.YtdbnllfjmkmdiaaGreatDoorG4
import Derived.Shelf.Lay
import Derived.Ground.NamesProg
import Derived.Shelf.Sort.Plain
import Derived.Shelf.Slices.In.SortNone
import Derived.Shelf.Slices.CompactS
import Derived.Shelf.Spec.SlicesGrow
import Derived.WalkKit
set_option linter.unusedSimpArgs false
set_option linter.unusedVariables false
namespace Go.T
open Go Go.Proofs
set_option maxRecDepth 10000
set_option maxHeartbeats 1000000
abbrev GS (m0 : Mem) (xs : List ByteArray) (v : AV) (m : Mem) : Prop := Grows 9 1 m0 (xs.map .str) v m
theorem GS.push {m0 m : Mem} {xs : List ByteArray} {v : AV} (h : GS m0 xs v m) (s : ByteArray) (hb : xs.length <= 16777216) {k : AV -> Mem -> Prop} (hk : ∀ v' m', GS m0 (xs ++ [s]) v' m' -> k v' m') : zNa Tryz.prog m k #[70, 70] v (.lst true 1 [.str s]) := by
 refine Grows.append et_70 h (ys := [.str s]) rfl (by simp) (by simp; omega) (fun v' m' hg => hk v' m' ?_) _ rfl;simpa [GS] using hg
theorem GS.app {m0 m : Mem} {xs : List ByteArray} {v : AV} (h : GS m0 xs v m) (f : Bool) (ys : List ByteArray) (hb : xs.length + ys.length <= 16777216) {k : AV -> Mem -> Prop} (hk : ∀ v' m', GS m0 (xs ++ ys) v' m' -> k v' m') : zNa Tryz.prog m k #[70, 70] v (.lst f 1 (ys.map .str)) := by
 refine Grows.append et_70 h (ys := ys.map .str) rfl (by simp) (by simp; omega) (fun v' m' hg => hk v' m' ?_) _ rfl;simpa [GS] using hg
theorem GS.ext {m0 m : Mem} {xs : List ByteArray} {v : AV} (h : GS m0 xs v m) : Ext m0 m := by
 cases h with
 | lit _ _ _ h => exact h
 | own _ _ _ _ _ _ _ h => exact h
theorem GS.view {m0 m : Mem} {xs : List ByteArray} {v : AV} (h : GS m0 xs v m) : View m v m0 (strs xs) := Grows.view h
def wJd (l : List ByteArray) (s : ByteArray) (i : Nat) (rest : Bool -> List ByteArray) (b : Nat) (st : St) : Prop := ∃ (acc : List ByteArray) (done : Bool) (v : AV), st.sl 0 = .lst false 1 (l.map .str) /\ st.sl 1 = .str s /\ st.sl 5 = v /\ GS (fun _ => none) acc v st.mem /\
 st.sl 6 = .bool done /\ st.sl 7 = .int .i64 i /\ wia l s = acc ++ rest done /\ acc.length <= b
theorem yFd (l : List ByteArray) (s : ByteArray) (hl : l.length <= 8388600) : zca Tryz.prog 103 [strs l, .str s] (strs (wia l s)) := by
 refine pO Tryz.func103 ?_;refine rA ?_;try simp
 refine rA ?_;simp [strs];refine rA ?_;try simp
 refine rA ?_;try simp
 (repeat refine qA ?_);refine AWp.block (AWp.ro (fun m st => ∃ (i : Nat), m = l.length - i /\ i <= l.length /\ wJd l s i (xsa s (l.drop i)) (2 * i) st) l.length
  ⟨0, by simp, by simp, [], false, .lst true 1 [], by (simp [strs]), by simp, by simp, .lit 1 _ (.inl rfl) (by simp; exact Ext.refl _), by simp, by simp, by simp [wia], by simp⟩ ?_)
 rintro R m st hR ⟨i, rfl, hi, acc, done, v, s0, s1, s5, hG, s6, s7, hr, ha⟩;refine rA ?_;simp [s0, s7];(repeat refine qA ?_);refine AWp.cond (b := decide (i < l.length)) (by simp) (fun hb => ?_) (fun hb => ?_)
 ·simp at hb;have hg : l[i]? = some l[i] := gE hb;have hdr : l.drop i = l[i] :: l.drop (i + 1) := List.drop_eq_getElem_cons hb;rw [hdr, xsa] at hr;have hx : ∀ m, yga Tryz.prog m 70 (.lst false 1 (l.map .str)) (.int .i64 i) = some (.ref [.str l[i]]) := fun m => idx (y := .str l[i]) es_70 (by simp [hg]);have hw := iA i (by omega);refine kA ?_;try simp
  refine qA ?_; refine bA ?_;refine qA ?_;refine AWp.cA (wJd l s i (fun d => (if l[i] = s then [] else [l[i]]) ++ xsa s (l.drop (i + 1)) d) (2 * i + 1)) ?_ ?_
  ·refine rA ?_;cases done with
   | true =>
    simp [s0, s1, s6, s7, hx];refine fA ?_;refine kA ?_;try simp
    refine ⟨acc, true, v, by simp [s0], by simp [s1], by simp [s5], by simpa using hG, by simp [s6], by simp [s7], by simpa using hr, by omega⟩
   | false =>
    have hb0 : Op.bytesLess l[i].toList s.toList = blt l[i] s := rfl;simp [s0, s1, s6, s7, hx, hb0];cases hbl : blt l[i] s
    ·refine tA ?_;refine rA ?_;simp [s5, s1];refine hG.push s (by omega) fun v' m' hG' => ?_;try simp
     refine rA ?_;try simp
     refine ⟨acc ++ [s], true, v', by simp [s0], by simp [s1], by simp, by simpa using hG', by simp, by simp [s7], ?_, by simp; omega⟩;rw [hr, hbl]; simp
    refine fA ?_;refine kA ?_;try simp
    refine ⟨acc, false, v, by simp [s0], by simp [s1], by simp [s5], by simpa using hG, by simp [s6], by simp [s7], ?_, by omega⟩;rw [hr, hbl]; simp
  clear s0 s1 s5 hG s6 s7 hr ha;rintro st ⟨acc, done, v, s0, s1, s5, hG, s6, s7, hr, ha⟩;refine rA ?_;simp [s0, s1, s7, hx];(repeat refine qA ?_);refine AWp.cond (b := !decide (l[i] = s)) (by simp) (fun he => ?_) (fun he => ?_)
  ·simp at he;refine rA ?_;simp [s0, s5, s7, hx];refine hG.push l[i] (by omega) fun v' m' hG' => ?_;try simp
   refine rA ?_;simp [s7, hw];refine hR _ (l.length - (i + 1)) (by omega) ⟨i + 1, rfl, hb, acc ++ [l[i]], done, v', by simp [s0], by simp [s1], by simp, by simpa using hG', by simp [s6], by simp, ?_, by simp; omega⟩;rw [hr, if_neg he]; simp
  simp at he;refine kA ?_;try simp
  refine rA ?_;simp [s7, hw];refine hR _ (l.length - (i + 1)) (by omega) ⟨i + 1, rfl, hb, acc, done, v, by simp [s0], by simp [s1], by simp [s5], by simpa using hG, by simp [s6], by simp, ?_, by omega⟩;rw [hr, if_pos he]; simp
 simp at hb;refine eA ?_;try simp
 refine rA ?_;have hil : i = l.length := by omega
 subst hil;simp [xsa] at hr;simp [s6];cases done with
 | true =>
  refine fA ?_;refine kA ?_;try simp
  refine rA ?_;simp [s5];simp at hr;exact AWp.ret (zea rfl ⟨.lst false 1 (acc.map .str), _, by simpa [strs] using hG.view, by simp [hr]⟩)
 | false =>
  refine tA ?_;refine rA ?_;simp [s5, s1];refine hG.push s (by omega) fun v' m' hG' => ?_;try simp
  refine rA ?_;try simp
  simp at hr;exact AWp.ret (zea rfl ⟨.lst false 1 ((acc ++ [s]).map .str), _, by simpa [strs] using hG'.view, by simp [hr]⟩)
theorem x5a {out xs ys : List ByteArray} {B : Nat} (h : out.length + (xs ++ ys).length <= B) : (xs.foldl wia out).length + ys.length <= B := by
 have := wQb xs out;rw [List.length_append] at h;omega
theorem x3d (e : Ex) (q : Int) (ht : e.tot <= 1048576) (h : ∀ x ∈ e.l, ∀ out : List ByteArray, out.length + (x.pre q).length <= 8388600 -> zca Tryz.prog 105 [strs out, x.av, .int .i64 q] (strs ((x.pre q).foldl wia out)))
  (out : List ByteArray) (hb : out.length + (e.pre q).length <= 8388600) : zca Tryz.prog 105 [strs out, e.av, .int .i64 q] (strs ((e.pre q).foldl wia out)) := by
 have hlen := e.len_l;rw [e.pre_eq] at hb;have hb2 := x5a hb;rw [e.pre_eq, List.foldl_append];refine pO Tryz.func105 ?_;unfold Ex.av;refine rA ?_;simp;intro g;refine qA ?_;refine AWp.cA (fun st => st.sl 0 = strs ((one (e.k = q) e.s).foldl wia out) /\ st.sl 4 = .ptr g 0 /\ st.sl 2 = .int .i64 q /\ st.mem g = some (.box e.cells)) ?_ ?_
 ·refine rA ?_;simp;(repeat refine qA ?_);refine AWp.cond (b := decide (e.k = q)) (by simp) (fun hk => ?_) (fun hk => ?_)
  ·simp at hk;refine raA ?_;simp;refine oC' (yFd out e.s (by omega)) ?_;simp [one, hk]
  simp at hk;refine kA ?_;simp [one, hk]
 generalize (one (e.k = q) e.s).foldl wia out = out1 at hb2 ⊢;rintro st ⟨s0, s4, s2, sg⟩;refine rA ?_;simp;(repeat refine qA ?_);refine AWp.block (AWp.ro (fun m st => ∃ (i : Nat) (acc : List ByteArray), m = e.l.length - i /\ i <= e.l.length /\ st.sl 0 = strs acc /\ st.sl 4 = .ptr g 0 /\ st.sl 2 = .int .i64 q /\ st.mem g = some (.box e.cells) /\ st.sl 7 = .int .i64 i /\
  (Ex.pres q e.l).foldl wia out1 = (Ex.pres q (e.l.drop i)).foldl wia acc /\ acc.length + (Ex.pres q (e.l.drop i)).length <= 8388600) e.l.length ⟨0, out1, by simp, by simp, by simp [s0], by simp [s4], by simp [s2], by simp [sg], by simp, by simp, by simpa using hb2⟩ ?_)
 clear s0 s4 s2 sg hb2;rintro R m st hR ⟨i, acc, rfl, hi, s0, s4, s2, sg, s7, hr, ha⟩;refine rA ?_;simp [s4, sg, s7];(repeat refine qA ?_);refine AWp.cond (b := decide (i < e.l.length)) (by simp) (fun hb => ?_) (fun hb => ?_)
 ·simp at hb;have hg : e.l[i]? = some e.l[i] := gE hb;have hdr : e.l.drop i = e.l[i] :: e.l.drop (i + 1) := List.drop_eq_getElem_cons hb;rw [hdr, Ex.pres] at ha hr;have ha2 := x5a ha;rw [List.length_append] at ha;refine kA ?_;simp;(repeat refine qA ?_);refine bA ?_;refine raA ?_;have hx : yga Tryz.prog st.mem 24 (.lst false 4 (e.l.map Ex.av)) (.int .i64 i) = some (.ref e.l[i].cells) := idx (y := e.l[i].av) es_24 (by simp [hg]);simp [s0, s2, s4, sg, s7, hx];refine oC' (h e.l[i] (List.getElem_mem _) acc (by omega)) ?_;simp;refine rA ?_;have hw := iA i (by omega);simp [s7, hw];exact hR _ (e.l.length - (i + 1)) (by omega) ⟨i + 1, _, rfl, hb, by simp, by simp [s4], by simp [s2], by simp [sg], by simp, by rw [hr, List.foldl_append], ha2⟩
 simp at hb;refine eA ?_;simp;refine rA ?_;simp [s0];have : i = e.l.length := by omega
 subst this;simp [Ex.pres] at hr;exact AWp.ret (pR1 rfl (by simp [hr]))
theorem zdc (e : Ex) (q : Int) : e.tot <= 1048576 -> ∀ out : List ByteArray, out.length + (e.pre q).length <= 8388600 -> zca Tryz.prog 105 [strs out, e.av, .int .i64 q] (strs ((e.pre q).foldl wia out)) := by
 induction e using Ex.ind' with | h e h =>
 intro ht out hb;refine x3d e q ht (fun x hx => h x hx ?_) out hb;have := zoa Ex.tot hx;have := e.tot_l;omega
theorem wvb (l : List Sm) (q : Int) (ht : zAa Sm.tot l <= 1048576) (h : ∀ x ∈ l, ∀ out : List ByteArray, out.length + (Sm.namesL q x.body).length <= 8388600 -> zca Tryz.prog 45 [strs out, .lst false 19 (x.body.map Sm.av), .int .i64 q] (strs ((Sm.namesL q x.body).foldl wia out)))
  (out : List ByteArray) (hb : out.length + (Sm.namesL q l).length <= 8388600) : zca Tryz.prog 45 [strs out, .lst false 19 (l.map Sm.av), .int .i64 q] (strs ((Sm.namesL q l).foldl wia out)) := by
 have hlen := zua Sm.tot l;refine pO Tryz.func45 ?_;refine rA ?_;simp;refine rA ?_;simp;(repeat refine qA ?_);refine AWp.block (AWp.ro (fun m st => ∃ (i : Nat) (acc : List ByteArray), m = l.length - i /\ i <= l.length /\ st.sl 0 = strs acc /\ st.sl 1 = .lst false 19 (l.map Sm.av) /\ st.sl 2 = .int .i64 q /\ st.sl 7 = .int .i64 i /\
  (Sm.namesL q l).foldl wia out = (Sm.namesL q (l.drop i)).foldl wia acc /\ acc.length + (Sm.namesL q (l.drop i)).length <= 8388600) l.length ⟨0, out, by simp, by simp, by simp, by simp, by simp, by simp, by simp, by simpa using hb⟩ ?_)
 rintro R m st hR ⟨i, acc, rfl, hi, s0, s1, s2, s7, hr, ha⟩;refine rA ?_;simp [s1, s7];(repeat refine qA ?_);refine AWp.cond (b := decide (i < l.length)) (by simp) (fun hb => ?_) (fun hb => ?_)
 ·simp at hb;have hg : l[i]? = some l[i] := gE hb;have hdr : l.drop i = l[i] :: l.drop (i + 1) := List.drop_eq_getElem_cons hb;have htm := zoa Sm.tot (List.getElem_mem hb);have htp := l[i].tot_parts;rw [hdr] at ha hr;rw [Sm.namesL, Sm.names_eq] at ha hr;simp only [List.append_assoc] at ha hr;have hx : yga Tryz.prog st.mem 30 (.lst false 19 (l.map Sm.av)) (.int .i64 i) = some (.ref l[i].cells) := idx (y := l[i].av) es_30 (by simp [hg]);have hx' : ∀ m, yga Tryz.prog m 30 (.lst false 19 (l.map Sm.av)) (.int .i64 i) = some (.ref l[i].cells) := fun m => idx (y := l[i].av) es_30 (by simp [hg]);have hw := iA i (by omega);refine kA ?_;simp;refine qA ?_; refine bA ?_;refine qA ?_;refine AWp.cA (fun st => st.sl 0 = strs ((one (l[i].k = q) l[i].s).foldl wia acc) /\ st.sl 1 = .lst false 19 (l.map Sm.av) /\ st.sl 2 = .int .i64 q /\ st.sl 7 = .int .i64 i) ?_ ?_
  ·refine rA ?_;simp [s1, s2, s7, hx];(repeat refine qA ?_);refine AWp.cond (b := decide (l[i].k = q)) (by simp) (fun hk => ?_) (fun hk => ?_)
   ·simp at hk;refine raA ?_;simp [s0, s1, s7, hx];refine oC' (yFd acc l[i].s (by omega)) ?_;simp [one, hk, s1, s2, s7]
   simp at hk;refine kA ?_;simp [one, hk, s0, s1, s2, s7]
  have ha1 := x5a ha;rw [List.foldl_append] at hr;generalize (one (l[i].k = q) l[i].s).foldl wia acc = acc1 at ha1 hr ⊢;clear s0 s1 s2 s7 ha hx;rintro st ⟨s0, s1, s2, s7⟩;have ha2 := x5a ha1;rw [List.length_append] at ha1;rw [List.foldl_append] at hr;refine raA ?_;simp [s0, s1, s2, s7, hx'];refine oC' (h l[i] (List.getElem_mem _) acc1 (by omega)) ?_;simp;refine rA ?_;simp [s7, hw];exact hR _ (l.length - (i + 1)) (by omega) ⟨i + 1, _, rfl, hb, by simp, by simp [s1], by simp [s2], by simp, hr, ha2⟩
 simp at hb;refine eA ?_;simp;refine rA ?_;simp [s0];have : i = l.length := by omega
 subst this;simp [Sm.namesL] at hr;exact AWp.ret (pR1 rfl (by simp [hr]))
theorem w7c (e : Sm) (q : Int) : e.tot <= 1048576 -> ∀ out : List ByteArray, out.length + (Sm.namesL q e.body).length <= 8388600 -> zca Tryz.prog 45 [strs out, .lst false 19 (e.body.map Sm.av), .int .i64 q] (strs ((Sm.namesL q e.body).foldl wia out)) := by
 induction e using Sm.ind' with | h e h =>
 intro ht;have := e.tot_body;exact wvb e.body q (by omega) (fun x hx => h x hx (by have := zoa Sm.tot hx; omega))
theorem xjb (l : List Sm) (q : Int) (ht : zAa Sm.tot l <= 1048576) (out : List ByteArray) (hb : out.length + (Sm.namesL q l).length <= 8388600) : zca Tryz.prog 45 [strs out, .lst false 19 (l.map Sm.av), .int .i64 q] (strs ((Sm.namesL q l).foldl wia out)) :=
 wvb l q ht (fun x hx => w7c x q (by have := zoa Sm.tot hx; omega)) out hb
theorem ymc (l : List Sm) (q : Int) (ht : zAa Sm.tot l <= 1048576) (h : ∀ x ∈ l, ∀ out : List ByteArray, out.length + (Sm.expsL (Ex.pre q) x.body).length <= 8388600 -> zca Tryz.prog 47 [strs out, .lst false 19 (x.body.map Sm.av), .int .i64 q] (strs ((Sm.expsL (Ex.pre q) x.body).foldl wia out)))
  (out : List ByteArray) (hb : out.length + (Sm.expsL (Ex.pre q) l).length <= 8388600) : zca Tryz.prog 47 [strs out, .lst false 19 (l.map Sm.av), .int .i64 q] (strs ((Sm.expsL (Ex.pre q) l).foldl wia out)) := by
 have hlen := zua Sm.tot l;refine pO Tryz.func47 ?_;refine rA ?_;simp;refine rA ?_;simp;(repeat refine qA ?_);refine AWp.block (AWp.ro (fun m st => ∃ (i : Nat) (acc : List ByteArray), m = l.length - i /\ i <= l.length /\ st.sl 0 = strs acc /\ st.sl 1 = .lst false 19 (l.map Sm.av) /\ st.sl 2 = .int .i64 q /\ st.sl 7 = .int .i64 i /\
  (Sm.expsL (Ex.pre q) l).foldl wia out = (Sm.expsL (Ex.pre q) (l.drop i)).foldl wia acc /\ acc.length + (Sm.expsL (Ex.pre q) (l.drop i)).length <= 8388600) l.length ⟨0, out, by simp, by simp, by simp, by simp, by simp, by simp, by simp, by simpa using hb⟩ ?_)
 rintro R m st hR ⟨i, acc, rfl, hi, s0, s1, s2, s7, hr, ha⟩;refine rA ?_;simp [s1, s7];(repeat refine qA ?_);refine AWp.cond (b := decide (i < l.length)) (by simp) (fun hb => ?_) (fun hb => ?_)
 ·simp at hb;have hg : l[i]? = some l[i] := gE hb;have hdr : l.drop i = l[i] :: l.drop (i + 1) := List.drop_eq_getElem_cons hb;have htm := zoa Sm.tot (List.getElem_mem hb);have htp := l[i].tot_parts;rw [hdr] at ha hr;rw [Sm.expsL, Sm.exps_eq] at ha hr;simp only [List.append_assoc] at ha hr;have hx : yga Tryz.prog st.mem 30 (.lst false 19 (l.map Sm.av)) (.int .i64 i) = some (.ref l[i].cells) := idx (y := l[i].av) es_30 (by simp [hg]);have hx' : ∀ m, yga Tryz.prog m 30 (.lst false 19 (l.map Sm.av)) (.int .i64 i) = some (.ref l[i].cells) := fun m => idx (y := l[i].av) es_30 (by simp [hg]);have hw := iA i (by omega);refine kA ?_;simp;(repeat refine qA ?_);refine bA ?_;have hz1 := x5a ha;rw [List.length_append] at ha;rw [List.foldl_append] at hr;refine raA ?_;simp [s0, s1, s2, s7, hx'];refine oC' (zdc l[i].a q (by omega) _ (by omega)) ?_;simp;generalize (Ex.pre q l[i].a).foldl wia acc = acc1 at hz1 hr ⊢;clear ha;have ha := hz1;clear hz1;have hz2 := x5a ha;rw [List.length_append] at ha;rw [List.foldl_append] at hr;refine raA ?_;simp [s0, s1, s2, s7, hx'];refine oC' (zdc l[i].e q (by omega) _ (by omega)) ?_;simp;generalize (Ex.pre q l[i].e).foldl wia acc1 = acc2 at hz2 hr ⊢;clear ha;have ha := hz2;clear hz2;have hz3 := x5a ha;rw [List.length_append] at ha;rw [List.foldl_append] at hr;refine raA ?_;simp [s0, s1, s2, s7, hx'];refine oC' (zdc l[i].lo q (by omega) _ (by omega)) ?_;simp;generalize (Ex.pre q l[i].lo).foldl wia acc2 = acc3 at hz3 hr ⊢;clear ha;have ha := hz3;clear hz3;have hz4 := x5a ha;rw [List.length_append] at ha;rw [List.foldl_append] at hr;refine raA ?_;simp [s0, s1, s2, s7, hx'];refine oC' (zdc l[i].hi q (by omega) _ (by omega)) ?_;simp;generalize (Ex.pre q l[i].hi).foldl wia acc3 = acc4 at hz4 hr ⊢;clear ha;have ha := hz4;clear hz4;have hz := x5a ha;rw [List.length_append] at ha;rw [List.foldl_append] at hr;refine raA ?_;simp [s0, s1, s2, s7, hx'];refine oC' (h l[i] (List.getElem_mem _) acc4 (by omega)) ?_;simp;refine rA ?_;simp [s7, hw];exact hR _ (l.length - (i + 1)) (by omega) ⟨i + 1, _, rfl, hb, by simp, by simp [s1], by simp [s2], by simp, hr, hz⟩
 simp at hb;refine eA ?_;simp;refine rA ?_;simp [s0];have : i = l.length := by omega
 subst this;simp [Sm.expsL] at hr;exact AWp.ret (pR1 rfl (by simp [hr]))
theorem yGd (e : Sm) (q : Int) : e.tot <= 1048576 -> ∀ out : List ByteArray, out.length + (Sm.expsL (Ex.pre q) e.body).length <= 8388600 -> zca Tryz.prog 47 [strs out, .lst false 19 (e.body.map Sm.av), .int .i64 q] (strs ((Sm.expsL (Ex.pre q) e.body).foldl wia out)) := by
 induction e using Sm.ind' with | h e h =>
 intro ht;have := e.tot_body;exact ymc e.body q (by omega) (fun x hx => h x hx (by have := zoa Sm.tot hx; omega))
theorem x6c (l : List Sm) (q : Int) (ht : zAa Sm.tot l <= 1048576) (out : List ByteArray) (hb : out.length + (Sm.expsL (Ex.pre q) l).length <= 8388600) : zca Tryz.prog 47 [strs out, .lst false 19 (l.map Sm.av), .int .i64 q] (strs ((Sm.expsL (Ex.pre q) l).foldl wia out)) :=
 ymc l q ht (fun x hx => yGd x q (by have := zoa Sm.tot hx; omega)) out hb
theorem zec (l : List Sm) (ht : zAa Sm.tot l <= 1048576) : zca Tryz.prog 43 [.lst false 19 (l.map Sm.av)] (strs (zCa (Sm.namesL 1 l))) := by
 have hb : (Sm.namesL 1 l).length <= 8388600 := by have := Sm.namesL_len 1 l; have := Sm.tots_eq l; omega
 have c1 := xjb l 1 ht [] (by simpa using hb);replace c1 := c1.arg (.cons (Le.lst true _ _) (.cons (Le.refl _) (.cons (Le.refl _) .nil)));refine pO Tryz.func43 ?_;refine rA ?_;simp;refine raA ?_;simp;refine oC' c1 ?_;simp;exact AWp.ret (pR1 rfl (by simp [zCa]))
theorem xkb (l : List Sm) (ht : zAa Sm.tot l <= 1048576) : zca Tryz.prog 44 [.lst false 19 (l.map Sm.av)] (strs (zCa (Sm.namesL 3 l))) := by
 have hb : (Sm.namesL 3 l).length <= 8388600 := by have := Sm.namesL_len 3 l; have := Sm.tots_eq l; omega
 have c1 := xjb l 3 ht [] (by simpa using hb);replace c1 := c1.arg (.cons (Le.lst true _ _) (.cons (Le.refl _) (.cons (Le.refl _) .nil)));refine pO Tryz.func44 ?_;refine rA ?_;simp;refine raA ?_;simp;refine oC' c1 ?_;simp;exact AWp.ret (pR1 rfl (by simp [zCa]))
theorem ync (l : List Sm) (ht : zAa Sm.tot l <= 1048576) : zca Tryz.prog 49 [.lst false 19 (l.map Sm.av)] (strs (zCa (Sm.expsL (Ex.pre 2) l))) := by
 have hb : (Sm.expsL (Ex.pre 2) l).length <= 8388600 := by have := Sm.expsL_len (f := Ex.pre 2) (fun e => Ex.pre_len 2 e) l; have := Sm.tots_eq l; omega
 have c1 := x6c l 2 ht [] (by simpa using hb);replace c1 := c1.arg (.cons (Le.lst true _ _) (.cons (Le.refl _) (.cons (Le.refl _) .nil)));refine pO Tryz.func49 ?_;refine rA ?_;simp;refine raA ?_;simp;refine oC' c1 ?_;simp;exact AWp.ret (pR1 rfl (by simp [zCa]))
theorem yoc (p : Pg) (s : ByteArray) (ht : p.arrs.length <= 1048576) : zca Tryz.prog 104 [p.av, .str s] (.int .i64 (at_ p.arrNames s)) := by
 refine pO Tryz.func104 ?_;have hc : p.cells = [.lst false 2 (p.arrs.map Ar.av), .lst false 19 (p.body.map Sm.av)] := rfl;unfold Pg.av;rw [hc];have hn : p.arrNames.length = p.arrs.length := by unfold Pg.arrNames; simp
 refine rA ?_;try simp
 intro g;refine rA ?_;try simp
 (repeat refine qA ?_);refine AWp.block (AWp.ro (fun m st => ∃ (i : Nat), m = p.arrs.length - i /\ i <= p.arrs.length /\ st.sl 2 = .ptr g 0 /\ st.mem g = some (.box [.lst false 2 (p.arrs.map Ar.av), .lst false 19 (p.body.map Sm.av)]) /\ st.sl 5 = .int .i64 i /\ st.sl 1 = .str s /\ at_ p.arrNames s = xNa i (p.arrNames.drop i) s) p.arrs.length ⟨0, by simp, by simp, by simp, by simp, by simp, by simp, by simp [at_]⟩ ?_);rintro R m st hR ⟨i, rfl, hi, s2, sg, s5, s1, hr⟩;refine rA ?_;simp [s2, sg, s5];(repeat refine qA ?_);refine AWp.cond (b := decide (i < p.arrs.length)) (by simp) (fun hb => ?_) (fun hb => ?_)
 ·simp at hb;have hg : p.arrs[i]? = some p.arrs[i] := gE hb;have hdr : p.arrNames.drop i = p.arrs[i].s :: p.arrNames.drop (i + 1) := by
   rw [List.drop_eq_getElem_cons (by rw [hn]; exact hb)]; simp [Pg.arrNames]
  have hz : at_ p.arrNames s = if p.arrs[i].s = s then (i : Int) else xNa (i + 1) (p.arrNames.drop (i + 1)) s := by rw [hr, hdr, xNa]
  have hx : yga Tryz.prog st.mem 29 (.lst false 2 (p.arrs.map Ar.av)) (.int .i64 i) = some (.ref [.str p.arrs[i].s, .int .i64 p.arrs[i].n]) := idx (y := p.arrs[i].av) es_29 (by simp [hg]);refine kA ?_;try simp
  (repeat refine qA ?_);refine bA ?_;refine rA ?_;simp [s2, sg, s5, s1, hx];(repeat refine qA ?_);refine AWp.cond (b := decide (p.arrs[i].s = s)) (by simp) (fun he => ?_) (fun he => ?_)
  ·simp at he;refine rA ?_;simp [s5];exact AWp.ret (pR1 rfl (by simp [hz, he]))
  simp at he;refine kA ?_;try simp
  refine rA ?_;have hw := iA i (by omega);simp [s5, hw];exact hR _ (p.arrs.length - (i + 1)) (by omega) ⟨i + 1, rfl, hb, by simp [s2], by simp [sg], by simp, by simp [s1], by rw [hz, if_neg he]⟩
 simp at hb;refine eA ?_;try simp
 refine rA ?_;try simp
 have : i = p.arrs.length := by omega
 subst this;have hd : p.arrNames.drop p.arrs.length = [] := List.drop_eq_nil_of_le (by omega);exact AWp.ret (pR1 rfl (by simp [hr, hd, xNa]))
theorem x7c (p : Pg) (l : List ByteArray) (ht : p.arrs.length <= 1048576) (hl : l.length <= 8388608) : zca Tryz.prog 46 [p.av, strs l] (.bool (l.all p.isArr)) := by
 refine pO Tryz.func46 ?_;unfold Pg.av;have c1 := fun s => yoc p s ht;unfold Pg.av at c1;refine rA ?_;try simp
 intro g;refine rA ?_;try simp
 (repeat refine qA ?_);refine AWp.block (AWp.ro (fun m st => ∃ (i : Nat), m = l.length - i /\ i <= l.length /\ st.sl 2 = .ptr g 0 /\ st.mem g = some (.box p.cells) /\ st.sl 5 = .int .i64 i /\ st.sl 1 = .lst false 1 (l.map .str) /\ l.all p.isArr = (l.drop i).all p.isArr) l.length ⟨0, by simp, by simp, by simp, by simp, by simp, by (simp [strs]), by simp⟩ ?_);rintro R m st hR ⟨i, rfl, hi, s2, sg, s5, s1, hr⟩;refine rA ?_;simp [s1, s5];(repeat refine qA ?_);refine AWp.cond (b := decide (i < l.length)) (by simp) (fun hb => ?_) (fun hb => ?_)
 ·simp at hb;have hg : l[i]? = some l[i] := gE hb;have hdr : l.drop i = l[i] :: l.drop (i + 1) := List.drop_eq_getElem_cons hb;have hx : yga Tryz.prog st.mem 70 (.lst false 1 (l.map .str)) (.int .i64 i) = some (.ref [.str l[i]]) := idx (y := .str l[i]) es_70 (by simp [hg]);have hi2 := zcb l[i] p.arrNames 0;have hz : l.all p.isArr = (p.isArr l[i] && (l.drop (i + 1)).all p.isArr) := by rw [hr, hdr, List.all_cons]
  refine kA ?_;try simp
  (repeat refine qA ?_);refine bA ?_;refine raA ?_;simp [s2, sg, s5, s1, hx];refine oC' (c1 l[i]) ?_;try simp
  (repeat refine qA ?_);refine AWp.cond (b := decide (at_ p.arrNames l[i] < 0)) (by simp) (fun he => ?_) (fun he => ?_)
  ·simp at he;refine rA ?_;try simp
   have hno : p.isArr l[i] = false := by
    unfold Pg.isArr;cases hh : has p.arrNames l[i] with
    | false => rfl
    | true => have := hi2.2 hh; unfold at_ at he; omega
   exact AWp.ret (pR1 rfl (by simp [hz, hno]))
  simp at he;refine kA ?_;try simp
  refine rA ?_;have hyes : p.isArr l[i] = true := hi2.1 he;have hw := iA i (by omega);simp [s5, hw];exact hR _ (l.length - (i + 1)) (by omega) ⟨i + 1, rfl, hb, by simp [s2], by simp [sg], by simp, by simp [s1], by rw [hz, hyes, Bool.true_and]⟩
 simp at hb;refine eA ?_;try simp
 refine rA ?_;try simp
 have : i = l.length := by omega
 subst this;exact AWp.ret (pR1 rfl (by simp only [yYa, reduceIte]; rw [hr]; simp))
theorem zvb (a b : List ByteArray) (ha : a.length <= 8388608) (hb : b.length <= 8388608) : zca Tryz.prog 48 [strs a, strs b] (.bool (!a.any (has b))) := by
 refine pO Tryz.func48 ?_;have c1 := fun s => w9b b s (by omega);refine rA ?_;try simp
 refine rA ?_;try simp
 (repeat refine qA ?_);refine AWp.block (AWp.ro (fun m st => ∃ (i : Nat), m = a.length - i /\ i <= a.length /\ st.sl 0 = .lst false 1 (a.map .str) /\ st.sl 1 = strs b /\ st.sl 5 = .int .i64 i /\ a.any (has b) = (a.drop i).any (has b)) a.length ⟨0, by simp, by simp, by (simp [strs]), by simp, by simp, by simp⟩ ?_);rintro R m st hR ⟨i, rfl, hi, s0, s1, s5, hr⟩;refine rA ?_;simp [s0, s5];(repeat refine qA ?_);refine AWp.cond (b := decide (i < a.length)) (by simp) (fun hb => ?_) (fun hb => ?_)
 ·simp at hb;have hg : a[i]? = some a[i] := gE hb;have hdr : a.drop i = a[i] :: a.drop (i + 1) := List.drop_eq_getElem_cons hb;have hx : yga Tryz.prog st.mem 70 (.lst false 1 (a.map .str)) (.int .i64 i) = some (.ref [.str a[i]]) := idx (y := .str a[i]) es_70 (by simp [hg]);have hz : a.any (has b) = (has b a[i] || (a.drop (i + 1)).any (has b)) := by rw [hr, hdr, List.any_cons]
  refine kA ?_;try simp
  (repeat refine qA ?_);refine bA ?_;refine raA ?_;simp [s0, s1, s5, hx];refine oC' (c1 a[i]) ?_;try simp
  (repeat refine qA ?_);refine AWp.cond (b := has b a[i]) (by simp) (fun he => ?_) (fun he => ?_)
  ·refine rA ?_;try simp
   exact AWp.ret (pR1 rfl (by simp only [yYa, reduceIte]; rw [hz, he]; simp))
  refine kA ?_;try simp
  refine rA ?_;have hw := iA i (by omega);simp [s5, hw];exact hR _ (a.length - (i + 1)) (by omega) ⟨i + 1, rfl, hb, by simp [s0], by simp [s1], by simp, by rw [hz, he, Bool.false_or]⟩
 simp at hb;refine eA ?_;try simp
 refine rA ?_;try simp
 have : i = a.length := by omega
 subst this;exact AWp.ret (pR1 rfl (by simp only [yYa, reduceIte]; rw [hr]; simp))
theorem ypc (l : List Sm) (ht : zAa Sm.tot l <= 1048576) (h : ∀ x ∈ l, ∀ ns : List ByteArray, ns.length + zAa Sm.tot x.body <= 2097152 -> zca Tryz.prog 50 [.lst false 19 (x.body.map Sm.av), strs ns] (.bool (Sm.nests x.body ns)))
  (ns : List ByteArray) (hb : ns.length + zAa Sm.tot l <= 2097152) : zca Tryz.prog 50 [.lst false 19 (l.map Sm.av), strs ns] (.bool (Sm.nests l ns)) := by
 have hlen := zua Sm.tot l;refine pO Tryz.func50 ?_;have c1 := fun s => w9b ns s (by omega);refine rA ?_;try simp
 refine rA ?_;try simp
 (repeat refine qA ?_);refine AWp.block (AWp.ro (fun m st => ∃ (i : Nat), m = l.length - i /\ i <= l.length /\ st.sl 0 = .lst false 19 (l.map Sm.av) /\ st.sl 1 = strs ns /\ st.sl 5 = .int .i64 i /\ Sm.nests l ns = Sm.nests (l.drop i) ns) l.length ⟨0, by simp, by simp, by simp, by simp, by simp, by simp⟩ ?_);rintro R m st hR ⟨i, rfl, hi, s0, s1, s5, hr⟩;refine rA ?_;simp [s0, s5];(repeat refine qA ?_);refine AWp.cond (b := decide (i < l.length)) (by simp) (fun hb => ?_) (fun hb => ?_)
 ·simp at hb;have hg : l[i]? = some l[i] := gE hb;have hdr : l.drop i = l[i] :: l.drop (i + 1) := List.drop_eq_getElem_cons hb;have htm := zoa Sm.tot (List.getElem_mem hb);have htb := l[i].tot_body;have hx : ∀ m, yga Tryz.prog m 30 (.lst false 19 (l.map Sm.av)) (.int .i64 i) = some (.ref l[i].cells) := fun m => idx (y := l[i].av) es_30 (by simp [hg]);have hw := iA i (by omega);have hz : Sm.nests l ns = ((decide (l[i].k ≠ 3) || (!has ns l[i].s && Sm.nests l[i].body (ns ++ [l[i].s]))) && Sm.nests (l.drop (i + 1)) ns) := by rw [hr, hdr, Sm.nests, Sm.nest_eq]
  refine kA ?_;try simp
  (repeat refine qA ?_);refine bA ?_;refine rA ?_;simp [s0, s5, hx];(repeat refine qA ?_);refine AWp.cond (b := !decide (l[i].k = 3)) (by simp) (fun hk => ?_) (fun hk => ?_)
  ·simp at hk;refine eA ?_;try simp
   refine rA ?_;simp [s5, hw];exact hR _ (l.length - (i + 1)) (by omega) ⟨i + 1, rfl, hb, by simp [s0], by simp [s1], by simp, by rw [hz]; simp [hk]⟩
  simp at hk;refine kA ?_;try simp
  (repeat refine qA ?_);refine AWp.regionF (fun i => i == 6) (fun i => i == 3 || i == 5 || i == 10 || i == 12 || i == 18 || i == 20) [0, 1, 2, 3, 4, 5, 6, 7, 8, 9, 10, 11, 12, 13, 14, 16, 17, 18, 19, 20, 21, 15, 22, 23, 24, 25] (by kernel_rfl) ?_;simp [s0, s1, s5, hx];refine oC' (c1 _) ?_;cases hh : has ns l[i].s
  ·simp [s0, s1, s5, hx];refine GS.app (m0 := st.mem) (xs := []) (.lit 1 _ (.inl rfl) (Ext.refl _)) false ns (by simp; omega) fun v1 m1 h1 => ?_;try simp
   refine GS.push h1 l[i].s (by simp; omega) fun v2 m2 h2 => ?_;try simp
   refine wA ?_;refine zca.viewed (l := [.lst false 19 (l[i].body.map Sm.av)]) (l' := []) (h l[i] (List.getElem_mem _) (ns ++ [l[i].s]) (by simp; omega)) (by simpa using h2.view) ?_;try simp
   (repeat refine qA ?_);refine AWp.cond (b := !Sm.nests l[i].body (ns ++ [l[i].s])) (by simp) (fun he => ?_) (fun he => ?_)
   ·simp at he;refine rA ?_;try simp
    exact AWp.ret (pR1 rfl (by simp only [yYa, reduceIte]; rw [hz, hh, he]; simp [hk]))
   simp at he;refine kA ?_;try simp
   refine rA ?_;simp [s5, hw];exact hR _ (l.length - (i + 1)) (by omega) ⟨i + 1, rfl, hb, by simp [s0], by simp [s1], by simp, by rw [hz, hh, he]; simp⟩
  simp;refine tA ?_;refine rA ?_;try simp
  exact AWp.ret (pR1 rfl (by simp only [yYa, reduceIte]; rw [hz, hh]; simp [hk]))
 simp at hb;refine eA ?_;try simp
 refine rA ?_;try simp
 have : i = l.length := by omega
 subst this;exact AWp.ret (pR1 rfl (by simp only [yYa, reduceIte]; rw [hr]; simp [Sm.nests]))
theorem yHd (e : Sm) : e.tot <= 1048576 -> ∀ ns : List ByteArray, ns.length + zAa Sm.tot e.body <= 2097152 -> zca Tryz.prog 50 [.lst false 19 (e.body.map Sm.av), strs ns] (.bool (Sm.nests e.body ns)) := by
 induction e using Sm.ind' with | h e h =>
 intro ht;have := e.tot_body;exact ypc e.body (by omega) (fun x hx => h x hx (by have := zoa Sm.tot hx; omega))
theorem x4d (l : List Sm) (ht : zAa Sm.tot l <= 1048576) (ns : List ByteArray) (hb : ns.length + zAa Sm.tot l <= 2097152) : zca Tryz.prog 50 [.lst false 19 (l.map Sm.av), strs ns] (.bool (Sm.nests l ns)) :=
 ypc l ht (fun x hx => yHd x (by have := zoa Sm.tot hx; omega)) ns hb
def Ahead (A : List Ar) (i : Nat) (pr : Option ByteArray) : Prop := (i = 0 /\ pr = none) ∨ (∃ a : Ar, 0 < i /\ A[i - 1]? = some a /\ pr = some a.s)
theorem yqc (A : List Ar) (i : Nat) (hb : i < A.length) (pr : Option ByteArray) : zqa pr (A.drop i) = (zxa A[i].s && (inR A[i].n 1 16 && ((match pr with | none => true | some q => blt q A[i].s) && zqa (some A[i].s) (A.drop (i + 1))))) := by
 rw [List.drop_eq_getElem_cons hb]; rfl
theorem wwb (A : List Ar) (i : Nat) (hb : i < A.length) : Ahead A (i + 1) (some A[i].s) := .inr ⟨A[i], by omega, by simp [hb], rfl⟩
theorem x5d (p : Pg) (ht : p.tot <= 1048576) : zca Tryz.prog 42 [p.av] (.bool p.head) := by
 have h1 := zua Ar.tot p.arrs;have h2 := zua Sm.tot p.body;have h3 : p.tot = zAa Ar.tot p.arrs + zAa Sm.tot p.body := rfl;have hc : p.cells = [.lst false 2 (p.arrs.map Ar.av), .lst false 19 (p.body.map Sm.av)] := rfl;refine pO Tryz.func42 ?_;unfold Pg.av;rw [hc];refine rA ?_;simp;intro g;refine rA ?_;simp
 (try refine qA ?_)
 refine AWp.cA (fun st => st.sl 1 = .ptr g 0 /\ st.mem g = some (.box [.lst false 2 (p.arrs.map Ar.av), .lst false 19 (p.body.map Sm.av)]) /\ zqa none p.arrs = true) ?_ ?_
 ·refine AWp.block (AWp.ro (fun m st => ∃ (i : Nat) (pr : Option ByteArray), m = p.arrs.length - i /\ i <= p.arrs.length /\ st.sl 1 = .ptr g 0 /\ st.mem g = some (.box [.lst false 2 (p.arrs.map Ar.av), .lst false 19 (p.body.map Sm.av)]) /\ st.sl 3 = .int .i64 i /\ Ahead p.arrs i pr /\ zqa none p.arrs = zqa pr (p.arrs.drop i)) p.arrs.length ⟨0, none, by simp, by simp, by simp, by simp, by simp, .inl ⟨rfl, rfl⟩, by simp⟩ ?_);rintro R m st hR ⟨i, pr, rfl, hi, s1, sg, s3, hah, hr⟩;refine rA ?_;simp [s1, sg, s3];(repeat refine qA ?_);refine AWp.cond (b := decide (i < p.arrs.length)) (by simp) (fun hb => ?_) (fun hb => ?_)
  ·simp at hb;have hg : p.arrs[i]? = some p.arrs[i] := gE hb;have hx : ∀ m, yga Tryz.prog m 29 (.lst false 2 (p.arrs.map Ar.av)) (.int .i64 i) = some (.ref [.str p.arrs[i].s, .int .i64 p.arrs[i].n]) := fun m => idx (y := p.arrs[i].av) es_29 (by simp [hg]);have hw := iA i (by omega);have htm := zoa Ar.tot (List.getElem_mem hb);have hs : p.arrs[i].s.size <= 9223372036854775806 := by unfold Ar.tot at htm h3 h1; omega
   rw [yqc _ _ hb] at hr;have hnx := wwb p.arrs i hb;refine kA ?_;try simp
   refine qA ?_;refine AWp.cA (fun st => st.sl 1 = .ptr g 0 /\ st.mem g = some (.box [.lst false 2 (p.arrs.map Ar.av), .lst false 19 (p.body.map Sm.av)]) /\ st.sl 3 = .int .i64 i /\ zqa none p.arrs = zqa (some p.arrs[i].s) (p.arrs.drop (i + 1))) ?_ ?_
   ·refine bA ?_;refine raA ?_;simp [s1, sg, s3, hx];refine oC' (xNO _ hs) ?_;have hpf : p.head = false ∨ zqa none p.arrs = true := by
     cases hq : zqa none p.arrs
     ·left; unfold Pg.head; rw [hq]; rfl
     exact .inr rfl
    cases x1 : zxa p.arrs[i].s
    ·rw [x1] at hr;have hph : p.head = false := by unfold Pg.head; rw [hr]; rfl
     simp;refine tA ?_;refine rA ?_;simp;exact AWp.ret (pR1 rfl (by simp [hph]))
    rw [x1] at hr;simp [s1, sg, s3, hx];refine oC' (zwa _ _ _) ?_;cases x2 : inR p.arrs[i].n 1 16
    ·rw [x2] at hr;have hph : p.head = false := by unfold Pg.head; rw [hr]; rfl
     simp;refine tA ?_;refine rA ?_;simp;exact AWp.ret (pR1 rfl (by simp [hph]))
    rw [x2] at hr;rcases hah with ⟨rfl, rfl⟩ | ⟨a, hi0, ha, rfl⟩
    ·simp [s1, sg, s3, hx];refine fA ?_;refine kA ?_;simp at hr;simp [s1, sg, s3, hr]
    replace hr : zqa none p.arrs = (true && (true && (blt a.s p.arrs[i].s && zqa (some p.arrs[i].s) (p.arrs.drop (i + 1))))) := hr;have hxp : ∀ m, yga Tryz.prog m 29 (.lst false 2 (p.arrs.map Ar.av)) (.int .i64 ((i - 1 : Nat) : Int)) = some (.ref [.str a.s, .int .i64 a.n]) := fun m => idx (y := a.av) es_29 (by simp [ha]);have hwm : IntKind.wrap .i64 ((i : Int) - 1) = ((i - 1 : Nat) : Int) := by rw [zga (by omega) (by omega)]; omega
    have hi1 : (0 : Int) < i := by omega
    have hbl : Op.bytesLess a.s.toList p.arrs[i].s.toList = blt a.s p.arrs[i].s := rfl;simp [s1, sg, s3, hx, hi0, hi1, hwm, hxp, hbl];cases x3 : blt a.s p.arrs[i].s
    ·rw [x3] at hr;have hph : p.head = false := by unfold Pg.head; rw [hr]; rfl
     refine tA ?_;refine rA ?_;simp;exact AWp.ret (pR1 rfl (by simp [hph]))
    rw [x3] at hr;refine fA ?_;refine kA ?_;simp at hr;simp [s1, sg, s3, hr]
   clear s1 sg s3 hr;rintro st ⟨s1, sg, s3, hr⟩;refine rA ?_;simp [s3, hw];exact hR _ (p.arrs.length - (i + 1)) (by omega) ⟨i + 1, _, rfl, hb, by simp [s1], by simp [sg], by simp, hnx, hr⟩
  simp at hb;refine eA ?_;have : i = p.arrs.length := by omega
  subst this;simp [zqa] at hr;simp [s1, sg, hr]
 rintro st ⟨s1, sg, hA⟩;refine rA ?_;simp
 (try refine qA ?_)
 refine AWp.cA (fun st => st.sl 1 = .ptr g 0 /\ st.mem g = some (.box [.lst false 2 (p.arrs.map Ar.av), .lst false 19 (p.body.map Sm.av)]) /\ p.body.all Sm.ok = true) ?_ ?_
 ·refine AWp.block (AWp.ro (fun m st => ∃ (i : Nat), m = p.body.length - i /\ i <= p.body.length /\ st.sl 1 = .ptr g 0 /\ st.mem g = some (.box [.lst false 2 (p.arrs.map Ar.av), .lst false 19 (p.body.map Sm.av)]) /\ st.sl 4 = .int .i64 i /\ p.body.all Sm.ok = (p.body.drop i).all Sm.ok) p.body.length ⟨0, by simp, by simp, by simp [s1], by simp [sg], by simp, by simp⟩ ?_);clear s1 sg;rintro R m st hR ⟨i, rfl, hi, s1, sg, s4, hr⟩;refine rA ?_;simp [s1, sg, s4];(repeat refine qA ?_);refine AWp.cond (b := decide (i < p.body.length)) (by simp) (fun hb => ?_) (fun hb => ?_)
  ·simp at hb;have hg : p.body[i]? = some p.body[i] := gE hb;have hdr : p.body.drop i = p.body[i] :: p.body.drop (i + 1) := List.drop_eq_getElem_cons hb;have hx : ∀ m, yga Tryz.prog m 30 (.lst false 19 (p.body.map Sm.av)) (.int .i64 i) = some (.ref p.body[i].cells) := fun m => idx (y := p.body[i].av) es_30 (by simp [hg]);have hw := iA i (by omega);have htm := zoa Sm.tot (List.getElem_mem hb);rw [hdr, List.all_cons] at hr;refine kA ?_;try simp
   (repeat refine qA ?_);refine bA ?_;refine raA ?_;simp [s1, sg, s4, hx];refine oC' (zbc p.body[i] (by omega)) ?_;try simp
   (repeat refine qA ?_);refine AWp.cond (b := !p.body[i].ok) (by simp) (fun he => ?_) (fun he => ?_)
   ·simp at he;refine rA ?_;simp;have hph : p.head = false := by unfold Pg.head; rw [hr, he]; simp
    exact AWp.ret (pR1 rfl (by simp [hph]))
   simp at he;refine kA ?_;simp;refine rA ?_;simp [s4, hw];exact hR _ (p.body.length - (i + 1)) (by omega) ⟨i + 1, rfl, hb, by simp [s1], by simp [sg], by simp, by rw [hr, he, Bool.true_and]⟩
  simp at hb;refine eA ?_;have : i = p.body.length := by omega
  subst this;simp only [List.drop_length, List.all_nil] at hr;simp [s1, sg];simpa using hr
 clear s1 sg;rintro st ⟨s1, sg, hB⟩;have hph : p.head = (decide (p.arrs.length <= 4) && (decide (p.body.length <= 12) && decide (zYa Sm.size p.body <= 40))) := by unfold Pg.head; rw [hA, hB]; simp
 refine raA ?_;simp [s1, sg];by_cases l1 : p.arrs.length <= 4
 ·have l1' : (p.arrs.length : Int) <= 4 := by omega
  simp [l1', s1, sg];by_cases l2 : p.body.length <= 12
  ·have l2' : (p.body.length : Int) <= 12 := by omega
   simp [l2', s1, sg];refine oC' (xcc p.body (by omega)) ?_;by_cases l3 : zYa Sm.size p.body <= 40
   ·have l3' : (zYa Sm.size p.body : Int) <= 40 := by omega
    simp [l3'];exact AWp.ret (pR1 rfl (by simp [hph, l1, l2, l3]))
   have l3' : ¬ (zYa Sm.size p.body : Int) <= 40 := by omega
   simp [l3'];exact AWp.ret (pR1 rfl (by simp [hph, l1, l2, l3]))
  have l2' : ¬ (p.body.length : Int) <= 12 := by omega
  simp [l2', s1, sg];exact AWp.ret (pR1 rfl (by simp [hph, l1, l2]))
 have l1' : ¬ (p.arrs.length : Int) <= 4 := by omega
 simp [l1', s1, sg];exact AWp.ret (pR1 rfl (by simp [hph, l1]))
theorem yyb (a b : List ByteArray) : a.any (has b) = b.any (has a) := by
 rw [Bool.eq_iff_iff];simp only [List.any_eq_true, has, decide_eq_true_eq];constructor
 ·rintro ⟨x, hx, y, hy, rfl⟩; exact ⟨_, hy, _, hx, rfl⟩
 rintro ⟨x, hx, y, hy, rfl⟩; exact ⟨_, hy, _, hx, rfl⟩
theorem Pg.lens (p : Pg) (ht : p.tot <= 1048576) : p.arrs.length <= 1048576 /\ p.vars.length <= 1048576 /\ p.loops.length <= 1048576 /\ p.puts.length <= 1048576 /\ ∀ q, (p.asked q).length <= 4194304 := by
 have h1 := zua Ar.tot p.arrs;have h3 : p.tot = zAa Ar.tot p.arrs + zAa Sm.tot p.body := rfl;have h4 := Sm.tots_eq p.body;have a1 := xpa (Sm.namesL 1 p.body);have a2 := xpa (Sm.namesL 2 p.body);have a3 := xpa (Sm.namesL 3 p.body);have b1 := Sm.namesL_len 1 p.body;have b2 := Sm.namesL_len 2 p.body;have b3 := Sm.namesL_len 3 p.body;unfold Pg.vars Pg.loops Pg.puts Pg.asked;refine ⟨by omega, by omega, by omega, by omega, fun q => ?_⟩;have a4 := xpa (Sm.expsL (Ex.pre q) p.body);have b4 := Sm.expsL_len (f := Ex.pre q) (fun e => Ex.pre_len q e) p.body;omega
theorem x6a (p : Pg) (ht : p.tot <= 1048576) : zca Tryz.prog 16 [p.av] (.bool p.ok) := by
 have h2 := zua Sm.tot p.body;have h3 : p.tot = zAa Ar.tot p.arrs + zAa Sm.tot p.body := rfl;have h4 := Sm.tots_eq p.body;have b2 := Sm.namesL_len 2 p.body;have b3 := Sm.expsL_len (f := Ex.pre 3) (fun e => Ex.pre_len 3 e) p.body;obtain ⟨L0, L1, L3, L2, L4⟩ := p.lens ht;have hc : p.cells = [.lst false 2 (p.arrs.map Ar.av), .lst false 19 (p.body.map Sm.av)] := rfl;have cH := x5d p ht;have cV := zec p.body (by omega);have cL := xkb p.body (by omega);have cA := ync p.body (by omega);have cP := (xjb p.body 2 (by omega) [] (by simp; omega)).arg (.cons (Le.lst true _ _) (.cons (Le.refl _) (.cons (Le.refl _) .nil)));have cQ := (x6c p.body 3 (by omega) [] (by simp; omega)).arg (.cons (Le.lst true _ _) (.cons (Le.refl _) (.cons (Le.refl _) .nil)));have cN := (x4d p.body (by omega) [] (by simp; omega)).arg (.cons (Le.refl _) (.cons (Le.lst true _ _) .nil));have d1 := x7c p p.puts L0 (by omega);have d2 := x7c p (p.asked 3) L0 (by have := L4 3; omega);have hn : p.arrNames.length <= 1048576 := by unfold Pg.arrNames; simpa using L0
 have e1 := zvb p.arrNames p.vars (by omega) (by omega);have e2 := zvb p.arrNames p.loops (by omega) (by omega);have e3 := zvb p.arrNames (p.asked 2) (by omega) (by have := L4 2; omega);have e4 := zvb p.vars p.loops (by omega) (by omega);have r1 : p.arrNames.any (has p.vars) = p.vars.any p.isArr := yyb _ _;have r2 : p.arrNames.any (has p.loops) = p.loops.any p.isArr := yyb _ _;have r3 : p.arrNames.any (has (p.asked 2)) = (p.asked 2).any p.isArr := yyb _ _;have r4 : p.vars.any (has p.loops) = p.loops.any (has p.vars) := yyb _ _;rw [r1] at e1; rw [r2] at e2; rw [r3] at e3; rw [r4] at e4
 change zca _ _ _ (strs p.vars) at cV
 change zca _ _ _ (strs p.loops) at cL
 change zca _ _ _ (strs (p.asked 2)) at cA
 change zca _ _ _ (strs p.puts) at cP
 change zca _ _ _ (strs (p.asked 3)) at cQ
 unfold strs at *;refine pO Tryz.func16 ?_;unfold Pg.av at *;rw [hc] at *;refine rA ?_;simp;intro g;refine raA ?_;simp;refine oC' cH ?_;cases xH : p.head
 ·simp;refine tA ?_;refine rA ?_;simp;exact AWp.ret (pR1 rfl (by simp [Pg.ok, xH]))
 have hok : p.ok = p.namesB := by unfold Pg.ok; rw [xH]; rfl
 rw [hok];simp;refine fA ?_;refine kA ?_;simp;refine rA ?_;simp;refine rA ?_;simp;(repeat refine qA ?_);refine AWp.cA (fun st => ∃ v, st.sl 1 = .ptr g 0 /\ st.sl 3 = v /\ GS (Mem.set (fun _ => none) g (.box [.lst false 2 (p.arrs.map Ar.av), .lst false 19 (p.body.map Sm.av)])) p.arrNames v st.mem) ?_ ?_
 ·refine AWp.block (AWp.ro (fun m st => ∃ (i : Nat) (v : AV), m = p.arrs.length - i /\ i <= p.arrs.length /\ st.sl 1 = .ptr g 0 /\ st.sl 3 = v /\ st.sl 4 = .int .i64 i /\ GS (Mem.set (fun _ => none) g (.box [.lst false 2 (p.arrs.map Ar.av), .lst false 19 (p.body.map Sm.av)])) (p.arrNames.take i) v st.mem) p.arrs.length ⟨0, .lst true 1 [], by simp, by simp, by simp, by simp, by simp, .lit 1 _ (.inl rfl) (by simp; exact Ext.refl _)⟩ ?_);rintro R m st hR ⟨i, v, rfl, hi, s1, s3, s4, hG⟩;have hE : Ext (Mem.set (fun _ => none) g (.box [.lst false 2 (p.arrs.map Ar.av), .lst false 19 (p.body.map Sm.av)])) st.mem := hG.ext;have sg : st.mem g = some (.box [.lst false 2 (p.arrs.map Ar.av), .lst false 19 (p.body.map Sm.av)]) := hE g _ (zaa _ _ _);refine rA ?_;simp [s1, sg, s4];(repeat refine qA ?_);refine AWp.cond (b := decide (i < p.arrs.length)) (by simp) (fun hb => ?_) (fun hb => ?_)
  ·simp at hb;have hg : p.arrs[i]? = some p.arrs[i] := gE hb;have hx : ∀ m, yga Tryz.prog m 29 (.lst false 2 (p.arrs.map Ar.av)) (.int .i64 i) = some (.ref [.str p.arrs[i].s, .int .i64 p.arrs[i].n]) := fun m => idx (y := p.arrs[i].av) es_29 (by simp [hg]);have hw := iA i (by omega);have htk : p.arrNames.take (i + 1) = p.arrNames.take i ++ [p.arrs[i].s] := by
    rw [List.take_add_one]; simp [Pg.arrNames, hg]
   refine kA ?_;try simp
   (repeat refine qA ?_);refine bA ?_;refine rA ?_;simp [s1, sg, s3, s4, hx];refine hG.push p.arrs[i].s (by simp; omega) fun v' m' hG' => ?_;try simp
   refine rA ?_;simp [s4, hw];exact hR _ (p.arrs.length - (i + 1)) (by omega) ⟨i + 1, v', rfl, hb, by simp [s1], by simp, by simp, by rw [htk]; simpa using hG'⟩
  simp at hb;refine eA ?_;have : i = p.arrs.length := by omega
  subst this;have htk : p.arrNames.take p.arrs.length = p.arrNames := List.take_of_length_le (by unfold Pg.arrNames; simp);rw [htk] at hG;try simp
  exact ⟨s1, by rw [s3]; exact hG⟩
 rintro st0 ⟨v, t1, t3, hG⟩;refine AWp.se (Sees.view (t := 3) (by rw [t3]; exact hG.view)) ?_;have sg0 : (⟨fun k => if k = 3 then strs p.arrNames else st0.sl k, Mem.set (fun _ => none) g (.box [.lst false 2 (p.arrs.map Ar.av), .lst false 19 (p.body.map Sm.av)])⟩ : St).mem g = some (.box [.lst false 2 (p.arrs.map Ar.av), .lst false 19 (p.body.map Sm.av)]) := by simp [zia]
 have s10 : (⟨fun k => if k = 3 then strs p.arrNames else st0.sl k, Mem.set (fun _ => none) g (.box [.lst false 2 (p.arrs.map Ar.av), .lst false 19 (p.body.map Sm.av)])⟩ : St).sl 1 = .ptr g 0 := t1
 have s30 : (⟨fun k => if k = 3 then strs p.arrNames else st0.sl k, Mem.set (fun _ => none) g (.box [.lst false 2 (p.arrs.map Ar.av), .lst false 19 (p.body.map Sm.av)])⟩ : St).sl 3 = .lst false 1 (p.arrNames.map .str) := rfl
 revert sg0 s10 s30
 generalize (⟨fun k => if k = 3 then strs p.arrNames else st0.sl k, Mem.set (fun _ => none) g (.box [.lst false 2 (p.arrs.map Ar.av), .lst false 19 (p.body.map Sm.av)])⟩ : St) = st
 intro sg s1 s3;refine raA ?_;simp [s1, sg];refine oC' cV ?_;simp;refine raA ?_;simp [s1, sg];refine oC' cL ?_;simp;refine raA ?_;simp [s1, sg];refine oC' cP ?_;simp;refine raA ?_;simp [s1, s3, sg];refine oC' d1 ?_;cases v1 : p.puts.all p.isArr
 ·simp;exact AWp.ret (pR1 rfl (by simp [Pg.namesB, v1]))
 simp [s1, s3, sg];refine oC' cQ ?_;simp [s1, s3, sg];refine oC' d2 ?_;cases v2 : (p.asked 3).all p.isArr
 ·simp;exact AWp.ret (pR1 rfl (by simp [Pg.namesB, v1, v2]))
 simp [s1, s3, sg];refine oC' e1 ?_;cases v3 : p.vars.any p.isArr;rotate_left
 ·simp;exact AWp.ret (pR1 rfl (by simp [Pg.namesB, v1, v2, v3]))
 simp [s1, s3, sg];refine oC' e2 ?_;cases v4 : p.loops.any p.isArr;rotate_left
 ·simp;exact AWp.ret (pR1 rfl (by simp [Pg.namesB, v1, v2, v3, v4]))
 simp [s1, s3, sg];refine oC' cA ?_;simp [s1, s3, sg];refine oC' e3 ?_;cases v5 : (p.asked 2).any p.isArr;rotate_left
 ·simp;exact AWp.ret (pR1 rfl (by simp [Pg.namesB, v1, v2, v3, v4, v5]))
 simp [s1, s3, sg];refine oC' e4 ?_;cases v6 : p.loops.any (has p.vars);rotate_left
 ·simp;exact AWp.ret (pR1 rfl (by simp [Pg.namesB, v1, v2, v3, v4, v5, v6]))
 simp [s1, s3, sg];refine oC' cN ?_;cases v7 : Sm.nests p.body []
 ·simp;exact AWp.ret (pR1 rfl (by simp [Pg.namesB, v1, v2, v3, v4, v5, v6, v7]))
 simp [s1, s3, sg];by_cases v8 : p.vars.length <= 6
 ·have w8 : (p.vars.length : Int) <= 6 := by omega
  simp [w8];exact AWp.ret (pR1 rfl (by simp [Pg.namesB, v1, v2, v3, v4, v5, v6, v7, v8]))
 have w8 : ¬ (p.vars.length : Int) <= 6 := by omega
 simp [w8];exact AWp.ret (pR1 rfl (by simp [Pg.namesB, v1, v2, v3, v4, v5, v6, v7, v8]))
end Go.T
namespace Go.Proofs
open Go.Shelf
shelf_lay Lays.n190 Nm 190 at Tryz as Tryz.laysSort -- 187
shelf_lay Lays.n194 Nm 194 at Tryz as Tryz.laysCompact -- 189
shelf_lay_g Lays8.n4 Nm8 4 at Tryz 173 as Tryz.laysGrow
end Go.Proofs
namespace Go.Proofs
open Go.T
theorem yLe (A : Option Addr) (n c : Nat) (w : World) (h : n <= c) : Calls Tryz.prog 188 #[.slice A n c] w fun e w' => e = .returned (.slice A n n) /\ w' = w := by
 go_enter Tryz.func188, Tryz.ntmps188
 go_wp2
 go_ret
 exact ⟨rfl, rfl⟩
end Go.Proofs
namespace Go.T
open Go Go.Proofs Go.Sort
set_option maxRecDepth 10000
set_option maxHeartbeats 1000000
theorem yId : y8a Tryz.prog 187 := ⟨_, Tryz.func187, by kernel_rfl, rfl⟩
theorem wxb : y8a Tryz.prog 189 := ⟨_, Tryz.func189, by kernel_rfl, rfl⟩
theorem zCe : y8a Tryz.prog 188 := ⟨_, Tryz.func188, by kernel_rfl, rfl⟩
theorem yJd : y8a Tryz.prog 173 := ⟨_, Tryz.func173, by kernel_rfl, rfl⟩
def xlb (xs : List ByteArray) : List ByteArray := ((xs.map toL).mergeSort fun x y => decide (x <= y)).map ofL
def xSb (xs : List ByteArray) : List ByteArray := (Go.Lib.compact (xs.map toL)).map ofL
theorem w1a (l : List (List UInt8)) : (l.map ofL).map toL = l := by rw [List.map_map]; exact List.map_id'' (fun x => wUb x) l
theorem yrc (xs : List ByteArray) : (xlb xs).length = xs.length := by unfold xlb; simp
theorem yKd (xs : List ByteArray) : xSb (xlb xs) = zCa xs := by
 rw [<- yZc]; unfold xSb xlb; rw [w1a]
theorem w8c (zs : List (List UInt8)) : (Go.Lib.compact zs).length <= zs.length := by
 unfold Go.Lib.compact Go.Lib.compactUpTo;rw [List.length_map];exact Nat.le_trans (List.length_filter_le _ _) (by simp)
theorem yMe {m : Mem} {g c : Nat} {xs : List ByteArray} (hg : m g = some (.arr 9 1 c (xs.map .str))) (hb : xs.length <= 16777216) {K : AV -> Mem -> Prop} (hK : K (.tup []) (m.set g (.arr 9 1 c ((xlb xs).map .str)))) : zka Tryz.prog 187 [.own g xs.length c] m K := by
 refine zka.row yId (ys := xlb xs) (zs := []) (u := .tuple #[]) hg rfl (by simp [yrc]) (fun _ _ => .tup .nil) (fun w hH hgs hkc => ?_) hK;have h := Any.slices_Sort_string Tryz.laysSort g 0 c (xs.map toL) w hH hgs (by simp; omega);have h2 : Calls Tryz.prog 187 #[.slice (some ⟨g, 0, none⟩) (xs.map toL).length c] w _ := h;rw [List.length_map] at h2;refine zma h2 ?_;rintro e w' ⟨he, n, os, hw⟩;refine ⟨he, n, os, ?_⟩;rw [hw, List.append_nil];unfold xlb;rw [w1a]
theorem yLd {m : Mem} {g c : Nat} {xs : List ByteArray} (hg : m g = some (.arr 9 1 c (xs.map .str))) (hb : xs.length <= 16777216) {K : AV -> Mem -> Prop} (hK : K (.own g (xSb xs).length c) (m.set g (.arr 9 1 c ((xSb xs).map .str)))) : zka Tryz.prog 189 [.own g xs.length c] m K := by
 have hle := w8c (xs.map toL);have hl : (xSb xs).length = (Go.Lib.compact (xs.map toL)).length := by unfold xSb; simp
 refine zka.row wxb (ys := xSb xs) (zs := List.replicate (xs.length - (xSb xs).length) (ofL [])) (u := .slice (some ⟨g, 0, none⟩) (xSb xs).length c) hg rfl (by simp at hle ⊢; omega) (fun _ _ => .own g _ c) (fun w hH hgs hkc => ?_) hK;have h := Any.slices_Compact_string Tryz.laysCompact g 0 c (xs.map toL) w hH (by simp; omega) (by simpa using hkc);have h2 : Calls Tryz.prog 189 #[.slice (some ⟨g, 0, none⟩) (xs.map toL).length c] w _ := h;rw [List.length_map] at h2;refine zma h2 ?_;rintro e w' ⟨he, n, hw⟩;refine ⟨by rw [he, hl], n, #[], ?_⟩;rw [hw, grow_empty, List.map_append, List.map_replicate, wUb, hl];unfold xSb;rw [w1a]
theorem xCa {w : World} {S : Nat -> Prop} {f : Nat} {v : Value} (h : Rep w S (.lst true f []) v) : ∃ A, v = .slice A 0 0 := by
 cases h with
 | lnil _ _ A c hc => exact ⟨A, by rw [hc rfl]⟩
 | lst _ _ b o c h1 h2 h3 h4 h5 => have := h4 rfl; simp at this; exact ⟨_, by rw [this]; rfl⟩
theorem zDe (f : Nat) : zca Tryz.prog 187 [.lst true f []] (.tup []) :=
 zca.same yId fun w S v h => by
  obtain ⟨A, rfl⟩ := xCa h;exact ⟨_, .tup .nil, Any.slices_Sort_string_none Tryz.laysSort A 0 w⟩
theorem w9c (f : Nat) : zca Tryz.prog 189 [.lst true f []] (.lst true f []) :=
 zca.same wxb fun w S v h => by
  obtain ⟨A, rfl⟩ := xCa h;exact ⟨_, .lnil _ _ A 0 (fun _ => rfl), Any.slices_Compact_string_empty Tryz.laysCompact A 0 w⟩
theorem wKd (xs : List AV) (n : Nat) (hb : xs.length <= 16777216) : zca Tryz.prog 188 [.lst false n xs] (.lst true n xs) := by
 refine ⟨zCe, fun w S cargs m hm hargs => ?_⟩;cases hargs with | @cons _ v _ vs hv ht =>
 cases ht;have key : ∀ A l c, v = .slice A l c -> l <= c -> Rep w S (.lst true n xs) (.slice A l l) -> Calls Tryz.prog 188 #[v] w fun e w' => ∃ v' S', e = .returned v' /\ (∀ b, S b -> S' b) /\ (∀ b, S' b -> S b ∨ w.heap.size <= b) /\ zva w' S' m /\ Rep w' S' (.lst true n xs) v' /\ Keep (fun _ => False) w w' := by
  rintro A l c rfl hlc hrep;refine zma (yLe A l c w hlc) ?_;rintro e w' ⟨rfl, rfl⟩;exact ⟨_, S, rfl, fun _ h => h, fun _ h => .inl h, hm, hrep, Keep.refl _ _⟩
 cases hv with
 | lnil _ _ A c hc => exact key A 0 c rfl (Nat.zero_le _) (.lnil _ _ A 0 (fun _ => rfl))
 | lst _ _ b o c h1 h2 h3 h4 h5 => exact key _ _ c rfl h3 (.lst true n b o _ h1 h2 (Nat.le_refl _) (fun _ => rfl) h5)
def GO (m0 : Mem) (xs : List ByteArray) (v : AV) (m : Mem) : Prop := Ext m0 m /\ ((xs = [] /\ ∃ f, v = .lst true f []) ∨ ∃ g c, v = .own g xs.length c /\ m g = some (.arr 9 1 c (xs.map .str)) /\ m0 g = none)
theorem GO.gs {m0 m : Mem} {xs : List ByteArray} {v : AV} (h : GO m0 xs v m) : GS m0 xs v m := by
 obtain ⟨he, ⟨rfl, f, rfl⟩ | ⟨g, c, rfl, hg, h0⟩⟩ := h
 ·exact .lit f m (.inr rfl) he
 exact .own g c _ m (by simp) hg h0 he
theorem GO.ok {m0 m : Mem} {xs : List ByteArray} {v : AV} (h : GO m0 xs v m) : v.cells = [v] /\ zya v = true /\ v ≠ .undef := by
 obtain ⟨he, ⟨rfl, f, rfl⟩ | ⟨g, c, rfl, hg, h0⟩⟩ := h
 ·exact ⟨rfl, rfl, by simp⟩
 exact ⟨rfl, rfl, by simp⟩
theorem GO.app {m0 m : Mem} {xs : List ByteArray} {v : AV} (h : GO m0 xs v m) (f : Bool) (ys : List ByteArray) (hb : xs.length + ys.length <= 16777216) {k : AV -> Mem -> Prop} (hk : ∀ v' m', GO m0 (xs ++ ys) v' m' -> k v' m') : zNa Tryz.prog m k #[70, 70] v (.lst f 1 (ys.map .str)) := by
 have hT := et_70;obtain ⟨z, hz, hzl⟩ := hT.zero;unfold zNa;simp only [List.getElem?_toArray, List.getElem?_cons_zero, List.getElem?_cons_succ, hT.int, hT.elem, hT.size, hT.byte, hz, wwa, true_and, if_true];refine ⟨hT.pos.1, hT.pos.2, hzl, ?_⟩;obtain ⟨he, ⟨rfl, e, rfl⟩ | ⟨g, c, rfl, hg, h0⟩⟩ := h
 ·refine ⟨.inr rfl, by simp at hb ⊢; omega, fun h0 => ?_, fun _ g c hg hle => ?_⟩
  ·have : ys = [] := by simpa using h0
   subst this;exact hk _ _ ⟨he, .inl ⟨rfl, e, rfl⟩⟩
  refine hk _ _ ⟨he.set (he.none hg) _, .inr ⟨g, c, by simp, by simp [zaa], he.none hg⟩⟩
 simp only [hg];refine ⟨trivial, trivial, trivial, by simp, by simp, by simp at hb ⊢; omega, fun g' c' hg' hle => ?_⟩;have hg0 : m0 g' = none := by
  rcases hg' with rfl | h
  ·exact h0
  exact he.none h
 exact hk _ _ ⟨he.set hg0 _, .inr ⟨g', c', by simp, by simp [zaa], hg0⟩⟩
theorem zka.p {P : Program} {n : FuncId} {args : List AV} {r : AV} (hw : zka P n args (fun _ => none) fun r' _ => r' = r) : zca P n args r := by
 refine ⟨hw.1, fun w S cargs m hm hr => ?_⟩;have hm0 : zva w S (fun _ => none) := ⟨(fun g b h => by cases h), fun b hb => ⟨rfl, (hm.apart b hb).2⟩⟩;refine zma (hw.2 w S cargs hm0 hr) ?_;rintro e w' ⟨v, r', m', S', rfl, rfl, h1, h2, h3, h4, h5, h6⟩;have hk : Keep (fun _ => False) w w' := h5.mono (fun b h => absurd rfl h);refine ⟨v, S', rfl, h1, fun b hb => (h2 b hb).imp id (fun h => h.elim (fun h => absurd rfl h) id), ⟨fun g b hg => ?_, fun b hb => ?_⟩, h4, hk⟩
 ·have hlt := (hm.blk g b hg).lt;exact (hm.blk g b hg).mono (fun b' hb' => hk.block b' (hm.apart b' hb').2 id) h1 (hk.block g hlt id)
 refine ⟨?_, (h3.apart b hb).2⟩;rcases h2 b hb with h | h | h
 ·exact (hm.apart b h).1
 ·exact absurd rfl h
 cases hq : m b with
 | none => rfl
 | some x => have := (hm.blk b x hq).lt; omega
theorem zEe (f : Nat) : zca Tryz.prog 173 [.lst true f [], .int .i64 0] (.lst true f []) := by
 refine ⟨yJd, fun w S cargs m hm hargs => ?_⟩;cases hargs with | @cons _ v _ vs hv ht =>
 cases ht with | @cons _ v2 _ vs2 hv2 ht2 =>
 cases ht2;cases hv2;obtain ⟨A, rfl⟩ := xCa hv;refine zma (Any8.slices_Grow_room Tryz.laysGrow A 0 0 0 w (by omega) (by omega) (by omega) (by omega)) ?_;rintro e w' ⟨rfl, rfl⟩;exact ⟨_, S, rfl, fun _ h => h, fun _ h => .inl h, hm, hv, Keep.refl _ _⟩
theorem yNe (f n : Nat) (hn : 0 < n) (hb : n <= 16777216) {m : Mem} {K : AV -> Mem -> Prop} (hK : ∀ g c, m g = none -> n <= c -> K (.own g 0 c) (m.set g (.arr 9 1 c []))) : zka Tryz.prog 173 [.lst true f [], .int .i64 n] m K := by
 refine ⟨yJd, fun w S cargs hm hargs => ?_⟩;cases hargs with | @cons _ v _ vs hv ht =>
 cases ht with | @cons _ v2 _ vs2 hv2 ht2 =>
 cases ht2;cases hv2;obtain ⟨A, rfl⟩ := xCa hv;have hinf : (Tryz.prog.info? 9).map (fun i => (i.zero, i.size, i.bytes)) = some (some (.string ⟨#[]⟩), 1, 16) := by kernel_rfl
 obtain ⟨i0, hi0, hi1⟩ := Option.map_eq_some_iff.1 hinf;simp only [Prod.mk.injEq] at hi1;obtain ⟨hz0, hs0, hb0⟩ := hi1;have h := Any8.slices_Grow_grow Tryz.laysGrow i0 (.string ⟨#[]⟩) hi0 hz0 (by omega) A 0 0 n [] w (by omega) (by omega) (by rw [hb0]; omega) (by omega) (by simp) (fun _ => rfl) (fun a _ j v hj => by simp at hj);refine zma h ?_;rintro e w' ⟨he, hw⟩;have he2 : e = .returned (.slice (some ⟨w.heap.size, 0, none⟩) 0 (grownCap w (0 + n) 0 9)) := he;have hw2 : w' = z6b { w with drawn := w.drawn + 1 } (.cells ((#[] : Array Value) ++ Builtin.zeroCells (Value.string ⟨#[]⟩).cells (0 + n - 0) ++ Builtin.zeroCells (Value.string ⟨#[]⟩).cells (grownCap w (0 + n) 0 9 - (0 + n))) 9) := hw;have hge := grownCap_ge w (0 + n) 0 9;clear he hw h;generalize grownCap w (0 + n) 0 9 = c at he2 hw2 hge;subst he2;have hm1 : zva { w with drawn := w.drawn + 1 } S m := yTa hm _;have hfree : m w.heap.size = none := by
  cases hq : m w.heap.size with
  | none => rfl
  | some b => have := (hm.blk _ b hq).lt; omega
 have hm2 := xga (b := .arr 9 1 c []) hm1 (.cells ((#[] : Array Value) ++ Builtin.zeroCells (Value.string ⟨#[]⟩).cells (0 + n - 0) ++ Builtin.zeroCells (Value.string ⟨#[]⟩).cells (c - (0 + n))) 9)
  ⟨[], ((#[] : Array Value) ++ Builtin.zeroCells (Value.string ⟨#[]⟩).cells (0 + n - 0) ++ Builtin.zeroCells (Value.string ⟨#[]⟩).cells (c - (0 + n))).toList, by rw [List.nil_append, Array.toArray_toList]; exact x0a _ _, .nil, by simp [Builtin.zeroCells, Value.cells]; omega, by simp, by simp⟩
 rw [<- hw2] at hm2;have hk1 : Keep (fun g => m g ≠ none) w w' := by rw [hw2]; exact ((Keep.refl _ w).drew (w.drawn + 1)).trans (xla (fun g => m g ≠ none) { w with drawn := w.drawn + 1 } _) (fun g h => .inl h)
 refine ⟨_, _, _, S, rfl, hK w.heap.size c hfree (by omega), fun _ h => h, fun _ h => .inl h, hm2, .own _ 0 _, hk1, fun g b hb' => ?_⟩;rw [zia] at hb';by_cases hgg : g = w.heap.size
 ·exact .inr (by omega)
 rw [if_neg hgg] at hb';exact .inl (by rw [hb']; simp)
end Go.T
namespace Go.T
open Go Go.Proofs
set_option maxRecDepth 10000
set_option maxHeartbeats 1000000
theorem GO.view {m0 m : Mem} {xs : List ByteArray} {v : AV} (h : GO m0 xs v m) : View m v m0 (strs xs) := h.gs.view
theorem GO.mono {m0 m1 m : Mem} {xs : List ByteArray} {v : AV} (h : GO m1 xs v m) (he : Ext m0 m1) : GO m0 xs v m := by
 obtain ⟨h1, h2⟩ := h;refine ⟨fun g b hg => h1 g b (he g b hg), h2.imp id ?_⟩;rintro ⟨g, c, a, b, h0⟩;exact ⟨g, c, a, b, he.none h0⟩
theorem GO.fresh {m0 m : Mem} {xs : List ByteArray} {v : AV} (h : GO m0 xs v m) {g : Nat} (hg : m g = none) (b : Blk) : GO m0 xs v (m.set g b) := by
 obtain ⟨h1, h2⟩ := h;refine ⟨h1.set (h1.none hg) b, h2.imp id ?_⟩;rintro ⟨g', c, a, hb, h0⟩;refine ⟨g', c, a, ?_, h0⟩;rw [zia, if_neg]
 ·exact hb
 rintro rfl; rw [hg] at hb; cases hb
theorem yzb {X : Type} (f : X -> Nat) : ∀ a b : List X, zYa f (a ++ b) = zYa f a + zYa f b
 | [], b => by simp [zYa]
 | x :: a, b => by simp only [List.cons_append, zYa, yzb f a b]; omega
theorem ysc : ∀ L : List (List ByteArray), L.flatten.length = zYa List.length L
 | [] => rfl
 | a :: L => by rw [List.flatten_cons, List.length_append, zYa, ysc L]
theorem x6d (L : List (List ByteArray)) (f : Bool) (hb : zYa List.length L <= 8388608) (hl : L.length <= 1000) {m : Mem} {K : AV -> Mem -> Prop} (hK : ∀ v m', GO m L.flatten v m' -> ∃ r m'', View m' v m'' r /\ K r m'') :
  zka Tryz.prog 139 [.lst f 1 (L.map strs)] m K := by
 refine wO Tryz.func139 ?_;refine rA ?_;simp;refine rA ?_;simp;refine rA ?_;simp
 (try refine qA ?_)
 refine AWp.cA (fun st => st.sl 0 = .lst f 1 (L.map strs) /\ st.sl 3 = .int .i64 (zYa List.length L : Nat) /\ st.mem = m) ?_ ?_
 ·refine AWp.block (AWp.ro (fun k st => ∃ (i : Nat), k = L.length - i /\ i <= L.length /\ st.sl 0 = .lst f 1 (L.map strs) /\ st.sl 9 = .lst f 1 (L.map strs) /\ st.sl 10 = .int .i64 L.length /\ st.sl 11 = .int .i64 i /\ st.sl 3 = .int .i64 (zYa List.length (L.take i) : Nat) /\ st.mem = m) L.length ⟨0, by simp, by simp, by simp, by simp, by simp, by simp, by simp [zYa], by simp⟩ ?_);rintro R k st hR ⟨i, rfl, hi, s0, s9, s10, s11, s3, sm⟩;refine rA ?_;simp [s9, s10, s11];(repeat refine qA ?_);refine AWp.cond (b := decide (i < L.length)) (by simp) (fun hb2 => ?_) (fun hb2 => ?_)
  ·simp at hb2;have hg : L[i]? = some L[i] := gE hb2;have hx : ∀ m, yga Tryz.prog m 168 (.lst f 1 (L.map strs)) (.int .i64 i) = some (.ref [strs L[i]]) := fun m => idx (y := strs L[i]) es_168 (by simp [hg]);have hw := iA i (by omega);have hs1 : zYa List.length (L.take (i + 1)) = zYa List.length (L.take i) + L[i].length := by
    rw [List.take_add_one, hg, yzb]; simp [zYa]
   have hs2 : zYa List.length (L.take (i + 1)) <= zYa List.length L := by
    have := yzb List.length (L.take (i + 1)) (L.drop (i + 1));rw [List.take_append_drop] at this;omega
   have hw2 : IntKind.wrap .i64 ((zYa List.length (L.take i) : Nat) + (L[i].length : Int)) = (zYa List.length (L.take (i + 1)) : Nat) := by rw [zga (by omega) (by omega), hs1]; omega
   refine kA ?_;try simp
   (repeat refine qA ?_);refine bA ?_;refine rA ?_;simp [s9, s11, hx];refine rA ?_;simp [s3, strs, hw2];refine rA ?_;try simp
   refine fA ?_;refine kA ?_;try simp
   refine rA ?_;simp [s11, hw];exact hR _ (L.length - (i + 1)) (by omega) ⟨i + 1, rfl, hb2, by simp [s0], by simp [s9], by simp [s10], by simp, by simp, by simp [sm]⟩
  simp at hb2;refine eA ?_;have : i = L.length := by omega
  subst this;rw [List.take_length] at s3;simp [s0, s3, sm]
 rintro st ⟨s0, s3, sm⟩;have hG : ∀ (st : St) (v : AV), st.sl 0 = .lst f 1 (L.map strs) -> st.sl 6 = v -> GO m [] v st.mem -> True := fun _ _ _ _ _ => trivial;refine qA ?_;refine AWp.cA (fun st => ∃ v, st.sl 0 = .lst f 1 (L.map strs) /\ st.sl 6 = v /\ GO m [] v st.mem) ?_ ?_
 ·refine rA ?_;simp [s3];by_cases h0 : zYa List.length L = 0
  ·refine wA ?_;refine zca.w (by simpa [h0] using zEe 0) ?_;simp [s0];rw [sm];exact ⟨Ext.refl _, .inl ⟨rfl, 0, rfl⟩⟩
  refine wA ?_;refine yNe 0 _ (by omega) (by omega) fun g c hg hc => ?_;simp [s0];simp at hg;rw [sm] at hg ⊢;exact ⟨(Ext.refl m).set hg _, .inr ⟨g, c, by simp, by simp [zaa], hg⟩⟩
 clear s0 s3 sm hG;rintro st ⟨v, s0, s6, hG⟩;refine rA ?_;simp [s0]
 (try refine qA ?_)
 refine AWp.cA (fun st => ∃ v, st.sl 6 = v /\ GO m L.flatten v st.mem) ?_ ?_
 ·refine AWp.block (AWp.ro (fun k st => ∃ (i : Nat) (v : AV), k = L.length - i /\ i <= L.length /\ st.sl 25 = .lst f 1 (L.map strs) /\ st.sl 26 = .int .i64 L.length /\ st.sl 27 = .int .i64 i /\ st.sl 6 = v /\ GO m (L.take i).flatten v st.mem) L.length ⟨0, v, by simp, by simp, by simp, by simp, by simp, by simp [s6], by simpa using hG⟩ ?_);clear s0 s6 hG;rintro R k st hR ⟨i, v, rfl, hi, s25, s26, s27, s6, hG⟩;refine rA ?_;simp [s25, s26, s27];(repeat refine qA ?_);refine AWp.cond (b := decide (i < L.length)) (by simp) (fun hb2 => ?_) (fun hb2 => ?_)
  ·simp at hb2;have hg : L[i]? = some L[i] := gE hb2;have hx : ∀ m, yga Tryz.prog m 168 (.lst f 1 (L.map strs)) (.int .i64 i) = some (.ref [strs L[i]]) := fun m => idx (y := strs L[i]) es_168 (by simp [hg]);have hw := iA i (by omega);have hs1 : (L.take (i + 1)).flatten = (L.take i).flatten ++ L[i] := by
    rw [List.take_add_one, hg, List.flatten_append]; simp
   have hs2 : ((L.take i).flatten ++ L[i]).length <= zYa List.length L := by
    rw [<- hs1, ysc];have := yzb List.length (L.take (i + 1)) (L.drop (i + 1));rw [List.take_append_drop] at this;omega
   rw [List.length_append] at hs2;refine kA ?_;try simp
   (repeat refine qA ?_);refine bA ?_;refine rA ?_;simp [s25, s27, hx];refine rA ?_;simp [s6, strs];refine hG.app false L[i] (by omega) fun v' m' hG' => ?_;try simp
   refine rA ?_;simp [s27, hw];exact hR _ (L.length - (i + 1)) (by omega) ⟨i + 1, v', rfl, hb2, by simp [s25], by simp [s26], by simp, by simp, by rw [hs1]; simpa using hG'⟩
  simp at hb2;refine eA ?_;have : i = L.length := by omega
  subst this;rw [List.take_length] at hG;simp [s6];exact hG
 clear s0 s6 hG;rintro st ⟨v, s6, hG⟩;refine rA ?_;simp [s6];obtain ⟨r, m'', h1, h2⟩ := hK v st.mem hG;exact AWp.ret (zea rfl ⟨r, m'', by simpa using h1, h2⟩)
theorem yMd (L : List (List ByteArray)) (f : Bool) (hb : zYa List.length L <= 8388608) (hl : L.length <= 1000) : zca Tryz.prog 139 [.lst f 1 (L.map strs)] (strs L.flatten) :=
 zka.p (x6d L f hb hl fun v m' h => ⟨_, _, h.view, rfl⟩)
theorem ytc {m0 m : Mem} {xs : List ByteArray} {v : AV} (h : GO m0 xs v m) (hb : xs.length <= 8388608) {K : AV -> Mem -> Prop} (hK : K (strs (zCa xs)) m0) : zka Tryz.prog 171 [v] m K := by
 refine wO Tryz.func171 ?_;obtain ⟨he, ⟨rfl, f, rfl⟩ | ⟨g, c, rfl, hg, h0⟩⟩ := h
 ·refine rA ?_;try simp
  refine raA ?_;try simp
  refine oC' (zDe f) ?_;try simp
  refine raA ?_;try simp
  refine oC' (w9c f) ?_;try simp
  refine oC' ((wKd [] f (by simp)).arg (.cons (Le.lst true f []) .nil)) ?_;try simp
  refine AWp.ret (zea rfl ⟨strs [], m0, ?_, by simpa [zCa] using hK⟩);try simp
  refine (View.fo he _).trans ?_;intro w S u h1 h2;exact ⟨S, fun _ h => h, fun _ h => .inl h, h1, Le.nil _ _ _ _ _ _ h2, fun g b h => by rw [h]; simp⟩
 refine rA ?_;try simp
 refine rA ?_;try simp
 refine wA ?_;refine yMe hg (by omega) ?_;try simp
 refine rA ?_;try simp
 refine wA ?_;have hl := yrc xs;have hg2 : (m.set g (.arr 9 1 c ((xlb xs).map .str))) g = some (.arr 9 1 c ((xlb xs).map .str)) := zaa _ _ _;have c2 := @yLd (m.set g (.arr 9 1 c ((xlb xs).map .str))) g c (xlb xs) hg2 (by omega);rw [hl, yKd] at c2;refine c2 ?_;try simp
 refine wA ?_;have hlen := xpa xs;refine zca.viewed (l := []) (l' := []) (wKd ((zCa xs).map .str) 1 (by simp; omega)) (View.freeze (T := 9) (e := 1) (by simp) (by simp)) ?_;try simp
 refine AWp.ret (zea rfl ⟨strs (zCa xs), m0, ?_, hK⟩);try simp
 refine (View.fo (m' := m0) (fun k b hk => ?_) _).trans ?_
 ·have hkg : k ≠ g := fun e => by rw [e, h0] at hk; cases hk
  simp only [Mem.del, zia, if_neg hkg];exact he k b hk
 intro w S u h1 h2;exact ⟨S, fun _ h => h, fun _ h => .inl h, h1, Le.lst _ _ _ _ _ _ h2, fun g b h => by rw [h]; simp⟩
end Go.T
