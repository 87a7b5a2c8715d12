/- Parts of the proof of FnParsed: The reference's Parse. -/
import Derived.Test.YtdbnllfjmkmdiaaGreatDoorG20
import Derived.Test.YtdbnllfjmkmdiaaGreatDoorG11
import Derived.Test.YtdbnllfjmkmdiaaGreatDoorG19
import Derived.Test.YtdbnllfjmkmdiaaGreatDoorG9
import Derived.Test.YtdbnllfjmkmdiaaGreatDoorG18
import Derived.Test.YtdbnllfjmkmdiaaGreatDoorG12
import Derived.Test.YtdbnllfjmkmdiaaGreatDoorG7
set_option linter.unusedSimpArgs false
set_option linter.unusedVariables false
namespace Go.T
open Go Go.Proofs
set_option maxRecDepth 10000
set_option maxHeartbeats 1000000
open Go
def z6e (o : Option Pg) : AV := .tup [(o.getD (Pg.mk [] [])).av, .bool o.isSome]
theorem xfd : Le (.agg [.lst true 0 [], .lst true 0 []]) (Pg.mk [] []).av := Le.agg (.cons (Le.nil _ _ _) (.cons (Le.nil _ _ _) .nil))
theorem yHc (s : ByteArray) (hz : s.size <= 9223372036854775807) : zca Tryz.prog 20 [.str s] (z6e (parse s)) := by
 obtain ⟨T, hTd⟩ : ∃ T, T = (lex s).getD [] := ⟨_, rfl⟩;have hT : (∀ t ∈ T, t.fine) /\ T.length <= 600 := by
  cases hl : lex s with
  | none => rw [hTd, hl]; simp
  | some T' =>
   rw [hTd, hl];exact x3a hl
 obtain ⟨hT, h6⟩ := hT;refine pO Tryz.func20 ?_;refine rA ?_;simp;intro g2;refine AWp.gen (fun st => st.sl 0 = .str s /\ st.sl 2 = .ptr g2 0 /\ st.sl 3 = .bool false /\ st.mem g2 = some (.box [.lst true 0 [], .lst true 0 []])) ⟨by simp, by simp, by simp, by simp [zaa]⟩ ?_;rintro st ⟨s0, s2, s3, w2⟩;obtain ⟨m1, sm⟩ : ∃ m1, st.mem = m1 := ⟨_, rfl⟩;rw [sm] at w2;refine rA ?_;simp [s0];refine wA ?_;simp [sm];refine wCb s hz ?_;rw [<- hTd];try simp
 refine AWp.gen (fun st => st.sl 2 = .ptr g2 0 /\ st.sl 3 = .bool false /\ st.sl 4 = .lst false 3 (T.map Tk.av) /\ st.sl 5 = .bool (lex s).isSome /\ st.mem = m1) ⟨by simp [s2], by simp [s3], by simp, by simp, by simp⟩ ?_;clear s0 s2 s3 sm;rintro st ⟨s2, s3, s4, s5, sm⟩;refine rA ?_;simp [s4, s5, sm];intro g6 hg6;have n26 : g2 ≠ g6 := by rintro rfl; rw [w2] at hg6; cases hg6
 have w2 := zFa hg6 (.box (pc T 0 0 (!(lex s).isSome))) _ _ w2;have hP : PS g6 T 0 0 (!(lex s).isSome) (m1.set g6 (.box (pc T 0 0 (!(lex s).isSome)))) := ⟨zaa _ _ _, by simp, h6⟩;refine AWp.gen (fun st => st.sl 2 = .ptr g2 0 /\ st.sl 3 = .bool false /\ st.sl 4 = .lst false 3 (T.map Tk.av) /\ st.sl 6 = .ptr g6 0 /\ st.mem = m1.set g6 (.box (pc T 0 0 (!(lex s).isSome)))) ⟨by simp [s2], by simp [s3], by simp [s4], by simp, by simp [pc]⟩ ?_;generalize m1.set g6 (.box (pc T 0 0 (!(lex s).isSome))) = m2 at *;clear s2 s3 s4 s5 sm hg6;rintro st ⟨s2, s3, s4, s6, sm⟩;have hgr := hP.at
 refine rA ?_;simp [sm];intro g7 hg7;have h := (BH.start hP).new hgr hg7 (.box [.lst true 0 [], .lst true 0 []]);refine AWp.gen (fun st => st.sl 2 = .ptr g2 0 /\ st.sl 3 = .bool false /\ st.sl 4 = .lst false 3 (T.map Tk.av) /\ st.sl 6 = .ptr g6 0 /\ st.sl 7 = .ptr g7 0 /\ st.mem = m2.set g7 (.box [.lst true 0 [], .lst true 0 []])) ⟨by simp [s2], by simp [s3], by simp [s4], by simp [s6], by simp, by simp⟩ ?_;clear s2 s3 s4 s6 sm;rintro st ⟨s2, s3, s4, s6, s7, sm⟩;have w7 := h.get (g := g7) (b := .box [.lst true 0 [], .lst true 0 []]) (by simp);rw [<- sm] at w7 h;refine AWp.se (Sees.boxLe (cs' := [.lst false 2 (([] : List Ar).map Ar.av), .lst true 0 []]) w7 (.cons (Le.nil _ _ _) (.cons (Le.refl _) .nil))) ?_;have h := BH.put (l1 := []) (b' := .box [.lst false 2 (([] : List Ar).map Ar.av), .lst true 0 []]) h;refine AWp.gen (fun st' => st'.sl 2 = .ptr g2 0 /\ st'.sl 3 = .bool false /\ st'.sl 4 = .lst false 3 (T.map Tk.av) /\ st'.sl 6 = .ptr g6 0 /\ st'.sl 7 = .ptr g7 0 /\ st'.mem = st.mem.set g7 (.box [.lst false 2 (([] : List Ar).map Ar.av), .lst true 0 []])) ⟨s2, s3, s4, s6, s7, rfl⟩ ?_;generalize st.mem.set g7 (.box [.lst false 2 (([] : List Ar).map Ar.av), .lst true 0 []]) = m3 at *;clear s2 s3 s4 s6 s7 sm w7 hg7;rintro st ⟨s2, s3, s4, s6, s7, sm⟩;obtain ⟨bad0, hbad0⟩ : ∃ b, b = !(lex s).isSome := ⟨_, rfl⟩;rw [<- hbad0] at h hP;obtain ⟨M, hM⟩ : ∃ M : St -> Prop, M = (fun st => ∃ us a1 b1, st.sl 2 = .ptr g2 0 /\ st.sl 3 = .bool false /\ st.sl 4 = .lst false 3 (T.map Tk.av) /\ st.sl 6 = .ptr g6 0 /\ st.sl 7 = .ptr g7 0 /\ BH m2 g6 T a1 0 b1 [(g7, .box [.lst false 2 ((zsa us).map Ar.av), .lst true 0 []])] st.mem /\ zfa (xaa []) T 0 bad0 us a1 b1) := ⟨_, rfl⟩;(repeat refine qA ?_);refine AWp.cA M ?_ ?_
 ·refine AWp.block (AWp.ro (fun q st => ∃ us a1 b1, q = (if b1 = true then 0 else T.length - a1 + 1) /\ st.sl 2 = .ptr g2 0 /\ st.sl 3 = .bool false /\ st.sl 4 = .lst false 3 (T.map Tk.av) /\ st.sl 6 = .ptr g6 0 /\ st.sl 7 = .ptr g7 0 /\ BH m2 g6 T a1 0 b1 [(g7, .box [.lst false 2 ((zsa us).map Ar.av), .lst true 0 []])] st.mem /\ (us.length <= 600 /\ (b1 = false -> us.length <= a1)) /\ ∀ y a2 b2, zfa (xaa us) T a1 b1 y a2 b2 -> zfa (xaa []) T 0 bad0 y a2 b2) (if bad0 = true then 0 else T.length - 0 + 1) ⟨[], 0, bad0, rfl, s2, s3, s4, s6, s7, by rw [sm]; exact h, by simp, fun _ _ _ h => h⟩ ?_)
  clear s2 s3 s4 s6 s7 sm h;rintro RR q st hRR ⟨us, a1, b1, rfl, s2, s3, s4, s6, s7, h, ⟨hlen6, hlen⟩, hall⟩;refine rA ?_;simp [s6];refine wA ?_;try simp [s6]
  refine wFa h.ps y6a fun n1 hPn hOn => ?_;try simp
  have h := h.call hgr hOn hPn;clear hPn hOn;cases hi : (hdT T a1 b1).is 3 y6a with
  | false =>
   have hno := xrc hi;rw [hi] at h;simp at h;try simp
   refine fA ?_;refine eA ?_;subst hM;exact ⟨us, a1, b1, by simp [s2], by simp [s3], by simp [s4], by simp [s6], by simp [s7], by simpa using h, hall _ _ _ (wlb us hno)⟩
  | true =>
   obtain ⟨rfl, hlt, _, hmk⟩ := yjb (by omega) hi;rw [hi] at h;simp at h;try simp
   refine tA ?_;refine kA ?_;try simp
   (repeat refine qA ?_);refine bA ?_;refine AWp.gen (fun st => st.sl 2 = .ptr g2 0 /\ st.sl 3 = .bool false /\ st.sl 4 = .lst false 3 (T.map Tk.av) /\ st.sl 6 = .ptr g6 0 /\ st.sl 7 = .ptr g7 0 /\ st.mem = n1) ⟨by simp [s2], by simp [s3], by simp [s4], by simp [s6], by simp [s7], by simp⟩ ?_;clear s2 s3 s4 s6 s7 hi;rintro st ⟨s2, s3, s4, s6, s7, sm⟩;refine rA ?_;simp [s6];refine wA ?_;simp [sm, s6];refine xqc h.ps fun n2 nm a2 b2 hPn hOn run1 => ?_;have h := h.call hgr hOn hPn;clear hPn hOn;try simp [s6]
   refine wA ?_;try simp [s6]
   refine yVe h.ps fun n3 num a3 b3 hPn hOn run2 => ?_;have h := h.call hgr hOn hPn;clear hPn hOn;simp;intro g8 hg8;have h := h.new hgr hg8 (.box [.str nm, .int .i64 num]);refine AWp.gen (fun st => st.sl 2 = .ptr g2 0 /\ st.sl 3 = .bool false /\ st.sl 4 = .lst false 3 (T.map Tk.av) /\ st.sl 6 = .ptr g6 0 /\ st.sl 7 = .ptr g7 0 /\ st.sl 8 = .ptr g8 0 /\ st.mem = n3.set g8 (.box [.str nm, .int .i64 num])) ⟨by simp [s2], by simp [s3], by simp [s4], by simp [s6], by simp [s7], by simp, by first | (simp; done) | (simp [sm]; done)⟩ ?_
   generalize n3.set g8 (.box [.str nm, .int .i64 num]) = n4 at *;clear s2 s3 s4 s6 s7 sm;rintro st ⟨s2, s3, s4, s6, s7, s8, sm⟩;clear hg8;have w7 := h.get (g := g7) (b := .box [.lst false 2 ((zsa us).map Ar.av), .lst true 0 []]) (by simp);have w8 := h.get (g := g8) (b := .box [.str nm, .int .i64 num]) (by simp);refine rA ?_;simp [s7, s8, sm, w7, w8];refine oC' (zRe (zsa us) (Ar.mk nm num) (by rw [wAa]; omega)) ?_;rw [<- z3c];simp [s7, sm, w7];have h := (BH.put (l1 := [(g8, .box [.str nm, .int .i64 num])]) (b' := .box [.lst false 2 ((zsa (us ++ [Ar.mk nm num])).map Ar.av), .lst true 0 []]) h).less (bs' := [(g7, .box [.lst false 2 ((zsa (us ++ [Ar.mk nm num])).map Ar.av), .lst true 0 []])]) (List.sublist_cons_self _ _);refine AWp.gen (fun st => st.sl 2 = .ptr g2 0 /\ st.sl 3 = .bool false /\ st.sl 4 = .lst false 3 (T.map Tk.av) /\ st.sl 6 = .ptr g6 0 /\ st.sl 7 = .ptr g7 0 /\ st.mem = n4.set g7 (.box [.lst false 2 ((zsa (us ++ [Ar.mk nm num])).map Ar.av), .lst true 0 []])) ⟨by simp [s2], by simp [s3], by simp [s4], by simp [s6], by simp [s7], by first | (simp; done) | (simp [sm]; done)⟩ ?_
   generalize n4.set g7 (.box [.lst false 2 ((zsa (us ++ [Ar.mk nm num])).map Ar.av), .lst true 0 []]) = n5 at *;clear s2 s3 s4 s6 s7 sm;rintro st ⟨s2, s3, s4, s6, s7, sm⟩;clear s8 w7 w8;refine rA ?_;simp [s6];refine wA ?_;simp [sm, s6];refine zPa h.ps (ch 59) fun mA hPn hOn => ?_;try simp [s6]
   refine wA ?_;try simp [s6]
   refine yna hPn _ fun n4 hPm hOm => ?_;obtain ⟨a4, b4, hPm, run4⟩ : ∃ a' b', PS g6 T a' 0 b' n4 /\ zfa (tkR (ch 59)) T a3 b3 () a' b' := ⟨_, _, hPm, yoa h.ps.le _⟩;have h := h.call hgr (hOn.trans hOm) hPm;have was4 := zfa.was run4;clear hPn hOn hPm hOm;try simp
   have runA : zfa xqd T (a1 + 1) false (Ar.mk nm num) a4 b4 := run1.then_ (run2.then_ (run4.then_ (zfa.done _ T a4 b4)));have hle := h.ps.le;have hl1 := hlen rfl;have hpos : b4 = false -> a1 + 1 < a4 := fun e => by
    subst e;have := (zfa.ltN (ysa.less wBa (by omega) fun _ => Nat.le_refl _) runA hle).1;omega
   refine hRR _ (if b4 = true then 0 else T.length - a4 + 1) ?_ ⟨us ++ [Ar.mk nm num], a4, b4, rfl, by simp [s2], by simp [s3], by simp [s4], by simp [s6], by simp [s7], by simpa using h, ⟨by simp; omega, fun e => by have := hpos e; simp; omega⟩, fun y a5 b5 hr => hall y a5 b5 (wmb hlt hmk runA hr)⟩
   cases b4 with
   | true => simp
   | false =>
    have := hpos rfl;simp;omega
 clear s2 s3 s4 s6 s7 sm h;intro st hst;subst hM;obtain ⟨us, a0, b0, s2, s3, s4, s6, s7, h, runA⟩ := hst;have hS : wcd Tryz.prog 67 0 (yta 5) := by simpa using woc 5 (by omega)
 obtain ⟨M, hM⟩ : ∃ M : St -> Prop, M = (fun st => ∃ bs o a1 d1 b1, st.sl 2 = .ptr g2 0 /\ st.sl 3 = .bool false /\ st.sl 6 = .ptr g6 0 /\ st.sl 7 = .ptr g7 0 /\ BH m2 g6 T a1 d1 b1 (yva 83 19 (bs.map Sm.av) o ++ [(g7, .box [.lst false 2 ((zsa us).map Ar.av), waa bs.length o])]) st.mem /\ (o = none -> bs = []) /\ zfa (y7a (yta 5) []) T a0 b0 bs a1 b1) := ⟨_, rfl⟩;(repeat refine qA ?_);refine AWp.cA M ?_ ?_
 ·refine AWp.block (AWp.ro (fun q st => ∃ bs o a1 d1 b1, q = (if b1 = true then 0 else T.length - a1 + 1) /\ st.sl 2 = .ptr g2 0 /\ st.sl 3 = .bool false /\ st.sl 4 = .lst false 3 (T.map Tk.av) /\ st.sl 6 = .ptr g6 0 /\ st.sl 7 = .ptr g7 0 /\ BH m2 g6 T a1 d1 b1 (yva 83 19 (bs.map Sm.av) o ++ [(g7, .box [.lst false 2 ((zsa us).map Ar.av), waa bs.length o])]) st.mem /\ (o = none -> bs = []) /\ (b1 = false -> d1 = 0 /\ bs.length <= a1) /\ ∀ y a2 b2, zfa (y7a (yta 5) bs) T a1 b1 y a2 b2 -> zfa (y7a (yta 5) []) T a0 b0 y a2 b2) (if b0 = true then 0 else T.length - a0 + 1) ⟨[], none, a0, 0, b0, rfl, s2, s3, s4, s6, s7, h, fun _ => rfl, fun _ => ⟨rfl, by simp⟩, fun _ _ _ h => h⟩ ?_)
  clear s2 s3 s4 s6 s7 h;rintro RR q st hRR ⟨bs, o, a1, d1, b1, rfl, s2, s3, s4, s6, s7, h, ho, hdl, hall⟩;have hbx := h.ps.box;unfold pc at hbx;cases b1 with
  | true =>
   (repeat refine qA ?_);refine AWp.rG (fun _ => false) (fun _ => false) [0, 1, 2, 3, 4, 5, 6, 7, 8, 9, 10, 11, 12, 13, 14, 15, 16] [0, 1, 2, 3, 4, 5, 6, 7, 8, 9, 10, 11, 12, 13, 14, 15, 16] (by kernel_rfl) ?_;simp [s6, hbx];refine fA ?_;refine eA ?_;subst hM;exact ⟨bs, o, a1, d1, true, by simp [s2], by simp [s3], by simp [s6], by simp [s7], by simpa using h, ho, hall _ _ _ (zrb bs (.inl rfl))⟩
  | false =>
   obtain ⟨hd1, hlen⟩ := hdl rfl;subst hd1;have hle1 := h.ps.le;by_cases hlt : a1 < T.length
   ·have hlt2 : (a1 : Int) < T.length := by omega
    (repeat refine qA ?_);refine AWp.rG (fun _ => false) (fun _ => false) [0, 1, 2, 3, 4, 5, 6, 7, 8, 9, 10, 11, 12, 13, 14, 15, 16] [0, 1, 2, 3, 4, 5, 6, 7, 8, 9, 10, 11, 12, 13, 14, 15, 16] (by kernel_rfl) ?_;simp [s6, hbx, hlt2];refine tA ?_;refine kA ?_;try simp
    (repeat refine qA ?_);refine bA ?_;refine AWp.gen (fun st' => st'.sl 2 = .ptr g2 0 /\ st'.sl 3 = .bool false /\ st'.sl 4 = .lst false 3 (T.map Tk.av) /\ st'.sl 6 = .ptr g6 0 /\ st'.sl 7 = .ptr g7 0 /\ st'.mem = st.mem) ⟨by simp [s2], by simp [s3], by simp [s4], by simp [s6], by simp [s7], by simp⟩ ?_;clear s2 s3 s4 s6 s7 hbx;generalize st.mem = n0 at *;rintro st ⟨s2, s3, s4, s6, s7, sm⟩;obtain ⟨_, rv2, rv3⟩ := z2b bs.length o;(repeat refine qA ?_);refine AWp.regionX (fun _ => false) (fun _ => false) [0, 1, 2, 3, 4, 5, 6, 7] [0, 2, 3, 1, 4, 5, 6, 7] 1 3 [0, 1, 2, 3, 4, 5, 6, 7] (by kernel_rfl) ?_ ?_
    ·have w7 := h.get (g := g7) (b := .box [.lst false 2 ((zsa us).map Ar.av), waa bs.length o]) (by cases o <;> simp [yva])
     simp [s6, s7, sm, w7, rv2, rv3];refine wA ?_;simp [sm];refine hS g6 T a1 0 false _ h.ps hT (fun _ => rfl) _ fun n1 x a2 d2 b2 hPn hOn run hdd => ?_;have hle := (BH.call h hgr hOn hPn).ps.le;have h := h.call hgr hOn hPn;clear hPn hOn;simp [Sm.av, zda];refine BH.app (xs := bs.map Sm.av) (bs := [(g7, .box [.lst false 2 ((zsa us).map Ar.av), waa bs.length o])]) (x := Sm.av x) et_30 (by simp) h hgr (fun e => by rw [ho e]; rfl) (by simp [wwa, Sm.av]) (Sm.cells_ok x) (by omega) fun g' c' n2 h => ?_;have w7 := h.get (g := g7) (b := .box [.lst false 2 ((zsa us).map Ar.av), waa bs.length o]) (by simp [yva]);obtain ⟨r1, r2, r3⟩ := z2b (bs.length + 1) (some (g', c'));simp [s7, w7, r1, r2, r3];have h := BH.put (l1 := yva 83 19 (bs.map Sm.av ++ [Sm.av x]) (some (g', c'))) (b' := .box [.lst false 2 ((zsa us).map Ar.av), waa (bs.length + 1) (some (g', c'))]) h;refine hRR _ (if b2 = true then 0 else T.length - a2 + 1) ?_ ⟨bs ++ [x], some (g', c'), a2, d2, b2, rfl, by simp [s2], by simp [s3], by simp [s4], by simp [s6], by simp [s7], by simpa [Sm.av] using h, fun e => (by cases e), fun e => ⟨hdd e, ?_⟩, fun y a3 b3 hr => hall y a3 b3 (xab (zLa 5) hlt run hr)⟩
     ·cases b2 with
      | true => simp
      | false =>
       have := (zfa.ltN (zLa 5) run hle).1;simp;omega
     subst e;have := (zfa.ltN (zLa 5) run hle).1;simp;omega
    simp [s6, s7, sm];refine wA ?_;simp [sm];refine hS g6 T a1 0 false _ h.ps hT (fun _ => rfl) _ fun n1 x a2 d2 b2 hPn hOn run hdd => ?_;have hle := (BH.call h hgr hOn hPn).ps.le;have h := h.call hgr hOn hPn;clear hPn hOn;have w7 := h.get (g := g7) (b := .box [.lst false 2 ((zsa us).map Ar.av), waa bs.length o]) (by cases o <;> simp [yva])
    simp [-zba, w7, rv2, rv3, s7, Sm.av, zda];refine BH.app (xs := bs.map Sm.av) (bs := [(g7, .box [.lst false 2 ((zsa us).map Ar.av), waa bs.length o])]) (x := Sm.av x) et_30 (by simp) h hgr (fun e => by rw [ho e]; rfl) (by simp [wwa, Sm.av]) (Sm.cells_ok x) (by omega) fun g' c' n2 h => ?_;have w7 := h.get (g := g7) (b := .box [.lst false 2 ((zsa us).map Ar.av), waa bs.length o]) (by simp [yva]);obtain ⟨r1, r2, r3⟩ := z2b (bs.length + 1) (some (g', c'));simp [s7, w7, r1, r2, r3];have h := BH.put (l1 := yva 83 19 (bs.map Sm.av ++ [Sm.av x]) (some (g', c'))) (b' := .box [.lst false 2 ((zsa us).map Ar.av), waa (bs.length + 1) (some (g', c'))]) h;refine hRR _ (if b2 = true then 0 else T.length - a2 + 1) ?_ ⟨bs ++ [x], some (g', c'), a2, d2, b2, rfl, by simp [s2], by simp [s3], by simp [s4], by simp [s6], by simp [s7], by simpa [Sm.av] using h, fun e => (by cases e), fun e => ⟨hdd e, ?_⟩, fun y a3 b3 hr => hall y a3 b3 (xab (zLa 5) hlt run hr)⟩
    ·cases b2 with
     | true => simp
     | false =>
      have := (zfa.ltN (zLa 5) run hle).1;simp;omega
    subst e;have := (zfa.ltN (zLa 5) run hle).1;simp;omega
   have hlt2 : ¬ (a1 : Int) < T.length := by omega
   (repeat refine qA ?_);refine AWp.rG (fun _ => false) (fun _ => false) [0, 1, 2, 3, 4, 5, 6, 7, 8, 9, 10, 11, 12, 13, 14, 15, 16] [0, 1, 2, 3, 4, 5, 6, 7, 8, 9, 10, 11, 12, 13, 14, 15, 16] (by kernel_rfl) ?_;simp [s6, hbx, hlt2];refine fA ?_;refine eA ?_;subst hM;exact ⟨bs, o, a1, 0, false, by simp [s2], by simp [s3], by simp [s6], by simp [s7], by simpa using h, ho, hall _ _ _ (zrb bs (.inr (by omega)))⟩
 clear s2 s3 s4 s6 s7 h;intro st hst;subst hM;obtain ⟨bs, o, a1, d1, b1, s2, s3, s6, s7, h, ho, runB⟩ := hst;rw [hbad0] at runA;obtain ⟨o1, o2⟩ := wGb hTd runA runB;cases o with
 | none =>
  have hbs := ho rfl;have w7 := h.get (g := g7) (b := .box [.lst false 2 ((zsa us).map Ar.av), .lst true 0 []]) (by simp [waa, yva]);refine AWp.se (Sees.boxLe (cs' := [.lst false 2 ((zsa us).map Ar.av), .lst false 19 (bs.map Sm.av)]) w7 (.cons (Le.refl _) (.cons (by rw [hbs]; exact Le.nil _ _ _) .nil))) ?_;refine AWp.gen (fun st' => st'.sl 2 = .ptr g2 0 /\ st'.sl 3 = .bool false /\ st'.sl 6 = .ptr g6 0 /\ st'.sl 7 = .ptr g7 0 /\ BH m2 g6 T a1 d1 b1 [(g7, .box [.lst false 2 ((zsa us).map Ar.av), .lst false 19 (bs.map Sm.av)])] st'.mem) ⟨s2, s3, s6, s7, BH.put (l1 := []) (b' := .box [.lst false 2 ((zsa us).map Ar.av), .lst false 19 (bs.map Sm.av)]) h⟩ ?_;clear w7 hbs;clear s2 s3 s6 s7 h;rintro st ⟨s2, s3, s6, s7, h⟩;have hbx := h.ps.box;unfold pc at hbx;have w7 := h.get (g := g7) (b := .box [.lst false 2 ((zsa us).map Ar.av), .lst false 19 (bs.map Sm.av)]) (by simp);have w2' := h.off g2 _ n26 w2;have bad : ∀ st' : St, parse s = none -> st'.sl 2 = .ptr g2 0 -> st'.sl 3 = .bool false -> st'.mem g2 = some (.box [.lst true 0 [], .lst true 0 []]) -> Post Tryz.prog Tryz.f20 (fun r' _ => r' = z6e (parse s)) .ret st' := fun st' hn t2 t3 tm => by
   rw [hn];exact ⟨[.agg [.lst true 0 [], .lst true 0 []], .bool false], z6e none, st'.mem, by simp [Tryz.f20, zQa, t2, t3, tm], View.le (Le.tup (.cons xfd (.cons (Le.refl _) .nil))) _, rfl⟩
  cases b1 with
  | true =>
   refine rA ?_;simp [s6, s7, hbx];refine tA ?_;refine rA ?_;simp [s2, w2'];refine AWp.ret (bad _ (by rw [<- wXb]; exact o1 rfl) ?_ ?_ ?_) <;> simp [s2, zaa]
  | false =>
   obtain ⟨o3, r1, r2, hA, hB⟩ := o2 rfl;rw [wXb] at o3;obtain ⟨z1, z2, z3⟩ := wfa (zLa 5) hT h6 hA hB;have ht : (Pg.mk (zsa us) bs).tot <= 1048576 := by
    have h1 : zAa Ar.tot (zsa us) <= (zsa us).length * (6 + 1) := xra (B := 6) fun x hx => by
     have h3 := zBb hT hA x ((wZb us x).1 hx);omega
    rw [wAa] at h1;show zAa Ar.tot (zsa us) + zAa Sm.tot bs <= _;omega
   refine rA ?_;simp [s6, s7, hbx, w7];refine oC' (r := .bool (Pg.mk (zsa us) bs).ok) (by simpa [Pg.av, Pg.cells] using x6a (Pg.mk (zsa us) bs) ht) ?_;cases hb : (Pg.mk (zsa us) bs).ok with
   | false =>
    rw [hb] at o3;simp;refine tA ?_;refine rA ?_;simp [s2, w2'];refine AWp.ret (bad _ (by rw [o3]; rfl) ?_ ?_ ?_) <;> simp [s2, zaa]
   | true =>
    rw [hb] at o3;have hps : parse s = some (Pg.mk (zsa us) bs) := by rw [o3]; rfl
    simp;refine fA ?_;refine kA ?_;try simp
    refine rA ?_;simp [s2, s7, w2', w7];exact AWp.ret ⟨[(Pg.mk (zsa us) bs).av, .bool true], _, _, by simp [Tryz.f20, zQa, s2, Pg.av, Pg.cells, zaa], View.refl _ _, by rw [hps]; rfl⟩
 | some p =>
  obtain ⟨g, c⟩ := p;have w7 := h.get (g := g7) (b := .box [.lst false 2 ((zsa us).map Ar.av), .own g bs.length c]) (by simp [waa, yva]);have wg := h.get (g := g) (b := .arr 83 19 c (bs.map Sm.av)) (by simp [yva]);refine AWp.se (Sees.freezeIn (i := 1) w7 rfl wg (by simp)) ?_;refine AWp.gen (fun st' => st'.sl 2 = .ptr g2 0 /\ st'.sl 3 = .bool false /\ st'.sl 6 = .ptr g6 0 /\ st'.sl 7 = .ptr g7 0 /\ BH m2 g6 T a1 d1 b1 [(g7, .box [.lst false 2 ((zsa us).map Ar.av), .lst false 19 (bs.map Sm.av)])] st'.mem) ⟨s2, s3, s6, s7, BH.put (l1 := []) (b' := .box [.lst false 2 ((zsa us).map Ar.av), .lst false 19 (bs.map Sm.av)]) (BH.del (l1 := []) h)⟩ ?_;clear w7 wg;clear s2 s3 s6 s7 h;rintro st ⟨s2, s3, s6, s7, h⟩;have hbx := h.ps.box;unfold pc at hbx;have w7 := h.get (g := g7) (b := .box [.lst false 2 ((zsa us).map Ar.av), .lst false 19 (bs.map Sm.av)]) (by simp);have w2' := h.off g2 _ n26 w2;have bad : ∀ st' : St, parse s = none -> st'.sl 2 = .ptr g2 0 -> st'.sl 3 = .bool false -> st'.mem g2 = some (.box [.lst true 0 [], .lst true 0 []]) -> Post Tryz.prog Tryz.f20 (fun r' _ => r' = z6e (parse s)) .ret st' := fun st' hn t2 t3 tm => by
   rw [hn];exact ⟨[.agg [.lst true 0 [], .lst true 0 []], .bool false], z6e none, st'.mem, by simp [Tryz.f20, zQa, t2, t3, tm], View.le (Le.tup (.cons xfd (.cons (Le.refl _) .nil))) _, rfl⟩
  cases b1 with
  | true =>
   refine rA ?_;simp [s6, s7, hbx];refine tA ?_;refine rA ?_;simp [s2, w2'];refine AWp.ret (bad _ (by rw [<- wXb]; exact o1 rfl) ?_ ?_ ?_) <;> simp [s2, zaa]
  | false =>
   obtain ⟨o3, r1, r2, hA, hB⟩ := o2 rfl;rw [wXb] at o3;obtain ⟨z1, z2, z3⟩ := wfa (zLa 5) hT h6 hA hB;have ht : (Pg.mk (zsa us) bs).tot <= 1048576 := by
    have h1 : zAa Ar.tot (zsa us) <= (zsa us).length * (6 + 1) := xra (B := 6) fun x hx => by
     have h3 := zBb hT hA x ((wZb us x).1 hx);omega
    rw [wAa] at h1;show zAa Ar.tot (zsa us) + zAa Sm.tot bs <= _;omega
   refine rA ?_;simp [s6, s7, hbx, w7];refine oC' (r := .bool (Pg.mk (zsa us) bs).ok) (by simpa [Pg.av, Pg.cells] using x6a (Pg.mk (zsa us) bs) ht) ?_;cases hb : (Pg.mk (zsa us) bs).ok with
   | false =>
    rw [hb] at o3;simp;refine tA ?_;refine rA ?_;simp [s2, w2'];refine AWp.ret (bad _ (by rw [o3]; rfl) ?_ ?_ ?_) <;> simp [s2, zaa]
   | true =>
    rw [hb] at o3;have hps : parse s = some (Pg.mk (zsa us) bs) := by rw [o3]; rfl
    simp;refine fA ?_;refine kA ?_;try simp
    refine rA ?_;simp [s2, s7, w2', w7];exact AWp.ret ⟨[(Pg.mk (zsa us) bs).av, .bool true], _, _, by simp [Tryz.f20, zQa, s2, Pg.av, Pg.cells, zaa], View.refl _ _, by rw [hps]; rfl⟩
end Go.T
namespace Go.T
open Go Go.Proofs
set_option maxRecDepth 10000
set_option maxHeartbeats 1000000
end Go.T
namespace Go.T
open Go Go.Proofs
set_option maxRecDepth 10000
set_option maxHeartbeats 1000000
open Go
theorem zrd (s : ByteArray) : ((parse s).getD (Pg.mk [] [])).tot <= 100000 := by
 cases hp : parse s with
 | none => decide
 | some p =>
  unfold parse wqa at hp;cases hl : lex s with
  | none => rw [hl] at hp; cases hp
  | some T =>
   rw [hl] at hp;obtain ⟨hT, h6⟩ := x3a hl;simp only at hp;cases hs : zXa (xaa []) (fun us => zXa (y7a (zZa 3) []) fun b => xca (Pg.mk (zsa us) b)) T with
   | none => rw [hs] at hp; cases hp
   | some o =>
    obtain ⟨q, r⟩ := o;rw [hs] at hp;simp only at hp;split at hp
    ·cases hp;obtain ⟨us, r1, hA, h⟩ := zla.1 hs;obtain ⟨b, r2, hB, h⟩ := zla.1 h;have hq : p = Pg.mk (zsa us) b := by cases h; rfl
     subst hq;obtain ⟨z1, z2, z3⟩ := wfa (yua 3) hT h6 hA hB;have h1 : zAa Ar.tot (zsa us) <= (zsa us).length * (6 + 1) := xra (B := 6) fun x hx => by
      have h3 := zBb hT hA x ((wZb us x).1 hx);omega
     rw [wAa] at h1;show zAa Ar.tot (zsa us) + zAa Sm.tot b <= _;omega
    cases hp

theorem zSe (a b : List UInt8) : txt a ++ txt b = txt (a ++ b) := zOc a b
theorem yOa (a : List UInt8) : (txt a).size = a.length := zUa a
theorem aT (a b : List UInt8) (h : a.length + b.length <= 9223372036854775807) : yia .add (.str (txt a)) (.str (txt b)) = some (.str (txt (a ++ b))) := by
 rw [wAd, yOa, yOa, if_pos h, zSe]
theorem xgd (e : Ex) : zca Tryz.prog 146 [e.av] (.int .i64 (lev e.kind)) := by
 rcases e with ⟨k, n, s, l⟩;refine pO Tryz.func146 ?_;refine rA ?_;simp [Ex.av];intro g1;refine AWp.gen (fun st => st.sl 1 = .ptr g1 0 /\ st.mem g1 = some (.box [.int .i64 k, .int .i64 n, .str s, .lst false 4 (l.map Ex.av)])) ⟨by simp, by simp [Ex.cells_mk]⟩ ?_;rintro st ⟨s1, w1⟩;refine rA ?_;simp [s1, w1];(repeat refine qA ?_);refine bA ?_;refine rA ?_;simp;by_cases k4 : k = 4
 ·(repeat refine qA ?_);refine AWp.condT (by simp [k4]) ?_;refine kA ?_;(repeat refine qA ?_);refine AWp.condT (by simp [k4]) ?_;refine rA ?_;simp;exact AWp.ret (pR1 rfl (by simp [lev, k4, Ex.kind]))
 (repeat refine qA ?_);refine AWp.condF (by simp [k4]) ?_;refine rA ?_;simp;by_cases k5 : k = 5
 ·(repeat refine qA ?_);refine AWp.condT (by simp [k5]) ?_;refine rA ?_;simp;exact AWp.ret (pR1 rfl (by simp [lev, k5, Ex.kind]))
 (repeat refine qA ?_);refine AWp.condF (by simp [k5]) ?_;refine rA ?_;simp;by_cases k6 : k = 6
 ·(repeat refine qA ?_);refine AWp.condT (by simp [k6]) ?_;refine rA ?_;simp;exact AWp.ret (pR1 rfl (by simp [lev, k6, Ex.kind]))
 (repeat refine qA ?_);refine AWp.condF (by simp [k6]) ?_;refine kA ?_;try simp
 refine rA ?_;simp;exact AWp.ret (pR1 rfl (by simp [lev, k4, k5, k6, Ex.kind]))
theorem wIb (e : Ex) (v : Int) (hz : e.pr.length <= 1000000) (h : zca Tryz.prog 37 [e.av] (.str (txt e.pr))) : zca Tryz.prog 95 [e.av, .int .i64 v] (.str (txt (yib (decide ((lev e.kind : Int) < v)) e.pr))) := by
 have hl := xgd e;have a1 := aT [40] e.pr (by simp; omega);have a2 := aT (40 :: e.pr) [41] (by simp; omega);have f1 : txt [40] = ⟨#[40]⟩ := rfl;have f2 : txt [41] = ⟨#[41]⟩ := rfl;rw [f1] at a1;rw [f2] at a2;simp only [List.cons_append, List.nil_append] at a1 a2;refine pO Tryz.func95 ?_;refine rA ?_;simp [Ex.av];intro g1;refine AWp.gen (fun st => st.sl 1 = .int .i64 v /\ st.sl 2 = .ptr g1 0 /\ st.mem g1 = some (.box e.cells)) ⟨by simp, by simp, by simp⟩ ?_;rintro st ⟨s1, s2, w1⟩;have tk4 : List.take 4 e.cells = e.cells := List.take_of_length_le (by simp);refine raA ?_;simp [s2, w1, tk4];refine oC' h ?_;simp;refine raA ?_;simp [s1, s2, w1, tk4];refine oC' hl ?_;simp [s1];by_cases hv : (lev e.kind : Int) < v
 ·(repeat refine qA ?_);refine AWp.condT (by simp [hv]) ?_;refine rA ?_;simp [a1, a2];exact AWp.ret (pR1 rfl (by simp [hv, yib]))
 (repeat refine qA ?_);refine AWp.condF (by simp [hv]) ?_;try refine kA ?_
 refine rA ?_;simp;exact AWp.ret (pR1 rfl (by simp [hv, yib]))
theorem xhd (k : Int) : 1 <= lev k := by unfold lev; split <;> (try omega); split <;> (try omega); split <;> omega
theorem w4a : ∀ (N : Nat) (e : Ex) (d : Nat), e.nodes <= N -> e.nodes <= 1000 -> e.good d = true -> zca Tryz.prog 37 [e.av] (.str (txt e.pr)) := by
 intro N
 induction N with
 | zero =>
  intro e d hN;obtain ⟨k, n, s, l⟩ := e;rw [Ex.nodes] at hN;omega
 | succ N ih =>
  intro e d hN hM hg;have hz := (ztb e.nodes e d (Nat.le_refl _) hg).1;obtain ⟨_, hs⟩ := shape hg;cases hs with
  | num n h0 h1 =>
   refine pO Tryz.func37 ?_;refine rA ?_;simp [Ex.av];intro g1;refine AWp.gen (fun st => st.sl 1 = .ptr g1 0 /\ st.mem g1 = some (.box (Ex.mk 1 n ⟨#[]⟩ []).cells)) ⟨by simp, by simp⟩ ?_;rintro st ⟨s1, w1⟩;rw [Ex.cells_mk] at w1;simp only [List.map_cons, List.map_nil] at w1;refine rA ?_;simp [s1, w1];(repeat refine qA ?_);refine bA ?_;refine rA ?_;simp;refine tA ?_;refine raA ?_;simp [s1, w1];refine oC' (wOa n (by omega) (by omega)) ?_;simp;exact AWp.ret (pR1 rfl (by simp [Ex.pr, Ex.prs, prK, xNc, txt]))
  | var s hn =>
   refine pO Tryz.func37 ?_;refine rA ?_;simp [Ex.av];intro g1;refine AWp.gen (fun st => st.sl 1 = .ptr g1 0 /\ st.mem g1 = some (.box (Ex.mk 2 0 s []).cells)) ⟨by simp, by simp⟩ ?_;rintro st ⟨s1, w1⟩;rw [Ex.cells_mk] at w1;simp only [List.map_cons, List.map_nil] at w1;refine rA ?_;simp [s1, w1];(repeat refine qA ?_);refine bA ?_;refine rA ?_;simp;refine fA ?_;refine rA ?_;simp;refine tA ?_;refine rA ?_;simp [s1, w1];exact AWp.ret (pR1 rfl (by simp [Ex.pr, Ex.prs, prK, txt]))
  | at_ s a hn ha =>
   have hnn : a.nodes <= N /\ a.nodes <= 1000 := by simp only [Ex.nodes, Ex.nodess] at hN hM; omega
   have hza := (ztb a.nodes a _ (Nat.le_refl _) ha).1;have ha := ih a _ hnn.1 hnn.2 ha;have hsl := z8a hn;obtain ⟨w, rfl⟩ : ∃ w, s = txt w := ⟨s.data.toList, (y9a s).symm⟩;have hw : (txt w).data.toList = w := yDa w;rw [hw] at hsl;have f1 : txt [91] = ⟨#[91]⟩ := rfl;have f2 : txt [93] = ⟨#[93]⟩ := rfl;have a1 := aT w [91] (by simp; omega);have a2 := aT (w ++ [91]) a.pr (by simp; omega);have a3 := aT (w ++ [91] ++ a.pr) [93] (by simp; omega);rw [f1] at a1;rw [f2] at a3;simp only [List.append_assoc, List.cons_append, List.nil_append] at a1 a2 a3;have ia : ∀ m, yga Tryz.prog m 24 (.lst false 4 [a.av]) (.int .i64 0) = some (.ref a.cells) := fun m => idx (y := a.av) es_24 (by simp);have ta : List.take 4 a.cells = a.cells := List.take_of_length_le (by simp);refine pO Tryz.func37 ?_;refine rA ?_;simp [Ex.av];intro g1;refine AWp.gen (fun st => st.sl 1 = .ptr g1 0 /\ st.mem g1 = some (.box (Ex.mk 3 0 (txt w) [a]).cells)) ⟨by simp, by simp⟩ ?_;rintro st ⟨s1, w1⟩;rw [Ex.cells_mk] at w1;simp only [List.map_cons, List.map_nil] at w1;refine rA ?_;simp [s1, w1];(repeat refine qA ?_);refine bA ?_;refine rA ?_;simp;refine fA ?_;refine rA ?_;simp;refine fA ?_;refine rA ?_;simp;refine tA ?_;(repeat refine qA ?_);refine AWp.rG (fun i => i == 7) (fun _ => false) [0, 1, 2, 3, 4, 5, 6, 7, 8, 9, 10] [0, 1, 2, 3, 4, 5, 6, 7, 8, 9, 10] (by kernel_rfl) ?_;simp [s1, w1, ia, ta, a1];refine oC' ha ?_;simp [a1, a2, a3];exact AWp.ret (pR1 rfl (by simp [Ex.pr, Ex.prs, prK, hw]))
  | two k a b k0 k1 ha hb =>
   have hnn : a.nodes <= N /\ a.nodes <= 1000 := by simp only [Ex.nodes, Ex.nodess] at hN hM; omega
   have hnm : b.nodes <= N /\ b.nodes <= 1000 := by simp only [Ex.nodes, Ex.nodess] at hN hM; omega
   have hza := (ztb a.nodes a _ (Nat.le_refl _) ha).1;have hzb := (ztb b.nodes b _ (Nat.le_refl _) hb).1;have ha := ih a _ hnn.1 hnn.2 ha;have hb := ih b _ hnm.1 hnm.2 hb;have ia : ∀ m, yga Tryz.prog m 24 (.lst false 4 [a.av, b.av]) (.int .i64 0) = some (.ref a.cells) := fun m => idx (y := a.av) es_24 (by simp);have ib : ∀ m, yga Tryz.prog m 24 (.lst false 4 [a.av, b.av]) (.int .i64 1) = some (.ref b.cells) := fun m => idx (y := b.av) es_24 (by simp);have ta : List.take 4 a.cells = a.cells := List.take_of_length_le (by simp);have tb : List.take 4 b.cells = b.cells := List.take_of_length_le (by simp);have hk : k = 4 ∨ k = 5 ∨ k = 6 ∨ k = 7 ∨ k = 8 := by omega
   clear hz hN hM hg k0 k1;rcases hk with rfl | rfl | rfl | rfl | rfl
   ·refine pO Tryz.func37 ?_;refine rA ?_;simp [Ex.av];intro g1;refine AWp.gen (fun st => st.sl 1 = .ptr g1 0 /\ st.mem g1 = some (.box (Ex.mk 4 0 ⟨#[]⟩ [a, b]).cells)) ⟨by simp, by simp⟩ ?_;rintro st ⟨s1, w1⟩;rw [Ex.cells_mk] at w1;simp only [List.map_cons, List.map_nil] at w1;refine rA ?_;simp [s1, w1];(repeat refine qA ?_);refine bA ?_;refine rA ?_;simp;refine fA ?_;refine rA ?_;simp;refine fA ?_;refine rA ?_;simp;refine fA ?_;refine rA ?_;simp;refine tA ?_;have c1 := wIb a 1 (by omega) ha;have c2 := wIb b 2 (by omega) hb;have b1 : yib (decide ((lev a.kind : Int) < 1)) a.pr = a.pr := by rw [show decide ((lev a.kind : Int) < 1) = false from decide_eq_false (by have := xhd a.kind; omega)]; rfl
    have b2 : decide ((lev b.kind : Int) < 2) = decide (lev b.kind < 2) := by simp only [decide_eq_decide]; omega
    rw [b1] at c1;rw [b2] at c2;have l1 := yma (decide (lev a.kind < 1)) a.pr;have l2 := yma (decide (lev b.kind < 2)) b.pr;have f1 : txt [32, 43, 32] = ⟨#[32, 43, 32]⟩ := rfl;have a1 := aT (a.pr) [32, 43, 32] (by simp; omega);have a2 := aT (a.pr ++ [32, 43, 32]) (yib (decide (lev b.kind < 2)) b.pr) (by simp; omega);rw [f1] at a1;(repeat refine qA ?_);refine AWp.rG (fun i => i == 4 || i == 10) (fun _ => false) [0, 1, 2, 3, 4, 5, 6, 7, 8, 9, 10, 11, 12] [0, 1, 2, 3, 4, 5, 6, 7, 8, 9, 10, 11, 12] (by kernel_rfl) ?_;simp [s1, w1, ia, ib, ta, tb];refine oC' c1 ?_;simp [s1, w1, ia, ib, ta, tb, a1];refine oC' c2 ?_;simp [a1, a2];exact AWp.ret (pR1 rfl (by simp [Ex.pr, Ex.prs, prK]))
   ·refine pO Tryz.func37 ?_;refine rA ?_;simp [Ex.av];intro g1;refine AWp.gen (fun st => st.sl 1 = .ptr g1 0 /\ st.mem g1 = some (.box (Ex.mk 5 0 ⟨#[]⟩ [a, b]).cells)) ⟨by simp, by simp⟩ ?_;rintro st ⟨s1, w1⟩;rw [Ex.cells_mk] at w1;simp only [List.map_cons, List.map_nil] at w1;refine rA ?_;simp [s1, w1];(repeat refine qA ?_);refine bA ?_;refine rA ?_;simp;refine fA ?_;refine rA ?_;simp;refine fA ?_;refine rA ?_;simp;refine fA ?_;refine rA ?_;simp;refine fA ?_;refine rA ?_;simp;refine tA ?_;have c1 := wIb a 1 (by omega) ha;have c2 := wIb b 2 (by omega) hb;have b1 : yib (decide ((lev a.kind : Int) < 1)) a.pr = a.pr := by rw [show decide ((lev a.kind : Int) < 1) = false from decide_eq_false (by have := xhd a.kind; omega)]; rfl
    have b2 : decide ((lev b.kind : Int) < 2) = decide (lev b.kind < 2) := by simp only [decide_eq_decide]; omega
    rw [b1] at c1;rw [b2] at c2;have l1 := yma (decide (lev a.kind < 1)) a.pr;have l2 := yma (decide (lev b.kind < 2)) b.pr;have f1 : txt [32, 45, 32] = ⟨#[32, 45, 32]⟩ := rfl;have a1 := aT (a.pr) [32, 45, 32] (by simp; omega);have a2 := aT (a.pr ++ [32, 45, 32]) (yib (decide (lev b.kind < 2)) b.pr) (by simp; omega);rw [f1] at a1;(repeat refine qA ?_);refine AWp.rG (fun i => i == 4 || i == 10) (fun _ => false) [0, 1, 2, 3, 4, 5, 6, 7, 8, 9, 10, 11, 12] [0, 1, 2, 3, 4, 5, 6, 7, 8, 9, 10, 11, 12] (by kernel_rfl) ?_;simp [s1, w1, ia, ib, ta, tb];refine oC' c1 ?_;simp [s1, w1, ia, ib, ta, tb, a1];refine oC' c2 ?_;simp [a1, a2];exact AWp.ret (pR1 rfl (by simp [Ex.pr, Ex.prs, prK]))
   ·refine pO Tryz.func37 ?_;refine rA ?_;simp [Ex.av];intro g1;refine AWp.gen (fun st => st.sl 1 = .ptr g1 0 /\ st.mem g1 = some (.box (Ex.mk 6 0 ⟨#[]⟩ [a, b]).cells)) ⟨by simp, by simp⟩ ?_;rintro st ⟨s1, w1⟩;rw [Ex.cells_mk] at w1;simp only [List.map_cons, List.map_nil] at w1;refine rA ?_;simp [s1, w1];(repeat refine qA ?_);refine bA ?_;refine rA ?_;simp;refine fA ?_;refine rA ?_;simp;refine fA ?_;refine rA ?_;simp;refine fA ?_;refine rA ?_;simp;refine fA ?_;refine rA ?_;simp;refine fA ?_;refine rA ?_;simp;refine tA ?_;have c1 := wIb a 2 (by omega) ha;have c2 := wIb b 3 (by omega) hb;have b1 : decide ((lev a.kind : Int) < 2) = decide (lev a.kind < 2) := by simp only [decide_eq_decide]; omega
    have b2 : decide ((lev b.kind : Int) < 3) = decide (lev b.kind < 3) := by simp only [decide_eq_decide]; omega
    rw [b1] at c1;rw [b2] at c2;have l1 := yma (decide (lev a.kind < 2)) a.pr;have l2 := yma (decide (lev b.kind < 3)) b.pr;have f1 : txt [32, 42, 32] = ⟨#[32, 42, 32]⟩ := rfl;have a1 := aT (yib (decide (lev a.kind < 2)) a.pr) [32, 42, 32] (by simp; omega);have a2 := aT (yib (decide (lev a.kind < 2)) a.pr ++ [32, 42, 32]) (yib (decide (lev b.kind < 3)) b.pr) (by simp; omega);rw [f1] at a1;(repeat refine qA ?_);refine AWp.rG (fun i => i == 4 || i == 10) (fun _ => false) [0, 1, 2, 3, 4, 5, 6, 7, 8, 9, 10, 11, 12] [0, 1, 2, 3, 4, 5, 6, 7, 8, 9, 10, 11, 12] (by kernel_rfl) ?_;simp [s1, w1, ia, ib, ta, tb];refine oC' c1 ?_;simp [s1, w1, ia, ib, ta, tb, a1];refine oC' c2 ?_;simp [a1, a2];exact AWp.ret (pR1 rfl (by simp [Ex.pr, Ex.prs, prK]))
   ·refine pO Tryz.func37 ?_;refine rA ?_;simp [Ex.av];intro g1;refine AWp.gen (fun st => st.sl 1 = .ptr g1 0 /\ st.mem g1 = some (.box (Ex.mk 7 0 ⟨#[]⟩ [a, b]).cells)) ⟨by simp, by simp⟩ ?_;rintro st ⟨s1, w1⟩;rw [Ex.cells_mk] at w1;simp only [List.map_cons, List.map_nil] at w1;refine rA ?_;simp [s1, w1];(repeat refine qA ?_);refine bA ?_;refine rA ?_;simp;refine fA ?_;refine rA ?_;simp;refine fA ?_;refine rA ?_;simp;refine fA ?_;refine rA ?_;simp;refine fA ?_;refine rA ?_;simp;refine fA ?_;refine rA ?_;simp;refine fA ?_;refine rA ?_;simp;refine tA ?_;have f1 : txt [109, 105, 110, 40] = ⟨#[109, 105, 110, 40]⟩ := rfl;have f2 : txt [44, 32] = ⟨#[44, 32]⟩ := rfl;have f3 : txt [41] = ⟨#[41]⟩ := rfl;have a1 := aT [109, 105, 110, 40] a.pr (by simp; omega);have a2 := aT ([109, 105, 110, 40] ++ a.pr) [44, 32] (by simp; omega);have a3 := aT ([109, 105, 110, 40] ++ a.pr ++ [44, 32]) b.pr (by simp; omega);have a4 := aT ([109, 105, 110, 40] ++ a.pr ++ [44, 32] ++ b.pr) [41] (by simp; omega);rw [f1] at a1;rw [f2] at a2;rw [f3] at a4;simp only [List.cons_append, List.nil_append, List.append_assoc] at a1 a2 a3 a4;(repeat refine qA ?_);refine AWp.rG (fun i => i == 4 || i == 11) (fun _ => false) [0, 1, 2, 3, 4, 5, 6, 7, 8, 9, 10, 11, 12, 13, 14] [0, 1, 2, 3, 4, 5, 6, 7, 8, 9, 10, 11, 12, 13, 14] (by kernel_rfl) ?_;simp [s1, w1, ia, ib, ta, tb];refine oC' ha ?_;simp [s1, w1, ia, ib, ta, tb, a1, a2];refine oC' hb ?_;simp [a1, a2, a3, a4];exact AWp.ret (pR1 rfl (by simp [Ex.pr, Ex.prs, prK]))
   refine pO Tryz.func37 ?_;refine rA ?_;simp [Ex.av];intro g1;refine AWp.gen (fun st => st.sl 1 = .ptr g1 0 /\ st.mem g1 = some (.box (Ex.mk 8 0 ⟨#[]⟩ [a, b]).cells)) ⟨by simp, by simp⟩ ?_;rintro st ⟨s1, w1⟩;rw [Ex.cells_mk] at w1;simp only [List.map_cons, List.map_nil] at w1;refine rA ?_;simp [s1, w1];(repeat refine qA ?_);refine bA ?_;refine rA ?_;simp;refine fA ?_;refine rA ?_;simp;refine fA ?_;refine rA ?_;simp;refine fA ?_;refine rA ?_;simp;refine fA ?_;refine rA ?_;simp;refine fA ?_;refine rA ?_;simp;refine fA ?_;refine rA ?_;simp;refine fA ?_;refine kA ?_;try simp
   have f1 : txt [109, 97, 120, 40] = ⟨#[109, 97, 120, 40]⟩ := rfl;have f2 : txt [44, 32] = ⟨#[44, 32]⟩ := rfl;have f3 : txt [41] = ⟨#[41]⟩ := rfl;have a1 := aT [109, 97, 120, 40] a.pr (by simp; omega);have a2 := aT ([109, 97, 120, 40] ++ a.pr) [44, 32] (by simp; omega);have a3 := aT ([109, 97, 120, 40] ++ a.pr ++ [44, 32]) b.pr (by simp; omega);have a4 := aT ([109, 97, 120, 40] ++ a.pr ++ [44, 32] ++ b.pr) [41] (by simp; omega);rw [f1] at a1;rw [f2] at a2;rw [f3] at a4;simp only [List.cons_append, List.nil_append, List.append_assoc] at a1 a2 a3 a4;(repeat refine qA ?_);refine AWp.rG (fun i => i == 4 || i == 11) (fun _ => false) [0, 1, 2, 3, 4, 5, 6, 7, 8, 9, 10, 11, 12, 13, 14] [0, 1, 2, 3, 4, 5, 6, 7, 8, 9, 10, 11, 12, 13, 14] (by kernel_rfl) ?_;simp [s1, w1, ia, ib, ta, tb];refine oC' ha ?_;simp [s1, w1, ia, ib, ta, tb, a1, a2];refine oC' hb ?_;simp [a1, a2, a3, a4];exact AWp.ret (pR1 rfl (by simp [Ex.pr, Ex.prs, prK]))
theorem xYb (e : Ex) (ht : e.tot <= 1048576) : zca Tryz.prog 11 [e.av] (.str e.txt) := by
 have ho := xEO e ht;refine pO Tryz.func11 ?_;refine rA ?_;simp [Ex.av];intro g1;refine AWp.gen (fun st => st.sl 1 = .ptr g1 0 /\ st.mem g1 = some (.box e.cells)) ⟨by simp, by simp⟩ ?_;rintro st ⟨s1, w1⟩;have tk4 : List.take 4 e.cells = e.cells := List.take_of_length_le (by simp);refine raA ?_;simp [s1, w1, tk4];refine oC' ho ?_;simp;cases h : e.ok with
 | false =>
  refine tA ?_;refine rA ?_;simp;exact AWp.ret (pR1 rfl (by simp [Ex.txt, h] <;> rfl))
 | true =>
  refine fA ?_;refine kA ?_;try simp
  obtain ⟨hg, hn, _⟩ := wra h;refine raA ?_;simp [s1, w1, tk4];refine oC' (w4a e.nodes e 1 (Nat.le_refl _) (by omega) hg) ?_;simp;exact AWp.ret (pR1 rfl (by simp [Ex.txt, h]))
theorem wtc {l : List Sm} {i : Nat} (h : i < l.length) (pad : List UInt8) : Sm.prs (l.take (i + 1)) pad = Sm.prs (l.take i) pad ++ l[i].pr pad := by
 rw [<- List.take_append_getElem h, y9c];simp [Sm.prs]
theorem xCb (l : List Sm) (i : Nat) (pad : List UInt8) : (Sm.prs (l.take i) pad).length <= (Sm.prs l pad).length := by
 have := congrArg List.length (y9c pad (l.take i) (l.drop i));rw [List.take_append_drop, List.length_append] at this;omega
theorem wld : ∀ (N : Nat) (l : List Sm) (d : Nat) (pad : List UInt8), Sm.sizes l <= N -> N <= 1000 -> Sm.rights l d = true -> pad.length <= 2 * d -> d <= 3 -> zca Tryz.prog 39 [.lst false 19 (l.map Sm.av), .str (txt pad)] (.str (txt (Sm.prs l pad))) := by
 intro N
 induction N with
 | zero =>
  intro l d pad hN _ hR hp hd;have hl : l = [] := by
   cases l with
   | nil => rfl
   | cons x l =>
    obtain ⟨k, s, a, e, lo, hi, b⟩ := x;rw [Sm.sizes, Sm.size] at hN;omega
  subst hl;refine pO Tryz.func39 ?_;refine rA ?_;simp;refine rA ?_;simp;refine rA ?_;simp;(repeat refine qA ?_);refine AWp.block (AWp.ro (fun q st => st.sl 0 = .lst false 19 [] /\ st.sl 5 = .str ⟨#[]⟩ /\ st.sl 6 = .int .i64 0) 0 ⟨by simp, by first | (simp; done) | rfl, by simp⟩ ?_)
  rintro RR q st hRR ⟨s0, s5, s6⟩;refine rA ?_;simp [s0, s6];refine fA ?_;refine eA ?_;try simp
  refine rA ?_;simp [s5];exact AWp.ret (pR1 rfl (by simp [Sm.prs, txt]))
 | succ N ih =>
  intro l d pad hN hM hR hp hd;have hz := (xeb (N + 1)).2 l d pad hN hR hp hd;have hln : l.length <= Sm.sizes l := by
   clear hN hR hz
   induction l with
   | nil => simp
   | cons x l ih2 =>
    have : 1 <= x.size := by obtain ⟨k, s, a, e, lo, hi, b⟩ := x; rw [Sm.size]; omega
    rw [Sm.sizes, List.length_cons];omega
  refine pO Tryz.func39 ?_;refine rA ?_;simp;refine rA ?_;simp;refine rA ?_;simp;(repeat refine qA ?_);refine AWp.block (AWp.ro (fun q st => ∃ i : Nat, q = l.length - i /\ i <= l.length /\ st.sl 0 = .lst false 19 (l.map Sm.av) /\ st.sl 1 = .str (txt pad) /\ st.sl 5 = .str (txt (Sm.prs (l.take i) pad)) /\ st.sl 6 = .int .i64 i) l.length ⟨0, by simp, by simp, by simp, by simp, by first | (simp [Sm.prs, txt]; done) | (simp [Sm.prs, txt]; rfl), by simp⟩ ?_)
  rintro RR q st hRR ⟨i, rfl, hi, s0, s1, s5, s6⟩;by_cases hbl : i < l.length
  ·have hx : ∀ m, yga Tryz.prog m 30 (.lst false 19 (l.map Sm.av)) (.int .i64 i) = some (.ref l[i].cells) := fun m => idx (y := l[i].av) es_30 (by simp [gE hbl]);have hw := iA i (by omega);have hnx := wtc hbl pad;have hA := xCb l i pad;have hrx := wza hR _ (List.getElem_mem hbl);have hmem := List.getElem_mem hbl;generalize Sm.prs (l.take i) pad = A at *;have hz2 : A.length <= 1100000 := by
    have := Nat.mul_le_mul_left 1100 (show Sm.sizes l <= 1000 by omega);omega
   refine rA ?_;simp [s0, s6, hbl];refine tA ?_;refine kA ?_;try simp
   obtain ⟨M, hM2⟩ : ∃ M : St -> Prop, M = (fun st => st.sl 0 = .lst false 19 (l.map Sm.av) /\ st.sl 1 = .str (txt pad) /\ st.sl 5 = .str (txt (A ++ l[i].pr pad)) /\ st.sl 6 = .int .i64 i) := ⟨_, rfl⟩;(repeat refine qA ?_);refine AWp.cA M ?_ ?_
   ·(repeat refine qA ?_);refine bA ?_;refine rA ?_;simp [s0, s6, hx];intro g hgn;have hcl : l[i].cells.length = 19 := by simp
    have hcd : List.drop 19 l[i].cells = [] := List.drop_eq_nil_of_le (by omega);have hct : List.take 19 l[i].cells = l[i].cells := List.take_of_length_le (by omega);refine AWp.gen (fun st => st.sl 0 = .lst false 19 (l.map Sm.av) /\ st.sl 1 = .str (txt pad) /\ st.sl 5 = .str (txt A) /\ st.sl 6 = .int .i64 i /\ st.sl 7 = .ptr g 0 /\ st.mem g = some (.box l[i].cells)) ⟨by simp [s0], by simp [s1], by simp [s5], by simp [s6], by simp, by simp [hcd, hct]⟩ ?_;clear s0 s1 s5 s6 hcl hcd hct hx;generalize l[i] = z at *;rintro st ⟨s0, s1, s5, s6, s7, w7⟩;have hM := hM2;cases wqb hrx with
    | set s e hs he =>
     obtain ⟨w, rfl⟩ : ∃ w, s = txt w := ⟨s.data.toList, (y9a s).symm⟩;have hwl : (txt w).data.toList = w := yDa w;have hsl := z8a hs;rw [hwl] at hsl;have ze := yMa he;obtain ⟨ge, ne, _⟩ := wra he;have ce := w4a e.nodes e 1 (Nat.le_refl _) (by omega) ge;simp only [xda, xea, yea, zOa, Sm.cells_mk, zE, Ex.cells_mk, List.map_nil, List.cons_append, List.nil_append] at w7;obtain ⟨x1, dx1⟩ : ∃ x, x = A ++ pad := ⟨_, rfl⟩;have lx1 : x1.length = A.length + pad.length := by rw [dx1]; first | (simp; done) | (simp; omega)
     have ax1 : yia .add (.str (txt A)) (.str (txt pad)) = some (.str (txt x1)) := by rw [dx1]; exact aT A pad (by omega)
     obtain ⟨x2, dx2⟩ : ∃ x, x = x1 ++ w := ⟨_, rfl⟩;have lx2 : x2.length = x1.length + w.length := by rw [dx2]; first | (simp; done) | (simp; omega)
     have ax2 : yia .add (.str (txt x1)) (.str (txt w)) = some (.str (txt x2)) := by rw [dx2]; exact aT x1 w (by omega)
     obtain ⟨x3, dx3⟩ : ∃ x, x = x2 ++ [32, 61, 32] := ⟨_, rfl⟩;have lx3 : x3.length = x2.length + [32, 61, 32].length := by rw [dx3]; first | (simp; done) | (simp; omega)
     have kx3 : List.length ([32, 61, 32] : List UInt8) = 3 := rfl;have ax3 : yia .add (.str (txt x2)) (.str (⟨#[32, 61, 32]⟩)) = some (.str (txt x3)) := by rw [dx3]; exact aT x2 [32, 61, 32] (by omega)
     obtain ⟨x4, dx4⟩ : ∃ x, x = x3 ++ e.pr := ⟨_, rfl⟩;have lx4 : x4.length = x3.length + e.pr.length := by rw [dx4]; first | (simp; done) | (simp; omega)
     have ax4 : yia .add (.str (txt x3)) (.str (txt e.pr)) = some (.str (txt x4)) := by rw [dx4]; exact aT x3 e.pr (by omega)
     obtain ⟨x5, dx5⟩ : ∃ x, x = x4 ++ [59, 10] := ⟨_, rfl⟩;have lx5 : x5.length = x4.length + [59, 10].length := by rw [dx5]; first | (simp; done) | (simp; omega)
     have kx5 : List.length ([59, 10] : List UInt8) = 2 := rfl;have ax5 : yia .add (.str (txt x4)) (.str (⟨#[59, 10]⟩)) = some (.str (txt x5)) := by rw [dx5]; exact aT x4 [59, 10] (by omega)
     refine rA ?_;simp [s7, w7];(repeat refine qA ?_);refine bA ?_;refine rA ?_;simp;refine tA ?_;(repeat refine qA ?_);refine AWp.rG (fun i => i == 9) (fun _ => false) [0, 1, 2, 3, 4, 5, 6, 7, 8, 9, 10, 11, 12] [0, 1, 2, 3, 4, 5, 6, 7, 8, 9, 10, 11, 12] (by kernel_rfl) ?_;simp [s0, s1, s5, s6, s7, w7, ax1, ax2, ax3, ax4, ax5];refine oC' (ce) ?_;simp [s0, s1, s5, s6, s7, w7, ax1, ax2, ax3, ax4, ax5];subst hM;refine ⟨by simp [s0], by simp [s1], ?_, by simp [s6]⟩;simp;rw [dx5, dx4, dx3, dx2, dx1];simp [xda, hwl, Sm.pr, zxd, toT, prT]
    | put s a e hs ha he =>
     obtain ⟨w, rfl⟩ : ∃ w, s = txt w := ⟨s.data.toList, (y9a s).symm⟩;have hwl : (txt w).data.toList = w := yDa w;have hsl := z8a hs;rw [hwl] at hsl;have za := yMa ha;obtain ⟨ga, na, _⟩ := wra ha;have ca := w4a a.nodes a 1 (Nat.le_refl _) (by omega) ga;have ze := yMa he;obtain ⟨ge, ne, _⟩ := wra he;have ce := w4a e.nodes e 1 (Nat.le_refl _) (by omega) ge;simp only [xda, xea, yea, zOa, Sm.cells_mk, zE, Ex.cells_mk, List.map_nil, List.cons_append, List.nil_append] at w7;obtain ⟨x1, dx1⟩ : ∃ x, x = A ++ pad := ⟨_, rfl⟩;have lx1 : x1.length = A.length + pad.length := by rw [dx1]; first | (simp; done) | (simp; omega)
     have ax1 : yia .add (.str (txt A)) (.str (txt pad)) = some (.str (txt x1)) := by rw [dx1]; exact aT A pad (by omega)
     obtain ⟨x2, dx2⟩ : ∃ x, x = x1 ++ w := ⟨_, rfl⟩;have lx2 : x2.length = x1.length + w.length := by rw [dx2]; first | (simp; done) | (simp; omega)
     have ax2 : yia .add (.str (txt x1)) (.str (txt w)) = some (.str (txt x2)) := by rw [dx2]; exact aT x1 w (by omega)
     obtain ⟨x3, dx3⟩ : ∃ x, x = x2 ++ [91] := ⟨_, rfl⟩;have lx3 : x3.length = x2.length + [91].length := by rw [dx3]; first | (simp; done) | (simp; omega)
     have kx3 : List.length ([91] : List UInt8) = 1 := rfl;have ax3 : yia .add (.str (txt x2)) (.str (⟨#[91]⟩)) = some (.str (txt x3)) := by rw [dx3]; exact aT x2 [91] (by omega)
     obtain ⟨x4, dx4⟩ : ∃ x, x = x3 ++ a.pr := ⟨_, rfl⟩;have lx4 : x4.length = x3.length + a.pr.length := by rw [dx4]; first | (simp; done) | (simp; omega)
     have ax4 : yia .add (.str (txt x3)) (.str (txt a.pr)) = some (.str (txt x4)) := by rw [dx4]; exact aT x3 a.pr (by omega)
     obtain ⟨x5, dx5⟩ : ∃ x, x = x4 ++ [93, 32, 61, 32] := ⟨_, rfl⟩;have lx5 : x5.length = x4.length + [93, 32, 61, 32].length := by rw [dx5]; first | (simp; done) | (simp; omega)
     have kx5 : List.length ([93, 32, 61, 32] : List UInt8) = 4 := rfl;have ax5 : yia .add (.str (txt x4)) (.str (⟨#[93, 32, 61, 32]⟩)) = some (.str (txt x5)) := by rw [dx5]; exact aT x4 [93, 32, 61, 32] (by omega)
     obtain ⟨x6, dx6⟩ : ∃ x, x = x5 ++ e.pr := ⟨_, rfl⟩;have lx6 : x6.length = x5.length + e.pr.length := by rw [dx6]; first | (simp; done) | (simp; omega)
     have ax6 : yia .add (.str (txt x5)) (.str (txt e.pr)) = some (.str (txt x6)) := by rw [dx6]; exact aT x5 e.pr (by omega)
     obtain ⟨x7, dx7⟩ : ∃ x, x = x6 ++ [59, 10] := ⟨_, rfl⟩;have lx7 : x7.length = x6.length + [59, 10].length := by rw [dx7]; first | (simp; done) | (simp; omega)
     have kx7 : List.length ([59, 10] : List UInt8) = 2 := rfl;have ax7 : yia .add (.str (txt x6)) (.str (⟨#[59, 10]⟩)) = some (.str (txt x7)) := by rw [dx7]; exact aT x6 [59, 10] (by omega)
     refine rA ?_;simp [s7, w7];(repeat refine qA ?_);refine bA ?_;refine rA ?_;simp;refine fA ?_;refine rA ?_;simp;refine tA ?_;(repeat refine qA ?_);refine AWp.rG (fun i => i == 9 || i == 14) (fun _ => false) [0, 1, 2, 3, 4, 5, 6, 7, 8, 9, 10, 11, 12, 13, 14, 15, 16, 17] [0, 1, 2, 3, 4, 5, 6, 7, 8, 9, 10, 11, 12, 13, 14, 15, 16, 17] (by kernel_rfl) ?_;simp [s0, s1, s5, s6, s7, w7, ax1, ax2, ax3, ax4, ax5, ax6, ax7];refine oC' (ca) ?_;simp [s0, s1, s5, s6, s7, w7, ax1, ax2, ax3, ax4, ax5, ax6, ax7];refine oC' (ce) ?_;simp [s0, s1, s5, s6, s7, w7, ax1, ax2, ax3, ax4, ax5, ax6, ax7];subst hM;refine ⟨by simp [s0], by simp [s1], ?_, by simp [s6]⟩;simp;rw [dx7, dx6, dx5, dx4, dx3, dx2, dx1];simp [xea, hwl, Sm.pr, zxd, toT, prT]
    | for_ s lo hi b hs hlo hhi hd3 hb3 =>
     obtain ⟨w, rfl⟩ : ∃ w, s = txt w := ⟨s.data.toList, (y9a s).symm⟩;have hwl : (txt w).data.toList = w := yDa w;have hsl := z8a hs;rw [hwl] at hsl;have zlo := yMa hlo;obtain ⟨glo, nlo, _⟩ := wra hlo;have clo := w4a lo.nodes lo 1 (Nat.le_refl _) (by omega) glo;have zhi := yMa hhi;obtain ⟨ghi, nhi, _⟩ := wra hhi;have chi := w4a hi.nodes hi 1 (Nat.le_refl _) (by omega) ghi;simp only [xda, xea, yea, zOa, Sm.cells_mk, zE, Ex.cells_mk, List.map_nil, List.cons_append, List.nil_append] at w7;have hbz : Sm.sizes b <= N := by
      have := ywb l _ hmem;simp only [yea, Sm.size] at this;omega
     have hpl : (pad ++ [32, 32]).length <= 2 * (d + 1) := by simp; omega
     have zb := (xeb N).2 b (d + 1) (pad ++ [32, 32]) hbz hb3 hpl (by omega);have cb := ih b (d + 1) (pad ++ [32, 32]) hbz (by omega) hb3 hpl (by omega);obtain ⟨B, hB⟩ : ∃ B, B = Sm.prs b (pad ++ [32, 32]) := ⟨_, rfl⟩;rw [<- hB] at zb cb;obtain ⟨pd, hpd⟩ : ∃ x, x = pad ++ [32, 32] := ⟨_, rfl⟩;have apd : yia .add (.str (txt pad)) (.str ⟨#[32, 32]⟩) = some (.str (txt pd)) := by rw [hpd]; exact aT pad [32, 32] (by simp; omega)
     rw [<- hpd] at cb;obtain ⟨x1, dx1⟩ : ∃ x, x = A ++ pad := ⟨_, rfl⟩;have lx1 : x1.length = A.length + pad.length := by rw [dx1]; first | (simp; done) | (simp; omega)
     have ax1 : yia .add (.str (txt A)) (.str (txt pad)) = some (.str (txt x1)) := by rw [dx1]; exact aT A pad (by omega)
     obtain ⟨x2, dx2⟩ : ∃ x, x = x1 ++ [102, 111, 114, 32] := ⟨_, rfl⟩;have lx2 : x2.length = x1.length + [102, 111, 114, 32].length := by rw [dx2]; first | (simp; done) | (simp; omega)
     have kx2 : List.length ([102, 111, 114, 32] : List UInt8) = 4 := rfl;have ax2 : yia .add (.str (txt x1)) (.str (⟨#[102, 111, 114, 32]⟩)) = some (.str (txt x2)) := by rw [dx2]; exact aT x1 [102, 111, 114, 32] (by omega)
     obtain ⟨x3, dx3⟩ : ∃ x, x = x2 ++ w := ⟨_, rfl⟩;have lx3 : x3.length = x2.length + w.length := by rw [dx3]; first | (simp; done) | (simp; omega)
     have ax3 : yia .add (.str (txt x2)) (.str (txt w)) = some (.str (txt x3)) := by rw [dx3]; exact aT x2 w (by omega)
     obtain ⟨x4, dx4⟩ : ∃ x, x = x3 ++ [32, 61, 32] := ⟨_, rfl⟩;have lx4 : x4.length = x3.length + [32, 61, 32].length := by rw [dx4]; first | (simp; done) | (simp; omega)
     have kx4 : List.length ([32, 61, 32] : List UInt8) = 3 := rfl;have ax4 : yia .add (.str (txt x3)) (.str (⟨#[32, 61, 32]⟩)) = some (.str (txt x4)) := by rw [dx4]; exact aT x3 [32, 61, 32] (by omega)
     obtain ⟨x5, dx5⟩ : ∃ x, x = x4 ++ lo.pr := ⟨_, rfl⟩;have lx5 : x5.length = x4.length + lo.pr.length := by rw [dx5]; first | (simp; done) | (simp; omega)
     have ax5 : yia .add (.str (txt x4)) (.str (txt lo.pr)) = some (.str (txt x5)) := by rw [dx5]; exact aT x4 lo.pr (by omega)
     obtain ⟨x6, dx6⟩ : ∃ x, x = x5 ++ [32, 116, 111, 32] := ⟨_, rfl⟩;have lx6 : x6.length = x5.length + [32, 116, 111, 32].length := by rw [dx6]; first | (simp; done) | (simp; omega)
     have kx6 : List.length ([32, 116, 111, 32] : List UInt8) = 4 := rfl;have ax6 : yia .add (.str (txt x5)) (.str (⟨#[32, 116, 111, 32]⟩)) = some (.str (txt x6)) := by rw [dx6]; exact aT x5 [32, 116, 111, 32] (by omega)
     obtain ⟨x7, dx7⟩ : ∃ x, x = x6 ++ hi.pr := ⟨_, rfl⟩;have lx7 : x7.length = x6.length + hi.pr.length := by rw [dx7]; first | (simp; done) | (simp; omega)
     have ax7 : yia .add (.str (txt x6)) (.str (txt hi.pr)) = some (.str (txt x7)) := by rw [dx7]; exact aT x6 hi.pr (by omega)
     obtain ⟨x8, dx8⟩ : ∃ x, x = x7 ++ [32, 123, 10] := ⟨_, rfl⟩;have lx8 : x8.length = x7.length + [32, 123, 10].length := by rw [dx8]; first | (simp; done) | (simp; omega)
     have kx8 : List.length ([32, 123, 10] : List UInt8) = 3 := rfl;have ax8 : yia .add (.str (txt x7)) (.str (⟨#[32, 123, 10]⟩)) = some (.str (txt x8)) := by rw [dx8]; exact aT x7 [32, 123, 10] (by omega)
     obtain ⟨x9, dx9⟩ : ∃ x, x = x8 ++ B := ⟨_, rfl⟩;have lx9 : x9.length = x8.length + B.length := by rw [dx9]; first | (simp; done) | (simp; omega)
     have ax9 : yia .add (.str (txt x8)) (.str (txt B)) = some (.str (txt x9)) := by rw [dx9]; exact aT x8 B (by omega)
     obtain ⟨x10, dx10⟩ : ∃ x, x = x9 ++ pad := ⟨_, rfl⟩;have lx10 : x10.length = x9.length + pad.length := by rw [dx10]; first | (simp; done) | (simp; omega)
     have ax10 : yia .add (.str (txt x9)) (.str (txt pad)) = some (.str (txt x10)) := by rw [dx10]; exact aT x9 pad (by omega)
     obtain ⟨x11, dx11⟩ : ∃ x, x = x10 ++ [125, 10] := ⟨_, rfl⟩;have lx11 : x11.length = x10.length + [125, 10].length := by rw [dx11]; first | (simp; done) | (simp; omega)
     have kx11 : List.length ([125, 10] : List UInt8) = 2 := rfl;have ax11 : yia .add (.str (txt x10)) (.str (⟨#[125, 10]⟩)) = some (.str (txt x11)) := by rw [dx11]; exact aT x10 [125, 10] (by omega)
     refine rA ?_;simp [s7, w7];(repeat refine qA ?_);refine bA ?_;refine rA ?_;simp;refine fA ?_;refine rA ?_;simp;refine fA ?_;refine rA ?_;simp;refine tA ?_;(repeat refine qA ?_);refine AWp.rG (fun i => i == 10 || i == 15 || i == 22) (fun _ => false) [0, 1, 2, 3, 4, 5, 6, 7, 8, 9, 10, 11, 12, 13, 14, 15, 16, 17, 18, 19, 20, 21, 22, 23, 24, 25, 26, 27] [0, 1, 2, 3, 4, 5, 6, 7, 8, 9, 10, 11, 12, 13, 14, 15, 16, 17, 18, 19, 20, 21, 22, 23, 24, 25, 26, 27] (by kernel_rfl) ?_;simp [s0, s1, s5, s6, s7, w7, apd, ax1, ax2, ax3, ax4, ax5, ax6, ax7, ax8, ax9, ax10, ax11];refine oC' (clo) ?_;simp [s0, s1, s5, s6, s7, w7, apd, ax1, ax2, ax3, ax4, ax5, ax6, ax7, ax8, ax9, ax10, ax11];refine oC' (chi) ?_;simp [s0, s1, s5, s6, s7, w7, apd, ax1, ax2, ax3, ax4, ax5, ax6, ax7, ax8, ax9, ax10, ax11];refine oC' (cb) ?_;simp [s0, s1, s5, s6, s7, w7, apd, ax1, ax2, ax3, ax4, ax5, ax6, ax7, ax8, ax9, ax10, ax11];subst hM;refine ⟨by simp [s0], by simp [s1], ?_, by simp [s6]⟩;simp;rw [dx11, dx10, dx9, dx8, dx7, dx6, dx5, dx4, dx3, dx2, dx1];simp [yea, hwl, hB, Sm.pr, zxd, toT, prT]
    | print e he =>
     have ze := yMa he;obtain ⟨ge, ne, _⟩ := wra he;have ce := w4a e.nodes e 1 (Nat.le_refl _) (by omega) ge;simp only [xda, xea, yea, zOa, Sm.cells_mk, zE, Ex.cells_mk, List.map_nil, List.cons_append, List.nil_append] at w7;obtain ⟨x1, dx1⟩ : ∃ x, x = A ++ pad := ⟨_, rfl⟩;have lx1 : x1.length = A.length + pad.length := by rw [dx1]; first | (simp; done) | (simp; omega)
     have ax1 : yia .add (.str (txt A)) (.str (txt pad)) = some (.str (txt x1)) := by rw [dx1]; exact aT A pad (by omega)
     obtain ⟨x2, dx2⟩ : ∃ x, x = x1 ++ [112, 114, 105, 110, 116, 32] := ⟨_, rfl⟩;have lx2 : x2.length = x1.length + [112, 114, 105, 110, 116, 32].length := by rw [dx2]; first | (simp; done) | (simp; omega)
     have kx2 : List.length ([112, 114, 105, 110, 116, 32] : List UInt8) = 6 := rfl;have ax2 : yia .add (.str (txt x1)) (.str (⟨#[112, 114, 105, 110, 116, 32]⟩)) = some (.str (txt x2)) := by rw [dx2]; exact aT x1 [112, 114, 105, 110, 116, 32] (by omega)
     obtain ⟨x3, dx3⟩ : ∃ x, x = x2 ++ e.pr := ⟨_, rfl⟩;have lx3 : x3.length = x2.length + e.pr.length := by rw [dx3]; first | (simp; done) | (simp; omega)
     have ax3 : yia .add (.str (txt x2)) (.str (txt e.pr)) = some (.str (txt x3)) := by rw [dx3]; exact aT x2 e.pr (by omega)
     obtain ⟨x4, dx4⟩ : ∃ x, x = x3 ++ [59, 10] := ⟨_, rfl⟩;have lx4 : x4.length = x3.length + [59, 10].length := by rw [dx4]; first | (simp; done) | (simp; omega)
     have kx4 : List.length ([59, 10] : List UInt8) = 2 := rfl;have ax4 : yia .add (.str (txt x3)) (.str (⟨#[59, 10]⟩)) = some (.str (txt x4)) := by rw [dx4]; exact aT x3 [59, 10] (by omega)
     refine rA ?_;simp [s7, w7];(repeat refine qA ?_);refine bA ?_;refine rA ?_;simp;refine fA ?_;refine rA ?_;simp;refine fA ?_;refine rA ?_;simp;refine fA ?_;refine raA ?_;simp [s0, s1, s5, s6, s7, w7, ax1, ax2, ax3, ax4];refine oC' (ce) ?_;simp [s0, s1, s5, s6, s7, w7, ax1, ax2, ax3, ax4];subst hM;refine ⟨by simp [s0], by simp [s1], ?_, by simp [s6]⟩;simp;rw [dx4, dx3, dx2, dx1];simp [zOa, Sm.pr, zxd, toT, prT]
   clear s0 s1 s5 s6 hx;intro st hst;subst hM2;obtain ⟨s0, s1, s5, s6⟩ := hst;refine rA ?_;simp [s6, hw];exact hRR _ (l.length - (i + 1)) (by omega) ⟨i + 1, rfl, by omega, by simp [s0], by simp [s1], by rw [hnx]; simpa using s5, by simp⟩
  have : i = l.length := by omega
  subst this;refine rA ?_;simp [s0, s6];refine fA ?_;refine eA ?_;try simp
  refine rA ?_;simp [s5];exact AWp.ret (pR1 rfl (by simp))
theorem wuc : ∀ {l : List Ar} {q : Option ByteArray}, zqa q l = true -> ∀ x ∈ l, zxa x.s = true /\ 1 <= x.n /\ x.n <= 16
 | [], _, _, x, hx => by cases hx
 | a :: l, q, h, x, hx => by
  unfold zqa inR at h;simp only [Bool.and_eq_true, decide_eq_true_eq] at h;rcases List.mem_cons.1 hx with rfl | hx
  ·exact ⟨h.1, h.2.1⟩
  exact wuc h.2.2.2 x hx
theorem yIc (l l' : List Ar) : yLa (l ++ l') = yLa l ++ yLa l' := by simp [yLa]
theorem wJb {l : List Ar} {i : Nat} (h : i < l.length) : yLa (l.take (i + 1)) = yLa (l.take i) ++ l[i].pr := by
 rw [<- List.take_append_getElem h, yIc];simp [yLa]
theorem xDb (l : List Ar) (i : Nat) : (yLa (l.take i)).length <= (yLa l).length := by
 have := congrArg List.length (yIc (l.take i) (l.drop i));rw [List.take_append_drop, List.length_append] at this;omega
theorem wmd {a : Ar} (h : zxa a.s = true /\ 1 <= a.n /\ a.n <= 16) : a.pr.length <= 30 := by
 have h1 := z8a h.1;have h2 := w5b (n := a.n) (by omega) (by omega);unfold Ar.pr arT;simp only [List.length_append, List.length_cons, List.length_nil];omega
theorem zCb : ∀ (l : List Ar) (q : Option ByteArray), zqa q l = true -> (yLa l).length <= 30 * l.length
 | [], _, _ => by simp [yLa]
 | a :: l, q, h => by
  have h1 := wmd (wuc h a (by simp));unfold zqa at h;simp only [Bool.and_eq_true] at h;have h2 := zCb l _ h.2.2.2;have e : yLa (a :: l) = a.pr ++ yLa l := rfl;rw [e, List.length_append, List.length_cons];omega
theorem wKb : ∀ l : List Sm, zYa Sm.size l = Sm.sizes l
 | [] => by rw [Sm.sizes]; rfl
 | x :: l => by rw [Sm.sizes, <- wKb l]; rfl
theorem zlc {p : Pg} (h : p.ok = true) : zqa none p.arrs = true /\ p.arrs.length <= 4 /\ Sm.sizes p.body <= 40 /\ Sm.rights p.body 0 = true := by
 unfold Pg.ok Pg.head at h;simp only [Bool.and_eq_true, decide_eq_true_eq] at h;obtain ⟨⟨hA, h4, _, hs, hB⟩, _⟩ := h;rw [wKb] at hs;exact ⟨hA, h4, hs, wZa p.body hB⟩
theorem xEb (p : Pg) (ht : p.tot <= 1048576) : zca Tryz.prog 12 [p.av] (.str p.txt) := by
 have ho := x6a p ht;refine pO Tryz.func12 ?_;have hc : p.cells = [.lst false 2 (p.arrs.map Ar.av), .lst false 19 (p.body.map Sm.av)] := rfl;unfold Pg.av at ho ⊢;rw [hc] at ho ⊢;refine rA ?_;simp;intro g1;refine AWp.gen (fun st => st.sl 1 = .ptr g1 0 /\ st.mem g1 = some (.box [.lst false 2 (p.arrs.map Ar.av), .lst false 19 (p.body.map Sm.av)])) ⟨by simp, by simp⟩ ?_;rintro st ⟨s1, w1⟩;refine raA ?_;simp [s1, w1];refine oC' ho ?_;simp;cases h : p.ok with
 | false =>
  refine tA ?_;refine rA ?_;simp;exact AWp.ret (pR1 rfl (by simp [Pg.txt, h] <;> rfl))
 | true =>
  refine fA ?_;refine kA ?_;try simp
  obtain ⟨hA, h4, h40, hR⟩ := zlc h;have z1 := zCb _ _ hA;have z2 := (xeb 40).2 p.body 0 [] h40 hR (by simp) (by omega);refine rA ?_;simp;refine rA ?_;simp;(repeat refine qA ?_);refine AWp.cA (fun st => st.sl 1 = .ptr g1 0 /\ st.mem g1 = some (.box [.lst false 2 (p.arrs.map Ar.av), .lst false 19 (p.body.map Sm.av)]) /\ st.sl 3 = .str (txt (yLa p.arrs))) ?_ ?_
  ·refine AWp.block (AWp.ro (fun q st => ∃ i : Nat, q = p.arrs.length - i /\ i <= p.arrs.length /\ st.sl 1 = .ptr g1 0 /\ st.mem g1 = some (.box [.lst false 2 (p.arrs.map Ar.av), .lst false 19 (p.body.map Sm.av)]) /\ st.sl 3 = .str (txt (yLa (p.arrs.take i))) /\ st.sl 4 = .int .i64 i) p.arrs.length ⟨0, by simp, by simp, by simp [s1], by simp [w1], by first | (simp [yLa, txt]; done) | (simp [yLa, txt]; rfl), by simp⟩ ?_)
   clear s1 w1;rintro RR q st hRR ⟨i, rfl, hi, s1, w1, s3, s4⟩;by_cases hbl : i < p.arrs.length
   ·have hx : ∀ m, yga Tryz.prog m 29 (.lst false 2 (p.arrs.map Ar.av)) (.int .i64 i) = some (.ref [.str p.arrs[i].s, .int .i64 p.arrs[i].n]) := fun m => idx (y := p.arrs[i].av) es_29 (by simp [gE hbl]);have hw := iA i (by omega);have hnx := wJb hbl;have hA2 := xDb p.arrs i;have hrx := wuc hA _ (List.getElem_mem hbl);generalize yLa (p.arrs.take i) = A at *;refine rA ?_;simp [s1, w1, s4, hbl];refine tA ?_;refine kA ?_;try simp
    obtain ⟨M, hM2⟩ : ∃ M : St -> Prop, M = (fun st => st.sl 1 = .ptr g1 0 /\ st.mem g1 = some (.box [.lst false 2 (p.arrs.map Ar.av), .lst false 19 (p.body.map Sm.av)]) /\ st.sl 3 = .str (txt (A ++ p.arrs[i].pr)) /\ st.sl 4 = .int .i64 i) := ⟨_, rfl⟩;(repeat refine qA ?_);refine AWp.cA M ?_ ?_
    ·(repeat refine qA ?_);refine bA ?_;generalize p.arrs[i] = z at *;obtain ⟨s, n⟩ := z;simp only at hrx hx;obtain ⟨hs, hn1, hn2⟩ := hrx;obtain ⟨w, rfl⟩ : ∃ w, s = txt w := ⟨s.data.toList, (y9a s).symm⟩;have hwl : (txt w).data.toList = w := yDa w;have hsl := z8a hs;rw [hwl] at hsl;have hnl := w5b (n := n) (by omega) (by omega);have hnb : xNc n = txt (Lib.itoa n) := rfl;obtain ⟨x1, dx1⟩ : ∃ x, x = A ++ [97, 114, 114, 97, 121, 32] := ⟨_, rfl⟩;have lx1 : x1.length = A.length + [97, 114, 114, 97, 121, 32].length := by rw [dx1]; simp
     have kx1 : List.length ([97, 114, 114, 97, 121, 32] : List UInt8) = 6 := rfl;have ax1 : yia .add (.str (txt A)) (.str (⟨#[97, 114, 114, 97, 121, 32]⟩)) = some (.str (txt x1)) := by rw [dx1]; exact aT A [97, 114, 114, 97, 121, 32] (by omega)
     obtain ⟨x2, dx2⟩ : ∃ x, x = x1 ++ w := ⟨_, rfl⟩;have lx2 : x2.length = x1.length + w.length := by rw [dx2]; simp
     have ax2 : yia .add (.str (txt x1)) (.str (txt w)) = some (.str (txt x2)) := by rw [dx2]; exact aT x1 w (by omega)
     obtain ⟨x3, dx3⟩ : ∃ x, x = x2 ++ [32] := ⟨_, rfl⟩;have lx3 : x3.length = x2.length + [32].length := by rw [dx3]; simp
     have kx3 : List.length ([32] : List UInt8) = 1 := rfl;have ax3 : yia .add (.str (txt x2)) (.str (⟨#[32]⟩)) = some (.str (txt x3)) := by rw [dx3]; exact aT x2 [32] (by omega)
     obtain ⟨x4, dx4⟩ : ∃ x, x = x3 ++ (Lib.itoa n) := ⟨_, rfl⟩;have lx4 : x4.length = x3.length + (Lib.itoa n).length := by rw [dx4]; simp
     have ax4 : yia .add (.str (txt x3)) (.str (txt (Lib.itoa n))) = some (.str (txt x4)) := by rw [dx4]; exact aT x3 (Lib.itoa n) (by omega)
     obtain ⟨x5, dx5⟩ : ∃ x, x = x4 ++ [59, 10] := ⟨_, rfl⟩;have lx5 : x5.length = x4.length + [59, 10].length := by rw [dx5]; simp
     have kx5 : List.length ([59, 10] : List UInt8) = 2 := rfl;have ax5 : yia .add (.str (txt x4)) (.str (⟨#[59, 10]⟩)) = some (.str (txt x5)) := by rw [dx5]; exact aT x4 [59, 10] (by omega)
     (repeat refine qA ?_);refine AWp.rG (fun i => i == 16) (fun _ => false) [0, 1, 2, 3, 4, 5, 6, 7, 8, 9, 10, 11, 12, 13, 14, 15, 16, 17, 18, 19] [0, 1, 2, 3, 4, 5, 6, 7, 8, 9, 10, 11, 12, 13, 14, 15, 16, 17, 18, 19] (by kernel_rfl) ?_;simp [s1, w1, s3, s4, hx, ax1, ax2, ax3, ax4, ax5];refine oC' (wOa n (by omega) (by omega)) ?_;simp [hnb, ax1, ax2, ax3, ax4, ax5];subst hM2;refine ⟨by simp [s1], by simp [w1], ?_, by simp [s4]⟩;simp;rw [dx5, dx4, dx3, dx2, dx1];simp [Ar.pr, arT, hwl]
    clear s1 s3 s4 w1 hx;intro st hst;subst hM2;obtain ⟨s1, w1, s3, s4⟩ := hst;refine rA ?_;simp [s4, hw];exact hRR _ (p.arrs.length - (i + 1)) (by omega) ⟨i + 1, rfl, by omega, by simp [s1], by simp [w1], by rw [hnx]; simpa using s3, by simp⟩
   have : i = p.arrs.length := by omega
   subst this;refine rA ?_;simp [s1, w1, s4];refine fA ?_;refine eA ?_;try simp
   exact ⟨by simp [s1], by simp [w1], by simpa using s3⟩
  clear s1 w1;rintro st ⟨s1, w1, s3⟩;have cb := wld 40 p.body 0 [] h40 (by omega) hR (by simp) (by omega);have ae : txt [] = (⟨#[]⟩ : ByteArray) := rfl;rw [ae] at cb;have a1 := aT (yLa p.arrs) (Sm.prs p.body []) (by omega);refine raA ?_;simp [s1, w1, s3];refine oC' cb ?_;simp [a1];exact AWp.ret (pR1 rfl (by simp [Pg.txt, h, Pg.pr]))
end Go.T
