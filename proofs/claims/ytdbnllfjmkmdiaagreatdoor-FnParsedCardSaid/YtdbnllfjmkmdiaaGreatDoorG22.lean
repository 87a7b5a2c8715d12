/- Parts of the proof of FnParsed: What is parsed is written no more. -/
import Derived.Test.YtdbnllfjmkmdiaaGreatDoorG21
import Derived.Test.YtdbnllfjmkmdiaaGreatDoorG18
import Derived.Test.YtdbnllfjmkmdiaaGreatDoorG5
import Derived.Test.YtdbnllfjmkmdiaaGreatDoorG6
import Derived.Test.YtdbnllfjmkmdiaaGreatDoorG12
import Derived.Test.YtdbnllfjmkmdiaaGreatDoorG9
import Derived.Test.YtdbnllfjmkmdiaaGreatDoorG8
import Derived.Shelf.Lay
import Derived.Ground.NamesProg
import Derived.WalkKit
import Derived.Test.YtdbnllfjmkmdiaaGreatDoorG13
set_option linter.unusedSimpArgs false
set_option linter.unusedVariables false
namespace Go.T
open Go Go.Proofs
set_option maxRecDepth 10000
set_option maxHeartbeats 1000000
open Go
theorem View.tup1 {m m' : Mem} {a x : AV} (h : View m a m' x) (b : Bool) : View m (.tup [a, .bool b]) m' (.tup [x, .bool b]) := fun w S u h1 h2 => by
 cases h2 with | @tup _ vs hr =>
 cases hr with | @cons _ y _ ys hy ht =>
 cases ht with | @cons _ z _ zs hz ht2 =>
 cases ht2;obtain ⟨S', k1, k2, k3, k4, k5⟩ := h w S y h1 hy;cases hz;exact ⟨S', k1, k2, k3, .tup (vs := [y, .bool b]) (.cons k4 (.cons (.bool _) .nil)), k5⟩
theorem zDb (s : ByteArray) (hz : s.size <= 9223372036854775807) {Tb : TypeId} {m : Mem} (hm : m TB = some (yba Tb)) {K : AV -> Mem -> Prop}
  (hK : ∀ m', Ext m m' -> K (.tup [((parse s).getD (Pg.mk [] [])).av, .bool (parse s).isSome]) m') : zka Tryz.prog 18 [.str s] m K := by
 refine zka.view (Q := fun r m' => ∃ F r0, Ext m m' /\ Tv m m' F r0 ((parse s).getD (Pg.mk [] [])).av /\ r = .tup [r0, .bool (parse s).isSome]) (yGc s hz hm fun m' F r hE hT => ⟨F, r, hE, hT, rfl⟩) ?_;rintro r m' ⟨F, r0, hE, hT, rfl⟩;obtain ⟨m2, hv, hk⟩ := hT.own.view;exact ⟨_, m2, hv.tup1 _, hK _ fun g b hg => by rw [hk g (hT.not (by rw [hg]; simp))]; exact hE g b hg⟩
theorem ykb (s : ByteArray) (hz : s.size <= 9223372036854775807) {Tb : TypeId} {m : Mem} (hm : m TB = some (yba Tb)) {K : AV -> Mem -> Prop}
  (hK : ∀ m', Ext m m' -> K (.tup [((yJa s).getD (Ex.mk 0 0 ⟨#[]⟩ [])).av, .bool (yJa s).isSome]) m') : zka Tryz.prog 14 [.str s] m K := by
 refine zka.view (Q := fun r m' => ∃ F r0, Ext m m' /\ Tr m m' F r0 ((yJa s).getD (Ex.mk 0 0 ⟨#[]⟩ [])) /\ r = .tup [r0, .bool (yJa s).isSome]) (xzb s hz hm fun m' F r hE hT => ⟨F, r, hE, hT, rfl⟩) ?_;rintro r m' ⟨F, r0, hE, hT, rfl⟩;obtain ⟨m2, hv, hk⟩ := hT.own.view;exact ⟨_, m2, hv.tup1 _, hK _ fun g b hg => by rw [hk g (hT.not (by rw [hg]; simp))]; exact hE g b hg⟩
theorem wHa {l : List Int} (hl : yKc l) {g : Nat} {m : Mem} (hm : Cur l g m) (f : Bool) {vs : List AV} (ns : List ByteArray) (hv : vs = ns.map AV.str) (h0 : 0 < ns.length) (h1 : ns.length <= 1000) {B : Nat} (hB : ∀ x ∈ ns, x.size <= B) {K : AV -> Mem -> Prop} (hK : ∀ x m', ByteArray.size x <= B -> Cur l g m' -> Off g m m' -> K (.str x) m') : zka Tryz.prog 76 [.ptr g 0, .lst f 1 vs] m K := by
 subst hv;exact wca hl hm f ns h0 h1 fun x m' hx hc ho => hK x m' (hB x hx) hc ho
theorem xid (e : Ex) : e.txt.size <= 1000 := by
 unfold Ex.txt;split
 ·rename_i h
  rw [yOa];have := yMa h;omega
 decide
theorem yJc (p : Pg) : p.txt.size <= 100000 := by
 unfold Pg.txt;split
 ·rename_i h
  obtain ⟨hA, h4, h40, hR⟩ := zlc h;have z1 := zCb _ _ hA;have z2 := (xeb 40).2 p.body 0 [] h40 hR (by simp) (by omega);rw [yOa, Pg.pr, List.length_append];omega
 decide
def zMf (P : Program) (n : FuncId) (B : Nat) : Prop := ∀ (l : List Int), yKc l -> ∀ (g : Nat) (m : Mem), Cur l g m -> ∀ K : AV -> Mem -> Prop, (∀ s m', ByteArray.size s <= B -> Cur l g m' -> Off g m m' -> K (.str s) m') -> zka P n [.ptr g 0] m K
theorem wnd : zMf Tryz.prog 74 200 := by
 intro l hl g m hC K hK;refine wO Tryz.func74 ?_;refine rA ?_;simp;refine AWp.gen (fun st => st.sl 0 = .ptr g 0 /\ st.mem = m) ⟨by simp, by simp⟩ ?_;rintro st ⟨s0, sm⟩;refine rA ?_;simp [s0, zda];refine wA ?_;try simp [sm]
 refine wHa hl hC true [_, _, _, _, _, _, _, _, _, _, _, _] rfl (by simp) (by simp) (B := 200) (by intro x hx; simp at hx; rcases hx with rfl | rfl | rfl | rfl | rfl | rfl | rfl | rfl | rfl | rfl | rfl | rfl <;> decide) fun nm1 m1 hn1 hC hO1 => ?_
 try simp
 exact AWp.ret (zea rfl ⟨_, _, View.refl _ _, by simpa using hK _ _ hn1 hC hO1⟩)
theorem zsd (a b : ByteArray) (h : a.size + b.size <= 9223372036854775807) : yia .add (.str a) (.str b) = some (.str (a ++ b)) := by rw [wAd, if_pos h]
theorem wod : zMf Tryz.prog 77 200 := by
 intro l hl g m hC K hK;refine wO Tryz.func77 ?_;refine rA ?_;simp;refine rA ?_;simp;refine AWp.gen (fun st => st.sl 0 = .ptr g 0 /\ st.sl 3 = .str ⟨#[]⟩ /\ st.mem = m) ⟨by simp, by first | (simp; done) | rfl, by simp⟩ ?_
 rintro st ⟨s0, s3, sm⟩;refine rA ?_;simp [s0];refine wA ?_;simp [sm];refine zHa hl hC 14 (by omega) fun k m1 k0 k1 hC hO => ?_;have hO := yra hO;try simp
 (repeat refine qA ?_);refine AWp.cA (fun st => ∃ s, ByteArray.size s <= 200 /\ st.sl 3 = .str s /\ Cur l g st.mem /\ Off g m st.mem) ?_ ?_
 ·refine AWp.block (AWp.ro (fun q st => ∃ (i : Nat) (s : ByteArray), q = i /\ i <= 13 /\ s.size + 10 * i <= 140 /\ st.sl 0 = .ptr g 0 /\ st.sl 3 = .str s /\ st.sl 4 = .int .i64 i /\ Cur l g st.mem /\ Off g m st.mem) k.toNat ⟨k.toNat, ⟨#[]⟩, rfl, by omega, by have : (⟨#[]⟩ : ByteArray).size = 0 := rfl; omega, by simp [s0], by simp [s3], by simp; omega, by simpa using hC, by simpa using hO⟩ ?_);clear s0 s3 sm;rintro RR i st hRR ⟨i', s, rfl, hi, hz, s0, s3, s4, hC, hO⟩;by_cases h0 : 0 < i
  ·have hw : IntKind.wrap .i64 ((i : Int) - 1) = (i - 1 : Nat) := by rw [zga (by omega) (by omega)]; omega
   refine rA ?_;simp [s4, h0];refine tA ?_;refine kA ?_;try simp
   (repeat refine qA ?_);refine bA ?_;obtain ⟨ms, sm⟩ : ∃ ms, st.mem = ms := ⟨_, rfl⟩;rw [sm] at hC hO;refine rA ?_;simp [s0, s3, zda];refine wA ?_;try simp [sm]
   refine wHa hl hC true [_, _, _, _, _, _, _, _, _, _, _, _, _, _, _, _, _, _, _, _, _, _, _, _] rfl (by simp) (by simp) (B := 5) (by intro x hx; simp at hx; rcases hx with rfl | rfl | rfl | rfl | rfl | rfl | rfl | rfl | rfl | rfl | rfl | rfl | rfl | rfl | rfl | rfl | rfl | rfl | rfl | rfl | rfl | rfl | rfl | rfl <;> decide) fun nm1 m1 hn1 hC hO1 => ?_
   have a1 := zsd s nm1 (by omega);try simp [s0, s3, a1, zda]
   refine wA ?_;try simp
   refine wHa hl hC true [_, _, _, _] rfl (by simp) (by simp) (B := 1) (by intro x hx; simp at hx; rcases hx with rfl | rfl | rfl | rfl <;> decide) fun nm2 m2 hn2 hC hO2 => ?_
   have z1 : (s ++ nm1).size = s.size + nm1.size := ByteArray.size_append;have a2 := zsd (s ++ nm1) nm2 (by omega);have z2 : (s ++ nm1 ++ nm2).size = (s ++ nm1).size + nm2.size := ByteArray.size_append;have hO := (hO.trans hO1).trans hO2;try simp [a2]
   refine rA ?_;simp [s4, hw];exact hRR _ (i - 1) (by omega) ⟨i - 1, s ++ nm1 ++ nm2, rfl, by omega, by omega, by simp [s0], by simp, by simp, by simpa using hC, by simpa using hO⟩
  have : i = 0 := by omega
  subst this;refine rA ?_;simp [s4];refine fA ?_;refine eA ?_;try simp
  exact ⟨s, by omega, by simp [s3], by simpa using hC, by simpa using hO⟩
 rintro st2 ⟨s, hz, s3, hC, hO⟩;refine rA ?_;simp [s3];exact AWp.ret (zea rfl ⟨_, _, View.refl _ _, by simpa using hK _ _ hz hC hO⟩)
theorem w0d (s : ByteArray) (k : Int) (h0 : 0 <= k) (h1 : k <= s.size) : yQa Tryz.prog 9 (.str s) none (some (.int .i64 k)) = some (.str (s.extract 0 k.toNat)) := by
 unfold yQa;simp [z5a, Tryz.underlying9];have : ¬ k < 0 := by omega
 have h2 : k.toNat <= s.size := by omega
 simp [this, h1, h2]
theorem w1d (s : ByteArray) (k : Int) (h0 : 0 <= k) (h1 : k <= s.size) : yQa Tryz.prog 9 (.str s) (some (.int .i64 k)) none = some (.str (s.extract k.toNat s.size)) := by
 unfold yQa;simp [z5a, Tryz.underlying9];have : ¬ k < 0 := by omega
 have h2 : k.toNat <= s.size := by omega
 simp [this, h1, h2]
theorem yFb (s : ByteArray) (i j : Nat) : (s.extract i j).size <= s.size := by
 rw [ByteArray.size_extract];omega
theorem xuc (l : List Int) (hl : yKc l) {m : Mem} {K : AV -> Mem -> Prop} (hK : ∀ x m', ByteArray.size x <= 1000000 -> Ext m m' -> K (.str x) m') : zka Tryz.prog 24 [bys l] m K := by
 refine wO Tryz.func24 ?_;refine rA ?_;simp;refine AWp.gen (fun st => st.sl 0 = bys l /\ st.mem = m) ⟨by simp, by simp⟩ ?_;rintro st ⟨s0, sm⟩;refine rA ?_;simp [s0];refine wA ?_;simp [sm];refine yAd l hl fun g m1 hgn hC hE1 => ?_;try simp
 refine AWp.gen (fun st => st.sl 3 = .ptr g 0 /\ st.mem = m1) ⟨by simp, by simp⟩ ?_;clear s0 sm;rintro st ⟨s3, sm⟩;have hX : ∀ {m' : Mem}, Off g m1 m' -> Ext m m' := fun hO k b hk => hO _ _ (fun e => by subst e; rw [hgn] at hk; cases hk) (hE1 _ _ hk);refine rA ?_;simp [s3];refine wA ?_;try simp [sm]
 refine wnd l hl _ _ hC _ fun s m2 hs hC hO => ?_;try simp
 refine AWp.gen (fun st => st.sl 3 = .ptr g 0 /\ st.sl 4 = .str s /\ st.mem = m2) ⟨by simp [s3], by simp, by simp⟩ ?_;clear s3 sm;rintro st ⟨s3, s4, sm⟩;refine rA ?_;simp [s3];refine wA ?_;try simp [sm]
 refine zHa hl hC 4 (by omega) fun k m3 k0 k1 hC hO3 => ?_;have hO := hO.trans (yra hO3);try simp
 refine AWp.gen (fun st => st.sl 3 = .ptr g 0 /\ st.sl 4 = .str s /\ st.sl 11 = .int .i64 k /\ st.mem = m3) ⟨by simp [s3], by simp [s4], by simp, by simp⟩ ?_;clear s3 s4 sm hO3;rintro st ⟨s3, s4, sk, sm⟩;obtain ⟨M, hM⟩ : ∃ M : St -> Prop, M = (fun st => st.sl 4 = .str s /\ st.mem = m3) := ⟨_, rfl⟩;(repeat refine qA ?_);refine AWp.cA M ?_ ?_
 ·(repeat refine qA ?_);refine bA ?_;refine rA ?_;simp [sk];by_cases q0 : k = 0
  ·(repeat refine qA ?_);refine AWp.condT (by simp [q0]) ?_;refine rA ?_;simp [s3];refine wA ?_;try simp [sm]
   refine wfd l hl _ _ hC _ fun p m4 hp hC hO4 => ?_;try simp
   refine oC' (xEb p (by omega)) ?_;have hz := yJc p;simp;exact AWp.ret (zea rfl ⟨_, _, View.refl _ _, by simpa using hK _ _ (by omega) (hX (hO.trans hO4))⟩)
  (repeat refine qA ?_);refine AWp.condF (by simp [q0]) ?_;refine rA ?_;simp [sk];by_cases q1 : k = 1
  ·(repeat refine qA ?_);refine AWp.condT (by simp [q1]) ?_;refine rA ?_;simp [s3, s4];have hw : IntKind.wrap .i64 ((s.size : Int) + 1) = (s.size : Int) + 1 := zga (by omega) (by omega);try simp [hw]
   refine wA ?_;try simp [sm, hw, s3]
   refine zHa hl hC _ (by omega) fun j m4 j0 j1 hC hO4 => ?_;have hO := hO.trans (yra hO4);have b1 := w0d s j j0 (by omega);have b2 := w1d s j j0 (by omega);have z1 := yFb s 0 j.toNat
   have z2 := yFb s j.toNat s.size;try simp
   refine AWp.gen (fun st => st.sl 3 = .ptr g 0 /\ st.sl 4 = .str s /\ st.sl 5 = .int .i64 j /\ st.mem = m4) ⟨by simp [s3], by simp [s4], by simp, by simp⟩ ?_;clear s3 s4 sk sm hO4;rintro st ⟨s3, s4, s5, sm⟩;generalize s.extract 0 j.toNat = u1 at *;generalize s.extract j.toNat s.size = u2 at *;(repeat refine qA ?_);refine AWp.rG (fun _ => false) (fun _ => false) [0, 1, 2, 3, 4, 7, 8, 9, 5, 6, 10, 11] [0, 1, 2, 3, 4, 5, 6, 7, 8, 9, 10, 11] (by kernel_rfl) ?_;simp [s3, s4, s5, b1, b2, zda];refine wA ?_;try simp [sm]
   refine wHa hl hC true [_, _, _, _, _, _] rfl (by simp) (by simp) (B := 20) (by intro x hx; simp at hx; rcases hx with rfl | rfl | rfl | rfl | rfl | rfl <;> decide) fun nm7 m7 hn7 hC hO7 => ?_
   have z3 : (u1 ++ nm7).size = u1.size + nm7.size := ByteArray.size_append;have z4 : (u1 ++ nm7 ++ u2).size = (u1 ++ nm7).size + u2.size := ByteArray.size_append;have a1 := zsd u1 nm7 (by omega);have a2 := zsd (u1 ++ nm7) u2 (by omega);try simp [a1, a2]
   exact AWp.ret (zea rfl ⟨_, _, View.refl _ _, by simpa using hK _ _ (by omega) (hX (hO.trans hO7))⟩)
  (repeat refine qA ?_);refine AWp.condF (by simp [q1]) ?_;refine rA ?_;simp [sk];by_cases q2 : k = 2
  ·(repeat refine qA ?_);refine AWp.condT (by simp [q2]) ?_;refine rA ?_;simp [s3];refine wA ?_;try simp [sm]
   refine wod l hl _ _ hC _ fun u m4 hu hC hO4 => ?_;try simp
   exact AWp.ret (zea rfl ⟨_, _, View.refl _ _, by simpa using hK _ _ (by omega) (hX (hO.trans hO4))⟩)
  (repeat refine qA ?_);refine AWp.condF (by simp [q2]) ?_;refine kA ?_;subst hM;exact ⟨by simp [s4], by simp [sm]⟩
 clear s3 s4 sk sm;rintro st hst;subst hM;obtain ⟨s4, sm⟩ := hst;refine rA ?_;simp [s4];exact AWp.ret (zea rfl ⟨_, _, View.refl _ _, by simpa [sm] using hK _ _ (by omega) (hX hO)⟩)
theorem xZb (l : List Int) (hl : yKc l) {m : Mem} {K : AV -> Mem -> Prop} (hK : ∀ x m', ByteArray.size x <= 1000000 -> Ext m m' -> K (.str x) m') : zka Tryz.prog 25 [bys l] m K := by
 refine wO Tryz.func25 ?_;refine rA ?_;simp;refine AWp.gen (fun st => st.sl 0 = bys l /\ st.mem = m) ⟨by simp, by simp⟩ ?_;rintro st ⟨s0, sm⟩;refine rA ?_;simp [s0];refine wA ?_;simp [sm];refine yAd l hl fun g m1 hgn hC hE1 => ?_;try simp
 refine AWp.gen (fun st => st.sl 3 = .ptr g 0 /\ st.mem = m1) ⟨by simp, by simp⟩ ?_;clear s0 sm;rintro st ⟨s3, sm⟩;have hX : ∀ {m' : Mem}, Off g m1 m' -> Ext m m' := fun hO k b hk => hO _ _ (fun e => by subst e; rw [hgn] at hk; cases hk) (hE1 _ _ hk);refine rA ?_;simp [s3];refine wA ?_;try simp [sm]
 refine wEb l hl _ _ hC _ fun e m2 he hC hO => ?_;try simp
 refine oC' (xYb e (by omega)) ?_;simp;have hs := xid e;generalize e.txt = s at *;refine AWp.gen (fun st => st.sl 3 = .ptr g 0 /\ st.sl 4 = .str s /\ st.mem = m2) ⟨by simp [s3], by simp, by simp⟩ ?_;clear s3 sm;rintro st ⟨s3, s4, sm⟩;refine rA ?_;simp [s3];refine wA ?_;try simp [sm]
 refine zHa hl hC 4 (by omega) fun k m3 k0 k1 hC hO3 => ?_;have hO := hO.trans (yra hO3);try simp
 refine AWp.gen (fun st => st.sl 3 = .ptr g 0 /\ st.sl 4 = .str s /\ st.sl 12 = .int .i64 k /\ st.mem = m3) ⟨by simp [s3], by simp [s4], by simp, by simp⟩ ?_;clear s3 s4 sm hO3;rintro st ⟨s3, s4, sk, sm⟩;obtain ⟨M, hM⟩ : ∃ M : St -> Prop, M = (fun st => st.sl 4 = .str s /\ st.mem = m3) := ⟨_, rfl⟩;(repeat refine qA ?_);refine AWp.cA M ?_ ?_
 ·(repeat refine qA ?_);refine bA ?_;refine rA ?_;simp [sk];by_cases q0 : k = 0
  ·(repeat refine qA ?_);refine AWp.condT (by simp [q0]) ?_;refine rA ?_;simp [s3, zda];refine wA ?_;try simp [sm]
   refine wHa hl hC true [_, _, _, _, _, _, _, _, _, _, _, _, _] rfl (by simp) (by simp) (B := 40) (by intro x hx; simp at hx; rcases hx with rfl | rfl | rfl | rfl | rfl | rfl | rfl | rfl | rfl | rfl | rfl | rfl | rfl <;> decide) fun nm7 m7 hn7 hC hO7 => ?_
   try simp
   exact AWp.ret (zea rfl ⟨_, _, View.refl _ _, by simpa using hK _ _ (by omega) (hX (hO.trans hO7))⟩)
  (repeat refine qA ?_);refine AWp.condF (by simp [q0]) ?_;refine rA ?_;simp [sk];by_cases q1 : k = 1
  ·(repeat refine qA ?_);refine AWp.condT (by simp [q1]) ?_;refine rA ?_;simp [s3, s4];have hw : IntKind.wrap .i64 ((s.size : Int) + 1) = (s.size : Int) + 1 := zga (by omega) (by omega);try simp [hw]
   refine wA ?_;try simp [sm, hw, s3]
   refine zHa hl hC _ (by omega) fun j m4 j0 j1 hC hO4 => ?_;have hO := hO.trans (yra hO4);have b1 := w0d s j j0 (by omega);have b2 := w1d s j j0 (by omega);have z1 := yFb s 0 j.toNat
   have z2 := yFb s j.toNat s.size;try simp
   refine AWp.gen (fun st => st.sl 3 = .ptr g 0 /\ st.sl 4 = .str s /\ st.sl 5 = .int .i64 j /\ st.mem = m4) ⟨by simp [s3], by simp [s4], by simp, by simp⟩ ?_;clear s3 s4 sk sm hO4;rintro st ⟨s3, s4, s5, sm⟩;generalize s.extract 0 j.toNat = u1 at *;generalize s.extract j.toNat s.size = u2 at *;(repeat refine qA ?_);refine AWp.rG (fun _ => false) (fun _ => false) [0, 1, 2, 3, 4, 7, 8, 9, 5, 6, 10, 11] [0, 1, 2, 3, 4, 5, 6, 7, 8, 9, 10, 11] (by kernel_rfl) ?_;simp [s3, s4, s5, b1, b2, zda];refine wA ?_;try simp [sm]
   refine wHa hl hC true [_, _, _, _] rfl (by simp) (by simp) (B := 20) (by intro x hx; simp at hx; rcases hx with rfl | rfl | rfl | rfl <;> decide) fun nm7 m7 hn7 hC hO7 => ?_
   have z3 : (u1 ++ nm7).size = u1.size + nm7.size := ByteArray.size_append;have z4 : (u1 ++ nm7 ++ u2).size = (u1 ++ nm7).size + u2.size := ByteArray.size_append;have a1 := zsd u1 nm7 (by omega);have a2 := zsd (u1 ++ nm7) u2 (by omega);try simp [a1, a2]
   exact AWp.ret (zea rfl ⟨_, _, View.refl _ _, by simpa using hK _ _ (by omega) (hX (hO.trans hO7))⟩)
  (repeat refine qA ?_);refine AWp.condF (by simp [q1]) ?_;refine kA ?_;subst hM;exact ⟨by simp [s4], by simp [sm]⟩
 clear s3 s4 sk sm;rintro st hst;subst hM;obtain ⟨s4, sm⟩ := hst;refine rA ?_;simp [s4];exact AWp.ret (zea rfl ⟨_, _, View.refl _ _, by simpa [sm] using hK _ _ (by omega) (hX hO)⟩)
theorem zEb (l : List UInt8) (b : Bool) (hz : l.length <= 1000000) : zca Tryz.prog 89 [.str (txt l), .bool b] (.str (txt (yib b l))) := by
 have a1 := aT [40] l (by simp; omega);have a2 := aT (40 :: l) [41] (by simp; omega);have f1 : txt [40] = ⟨#[40]⟩ := rfl;have f2 : txt [41] = ⟨#[41]⟩ := rfl;rw [f1] at a1;rw [f2] at a2;simp only [List.cons_append, List.nil_append] at a1 a2;refine pO Tryz.func89 ?_;refine rA ?_;simp;refine rA ?_;simp;cases b with
 | true =>
  refine tA ?_;refine rA ?_;simp [a1, a2];exact AWp.ret (pR1 rfl (by simp [yib]))
 | false =>
  refine fA ?_;refine kA ?_;refine rA ?_;simp;exact AWp.ret (pR1 rfl (by simp [yib]))
theorem zmc (e : Ex) : zca Tryz.prog 90 [e.av] (.bool (decide (lev e.kind < 2))) := by
 rcases e with ⟨k, n, s, l⟩;refine pO Tryz.func90 ?_;refine rA ?_;simp [Ex.av];intro g1;refine AWp.gen (fun st => st.sl 1 = .ptr g1 0 /\ st.mem g1 = some (.box [.int .i64 k, .int .i64 n, .str s, .lst false 4 (l.map Ex.av)])) ⟨by simp, by simp [Ex.cells_mk]⟩ ?_;rintro st ⟨s1, w1⟩;by_cases k4 : k = 4
 ·refine rA ?_;simp [s1, w1, k4];exact AWp.ret (pR1 rfl (by simp [lev, k4, Ex.kind]))
 by_cases k5 : k = 5
 ·refine rA ?_;simp [s1, w1, k4, k5];exact AWp.ret (pR1 rfl (by simp [lev, k4, k5, Ex.kind]))
 refine rA ?_;simp [s1, w1, k4, k5];refine AWp.ret (pR1 rfl ?_);by_cases k6 : k = 6
 ·simp [lev, k6, Ex.kind]
 simp [lev, k4, k5, k6, Ex.kind]
theorem xVa : ∀ (N : Nat) (e : Ex) (d : Nat), e.nodes <= N -> e.nodes <= 1000 -> e.good d = true -> ∀ {T : TypeId} {m : Mem} (hm : m TB = some (yba T)) {K : AV -> Mem -> Prop} (hK : K (.str (txt e.pr)) m), zka Tryz.prog 31 [e.av] m K := by
 intro N
 induction N with
 | zero =>
  intro e d hN;obtain ⟨k, n, s, l⟩ := e;rw [Ex.nodes] at hN;omega
 | succ N ih =>
  intro e d hN hM hg T m hm K hK;have hz := (ztb e.nodes e d (Nat.le_refl _) hg).1;obtain ⟨_, hs⟩ := shape hg;cases hs with
  | num n h0 h1 =>
   refine wO Tryz.func31 ?_;refine rA ?_;simp [Ex.av];intro g1 hg1;refine AWp.se (Sees.view (t := 1) (View.fB (g := g1) (cs := (Ex.mk 1 n ⟨#[]⟩ []).cells) (by simp))) ?_;have hmm : (m.set g1 (.box (Ex.mk 1 n ⟨#[]⟩ []).cells)).del g1 = m := by
    funext q;unfold Mem.del;by_cases h : q = g1
    ·rw [if_pos h, h, hg1]
    rw [if_neg h, Mem.so h]
   refine AWp.gen (fun st => st.sl 1 = .ref (Ex.mk 1 n ⟨#[]⟩ []).cells /\ st.mem = m) ⟨by simp, by simpa using hmm⟩ ?_;rintro st ⟨s1, sm⟩;rw [Ex.cells_mk] at s1;simp only [List.map_cons, List.map_nil] at s1;refine rA ?_;simp [s1];(repeat refine qA ?_);refine bA ?_;refine rA ?_;simp;refine tA ?_;refine rA ?_;simp [s1];refine wA ?_;try simp [sm]
   refine xGa n (by omega) (by omega) hm ?_;try simp
   refine AWp.ret (zea rfl ⟨_, _, View.refl _ _, ?_⟩);simpa [Ex.pr, Ex.prs, prK, xNc, txt] using hK
  | var s hn =>
   refine wO Tryz.func31 ?_;refine rA ?_;simp [Ex.av];intro g1 hg1;refine AWp.se (Sees.view (t := 1) (View.fB (g := g1) (cs := (Ex.mk 2 0 s []).cells) (by simp))) ?_;have hmm : (m.set g1 (.box (Ex.mk 2 0 s []).cells)).del g1 = m := by
    funext q;unfold Mem.del;by_cases h : q = g1
    ·rw [if_pos h, h, hg1]
    rw [if_neg h, Mem.so h]
   refine AWp.gen (fun st => st.sl 1 = .ref (Ex.mk 2 0 s []).cells /\ st.mem = m) ⟨by simp, by simpa using hmm⟩ ?_;rintro st ⟨s1, sm⟩;rw [Ex.cells_mk] at s1;simp only [List.map_cons, List.map_nil] at s1;refine rA ?_;simp [s1];(repeat refine qA ?_);refine bA ?_;refine rA ?_;simp;refine fA ?_;refine rA ?_;simp;refine tA ?_;refine rA ?_;simp [s1];refine AWp.ret (zea rfl ⟨_, _, View.refl _ _, ?_⟩);simpa [Ex.pr, Ex.prs, prK, txt, sm] using hK
  | at_ s a hn ha =>
   have hnn : a.nodes <= N /\ a.nodes <= 1000 := by simp only [Ex.nodes, Ex.nodess] at hN hM; omega
   have hza := (ztb a.nodes a _ (Nat.le_refl _) ha).1;have ha := @ih a _ hnn.1 hnn.2 ha;have hsl := z8a hn;obtain ⟨w, rfl⟩ : ∃ w, s = txt w := ⟨s.data.toList, (y9a s).symm⟩;have hw : (txt w).data.toList = w := yDa w;rw [hw] at hsl;have f1 : txt [91] = ⟨#[91]⟩ := rfl;have f2 : txt [93] = ⟨#[93]⟩ := rfl;have a1 := aT w [91] (by simp; omega);have a2 := aT (w ++ [91]) a.pr (by simp; omega);have a3 := aT (w ++ [91] ++ a.pr) [93] (by simp; omega);rw [f1] at a1;rw [f2] at a3;simp only [List.append_assoc, List.cons_append, List.nil_append] at a1 a2 a3;have ia : ∀ m, yga Tryz.prog m 24 (.lst false 4 [a.av]) (.int .i64 0) = some (.ref a.cells) := fun m => idx (y := a.av) es_24 (by simp);have ta : List.take 4 a.cells = a.cells := List.take_of_length_le (by simp);refine wO Tryz.func31 ?_;refine rA ?_;simp [Ex.av];intro g1 hg1;refine AWp.se (Sees.view (t := 1) (View.fB (g := g1) (cs := (Ex.mk 3 0 (txt w) [a]).cells) (by simp))) ?_;have hmm : (m.set g1 (.box (Ex.mk 3 0 (txt w) [a]).cells)).del g1 = m := by
    funext q;unfold Mem.del;by_cases h : q = g1
    ·rw [if_pos h, h, hg1]
    rw [if_neg h, Mem.so h]
   refine AWp.gen (fun st => st.sl 1 = .ref (Ex.mk 3 0 (txt w) [a]).cells /\ st.mem = m) ⟨by simp, by simpa using hmm⟩ ?_;rintro st ⟨s1, sm⟩;rw [Ex.cells_mk] at s1;simp only [List.map_cons, List.map_nil] at s1;refine rA ?_;simp [s1];(repeat refine qA ?_);refine bA ?_;refine rA ?_;simp;refine fA ?_;refine rA ?_;simp;refine fA ?_;refine rA ?_;simp;refine tA ?_;(repeat refine qA ?_);refine AWp.rG (fun _ => false) (fun j => [1, 4, 6].contains j) [0, 1, 2, 3, 4, 5, 6, 7, 8, 9, 10] [0, 1, 2, 3, 4, 5, 6, 7, 8, 9, 10] (by kernel_rfl) ?_;simp [s1, ia, ta, a1];refine wA ?_;simp [sm];refine ha hm ?_;simp [a1, a2, a3];refine AWp.ret (zea rfl ⟨_, _, View.refl _ _, ?_⟩);simpa [Ex.pr, Ex.prs, prK, hw] using hK
  | two k a b k0 k1 ha hb =>
   have hnn : a.nodes <= N /\ a.nodes <= 1000 := by simp only [Ex.nodes, Ex.nodess] at hN hM; omega
   have hnm : b.nodes <= N /\ b.nodes <= 1000 := by simp only [Ex.nodes, Ex.nodess] at hN hM; omega
   have hza := (ztb a.nodes a _ (Nat.le_refl _) ha).1;have hzb := (ztb b.nodes b _ (Nat.le_refl _) hb).1;have ha := @ih a _ hnn.1 hnn.2 ha;have hb := @ih b _ hnm.1 hnm.2 hb;have ia : ∀ m, yga Tryz.prog m 24 (.lst false 4 [a.av, b.av]) (.int .i64 0) = some (.ref a.cells) := fun m => idx (y := a.av) es_24 (by simp);have ib : ∀ m, yga Tryz.prog m 24 (.lst false 4 [a.av, b.av]) (.int .i64 1) = some (.ref b.cells) := fun m => idx (y := b.av) es_24 (by simp);have ta : List.take 4 a.cells = a.cells := List.take_of_length_le (by simp);have tb : List.take 4 b.cells = b.cells := List.take_of_length_le (by simp);clear hz hN hM hg;refine wO Tryz.func31 ?_;refine rA ?_;simp [Ex.av];intro g1 hg1;refine AWp.se (Sees.view (t := 1) (View.fB (g := g1) (cs := (Ex.mk k 0 ⟨#[]⟩ [a, b]).cells) (by simp))) ?_;have hmm : (m.set g1 (.box (Ex.mk k 0 ⟨#[]⟩ [a, b]).cells)).del g1 = m := by
    funext q;unfold Mem.del;by_cases h : q = g1
    ·rw [if_pos h, h, hg1]
    rw [if_neg h, Mem.so h]
   refine AWp.gen (fun st => st.sl 1 = .ref (Ex.mk k 0 ⟨#[]⟩ [a, b]).cells /\ st.mem = m) ⟨by simp, by simpa using hmm⟩ ?_;rintro st ⟨s1, sm⟩;rw [Ex.cells_mk] at s1;simp only [List.map_cons, List.map_nil] at s1;refine rA ?_;simp [s1];(repeat refine qA ?_);refine bA ?_;refine rA ?_;simp;(repeat refine qA ?_);refine AWp.condF (by simp; omega) ?_;refine rA ?_;simp;(repeat refine qA ?_);refine AWp.condF (by simp; omega) ?_;refine rA ?_;simp;(repeat refine qA ?_);refine AWp.condF (by simp; omega) ?_;refine kA ?_;try simp
   obtain ⟨M8, hM8⟩ : ∃ M8 : St -> Prop, M8 = (fun st => st.sl 1 = .ref [.int .i64 k, .int .i64 0, .str ⟨#[]⟩, .lst false 4 [a.av, b.av]] /\ st.sl 3 = .str (txt a.pr) /\ st.sl 4 = .str (txt b.pr) /\ st.mem = m) := ⟨_, rfl⟩;(repeat refine qA ?_);refine AWp.cA M8 ?_ ?_
   ·(repeat refine qA ?_);refine AWp.regionX (fun _ => false) (fun j => [1, 3, 6, 8].contains j) [0, 1, 2, 3, 5, 6, 7, 8, 4, 9, 10, 11] [0, 1, 2, 3, 5, 6, 4, 7, 8, 9, 10, 11] 7 4 [0, 1, 2, 3, 4, 5, 6, 7, 8, 9, 10, 11] (by kernel_rfl) ?_ ?_
    ·simp [s1, ia, ib, ta, tb];refine wA ?_;try simp [sm]
     refine ha hm ?_;try simp [ib, tb]
     refine wA ?_;try simp
     refine hb hm ?_;try simp
     subst hM8;exact ⟨by simp [s1], by simp, by simp, by simp⟩
    simp [s1, ia, ib, ta, tb];refine wA ?_;try simp [sm]
    refine ha hm ?_;try simp [ib, tb]
    refine wA ?_;try simp
    refine hb hm ?_;try simp
    subst hM8;exact ⟨by simp [s1], by simp, by simp, by simp⟩
   clear s1 sm;intro st hst;subst hM8;obtain ⟨s1, s3, s4, sm⟩ := hst;have hk : k = 4 ∨ k = 5 ∨ k = 6 ∨ k = 7 ∨ k = 8 := by omega
   rcases hk with rfl | rfl | rfl | rfl | rfl
   ·have l2 := yma (decide (lev b.kind < 2)) b.pr;have f1 : txt [32, 43, 32] = ⟨#[32, 43, 32]⟩ := rfl;have a1 := aT a.pr [32, 43, 32] (by simp; omega);have a2 := aT (a.pr ++ [32, 43, 32]) (yib (decide (lev b.kind < 2)) b.pr) (by simp; omega);rw [f1] at a1;refine rA ?_;try simp [s1]
    (repeat refine qA ?_);refine bA ?_;refine rA ?_;try simp
    refine tA ?_;refine raA ?_;simp [s1, s3, s4, ib, tb, a1];refine oC' (zmc b) ?_;simp;refine oC' (zEb b.pr (decide (lev b.kind < 2)) (by omega)) ?_;simp [a1, a2];refine AWp.ret (zea rfl ⟨_, _, View.refl _ _, ?_⟩);simpa [Ex.pr, Ex.prs, prK, sm] using hK
   ·have l2 := yma (decide (lev b.kind < 2)) b.pr;have f1 : txt [32, 45, 32] = ⟨#[32, 45, 32]⟩ := rfl;have a1 := aT a.pr [32, 45, 32] (by simp; omega);have a2 := aT (a.pr ++ [32, 45, 32]) (yib (decide (lev b.kind < 2)) b.pr) (by simp; omega);rw [f1] at a1;refine rA ?_;try simp [s1]
    (repeat refine qA ?_);refine bA ?_;refine rA ?_;try simp
    refine fA ?_;refine rA ?_;simp;refine tA ?_;refine raA ?_;simp [s1, s3, s4, ib, tb, a1];refine oC' (zmc b) ?_;simp;refine oC' (zEb b.pr (decide (lev b.kind < 2)) (by omega)) ?_;simp [a1, a2];refine AWp.ret (zea rfl ⟨_, _, View.refl _ _, ?_⟩);simpa [Ex.pr, Ex.prs, prK, sm] using hK
   ·refine rA ?_;try simp [s1]
    (repeat refine qA ?_);refine bA ?_;refine rA ?_;try simp
    refine fA ?_;refine rA ?_;simp;refine fA ?_;refine rA ?_;simp;refine tA ?_;have l1 := yma (decide (lev a.kind < 2)) a.pr;have l2 := yma (decide (lev b.kind < 3)) b.pr;have f1 : txt [32, 42, 32] = ⟨#[32, 42, 32]⟩ := rfl;have a1 := aT (yib (decide (lev a.kind < 2)) a.pr) [32, 42, 32] (by simp; omega);have a2 := aT (yib (decide (lev a.kind < 2)) a.pr ++ [32, 42, 32]) (yib (decide (lev b.kind < 3)) b.pr) (by simp; omega);rw [f1] at a1;(repeat refine qA ?_);refine AWp.rG (fun i => i == 5 || i == 6 || i == 13 || i == 22) (fun _ => false) [0, 1, 2, 3, 4, 5, 6, 7, 8, 9, 10, 11, 12, 13, 14, 15, 16, 17, 18, 19, 20, 21, 22, 23, 24] [0, 1, 2, 3, 4, 5, 6, 7, 8, 9, 10, 11, 12, 13, 14, 15, 16, 17, 18, 19, 20, 21, 22, 23, 24] (by kernel_rfl) ?_;simp [s1, s3, s4, ia, ta];refine oC' (zmc a) ?_;simp;refine oC' (zEb a.pr (decide (lev a.kind < 2)) (by omega)) ?_;simp [s1, s3, s4, ib, tb, a1];refine oC' (zmc b) ?_;simp [s1, s3, s4, ib, tb];have cb : b.cells = [.int .i64 b.kind, .int .i64 b.n, .str b.s, .lst false 4 (b.l.map Ex.av)] := by
     cases b;exact Ex.cells_mk _ _ _ _
    have w3 : decide (lev b.kind < 3) = (decide (lev b.kind < 2) || decide (b.kind = 6)) := by
     unfold lev;by_cases q4 : b.kind = 4
     ·simp [q4]
     by_cases q5 : b.kind = 5
     ·simp [q5]
     by_cases q6 : b.kind = 6
     ·simp [q6]
     simp [q4, q5, q6]
    by_cases hb2 : lev b.kind < 2
    ·have w4 : decide (lev b.kind < 3) = true := by rw [w3]; simp [hb2]
     rw [w4] at a2;simp [hb2];refine oC' (zEb b.pr true (by omega)) ?_;simp [a1, a2];refine AWp.ret (zea rfl ⟨_, _, View.refl _ _, ?_⟩);simpa [Ex.pr, Ex.prs, prK, sm, w4] using hK
    have w4 : decide (lev b.kind < 3) = decide (b.kind = 6) := by rw [w3]; simp [hb2]
    rw [w4] at a2;simp [hb2, s1, ib, cb];refine oC' (zEb b.pr (decide (b.kind = 6)) (by omega)) ?_;simp [a1, a2];refine AWp.ret (zea rfl ⟨_, _, View.refl _ _, ?_⟩);simpa [Ex.pr, Ex.prs, prK, sm, w4] using hK
   ·have f1 : txt [109, 105, 110, 40] = ⟨#[109, 105, 110, 40]⟩ := rfl;have f2 : txt [44, 32] = ⟨#[44, 32]⟩ := rfl;have f3 : txt [41] = ⟨#[41]⟩ := rfl;have a1 := aT [109, 105, 110, 40] a.pr (by simp; omega);have a2 := aT ([109, 105, 110, 40] ++ a.pr) [44, 32] (by simp; omega);have a3 := aT ([109, 105, 110, 40] ++ a.pr ++ [44, 32]) b.pr (by simp; omega);have a4 := aT ([109, 105, 110, 40] ++ a.pr ++ [44, 32] ++ b.pr) [41] (by simp; omega);rw [f1] at a1;rw [f2] at a2;rw [f3] at a4;simp only [List.cons_append, List.nil_append, List.append_assoc] at a1 a2 a3 a4;refine rA ?_;try simp [s1]
    (repeat refine qA ?_);refine bA ?_;refine rA ?_;try simp
    refine fA ?_;refine rA ?_;simp;refine fA ?_;refine rA ?_;simp;refine fA ?_;refine rA ?_;simp;refine tA ?_;refine rA ?_;simp [s3, s4, a1, a2, a3, a4];refine AWp.ret (zea rfl ⟨_, _, View.refl _ _, ?_⟩);simpa [Ex.pr, Ex.prs, prK, sm] using hK
   have f1 : txt [109, 97, 120, 40] = ⟨#[109, 97, 120, 40]⟩ := rfl;have f2 : txt [44, 32] = ⟨#[44, 32]⟩ := rfl;have f3 : txt [41] = ⟨#[41]⟩ := rfl;have a1 := aT [109, 97, 120, 40] a.pr (by simp; omega);have a2 := aT ([109, 97, 120, 40] ++ a.pr) [44, 32] (by simp; omega);have a3 := aT ([109, 97, 120, 40] ++ a.pr ++ [44, 32]) b.pr (by simp; omega);have a4 := aT ([109, 97, 120, 40] ++ a.pr ++ [44, 32] ++ b.pr) [41] (by simp; omega);rw [f1] at a1;rw [f2] at a2;rw [f3] at a4;simp only [List.cons_append, List.nil_append, List.append_assoc] at a1 a2 a3 a4;refine rA ?_;try simp [s1]
   (repeat refine qA ?_);refine bA ?_;refine rA ?_;try simp
   refine fA ?_;refine rA ?_;simp;refine fA ?_;refine rA ?_;simp;refine fA ?_;refine rA ?_;simp;refine fA ?_;refine kA ?_;try simp
   refine rA ?_;simp [s3, s4, a1, a2, a3, a4];refine AWp.ret (zea rfl ⟨_, _, View.refl _ _, ?_⟩);simpa [Ex.pr, Ex.prs, prK, sm] using hK
end Go.T
namespace Go.Proofs
open Go.Shelf
def Tryz.laysWS_ren : Ren := ⟨fun | 166 => 33 | 240 => 93 | 276 => 144 | n => n, fun | 0 => 0 | 3 => 3 | 4 => 4 | 9 => 9 | 20 => 20 | 37 => 22 | 70 => 53 | 72 => 55 | 75 => 59 | 164 => 151 | 5 => 5 | 80 => 64 | n => n, fun n => n⟩
theorem Tryz.laysWS : Lays.n166 Tryz.prog Tryz.laysWS_ren where -- 33
 mixed := by kernel_rfl
 f166 := Tryz.func33.trans (congrArg some (by kernel_rfl))
 f240 := Tryz.func93.trans (congrArg some (by kernel_rfl))
 f276 := Tryz.func144.trans (congrArg some (by kernel_rfl))
 t0 := Tryz.underlying0
 a0 := Tryz.isAgg0
 z0 := Tryz.sizeOf0
 v0 := Tryz.zeroValue0
 t3 := Tryz.underlying3
 a3 := Tryz.isAgg3
 z3 := Tryz.sizeOf3
 v3 := Tryz.zeroValue3
 t4 := Tryz.underlying4
 a4 := Tryz.isAgg4
 z4 := Tryz.sizeOf4
 v4 := Tryz.zeroValue4
 t9 := Tryz.underlying9
 a9 := Tryz.isAgg9
 z9 := Tryz.sizeOf9
 v9 := Tryz.zeroValue9
 t20 := Tryz.underlying20
 a20 := Tryz.isAgg20
 z20 := Tryz.sizeOf20
 v20 := Tryz.zeroValue20
 t37 := Tryz.underlying22
 a37 := Tryz.isAgg22
 z37 := Tryz.sizeOf22
 v37 := Tryz.zeroValue22
 t70 := Tryz.underlying53
 a70 := Tryz.isAgg53
 z70 := Tryz.sizeOf53
 v70 := Tryz.zeroValue53
 t72 := Tryz.underlying55
 a72 := Tryz.isAgg55
 z72 := Tryz.sizeOf55
 v72 := Tryz.zeroValue55
 t75 := Tryz.underlying59
 a75 := Tryz.isAgg59
 z75 := Tryz.sizeOf59
 v75 := Tryz.zeroValue59
 t164 := Tryz.underlying151
 a164 := Tryz.isAgg151
 z164 := Tryz.sizeOf151
 v164 := Tryz.zeroValue151
shelf_lay Lays.n169 Nm 169 at Tryz as Tryz.laysBS -- 36
theorem Tryz.extraWS : Builder.Extra Tryz.prog Tryz.laysWS_ren where -- 33
 sizeBuilder := by kernel_rfl
 liesBuilder := by kernel_rfl
 t5 := Tryz.underlying5
 a5 := Tryz.isAgg5
 z5 := Tryz.sizeOf5
 v5 := Tryz.zeroValue5
 infoByte := by kernel_rfl
 cellsByte := by kernel_rfl
 sizeByte := by kernel_rfl
 neB5 := by decide
theorem Tryz.extraBS : Builder.Extra Tryz.prog Tryz.laysBS_ren where -- 36
 sizeBuilder := by kernel_rfl
 liesBuilder := by kernel_rfl
 t5 := Tryz.underlying5
 a5 := Tryz.isAgg5
 z5 := Tryz.sizeOf5
 v5 := Tryz.zeroValue5
 infoByte := by kernel_rfl
 cellsByte := by kernel_rfl
 sizeByte := by kernel_rfl
 neB5 := by decide
end Go.Proofs
namespace Go.T
open Go Go.Proofs
set_option maxRecDepth 10000
set_option maxHeartbeats 1000000
open Go
theorem wga (l : List UInt8) : (txt l).data.toList = l := yDa l
theorem yca {gb : Nat} {F : Nat -> Prop} {l : List UInt8} {m : Mem} (h : Bld 55 5 F gb l m) (s : ByteArray) (hz : l.length + s.size <= 140737488355328) {K : AV -> Mem -> Prop}
  (hK : ∀ m' F', Bld 55 5 F' gb (l ++ s.data.toList) m' -> wsb F F' m m' -> K (.tup [.int .i64 s.size, .undef]) m') : zka Tryz.prog 33 [.ptr gb 0, .str s] m K :=
 xRb Tryz.laysWS Tryz.extraWS ⟨Tryz.f33, Tryz.func33, by kernel_rfl, by kernel_rfl⟩ h s hz hK
theorem xjd {gb : Nat} {F : Nat -> Prop} {l : List UInt8} {m : Mem} (h : Bld 55 5 F gb l m) {K : AV -> Mem -> Prop}
  (hK : ∀ m', (∀ x b, ¬ F x -> m x = some b -> m' x = some b) -> K (.str ⟨l.toArray⟩) m') : zka Tryz.prog 36 [.ptr gb 0] m K :=
 yzd Tryz.laysBS Tryz.extraBS ⟨Tryz.f36, Tryz.func36, by kernel_rfl, by kernel_rfl⟩ h hK
theorem znc {m : Mem} {g : Nat} (hg : m g = none) (b : Blk) : (m.set g b).del g = m := by
 funext q;unfold Mem.del;by_cases h : q = g
 ·rw [if_pos h, h, hg]
 rw [if_neg h, Mem.so h]
theorem ztd : ∀ (N : Nat) (l : List Sm) (d : Nat) (pad : List UInt8), Sm.sizes l <= N -> N <= 1000 -> Sm.rights l d = true -> pad.length <= 2 * d -> d <= 3 -> ∀ {gb : Nat} {F : Nat -> Prop} {L : List UInt8} {m : Mem} {Tt : TypeId}, Bld 55 5 F gb L m -> m TB = some (yba Tt) -> ¬ F TB -> L.length <= 2000000 * (d + 1) ->
  ∀ {K : AV -> Mem -> Prop}, (∀ m' F', Bld 55 5 F' gb (L ++ Sm.prs l pad) m' -> wsb F F' m m' -> K (.tup []) m') -> zka Tryz.prog 35 [.ptr gb 0, .lst false 19 (l.map Sm.av), .str (txt pad)] m K := by
 intro N
 induction N with
 | zero =>
  intro l d pad hN _ hR hp hd gb F L m Tt hB0 hm0 hF0 hL0 K hK;have hl : l = [] := by
   cases l with
   | nil => rfl
   | cons x l =>
    obtain ⟨k, s, a, e, lo, hi, b⟩ := x;rw [Sm.sizes, Sm.size] at hN;omega
  subst hl;simp only [Sm.prs, List.append_nil] at hK;refine wO Tryz.func35 ?_;refine rA ?_;simp;refine AWp.lastQ (fun st => st.mem = m) ?_ ?_
  ·refine AWp.block (AWp.ro (fun q st => st.sl 9 = .int .i64 0 /\ st.sl 10 = .int .i64 0 /\ st.mem = m) 0 ⟨by simp, by simp, by simp⟩ ?_);rintro RR q st hRR ⟨s9, s10, sm⟩;refine rA ?_;simp [s9, s10];refine fA ?_;refine eA ?_;simpa using sm
  intro st sm;exact ⟨[], .tup [], m, by simp [Tryz.f35, zQa], by rw [sm]; exact View.refl _ _, hK m F hB0 (wsb.refl F m)⟩
 | succ N ih =>
  intro l d pad hN hM hR hp hd gb F L m Tt hB0 hm0 hF0 hL0 K hK;have hmT' : (∀ {F' : Nat -> Prop} {m' : Mem}, wsb F F' m m' -> m' TB = some (yba Tt) /\ ¬ F' TB) := fun hO => hO _ _ hF0 hm0;have hmT' := And.intro trivial @hmT';have hz := (xeb (N + 1)).2 l d pad hN hR hp hd;have hln : l.length <= Sm.sizes l := by
   clear hN hR hz hK
   induction l with
   | nil => simp
   | cons x l ih2 =>
    have : 1 <= x.size := by obtain ⟨k, s, a, e, lo, hi, b⟩ := x; rw [Sm.size]; omega
    rw [Sm.sizes, List.length_cons];omega
  refine wO Tryz.func35 ?_;refine rA ?_;simp;refine AWp.lastQ (fun st => ∃ F', Bld 55 5 F' gb (L ++ Sm.prs l pad) st.mem /\ wsb F F' m st.mem) ?_ ?_;rotate_left
  ·rintro st ⟨F', hB, hO⟩;exact ⟨[], .tup [], _, by simp [Tryz.f35, zQa], View.refl _ _, hK _ F' hB hO⟩
  refine AWp.block (AWp.ro (fun q st => ∃ (i : Nat) (F' : Nat -> Prop), q = l.length - i /\ i <= l.length /\ st.sl 0 = .ptr gb 0 /\ st.sl 2 = .str (txt pad) /\ st.sl 8 = .lst false 19 (l.map Sm.av) /\ st.sl 9 = .int .i64 l.length /\ st.sl 10 = .int .i64 i /\ Bld 55 5 F' gb (L ++ Sm.prs (l.take i) pad) st.mem /\ wsb F F' m st.mem) l.length ⟨0, F, by simp, by simp, by simp, by simp, by simp, by simp, by simp, by simpa [Sm.prs] using hB0, by simpa using wsb.refl F m⟩ ?_);rintro RR q st hRR ⟨i, F1, rfl, hi, s0, s2, s8, s9, s10, hB, hO⟩;by_cases hbl : i < l.length
  ·have hx : ∀ m, yga Tryz.prog m 30 (.lst false 19 (l.map Sm.av)) (.int .i64 i) = some (.ref l[i].cells) := fun m => idx (y := l[i].av) es_30 (by simp [gE hbl]);have hw := iA i (by omega);have hnx := wtc hbl pad;have hA := xCb l i pad;have hzi : (Sm.prs (l.take i) pad).length + (l[i].pr pad).length <= 1100 * (N + 1) := by
    have h1 := xCb l (i + 1) pad;rw [hnx, List.length_append] at h1;have := Nat.mul_le_mul_left 1100 hN;omega
   have hrx := wza hR _ (List.getElem_mem hbl);have hmem := List.getElem_mem hbl;generalize Sm.prs (l.take i) pad = A at *;refine rA ?_;simp [s9, s10, hbl];refine tA ?_;refine kA ?_;try simp
   obtain ⟨M, hM2⟩ : ∃ M : St -> Prop, M = (fun st => ∃ F', st.sl 0 = .ptr gb 0 /\ st.sl 2 = .str (txt pad) /\ st.sl 8 = .lst false 19 (l.map Sm.av) /\ st.sl 9 = .int .i64 l.length /\ st.sl 10 = .int .i64 i /\ Bld 55 5 F' gb (L ++ (A ++ l[i].pr pad)) st.mem /\ wsb F F' m st.mem) := ⟨_, rfl⟩;(repeat refine qA ?_);refine AWp.cA M ?_ ?_
   ·(repeat refine qA ?_);refine bA ?_;obtain ⟨m0, hm0'⟩ : ∃ m0, m0 = st.mem := ⟨_, rfl⟩;rw [<- hm0'] at hB hO;have hmT := hmT'.2 hO;refine rA ?_;simp [s8, s10, hx];intro g hgn;have hcl : l[i].cells.length = 19 := by simp
    have hcd : List.drop 19 l[i].cells = [] := List.drop_eq_nil_of_le (by omega);have hct : List.take 19 l[i].cells = l[i].cells := List.take_of_length_le (by omega);refine AWp.se (Sees.view (t := 7) (View.fB (g := g) (cs := l[i].cells) (by simp [hcd, hct]))) ?_;refine AWp.gen (fun st => st.sl 0 = .ptr gb 0 /\ st.sl 2 = .str (txt pad) /\ st.sl 8 = .lst false 19 (l.map Sm.av) /\ st.sl 9 = .int .i64 l.length /\ st.sl 10 = .int .i64 i /\ st.sl 7 = .ref l[i].cells /\ st.mem = m0) ⟨by simp [s0], by simp [s2], by simp [s8], by simp [s9], by simp [s10], by simp, by simp [znc hgn, hm0']⟩ ?_;clear s0 s2 s8 s9 s10 hcl hcd hct hx hm0' hgn;generalize l[i] = z at *;rintro st ⟨s0, s2, s8, s9, s10, s7, sm⟩;refine rA ?_;simp [s0, s2];refine wA ?_;try simp [sm]
    refine yca hB (txt pad) (by have e := yOa pad; simp only [List.length_append] at *; omega) fun m1 F2' hB hO1 => ?_;rw [wga] at hB;have hO := hO.trans hO1;have hmT := hmT'.2 hO;try simp
    refine AWp.gen (fun st => st.sl 0 = .ptr gb 0 /\ st.sl 2 = .str (txt pad) /\ st.sl 8 = .lst false 19 (l.map Sm.av) /\ st.sl 9 = .int .i64 l.length /\ st.sl 10 = .int .i64 i /\ st.sl 7 = .ref z.cells /\ st.mem = m1) ⟨by simp [s0], by simp [s2], by simp [s8], by simp [s9], by simp [s10], by simp [s7], by simp⟩ ?_;clear s0 s2 s8 s9 s10 s7 sm;rintro st ⟨s0, s2, s8, s9, s10, s7, sm⟩;have hM := hM2;cases wqb hrx with
    | set s e hs he =>
     obtain ⟨w, rfl⟩ : ∃ w, s = txt w := ⟨s.data.toList, (y9a s).symm⟩;have hwl : (txt w).data.toList = w := yDa w;have hsl := z8a hs;rw [hwl] at hsl;have ze := yMa he;obtain ⟨ge, ne, _⟩ := wra he;simp only [xda, xea, yea, zOa, Sm.cells_mk, zE, Ex.cells_mk, List.map_nil, List.cons_append, List.nil_append] at s7;obtain ⟨x1, dx1⟩ : ∃ x, x = w ++ [32, 61, 32] := ⟨_, rfl⟩;have lx1 : x1.length = w.length + [32, 61, 32].length := by rw [dx1]; first | (simp; done) | (simp; omega)
     have kx1 : List.length ([32, 61, 32] : List UInt8) = 3 := rfl;have ax1 : yia .add (.str (txt w)) (.str (⟨#[32, 61, 32]⟩)) = some (.str (txt x1)) := by rw [dx1]; exact aT w [32, 61, 32] (by omega)
     obtain ⟨x2, dx2⟩ : ∃ x, x = x1 ++ e.pr := ⟨_, rfl⟩;have lx2 : x2.length = x1.length + e.pr.length := by rw [dx2]; first | (simp; done) | (simp; omega)
     have ax2 : yia .add (.str (txt x1)) (.str (txt e.pr)) = some (.str (txt x2)) := by rw [dx2]; exact aT x1 e.pr (by omega)
     obtain ⟨x3, dx3⟩ : ∃ x, x = x2 ++ [59, 10] := ⟨_, rfl⟩;have lx3 : x3.length = x2.length + [59, 10].length := by rw [dx3]; first | (simp; done) | (simp; omega)
     have kx3 : List.length ([59, 10] : List UInt8) = 2 := rfl;have ax3 : yia .add (.str (txt x2)) (.str (⟨#[59, 10]⟩)) = some (.str (txt x3)) := by rw [dx3]; exact aT x2 [59, 10] (by omega)
     refine rA ?_;simp [s7];(repeat refine qA ?_);refine bA ?_;refine rA ?_;simp;refine tA ?_;(repeat refine qA ?_);refine AWp.rG (fun _ => false) (fun i => i == 2 || i == 5) [0, 1, 2, 3, 4, 5, 6, 7, 8, 9] [0, 1, 2, 3, 4, 5, 6, 7, 8, 9] (by kernel_rfl) ?_;simp [s0, s2, s7, sm, ax1, ax2, ax3];refine wA ?_;try simp [sm]
     refine xVa e.nodes e 1 (Nat.le_refl _) (by omega) ge hmT.1 ?_;simp [s0, s2, s7, sm, ax1, ax2, ax3];refine wA ?_;try simp [sm]
     refine yca hB (txt x3) (by have e := yOa x3; simp only [List.length_append] at *; omega) fun m2 F2 hB hO2 => ?_;rw [wga] at hB;have hO := hO.trans hO2;have hmT := hmT'.2 hO;try simp
     subst hM2;refine ⟨F2, by simp [s0], by simp [s2], by simp [s8], by simp [s9], by simp [s10], ?_, by simpa using hO⟩;rw [dx3, dx2, dx1] at hB;simpa [xda, hwl, Sm.pr, zxd, toT, prT] using hB
    | put s a e hs ha he =>
     obtain ⟨w, rfl⟩ : ∃ w, s = txt w := ⟨s.data.toList, (y9a s).symm⟩;have hwl : (txt w).data.toList = w := yDa w;have hsl := z8a hs;rw [hwl] at hsl;have za := yMa ha;obtain ⟨ga, na, _⟩ := wra ha;have ze := yMa he;obtain ⟨ge, ne, _⟩ := wra he;simp only [xda, xea, yea, zOa, Sm.cells_mk, zE, Ex.cells_mk, List.map_nil, List.cons_append, List.nil_append] at s7;obtain ⟨x1, dx1⟩ : ∃ x, x = w ++ [91] := ⟨_, rfl⟩;have lx1 : x1.length = w.length + [91].length := by rw [dx1]; first | (simp; done) | (simp; omega)
     have kx1 : List.length ([91] : List UInt8) = 1 := rfl;have ax1 : yia .add (.str (txt w)) (.str (⟨#[91]⟩)) = some (.str (txt x1)) := by rw [dx1]; exact aT w [91] (by omega)
     obtain ⟨x2, dx2⟩ : ∃ x, x = x1 ++ a.pr := ⟨_, rfl⟩;have lx2 : x2.length = x1.length + a.pr.length := by rw [dx2]; first | (simp; done) | (simp; omega)
     have ax2 : yia .add (.str (txt x1)) (.str (txt a.pr)) = some (.str (txt x2)) := by rw [dx2]; exact aT x1 a.pr (by omega)
     obtain ⟨x3, dx3⟩ : ∃ x, x = x2 ++ [93, 32, 61, 32] := ⟨_, rfl⟩;have lx3 : x3.length = x2.length + [93, 32, 61, 32].length := by rw [dx3]; first | (simp; done) | (simp; omega)
     have kx3 : List.length ([93, 32, 61, 32] : List UInt8) = 4 := rfl;have ax3 : yia .add (.str (txt x2)) (.str (⟨#[93, 32, 61, 32]⟩)) = some (.str (txt x3)) := by rw [dx3]; exact aT x2 [93, 32, 61, 32] (by omega)
     obtain ⟨x4, dx4⟩ : ∃ x, x = x3 ++ e.pr := ⟨_, rfl⟩;have lx4 : x4.length = x3.length + e.pr.length := by rw [dx4]; first | (simp; done) | (simp; omega)
     have ax4 : yia .add (.str (txt x3)) (.str (txt e.pr)) = some (.str (txt x4)) := by rw [dx4]; exact aT x3 e.pr (by omega)
     obtain ⟨x5, dx5⟩ : ∃ x, x = x4 ++ [59, 10] := ⟨_, rfl⟩;have lx5 : x5.length = x4.length + [59, 10].length := by rw [dx5]; first | (simp; done) | (simp; omega)
     have kx5 : List.length ([59, 10] : List UInt8) = 2 := rfl;have ax5 : yia .add (.str (txt x4)) (.str (⟨#[59, 10]⟩)) = some (.str (txt x5)) := by rw [dx5]; exact aT x4 [59, 10] (by omega)
     refine rA ?_;simp [s7];(repeat refine qA ?_);refine bA ?_;refine rA ?_;simp;refine fA ?_;refine rA ?_;simp;refine tA ?_;(repeat refine qA ?_);refine AWp.rG (fun _ => false) (fun i => i == 2 || i == 5 || i == 10) [0, 1, 2, 3, 4, 5, 9, 10, 6, 7, 8, 11, 12, 13, 14] [0, 1, 2, 3, 4, 5, 6, 7, 8, 9, 10, 11, 12, 13, 14] (by kernel_rfl) ?_;simp [s0, s2, s7, sm, ax1, ax2, ax3, ax4, ax5];refine wA ?_;try simp [sm]
     refine xVa a.nodes a 1 (Nat.le_refl _) (by omega) ga hmT.1 ?_;simp [s0, s2, s7, sm, ax1, ax2, ax3, ax4, ax5];refine wA ?_;try simp [sm]
     refine xVa e.nodes e 1 (Nat.le_refl _) (by omega) ge hmT.1 ?_;simp [s0, s2, s7, sm, ax1, ax2, ax3, ax4, ax5];refine wA ?_;try simp [sm]
     refine yca hB (txt x5) (by have e := yOa x5; simp only [List.length_append] at *; omega) fun m2 F2 hB hO2 => ?_;rw [wga] at hB;have hO := hO.trans hO2;have hmT := hmT'.2 hO;try simp
     subst hM2;refine ⟨F2, by simp [s0], by simp [s2], by simp [s8], by simp [s9], by simp [s10], ?_, by simpa using hO⟩;rw [dx5, dx4, dx3, dx2, dx1] at hB;simpa [xea, hwl, Sm.pr, zxd, toT, prT] using hB
    | for_ s lo hi b hs hlo hhi hd3 hb3 =>
     obtain ⟨w, rfl⟩ : ∃ w, s = txt w := ⟨s.data.toList, (y9a s).symm⟩;have hwl : (txt w).data.toList = w := yDa w;have hsl := z8a hs;rw [hwl] at hsl;have zlo := yMa hlo;obtain ⟨glo, nlo, _⟩ := wra hlo;have zhi := yMa hhi;obtain ⟨ghi, nhi, _⟩ := wra hhi;simp only [xda, xea, yea, zOa, Sm.cells_mk, zE, Ex.cells_mk, List.map_nil, List.cons_append, List.nil_append] at s7;have hbz : Sm.sizes b <= N := by
      have := ywb l _ hmem;simp only [yea, Sm.size] at this;omega
     have hpl : (pad ++ [32, 32]).length <= 2 * (d + 1) := by simp; omega
     have zb := (xeb N).2 b (d + 1) (pad ++ [32, 32]) hbz hb3 hpl (by omega);have apd : yia .add (.str (txt pad)) (.str ⟨#[32, 32]⟩) = some (.str (txt (pad ++ [32, 32]))) := aT pad [32, 32] (by simp; omega);have ape : yia .add (.str (txt pad)) (.str ⟨#[125, 10]⟩) = some (.str (txt (pad ++ [125, 10]))) := aT pad [125, 10] (by simp; omega);obtain ⟨pd, hpd⟩ : ∃ x, x = pad ++ [32, 32] := ⟨_, rfl⟩;obtain ⟨pe, hpe⟩ : ∃ x, x = pad ++ [125, 10] := ⟨_, rfl⟩;have lpe : pe.length = pad.length + 2 := by rw [hpe]; simp
     rw [<- hpd] at apd hpl zb;rw [<- hpe] at ape;obtain ⟨x1, dx1⟩ : ∃ x, x = [102, 111, 114, 32] ++ w := ⟨_, rfl⟩;have lx1 : x1.length = [102, 111, 114, 32].length + w.length := by rw [dx1]; first | (simp; done) | (simp; omega)
     have kkx1 : List.length ([102, 111, 114, 32] : List UInt8) = 4 := rfl;have ax1 : yia .add (.str (⟨#[102, 111, 114, 32]⟩)) (.str (txt w)) = some (.str (txt x1)) := by rw [dx1]; exact aT [102, 111, 114, 32] w (by omega)
     obtain ⟨x2, dx2⟩ : ∃ x, x = x1 ++ [32, 61, 32] := ⟨_, rfl⟩;have lx2 : x2.length = x1.length + [32, 61, 32].length := by rw [dx2]; first | (simp; done) | (simp; omega)
     have kx2 : List.length ([32, 61, 32] : List UInt8) = 3 := rfl;have ax2 : yia .add (.str (txt x1)) (.str (⟨#[32, 61, 32]⟩)) = some (.str (txt x2)) := by rw [dx2]; exact aT x1 [32, 61, 32] (by omega)
     obtain ⟨x3, dx3⟩ : ∃ x, x = x2 ++ lo.pr := ⟨_, rfl⟩;have lx3 : x3.length = x2.length + lo.pr.length := by rw [dx3]; first | (simp; done) | (simp; omega)
     have ax3 : yia .add (.str (txt x2)) (.str (txt lo.pr)) = some (.str (txt x3)) := by rw [dx3]; exact aT x2 lo.pr (by omega)
     obtain ⟨x4, dx4⟩ : ∃ x, x = x3 ++ [32, 116, 111, 32] := ⟨_, rfl⟩;have lx4 : x4.length = x3.length + [32, 116, 111, 32].length := by rw [dx4]; first | (simp; done) | (simp; omega)
     have kx4 : List.length ([32, 116, 111, 32] : List UInt8) = 4 := rfl;have ax4 : yia .add (.str (txt x3)) (.str (⟨#[32, 116, 111, 32]⟩)) = some (.str (txt x4)) := by rw [dx4]; exact aT x3 [32, 116, 111, 32] (by omega)
     obtain ⟨x5, dx5⟩ : ∃ x, x = x4 ++ hi.pr := ⟨_, rfl⟩;have lx5 : x5.length = x4.length + hi.pr.length := by rw [dx5]; first | (simp; done) | (simp; omega)
     have ax5 : yia .add (.str (txt x4)) (.str (txt hi.pr)) = some (.str (txt x5)) := by rw [dx5]; exact aT x4 hi.pr (by omega)
     obtain ⟨x6, dx6⟩ : ∃ x, x = x5 ++ [32, 123, 10] := ⟨_, rfl⟩;have lx6 : x6.length = x5.length + [32, 123, 10].length := by rw [dx6]; first | (simp; done) | (simp; omega)
     have kx6 : List.length ([32, 123, 10] : List UInt8) = 3 := rfl;have ax6 : yia .add (.str (txt x5)) (.str (⟨#[32, 123, 10]⟩)) = some (.str (txt x6)) := by rw [dx6]; exact aT x5 [32, 123, 10] (by omega)
     refine rA ?_;simp [s7];(repeat refine qA ?_);refine bA ?_;refine rA ?_;simp;refine fA ?_;refine rA ?_;simp;refine fA ?_;refine rA ?_;simp;refine fA ?_;(repeat refine qA ?_);refine AWp.rG (fun _ => false) (fun i => i == 2 || i == 6 || i == 11) [0, 1, 2, 3, 4, 5, 6, 10, 11, 7, 8, 9, 12, 13, 14, 15] [0, 1, 2, 3, 4, 5, 6, 7, 8, 9, 10, 11, 12, 13, 14, 15] (by kernel_rfl) ?_;simp [s0, s2, s7, sm, ax1, ax2, ax3, ax4, ax5, ax6];refine wA ?_;try simp [sm]
     refine xVa lo.nodes lo 1 (Nat.le_refl _) (by omega) glo hmT.1 ?_;simp [s0, s2, s7, sm, ax1, ax2, ax3, ax4, ax5, ax6];refine wA ?_;try simp [sm]
     refine xVa hi.nodes hi 1 (Nat.le_refl _) (by omega) ghi hmT.1 ?_;simp [s0, s2, s7, sm, ax1, ax2, ax3, ax4, ax5, ax6];refine wA ?_;try simp [sm]
     refine yca hB (txt x6) (by have e := yOa x6; simp only [List.length_append] at *; omega) fun m2 F2 hB hO2 => ?_;rw [wga] at hB;have hO := hO.trans hO2;have hmT := hmT'.2 hO;try simp
     refine AWp.gen (fun st => st.sl 0 = .ptr gb 0 /\ st.sl 2 = .str (txt pad) /\ st.sl 8 = .lst false 19 (l.map Sm.av) /\ st.sl 9 = .int .i64 l.length /\ st.sl 10 = .int .i64 i /\ st.sl 7 = .ref (.int .i64 3 :: .str (txt w) :: .int .i64 0 :: .int .i64 0 :: .str ⟨#[]⟩ :: .lst false 4 [] :: .int .i64 0 :: .int .i64 0 :: .str ⟨#[]⟩ :: .lst false 4 [] :: (lo.cells ++ (hi.cells ++ [.lst false 19 (b.map Sm.av)]))) /\ st.mem = m2) ⟨by simp [s0], by simp [s2], by simp [s8], by simp [s9], by simp [s10], by simp [s7], by simp⟩ ?_;clear s0 s2 s7 s8 s9 s10 sm;rintro st ⟨s0, s2, s8, s9, s10, s7, sm⟩;refine rA ?_;simp [s0, s2, s7, sm, apd];refine wA ?_;try simp [sm]
     have lB := congrArg List.length dx6;refine ih b (d + 1) pd hbz (by omega) hb3 hpl (by omega) hB hmT.1 hmT.2 (by simp only [List.length_append] at *; omega) fun m3 F3 hB hO3 => ?_;have hO := hO.trans hO3;have hmT := hmT'.2 hO;try simp
     refine AWp.gen (fun st => st.sl 0 = .ptr gb 0 /\ st.sl 2 = .str (txt pad) /\ st.sl 8 = .lst false 19 (l.map Sm.av) /\ st.sl 9 = .int .i64 l.length /\ st.sl 10 = .int .i64 i /\ st.mem = m3) ⟨by simp [s0], by simp [s2], by simp [s8], by simp [s9], by simp [s10], by simp⟩ ?_;clear s0 s2 s7 s8 s9 s10 sm;rintro st ⟨s0, s2, s8, s9, s10, sm⟩;refine rA ?_;simp [s0, s2, sm, ape];refine wA ?_;try simp [sm]
     refine yca hB (txt pe) (by have e := yOa pe; simp only [List.length_append] at *; omega) fun m4 F4 hB hO4 => ?_;rw [wga] at hB;have hO := hO.trans hO4;have hmT := hmT'.2 hO;try simp
     subst hM2;refine ⟨F4, by simp [s0], by simp [s2], by simp [s8], by simp [s9], by simp [s10], ?_, by simpa using hO⟩;rw [hpe, dx6, dx5, dx4, dx3, dx2, dx1, hpd] at hB;simpa [yea, hwl, Sm.pr, zxd, toT, prT] using hB
    | print e he =>
     have ze := yMa he;obtain ⟨ge, ne, _⟩ := wra he;simp only [xda, xea, yea, zOa, Sm.cells_mk, zE, Ex.cells_mk, List.map_nil, List.cons_append, List.nil_append] at s7;obtain ⟨x1, dx1⟩ : ∃ x, x = [112, 114, 105, 110, 116, 32] ++ e.pr := ⟨_, rfl⟩;have lx1 : x1.length = [112, 114, 105, 110, 116, 32].length + e.pr.length := by rw [dx1]; first | (simp; done) | (simp; omega)
     have kkx1 : List.length ([112, 114, 105, 110, 116, 32] : List UInt8) = 6 := rfl;have ax1 : yia .add (.str (⟨#[112, 114, 105, 110, 116, 32]⟩)) (.str (txt e.pr)) = some (.str (txt x1)) := by rw [dx1]; exact aT [112, 114, 105, 110, 116, 32] e.pr (by omega)
     obtain ⟨x2, dx2⟩ : ∃ x, x = x1 ++ [59, 10] := ⟨_, rfl⟩;have lx2 : x2.length = x1.length + [59, 10].length := by rw [dx2]; first | (simp; done) | (simp; omega)
     have kx2 : List.length ([59, 10] : List UInt8) = 2 := rfl;have ax2 : yia .add (.str (txt x1)) (.str (⟨#[59, 10]⟩)) = some (.str (txt x2)) := by rw [dx2]; exact aT x1 [59, 10] (by omega)
     refine rA ?_;simp [s7];(repeat refine qA ?_);refine bA ?_;refine rA ?_;simp;refine fA ?_;refine rA ?_;simp;refine fA ?_;refine rA ?_;simp;refine tA ?_;refine rA ?_;simp [s0, s2, s7, sm, ax1, ax2];refine wA ?_;try simp [sm]
     refine xVa e.nodes e 1 (Nat.le_refl _) (by omega) ge hmT.1 ?_;simp [s0, s2, s7, sm, ax1, ax2];refine wA ?_;try simp [sm]
     refine yca hB (txt x2) (by have e := yOa x2; simp only [List.length_append] at *; omega) fun m2 F2 hB hO2 => ?_;rw [wga] at hB;have hO := hO.trans hO2;have hmT := hmT'.2 hO;try simp
     subst hM2;refine ⟨F2, by simp [s0], by simp [s2], by simp [s8], by simp [s9], by simp [s10], ?_, by simpa using hO⟩;rw [dx2, dx1] at hB;simpa [zOa, Sm.pr, zxd, toT, prT] using hB
   clear s0 s2 s8 s9 s10 hx hB hO;intro st hst;subst hM2;obtain ⟨F2, s0, s2, s8, s9, s10, hB, hO⟩ := hst;refine rA ?_;simp [s10, hw];exact hRR _ (l.length - (i + 1)) (by omega) ⟨i + 1, F2, rfl, by omega, by simp [s0], by simp [s2], by simp [s8], by simp [s9], by simp, by rw [hnx]; simpa using hB, by simpa using hO⟩
  have : i = l.length := by omega
  subst this;refine rA ?_;simp [s9, s10];refine fA ?_;refine eA ?_;rw [List.take_length] at hB;exact ⟨F1, by simpa using hB, by simpa using hO⟩
end Go.T
namespace Go.T
open Go Go.Proofs
set_option maxRecDepth 10000
set_option maxHeartbeats 1000000
open Go
theorem wpd {P : Program} {T : TypeId} {v : Value} (h : (P.info? T).bind (·.zero) = some v) : ∀ w, (zeroValue T).run P w = .ok v w := by
 obtain ⟨i, hi, hz⟩ := Option.bind_eq_some_iff.1 h;intro w;simp [zeroValue, xIa hi, hz]
theorem wua (p : Pg) (ht : p.tot <= 1048576) {Tt : TypeId} {m : Mem} (hm : m TB = some (yba Tt)) {K : AV -> Mem -> Prop} (hK : ∀ m', Ext m m' -> K (.str p.txt) m') : zka Tryz.prog 10 [p.av] m K := by
 have ho := x8a p ht;refine wO Tryz.func10 ?_;have hc : p.cells = [.lst false 2 (p.arrs.map Ar.av), .lst false 19 (p.body.map Sm.av)] := rfl;unfold Pg.av at ho ⊢;rw [hc] at ho ⊢;refine rA ?_;simp;intro g1 hg1;refine AWp.se (Sees.view (t := 1) (View.fB (g := g1) (cs := [.lst false 2 (p.arrs.map Ar.av), .lst false 19 (p.body.map Sm.av)]) (by simp))) ?_;refine AWp.gen (fun st => st.sl 1 = .ref [.lst false 2 (p.arrs.map Ar.av), .lst false 19 (p.body.map Sm.av)] /\ st.mem = m) ⟨by simp, by simp [znc hg1]⟩ ?_;rintro st ⟨s1, sm⟩;refine raA ?_;simp [s1];refine oC' ho ?_;simp;cases h : p.ok with
 | false =>
  refine tA ?_;refine rA ?_;simp;refine AWp.ret (zea rfl ⟨_, _, View.refl _ _, ?_⟩);have hk := hK m (Ext.refl m);simpa [Pg.txt, h, sm] using hk
 | true =>
  refine fA ?_;refine kA ?_;try simp
  obtain ⟨hA, h4, h40, hR⟩ := zlc h;have z1 := zCb _ _ hA;have z2 := (xeb 40).2 p.body 0 [] h40 hR (by simp) (by omega);(repeat refine qA ?_);refine AWp.regionRaw (v := .agg #[.pointer none, .slice none 0 0]) (by decide) (wpd (by kernel_rfl)) ?_;intro gb hgb;simp at hgb;rw [sm] at hgb;refine AWp.gen (fun st => st.sl 1 = .ref [.lst false 2 (p.arrs.map Ar.av), .lst false 19 (p.body.map Sm.av)] /\ st.sl 3 = .ptr gb 0 /\ st.mem = m.set gb (.raw 55 [.pointer none, .slice none 0 0])) ⟨by simp [s1], by simp, by simp [sm, Value.cells]⟩ ?_;have hB0 := Bld.fresh 55 5 gb m;have hO0 := wZc hgb (.raw 55 [.pointer none, .slice none 0 0]);generalize m.set gb (.raw 55 [.pointer none, .slice none 0 0]) = m0 at *;clear s1 sm;rintro st ⟨s1, s3, sm⟩;have hmT' : ∀ {F' : Nat -> Prop} {m' : Mem}, wsb (fun k => k = gb) F' m0 m' -> m' TB = some (yba Tt) /\ ¬ F' TB := fun hO => hO _ _ (hO0 _ _ hm).2 (hO0 _ _ hm).1;refine rA ?_;simp [s1];obtain ⟨M, hM⟩ : ∃ M : St -> Prop, M = (fun st => ∃ F', st.sl 1 = .ref [.lst false 2 (p.arrs.map Ar.av), .lst false 19 (p.body.map Sm.av)] /\ st.sl 3 = .ptr gb 0 /\ Bld 55 5 F' gb (yLa p.arrs) st.mem /\ wsb (fun k => k = gb) F' m0 st.mem) := ⟨_, rfl⟩;(repeat refine qA ?_);refine AWp.cA M ?_ ?_
  ·refine AWp.block (AWp.ro (fun q st => ∃ (i : Nat) (F' : Nat -> Prop), q = p.arrs.length - i /\ i <= p.arrs.length /\ st.sl 1 = .ref [.lst false 2 (p.arrs.map Ar.av), .lst false 19 (p.body.map Sm.av)] /\ st.sl 3 = .ptr gb 0 /\ st.sl 10 = .lst false 2 (p.arrs.map Ar.av) /\ st.sl 11 = .int .i64 p.arrs.length /\ st.sl 12 = .int .i64 i /\ Bld 55 5 F' gb (yLa (p.arrs.take i)) st.mem /\ wsb (fun k => k = gb) F' m0 st.mem) p.arrs.length ⟨0, _, by simp, by simp, by simp [s1], by simp [s3], by simp, by simp, by simp, by simpa [yLa, sm] using hB0, by simpa [sm] using wsb.refl _ m0⟩ ?_);clear s1 s3 sm;rintro RR q st hRR ⟨i, F1, rfl, hi, s1, s3, s10, s11, s12, hB, hO⟩;by_cases hbl : i < p.arrs.length
   ·have hx : ∀ m, yga Tryz.prog m 29 (.lst false 2 (p.arrs.map Ar.av)) (.int .i64 i) = some (.ref [.str p.arrs[i].s, .int .i64 p.arrs[i].n]) := fun m => idx (y := p.arrs[i].av) es_29 (by simp [gE hbl]);have hw := iA i (by omega);have hnx := wJb hbl;have hA2 := xDb p.arrs i;have hrx := wuc hA _ (List.getElem_mem hbl);generalize yLa (p.arrs.take i) = A at *;refine rA ?_;simp [s11, s12, hbl];refine tA ?_;refine kA ?_;try simp
    obtain ⟨M2, hM2⟩ : ∃ M2 : St -> Prop, M2 = (fun st => ∃ F', st.sl 1 = .ref [.lst false 2 (p.arrs.map Ar.av), .lst false 19 (p.body.map Sm.av)] /\ st.sl 3 = .ptr gb 0 /\ st.sl 10 = .lst false 2 (p.arrs.map Ar.av) /\ st.sl 11 = .int .i64 p.arrs.length /\ st.sl 12 = .int .i64 i /\ Bld 55 5 F' gb (A ++ p.arrs[i].pr) st.mem /\ wsb (fun k => k = gb) F' m0 st.mem) := ⟨_, rfl⟩;(repeat refine qA ?_);refine AWp.cA M2 ?_ ?_
    ·(repeat refine qA ?_);refine bA ?_;obtain ⟨ms, hms⟩ : ∃ ms, ms = st.mem := ⟨_, rfl⟩;rw [<- hms] at hB hO;have hmT := hmT' hO;refine rA ?_;simp [s10, s12, hx];intro g hgn;refine AWp.se (Sees.view (t := 5) (View.fB (g := g) (cs := [.str p.arrs[i].s, .int .i64 p.arrs[i].n]) (by simp))) ?_;refine AWp.gen (fun st => st.sl 1 = .ref [.lst false 2 (p.arrs.map Ar.av), .lst false 19 (p.body.map Sm.av)] /\ st.sl 3 = .ptr gb 0 /\ st.sl 10 = .lst false 2 (p.arrs.map Ar.av) /\ st.sl 11 = .int .i64 p.arrs.length /\ st.sl 12 = .int .i64 i /\ st.sl 5 = .ref [.str p.arrs[i].s, .int .i64 p.arrs[i].n] /\ st.mem = ms) ⟨by simp [s1], by simp [s3], by simp [s10], by simp [s11], by simp [s12], by simp, by simp [znc hgn, hms]⟩ ?_;clear s1 s3 s10 s11 s12 hx hms hgn;generalize p.arrs[i] = z at *;obtain ⟨s, n⟩ := z;simp only at hrx;rintro st ⟨s1, s3, s10, s11, s12, s5, sm⟩;obtain ⟨hs, hn1, hn2⟩ := hrx;obtain ⟨w, rfl⟩ : ∃ w, s = txt w := ⟨s.data.toList, (y9a s).symm⟩;have hwl : (txt w).data.toList = w := yDa w;have hsl := z8a hs;rw [hwl] at hsl;have hnl := w5b (n := n) (by omega) (by omega);have hnb : xNc n = txt (Lib.itoa n) := rfl;obtain ⟨x1, dx1⟩ : ∃ x, x = [97, 114, 114, 97, 121, 32] ++ w := ⟨_, rfl⟩;have lx1 : x1.length = [97, 114, 114, 97, 121, 32].length + w.length := by rw [dx1]; first | (simp; done) | (simp; omega)
     have kkx1 : List.length ([97, 114, 114, 97, 121, 32] : List UInt8) = 6 := rfl;have ax1 : yia .add (.str (⟨#[97, 114, 114, 97, 121, 32]⟩)) (.str (txt w)) = some (.str (txt x1)) := by rw [dx1]; exact aT [97, 114, 114, 97, 121, 32] w (by omega)
     obtain ⟨x2, dx2⟩ : ∃ x, x = x1 ++ [32] := ⟨_, rfl⟩;have lx2 : x2.length = x1.length + [32].length := by rw [dx2]; first | (simp; done) | (simp; omega)
     have kx2 : List.length ([32] : List UInt8) = 1 := rfl;have ax2 : yia .add (.str (txt x1)) (.str (⟨#[32]⟩)) = some (.str (txt x2)) := by rw [dx2]; exact aT x1 [32] (by omega)
     obtain ⟨x3, dx3⟩ : ∃ x, x = x2 ++ (Lib.itoa n) := ⟨_, rfl⟩;have lx3 : x3.length = x2.length + (Lib.itoa n).length := by rw [dx3]; first | (simp; done) | (simp; omega)
     have ax3 : yia .add (.str (txt x2)) (.str (txt (Lib.itoa n))) = some (.str (txt x3)) := by rw [dx3]; exact aT x2 (Lib.itoa n) (by omega)
     obtain ⟨x4, dx4⟩ : ∃ x, x = x3 ++ [59, 10] := ⟨_, rfl⟩;have lx4 : x4.length = x3.length + [59, 10].length := by rw [dx4]; first | (simp; done) | (simp; omega)
     have kx4 : List.length ([59, 10] : List UInt8) = 2 := rfl;have ax4 : yia .add (.str (txt x3)) (.str (⟨#[59, 10]⟩)) = some (.str (txt x4)) := by rw [dx4]; exact aT x3 [59, 10] (by omega)
     (repeat refine qA ?_);refine AWp.rG (fun _ => false) (fun i => i == 1 || i == 5) [0, 1, 2, 3, 4, 5, 6, 7, 8, 9] [0, 1, 2, 3, 4, 5, 6, 7, 8, 9] (by kernel_rfl) ?_;simp [s1, s3, s5, sm, ax1, ax2, ax3, ax4];refine wA ?_;try simp [sm]
     refine xGa n (by omega) (by omega) hmT.1 ?_;simp [hnb, s3, ax1, ax2, ax3, ax4];refine wA ?_;try simp [sm, s3]
     refine yca hB (txt x4) (by have e := yOa x4; omega) fun m2 F2 hB hO2 => ?_;rw [wga] at hB;have hO := hO.trans hO2;try simp
     subst hM2;refine ⟨F2, by simp [s1], by simp [s3], by simp [s10], by simp [s11], by simp [s12], ?_, by simpa using hO⟩;rw [dx4, dx3, dx2, dx1] at hB;simpa [Ar.pr, arT, hwl] using hB
    clear s1 s3 s10 s11 s12 hx hB hO;intro st hst;subst hM2;obtain ⟨F2, s1, s3, s10, s11, s12, hB, hO⟩ := hst;refine rA ?_;simp [s12, hw];exact hRR _ (p.arrs.length - (i + 1)) (by omega) ⟨i + 1, F2, rfl, by omega, by simp [s1], by simp [s3], by simp [s10], by simp [s11], by simp, by rw [hnx]; simpa using hB, by simpa using hO⟩
   have : i = p.arrs.length := by omega
   subst this;refine rA ?_;simp [s11, s12];refine fA ?_;refine eA ?_;try simp
   subst hM;rw [List.take_length] at hB;exact ⟨F1, by simp [s1], by simp [s3], by simpa using hB, by simpa using hO⟩
  clear s1 s3 sm;intro st hst;subst hM;obtain ⟨F1, s1, s3, hB, hO⟩ := hst;have hmT := hmT' hO;have ae : txt [] = (⟨#[]⟩ : ByteArray) := rfl;refine rA ?_;simp [s1, s3];refine wA ?_;try simp [s3]
  have hp := @ztd 40 p.body 0 [] h40 (by omega) hR (by simp) (by omega) gb F1 (yLa p.arrs) st.mem Tt hB hmT.1 hmT.2 (by omega);rw [ae] at hp;refine hp fun m3 F3 hB hO3 => ?_;have hO := hO.trans hO3;try simp
  refine AWp.gen (fun st => st.sl 3 = .ptr gb 0 /\ st.mem = m3) ⟨by simp [s3], by simp⟩ ?_;clear s1 s3;rintro st ⟨s3, sm⟩;refine rA ?_;simp [s3];refine wA ?_;try simp [sm, s3]
  refine xjd hB fun m4 hm4 => ?_;try simp
  refine AWp.ret (zea rfl ⟨_, _, View.refl _ _, ?_⟩);have hk := hK m4 fun x b hx => hm4 _ _ (hO _ _ (hO0 _ _ hx).2 (hO0 _ _ hx).1).2 (hO _ _ (hO0 _ _ hx).2 (hO0 _ _ hx).1).1;simpa [Pg.txt, h, Pg.pr, txt] using hk
end Go.T
