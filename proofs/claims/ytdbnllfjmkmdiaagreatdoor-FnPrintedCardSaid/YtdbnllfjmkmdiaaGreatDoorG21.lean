/- The reference's ProgText. strings.Builder as this program has it; the program's texts of statements. The program's ProgText. FnPrinted: the law. -/
import Derived.Test.YtdbnllfjmkmdiaaGreatDoorG20
import Derived.Test.YtdbnllfjmkmdiaaGreatDoorG8
import Derived.Shelf.Lay
import Derived.Ground.NamesProg
import Derived.WalkKit
import Derived.Test.YtdbnllfjmkmdiaaGreatDoorG12
import Derived.Test.YtdbnllfjmkmdiaaGreatDoorG19
import Derived.Test.YtdbnllfjmkmdiaaGreatDoorG17
import Derived.Test.YtdbnllfjmkmdiaaGreatDoorG7
set_option linter.unusedSimpArgs false
set_option linter.unusedVariables false
namespace Go.T
open Go Go.Proofs
set_option maxRecDepth 10000
set_option maxHeartbeats 1000000
open Go
theorem arr_at : ∀ {l : List Ar} {q : Option ByteArray}, arrsFrom q l = true -> ∀ x ∈ l, nameOk x.s = true /\ 1 <= x.n /\ x.n <= 16
 | [], _, _, x, hx => by cases hx
 | a :: l, q, h, x, hx => by
  unfold arrsFrom inR at h
  simp only [Bool.and_eq_true, decide_eq_true_eq] at h
  rcases List.mem_cons.1 hx with rfl | hx
  ·exact ⟨h.1, h.2.1⟩
  exact arr_at h.2.2.2 x hx
theorem arsPr_app (l l' : List Ar) : arsPr (l ++ l') = arsPr l ++ arsPr l' := by simp [arsPr]
theorem arsPr_take {l : List Ar} {i : Nat} (h : i < l.length) : arsPr (l.take (i + 1)) = arsPr (l.take i) ++ l[i].pr := by
 rw [<- List.take_append_getElem h, arsPr_app]
 simp [arsPr]
theorem arsPr_split (l : List Ar) (i : Nat) : (arsPr (l.take i)).length <= (arsPr l).length := by
 have := congrArg List.length (arsPr_app (l.take i) (l.drop i))
 rw [List.take_append_drop, List.length_append] at this
 omega
theorem arPr_len {a : Ar} (h : nameOk a.s = true /\ 1 <= a.n /\ a.n <= 16) : a.pr.length <= 30 := by
 have h1 := name_len h.1
 have h2 := num_len (n := a.n) (by omega) (by omega)
 unfold Ar.pr arT
 simp only [List.length_append, List.length_cons, List.length_nil]
 omega
theorem arsPr_len : ∀ (l : List Ar) (q : Option ByteArray), arrsFrom q l = true -> (arsPr l).length <= 30 * l.length
 | [], _, _ => by simp [arsPr]
 | a :: l, q, h => by
  have h1 := arPr_len (arr_at h a (by simp))
  unfold arrsFrom at h
  simp only [Bool.and_eq_true] at h
  have h2 := arsPr_len l _ h.2.2.2
  have e : arsPr (a :: l) = a.pr ++ arsPr l := rfl
  rw [e, List.length_append, List.length_cons]
  omega
theorem sumL_sizes : ∀ l : List Sm, sumL Sm.size l = Sm.sizes l
 | [] => by rw [Sm.sizes]; rfl
 | x :: l => by rw [Sm.sizes, <- sumL_sizes l]; rfl
theorem ok_parts {p : Pg} (h : p.ok = true) : arrsFrom none p.arrs = true /\ p.arrs.length <= 4 /\ Sm.sizes p.body <= 40 /\ Sm.rights p.body 0 = true := by
 unfold Pg.ok Pg.head at h
 simp only [Bool.and_eq_true, decide_eq_true_eq] at h
 obtain ⟨⟨hA, h4, _, hs, hB⟩, _⟩ := h
 rw [sumL_sizes] at hs
 exact ⟨hA, h4, hs, body_rights p.body hB⟩
theorem c_spec_ProgText (p : Pg) (ht : p.tot <= 1048576) : PCall Tryz.prog 12 [p.av] (.str p.txt) := by
 have ho := c_spec_ProgOk p ht
 refine pO Tryz.func12 (by kernel_rfl) rfl (by simp [Tryz.f12]) ?_
 have hc : p.cells = [.lst false 2 (p.arrs.map Ar.av), .lst false 19 (p.body.map Sm.av)] := rfl
 unfold Pg.av at ho ⊢
 rw [hc] at ho ⊢
 (repeat refine qA ?_);refine rA ?_
 simp
 intro g1
 refine AWp.gen (fun st => st.slots 1 = .ptr g1 0 /\ st.mem g1 = some (.box [.lst false 2 (p.arrs.map Ar.av), .lst false 19 (p.body.map Sm.av)])) ⟨by simp, by simp⟩ ?_
 rintro st ⟨s1, w1⟩
 (repeat refine qA ?_);refine raA ?_
 simp [s1, w1]
 refine oC' ho ?_
 simp
 cases h : p.ok with
 | false =>
  (repeat refine qA ?_);refine tA ?_
  (repeat refine qA ?_);refine rA ?_
  simp
  exact AWp.ret (pR1 rfl (by simp [Pg.txt, h] <;> rfl))
 | true =>
  (repeat refine qA ?_);refine fA ?_
  refine kA ?_
  try simp
  obtain ⟨hA, h4, h40, hR⟩ := ok_parts h
  have z1 := arsPr_len _ _ hA
  have z2 := (sm_len 40).2 p.body 0 [] h40 hR (by simp) (by omega)
  (repeat refine qA ?_);refine rA ?_
  simp
  (repeat refine qA ?_);refine rA ?_
  simp
  (repeat refine qA ?_);refine AWp.cutA (fun st => st.slots 1 = .ptr g1 0 /\ st.mem g1 = some (.box [.lst false 2 (p.arrs.map Ar.av), .lst false 19 (p.body.map Sm.av)]) /\ st.slots 3 = .str (txt (arsPr p.arrs))) ?_ ?_
  ·refine AWp.block (AWp.rounds (fun q st => ∃ i : Nat, q = p.arrs.length - i /\ i <= p.arrs.length /\ st.slots 1 = .ptr g1 0 /\ st.mem g1 = some (.box [.lst false 2 (p.arrs.map Ar.av), .lst false 19 (p.body.map Sm.av)]) /\ st.slots 3 = .str (txt (arsPr (p.arrs.take i))) /\ st.slots 4 = .int .i64 i) p.arrs.length ⟨0, by simp, by simp, by simp [s1], by simp [w1], by first | (simp [arsPr, txt]; done) | (simp [arsPr, txt]; rfl), by simp⟩ ?_)
   clear s1 w1
   rintro RR q st hRR ⟨i, rfl, hi, s1, w1, s3, s4⟩
   by_cases hbl : i < p.arrs.length
   ·have hx : ∀ m, idxA Tryz.prog m 29 (.lst false 2 (p.arrs.map Ar.av)) (.int .i64 i) = some (.ref [.str p.arrs[i].s, .int .i64 p.arrs[i].n]) := fun m => idx (y := p.arrs[i].av) es_29 (by simp [List.getElem?_eq_getElem hbl])
    have hw := iA i (by omega)
    have hnx := arsPr_take hbl
    have hA2 := arsPr_split p.arrs i
    have hrx := arr_at hA _ (List.getElem_mem hbl)
    generalize arsPr (p.arrs.take i) = A at *
    (repeat refine qA ?_);refine rA ?_
    simp [s1, w1, s4, hbl]
    (repeat refine qA ?_);refine tA ?_
    refine kA ?_
    try simp
    obtain ⟨M, hM2⟩ : ∃ M : St -> Prop, M = (fun st => st.slots 1 = .ptr g1 0 /\ st.mem g1 = some (.box [.lst false 2 (p.arrs.map Ar.av), .lst false 19 (p.body.map Sm.av)]) /\ st.slots 3 = .str (txt (A ++ p.arrs[i].pr)) /\ st.slots 4 = .int .i64 i) := ⟨_, rfl⟩
    (repeat refine qA ?_);refine AWp.cutA M ?_ ?_
    ·(repeat refine qA ?_);refine bA ?_
     generalize p.arrs[i] = z at *
     obtain ⟨s, n⟩ := z
     simp only at hrx hx
     obtain ⟨hs, hn1, hn2⟩ := hrx
     obtain ⟨w, rfl⟩ : ∃ w, s = txt w := ⟨s.data.toList, (mk_list s).symm⟩
     have hwl : (txt w).data.toList = w := list_mk w
     have hsl := name_len hs
     rw [hwl] at hsl
     have hnl := num_len (n := n) (by omega) (by omega)
     have hnb : numB n = txt (Lib.itoa n) := rfl
     obtain ⟨x1, dx1⟩ : ∃ x, x = A ++ [97, 114, 114, 97, 121, 32] := ⟨_, rfl⟩
     have lx1 : x1.length = A.length + [97, 114, 114, 97, 121, 32].length := by rw [dx1]; simp
     have kx1 : List.length ([97, 114, 114, 97, 121, 32] : List UInt8) = 6 := rfl
     have ax1 : binA .add (.str (txt A)) (.str (⟨#[97, 114, 114, 97, 121, 32]⟩)) = some (.str (txt x1)) := by rw [dx1]; exact aT A [97, 114, 114, 97, 121, 32] (by omega)
     obtain ⟨x2, dx2⟩ : ∃ x, x = x1 ++ w := ⟨_, rfl⟩
     have lx2 : x2.length = x1.length + w.length := by rw [dx2]; simp
     have ax2 : binA .add (.str (txt x1)) (.str (txt w)) = some (.str (txt x2)) := by rw [dx2]; exact aT x1 w (by omega)
     obtain ⟨x3, dx3⟩ : ∃ x, x = x2 ++ [32] := ⟨_, rfl⟩
     have lx3 : x3.length = x2.length + [32].length := by rw [dx3]; simp
     have kx3 : List.length ([32] : List UInt8) = 1 := rfl
     have ax3 : binA .add (.str (txt x2)) (.str (⟨#[32]⟩)) = some (.str (txt x3)) := by rw [dx3]; exact aT x2 [32] (by omega)
     obtain ⟨x4, dx4⟩ : ∃ x, x = x3 ++ (Lib.itoa n) := ⟨_, rfl⟩
     have lx4 : x4.length = x3.length + (Lib.itoa n).length := by rw [dx4]; simp
     have ax4 : binA .add (.str (txt x3)) (.str (txt (Lib.itoa n))) = some (.str (txt x4)) := by rw [dx4]; exact aT x3 (Lib.itoa n) (by omega)
     obtain ⟨x5, dx5⟩ : ∃ x, x = x4 ++ [59, 10] := ⟨_, rfl⟩
     have lx5 : x5.length = x4.length + [59, 10].length := by rw [dx5]; simp
     have kx5 : List.length ([59, 10] : List UInt8) = 2 := rfl
     have ax5 : binA .add (.str (txt x4)) (.str (⟨#[59, 10]⟩)) = some (.str (txt x5)) := by rw [dx5]; exact aT x4 [59, 10] (by omega)
     (repeat refine qA ?_);refine AWp.regionG (fun i => i == 16) (fun _ => false) [0, 1, 2, 3, 4, 5, 6, 7, 8, 9, 10, 11, 12, 13, 14, 15, 16, 17, 18, 19] [0, 1, 2, 3, 4, 5, 6, 7, 8, 9, 10, 11, 12, 13, 14, 15, 16, 17, 18, 19] (by kernel_rfl) ?_
     simp [s1, w1, s3, s4, hx, ax1, ax2, ax3, ax4, ax5]
     refine oC' (c_spec_NumText n (by omega) (by omega)) ?_
     simp [hnb, ax1, ax2, ax3, ax4, ax5]
     subst hM2
     refine ⟨by simp [s1], by simp [w1], ?_, by simp [s4]⟩
     simp
     rw [dx5, dx4, dx3, dx2, dx1]
     simp [Ar.pr, arT, hwl]
    clear s1 s3 s4 w1 hx
    intro st hst
    subst hM2
    obtain ⟨s1, w1, s3, s4⟩ := hst
    (repeat refine qA ?_);refine rA ?_
    simp [s4, hw]
    exact hRR _ (p.arrs.length - (i + 1)) (by omega) ⟨i + 1, rfl, by omega, by simp [s1], by simp [w1], by rw [hnx]; simpa using s3, by simp⟩
   have : i = p.arrs.length := by omega
   subst this
   (repeat refine qA ?_);refine rA ?_
   simp [s1, w1, s4]
   (repeat refine qA ?_);refine fA ?_
   refine eA ?_
   try simp
   exact ⟨by simp [s1], by simp [w1], by simpa using s3⟩
  clear s1 w1
  rintro st ⟨s1, w1, s3⟩
  have cb := c_l6Body 40 p.body 0 [] h40 (by omega) hR (by simp) (by omega)
  have ae : txt [] = (⟨#[]⟩ : ByteArray) := rfl
  rw [ae] at cb
  have a1 := aT (arsPr p.arrs) (Sm.prs p.body []) (by omega)
  (repeat refine qA ?_);refine raA ?_
  simp [s1, w1, s3]
  refine oC' cb ?_
  simp [a1]
  exact AWp.ret (pR1 rfl (by simp [Pg.txt, h, Pg.pr]))
end Go.T
namespace Go.Proofs
open Go.Shelf
def Tryz.laysWS_ren : Ren := ⟨fun | 166 => 33 | 240 => 93 | 276 => 144 | n => n, fun | 0 => 0 | 3 => 3 | 4 => 4 | 9 => 9 | 20 => 20 | 37 => 22 | 70 => 53 | 72 => 55 | 75 => 59 | 164 => 151 | 5 => 5 | 80 => 64 | n => n, fun n => n⟩
theorem Tryz.laysWS : Lays.n166 Tryz.prog Tryz.laysWS_ren where -- 33
 mixed := by kernel_rfl
 f166 := Tryz.func33.trans (congrArg some (by kernel_rfl))
 f240 := Tryz.func93.trans (congrArg some (by kernel_rfl))
 f276 := Tryz.func144.trans (congrArg some (by kernel_rfl))
 t0 := Tryz.underlying0
 a0 := Tryz.isAgg0
 z0 := Tryz.sizeOf0
 v0 := Tryz.zeroValue0
 t3 := Tryz.underlying3
 a3 := Tryz.isAgg3
 z3 := Tryz.sizeOf3
 v3 := Tryz.zeroValue3
 t4 := Tryz.underlying4
 a4 := Tryz.isAgg4
 z4 := Tryz.sizeOf4
 v4 := Tryz.zeroValue4
 t9 := Tryz.underlying9
 a9 := Tryz.isAgg9
 z9 := Tryz.sizeOf9
 v9 := Tryz.zeroValue9
 t20 := Tryz.underlying20
 a20 := Tryz.isAgg20
 z20 := Tryz.sizeOf20
 v20 := Tryz.zeroValue20
 t37 := Tryz.underlying22
 a37 := Tryz.isAgg22
 z37 := Tryz.sizeOf22
 v37 := Tryz.zeroValue22
 t70 := Tryz.underlying53
 a70 := Tryz.isAgg53
 z70 := Tryz.sizeOf53
 v70 := Tryz.zeroValue53
 t72 := Tryz.underlying55
 a72 := Tryz.isAgg55
 z72 := Tryz.sizeOf55
 v72 := Tryz.zeroValue55
 t75 := Tryz.underlying59
 a75 := Tryz.isAgg59
 z75 := Tryz.sizeOf59
 v75 := Tryz.zeroValue59
 t164 := Tryz.underlying151
 a164 := Tryz.isAgg151
 z164 := Tryz.sizeOf151
 v164 := Tryz.zeroValue151
shelf_lay Lays.n169 Nm 169 at Tryz as Tryz.laysBS -- 36
theorem Tryz.extraWS : Builder.Extra Tryz.prog Tryz.laysWS_ren where -- 33
 sizeBuilder := by kernel_rfl
 liesBuilder := by kernel_rfl
 t5 := Tryz.underlying5
 a5 := Tryz.isAgg5
 z5 := Tryz.sizeOf5
 v5 := Tryz.zeroValue5
 infoByte := by kernel_rfl
 cellsByte := by kernel_rfl
 sizeByte := by kernel_rfl
 neB5 := by decide
theorem Tryz.extraBS : Builder.Extra Tryz.prog Tryz.laysBS_ren where -- 36
 sizeBuilder := by kernel_rfl
 liesBuilder := by kernel_rfl
 t5 := Tryz.underlying5
 a5 := Tryz.isAgg5
 z5 := Tryz.sizeOf5
 v5 := Tryz.zeroValue5
 infoByte := by kernel_rfl
 cellsByte := by kernel_rfl
 sizeByte := by kernel_rfl
 neB5 := by decide
end Go.Proofs
namespace Go.T
open Go Go.Proofs
set_option maxRecDepth 10000
set_option maxHeartbeats 1000000
open Go
theorem txt_list (l : List UInt8) : (txt l).data.toList = l := list_mk l
theorem c_WriteString {gb : Nat} {F : Nat -> Prop} {l : List UInt8} {m : Mem} (h : Bld 55 5 F gb l m) (s : ByteArray) (hz : l.length + s.size <= 140737488355328) {K : AV -> Mem -> Prop}
  (hK : ∀ m' F', Bld 55 5 F' gb (l ++ s.data.toList) m' -> OffB F F' m m' -> K (.tup [.int .i64 s.size, .undef]) m') : WCall Tryz.prog 33 [.ptr gb 0, .str s] m K :=
 wc_WriteString Tryz.laysWS Tryz.extraWS ⟨Tryz.f33, Tryz.func33, by kernel_rfl, by kernel_rfl⟩ h s hz hK
theorem c_BString {gb : Nat} {F : Nat -> Prop} {l : List UInt8} {m : Mem} (h : Bld 55 5 F gb l m) {K : AV -> Mem -> Prop}
  (hK : ∀ m', (∀ x b, ¬ F x -> m x = some b -> m' x = some b) -> K (.str ⟨l.toArray⟩) m') : WCall Tryz.prog 36 [.ptr gb 0] m K :=
 wc_String Tryz.laysBS Tryz.extraBS ⟨Tryz.f36, Tryz.func36, by kernel_rfl, by kernel_rfl⟩ h hK
theorem set_del9 {m : Mem} {g : Nat} (hg : m g = none) (b : Blk) : (m.set g b).del g = m := by
 funext q
 unfold Mem.del
 by_cases h : q = g
 ·rw [if_pos h, h, hg]
 rw [if_neg h, Mem.set_other h]
theorem c_putStmts : ∀ (N : Nat) (l : List Sm) (d : Nat) (pad : List UInt8), Sm.sizes l <= N -> N <= 1000 -> Sm.rights l d = true -> pad.length <= 2 * d -> d <= 3 -> ∀ {gb : Nat} {F : Nat -> Prop} {L : List UInt8} {m : Mem} {Tt : TypeId}, Bld 55 5 F gb L m -> m TB = some (tabBlk Tt) -> ¬ F TB -> L.length <= 2000000 * (d + 1) ->
  ∀ {K : AV -> Mem -> Prop}, (∀ m' F', Bld 55 5 F' gb (L ++ Sm.prs l pad) m' -> OffB F F' m m' -> K (.tup []) m') -> WCall Tryz.prog 35 [.ptr gb 0, .lst false 19 (l.map Sm.av), .str (txt pad)] m K := by
 intro N
 induction N with
 | zero =>
  intro l d pad hN _ hR hp hd gb F L m Tt hB0 hm0 hF0 hL0 K hK
  have hl : l = [] := by
   cases l with
   | nil => rfl
   | cons x l =>
    obtain ⟨k, s, a, e, lo, hi, b⟩ := x
    rw [Sm.sizes, Sm.size] at hN
    omega
  subst hl
  simp only [Sm.prs, List.append_nil] at hK
  refine wcall_of Tryz.func35 (by kernel_rfl) rfl (by simp [Tryz.f35]) ?_
  (repeat refine qA ?_);refine rA ?_
  simp
  refine AWp.lastQ (fun st => st.mem = m) ?_ ?_
  ·refine AWp.block (AWp.rounds (fun q st => st.slots 9 = .int .i64 0 /\ st.slots 10 = .int .i64 0 /\ st.mem = m) 0 ⟨by simp, by simp, by simp⟩ ?_)
   rintro RR q st hRR ⟨s9, s10, sm⟩
   (repeat refine qA ?_);refine rA ?_
   simp [s9, s10]
   (repeat refine qA ?_);refine fA ?_
   refine eA ?_
   simpa using sm
  intro st sm
  exact ⟨[], .tup [], m, by simp [Tryz.f35, resA], by rw [sm]; exact View.refl _ _, hK m F hB0 (OffB.refl F m)⟩
 | succ N ih =>
  intro l d pad hN hM hR hp hd gb F L m Tt hB0 hm0 hF0 hL0 K hK
  have hmT' : (∀ {F' : Nat -> Prop} {m' : Mem}, OffB F F' m m' -> m' TB = some (tabBlk Tt) /\ ¬ F' TB) := fun hO => hO _ _ hF0 hm0
  have hmT' := And.intro trivial @hmT'
  have hz := (sm_len (N + 1)).2 l d pad hN hR hp hd
  have hln : l.length <= Sm.sizes l := by
   clear hN hR hz hK
   induction l with
   | nil => simp
   | cons x l ih2 =>
    have : 1 <= x.size := by obtain ⟨k, s, a, e, lo, hi, b⟩ := x; rw [Sm.size]; omega
    rw [Sm.sizes, List.length_cons]
    omega
  refine wcall_of Tryz.func35 (by kernel_rfl) rfl (by simp [Tryz.f35]) ?_
  (repeat refine qA ?_);refine rA ?_
  simp
  refine AWp.lastQ (fun st => ∃ F', Bld 55 5 F' gb (L ++ Sm.prs l pad) st.mem /\ OffB F F' m st.mem) ?_ ?_
  rotate_left
  ·rintro st ⟨F', hB, hO⟩
   exact ⟨[], .tup [], _, by simp [Tryz.f35, resA], View.refl _ _, hK _ F' hB hO⟩
  refine AWp.block (AWp.rounds (fun q st => ∃ (i : Nat) (F' : Nat -> Prop), q = l.length - i /\ i <= l.length /\ st.slots 0 = .ptr gb 0 /\ st.slots 2 = .str (txt pad) /\ st.slots 8 = .lst false 19 (l.map Sm.av) /\ st.slots 9 = .int .i64 l.length /\ st.slots 10 = .int .i64 i /\ Bld 55 5 F' gb (L ++ Sm.prs (l.take i) pad) st.mem /\ OffB F F' m st.mem) l.length ⟨0, F, by simp, by simp, by simp, by simp, by simp, by simp, by simp, by simpa [Sm.prs] using hB0, by simpa using OffB.refl F m⟩ ?_)
  rintro RR q st hRR ⟨i, F1, rfl, hi, s0, s2, s8, s9, s10, hB, hO⟩
  by_cases hbl : i < l.length
  ·have hx : ∀ m, idxA Tryz.prog m 30 (.lst false 19 (l.map Sm.av)) (.int .i64 i) = some (.ref l[i].cells) := fun m => idx (y := l[i].av) es_30 (by simp [List.getElem?_eq_getElem hbl])
   have hw := iA i (by omega)
   have hnx := prs_take hbl pad
   have hA := prs_split l i pad
   have hzi : (Sm.prs (l.take i) pad).length + (l[i].pr pad).length <= 1100 * (N + 1) := by
    have h1 := prs_split l (i + 1) pad
    rw [hnx, List.length_append] at h1
    have := Nat.mul_le_mul_left 1100 hN
    omega
   have hrx := rights_mem hR _ (List.getElem_mem hbl)
   have hmem := List.getElem_mem hbl
   generalize Sm.prs (l.take i) pad = A at *
   (repeat refine qA ?_);refine rA ?_
   simp [s9, s10, hbl]
   (repeat refine qA ?_);refine tA ?_
   refine kA ?_
   try simp
   obtain ⟨M, hM2⟩ : ∃ M : St -> Prop, M = (fun st => ∃ F', st.slots 0 = .ptr gb 0 /\ st.slots 2 = .str (txt pad) /\ st.slots 8 = .lst false 19 (l.map Sm.av) /\ st.slots 9 = .int .i64 l.length /\ st.slots 10 = .int .i64 i /\ Bld 55 5 F' gb (L ++ (A ++ l[i].pr pad)) st.mem /\ OffB F F' m st.mem) := ⟨_, rfl⟩
   (repeat refine qA ?_);refine AWp.cutA M ?_ ?_
   ·(repeat refine qA ?_);refine bA ?_
    obtain ⟨m0, hm0'⟩ : ∃ m0, m0 = st.mem := ⟨_, rfl⟩
    rw [<- hm0'] at hB hO
    have hmT := hmT'.2 hO
    (repeat refine qA ?_);refine rA ?_
    simp [s8, s10, hx]
    intro g hgn
    have hcl : l[i].cells.length = 19 := by simp
    have hcd : List.drop 19 l[i].cells = [] := List.drop_eq_nil_of_le (by omega)
    have hct : List.take 19 l[i].cells = l[i].cells := List.take_of_length_le (by omega)
    refine AWp.sees (Sees.view (t := 7) (View.freezeB (g := g) (cs := l[i].cells) (by simp [hcd, hct]))) ?_
    refine AWp.gen (fun st => st.slots 0 = .ptr gb 0 /\ st.slots 2 = .str (txt pad) /\ st.slots 8 = .lst false 19 (l.map Sm.av) /\ st.slots 9 = .int .i64 l.length /\ st.slots 10 = .int .i64 i /\ st.slots 7 = .ref l[i].cells /\ st.mem = m0) ⟨by simp [s0], by simp [s2], by simp [s8], by simp [s9], by simp [s10], by simp, by simp [set_del9 hgn, hm0']⟩ ?_
    clear s0 s2 s8 s9 s10 hcl hcd hct hx hm0' hgn
    generalize l[i] = z at *
    rintro st ⟨s0, s2, s8, s9, s10, s7, sm⟩
    (repeat refine qA ?_);refine rA ?_
    simp [s0, s2]
    refine wA ?_
    try simp [sm]
    refine c_WriteString hB (txt pad) (by have e := txt_size pad; simp only [List.length_append] at *; omega) fun m1 F2' hB hO1 => ?_
    rw [txt_list] at hB
    have hO := hO.trans hO1
    have hmT := hmT'.2 hO
    try simp
    refine AWp.gen (fun st => st.slots 0 = .ptr gb 0 /\ st.slots 2 = .str (txt pad) /\ st.slots 8 = .lst false 19 (l.map Sm.av) /\ st.slots 9 = .int .i64 l.length /\ st.slots 10 = .int .i64 i /\ st.slots 7 = .ref z.cells /\ st.mem = m1) ⟨by simp [s0], by simp [s2], by simp [s8], by simp [s9], by simp [s10], by simp [s7], by simp⟩ ?_
    clear s0 s2 s8 s9 s10 s7 sm
    rintro st ⟨s0, s2, s8, s9, s10, s7, sm⟩
    have hM := hM2
    cases shapeS hrx with
    | set s e hs he =>
     obtain ⟨w, rfl⟩ : ∃ w, s = txt w := ⟨s.data.toList, (mk_list s).symm⟩
     have hwl : (txt w).data.toList = w := list_mk w
     have hsl := name_len hs
     rw [hwl] at hsl
     have ze := ok_len he
     obtain ⟨ge, ne, _⟩ := ok_ht he
     simp only [smSet, smPut, smFor, smPrint, Sm.cells_mk, zE, Ex.cells_mk, List.map_nil, List.cons_append, List.nil_append] at s7
     obtain ⟨x1, dx1⟩ : ∃ x, x = w ++ [32, 61, 32] := ⟨_, rfl⟩
     have lx1 : x1.length = w.length + [32, 61, 32].length := by rw [dx1]; first | (simp; done) | (simp; omega)
     have kx1 : List.length ([32, 61, 32] : List UInt8) = 3 := rfl
     have ax1 : binA .add (.str (txt w)) (.str (⟨#[32, 61, 32]⟩)) = some (.str (txt x1)) := by rw [dx1]; exact aT w [32, 61, 32] (by omega)
     obtain ⟨x2, dx2⟩ : ∃ x, x = x1 ++ e.pr := ⟨_, rfl⟩
     have lx2 : x2.length = x1.length + e.pr.length := by rw [dx2]; first | (simp; done) | (simp; omega)
     have ax2 : binA .add (.str (txt x1)) (.str (txt e.pr)) = some (.str (txt x2)) := by rw [dx2]; exact aT x1 e.pr (by omega)
     obtain ⟨x3, dx3⟩ : ∃ x, x = x2 ++ [59, 10] := ⟨_, rfl⟩
     have lx3 : x3.length = x2.length + [59, 10].length := by rw [dx3]; first | (simp; done) | (simp; omega)
     have kx3 : List.length ([59, 10] : List UInt8) = 2 := rfl
     have ax3 : binA .add (.str (txt x2)) (.str (⟨#[59, 10]⟩)) = some (.str (txt x3)) := by rw [dx3]; exact aT x2 [59, 10] (by omega)
     (repeat refine qA ?_);refine rA ?_
     simp [s7]
     (repeat refine qA ?_);refine bA ?_
     (repeat refine qA ?_);refine rA ?_
     simp
     (repeat refine qA ?_);refine tA ?_
     (repeat refine qA ?_);refine AWp.regionG (fun _ => false) (fun i => i == 2 || i == 5) [0, 1, 2, 3, 4, 5, 6, 7, 8, 9] [0, 1, 2, 3, 4, 5, 6, 7, 8, 9] (by kernel_rfl) ?_
     simp [s0, s2, s7, sm, ax1, ax2, ax3]
     refine wA ?_
     try simp [sm]
     refine c_expText e.nodes e 1 (Nat.le_refl _) (by omega) ge hmT.1 ?_
     simp [s0, s2, s7, sm, ax1, ax2, ax3]
     refine wA ?_
     try simp [sm]
     refine c_WriteString hB (txt x3) (by have e := txt_size x3; simp only [List.length_append] at *; omega) fun m2 F2 hB hO2 => ?_
     rw [txt_list] at hB
     have hO := hO.trans hO2
     have hmT := hmT'.2 hO
     try simp
     subst hM2
     refine ⟨F2, by simp [s0], by simp [s2], by simp [s8], by simp [s9], by simp [s10], ?_, by simpa using hO⟩
     rw [dx3, dx2, dx1] at hB
     simpa [smSet, hwl, Sm.pr, forT, toT, prT] using hB
    | put s a e hs ha he =>
     obtain ⟨w, rfl⟩ : ∃ w, s = txt w := ⟨s.data.toList, (mk_list s).symm⟩
     have hwl : (txt w).data.toList = w := list_mk w
     have hsl := name_len hs
     rw [hwl] at hsl
     have za := ok_len ha
     obtain ⟨ga, na, _⟩ := ok_ht ha
     have ze := ok_len he
     obtain ⟨ge, ne, _⟩ := ok_ht he
     simp only [smSet, smPut, smFor, smPrint, Sm.cells_mk, zE, Ex.cells_mk, List.map_nil, List.cons_append, List.nil_append] at s7
     obtain ⟨x1, dx1⟩ : ∃ x, x = w ++ [91] := ⟨_, rfl⟩
     have lx1 : x1.length = w.length + [91].length := by rw [dx1]; first | (simp; done) | (simp; omega)
     have kx1 : List.length ([91] : List UInt8) = 1 := rfl
     have ax1 : binA .add (.str (txt w)) (.str (⟨#[91]⟩)) = some (.str (txt x1)) := by rw [dx1]; exact aT w [91] (by omega)
     obtain ⟨x2, dx2⟩ : ∃ x, x = x1 ++ a.pr := ⟨_, rfl⟩
     have lx2 : x2.length = x1.length + a.pr.length := by rw [dx2]; first | (simp; done) | (simp; omega)
     have ax2 : binA .add (.str (txt x1)) (.str (txt a.pr)) = some (.str (txt x2)) := by rw [dx2]; exact aT x1 a.pr (by omega)
     obtain ⟨x3, dx3⟩ : ∃ x, x = x2 ++ [93, 32, 61, 32] := ⟨_, rfl⟩
     have lx3 : x3.length = x2.length + [93, 32, 61, 32].length := by rw [dx3]; first | (simp; done) | (simp; omega)
     have kx3 : List.length ([93, 32, 61, 32] : List UInt8) = 4 := rfl
     have ax3 : binA .add (.str (txt x2)) (.str (⟨#[93, 32, 61, 32]⟩)) = some (.str (txt x3)) := by rw [dx3]; exact aT x2 [93, 32, 61, 32] (by omega)
     obtain ⟨x4, dx4⟩ : ∃ x, x = x3 ++ e.pr := ⟨_, rfl⟩
     have lx4 : x4.length = x3.length + e.pr.length := by rw [dx4]; first | (simp; done) | (simp; omega)
     have ax4 : binA .add (.str (txt x3)) (.str (txt e.pr)) = some (.str (txt x4)) := by rw [dx4]; exact aT x3 e.pr (by omega)
     obtain ⟨x5, dx5⟩ : ∃ x, x = x4 ++ [59, 10] := ⟨_, rfl⟩
     have lx5 : x5.length = x4.length + [59, 10].length := by rw [dx5]; first | (simp; done) | (simp; omega)
     have kx5 : List.length ([59, 10] : List UInt8) = 2 := rfl
     have ax5 : binA .add (.str (txt x4)) (.str (⟨#[59, 10]⟩)) = some (.str (txt x5)) := by rw [dx5]; exact aT x4 [59, 10] (by omega)
     (repeat refine qA ?_);refine rA ?_
     simp [s7]
     (repeat refine qA ?_);refine bA ?_
     (repeat refine qA ?_);refine rA ?_
     simp
     (repeat refine qA ?_);refine fA ?_
     (repeat refine qA ?_);refine rA ?_
     simp
     (repeat refine qA ?_);refine tA ?_
     (repeat refine qA ?_);refine AWp.regionG (fun _ => false) (fun i => i == 2 || i == 5 || i == 10) [0, 1, 2, 3, 4, 5, 9, 10, 6, 7, 8, 11, 12, 13, 14] [0, 1, 2, 3, 4, 5, 6, 7, 8, 9, 10, 11, 12, 13, 14] (by kernel_rfl) ?_
     simp [s0, s2, s7, sm, ax1, ax2, ax3, ax4, ax5]
     refine wA ?_
     try simp [sm]
     refine c_expText a.nodes a 1 (Nat.le_refl _) (by omega) ga hmT.1 ?_
     simp [s0, s2, s7, sm, ax1, ax2, ax3, ax4, ax5]
     refine wA ?_
     try simp [sm]
     refine c_expText e.nodes e 1 (Nat.le_refl _) (by omega) ge hmT.1 ?_
     simp [s0, s2, s7, sm, ax1, ax2, ax3, ax4, ax5]
     refine wA ?_
     try simp [sm]
     refine c_WriteString hB (txt x5) (by have e := txt_size x5; simp only [List.length_append] at *; omega) fun m2 F2 hB hO2 => ?_
     rw [txt_list] at hB
     have hO := hO.trans hO2
     have hmT := hmT'.2 hO
     try simp
     subst hM2
     refine ⟨F2, by simp [s0], by simp [s2], by simp [s8], by simp [s9], by simp [s10], ?_, by simpa using hO⟩
     rw [dx5, dx4, dx3, dx2, dx1] at hB
     simpa [smPut, hwl, Sm.pr, forT, toT, prT] using hB
    | for_ s lo hi b hs hlo hhi hd3 hb3 =>
     obtain ⟨w, rfl⟩ : ∃ w, s = txt w := ⟨s.data.toList, (mk_list s).symm⟩
     have hwl : (txt w).data.toList = w := list_mk w
     have hsl := name_len hs
     rw [hwl] at hsl
     have zlo := ok_len hlo
     obtain ⟨glo, nlo, _⟩ := ok_ht hlo
     have zhi := ok_len hhi
     obtain ⟨ghi, nhi, _⟩ := ok_ht hhi
     simp only [smSet, smPut, smFor, smPrint, Sm.cells_mk, zE, Ex.cells_mk, List.map_nil, List.cons_append, List.nil_append] at s7
     have hbz : Sm.sizes b <= N := by
      have := size_mem l _ hmem
      simp only [smFor, Sm.size] at this
      omega
     have hpl : (pad ++ [32, 32]).length <= 2 * (d + 1) := by simp; omega
     have zb := (sm_len N).2 b (d + 1) (pad ++ [32, 32]) hbz hb3 hpl (by omega)
     have apd : binA .add (.str (txt pad)) (.str ⟨#[32, 32]⟩) = some (.str (txt (pad ++ [32, 32]))) := aT pad [32, 32] (by simp; omega)
     have ape : binA .add (.str (txt pad)) (.str ⟨#[125, 10]⟩) = some (.str (txt (pad ++ [125, 10]))) := aT pad [125, 10] (by simp; omega)
     obtain ⟨pd, hpd⟩ : ∃ x, x = pad ++ [32, 32] := ⟨_, rfl⟩
     obtain ⟨pe, hpe⟩ : ∃ x, x = pad ++ [125, 10] := ⟨_, rfl⟩
     have lpe : pe.length = pad.length + 2 := by rw [hpe]; simp
     rw [<- hpd] at apd hpl zb
     rw [<- hpe] at ape
     obtain ⟨x1, dx1⟩ : ∃ x, x = [102, 111, 114, 32] ++ w := ⟨_, rfl⟩
     have lx1 : x1.length = [102, 111, 114, 32].length + w.length := by rw [dx1]; first | (simp; done) | (simp; omega)
     have kkx1 : List.length ([102, 111, 114, 32] : List UInt8) = 4 := rfl
     have ax1 : binA .add (.str (⟨#[102, 111, 114, 32]⟩)) (.str (txt w)) = some (.str (txt x1)) := by rw [dx1]; exact aT [102, 111, 114, 32] w (by omega)
     obtain ⟨x2, dx2⟩ : ∃ x, x = x1 ++ [32, 61, 32] := ⟨_, rfl⟩
     have lx2 : x2.length = x1.length + [32, 61, 32].length := by rw [dx2]; first | (simp; done) | (simp; omega)
     have kx2 : List.length ([32, 61, 32] : List UInt8) = 3 := rfl
     have ax2 : binA .add (.str (txt x1)) (.str (⟨#[32, 61, 32]⟩)) = some (.str (txt x2)) := by rw [dx2]; exact aT x1 [32, 61, 32] (by omega)
     obtain ⟨x3, dx3⟩ : ∃ x, x = x2 ++ lo.pr := ⟨_, rfl⟩
     have lx3 : x3.length = x2.length + lo.pr.length := by rw [dx3]; first | (simp; done) | (simp; omega)
     have ax3 : binA .add (.str (txt x2)) (.str (txt lo.pr)) = some (.str (txt x3)) := by rw [dx3]; exact aT x2 lo.pr (by omega)
     obtain ⟨x4, dx4⟩ : ∃ x, x = x3 ++ [32, 116, 111, 32] := ⟨_, rfl⟩
     have lx4 : x4.length = x3.length + [32, 116, 111, 32].length := by rw [dx4]; first | (simp; done) | (simp; omega)
     have kx4 : List.length ([32, 116, 111, 32] : List UInt8) = 4 := rfl
     have ax4 : binA .add (.str (txt x3)) (.str (⟨#[32, 116, 111, 32]⟩)) = some (.str (txt x4)) := by rw [dx4]; exact aT x3 [32, 116, 111, 32] (by omega)
     obtain ⟨x5, dx5⟩ : ∃ x, x = x4 ++ hi.pr := ⟨_, rfl⟩
     have lx5 : x5.length = x4.length + hi.pr.length := by rw [dx5]; first | (simp; done) | (simp; omega)
     have ax5 : binA .add (.str (txt x4)) (.str (txt hi.pr)) = some (.str (txt x5)) := by rw [dx5]; exact aT x4 hi.pr (by omega)
     obtain ⟨x6, dx6⟩ : ∃ x, x = x5 ++ [32, 123, 10] := ⟨_, rfl⟩
     have lx6 : x6.length = x5.length + [32, 123, 10].length := by rw [dx6]; first | (simp; done) | (simp; omega)
     have kx6 : List.length ([32, 123, 10] : List UInt8) = 3 := rfl
     have ax6 : binA .add (.str (txt x5)) (.str (⟨#[32, 123, 10]⟩)) = some (.str (txt x6)) := by rw [dx6]; exact aT x5 [32, 123, 10] (by omega)
     (repeat refine qA ?_);refine rA ?_
     simp [s7]
     (repeat refine qA ?_);refine bA ?_
     (repeat refine qA ?_);refine rA ?_
     simp
     (repeat refine qA ?_);refine fA ?_
     (repeat refine qA ?_);refine rA ?_
     simp
     (repeat refine qA ?_);refine fA ?_
     (repeat refine qA ?_);refine rA ?_
     simp
     (repeat refine qA ?_);refine fA ?_
     (repeat refine qA ?_);refine AWp.regionG (fun _ => false) (fun i => i == 2 || i == 6 || i == 11) [0, 1, 2, 3, 4, 5, 6, 10, 11, 7, 8, 9, 12, 13, 14, 15] [0, 1, 2, 3, 4, 5, 6, 7, 8, 9, 10, 11, 12, 13, 14, 15] (by kernel_rfl) ?_
     simp [s0, s2, s7, sm, ax1, ax2, ax3, ax4, ax5, ax6]
     refine wA ?_
     try simp [sm]
     refine c_expText lo.nodes lo 1 (Nat.le_refl _) (by omega) glo hmT.1 ?_
     simp [s0, s2, s7, sm, ax1, ax2, ax3, ax4, ax5, ax6]
     refine wA ?_
     try simp [sm]
     refine c_expText hi.nodes hi 1 (Nat.le_refl _) (by omega) ghi hmT.1 ?_
     simp [s0, s2, s7, sm, ax1, ax2, ax3, ax4, ax5, ax6]
     refine wA ?_
     try simp [sm]
     refine c_WriteString hB (txt x6) (by have e := txt_size x6; simp only [List.length_append] at *; omega) fun m2 F2 hB hO2 => ?_
     rw [txt_list] at hB
     have hO := hO.trans hO2
     have hmT := hmT'.2 hO
     try simp
     refine AWp.gen (fun st => st.slots 0 = .ptr gb 0 /\ st.slots 2 = .str (txt pad) /\ st.slots 8 = .lst false 19 (l.map Sm.av) /\ st.slots 9 = .int .i64 l.length /\ st.slots 10 = .int .i64 i /\ st.slots 7 = .ref (.int .i64 3 :: .str (txt w) :: .int .i64 0 :: .int .i64 0 :: .str ⟨#[]⟩ :: .lst false 4 [] :: .int .i64 0 :: .int .i64 0 :: .str ⟨#[]⟩ :: .lst false 4 [] :: (lo.cells ++ (hi.cells ++ [.lst false 19 (b.map Sm.av)]))) /\ st.mem = m2) ⟨by simp [s0], by simp [s2], by simp [s8], by simp [s9], by simp [s10], by simp [s7], by simp⟩ ?_
     clear s0 s2 s7 s8 s9 s10 sm
     rintro st ⟨s0, s2, s8, s9, s10, s7, sm⟩
     (repeat refine qA ?_);refine rA ?_
     simp [s0, s2, s7, sm, apd]
     refine wA ?_
     try simp [sm]
     have lB := congrArg List.length dx6
     refine ih b (d + 1) pd hbz (by omega) hb3 hpl (by omega) hB hmT.1 hmT.2 (by simp only [List.length_append] at *; omega) fun m3 F3 hB hO3 => ?_
     have hO := hO.trans hO3
     have hmT := hmT'.2 hO
     try simp
     refine AWp.gen (fun st => st.slots 0 = .ptr gb 0 /\ st.slots 2 = .str (txt pad) /\ st.slots 8 = .lst false 19 (l.map Sm.av) /\ st.slots 9 = .int .i64 l.length /\ st.slots 10 = .int .i64 i /\ st.mem = m3) ⟨by simp [s0], by simp [s2], by simp [s8], by simp [s9], by simp [s10], by simp⟩ ?_
     clear s0 s2 s7 s8 s9 s10 sm
     rintro st ⟨s0, s2, s8, s9, s10, sm⟩
     (repeat refine qA ?_);refine rA ?_
     simp [s0, s2, sm, ape]
     refine wA ?_
     try simp [sm]
     refine c_WriteString hB (txt pe) (by have e := txt_size pe; simp only [List.length_append] at *; omega) fun m4 F4 hB hO4 => ?_
     rw [txt_list] at hB
     have hO := hO.trans hO4
     have hmT := hmT'.2 hO
     try simp
     subst hM2
     refine ⟨F4, by simp [s0], by simp [s2], by simp [s8], by simp [s9], by simp [s10], ?_, by simpa using hO⟩
     rw [hpe, dx6, dx5, dx4, dx3, dx2, dx1, hpd] at hB
     simpa [smFor, hwl, Sm.pr, forT, toT, prT] using hB
    | print e he =>
     have ze := ok_len he
     obtain ⟨ge, ne, _⟩ := ok_ht he
     simp only [smSet, smPut, smFor, smPrint, Sm.cells_mk, zE, Ex.cells_mk, List.map_nil, List.cons_append, List.nil_append] at s7
     obtain ⟨x1, dx1⟩ : ∃ x, x = [112, 114, 105, 110, 116, 32] ++ e.pr := ⟨_, rfl⟩
     have lx1 : x1.length = [112, 114, 105, 110, 116, 32].length + e.pr.length := by rw [dx1]; first | (simp; done) | (simp; omega)
     have kkx1 : List.length ([112, 114, 105, 110, 116, 32] : List UInt8) = 6 := rfl
     have ax1 : binA .add (.str (⟨#[112, 114, 105, 110, 116, 32]⟩)) (.str (txt e.pr)) = some (.str (txt x1)) := by rw [dx1]; exact aT [112, 114, 105, 110, 116, 32] e.pr (by omega)
     obtain ⟨x2, dx2⟩ : ∃ x, x = x1 ++ [59, 10] := ⟨_, rfl⟩
     have lx2 : x2.length = x1.length + [59, 10].length := by rw [dx2]; first | (simp; done) | (simp; omega)
     have kx2 : List.length ([59, 10] : List UInt8) = 2 := rfl
     have ax2 : binA .add (.str (txt x1)) (.str (⟨#[59, 10]⟩)) = some (.str (txt x2)) := by rw [dx2]; exact aT x1 [59, 10] (by omega)
     (repeat refine qA ?_);refine rA ?_
     simp [s7]
     (repeat refine qA ?_);refine bA ?_
     (repeat refine qA ?_);refine rA ?_
     simp
     (repeat refine qA ?_);refine fA ?_
     (repeat refine qA ?_);refine rA ?_
     simp
     (repeat refine qA ?_);refine fA ?_
     (repeat refine qA ?_);refine rA ?_
     simp
     (repeat refine qA ?_);refine tA ?_
     (repeat refine qA ?_);refine rA ?_
     simp [s0, s2, s7, sm, ax1, ax2]
     refine wA ?_
     try simp [sm]
     refine c_expText e.nodes e 1 (Nat.le_refl _) (by omega) ge hmT.1 ?_
     simp [s0, s2, s7, sm, ax1, ax2]
     refine wA ?_
     try simp [sm]
     refine c_WriteString hB (txt x2) (by have e := txt_size x2; simp only [List.length_append] at *; omega) fun m2 F2 hB hO2 => ?_
     rw [txt_list] at hB
     have hO := hO.trans hO2
     have hmT := hmT'.2 hO
     try simp
     subst hM2
     refine ⟨F2, by simp [s0], by simp [s2], by simp [s8], by simp [s9], by simp [s10], ?_, by simpa using hO⟩
     rw [dx2, dx1] at hB
     simpa [smPrint, Sm.pr, forT, toT, prT] using hB
   clear s0 s2 s8 s9 s10 hx hB hO
   intro st hst
   subst hM2
   obtain ⟨F2, s0, s2, s8, s9, s10, hB, hO⟩ := hst
   (repeat refine qA ?_);refine rA ?_
   simp [s10, hw]
   exact hRR _ (l.length - (i + 1)) (by omega) ⟨i + 1, F2, rfl, by omega, by simp [s0], by simp [s2], by simp [s8], by simp [s9], by simp, by rw [hnx]; simpa using hB, by simpa using hO⟩
  have : i = l.length := by omega
  subst this
  (repeat refine qA ?_);refine rA ?_
  simp [s9, s10]
  (repeat refine qA ?_);refine fA ?_
  refine eA ?_
  rw [List.take_length] at hB
  exact ⟨F1, by simpa using hB, by simpa using hO⟩
end Go.T
namespace Go.T
open Go Go.Proofs
set_option maxRecDepth 10000
set_option maxHeartbeats 1000000
open Go
theorem zero_run {P : Program} {T : TypeId} {v : Value} (h : (P.info? T).bind (·.zero) = some v) : ∀ w, (zeroValue T).run P w = .ok v w := by
 obtain ⟨i, hi, hz⟩ := Option.bind_eq_some_iff.1 h
 intro w
 simp [zeroValue, run_tinfo hi, hz]
theorem c_impl_ProgText (p : Pg) (ht : p.tot <= 1048576) {Tt : TypeId} {m : Mem} (hm : m TB = some (tabBlk Tt)) {K : AV -> Mem -> Prop} (hK : ∀ m', Ext m m' -> K (.str p.txt) m') : WCall Tryz.prog 10 [p.av] m K := by
 have ho := c_impl_ProgOk p ht
 refine wcall_of Tryz.func10 (by kernel_rfl) rfl (by simp [Tryz.f10]) ?_
 have hc : p.cells = [.lst false 2 (p.arrs.map Ar.av), .lst false 19 (p.body.map Sm.av)] := rfl
 unfold Pg.av at ho ⊢
 rw [hc] at ho ⊢
 (repeat refine qA ?_);refine rA ?_
 simp
 intro g1 hg1
 refine AWp.sees (Sees.view (t := 1) (View.freezeB (g := g1) (cs := [.lst false 2 (p.arrs.map Ar.av), .lst false 19 (p.body.map Sm.av)]) (by simp))) ?_
 refine AWp.gen (fun st => st.slots 1 = .ref [.lst false 2 (p.arrs.map Ar.av), .lst false 19 (p.body.map Sm.av)] /\ st.mem = m) ⟨by simp, by simp [set_del9 hg1]⟩ ?_
 rintro st ⟨s1, sm⟩
 (repeat refine qA ?_);refine raA ?_
 simp [s1]
 refine oC' ho ?_
 simp
 cases h : p.ok with
 | false =>
  (repeat refine qA ?_);refine tA ?_
  (repeat refine qA ?_);refine rA ?_
  simp
  refine AWp.ret (post_retW rfl ⟨_, _, View.refl _ _, ?_⟩)
  have hk := hK m (Ext.refl m)
  simpa [Pg.txt, h, sm] using hk
 | true =>
  (repeat refine qA ?_);refine fA ?_
  refine kA ?_
  try simp
  obtain ⟨hA, h4, h40, hR⟩ := ok_parts h
  have z1 := arsPr_len _ _ hA
  have z2 := (sm_len 40).2 p.body 0 [] h40 hR (by simp) (by omega)
  (repeat refine qA ?_);refine AWp.regionRaw (v := .agg #[.pointer none, .slice none 0 0]) (by decide) (zero_run (by kernel_rfl)) ?_
  intro gb hgb
  simp at hgb
  rw [sm] at hgb
  refine AWp.gen (fun st => st.slots 1 = .ref [.lst false 2 (p.arrs.map Ar.av), .lst false 19 (p.body.map Sm.av)] /\ st.slots 3 = .ptr gb 0 /\ st.mem = m.set gb (.raw 55 [.pointer none, .slice none 0 0])) ⟨by simp [s1], by simp, by simp [sm, Value.cells]⟩ ?_
  have hB0 := Bld.fresh 55 5 gb m
  have hO0 := offB_fresh hgb (.raw 55 [.pointer none, .slice none 0 0])
  generalize m.set gb (.raw 55 [.pointer none, .slice none 0 0]) = m0 at *
  clear s1 sm
  rintro st ⟨s1, s3, sm⟩
  have hmT' : ∀ {F' : Nat -> Prop} {m' : Mem}, OffB (fun k => k = gb) F' m0 m' -> m' TB = some (tabBlk Tt) /\ ¬ F' TB := fun hO => hO _ _ (hO0 _ _ hm).2 (hO0 _ _ hm).1
  (repeat refine qA ?_);refine rA ?_
  simp [s1]
  obtain ⟨M, hM⟩ : ∃ M : St -> Prop, M = (fun st => ∃ F', st.slots 1 = .ref [.lst false 2 (p.arrs.map Ar.av), .lst false 19 (p.body.map Sm.av)] /\ st.slots 3 = .ptr gb 0 /\ Bld 55 5 F' gb (arsPr p.arrs) st.mem /\ OffB (fun k => k = gb) F' m0 st.mem) := ⟨_, rfl⟩
  (repeat refine qA ?_);refine AWp.cutA M ?_ ?_
  ·refine AWp.block (AWp.rounds (fun q st => ∃ (i : Nat) (F' : Nat -> Prop), q = p.arrs.length - i /\ i <= p.arrs.length /\ st.slots 1 = .ref [.lst false 2 (p.arrs.map Ar.av), .lst false 19 (p.body.map Sm.av)] /\ st.slots 3 = .ptr gb 0 /\ st.slots 10 = .lst false 2 (p.arrs.map Ar.av) /\ st.slots 11 = .int .i64 p.arrs.length /\ st.slots 12 = .int .i64 i /\ Bld 55 5 F' gb (arsPr (p.arrs.take i)) st.mem /\ OffB (fun k => k = gb) F' m0 st.mem) p.arrs.length ⟨0, _, by simp, by simp, by simp [s1], by simp [s3], by simp, by simp, by simp, by simpa [arsPr, sm] using hB0, by simpa [sm] using OffB.refl _ m0⟩ ?_)
   clear s1 s3 sm
   rintro RR q st hRR ⟨i, F1, rfl, hi, s1, s3, s10, s11, s12, hB, hO⟩
   by_cases hbl : i < p.arrs.length
   ·have hx : ∀ m, idxA Tryz.prog m 29 (.lst false 2 (p.arrs.map Ar.av)) (.int .i64 i) = some (.ref [.str p.arrs[i].s, .int .i64 p.arrs[i].n]) := fun m => idx (y := p.arrs[i].av) es_29 (by simp [List.getElem?_eq_getElem hbl])
    have hw := iA i (by omega)
    have hnx := arsPr_take hbl
    have hA2 := arsPr_split p.arrs i
    have hrx := arr_at hA _ (List.getElem_mem hbl)
    generalize arsPr (p.arrs.take i) = A at *
    (repeat refine qA ?_);refine rA ?_
    simp [s11, s12, hbl]
    (repeat refine qA ?_);refine tA ?_
    refine kA ?_
    try simp
    obtain ⟨M2, hM2⟩ : ∃ M2 : St -> Prop, M2 = (fun st => ∃ F', st.slots 1 = .ref [.lst false 2 (p.arrs.map Ar.av), .lst false 19 (p.body.map Sm.av)] /\ st.slots 3 = .ptr gb 0 /\ st.slots 10 = .lst false 2 (p.arrs.map Ar.av) /\ st.slots 11 = .int .i64 p.arrs.length /\ st.slots 12 = .int .i64 i /\ Bld 55 5 F' gb (A ++ p.arrs[i].pr) st.mem /\ OffB (fun k => k = gb) F' m0 st.mem) := ⟨_, rfl⟩
    (repeat refine qA ?_);refine AWp.cutA M2 ?_ ?_
    ·(repeat refine qA ?_);refine bA ?_
     obtain ⟨ms, hms⟩ : ∃ ms, ms = st.mem := ⟨_, rfl⟩
     rw [<- hms] at hB hO
     have hmT := hmT' hO
     (repeat refine qA ?_);refine rA ?_
     simp [s10, s12, hx]
     intro g hgn
     refine AWp.sees (Sees.view (t := 5) (View.freezeB (g := g) (cs := [.str p.arrs[i].s, .int .i64 p.arrs[i].n]) (by simp))) ?_
     refine AWp.gen (fun st => st.slots 1 = .ref [.lst false 2 (p.arrs.map Ar.av), .lst false 19 (p.body.map Sm.av)] /\ st.slots 3 = .ptr gb 0 /\ st.slots 10 = .lst false 2 (p.arrs.map Ar.av) /\ st.slots 11 = .int .i64 p.arrs.length /\ st.slots 12 = .int .i64 i /\ st.slots 5 = .ref [.str p.arrs[i].s, .int .i64 p.arrs[i].n] /\ st.mem = ms) ⟨by simp [s1], by simp [s3], by simp [s10], by simp [s11], by simp [s12], by simp, by simp [set_del9 hgn, hms]⟩ ?_
     clear s1 s3 s10 s11 s12 hx hms hgn
     generalize p.arrs[i] = z at *
     obtain ⟨s, n⟩ := z
     simp only at hrx
     rintro st ⟨s1, s3, s10, s11, s12, s5, sm⟩
     obtain ⟨hs, hn1, hn2⟩ := hrx
     obtain ⟨w, rfl⟩ : ∃ w, s = txt w := ⟨s.data.toList, (mk_list s).symm⟩
     have hwl : (txt w).data.toList = w := list_mk w
     have hsl := name_len hs
     rw [hwl] at hsl
     have hnl := num_len (n := n) (by omega) (by omega)
     have hnb : numB n = txt (Lib.itoa n) := rfl
     obtain ⟨x1, dx1⟩ : ∃ x, x = [97, 114, 114, 97, 121, 32] ++ w := ⟨_, rfl⟩
     have lx1 : x1.length = [97, 114, 114, 97, 121, 32].length + w.length := by rw [dx1]; first | (simp; done) | (simp; omega)
     have kkx1 : List.length ([97, 114, 114, 97, 121, 32] : List UInt8) = 6 := rfl
     have ax1 : binA .add (.str (⟨#[97, 114, 114, 97, 121, 32]⟩)) (.str (txt w)) = some (.str (txt x1)) := by rw [dx1]; exact aT [97, 114, 114, 97, 121, 32] w (by omega)
     obtain ⟨x2, dx2⟩ : ∃ x, x = x1 ++ [32] := ⟨_, rfl⟩
     have lx2 : x2.length = x1.length + [32].length := by rw [dx2]; first | (simp; done) | (simp; omega)
     have kx2 : List.length ([32] : List UInt8) = 1 := rfl
     have ax2 : binA .add (.str (txt x1)) (.str (⟨#[32]⟩)) = some (.str (txt x2)) := by rw [dx2]; exact aT x1 [32] (by omega)
     obtain ⟨x3, dx3⟩ : ∃ x, x = x2 ++ (Lib.itoa n) := ⟨_, rfl⟩
     have lx3 : x3.length = x2.length + (Lib.itoa n).length := by rw [dx3]; first | (simp; done) | (simp; omega)
     have ax3 : binA .add (.str (txt x2)) (.str (txt (Lib.itoa n))) = some (.str (txt x3)) := by rw [dx3]; exact aT x2 (Lib.itoa n) (by omega)
     obtain ⟨x4, dx4⟩ : ∃ x, x = x3 ++ [59, 10] := ⟨_, rfl⟩
     have lx4 : x4.length = x3.length + [59, 10].length := by rw [dx4]; first | (simp; done) | (simp; omega)
     have kx4 : List.length ([59, 10] : List UInt8) = 2 := rfl
     have ax4 : binA .add (.str (txt x3)) (.str (⟨#[59, 10]⟩)) = some (.str (txt x4)) := by rw [dx4]; exact aT x3 [59, 10] (by omega)
     (repeat refine qA ?_);refine AWp.regionG (fun _ => false) (fun i => i == 1 || i == 5) [0, 1, 2, 3, 4, 5, 6, 7, 8, 9] [0, 1, 2, 3, 4, 5, 6, 7, 8, 9] (by kernel_rfl) ?_
     simp [s1, s3, s5, sm, ax1, ax2, ax3, ax4]
     refine wA ?_
     try simp [sm]
     refine c_impl_NumText n (by omega) (by omega) hmT.1 ?_
     simp [hnb, s3, ax1, ax2, ax3, ax4]
     refine wA ?_
     try simp [sm, s3]
     refine c_WriteString hB (txt x4) (by have e := txt_size x4; omega) fun m2 F2 hB hO2 => ?_
     rw [txt_list] at hB
     have hO := hO.trans hO2
     try simp
     subst hM2
     refine ⟨F2, by simp [s1], by simp [s3], by simp [s10], by simp [s11], by simp [s12], ?_, by simpa using hO⟩
     rw [dx4, dx3, dx2, dx1] at hB
     simpa [Ar.pr, arT, hwl] using hB
    clear s1 s3 s10 s11 s12 hx hB hO
    intro st hst
    subst hM2
    obtain ⟨F2, s1, s3, s10, s11, s12, hB, hO⟩ := hst
    (repeat refine qA ?_);refine rA ?_
    simp [s12, hw]
    exact hRR _ (p.arrs.length - (i + 1)) (by omega) ⟨i + 1, F2, rfl, by omega, by simp [s1], by simp [s3], by simp [s10], by simp [s11], by simp, by rw [hnx]; simpa using hB, by simpa using hO⟩
   have : i = p.arrs.length := by omega
   subst this
   (repeat refine qA ?_);refine rA ?_
   simp [s11, s12]
   (repeat refine qA ?_);refine fA ?_
   refine eA ?_
   try simp
   subst hM
   rw [List.take_length] at hB
   exact ⟨F1, by simp [s1], by simp [s3], by simpa using hB, by simpa using hO⟩
  clear s1 s3 sm
  intro st hst
  subst hM
  obtain ⟨F1, s1, s3, hB, hO⟩ := hst
  have hmT := hmT' hO
  have ae : txt [] = (⟨#[]⟩ : ByteArray) := rfl
  (repeat refine qA ?_);refine rA ?_
  simp [s1, s3]
  refine wA ?_
  try simp [s3]
  have hp := @c_putStmts 40 p.body 0 [] h40 (by omega) hR (by simp) (by omega) gb F1 (arsPr p.arrs) st.mem Tt hB hmT.1 hmT.2 (by omega)
  rw [ae] at hp
  refine hp fun m3 F3 hB hO3 => ?_
  have hO := hO.trans hO3
  try simp
  refine AWp.gen (fun st => st.slots 3 = .ptr gb 0 /\ st.mem = m3) ⟨by simp [s3], by simp⟩ ?_
  clear s1 s3
  rintro st ⟨s3, sm⟩
  (repeat refine qA ?_);refine rA ?_
  simp [s3]
  refine wA ?_
  try simp [sm, s3]
  refine c_BString hB fun m4 hm4 => ?_
  try simp
  refine AWp.ret (post_retW rfl ⟨_, _, View.refl _ _, ?_⟩)
  have hk := hK m4 fun x b hx => hm4 _ _ (hO _ _ (hO0 _ _ hx).2 (hO0 _ _ hx).1).2 (hO _ _ (hO0 _ _ hx).2 (hO0 _ _ hx).1).1
  simpa [Pg.txt, h, Pg.pr, txt] using hk
theorem txtE_size (e : Ex) : e.txt.size <= 1000 := by
 unfold Ex.txt
 split
 ·rename_i h
  rw [txt_size]
  have := ok_len h
  omega
 decide
theorem txtP_size (p : Pg) : p.txt.size <= 100000 := by
 unfold Pg.txt
 split
 ·rename_i h
  obtain ⟨hA, h4, h40, hR⟩ := ok_parts h
  have z1 := arsPr_len _ _ hA
  have z2 := (sm_len 40).2 p.body 0 [] h40 hR (by simp) (by omega)
  rw [txt_size, Pg.pr, List.length_append]
  omega
 decide
theorem c_FnPrinted (l : List Int) (hby : ∀ x ∈ l, 0 <= x /\ x <= 255) (Tb : TypeId) : WCall Tryz.prog 3 [bys l] (tabMem TB Tb) fun r m' => r = .bool true /\ m' TB = some (tabBlk Tb) := by
 have hm : tabMem TB Tb TB = some (tabBlk Tb) := by simp [tabMem]
 generalize tabMem TB Tb = m at *
 refine wcall_of Tryz.func3 (by kernel_rfl) rfl (by simp [Tryz.f3]) ?_
 (repeat refine qA ?_);refine rA ?_
 simp
 by_cases hlen : l.length <= 1048576
 rotate_left
 ·(repeat refine qA ?_);refine raA ?_
  simp
  refine oC' (c_bigT l hlen) ?_
  simp
  (repeat refine qA ?_);refine tA ?_
  (repeat refine qA ?_);refine rA ?_
  simp
  exact AWp.ret (post_retW rfl ⟨_, _, View.refl _ _, by simp, by simpa using hm⟩)
 have hl : byOk l := ⟨hlen, hby⟩
 (repeat refine qA ?_);refine raA ?_
 simp
 refine oC' (c_big l hl) ?_
 simp
 (repeat refine qA ?_);refine fA ?_
 refine kA ?_
 try simp
 refine AWp.gen (fun st => st.slots 0 = bys l /\ st.mem = m) ⟨by simp, by simp⟩ ?_
 rintro st ⟨s0, sm⟩
 (repeat refine qA ?_);refine rA ?_
 simp [s0]
 refine wA ?_
 simp [sm]
 refine c_DrawExpText l hl fun e m1 he hE1 => ?_
 simp [Ex.av]
 intro g3 hg3
 try refine ⟨okE _, ?_⟩
 have tk : List.take 4 e.cells = e.cells := List.take_of_length_le (by simp)
 have hE2 := hE1.trans (ext_set hg3 (.box e.cells))
 have w3 := set_same m1 g3 (.box e.cells)
 have hm2 := hE2 _ _ hm
 refine AWp.gen (fun st => st.slots 0 = bys l /\ st.slots 3 = .ptr g3 0 /\ st.mem = m1.set g3 (.box e.cells)) ⟨by simp [s0], by simp, by simp⟩ ?_
 generalize m1.set g3 (.box e.cells) = m2 at *
 clear s0 sm hg3 hE1 hE2
 rintro st ⟨s0, s3, sm⟩
 have hE : e.tot <= 1048576 := by omega
 (repeat refine qA ?_);refine rA ?_
 simp [s3, sm, w3, tk]
 refine wA ?_
 try simp [sm]
 refine c_impl_ExpText e hE hm2 fun m3 hE3 => ?_
 have w3 := hE3 _ _ w3
 have hm3 := hE3 _ _ hm2
 try simp
 refine AWp.gen (fun st => st.slots 0 = bys l /\ st.slots 3 = .ptr g3 0 /\ st.slots 4 = .str e.txt /\ st.mem = m3) ⟨by simp [s0], by simp [s3], by simp, by simp⟩ ?_
 clear s0 s3 sm hm2 hE3
 rintro st ⟨s0, s3, s4, sm⟩
 (repeat refine qA ?_);refine rA ?_
 simp [s0]
 refine wA ?_
 try simp [sm]
 refine c_DrawProgText l hl fun p m4 hp hE4 => ?_
 have w3 := hE4 _ _ w3
 have hm4 := hE4 _ _ hm3
 simp [Pg.av, Pg.cells]
 intro g5 hg5
 have hE5 := ext_set hg5 (.box [.lst false 2 (p.arrs.map Ar.av), .lst false 19 (p.body.map Sm.av)])
 have w5 := set_same m4 g5 (.box [.lst false 2 (p.arrs.map Ar.av), .lst false 19 (p.body.map Sm.av)])
 have w3 := hE5 _ _ w3
 have hm5 := hE5 _ _ hm4
 refine AWp.gen (fun st => st.slots 3 = .ptr g3 0 /\ st.slots 4 = .str e.txt /\ st.slots 5 = .ptr g5 0 /\ st.mem = m4.set g5 (.box [.lst false 2 (p.arrs.map Ar.av), .lst false 19 (p.body.map Sm.av)])) ⟨by simp [s3], by simp [s4], by simp, by simp⟩ ?_
 generalize m4.set g5 (.box [.lst false 2 (p.arrs.map Ar.av), .lst false 19 (p.body.map Sm.av)]) = m5 at *
 clear s0 s3 s4 sm hm4 hE4 hE5 hg5 hm3
 rintro st ⟨s3, s4, s5, sm⟩
 have hP : p.tot <= 1048576 := by omega
 have hxc : (AV.agg [.lst false 2 (p.arrs.map Ar.av), .lst false 19 (p.body.map Sm.av)]) = p.av := rfl
 (repeat refine qA ?_);refine rA ?_
 simp [s5, sm, w5, hxc]
 refine wA ?_
 try simp [sm]
 refine c_impl_ProgText p hP hm5 fun m6 hE6 => ?_
 have w3 := hE6 _ _ w3
 have w5 := hE6 _ _ w5
 have hm6 := hE6 _ _ hm5
 try simp
 refine AWp.gen (fun st => st.slots 3 = .ptr g3 0 /\ st.slots 4 = .str e.txt /\ st.slots 5 = .ptr g5 0 /\ st.slots 6 = .str p.txt /\ st.mem = m6) ⟨by simp [s3], by simp [s4], by simp [s5], by simp, by simp⟩ ?_
 clear s3 s4 s5 sm hm5 hE6
 rintro st ⟨s3, s4, s5, s6, sm⟩
 have ce := c_spec_ExpText e hE
 have cp := c_spec_ProgText p hP
 have co := xEO e hE
 have cpo := c_spec_ProgOk p hP
 unfold Ex.av at ce co
 (repeat refine qA ?_);refine raA ?_
 simp [s3, s4, s5, s6, sm, w3, w5, tk, hxc]
 refine oC' ce ?_
 simp [s3, s4, s5, s6, sm, w3, w5, tk, hxc, binA, strA]
 refine oC' cp ?_
 simp [binA, strA]
 (repeat refine qA ?_);refine fA ?_
 refine kA ?_
 try simp
 (repeat refine qA ?_);refine raA ?_
 simp [s3, sm, w3, tk]
 refine oC' co ?_
 try simp
 refine AWp.gen (fun st => st.slots 3 = .ptr g3 0 /\ st.slots 4 = .str e.txt /\ st.slots 5 = .ptr g5 0 /\ st.slots 6 = .str p.txt /\ st.slots 34 = .bool e.ok /\ st.mem = m6) ⟨by simp [s3], by simp [s4], by simp [s5], by simp [s6], by simp, by simp [sm]⟩ ?_
 clear s3 s4 s5 s6 sm ce co
 rintro st ⟨s3, s4, s5, s6, s34, sm⟩
 obtain ⟨M, hM⟩ : ∃ M : St -> Prop, M = (fun st => ∃ m7, Ext m6 m7 /\ st.slots 5 = .ptr g5 0 /\ st.slots 6 = .str p.txt /\ st.mem = m7) := ⟨_, rfl⟩
 (repeat refine qA ?_);refine AWp.cutA M ?_ ?_
 ·cases heo : e.ok with
  | false =>
   rw [heo] at s34
   refine AWp.condF (by simp [s34]) ?_
   refine kA ?_
   subst hM
   exact ⟨m6, Ext.refl _, by simp [s5], by simp [s6], by simp [sm]⟩
  | true =>
   rw [heo] at s34
   refine AWp.condT (by simp [s34]) ?_
   have hback := parseE_back heo
   have hz := txtE_size e
   (repeat refine qA ?_);refine rA ?_
   simp [s4]
   refine wA ?_
   try simp [sm]
   refine c_impl_ParseExp e.txt (by omega) hm6 fun m7 F r hE7 hTr => ?_
   rw [hback] at hTr ⊢
   simp only [Option.getD_some, Option.isSome_some] at hTr ⊢
   obtain ⟨c0, c1', c2, c3, rfl, q0, q1, q2, q3⟩ := hTr.cs
   have w3 := hE7 _ _ w3
   have w5 := hE7 _ _ w5
   have hm7 := hE7 _ _ hm6
   simp [q0, q1, q2, q3]
   intro g7 hg7
   have hE8 := ext_set hg7 (.box [c0, c1', c2, c3])
   have w7 := set_same m7 g7 (.box [c0, c1', c2, c3])
   have w3 := hE8 _ _ w3
   have nF7 : ¬ F g7 := hTr.fresh hg7
   have hown := (hTr.set nF7 (.box [c0, c1', c2, c3])).own
   have hE9 := hE7.trans hE8
   refine AWp.gen (fun st => st.slots 3 = .ptr g3 0 /\ st.slots 5 = .ptr g5 0 /\ st.slots 6 = .str p.txt /\ st.slots 7 = .ptr g7 0 /\ st.slots 8 = .bool true /\ st.mem = m7.set g7 (.box [c0, c1', c2, c3])) ⟨by simp [s3], by simp [s5], by simp [s6], by simp, by simp, by simp⟩ ?_
   generalize m7.set g7 (.box [c0, c1', c2, c3]) = m8 at *
   clear s3 s4 s5 s6 s34 sm hTr
   rintro st ⟨s3, s5, s6, s7, s8, sm⟩
   have ex : (AV.agg e.cells) = e.av := rfl
   (repeat refine qA ?_);refine rA ?_
   simp [s3, s7, s8, sm, w3, w7, tk, ex]
   obtain ⟨_, hL⟩ : ∃ F : Nat -> Prop, Lent m8 F [.agg [c0, c1', c2, c3], e.av] [e.av, e.av] := ((Lent.nil m8).same e.av).own hown
   refine wA ?_
   try simp [sm, s7, s8, s3, w3, w7, tk, ex]
   refine PCall.lend (c_spec_SameExp e hE) hL rfl ?_
   clear hL
   try simp [s8]
   (repeat refine qA ?_);refine fA ?_
   refine kA ?_
   subst hM
   exact ⟨m8, hE9, by simp [s5], by simp [s6], by simp [sm]⟩
 clear s3 s4 s5 s6 s34 sm
 intro st hst
 subst hM
 obtain ⟨m7, hE7, s5, s6, sm⟩ := hst
 have w5 := hE7 _ _ w5
 have hm7 := hE7 _ _ hm6
 clear w3
 (repeat refine qA ?_);refine raA ?_
 simp [s5, sm, w5, hxc]
 refine oC' cpo ?_
 try simp
 cases hpo : p.ok with
 | false =>
  (repeat refine qA ?_);refine tA ?_
  have ht : p.txt = ⟨#[]⟩ := by unfold Pg.txt; rw [if_neg (by simp [hpo])]
  (repeat refine qA ?_);refine rA ?_
  simp [s6, ht, binA, strA]
  refine AWp.ret (post_retW rfl ⟨_, _, View.refl _ _, ?_, by simpa [sm] using hm7⟩)
  first | (simp; done) | rfl | decide
 | true =>
  (repeat refine qA ?_);refine fA ?_
  refine kA ?_
  try simp
  have hback := parse_back hpo
  have hz := txtP_size p
  (repeat refine qA ?_);refine rA ?_
  simp [s6]
  refine wA ?_
  try simp [sm]
  refine c_impl_Lex p.txt (by omega) hm7 ?_
  try simp
  obtain ⟨LL, hLL⟩ : ∃ x, x = (lex p.txt).getD [] := ⟨_, rfl⟩
  obtain ⟨fine, hfine⟩ : ∃ x, x = (lex p.txt).isSome := ⟨_, rfl⟩
  rw [<- hLL, <- hfine]
  refine AWp.gen (fun st => st.slots 5 = .ptr g5 0 /\ st.slots 6 = .str p.txt /\ st.slots 9 = .lst false 3 (LL.map Tk.av) /\ st.slots 10 = .bool fine /\ st.mem = m7) ⟨by simp [s5], by simp [s6], by simp, by simp, by simp⟩ ?_
  clear s5 s6 sm
  rintro st ⟨s5, s6, s9, s10, sm⟩
  (repeat refine qA ?_);refine rA ?_
  simp [s6]
  refine wA ?_
  try simp [sm]
  refine c_impl_Parse p.txt (by omega) hm7 fun m8 F r hE8 hTr => ?_
  obtain ⟨x, hxd⟩ : ∃ x, x = (parse p.txt).getD (Pg.mk [] []) := ⟨_, rfl⟩
  obtain ⟨ok, hok⟩ : ∃ b, b = (parse p.txt).isSome := ⟨_, rfl⟩
  rw [<- hok]
  rw [<- hxd] at hTr
  obtain ⟨c0, c1', rfl, q0, q1⟩ := hTr.cs2
  have w5 := hE8 _ _ w5
  have hm8 := hE8 _ _ hm7
  simp [q0, q1]
  intro g11 hg11
  have hE9 := ext_set hg11 (.box [c0, c1'])
  have w11 := set_same m8 g11 (.box [c0, c1'])
  have w5 := hE9 _ _ w5
  have hm9 := hE9 _ _ hm8
  have hown := (hTr.set (hTr.fresh hg11) (.box [c0, c1'])).own
  refine AWp.gen (fun st => st.slots 5 = .ptr g5 0 /\ st.slots 9 = .lst false 3 (LL.map Tk.av) /\ st.slots 10 = .bool fine /\ st.slots 11 = .ptr g11 0 /\ st.slots 12 = .bool ok /\ st.mem = m8.set g11 (.box [c0, c1'])) ⟨by simp [s5], by simp [s9], by simp [s10], by simp, by simp, by simp⟩ ?_
  generalize m8.set g11 (.box [c0, c1']) = m9 at *
  clear s5 s6 s9 s10 sm hTr hm7 hm8
  rintro st ⟨s5, s9, s10, s11, s12, sm⟩
  (repeat refine qA ?_);refine rA ?_
  cases fine with
  | false =>
   simp [s10]
   exact AWp.ret (post_retW rfl ⟨_, _, View.refl _ _, by simp, by simpa [sm] using hm9⟩)
  | true =>
   have hb : parse p.txt = some p := by
    rcases hback with h | h
    ·rw [h] at hfine; cases hfine
    exact h
   rw [hb] at hok hxd
   simp only [Option.getD_some, Option.isSome_some] at hok hxd
   subst hok hxd
   by_cases h500 : (500 : Int) < LL.length
   ·simp [s9, s10, h500]
    exact AWp.ret (post_retW rfl ⟨_, _, View.refl _ _, by simp, by simpa [sm] using hm9⟩)
   simp [s5, s9, s10, s11, s12, sm, w5, w11, h500, hxc]
   obtain ⟨_, hL⟩ : ∃ F : Nat -> Prop, Lent m9 F [.agg [c0, c1'], x.av] [x.av, x.av] := ((Lent.nil m9).same x.av).own hown
   refine wA ?_
   try simp [sm, s5, s9, s10, s11, s12, w5, w11, hxc]
   refine PCall.lend (c_sameProg x hP) hL rfl ?_
   clear hL
   try simp
   exact AWp.ret (post_retW rfl ⟨_, _, View.refl _ _, by simp, by simpa [sm] using hm9⟩)
end Go.T
