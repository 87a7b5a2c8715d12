/- Parts of the proof of FnParsed: FnParsed: the law. -/
import Derived.Test.YtdbnllfjmkmdiaaGreatDoorG22
import Derived.Test.YtdbnllfjmkmdiaaGreatDoorG12
set_option linter.unusedSimpArgs false
set_option linter.unusedVariables false
namespace Go.T
open Go Go.Proofs
set_option maxRecDepth 10000
set_option maxHeartbeats 1000000
open Go
theorem xkd (s : ByteArray) : ((yJa s).getD (Ex.mk 0 0 ⟨#[]⟩ [])).tot <= 1048576 := by
 cases hp : yJa s with
 | none => simp [Ex.tot]; try decide
 | some e =>
  unfold yJa at hp;cases hl : lex s with
  | none => rw [hl] at hp; cases hp
  | some T =>
   rw [hl] at hp;obtain ⟨hT, h6⟩ := x3a hl;simp only at hp;cases hs : yPa 30 T with
   | none => rw [hs] at hp; cases hp
   | some p =>
    obtain ⟨x0, r⟩ := p;have hw := (x2a 30 _ _ _ hs).2.2;have hw2 := xoe T hT;rw [hs] at hp;cases r with
    | cons t l => cases hp
    | nil =>
     simp only at hp;split at hp
     ·cases hp;simp only [Option.getD_some];omega
     cases hp
theorem zud {s : ByteArray} {p : Pg} (h : parse s = some p) : p.ok = true := by
 unfold parse wqa at h;cases hl : lex s with
 | none => rw [hl] at h; cases h
 | some T =>
  rw [hl] at h;simp only at h;split at h
  ·split at h
   ·cases h; assumption
   cases h
  cases h
theorem zvd (l : List Int) (hby : ∀ x ∈ l, 0 <= x /\ x <= 255) (Tb : TypeId) : zka Tryz.prog 5 [bys l] (zgb TB Tb) fun r m' => r = .bool true /\ m' TB = some (yba Tb) := by
 have hm0 : zgb TB Tb TB = some (yba Tb) := by simp [zgb]
 generalize zgb TB Tb = m0 at *;refine wO Tryz.func5 ?_;refine rA ?_;simp;by_cases hlen : l.length <= 1048576;rotate_left
 ·refine raA ?_;simp;refine oC' (yKe l hlen) ?_;simp;refine tA ?_;refine rA ?_;simp;exact AWp.ret (zea rfl ⟨_, _, View.refl _ _, by simp, by simpa using hm0⟩)
 have hl : yKc l := ⟨hlen, hby⟩;refine raA ?_;simp;refine oC' (wDe l hl) ?_;simp;refine fA ?_;refine kA ?_;try simp
 refine AWp.gen (fun st => st.sl 0 = bys l /\ st.mem = m0) ⟨by simp, by simp⟩ ?_;rintro st ⟨s0, sm⟩;refine rA ?_;simp [s0];refine wA ?_;simp [sm];refine xuc l hl fun s m1 hs hE1 => ?_;have hm1 := hE1 _ _ hm0;try simp
 refine AWp.gen (fun st => st.sl 0 = bys l /\ st.sl 3 = .str s /\ st.mem = m1) ⟨by first | (simp; done) | (simp [s0]; done), by simp, by first | (simp; done) | (simp [sm]; done)⟩ ?_
 clear s0 sm;rintro st ⟨s0, s3, sm⟩;have hz : s.size <= 9223372036854775807 := by omega
 have cp := yHc s hz;have hxt := zrd s;have hxo := @zud s;have hxn : (parse s).isSome = false -> (parse s).getD (Pg.mk [] []) = Pg.mk [] [] := fun h => by
  cases hq : parse s with
  | none => rfl
  | some p => rw [hq] at h; cases h
 have hxs : (parse s).isSome = true -> parse s = some ((parse s).getD (Pg.mk [] [])) := fun h => by
  cases hq : parse s with
  | none => rw [hq] at h; cases h
  | some p => rfl
 refine rA ?_;simp [s3];refine wA ?_;try simp [sm]
 refine zDb s hz hm1 fun m2 hE2 => ?_;have hm2 := hE2 _ _ hm1;unfold z6e at cp;obtain ⟨x, hxd⟩ : ∃ x, x = (parse s).getD (Pg.mk [] []) := ⟨_, rfl⟩;obtain ⟨ok, hok⟩ : ∃ b, b = (parse s).isSome := ⟨_, rfl⟩;rw [<- hxd] at cp hxt hxn hxs ⊢;rw [<- hok] at cp hxn hxs ⊢;have hxok : ok = true -> x.ok = true := fun h => hxo (hxs h);clear hxs hxo hok hxd hE1 hE2;have hxc : (AV.agg [.lst false 2 (x.arrs.map Ar.av), .lst false 19 (x.body.map Sm.av)]) = x.av := rfl;have hP : x.tot <= 1048576 := by omega
 simp [Pg.av, Pg.cells];intro g4 hg4;have hE := zFa hg4 (.box [.lst false 2 (x.arrs.map Ar.av), .lst false 19 (x.body.map Sm.av)]);have w4 := zaa m2 g4 (.box [.lst false 2 (x.arrs.map Ar.av), .lst false 19 (x.body.map Sm.av)]);have hm3 := hE _ _ hm2;refine AWp.gen (fun st => st.sl 0 = bys l /\ st.sl 3 = .str s /\ st.sl 4 = .ptr g4 0 /\ st.sl 5 = .bool ok /\ st.mem = m2.set g4 (.box [.lst false 2 (x.arrs.map Ar.av), .lst false 19 (x.body.map Sm.av)])) ⟨by first | (simp; done) | (simp [s0]; done), by first | (simp; done) | (simp [s3]; done), by simp, by simp, by first | (simp; done) | (simp [sm]; done)⟩ ?_
 clear s0 s3 sm;rintro st ⟨s0, s3, s4, s5, sm⟩;generalize m2.set g4 (.box [.lst false 2 (x.arrs.map Ar.av), .lst false 19 (x.body.map Sm.av)]) = m3 at *;refine rA ?_;simp [s3];refine oC' cp ?_;simp [Pg.av, Pg.cells, sm];intro g6 hg6;have hE := zFa hg6 (.box [.lst false 2 (x.arrs.map Ar.av), .lst false 19 (x.body.map Sm.av)]);have w6 := zaa m3 g6 (.box [.lst false 2 (x.arrs.map Ar.av), .lst false 19 (x.body.map Sm.av)]);have hm4 := hE _ _ hm3;have w4 := hE _ _ w4;refine AWp.gen (fun st => st.sl 0 = bys l /\ st.sl 4 = .ptr g4 0 /\ st.sl 5 = .bool ok /\ st.sl 6 = .ptr g6 0 /\ st.sl 7 = .bool ok /\ st.mem = m3.set g6 (.box [.lst false 2 (x.arrs.map Ar.av), .lst false 19 (x.body.map Sm.av)])) ⟨by first | (simp; done) | (simp [s0]; done), by first | (simp; done) | (simp [s4]; done), by first | (simp; done) | (simp [s5]; done), by simp, by simp, by first | (simp; done) | (simp [sm]; done)⟩ ?_
 clear s3 s0 s4 s5 sm;rintro st ⟨s0, s4, s5, s6, s7, sm⟩;generalize m3.set g6 (.box [.lst false 2 (x.arrs.map Ar.av), .lst false 19 (x.body.map Sm.av)]) = m4 at *;refine rA ?_;simp [s0];refine wA ?_;simp [sm];refine xZb l hl fun t m5 ht hE5 => ?_;have hm5 := hE5 _ _ hm4;have w4 := hE5 _ _ w4;have w6 := hE5 _ _ w6;try simp
 refine AWp.gen (fun st => st.sl 4 = .ptr g4 0 /\ st.sl 5 = .bool ok /\ st.sl 6 = .ptr g6 0 /\ st.sl 7 = .bool ok /\ st.sl 8 = .str t /\ st.mem = m5) ⟨by first | (simp; done) | (simp [s4]; done), by first | (simp; done) | (simp [s5]; done), by first | (simp; done) | (simp [s6]; done), by first | (simp; done) | (simp [s7]; done), by simp, by first | (simp; done) | (simp [sm]; done)⟩ ?_
 clear s0 s4 s5 s6 s7 sm;rintro st ⟨s4, s5, s6, s7, s8, sm⟩;have hz : t.size <= 9223372036854775807 := by omega
 have ce := xyb t hz;have het := xkd t;refine rA ?_;simp [s8];refine wA ?_;try simp [sm]
 refine ykb t hz hm5 fun m6 hE6 => ?_;have hm6 := hE6 _ _ hm5;have w4 := hE6 _ _ w4;have w6 := hE6 _ _ w6;unfold xwe at ce;obtain ⟨e, hed⟩ : ∃ x, x = (yJa t).getD (Ex.mk 0 0 ⟨#[]⟩ []) := ⟨_, rfl⟩;obtain ⟨is, his⟩ : ∃ b, b = (yJa t).isSome := ⟨_, rfl⟩;rw [<- hed] at ce het ⊢;rw [<- his] at ce ⊢;clear hed his hE5 hE6;have tk : List.take 4 e.cells = e.cells := List.take_of_length_le (by simp);have ex : (AV.agg e.cells) = e.av := rfl;simp [Ex.av];intro g9 hg9;try refine ⟨okE _, ?_⟩
 have hE := zFa hg9 (.box e.cells);have w9 := zaa m6 g9 (.box e.cells);have hm7 := hE _ _ hm6;have w4 := hE _ _ w4;have w6 := hE _ _ w6;refine AWp.gen (fun st => st.sl 4 = .ptr g4 0 /\ st.sl 5 = .bool ok /\ st.sl 6 = .ptr g6 0 /\ st.sl 7 = .bool ok /\ st.sl 8 = .str t /\ st.sl 9 = .ptr g9 0 /\ st.sl 10 = .bool is /\ st.mem = m6.set g9 (.box e.cells)) ⟨by first | (simp; done) | (simp [s4]; done), by first | (simp; done) | (simp [s5]; done), by first | (simp; done) | (simp [s6]; done), by first | (simp; done) | (simp [s7]; done), by first | (simp; done) | (simp [s8]; done), by simp, by simp, by first | (simp; done) | (simp [sm]; done)⟩ ?_
 clear s4 s5 s6 s7 s8 sm;rintro st ⟨s4, s5, s6, s7, s8, s9, s10, sm⟩;generalize m6.set g9 (.box e.cells) = m7 at *;refine rA ?_;simp [s8];refine oC' ce ?_;simp [Ex.av, sm];intro g11 hg11;try refine ⟨okE _, ?_⟩
 have hE := zFa hg11 (.box e.cells);have w11 := zaa m7 g11 (.box e.cells);have hm8 := hE _ _ hm7;have w4 := hE _ _ w4;have w6 := hE _ _ w6;have w9 := hE _ _ w9;refine AWp.gen (fun st => st.sl 4 = .ptr g4 0 /\ st.sl 5 = .bool ok /\ st.sl 6 = .ptr g6 0 /\ st.sl 7 = .bool ok /\ st.sl 9 = .ptr g9 0 /\ st.sl 10 = .bool is /\ st.sl 11 = .ptr g11 0 /\ st.sl 12 = .bool is /\ st.mem = m7.set g11 (.box e.cells)) ⟨by first | (simp; done) | (simp [s4]; done), by first | (simp; done) | (simp [s5]; done), by first | (simp; done) | (simp [s6]; done), by first | (simp; done) | (simp [s7]; done), by first | (simp; done) | (simp [s9]; done), by first | (simp; done) | (simp [s10]; done), by simp, by simp, by first | (simp; done) | (simp [sm]; done)⟩ ?_
 clear s8 s4 s5 s6 s7 s9 s10 sm;rintro st ⟨s4, s5, s6, s7, s9, s10, s11, s12, sm⟩;generalize m7.set g11 (.box e.cells) = m8 at *;have csp := zld x hP;have cse := ywa e het;refine raA ?_;simp [s4, s5, s6, s7, s9, s10, s11, s12, sm, w4, w6, w9, w11, tk, hxc, ex, yia, eqO, eqA, Tryz.underlying4];refine oC' csp ?_;simp [s4, s5, s6, s7, s9, s10, s11, s12, sm, w4, w6, w9, w11, tk, hxc, ex, yia, eqO, eqA, Tryz.underlying4];refine oC' cse ?_;simp;refine fA ?_;refine kA ?_;try simp
 refine AWp.gen (fun st => st.sl 4 = .ptr g4 0 /\ st.sl 5 = .bool ok /\ st.mem = m8) ⟨by first | (simp; done) | (simp [s4]; done), by first | (simp; done) | (simp [s5]; done), by first | (simp; done) | (simp [sm]; done)⟩ ?_
 clear s6 s7 s9 s10 s11 s12 w6 w9 w11 cse cp ce s4 s5 sm;rintro st ⟨s4, s5, sm⟩;refine rA ?_;simp [s5];cases ok with
 | false =>
  have hx0 := hxn rfl;subst hx0;refine tA ?_;refine rA ?_;simp [s4, sm, w4];exact AWp.ret (zea rfl ⟨_, _, View.refl _ _, by simp, by simpa [sm] using hm8⟩)
 | true =>
 have hpo := hxok rfl;have hback := wXc hpo;have hz := yJc x;have hxt : x.txt.size <= 9223372036854775807 := by omega
 refine fA ?_;refine kA ?_;try simp
 refine rA ?_;simp [s4, sm, w4, hxc];refine wA ?_;try simp [sm]
 refine wua x hP hm8 fun m9 hE9 => ?_;have hm9 := hE9 _ _ hm8;have w4 := hE9 _ _ w4;try simp
 refine AWp.gen (fun st => st.sl 4 = .ptr g4 0 /\ st.sl 13 = .str x.txt /\ st.mem = m9) ⟨by first | (simp; done) | (simp [s4]; done), by simp, by first | (simp; done) | (simp [sm]; done)⟩ ?_
 clear s5 s4 sm;rintro st ⟨s4, s13, sm⟩;refine rA ?_;simp [s13];refine wA ?_;try simp [sm]
 refine zZb x.txt hxt hm9 ?_;try simp
 obtain ⟨LL, hLL⟩ : ∃ y, y = (lex x.txt).getD [] := ⟨_, rfl⟩;obtain ⟨fine, hfine⟩ : ∃ y, y = (lex x.txt).isSome := ⟨_, rfl⟩;rw [<- hLL, <- hfine];refine AWp.gen (fun st => st.sl 4 = .ptr g4 0 /\ st.sl 13 = .str x.txt /\ st.sl 14 = .lst false 3 (LL.map Tk.av) /\ st.sl 15 = .bool fine /\ st.mem = m9) ⟨by first | (simp; done) | (simp [s4]; done), by first | (simp; done) | (simp [s13]; done), by simp, by simp, by first | (simp; done) | (simp [sm]; done)⟩ ?_
 clear s4 s13 sm;rintro st ⟨s4, s13, s14, s15, sm⟩;refine rA ?_;simp [s13];refine wA ?_;try simp [sm]
 refine zDb x.txt hxt hm9 fun m10 hE10 => ?_;have hm10 := hE10 _ _ hm9;have w4 := hE10 _ _ w4;obtain ⟨y, hyd⟩ : ∃ y, y = (parse x.txt).getD (Pg.mk [] []) := ⟨_, rfl⟩;obtain ⟨ok2, hok2⟩ : ∃ b, b = (parse x.txt).isSome := ⟨_, rfl⟩;rw [<- hok2, <- hyd];simp [Pg.av, Pg.cells];intro g16 hg16;have hE := zFa hg16 (.box [.lst false 2 (y.arrs.map Ar.av), .lst false 19 (y.body.map Sm.av)]);have w16 := zaa m10 g16 (.box [.lst false 2 (y.arrs.map Ar.av), .lst false 19 (y.body.map Sm.av)]);have hm11 := hE _ _ hm10;have w4 := hE _ _ w4;refine AWp.gen (fun st => st.sl 4 = .ptr g4 0 /\ st.sl 13 = .str x.txt /\ st.sl 14 = .lst false 3 (LL.map Tk.av) /\ st.sl 15 = .bool fine /\ st.sl 16 = .ptr g16 0 /\ st.sl 17 = .bool ok2 /\ st.mem = m10.set g16 (.box [.lst false 2 (y.arrs.map Ar.av), .lst false 19 (y.body.map Sm.av)])) ⟨by first | (simp; done) | (simp [s4]; done), by first | (simp; done) | (simp [s13]; done), by first | (simp; done) | (simp [s14]; done), by first | (simp; done) | (simp [s15]; done), by simp, by simp, by first | (simp; done) | (simp [sm]; done)⟩ ?_
 clear s4 s13 s14 s15 sm;rintro st ⟨s4, s13, s14, s15, s16, s17, sm⟩;generalize m10.set g16 (.box [.lst false 2 (y.arrs.map Ar.av), .lst false 19 (y.body.map Sm.av)]) = m11 at *;have cpo := x8a x hP;rw [hpo] at cpo;cases fine with
 | false =>
  refine raA ?_;simp [s4, sm, w4, hxc];refine oC' cpo ?_;simp [s15];exact AWp.ret (zea rfl ⟨_, _, View.refl _ _, by simp, by simpa [sm] using hm11⟩)
 | true =>
  have hb : parse x.txt = some x := by
   rcases hback with h | h
   ·rw [h] at hfine; cases hfine
   exact h
  rw [hb] at hok2 hyd;simp only [Option.getD_some, Option.isSome_some] at hok2 hyd;subst hok2 hyd;by_cases h500 : (500 : Int) < LL.length
  ·refine raA ?_;simp [s4, sm, w4, hxc];refine oC' cpo ?_;simp [s14, s15, h500];exact AWp.ret (zea rfl ⟨_, _, View.refl _ _, by simp, by simpa [sm] using hm11⟩)
  (repeat refine qA ?_);refine AWp.region (fun j => j == 1 || j == 15) (by kernel_rfl) ?_;simp [s4, sm, w4, hxc];refine oC' cpo ?_;simp [s4, s13, s14, s15, s16, s17, sm, w4, w16, h500, hxc];refine oC' csp ?_;simp [s4, s13, s14, s15, s16, s17, sm, w4, w16, h500, hxc];refine wA ?_;try simp [s4, s13, s14, s15, s16, s17, sm, w4, w16, h500, hxc]
  refine wua y hP hm11 fun m12 hE12 => ?_;have hm12 := hE12 _ _ hm11;simp [s13, yia, zwd];exact AWp.ret (zea rfl ⟨_, _, View.refl _ _, by simp, by simpa using hm12⟩)
end Go.T
