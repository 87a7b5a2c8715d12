/- One token. One token: the reference's hand. A text cut into tokens. The program's parser: its state; what it looks at and takes. The program's parser: products. The program's parser: what lies where; marks that are taken. -/
import Derived.Test.YtdbnllfjmkmdiaaGreatDoorG12
import Derived.Test.YtdbnllfjmkmdiaaGreatDoorG5
set_option linter.unusedSimpArgs false
set_option linter.unusedVariables false
namespace Go.T
open Go Go.Proofs
set_option maxRecDepth 10000
set_option maxHeartbeats 1000000
open Go
theorem c_runOf (want : UInt8 -> Bool) (fn : FuncId) (hw : ∀ c : UInt8, PCall Tryz.prog fn [.int .u8 c.toNat] (.bool (want c))) (s : ByteArray) (hz : s.size <= 1048576) : PCall Tryz.prog 107 [.str s, .func (.func fn) []] (.str ⟨(s.data.toList.takeWhile want).toArray⟩) := by
 have hsz := size_list s
 generalize hL : s.data.toList = L at *
 refine pO Tryz.func107 (by kernel_rfl) rfl (by simp [Tryz.f107]) ?_
 (repeat refine qA ?_);refine rA ?_
 try simp
 (repeat refine qA ?_);refine rA ?_
 simp
 obtain ⟨M, hM⟩ : ∃ M : St -> Prop, M = (fun st => ∃ i : Nat, i <= L.length /\ L.take i = L.takeWhile want /\ st.slots 0 = .str s /\ st.slots 5 = .int .i64 i) := ⟨_, rfl⟩
 (repeat refine qA ?_);refine AWp.cutA M ?_ ?_
 ·refine AWp.block (AWp.rounds (fun q st => ∃ i : Nat, q = L.length - i /\ i <= L.length /\ (∀ x ∈ L.take i, want x = true) /\ st.slots 0 = .str s /\ st.slots 1 = .func (.func fn) [] /\ st.slots 5 = .int .i64 i) L.length ⟨0, by simp, by simp, by simp, by simp, by simp, by simp⟩ ?_)
  rintro RR q st hRR ⟨i, rfl, hi, ha, s0, s1, s5⟩
  have htk := takeW_append want L i ha
  by_cases hb : i < L.length
  ·have hget : s.data.toList[i]? = some L[i] := by rw [hL]; exact List.getElem?_eq_getElem hb
   have hx : sidxA Tryz.prog 9 (.str s) (.int .i64 i) = some (.int .u8 L[i].toNat) := sidx Tryz.underlying9 hget
   have hlt : (i : Int) < s.size := by omega
   have hwr := iA i (by omega)
   have hdr : L.drop i = L[i] :: L.drop (i + 1) := List.drop_eq_getElem_cons hb
   (repeat refine qA ?_);refine rA ?_
   simp [s0, s1, s5, hlt, hx]
   refine aop_wcall _ _ _ _ _ _ _ _ rfl (show _ = AV.func (.func fn) [] by simp) ?_
   try simp
   refine (hw L[i]).w ?_
   try simp
   by_cases hf : want L[i] = true
   ·(repeat refine qA ?_);refine AWp.condT (by simp [hf]) ?_
    refine kA ?_
    try simp
    (repeat refine qA ?_);refine bA ?_
    (repeat refine qA ?_);refine rA ?_
    simp [s5, hwr]
    refine hRR _ (L.length - (i + 1)) (by omega) ⟨i + 1, rfl, by omega, ?_, by simp [s0], by simp [s1], by simp⟩
    intro x hx
    rw [List.take_succ_eq_append_getElem hb] at hx
    rcases List.mem_append.1 hx with hx | hx
    ·exact ha x hx
    simp at hx; rw [hx]; exact hf
   have hf : want L[i] = false := by simpa using hf
   (repeat refine qA ?_);refine AWp.condF (by simp [hf]) ?_
   refine eA ?_
   subst hM
   refine ⟨i, hi, ?_, by simp [s0], by simp [s5]⟩
   rw [htk, hdr, List.takeWhile_cons]
   simp [hf]
  have : i = L.length := by omega
  subst this
  have hlt : ¬ ((L.length : Int) < s.size) := by omega
  (repeat refine qA ?_);refine rA ?_
  simp [s0, s5, hlt]
  (repeat refine qA ?_);refine fA ?_
  refine eA ?_
  subst hM
  refine ⟨L.length, hi, ?_, by simp [s0], by simp [s5]⟩
  rw [htk, List.drop_length]
  simp
 intro st hst
 subst hM
 obtain ⟨i, hi, ht, s0, s5⟩ := hst
 have hsl : sliceA Tryz.prog 9 (.str s) none (some (.int .i64 i)) = some (.str (s.extract 0 i)) := by
  have h1 : ¬ ((i : Int) < 0) := by omega
  have h2 : i <= s.size := by omega
  unfold sliceA
  simp only [Tryz.underlying9, boundA, h1, if_false, Int.toNat_natCast, h2, if_true]
 (repeat refine qA ?_);refine rA ?_
 simp [s0, s5, hsl]
 refine AWp.ret (pR1 rfl ?_)
 simp [extract_list, hL, ht]
theorem Mem.ext_box {m : Mem} {g : Nat} (hg : m g = none) (cs : List AV) : ∀ k b, m k = some b -> (m.set g (.box cs)) k = some b := fun k b hk => by
 rw [Mem.set_other]
 ·exact hk
 rintro rfl; rw [hg] at hk; cases hk
theorem takeW_nil {c : UInt8} {l : List UInt8} {p : UInt8 -> Bool} (h : p c = false) : (c :: l).takeWhile p = [] := by simp [List.takeWhile_cons, h]
theorem takeW_cons {c : UInt8} {l : List UInt8} {p : UInt8 -> Bool} (h : p c = true) : (c :: l).takeWhile p ≠ [] := by simp [List.takeWhile_cons, h]
theorem drop_len (p : UInt8 -> Bool) (L : List UInt8) : (L.length : Int) - ((L.dropWhile p).length : Int) = ((L.takeWhile p).length : Int) := by
 have h1 := congrArg List.length (List.takeWhile_append_dropWhile (p := p) (l := L))
 rw [List.length_append] at h1
 omega
theorem takeW_le (p : UInt8 -> Bool) (L : List UInt8) : (L.takeWhile p).length <= L.length := by
 have h1 := congrArg List.length (List.takeWhile_append_dropWhile (p := p) (l := L))
 rw [List.length_append] at h1
 omega
theorem mk_ne {l : List UInt8} (h : l ≠ []) : (⟨l.toArray⟩ : ByteArray) ≠ ByteArray.empty := fun e => h (by
 have := congrArg (fun x : ByteArray => x.data.toList) e
 simpa using this)
theorem c_tokOf (c : UInt8) (l : List UInt8) (hz : (c :: l).length <= 1048576) {T : TypeId} {m : Mem} (hm : m TB = some (tabBlk T)) {K : AV -> Mem -> Prop}
  (hK : ∀ (k : Int) (s : ByteArray) (n z : Int), (∀ t r, tokD (c :: l) = some (t, r) -> t = ⟨k, s, n⟩ /\ z = ((c :: l).length : Int) - (r.length : Int)) -> K (.tup [.agg [.int .i64 k, .str s, .int .i64 n], .int .i64 z, .bool (tokD (c :: l)).isSome]) m) : WCall Tryz.prog 51 [.str ⟨(c :: l).toArray⟩] m K := by
 generalize hL : c :: l = L at *
 have crL := c_runOf small 108 c_isLetter ⟨L.toArray⟩ (by rw [size_mk]; exact hz)
 have crF := c_runOf figure 111 c_isFigure ⟨L.toArray⟩ (by rw [size_mk]; exact hz)
 rw [list_mk] at crL crF
 have eE : ByteArray.empty = (⟨#[]⟩ : ByteArray) := rfl
 have htw := takeW_le small L
 have htf := takeW_le figure L
 refine wcall_of Tryz.func51 (by kernel_rfl) rfl (by simp [Tryz.f51]) ?_
 (repeat refine qA ?_);refine rA ?_
 simp
 intro g hg
 have hE := Mem.ext_box hg
 have hmg : ∀ cs, (m.set g (.box cs)) TB = some (tabBlk T) := fun cs => hE cs _ _ hm
 (repeat refine qA ?_);refine rA ?_
 simp
 refine oC' crL ?_
 simp
 (repeat refine qA ?_);refine rA ?_
 simp
 by_cases hs : small c = true
 ·have hw : L.takeWhile small ≠ [] := by rw [<- hL]; exact takeW_cons hs
  have hdl := drop_len small L
  have hne := mk_ne hw
  have ht : tokD L = if kept ⟨(L.takeWhile small).toArray⟩ then some (⟨3, ⟨(L.takeWhile small).toArray⟩, 0⟩, L.dropWhile small) else if nameOk ⟨(L.takeWhile small).toArray⟩ then some (⟨1, ⟨(L.takeWhile small).toArray⟩, 0⟩, L.dropWhile small) else none := by
   rw [<- hL]; simp only [tokD, hs, if_true]
  generalize L.takeWhile small = w at *
  (repeat refine qA ?_);refine AWp.condT (by simp [hne, hw]) ?_
  (repeat refine qA ?_);refine rA ?_
  simp
  refine oC' (c_isKept ⟨w.toArray⟩) ?_
  simp
  by_cases hk : kept ⟨w.toArray⟩ = true
  ·(repeat refine qA ?_);refine AWp.condT (by simp [hk]) ?_
   rw [if_pos hk] at ht
   (repeat refine qA ?_);refine rA ?_
   simp [size_mk]
   refine AWp.ret ⟨[.agg [.int .i64 3, .str ⟨w.toArray⟩, .int .i64 0], .int .i64 w.length, .bool true], _, m, by simp [Tryz.f51, resA, size_mk, eE, marksL], by (first | exact View.forget (hE _) _ | (simp; exact View.forget (hE _) _)), ?_⟩
   have := hK 3 ⟨w.toArray⟩ 0 w.length (fun t r h => by rw [ht] at h; cases h; exact ⟨rfl, hdl.symm⟩)
   rw [ht] at this
   simpa [oneOf] using this
  (repeat refine qA ?_);refine AWp.condF (by simp [hk]) ?_
  refine kA ?_
  try simp
  rw [if_neg hk] at ht
  (repeat refine qA ?_);refine rA ?_
  simp [size_mk]
  refine oC' (c_impl_NameOk ⟨w.toArray⟩ (by rw [size_mk]; omega)) ?_
  simp
  refine AWp.ret ⟨[.agg [.int .i64 1, .str ⟨w.toArray⟩, .int .i64 0], .int .i64 w.length, .bool (nameOk ⟨w.toArray⟩)], _, m, by simp [Tryz.f51, resA, size_mk, eE, marksL], by (first | exact View.forget (hE _) _ | (simp; exact View.forget (hE _) _)), ?_⟩
  have e : (tokD L).isSome = nameOk ⟨w.toArray⟩ := by
   rw [ht]
   split
   ·rename_i h; rw [h]; rfl
   rename_i h; simp at h; rw [h]; rfl
  have := hK 1 ⟨w.toArray⟩ 0 w.length (fun t r h => by
   rw [ht] at h
   split at h
   ·cases h; exact ⟨rfl, hdl.symm⟩
   cases h)
  rw [e] at this
  simpa [oneOf] using this
 have hs : small c = false := by simpa using hs
 have hw : L.takeWhile small = [] := by rw [<- hL]; exact takeW_nil hs
 rw [hw]
 (repeat refine qA ?_);refine AWp.condF (by simp; try rfl) ?_
 refine kA ?_
 try simp
 (repeat refine qA ?_);refine rA ?_
 simp
 refine oC' crF ?_
 simp
 (repeat refine qA ?_);refine rA ?_
 simp
 by_cases hf : figure c = true
 ·have hw2 : L.takeWhile figure ≠ [] := by rw [<- hL]; exact takeW_cons hf
  have hdl := drop_len figure L
  have hne := mk_ne hw2
  have ht : tokD L = match numD (L.takeWhile figure) with | some n => if n <= 999999 then some (⟨2, ⟨#[]⟩, n⟩, L.dropWhile figure) else none | none => none := by
   rw [<- hL]; simp only [tokD, hs, hf, Bool.false_eq_true, if_true, if_false]; rfl
  generalize L.takeWhile figure = x at *
  (repeat refine qA ?_);refine AWp.condT (by simp [hne, hw2]) ?_
  (repeat refine qA ?_);refine rA ?_
  simp
  refine wA ?_
  simp
  refine c_impl_ParseNum ⟨x.toArray⟩ (by simpa using hmg _) ?_
  rw [list_mk]
  simp
  generalize hq : numD x = q at *
  cases q with
  | none =>
   (repeat refine qA ?_);refine rA ?_
   simp [size_mk]
   refine AWp.ret ⟨[.agg [.int .i64 2, .str ⟨#[]⟩, .int .i64 0], .int .i64 x.length, .bool false], _, m, by simp [Tryz.f51, resA, size_mk, eE, marksL], by (first | exact View.forget (hE _) _ | (simp; exact View.forget (hE _) _)), ?_⟩
   have := hK 2 ⟨#[]⟩ 0 x.length (fun t r h => by rw [ht] at h; cases h)
   rw [ht] at this
   simpa [oneOf] using this
  | some n =>
   simp only at ht
   by_cases h9 : n <= 999999
   ·rw [if_pos h9] at ht
    (repeat refine qA ?_);refine rA ?_
    simp [size_mk, h9]
    refine AWp.ret ⟨[.agg [.int .i64 2, .str ⟨#[]⟩, .int .i64 n], .int .i64 x.length, .bool true], _, m, by simp [Tryz.f51, resA, size_mk, eE, marksL], by (first | exact View.forget (hE _) _ | (simp; exact View.forget (hE _) _)), ?_⟩
    have := hK 2 ⟨#[]⟩ n x.length (fun t r h => by rw [ht] at h; cases h; exact ⟨rfl, hdl.symm⟩)
    rw [ht] at this
    simpa [oneOf] using this
   rw [if_neg h9] at ht
   (repeat refine qA ?_);refine rA ?_
   simp [size_mk, h9]
   refine AWp.ret ⟨[.agg [.int .i64 2, .str ⟨#[]⟩, .int .i64 n], .int .i64 x.length, .bool false], _, m, by simp [Tryz.f51, resA, size_mk, eE, marksL], by (first | exact View.forget (hE _) _ | (simp; exact View.forget (hE _) _)), ?_⟩
   have := hK 2 ⟨#[]⟩ n x.length (fun t r h => by rw [ht] at h; cases h)
   rw [ht] at this
   simpa [oneOf] using this
 have hf : figure c = false := by simpa using hf
 have hw2 : L.takeWhile figure = [] := by rw [<- hL]; exact takeW_nil hf
 rw [hw2]
 (repeat refine qA ?_);refine AWp.condF (by simp; try rfl) ?_
 refine kA ?_
 try simp
 have ht : tokD L = if marksL.contains c then some (⟨4, ⟨#[c]⟩, 0⟩, l) else none := by
  rw [<- hL]; simp only [tokD, hs, hf, Bool.false_eq_true, if_false]
 have hlen : (L.length : Int) - (l.length : Int) = 1 := by rw [<- hL, List.length_cons]; omega
 have hL1 : 1 <= L.length := by rw [<- hL, List.length_cons]; omega
 have hsl : sliceA Tryz.prog 9 (.str ⟨L.toArray⟩) none (some (.int .i64 1)) = some (.str ⟨#[c]⟩) := by
  have h2 : 1 <= (⟨L.toArray⟩ : ByteArray).size := by rw [size_mk]; omega
  have e1 : (⟨L.toArray⟩ : ByteArray).extract 0 1 = ⟨#[c]⟩ := by rw [extract_list, list_mk, <- hL]; rfl
  unfold sliceA
  simp only [Tryz.underlying9, boundA]
  simp [h2, e1]
 have cc := c_sContains ⟨#[59, 61, 91, 93, 40, 41, 123, 125, 43, 45, 42, 44]⟩ c
 (repeat refine qA ?_);refine AWp.regionG (fun i => i == 5) (fun _ => false) [0, 1, 2, 3, 4, 5, 6, 7, 8] [0, 1, 2, 3, 4, 5, 6, 7, 8] (by kernel_rfl) ?_
 simp [hsl]
 refine oC' cc ?_
 simp
 refine AWp.ret ⟨[.agg [.int .i64 4, .str ⟨#[c]⟩, .int .i64 0], .int .i64 1, .bool (marksL.contains c)], _, m, by simp [Tryz.f51, resA, size_mk, eE, marksL], by (first | exact View.forget (hE _) _ | (simp; exact View.forget (hE _) _)), ?_⟩
 have e : (tokD L).isSome = marksL.contains c := by
  rw [ht]
  split
  ·rename_i h; rw [h]; rfl
  rename_i h; simp only [Bool.not_eq_true] at h; rw [h]; rfl
 have := hK 4 ⟨#[c]⟩ 0 1 (fun t r h => by
  rw [ht] at h
  split at h
  ·cases h; exact ⟨rfl, hlen.symm⟩
  cases h)
 rw [e] at this
 simpa [oneOf, marksL] using this

theorem View.le {r r' : AV} (h : Le r r') (m : Mem) : View m r m r' := fun w S v h1 h2 => ⟨S, fun _ h => h, fun _ h => .inl h, h1, h w S v h2, fun g b h => by rw [h]; simp⟩
theorem View.tup {m m' : Mem} {r r' : AV} (h : View m r m' r') (b : Bool) : View m (.tup [r, .bool b]) m' (.tup [r', .bool b]) := fun w S v h1 h2 => by
 cases h2 with
 | tup hr =>
  cases hr with
  | cons hr h2 =>
   cases h2 with
   | cons hb h2 =>
    cases h2
    cases hb
    obtain ⟨S', a1, a2, a3, a4, a5⟩ := h w S _ h1 hr
    exact ⟨S', a1, a2, a3, .tup (.cons a4 (.cons (.bool b) .nil)), a5⟩
theorem tokD_drop {L : List UInt8} {t : Tk} {r : List UInt8} (h : tokD L = some (t, r)) : r.length < L.length /\ r = L.drop (L.length - r.length) /\ t.k ≠ 0 := by
 cases L with
 | nil => cases h
 | cons c l =>
  have hd : ∀ p : UInt8 -> Bool, p c = true -> ((c :: l).dropWhile p).length < (c :: l).length /\ (c :: l).dropWhile p = (c :: l).drop ((c :: l).length - ((c :: l).dropWhile p).length) := by
   intro p hp
   have h1 := congrArg List.length (List.takeWhile_append_dropWhile (p := p) (l := c :: l))
   rw [List.length_append] at h1
   have h2 : 0 < ((c :: l).takeWhile p).length := by rw [List.takeWhile_cons, if_pos hp]; simp
   have h3 := dropW_drop p (c :: l)
   exact ⟨by omega, by rw [show (c :: l).length - ((c :: l).dropWhile p).length = ((c :: l).takeWhile p).length by omega]; exact h3⟩
  simp only [tokD] at h
  split at h
  ·rename_i hs
   have := hd small hs
   split at h
   ·cases h; exact ⟨this.1, this.2, by simp⟩
   split at h
   ·cases h; exact ⟨this.1, this.2, by simp⟩
   cases h
  split at h
  ·rename_i hf
   have := hd figure hf
   split at h
   ·split at h
    ·cases h; exact ⟨this.1, this.2, by simp⟩
    cases h
   cases h
  split at h
  ·cases h
   refine ⟨by simp, ?_, by simp⟩
   rw [List.length_cons, show r.length + 1 - r.length = 1 by omega]
   rfl
  cases h
theorem lexD_blank {k n : Nat} {c : UInt8} {l : List UInt8} (h : blank c = true) : lexD (k + 1) n (c :: l) = lexD k n l := by
 unfold lexD
 rw [if_pos h]
 cases k <;> cases l <;> rfl
theorem lexD_tok {k n : Nat} {c : UInt8} {l : List UInt8} (h : blank c = false) : lexD (k + 1) n (c :: l) = match tokD (c :: l) with | none => none | some (t, r) => if 600 <= n then none else (lexD k (n + 1) r).map (t :: ·) := by
 conv => lhs; unfold lexD
 rw [if_neg (by simp [h])]
 rfl
theorem map_app (o : Option (List Tk)) (ts : List Tk) (t : Tk) : (o.map (t :: ·)).map (ts ++ ·) = o.map ((ts ++ [t]) ++ ·) := by
 cases o <;> simp
theorem gr_len {m0 m : Mem} {ts : List Tk} {v : AV} (h : Gr 77 3 m0 (ts.map Tk.av) v m) : lenA Tryz.prog (some 40) v = some (.int .i64 ts.length) := by
 obtain ⟨_, ⟨h0, f, rfl⟩ | ⟨g, c, rfl, _, _⟩⟩ := h
 ·have : ts = [] := by simpa using h0
  subst this
  simp [lenA, Tryz.underlying40]
 simp [lenA, Tryz.underlying40]
theorem c_impl_Lex (s : ByteArray) (hz : s.size <= 9223372036854775807) {T : TypeId} {m : Mem} (hm : m TB = some (tabBlk T)) {K : AV -> Mem -> Prop} (hK : K (.tup [.lst false 3 (((lex s).getD []).map Tk.av), .bool (lex s).isSome]) m) : WCall Tryz.prog 17 [.str s] m K := by
 have hsz := size_list s
 refine wcall_of Tryz.func17 (by kernel_rfl) rfl (by simp [Tryz.f17]) ?_
 (repeat refine qA ?_);refine rA ?_
 try simp
 skip
 have failP : ∀ (v : AV) (st : St), Le v (.lst false 3 []) -> lex s = none -> st.slots 2 = v -> st.slots 3 = .bool false -> Ext m st.mem -> Post Tryz.prog Tryz.f17 K .ret st := fun v st hv hn s2 s3 hE => by
  rw [hn] at hK
  exact ⟨[v, .bool false], _, m, by simp [Tryz.f17, resA, s2, s3], ((View.le hv _).trans (View.forget hE _)).tup false, hK⟩
 (repeat refine qA ?_);refine rA ?_
 simp
 by_cases h3 : 3000 < s.size
 ·have h3' : (3000 : Int) < s.size := by omega
  (repeat refine qA ?_);refine AWp.condT (by simp [h3']) ?_
  (repeat refine qA ?_);refine rA ?_
  simp
  refine AWp.ret ?_
  refine failP (.lst true 0 []) _ (Le.nil _ _ _) (by unfold lex; rw [if_pos h3]) ?_ ?_ ?_
  ·simp
  ·simp
  first | exact Ext.refl _ | (simp; exact Ext.refl _)
 have h3' : ¬ (3000 : Int) < s.size := by omega
 (repeat refine qA ?_);refine AWp.condF (by simp [h3']) ?_
 refine kA ?_
 try simp
 (repeat refine qA ?_);refine rA ?_
 simp
 (repeat refine qA ?_);refine rA ?_
 simp
 have hlx : lex s = lexD s.size 0 s.data.toList := by unfold lex; rw [if_neg h3]
 generalize hL0 : s.data.toList = L0 at *
 obtain ⟨M, hM⟩ : ∃ M : St -> Prop, M = (fun st => ∃ (ts : List Tk) (v : AV), lex s = some ts /\ st.slots 4 = v /\ Gr 77 3 m (ts.map Tk.av) v st.mem) := ⟨_, rfl⟩
 (repeat refine qA ?_);refine AWp.cutA M ?_ ?_
 ·refine AWp.block (AWp.rounds (fun q st => ∃ (k i : Nat) (ts : List Tk) (v : AV), q = L0.length - i /\ i <= L0.length /\ L0.length - i <= k /\ ts.length <= 600 /\ lex s = (lexD k ts.length (L0.drop i)).map (ts ++ ·) /\ st.slots 0 = .str s /\ st.slots 4 = v /\ st.slots 5 = .int .i64 i /\ Gr 77 3 m (ts.map Tk.av) v st.mem) L0.length ⟨s.size, 0, [], (.lst true 0 []), by simp, by simp, by omega, by simp, by simpa using hlx, by simp, by simp, by simp, by simpa using Gr.start m 0⟩ ?_)
  rintro RR q st hRR ⟨k, i, ts, v, rfl, hi, hk, h600, hr, s0, s4, s5, hG⟩
  have hE := hG.1
  by_cases hb : i < L0.length
  ·have hlt : (i : Int) < s.size := by omega
   have hwr := iA i (by omega)
   have hget : s.data.toList[i]? = some L0[i] := by rw [hL0]; exact List.getElem?_eq_getElem hb
   have hx : sidxA Tryz.prog 9 (.str s) (.int .i64 i) = some (.int .u8 L0[i].toNat) := sidx Tryz.underlying9 hget
   have hdr : L0.drop i = L0[i] :: L0.drop (i + 1) := List.drop_eq_getElem_cons hb
   have e32 : ((L0[i].toNat : Int) = 32) = (L0[i] = 32) := propext ⟨fun h => UInt8.toNat_inj.1 (by have : (32 : UInt8).toNat = 32 := rfl; omega), fun h => by rw [h]; rfl⟩
   have e10 : ((L0[i].toNat : Int) = 10) = (L0[i] = 10) := propext ⟨fun h => UInt8.toNat_inj.1 (by have : (10 : UInt8).toNat = 10 := rfl; omega), fun h => by rw [h]; rfl⟩
   obtain ⟨k, rfl⟩ : ∃ k', k = k' + 1 := ⟨k - 1, by omega⟩
   rw [hdr] at hr
   generalize hc : L0[i] = c at *
   generalize hl : L0.drop (i + 1) = l at *
   have hll : l.length = L0.length - (i + 1) := by rw [<- hl, List.length_drop]
   (repeat refine qA ?_);refine rA ?_
   simp [s0, s5, hlt]
   (repeat refine qA ?_);refine tA ?_
   refine kA ?_
   try simp
   (repeat refine qA ?_);refine bA ?_
   (repeat refine qA ?_);refine rA ?_
   simp [s0, s5, hx]
   by_cases hbl : blank c = true
   ·rw [lexD_blank hbl] at hr
    have go : ∀ st' : St, st'.slots 0 = .str s -> st'.slots 4 = v -> st'.slots 5 = .int .i64 ((i + 1 : Nat) : Int) -> st'.mem = st.mem -> RR st' := fun st' e0 e4 e5 em =>
     hRR _ (L0.length - (i + 1)) (by omega) ⟨k, i + 1, ts, v, rfl, by omega, by omega, h600, by rw [hl]; exact hr, e0, e4, e5, by rw [em]; exact hG⟩
    have hwr2 : IntKind.wrap .i64 ((i : Int) + 1) = ((i + 1 : Nat) : Int) := hwr
    by_cases h32 : c = 32
    ·simp [e32, h32]
     (repeat refine qA ?_);refine tA ?_
     (repeat refine qA ?_);refine rA ?_
     simp [s5, hwr2]
     refine eA ?_
     simp
     exact go _ (by simp [s0]) (by simp [s4]) (by simp) (by simp)
    have h10 : c = 10 := by
     unfold blank at hbl
     simp [h32] at hbl
     exact hbl
    simp [e32, h32, e10, h10, s0, s5, hx]
    (repeat refine qA ?_);refine tA ?_
    (repeat refine qA ?_);refine rA ?_
    simp [s5, hwr2]
    refine eA ?_
    simp
    exact go _ (by simp [s0]) (by simp [s4]) (by simp) (by simp)
   have hbl : blank c = false := by simpa using hbl
   have h32 : ¬ c = 32 := by rintro rfl; simp [blank] at hbl
   have h10 : ¬ c = 10 := by rintro rfl; simp [blank] at hbl
   rw [lexD_tok hbl] at hr
   simp [e32, h32, e10, h10, s0, s5, hx]
   (repeat refine qA ?_);refine fA ?_
   refine kA ?_
   try simp
   have hsl : sliceA Tryz.prog 9 (.str s) (some (.int .i64 i)) none = some (.str ⟨(c :: l).toArray⟩) := by
    have h1 : ¬ ((i : Int) < 0) := by omega
    have h2 : i <= s.size := by omega
    unfold sliceA
    simp only [Tryz.underlying9, boundA, h1, if_false, Int.toNat_natCast, h2, if_true]
    rw [extract_list, hL0, List.take_of_length_le (by omega), hdr]
   (repeat refine qA ?_);refine rA ?_
   simp [s0, s5, hsl]
   refine wA ?_
   simp
   have hll2 : (c :: l).length = L0.length - i := by rw [List.length_cons]; omega
   refine c_tokOf c l (by omega) (hE _ _ hm) fun kk w n z hz2 => ?_
   simp
   intro g6 hg6
   have hE6 := ext_set hg6 (.box [.int .i64 kk, .str w, .int .i64 n])
   cases ht : tokD (c :: l) with
   | none =>
    rw [ht] at hr
    (repeat refine qA ?_);refine rA ?_
    simp
    (repeat refine qA ?_);refine tA ?_
    (repeat refine qA ?_);refine rA ?_
    simp
    refine AWp.ret ?_; (try simp); refine failP (.lst true 0 []) _ (Le.nil _ _ _) (by simpa using hr) ?_ ?_ ?_ <;> first | (simp; done) | (simpa using hE.trans hE6)
   | some tr =>
    obtain ⟨t, r⟩ := tr
    rw [ht] at hr
    obtain ⟨rfl, rfl⟩ := hz2 t r ht
    obtain ⟨d1, d2, d3⟩ := tokD_drop ht
    simp only at hr d3
    have hlen := gr_len hG
    obtain ⟨i', hi'⟩ : ∃ i' : Nat, i' = L0.length - r.length := ⟨_, rfl⟩
    have hrd : r = L0.drop i' := by
     have e1 := d2
     rw [<- hdr, List.drop_drop] at e1
     rw [e1]
     congr 1
     rw [List.length_drop]
     omega
    have hG6 := hG.fresh hg6 (.box [.int .i64 kk, .str w, .int .i64 n])
    have b6 := set_same st.mem g6 (.box [.int .i64 kk, .str w, .int .i64 n])
    generalize st.mem.set g6 (.box [.int .i64 kk, .str w, .int .i64 n]) = m6 at *
    have next : ∀ (v' : AV) (st' : St), ts.length < 600 -> Gr 77 3 m ((ts ++ [Tk.mk kk w n]).map Tk.av) v' st'.mem -> st'.slots 0 = .str s -> st'.slots 4 = v' -> st'.slots 5 = .int .i64 (i' : Int) -> RR st' := fun v' st' hn h1 h2 h3 h4 =>
     hRR _ (L0.length - i') (by omega) ⟨k, i', ts ++ [Tk.mk kk w n], v', rfl, by omega, by omega, by simp; omega, by
      rw [if_neg (by omega)] at hr
      rw [map_app] at hr
      rw [hr, <- hrd]
      simp, h2, h3, h4, h1⟩
    have hlc : (c :: l).length = l.length + 1 := List.length_cons
    have hwz : IntKind.wrap .i64 ((i : Int) + ((l.length : Int) + 1 - (r.length : Int))) = (i' : Int) := by rw [wrap64 (by omega) (by omega)]; omega
    (repeat refine qA ?_);refine rA ?_
    simp [s4, hlen]
    by_cases h6 : ts.length = 600
    ·try simp [h6]
     (repeat refine qA ?_);refine tA ?_
     (repeat refine qA ?_);refine rA ?_
     simp
     rw [if_pos (by omega)] at hr
     refine AWp.ret ?_; (try simp); refine failP (.lst true 0 []) _ (Le.nil _ _ _) (by simpa using hr) ?_ ?_ ?_ <;> first | (simp; done) | (simpa using hE.trans hE6)
    have h6' : ¬ (ts.length : Int) = 600 := by omega
    try simp [h6']
    (repeat refine qA ?_);refine fA ?_
    refine kA ?_
    try simp
    (repeat refine qA ?_);refine rA ?_
    simp [s4, b6, literalA]
    refine Gr.app et_40 hG6 (x := .lst true 3 [.agg [.int .i64 kk, .str w, .int .i64 n]]) (ys := [.agg [.int .i64 kk, .str w, .int .i64 n]]) (by simp [srcA]) (by intro y hy; simp at hy; subst hy; rfl) (by simp; omega) fun v' m' hG2 hk2 => ?_
    try simp
    have hG3 : Gr 77 3 m ((ts ++ [Tk.mk kk w n]).map Tk.av) v' m' := by simpa [Tk.av, Tk.cells] using hG2
    (repeat refine qA ?_);refine rA ?_
    simp [s5, hwz]
    exact next v' _ (by omega) (by simpa using hG3) (by simp [s0]) (by simp) (by simp)
  have : i = L0.length := by omega
  subst this
  have hlt : ¬ ((L0.length : Int) < s.size) := by omega
  (repeat refine qA ?_);refine rA ?_
  simp [s0, s5, hlt]
  (repeat refine qA ?_);refine fA ?_
  refine eA ?_
  subst hM
  rw [List.drop_length] at hr
  have e : lexD k ts.length [] = some [] := by unfold lexD; cases k <;> rfl
  rw [e] at hr
  exact ⟨ts, v, by simpa using hr, by simp [s4], by simpa using hG⟩
 intro st hst
 subst hM
 obtain ⟨ts, v, hr, s4, hG⟩ := hst
 rw [hr] at hK
 (repeat refine qA ?_);refine rA ?_
 simp [s4]
 exact AWp.ret ⟨[v, .bool true], _, m, by simp [Tryz.f17, resA], by simpa [oneOf] using hG.view.tup true, by simpa using hK⟩
def pc (T : List Tk) (a : Nat) (d : Int) (bad : Bool) : List AV := [.lst false 3 (T.map Tk.av), .int .i64 a, .int .i64 d, .bool bad]
structure PS (gr : Nat) (T : List Tk) (a : Nat) (d : Int) (bad : Bool) (m : Mem) : Prop where
 box : m gr = some (.box (pc T a d bad))
 le : a <= T.length
 small : T.length <= 600
def Off (gr : Nat) (m m' : Mem) : Prop := ∀ g b, g ≠ gr -> m g = some b -> m' g = some b
theorem Off.refl (gr : Nat) (m : Mem) : Off gr m m := fun _ _ _ h => h
theorem Off.trans {gr : Nat} {a b c : Mem} (h : Off gr a b) (k : Off gr b c) : Off gr a c := fun g x hg hx => k g x hg (h g x hg hx)
theorem Off.ext {gr : Nat} {a b : Mem} (h : Ext a b) : Off gr a b := fun g x _ hx => h g x hx
theorem Off.box {gr : Nat} (m : Mem) (b : Blk) : Off gr m (m.set gr b) := fun g x hg hx => by rw [Mem.set_other hg]; exact hx
theorem PS.ext {gr : Nat} {T : List Tk} {a : Nat} {d : Int} {bad : Bool} {m m' : Mem} (h : PS gr T a d bad m) (hE : Ext m m') : PS gr T a d bad m' := ⟨hE _ _ h.box, h.le, h.small⟩
def hdT (T : List Tk) (a : Nat) (bad : Bool) : Tk := if bad = true then ⟨0, ⟨#[]⟩, 0⟩ else (T[a]?).getD ⟨0, ⟨#[]⟩, 0⟩
theorem hdT_bad (T : List Tk) (a : Nat) : hdT T a true = ⟨0, ⟨#[]⟩, 0⟩ := rfl
theorem hdT_end {T : List Tk} {a : Nat} (h : T.length <= a) : hdT T a false = ⟨0, ⟨#[]⟩, 0⟩ := by
 unfold hdT
 rw [if_neg (by simp), List.getElem?_eq_none h]
 rfl
theorem hdT_at {T : List Tk} {a : Nat} (h : a < T.length) : hdT T a false = T[a] := by
 unfold hdT
 rw [if_neg (by simp), List.getElem?_eq_getElem h]
 rfl
theorem Tk.cells_eq (t : Tk) : t.cells = [.int .i64 t.k, .str t.s, .int .i64 t.n] := rfl
theorem c_peek {gr : Nat} {T : List Tk} {a : Nat} {d : Int} {bad : Bool} {m : Mem} (h : PS gr T a d bad m) {K : AV -> Mem -> Prop} (hK : K (.agg (hdT T a bad).cells) m) : WCall Tryz.prog 154 [.ptr gr 0, .int .i64 0] m K := by
 have hb := h.box
 have hle := h.le
 have hsm := h.small
 unfold pc at hb
 refine wcall_of Tryz.func154 (by kernel_rfl) rfl (by simp [Tryz.f154]) ?_
 (repeat refine qA ?_);refine rA ?_
 simp
 intro g hg
 have hne : g ≠ gr := by rintro rfl; rw [hb] at hg; cases hg
 have hE := Mem.ext_box hg
 have hgm : ∀ cs, (m.set g (.box cs)) gr = some (.box [.lst false 3 (T.map Tk.av), .int .i64 a, .int .i64 d, .bool bad]) := fun cs => hE cs _ _ hb
 have hw : IntKind.wrap .i64 (a : Int) = a := wrap64 (by omega) (by omega)
 have eE : ByteArray.empty = (⟨#[]⟩ : ByteArray) := rfl
 have zero : ∀ st : St, hdT T a bad = ⟨0, ⟨#[]⟩, 0⟩ -> st.slots 4 = .ptr g 0 -> st.mem = m.set g (.box [.int .i64 0, .str ⟨#[]⟩, .int .i64 0]) -> Post Tryz.prog Tryz.f154 K .ret st := fun st e s4 sm => by
  rw [e] at hK
  exact ⟨[.agg [.int .i64 0, .str ⟨#[]⟩, .int .i64 0]], _, m, by simp [Tryz.f154, resA, s4, sm], by rw [sm]; exact View.forget (hE _) _, hK⟩
 (repeat refine qA ?_);refine AWp.regionG (fun _ => false) (fun _ => false) [0, 1, 2, 3, 4, 5, 6, 7, 8, 9, 10, 11, 12, 13, 14, 15, 16, 17] [0, 1, 2, 3, 4, 5, 6, 7, 8, 9, 10, 11, 12, 13, 14, 15, 16, 17] (by kernel_rfl) ?_
 simp [hgm]
 by_cases hbad : bad = true
 ·subst hbad
  simp
  (repeat refine qA ?_);refine tA ?_
  (repeat refine qA ?_);refine rA ?_
  simp
  refine AWp.ret (zero _ rfl ?_ ?_) <;> simp
  try rfl
 have hbad : bad = false := by simpa using hbad
 subst hbad
 simp [hgm, hw]
 by_cases hlt : a < T.length
 ·have h1 : ¬ (T.length : Int) <= a := by omega
  have hx : ∀ m : Mem, idxA Tryz.prog m 40 (.lst false 3 (T.map Tk.av)) (.int .i64 a) = some (.ref T[a].cells) := fun m => idx (y := T[a].av) es_40 (by simp [List.getElem?_eq_getElem hlt])
  rw [hdT_at hlt] at hK
  try simp [h1]
  (repeat refine qA ?_);refine AWp.condF (by simp; try omega) ?_
  refine kA ?_
  try simp
  (repeat refine qA ?_);refine AWp.regionG (fun _ => false) (fun _ => false) [0, 1, 2, 3, 4, 5, 6, 7, 8, 9, 10, 11, 12] [0, 1, 2, 3, 4, 5, 6, 7, 8, 9, 10, 11, 12] (by kernel_rfl) ?_
  simp [hgm, hw, hx, Tk.cells_eq]
  refine AWp.ret ⟨[.agg T[a].cells], _, m, by simp [Tryz.f154, resA, Tk.cells_eq], ?_, hK⟩
  simp
  exact View.forget (hE _) _
 have h1 : (T.length : Int) <= a := by omega
 try simp [h1]
 (repeat refine qA ?_);refine AWp.condT (by simp; try omega) ?_
 (repeat refine qA ?_);refine rA ?_
 simp
 refine AWp.ret (zero _ (hdT_end (by omega)) ?_ ?_) <;> simp
 try rfl
theorem c_next {gr : Nat} {T : List Tk} {a : Nat} {d : Int} {bad : Bool} {m : Mem} (h : PS gr T a d bad m) {K : AV -> Mem -> Prop} (hK : K (.agg (hdT T a bad).cells) m) : WCall Tryz.prog 114 [.ptr gr 0] m K := by
 refine wcall_of Tryz.func114 (by kernel_rfl) rfl (by simp [Tryz.f114]) ?_
 (repeat refine qA ?_);refine rA ?_
 simp
 intro g hg
 have hE := Mem.ext_box hg
 (repeat refine qA ?_);refine rA ?_
 simp
 refine wA ?_
 simp
 refine c_peek (h.ext fun k b hk => hE _ k b hk) ?_
 generalize hdT T a bad = t at *
 simp [Tk.cells_eq]
 refine AWp.ret ⟨[.agg t.cells], _, m, by simp [Tryz.f114, resA, Tk.cells_eq], by simp; exact View.forget (hE _) _, hK⟩
def isT (t : Tk) (s : ByteArray) : Bool := (decide (t.k = 4) || decide (t.k = 3)) && decide (t.s = s)
theorem c_is {gr : Nat} {T : List Tk} {a : Nat} {d : Int} {bad : Bool} {m : Mem} (h : PS gr T a d bad m) (s : ByteArray) {K : AV -> Mem -> Prop} (hK : K (.bool (isT (hdT T a bad) s)) m) : WCall Tryz.prog 98 [.ptr gr 0, .str s] m K := by
 refine wcall_of Tryz.func98 (by kernel_rfl) rfl (by simp [Tryz.f98]) ?_
 (repeat refine qA ?_);refine rA ?_
 try simp
 (repeat refine qA ?_);refine rA ?_
 simp
 refine wA ?_
 try simp
 refine c_next h ?_
 generalize hdT T a bad = t at *
 simp [Tk.cells_eq]
 intro g hg
 have hE := Mem.ext_box hg
 have fin : ∀ (st : St) (b : Bool), isT t s = b -> st.slots 4 = .bool b -> st.mem = m.set g (.box t.cells) -> Post Tryz.prog Tryz.f98 K .ret st := fun st b e s4 sm => by
  rw [e] at hK
  exact ⟨[.bool b], _, m, by simp [Tryz.f98, resA, s4], by rw [sm]; exact View.forget (hE _) _, hK⟩
 simp only [Tk.cells_eq] at fin
 unfold isT at fin
 (repeat refine qA ?_);refine rA ?_
 by_cases h4 : t.k = 4
 ·simp [h4]
  refine AWp.ret (fin _ (decide (t.s = s)) (by simp [h4]) ?_ ?_) <;> simp [h4]
 by_cases h3 : t.k = 3
 ·simp [h4, h3]
  refine AWp.ret (fin _ (decide (t.s = s)) (by simp [h3]) ?_ ?_) <;> simp [h3]
 simp [h4, h3]
 refine AWp.ret (fin _ false (by simp [h4, h3]) ?_ ?_) <;> simp
theorem PS.step {gr : Nat} {T : List Tk} {a : Nat} {d : Int} {bad : Bool} {m : Mem} (h : PS gr T a d bad m) (a' : Nat) (d' : Int) (bad' : Bool) (ha : a' <= T.length) : PS gr T a' d' bad' (m.set gr (.box (pc T a' d' bad'))) := ⟨set_same _ _ _, ha, h.small⟩
theorem isT_lt {T : List Tk} {a : Nat} {bad : Bool} {s : ByteArray} (h : isT (hdT T a bad) s = true) : bad = false /\ ∃ hlt : a < T.length, isT T[a] s = true := by
 cases bad with
 | true => rw [hdT_bad] at h; simp [isT] at h
 | false =>
  refine ⟨rfl, ?_⟩
  by_cases hlt : a < T.length
  ·rw [hdT_at hlt] at h; exact ⟨hlt, h⟩
  rw [hdT_end (by omega)] at h; simp [isT] at h
theorem c_skip {gr : Nat} {T : List Tk} {a : Nat} {d : Int} {bad : Bool} {m : Mem} (h : PS gr T a d bad m) (s : ByteArray) {K : AV -> Mem -> Prop}
  (hK : ∀ m', PS gr T (if isT (hdT T a bad) s = true then a + 1 else a) d bad m' -> Off gr m m' -> K (.bool (isT (hdT T a bad) s)) m') : WCall Tryz.prog 52 [.ptr gr 0, .str s] m K := by
 have hb := h.box
 have hle := h.le
 have hsm := h.small
 unfold pc at hb
 refine wcall_of Tryz.func52 (by kernel_rfl) rfl (by simp [Tryz.f52]) ?_
 (repeat refine qA ?_);refine rA ?_
 try simp
 (repeat refine qA ?_);refine rA ?_
 simp
 refine wA ?_
 try simp
 refine c_is h s ?_
 try simp
 cases hi : isT (hdT T a bad) s with
 | false =>
  rw [hi] at hK
  simp at hK
  (repeat refine qA ?_);refine tA ?_
  (repeat refine qA ?_);refine rA ?_
  simp
  refine AWp.ret (post_retW rfl ⟨_, _, View.refl _ _, ?_⟩)
  simpa using hK m h (Off.refl _ _)
 | true =>
  obtain ⟨hbd, hlt, _⟩ := isT_lt hi
  rw [hi] at hK
  simp at hK
  have hw : IntKind.wrap .i64 ((a : Int) + 1) = (a : Int) + 1 := wrap64 (by omega) (by omega)
  (repeat refine qA ?_);refine fA ?_
  refine kA ?_
  try simp
  (repeat refine qA ?_);refine rA ?_
  simp [hb, hw]
  (repeat refine qA ?_);refine rA ?_
  simp
  refine AWp.ret (post_retW rfl ⟨_, _, View.refl _ _, ?_⟩)
  have := hK _ (h.step (a + 1) d bad (by omega)) (Off.box _ _)
  simpa [pc] using this
theorem c_take {gr : Nat} {T : List Tk} {a : Nat} {d : Int} {bad : Bool} {m : Mem} (h : PS gr T a d bad m) (s : ByteArray) {K : AV -> Mem -> Prop}
  (hK : ∀ m', PS gr T (if isT (hdT T a bad) s = true then a + 1 else a) d (!isT (hdT T a bad) s) m' -> Off gr m m' -> K (.tup []) m') : WCall Tryz.prog 54 [.ptr gr 0, .str s] m K := by
 refine wcall_of Tryz.func54 (by kernel_rfl) rfl (by simp [Tryz.f54]) ?_
 refine AWp.gen (fun st => st.slots 0 = .ptr gr 0 /\ st.slots 1 = .str s /\ st.mem = m) ⟨by simp, by simp, by simp⟩ ?_
 rintro st ⟨s0, s1, sm⟩
 (repeat refine qA ?_);refine rA ?_
 simp [s0, s1]
 refine wA ?_
 simp [sm]
 refine c_skip h s fun m' h' hO => ?_
 try simp
 cases hi : isT (hdT T a bad) s with
 | true =>
  obtain ⟨hbd, hlt, _⟩ := isT_lt hi
  subst hbd
  rw [hi] at hK h'
  simp at hK h'
  (repeat refine qA ?_);refine fA ?_
  refine kA ?_
  exact ⟨[], .tup [], m', by simp [Tryz.f54, resA], by simp; exact View.refl _ _, hK m' h' hO⟩
 | false =>
  rw [hi] at hK h'
  simp at hK h'
  have hb := h'.box
  unfold pc at hb
  (repeat refine qA ?_);refine tA ?_
  (repeat refine qA ?_);refine rA ?_
  simp [s0, hb]
  refine ⟨[], .tup [], m'.set gr (.box (pc T a d true)), by simp [Tryz.f54, resA], by simp [pc]; exact View.refl _ _, hK _ (h'.step a d true h'.le) (hO.trans (Off.box _ _))⟩
theorem c_kind {gr : Nat} {T : List Tk} {a : Nat} {d : Int} {bad : Bool} {m : Mem} (h : PS gr T a d bad m) (k : Int) (hk0 : k ≠ 0) {K : AV -> Mem -> Prop}
  (hK : ∀ m', PS gr T (if (hdT T a bad).k = k then a + 1 else a) d (!decide ((hdT T a bad).k = k)) m' -> Off gr m m' -> K (.agg (if (hdT T a bad).k = k then hdT T a bad else ⟨0, ⟨#[]⟩, 0⟩ : Tk).cells) m') : WCall Tryz.prog 53 [.ptr gr 0, .int .i64 k] m K := by
 have hb := h.box
 have hle := h.le
 have hsm := h.small
 have eE : ByteArray.empty = (⟨#[]⟩ : ByteArray) := rfl
 unfold pc at hb
 refine wcall_of Tryz.func53 (by kernel_rfl) rfl (by simp [Tryz.f53]) ?_
 (repeat refine qA ?_);refine rA ?_
 simp
 intro g hg
 have hne : g ≠ gr := by rintro rfl; rw [hb] at hg; cases hg
 have hE : Ext m (m.set g (.box [.int .i64 0, .str ⟨#[]⟩, .int .i64 0])) := ext_set hg _
 have hb1 := hE _ _ hb
 have bg := set_same m g (.box [.int .i64 0, .str ⟨#[]⟩, .int .i64 0])
 have h1 := h.ext hE
 simp only [<- eE] at hE hb1 bg h1
 generalize m.set g (.box [.int .i64 0, .str ByteArray.empty, .int .i64 0]) = m1 at *
 (repeat refine qA ?_);refine rA ?_
 simp
 refine wA ?_
 simp
 refine c_next h1 ?_
 have hlt : (hdT T a bad).k = k -> bad = false /\ a < T.length := by
  intro e
  cases bad with
  | true => rw [hdT_bad] at e; exact absurd e.symm hk0
  | false =>
   refine ⟨rfl, ?_⟩
   by_cases hlt : a < T.length
   ·exact hlt
   rw [hdT_end (by omega)] at e; exact absurd e.symm hk0
 generalize hdT T a bad = t at *
 simp [Tk.cells_eq]
 intro g5 hg5
 have hne5 : g5 ≠ gr := by rintro rfl; rw [hb1] at hg5; cases hg5
 have hne6 : g5 ≠ g := by rintro rfl; rw [bg] at hg5; cases hg5
 have hE2 : Ext m1 (m1.set g5 (.box [.int .i64 t.k, .str t.s, .int .i64 t.n])) := ext_set hg5 _
 have bg5 := set_same m1 g5 (.box [.int .i64 t.k, .str t.s, .int .i64 t.n])
 have hb2 := hE2 _ _ hb1
 have bg2 := hE2 _ _ bg
 have h2 := h1.ext hE2
 have hE3 := hE.trans hE2
 generalize m1.set g5 (.box [.int .i64 t.k, .str t.s, .int .i64 t.n]) = m2 at *
 (repeat refine qA ?_);refine rA ?_
 simp [bg5]
 by_cases hk : t.k = k
 ·obtain ⟨hbd, hlt⟩ := hlt hk
  have hw : IntKind.wrap .i64 ((a : Int) + 1) = (a : Int) + 1 := wrap64 (by omega) (by omega)
  (repeat refine qA ?_);refine AWp.condF (by simp [hk]) ?_
  refine kA ?_
  try simp
  (repeat refine qA ?_);refine rA ?_
  simp [hb2, hw]
  (repeat refine qA ?_);refine rA ?_
  simp [set_at, hne, hne5, Ne.symm hne, Ne.symm hne5, bg5, bg2]
  have := hK ((m2.set gr (.box (pc T (a + 1) d false))).set g (.box t.cells)) (by
   rw [if_pos hk]
   simp only [hk, decide_true, Bool.not_true]
   exact ⟨by rw [Mem.set_other (Ne.symm hne)]; exact set_same _ _ _, by omega, hsm⟩) (fun b x hbg hx => by
    have hbg2 : b ≠ g := by rintro rfl; rw [hg] at hx; cases hx
    rw [Mem.set_other hbg2, Mem.set_other hbg]
    exact hE3 _ _ hx)
  rw [if_pos hk] at this
  subst hbd
  refine AWp.ret ⟨[.agg t.cells], .agg t.cells, _, by simp [Tryz.f53, resA, Tk.cells_eq], ?_, this⟩
  simp [pc, Tk.cells_eq]
  exact View.refl _ _
 (repeat refine qA ?_);refine AWp.condT (by simp [hk]) ?_
 (repeat refine qA ?_);refine rA ?_
 simp [hb2]
 (repeat refine qA ?_);refine rA ?_
 simp [set_at, hne, Ne.symm hne, bg2]
 have := hK ((m2.set gr (.box (pc T a d true))).set g (.box [.int .i64 0, .str ⟨#[]⟩, .int .i64 0])) (by
  rw [if_neg hk]
  simp only [hk, decide_false, Bool.not_false]
  exact ⟨by rw [Mem.set_other (Ne.symm hne)]; exact set_same _ _ _, by omega, hsm⟩) (fun b x hbg hx => by
   have hbg2 : b ≠ g := by rintro rfl; rw [hg] at hx; cases hx
   rw [Mem.set_other hbg2, Mem.set_other hbg]
   exact hE3 _ _ hx)
 rw [if_neg hk] at this
 refine AWp.ret ⟨[.agg [.int .i64 0, .str ⟨#[]⟩, .int .i64 0]], .agg [.int .i64 0, .str ⟨#[]⟩, .int .i64 0], _, by simp [Tryz.f53, resA, eE], ?_, this⟩
 simp [pc, eE]
 exact View.refl _ _
structure Tr (m0 m : Mem) (F : Nat -> Prop) (r : AV) (e : Ex) : Prop where
 own : OwnT m F r e.av
 new : ∀ g, F g -> m0 g = none /\ m g ≠ none
theorem off_at {gr : Nat} {m m' : Mem} (h : Off gr m m') {g : Nat} (hne : g ≠ gr) (hg : m g ≠ none) : m' g = m g := by
 cases hq : m g with
 | none => exact absurd hq hg
 | some b => exact h g b hne hq
theorem Tr.off {gr : Nat} {m0 m m' : Mem} {F : Nat -> Prop} {r : AV} {e : Ex} (h : Tr m0 m F r e) (hgr : m0 gr ≠ none) (hO : Off gr m m') : Tr m0 m' F r e := by
 have k : ∀ b, F b -> m' b = m b := fun b hb => off_at hO (by rintro rfl; exact hgr (h.new _ hb).1) (h.new b hb).2
 exact ⟨h.own.mem k, fun g hg => ⟨(h.new g hg).1, by rw [k g hg]; exact (h.new g hg).2⟩⟩
theorem Tr.set {m0 m : Mem} {F : Nat -> Prop} {r : AV} {e : Ex} (h : Tr m0 m F r e) {g : Nat} (hg : ¬ F g) (b : Blk) : Tr m0 (m.set g b) F r e := by
 have k : ∀ x, F x -> (m.set g b) x = m x := fun x hx => Mem.set_other (by rintro rfl; exact hg hx)
 exact ⟨h.own.mem k, fun x hx => ⟨(h.new x hx).1, by rw [k x hx]; exact (h.new x hx).2⟩⟩
theorem off_none {gr : Nat} {m0 m1 : Mem} (hO : Off gr m0 m1) (hgr : m1 gr ≠ none) {g : Nat} (hg : m1 g = none) : m0 g = none := by
 cases hq : m0 g with
 | none => rfl
 | some b =>
  by_cases e : g = gr
  ·subst e; exact absurd hg hgr
  rw [hO g b e hq] at hg; cases hg
theorem Tr.base {gr : Nat} {m0 m1 m : Mem} {F : Nat -> Prop} {r : AV} {e : Ex} (h : Tr m1 m F r e) (hO : Off gr m0 m1) (hgr : m1 gr ≠ none) : Tr m0 m F r e :=
 ⟨h.own, fun g hg => ⟨off_none hO hgr (h.new g hg).1, (h.new g hg).2⟩⟩
theorem Tr.not {m0 m : Mem} {F : Nat -> Prop} {r : AV} {e : Ex} (h : Tr m0 m F r e) {g : Nat} (hg : m0 g ≠ none) : ¬ F g := fun hF => hg (h.new g hF).1
theorem Tr.fresh {m0 m : Mem} {F : Nat -> Prop} {r : AV} {e : Ex} (h : Tr m0 m F r e) {g : Nat} (hg : m g = none) : ¬ F g := fun hF => (h.new g hF).2 hg
theorem Tr.cs {m0 m : Mem} {F : Nat -> Prop} {r : AV} {e : Ex} (h : Tr m0 m F r e) : ∃ c0 c1 c2 c3, r = .agg [c0, c1, c2, c3] /\ okCell c0 = true /\ okCell c1 = true /\ okCell c2 = true /\ okCell c3 = true := by
 have ho := h.own
 unfold Ex.av at ho
 obtain ⟨cs, rfl, hT, hok⟩ := own_agg ho
 have hl := hT.len
 rw [Ex.cells_len] at hl
 match cs, hl with
 | [c0, c1, c2, c3], _ =>
  simp only [List.all_cons, List.all_nil, Bool.and_true, Bool.and_eq_true] at hok
  exact ⟨c0, c1, c2, c3, rfl, hok.1, hok.2.1, hok.2.2.1, hok.2.2.2⟩
def ExpC (P : Program) (n : FuncId) (k : Nat) (f : PE) : Prop :=
 ∀ (gr : Nat) (T : List Tk) (a : Nat) (d : Int) (bad : Bool) (m : Mem), PS gr T a d bad m -> (∀ t ∈ T, t.fine) -> (bad = false -> d = 30 - (k : Int)) -> ∀ K : AV -> Mem -> Prop,
  (∀ m' F r e a' d' bad', PS gr T a' d' bad' m' -> Off gr m m' -> Tr m m' F r e -> Run1 f T a bad e a' bad' -> (bad' = false -> d' = d) -> K r m') -> WCall P n [.ptr gr 0] m K
theorem PS.at {gr : Nat} {T : List Tk} {a : Nat} {d : Int} {bad : Bool} {m : Mem} (h : PS gr T a d bad m) : m gr ≠ none := by rw [h.box]; simp
theorem PS.off {gr : Nat} {T : List Tk} {a : Nat} {d : Int} {bad : Bool} {m : Mem} (h : PS gr T a d bad m) {g : Nat} (hg : g ≠ gr) (b : Blk) : PS gr T a d bad (m.set g b) := ⟨by rw [Mem.set_other (Ne.symm hg)]; exact h.box, h.le, h.small⟩
theorem own_two {m : Mem} {FA FB : Nat -> Prop} {csA csB : List AV} {eA eB : Ex} {E : TypeId} {gL : Nat} (hA : OwnT m FA (.agg csA) eA.av) (hB : OwnT m FB (.agg csB) eB.av) (hd : ∀ g, FA g -> ¬ FB g) (hL : m gL = some (.arr E 4 2 [.agg csA, .agg csB])) (nA : ¬ FA gL) (nB : ¬ FB gL) (k : Int) :
  OwnT m (fun g => FA g ∨ FB g ∨ g = gL) (.agg [.int .i64 k, .int .i64 0, .str ⟨#[]⟩, .own gL 2 2]) (two k eA eB).av := by
 show OwnT m _ _ (.agg (Ex.mk k 0 ⟨#[]⟩ [eA, eB]).cells)
 rw [Ex.cells_mk]
 have hown : OwnT m (fun g => FA g ∨ FB g ∨ g = gL) (.own gL 2 2) (.lst false 4 [eA.av, eB.av]) :=
  .own (G := fun g => FA g ∨ FB g) hL rfl (.cons (A := FA) (B := FB) hA (.cons (A := FB) (B := fun _ => False) hB .nil (fun _ _ h => h) (fun _ h => h) (fun _ h => h.elim)) hd (fun _ h => .inl h) (fun _ h => .inr h)) (fun h => h.elim nA nB) (fun _ h => by rcases h with h | h <;> simp [h]) (.inr (.inr rfl))
 exact .agg (.cons (A := fun _ => False) (B := fun g => FA g ∨ FB g ∨ g = gL) (.int _ _) (.cons (A := fun _ => False) (B := fun g => FA g ∨ FB g ∨ g = gL) (.int _ _) (.cons (A := fun _ => False) (B := fun g => FA g ∨ FB g ∨ g = gL) (.str _) (.cons (A := fun g => FA g ∨ FB g ∨ g = gL) (B := fun _ => False) hown .nil (fun _ _ h => h) (fun _ h => h) (fun _ h => h.elim)) (fun _ h => h.elim) (fun _ h => h.elim) (fun _ h => h)) (fun _ h => h.elim) (fun _ h => h.elim) (fun _ h => h)) (fun _ h => h.elim) (fun _ h => h.elim) (fun _ h => h)) rfl
theorem not_mark {T : List Tk} (hT : ∀ t ∈ T, t.fine) {a : Nat} {bad : Bool} {c : UInt8} (h : isT (hdT T a bad) (ch c) = false) : bad = true ∨ notM T a c := by
 cases bad with
 | true => exact .inl rfl
 | false =>
  right
  intro hlt
  rw [hdT_at hlt] at h
  unfold isT at h
  rw [is_mark (hT _ (List.getElem_mem hlt))] at h
  exact h
theorem is_mark_at {T : List Tk} (hT : ∀ t ∈ T, t.fine) {a : Nat} {bad : Bool} {c : UInt8} (h : isT (hdT T a bad) (ch c) = true) : bad = false /\ ∃ hlt : a < T.length, T[a].is 4 (ch c) = true := by
 obtain ⟨h1, hlt, h2⟩ := isT_lt h
 unfold isT at h2
 rw [is_mark (hT _ (List.getElem_mem hlt))] at h2
 exact ⟨h1, hlt, h2⟩
theorem c_product (k : Nat) (hA : ExpC Tryz.prog 148 k (atomP (sumP k))) : ExpC Tryz.prog 97 k (mulP (sumP k)) := by
 intro gr T a d bad m hP hT hd K hK
 have hf := sum_fit k
 have eE : ByteArray.empty = (⟨#[]⟩ : ByteArray) := rfl
 refine wcall_of Tryz.func97 (by kernel_rfl) rfl (by simp [Tryz.f97]) ?_
 (repeat refine qA ?_);refine rA ?_
 simp
 intro g2 hg2
 have n2 : g2 ≠ gr := by rintro rfl; exact hP.at hg2
 have hE1 : Ext m (m.set g2 (.box [.int .i64 0, .int .i64 0, .str ⟨#[]⟩, .lst true 0 []])) := ext_set hg2 _
 have b2 := set_same m g2 (.box [.int .i64 0, .int .i64 0, .str ⟨#[]⟩, .lst true 0 []])
 have hP1 := hP.off n2 (.box [.int .i64 0, .int .i64 0, .str ⟨#[]⟩, .lst true 0 []])
 simp only [<- eE] at hE1 b2 hP1
 generalize m.set g2 (.box [.int .i64 0, .int .i64 0, .str ByteArray.empty, .lst true 0 []]) = m1 at *
 have hgr1 := hP1.at
 (repeat refine qA ?_);refine rA ?_
 simp
 refine wA ?_
 try simp
 refine hA gr T a d bad m1 hP1 hT hd _ fun m2 F r e a1 d1 b1 hP2 hO2 hT2 hr2 hd2 => ?_
 obtain ⟨c0, c1, c2, c3, rfl, o0, o1, o2, o3⟩ := hT2.cs
 have nd0 : c0 ≠ .undef := by rintro rfl; cases o0
 simp [o0, o1, o2, o3]
 intro g3 hg3
 have n3 : g3 ≠ gr := by rintro rfl; exact hP2.at hg3
 have b22 := hO2 _ _ n2 b2
 have n32 : g3 ≠ g2 := by rintro rfl; rw [b22] at hg3; cases hg3
 have hT3 := hT2.set (hT2.fresh hg3) (.box [c0, c1, c2, c3])
 have n3m : m1 g3 = none := off_none hO2 hP2.at hg3
 have b1m := b2
 refine AWp.gen (fun st => st.slots 0 = .ptr gr 0 /\ st.slots 2 = .ptr g2 0 /\ st.slots 3 = .ptr g3 0 /\ st.mem = m2.set g3 (.box [c0, c1, c2, c3])) ⟨by simp, by simp, by simp, by simp⟩ ?_
 rintro st ⟨s0, s2, s3, sm⟩
 obtain ⟨M, hM⟩ : ∃ M : St -> Prop, M = (fun st => ∃ cs F e a1 d1 b1, st.slots 2 = .ptr g2 0 /\ st.slots 3 = .ptr g3 0 /\ st.mem g2 = some (.box [.int .i64 0, .int .i64 0, .str ByteArray.empty, .lst true 0 []]) /\ st.mem g3 = some (.box cs) /\ Tr m1 st.mem F (.agg cs) e /\ PS gr T a1 d1 b1 st.mem /\ Off gr m1 st.mem /\ (b1 = false -> d1 = d) /\ Run1 (mulP (sumP k)) T a bad e a1 b1) := ⟨_, rfl⟩
 (repeat refine qA ?_);refine AWp.cutA M ?_ ?_
 ·refine AWp.block (AWp.rounds (fun q st => ∃ cs F e a1 d1 b1, q = (if b1 = true then 0 else T.length - a1 + 1) /\ st.slots 0 = .ptr gr 0 /\ st.slots 2 = .ptr g2 0 /\ st.slots 3 = .ptr g3 0 /\ st.mem g2 = some (.box [.int .i64 0, .int .i64 0, .str ByteArray.empty, .lst true 0 []]) /\ st.mem g3 = some (.box cs) /\ Tr m1 st.mem F (.agg cs) e /\ ¬ F g3 /\ PS gr T a1 d1 b1 st.mem /\ Off gr m1 st.mem /\ (b1 = false -> d1 = d /\ bad = false) /\ ∀ y a2 b2, Run1 (mulsL (sumP k) e) T a1 b1 y a2 b2 -> Run1 (mulP (sumP k)) T a bad y a2 b2) (if b1 = true then 0 else T.length - a1 + 1) ⟨[c0, c1, c2, c3], F, e, a1, d1, b1, rfl, s0, s2, s3, by rw [sm, Mem.set_other (Ne.symm n32)]; exact b22, by rw [sm]; exact set_same _ _ _, by rw [sm]; exact hT3, hT2.fresh hg3, by rw [sm]; exact hP2.off n3 _, by rw [sm]; exact hO2.trans (Off.ext (ext_set hg3 _)), fun h => ⟨hd2 h, by
   cases bad with
   | false => rfl
   | true => rw [hr2.ill (.inl rfl)] at h; cases h⟩, fun y a2 b2 h => mul_run hr2 h⟩ ?_)
  clear s0 s2 s3 sm hT3 hP2 hO2 hT2 hr2 hd2 b22 hg3
  rintro RR q st hRR ⟨cs, F, e, a1, d1, b1, rfl, s0, s2, s3, b2, b3, hTr, hF3, hP2, hO2, hd2, hinv⟩
  (repeat refine qA ?_);refine rA ?_
  simp [s0]
  refine wA ?_
  try simp
  refine c_skip hP2 (ch 42) fun m3 hP3 hO3 => ?_
  try simp
  cases hi : isT (hdT T a1 b1) (ch 42) with
  | false =>
   rw [hi] at hP3
   simp at hP3
   (repeat refine qA ?_);refine fA ?_
   refine eA ?_
   subst hM
   exact ⟨cs, F, e, a1, d1, b1, by simp [s2], by simp [s3], by simpa using hO3 _ _ n2 b2, by simpa using hO3 _ _ n3 b3, by simpa using hTr.off hgr1 hO3, by simpa using hP3, by simpa using hO2.trans hO3, fun h => (hd2 h).1, hinv _ _ _ (muls_exit hf e (not_mark hT hi))⟩
  | true =>
   obtain ⟨rfl, hlt, hmk⟩ := is_mark_at hT hi
   rw [hi] at hP3
   simp at hP3
   obtain ⟨hd3, hbd⟩ := hd2 rfl
   (repeat refine qA ?_);refine tA ?_
   refine kA ?_
   try simp
   (repeat refine qA ?_);refine bA ?_
   refine AWp.gen (fun st => st.slots 0 = .ptr gr 0 /\ st.slots 2 = .ptr g2 0 /\ st.slots 3 = .ptr g3 0 /\ st.mem = m3) ⟨by simp [s0], by simp [s2], by simp [s3], by simp⟩ ?_
   have b23 := hO3 _ _ n2 b2
   have b33 := hO3 _ _ n3 b3
   have hTr3 := hTr.off hgr1 hO3
   have hO13 := hO2.trans hO3
   clear s0 s2 s3 b2 b3 hTr hO2 hP2 hO3
   rintro st ⟨s0, s2, s3, sm⟩
   (repeat refine qA ?_);refine rA ?_
   simp [s0]
   refine wA ?_
   simp [sm]
   refine hA gr T (a1 + 1) d1 false m3 hP3 hT (fun _ => by rw [hd3]; exact hd hbd) _ fun m4 F4 r4 e4 a4 d4 b4 hP4 hO4 hT4 hr4 hd4 => ?_
   obtain ⟨x0, x1, x2, x3, rfl, p0, p1, p2, p3⟩ := hT4.cs
   simp [p0, p1, p2, p3]
   intro g4 hg4
   have b24 := hO4 _ _ n2 b23
   have b34 := hO4 _ _ n3 b33
   have hTr4 := hTr3.off hgr1 hO4
   have n4 : g4 ≠ gr := by rintro rfl; exact hP4.at hg4
   have n42 : g4 ≠ g2 := by rintro rfl; rw [b24] at hg4; cases hg4
   have n43 : g4 ≠ g3 := by rintro rfl; rw [b34] at hg4; cases hg4
   have hE4 := ext_set hg4 (.box [x0, x1, x2, x3])
   have c2 := hE4 _ _ b24
   have c3 := hE4 _ _ b34
   have c4 := set_same m4 g4 (.box [x0, x1, x2, x3])
   have hTa := hTr4.set (hTr4.fresh hg4) (.box [x0, x1, x2, x3])
   have hTb := hT4.set (hT4.fresh hg4) (.box [x0, x1, x2, x3])
   have hPc := hP4.off n4 (.box [x0, x1, x2, x3])
   have hOc := (hO13.trans hO4).trans (Off.ext (gr := gr) hE4)
   have hdis : ∀ g, F g -> ¬ F4 g := fun g h1 h2 => (hTr3.new g h1).2 (hT4.new g h2).1
   have hF43 : ¬ F4 g3 := hT4.not (by rw [b33]; simp)
   have hbase := hTb.base (gr := gr) hO13 hP3.at
   refine AWp.gen (fun st => st.slots 0 = .ptr gr 0 /\ st.slots 2 = .ptr g2 0 /\ st.slots 3 = .ptr g3 0 /\ st.slots 4 = .ptr g4 0 /\ st.mem = m4.set g4 (.box [x0, x1, x2, x3])) ⟨by simp [s0], by simp [s2], by simp [s3], by simp, by simp⟩ ?_
   generalize m4.set g4 (.box [x0, x1, x2, x3]) = m5 at *
   clear s0 s2 s3 sm b24 b34 hE4
   rintro st ⟨s0, s2, s3, s4, sm⟩
   obtain ⟨y0, y1, y2, y3, hcs, q0, q1, q2, q3⟩ := hTa.cs
   cases hcs
   (repeat refine qA ?_);refine AWp.regionN noP (fun i => i == 2) [0, 1, 2, 3, 4] (by kernel_rfl) ?_
   simp [s3, s4, sm, c3, c4, literalA]
   intro gL hgL
   have nL : gL ≠ gr := by rintro rfl; exact hPc.at hgL
   have nL2 : gL ≠ g2 := by rintro rfl; rw [c2] at hgL; cases hgL
   have nL3 : gL ≠ g3 := by rintro rfl; rw [c3] at hgL; cases hgL
   simp [set_at, Ne.symm nL3, c3]
   refine hRR _ (if b4 = true then 0 else T.length - a4 + 1) ?_ ⟨[.int .i64 6, .int .i64 0, .str ⟨#[]⟩, .own gL 2 2], (fun g => F g ∨ F4 g ∨ g = gL), two 6 e e4, a4, d4, b4, rfl, by simp [s0], by simp [s2], by simp [s3], ?_, ?_, ⟨?_, ?_⟩, ?_, ?_, ?_, ?_, ?_⟩
   ·cases b4 with
    | true => simp
    | false =>
     have := hr4.lt (atom_fit hf) hP4.le
     simp
     omega
   ·simp [set_at, Ne.symm n32, Ne.symm nL2, c2]
   ·simp [set_at]; rfl
   ·have e1 := (hTa.set (hTa.fresh hgL) (.arr 26 4 2 [.agg [y0, y1, y2, y3], .agg [x0, x1, x2, x3]])).set (g := g3) hF3 (.box [.int .i64 6, .int .i64 0, .str ⟨#[]⟩, .own gL 2 2])
    have e2 := (hbase.set (hbase.fresh hgL) (.arr 26 4 2 [.agg [y0, y1, y2, y3], .agg [x0, x1, x2, x3]])).set (g := g3) hF43 (.box [.int .i64 6, .int .i64 0, .str ⟨#[]⟩, .own gL 2 2])
    simpa [eE] using own_two e1.own e2.own hdis (E := 26) (gL := gL) (by rw [Mem.set_other nL3]; exact set_same _ _ _) (hTa.fresh hgL) (hbase.fresh hgL) 6
   ·intro g hg
    have hnone : m1 gL = none := off_none hOc hPc.at hgL
    rcases hg with hg | hg | rfl
    ·refine ⟨(hTa.new g hg).1, ?_⟩
     have h1 := (hTa.new g hg).2
     simp [set_at]
     split
     ·simp
     split
     ·simp
     exact h1
    ·refine ⟨(hbase.new g hg).1, ?_⟩
     have h1 := (hbase.new g hg).2
     simp [set_at]
     split
     ·simp
     split
     ·simp
     exact h1
    exact ⟨hnone, by simp [set_at, nL3]⟩
   ·rintro (h | h | h)
    ·exact hF3 h
    ·exact hF43 h
    exact nL3 h.symm
   ·simpa using (hPc.off nL _).off n3 _
   ·have h1 := hOc.trans (Off.ext (gr := gr) (ext_set hgL (.arr 26 4 2 [.agg [y0, y1, y2, y3], .agg [x0, x1, x2, x3]])))
    intro g x hg hx
    have hne : g ≠ g3 := by rintro rfl; rw [n3m] at hx; cases hx
    have := h1 g x hg hx
    simp [set_at, hne] at this ⊢
    exact this
   ·intro h
    exact ⟨(hd4 h).trans hd3, hbd⟩
   exact fun y a2 b2 h => hinv y a2 b2 (muls_step hf hlt hmk hr4 h)
 intro st hst
 subst hM
 obtain ⟨cs, F, e, a1, d1, b1, s2, s3, b2, b3, hTr, hPe, hOe, hde, hre⟩ := hst
 obtain ⟨y0, y1, y2, y3, hcs, q0, q1, q2, q3⟩ := hTr.cs
 cases hcs
 have hF2 : ¬ F g2 := hTr.not (by rw [b1m]; simp)
 (repeat refine qA ?_);refine rA ?_
 simp [s2, s3, b2, b3, q0, q1, q2, q3]
 refine AWp.ret ⟨[.agg [y0, y1, y2, y3]], .agg [y0, y1, y2, y3], st.mem.set g2 (.box [y0, y1, y2, y3]), by simp [Tryz.f97, resA, s2], by simp; exact View.refl _ _, hK _ F _ e a1 d1 b1 (hPe.off n2 _) ?_ ((hTr.set hF2 _).base (gr := gr) (Off.ext hE1) hP1.at) hre hde⟩
 intro g x hg hx
 have hne : g ≠ g2 := by rintro rfl; rw [hg2] at hx; cases hx
 rw [Mem.set_other hne]
 exact hOe g x hg (hE1 _ _ hx)
structure PH (m1 : Mem) (gr : Nat) (T : List Tk) (a : Nat) (d : Int) (bad : Bool) (bs : List (Nat × List AV)) (ts : List ((Nat -> Prop) × AV × Ex)) (m : Mem) : Prop where
 ps : PS gr T a d bad m
 off : Off gr m1 m
 bx : ∀ b ∈ bs, m b.1 = some (.box b.2) /\ b.1 ≠ gr /\ m1 b.1 = none
 bd : bs.Pairwise fun x y => x.1 ≠ y.1
 tr : ∀ t ∈ ts, Tr m1 m t.1 t.2.1 t.2.2 /\ ∀ b ∈ bs, ¬ t.1 b.1
 td : ts.Pairwise fun x y => ∀ g, x.1 g -> ¬ y.1 g
section
variable {m1 m m' : Mem} {gr : Nat} {T : List Tk} {a a' : Nat} {d d' : Int} {bad bad' : Bool} {bs : List (Nat × List AV)} {ts : List ((Nat -> Prop) × AV × Ex)}
theorem PH.box1 (h : PH m1 gr T a d bad bs ts m) {g : Nat} {cs : List AV} (hb : (g, cs) ∈ bs) : m g = some (.box cs) := (h.bx _ hb).1
theorem PH.call (h : PH m1 gr T a d bad bs ts m) (h1 : m1 gr ≠ none) (hO : Off gr m m') (hP : PS gr T a' d' bad' m') : PH m1 gr T a' d' bad' bs ts m' :=
 ⟨hP, h.off.trans hO, fun b hb => ⟨hO _ _ (h.bx b hb).2.1 (h.bx b hb).1, (h.bx b hb).2⟩, h.bd, fun t ht => ⟨(h.tr t ht).1.off h1 hO, (h.tr t ht).2⟩, h.td⟩
theorem PH.tree (h : PH m1 gr T a d bad bs ts m) (h1 : m1 gr ≠ none) (hO : Off gr m m') (hP : PS gr T a' d' bad' m') {F : Nat -> Prop} {r : AV} {e : Ex} (hT : Tr m m' F r e) : PH m1 gr T a' d' bad' bs ((F, r, e) :: ts) m' := by
 have k := h.call h1 hO hP
 refine ⟨k.ps, k.off, k.bx, k.bd, fun t ht => ?_, List.pairwise_cons.2 ⟨fun t ht g hg hq => ?_, k.td⟩⟩
 ·rcases List.mem_cons.1 ht with rfl | ht
  ·exact ⟨hT.base h.off h.ps.at, fun b hb => hT.not (by rw [(h.bx b hb).1]; simp)⟩
  exact k.tr t ht
 exact ((h.tr t ht).1.new g hq).2 (hT.new g hg).1
theorem PH.box (h : PH m1 gr T a d bad bs ts m) (h1 : m1 gr ≠ none) {g : Nat} (hg : m g = none) (cs : List AV) : PH m1 gr T a d bad ((g, cs) :: bs) ts (m.set g (.box cs)) := by
 have hne : g ≠ gr := by rintro rfl; exact h.ps.at hg
 have hE := ext_set hg (.box cs)
 have k := h.call h1 (Off.ext hE) (h.ps.off hne (.box cs))
 refine ⟨k.ps, k.off, fun b hb => ?_, List.pairwise_cons.2 ⟨fun b hb e => ?_, k.bd⟩, fun t ht => ⟨(k.tr t ht).1, fun b hb => ?_⟩, k.td⟩
 ·rcases List.mem_cons.1 hb with rfl | hb
  ·exact ⟨set_same _ _ _, hne, off_none h.off h.ps.at hg⟩
  exact k.bx b hb
 ·have := (h.bx b hb).1
  rw [<- e] at this
  simp only at this
  rw [hg] at this
  cases this
 rcases List.mem_cons.1 hb with rfl | hb
 ·exact (h.tr t ht).1.fresh hg
 exact (k.tr t ht).2 b hb
theorem PH.put {l1 l2 : List (Nat × List AV)} {g : Nat} {cs : List AV} (h : PH m1 gr T a d bad (l1 ++ (g, cs) :: l2) ts m) (cs' : List AV) : PH m1 gr T a d bad (l1 ++ (g, cs') :: l2) ts (m.set g (.box cs')) := by
 have hg := h.bx (g, cs) (by simp)
 have hd := List.pairwise_append.1 h.bd
 have hd2 := List.pairwise_cons.1 hd.2.1
 have ho : ∀ b, b ∈ l1 ∨ b ∈ l2 -> b.1 ≠ g := fun b hb => by
  rcases hb with hb | hb
  ·exact hd.2.2 b hb (g, cs) (by simp)
  exact Ne.symm (hd2.1 b hb)
 refine ⟨h.ps.off hg.2.1 _, fun k x hk hx => ?_, fun b hb => ?_, ?_, fun t ht => ?_, h.td⟩
 ·have hne : k ≠ g := by rintro rfl; rw [hg.2.2] at hx; cases hx
  rw [Mem.set_other hne]
  exact h.off k x hk hx
 ·rcases List.mem_append.1 hb with hb | hb
  ·have := h.bx b (by simp [hb])
   exact ⟨by rw [Mem.set_other (ho b (.inl hb))]; exact this.1, this.2⟩
  rcases List.mem_cons.1 hb with rfl | hb
  ·exact ⟨set_same _ _ _, hg.2⟩
  have := h.bx b (by simp [hb])
  exact ⟨by rw [Mem.set_other (ho b (.inr hb))]; exact this.1, this.2⟩
 ·exact List.pairwise_append.2 ⟨hd.1, List.pairwise_cons.2 ⟨fun b hb => hd2.1 b hb, hd2.2⟩, fun x hx y hy => by
   rcases List.mem_cons.1 hy with rfl | hy
   ·exact hd.2.2 x hx (g, cs) (by simp)
   exact hd.2.2 x hx y (by simp [hy])⟩
 have hT := h.tr t ht
 refine ⟨hT.1.set (hT.2 (g, cs) (by simp)) _, fun b hb => ?_⟩
 rcases List.mem_append.1 hb with hb | hb
 ·exact hT.2 b (by simp [hb])
 rcases List.mem_cons.1 hb with rfl | hb
 ·exact hT.2 (g, cs) (by simp)
 exact hT.2 b (by simp [hb])
theorem PH.less (h : PH m1 gr T a d bad bs ts m) {bs' : List (Nat × List AV)} {ts' : List ((Nat -> Prop) × AV × Ex)} (hb : bs'.Sublist bs) (ht : ts'.Sublist ts) : PH m1 gr T a d bad bs' ts' m :=
 ⟨h.ps, h.off, fun b k => h.bx b (hb.subset k), h.bd.sublist hb, fun t k => ⟨(h.tr t (ht.subset k)).1, fun b q => (h.tr t (ht.subset k)).2 b (hb.subset q)⟩, h.td.sublist ht⟩
theorem PH.fresh (h : PH m1 gr T a d bad bs ts m) (h1 : m1 gr ≠ none) {g : Nat} (hg : m g = none) (b : Blk) : PH m1 gr T a d bad bs ts (m.set g b) := by
 have hne : g ≠ gr := by rintro rfl; exact h.ps.at hg
 exact h.call h1 (Off.ext (ext_set hg b)) (h.ps.off hne b)
theorem PH.lit2 {FA FB : Nat -> Prop} {csA csB : List AV} {eA eB : Ex} (h : PH m1 gr T a d bad bs ((FB, .agg csB, eB) :: (FA, .agg csA, eA) :: ts) m) (h1 : m1 gr ≠ none) {g : Nat} (hg : m g = none) (E : TypeId) (k : Int) :
  ∃ F, PH m1 gr T a d bad bs ((F, .agg [.int .i64 k, .int .i64 0, .str ⟨#[]⟩, .own g 2 2], two k eA eB) :: ts) (m.set g (.arr E 4 2 [.agg csA, .agg csB])) := by
 have q := h.fresh h1 hg (.arr E 4 2 [.agg csA, .agg csB])
 have hB := q.tr (FB, .agg csB, eB) (by simp)
 have hA := q.tr (FA, .agg csA, eA) (by simp)
 have hB0 := h.tr (FB, .agg csB, eB) (by simp)
 have hA0 := h.tr (FA, .agg csA, eA) (by simp)
 have d1 := List.pairwise_cons.1 q.td
 have d2 := List.pairwise_cons.1 d1.2
 refine ⟨fun x => FA x ∨ FB x ∨ x = g, q.ps, q.off, q.bx, q.bd, fun t ht => ?_, List.pairwise_cons.2 ⟨fun t ht x hx hq => ?_, d2.2⟩⟩
 ·rcases List.mem_cons.1 ht with rfl | ht
  ·refine ⟨⟨own_two hA.1.own hB.1.own (fun x h2 h3 => d1.1 (FA, .agg csA, eA) (by simp) x h3 h2) (set_same _ _ _) (hA0.1.fresh hg) (hB0.1.fresh hg) k, fun x hx => ?_⟩, fun b hb hx => ?_⟩
   ·rcases hx with hx | hx | rfl
    ·exact hA.1.new x hx
    ·exact hB.1.new x hx
    exact ⟨off_none h.off h.ps.at hg, by rw [set_same]; simp⟩
   rcases hx with hx | hx | hx
   ·exact hA.2 b hb hx
   ·exact hB.2 b hb hx
   have := (h.bx b hb).1; rw [hx, hg] at this; cases this
  exact q.tr t (by simp [ht])
 rcases hx with hx | hx | rfl
 ·exact d2.1 t ht x hx hq
 ·exact d1.1 t (by simp [ht]) x hx hq
 exact (h.tr t (by simp [ht])).1.fresh hg hq
theorem own_one {m : Mem} {FA : Nat -> Prop} {csA : List AV} {eA : Ex} {E : TypeId} {gL : Nat} (hA : OwnT m FA (.agg csA) eA.av) (hL : m gL = some (.arr E 4 1 [.agg csA])) (nA : ¬ FA gL) (k : Int) (s : ByteArray) :
  OwnT m (fun g => FA g ∨ g = gL) (.agg [.int .i64 k, .int .i64 0, .str s, .own gL 1 1]) (Ex.mk k 0 s [eA]).av := by
 show OwnT m _ _ (.agg (Ex.mk k 0 s [eA]).cells)
 rw [Ex.cells_mk]
 have hown : OwnT m (fun g => FA g ∨ g = gL) (.own gL 1 1) (.lst false 4 [eA.av]) :=
  .own (G := FA) hL rfl (.cons (A := FA) (B := fun _ => False) hA .nil (fun _ _ h => h) (fun _ h => h) (fun _ h => h.elim)) nA (fun _ h => .inl h) (.inr rfl)
 exact .agg (.cons (A := fun _ => False) (B := fun g => FA g ∨ g = gL) (.int _ _) (.cons (A := fun _ => False) (B := fun g => FA g ∨ g = gL) (.int _ _) (.cons (A := fun _ => False) (B := fun g => FA g ∨ g = gL) (.str _) (.cons (A := fun g => FA g ∨ g = gL) (B := fun _ => False) hown .nil (fun _ _ h => h) (fun _ h => h) (fun _ h => h.elim)) (fun _ h => h.elim) (fun _ h => h.elim) (fun _ h => h)) (fun _ h => h.elim) (fun _ h => h.elim) (fun _ h => h)) (fun _ h => h.elim) (fun _ h => h.elim) (fun _ h => h)) rfl
theorem PH.lit1 {FA : Nat -> Prop} {csA : List AV} {eA : Ex} (h : PH m1 gr T a d bad bs ((FA, .agg csA, eA) :: ts) m) (h1 : m1 gr ≠ none) {g : Nat} (hg : m g = none) (E : TypeId) (k : Int) (s : ByteArray) :
  ∃ F, PH m1 gr T a d bad bs ((F, .agg [.int .i64 k, .int .i64 0, .str s, .own g 1 1], Ex.mk k 0 s [eA]) :: ts) (m.set g (.arr E 4 1 [.agg csA])) := by
 have q := h.fresh h1 hg (.arr E 4 1 [.agg csA])
 have hA := q.tr (FA, .agg csA, eA) (by simp)
 have hA0 := h.tr (FA, .agg csA, eA) (by simp)
 have d1 := List.pairwise_cons.1 q.td
 refine ⟨fun x => FA x ∨ x = g, q.ps, q.off, q.bx, q.bd, fun t ht => ?_, List.pairwise_cons.2 ⟨fun t ht x hx hq => ?_, d1.2⟩⟩
 ·rcases List.mem_cons.1 ht with rfl | ht
  ·refine ⟨⟨own_one hA.1.own (set_same _ _ _) (hA0.1.fresh hg) k s, fun x hx => ?_⟩, fun b hb hx => ?_⟩
   ·rcases hx with hx | rfl
    ·exact hA.1.new x hx
    exact ⟨off_none h.off h.ps.at hg, by rw [set_same]; simp⟩
   rcases hx with hx | hx
   ·exact hA.2 b hb hx
   have := (h.bx b hb).1; rw [hx, hg] at this; cases this
  exact q.tr t (by simp [ht])
 rcases hx with hx | rfl
 ·exact d1.1 t ht x hx hq
 exact (h.tr t (by simp [ht])).1.fresh hg hq
theorem own_leaf (m : Mem) (k n : Int) (s : ByteArray) : OwnT m (fun _ => False) (.agg [.int .i64 k, .int .i64 n, .str s, .lst true 0 []]) (Ex.mk k n s []).av := by
 show OwnT m _ _ (.agg (Ex.mk k n s []).cells)
 rw [Ex.cells_mk]
 exact .agg (.cons (A := fun _ => False) (B := fun _ => False) (.int _ _) (.cons (A := fun _ => False) (B := fun _ => False) (.int _ _) (.cons (A := fun _ => False) (B := fun _ => False) (.str _) (.cons (A := fun _ => False) (B := fun _ => False) (.nil _ _ _) .nil (fun _ h _ => h) (fun _ h => h) (fun _ h => h)) (fun _ h _ => h) (fun _ h => h) (fun _ h => h)) (fun _ h _ => h) (fun _ h => h) (fun _ h => h)) (fun _ h _ => h) (fun _ h => h) (fun _ h => h)) rfl
theorem PH.leaf (h : PH m1 gr T a d bad bs ts m) (k n : Int) (s : ByteArray) : PH m1 gr T a d bad bs ((fun _ => False, .agg [.int .i64 k, .int .i64 n, .str s, .lst true 0 []], Ex.mk k n s []) :: ts) m := by
 refine ⟨h.ps, h.off, h.bx, h.bd, fun t ht => ?_, List.pairwise_cons.2 ⟨fun t ht x hx => hx.elim, h.td⟩⟩
 rcases List.mem_cons.1 ht with rfl | ht
 ·exact ⟨⟨own_leaf m k n s, fun _ h => h.elim⟩, fun _ _ h => h⟩
 exact h.tr t ht
theorem PH.fin {m0 : Mem} {g2 : Nat} {cs0 cs : List AV} {F : Nat -> Prop} {e : Ex} (h : PH m1 gr T a d bad bs ((F, .agg cs, e) :: ts) m) (hg2 : (g2, cs0) ∈ bs ∨ (m g2 = some (.box cs0) /\ g2 ≠ gr /\ m0 g2 = none /\ ¬ F g2)) (h0 : Ext m0 m1) (h00 : (g2, cs0) ∈ bs -> m0 g2 = none) (h1 : m1 gr ≠ none) :
  PS gr T a d bad (m.set g2 (.box cs)) /\ Off gr m0 (m.set g2 (.box cs)) /\ Tr m0 (m.set g2 (.box cs)) F (.agg cs) e := by
 have hT := h.tr (F, .agg cs, e) (by simp)
 have hx : g2 ≠ gr /\ m0 g2 = none /\ ¬ F g2 := by
  rcases hg2 with hb | hb
  ·exact ⟨(h.bx _ hb).2.1, h00 hb, hT.2 _ hb⟩
  exact ⟨hb.2.1, hb.2.2.1, hb.2.2.2⟩
 refine ⟨h.ps.off hx.1 _, fun k x hk hx2 => ?_, (hT.1.set hx.2.2 _).base (gr := gr) (Off.ext h0) h1⟩
 have hne : k ≠ g2 := by rintro rfl; rw [hx.2.1] at hx2; cases hx2
 rw [Mem.set_other hne]
 exact h.off k x hk (h0 _ _ hx2)
end
theorem c_takeR {gr : Nat} {T : List Tk} {a : Nat} {d : Int} {bad : Bool} {m : Mem} (h : PS gr T a d bad m) (hT : ∀ t ∈ T, t.fine) (c : UInt8) {K : AV -> Mem -> Prop}
  (hK : ∀ m' a' b', PS gr T a' d b' m' -> Off gr m m' -> Run1 (tkR (ch c)) T a bad () a' b' -> K (.tup []) m') : WCall Tryz.prog 54 [.ptr gr 0, .str (ch c)] m K :=
 c_take h (ch c) fun m' hP hO => hK m' _ _ hP hO (tkR_run hT h.le c _ rfl)
theorem hdT_k {T : List Tk} {a : Nat} {bad : Bool} (h : (hdT T a bad).k ≠ 0) : bad = false /\ ∃ hlt : a < T.length, hdT T a bad = T[a] := by
 cases bad with
 | true => rw [hdT_bad] at h; exact absurd rfl h
 | false =>
  by_cases hlt : a < T.length
  ·exact ⟨rfl, hlt, hdT_at hlt⟩
  rw [hdT_end (by omega)] at h; exact absurd rfl h
theorem isT_word {T : List Tk} (hT : ∀ t ∈ T, t.fine) {a : Nat} {bad : Bool} {s : ByteArray} (hs : 2 <= s.size) (h : isT (hdT T a bad) s = true) : bad = false /\ ∃ hlt : a < T.length, T[a].is 3 s = true := by
 obtain ⟨h1, hlt, h2⟩ := isT_lt h
 unfold isT at h2
 rw [is_word (hT _ (List.getElem_mem hlt)) hs] at h2
 exact ⟨h1, hlt, h2⟩
theorem isT_word_no {T : List Tk} (hT : ∀ t ∈ T, t.fine) {a : Nat} {bad : Bool} {s : ByteArray} (hs : 2 <= s.size) (h : isT (hdT T a bad) s = false) : bad = true ∨ ∀ hlt : a < T.length, T[a].is 3 s = false := by
 cases bad with
 | true => exact .inl rfl
 | false =>
  right
  intro hlt
  rw [hdT_at hlt] at h
  unfold isT at h
  rw [is_word (hT _ (List.getElem_mem hlt)) hs] at h
  exact h
end Go.T
